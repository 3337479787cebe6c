/- Contracts of the laws' copies of parts: toPart, toPartS. Condition: none longer than 4194304. -/
import Derived.Test.YtofbcccpailbhaaDoorSizes
namespace Go.Proofs.YtofbcccpailbhaaDoor
open Go.RowKit
set_option maxRecDepth 100000

theorem OwnI.down {lo lo' hi hi' : Nat} {w : World} {v : Value} {xs : List Int} (h : OwnI lo hi w v xs) (h1 : lo' ≤ lo) (h2 : hi ≤ hi') : OwnI lo' hi' w v xs := by
  refine ⟨⟨h.1.1, ?_⟩, fun g hg => by have := h.2 g hg; omega⟩
  rcases h.1.2 with hn | ⟨g, cap, cur, rfl, hb, r⟩
  · exact .inl hn
  · exact .inr ⟨g, cap, cur, rfl, by omega, r⟩

/-- What a loop that copies parts has written after k rounds. -/
def partP (ps : List Pt) (svs : List Value) : List Value := cellsP (ps.take svs.length) svs ++ (List.replicate (ps.length - svs.length) [Value.int .i64 0, .int .i64 0, .slice none 0 0]).flatten
theorem partP_step (ps : List Pt) (svs : List Value) (sv : Value) (h : svs.length < ps.length) :
    (((partP ps svs).set (svs.length * 3) (.int .i64 (ps.getD svs.length ⟨0, 0, []⟩).kind)).set (svs.length * 3 + 1) (.int .i64 (ps.getD svs.length ⟨0, 0, []⟩).n)).set (svs.length * 3 + 2) sv = partP ps (svs ++ [sv]) := by
  have e : ps.length - svs.length = (ps.length - (svs.length + 1)) + 1 := by omega
  have ht : (ps.take svs.length).length = svs.length := by rw [List.length_take]; omega
  have hl := cellsP_length (ps.take svs.length) svs ht.symm
  rw [ht] at hl
  have hc : cellsP (ps.take (svs.length + 1)) (svs ++ [sv]) = cellsP (ps.take svs.length) svs ++ [.int .i64 (ps.getD svs.length ⟨0, 0, []⟩).kind, .int .i64 (ps.getD svs.length ⟨0, 0, []⟩).n, sv] := by
    rw [List.take_succ_eq_append_getElem h, cellsP_append _ _ _ _ ht.symm]
    simp [cellsP, List.getD, h]
  simp only [partP, List.length_append, List.length_cons, List.length_nil]
  rw [hc, e, List.replicate_succ, List.flatten_cons]
  rw [List.set_append_right _ _ (by omega), List.set_append_right _ _ (by omega), List.set_append_right _ _ (by omega), hl]
  simp
theorem partP_full (ps : List Pt) (svs : List Value) (h : svs.length = ps.length) : partP ps svs = cellsP ps svs := by
  simp [partP, h]
end Go.Proofs.YtofbcccpailbhaaDoor
