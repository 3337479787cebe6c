/- Contracts of the laws' copies of parts: toPart, toPartS. Condition: none longer than 4194304. -/
import Derived.Test.YtookcfpiegbafaaGreatDoorGC
namespace Go.Proofs.YtookcfpiegbafaaGreatDoor
open Go.RowKit
set_option maxRecDepth 100000

theorem OwnI.down {lo lo' hi hi' : Nat} {w : World} {v : Value} {xs : List Int} (h : OwnI lo hi w v xs) (h1 : lo' ≤ lo) (h2 : hi ≤ hi') : OwnI lo' hi' w v xs := by
  refine ⟨⟨h.1.1, ?_⟩, fun g hg => by have := h.2 g hg; omega⟩
  rcases h.1.2 with hn | ⟨g, cap, cur, rfl, hb, r⟩
  · exact .inl hn
  · exact .inr ⟨g, cap, cur, rfl, by omega, r⟩

theorem partInfo : (Tryz.prog.info? 47).map (fun i => (i.zero, i.size, i.bytes)) = some (some (.agg #[.int .i64 0, .int .i64 0, .slice none 0 0]), 3, 40) := by kernel_rfl

/-- What a loop that copies parts has written after k rounds. -/
def partP (ps : List Pt) (svs : List Value) : List Value := cellsP (ps.take svs.length) svs ++ (List.replicate (ps.length - svs.length) [Value.int .i64 0, .int .i64 0, .slice none 0 0]).flatten
theorem partP_step (ps : List Pt) (svs : List Value) (sv : Value) (h : svs.length < ps.length) :
    (((partP ps svs).set (svs.length * 3) (.int .i64 (ps.getD svs.length ⟨0, 0, []⟩).kind)).set (svs.length * 3 + 1) (.int .i64 (ps.getD svs.length ⟨0, 0, []⟩).n)).set (svs.length * 3 + 2) sv = partP ps (svs ++ [sv]) := by
  have e : ps.length - svs.length = (ps.length - (svs.length + 1)) + 1 := by omega
  have ht : (ps.take svs.length).length = svs.length := by rw [List.length_take]; omega
  have hl := cellsP_length (ps.take svs.length) svs ht.symm
  rw [ht] at hl
  have hc : cellsP (ps.take (svs.length + 1)) (svs ++ [sv]) = cellsP (ps.take svs.length) svs ++ [.int .i64 (ps.getD svs.length ⟨0, 0, []⟩).kind, .int .i64 (ps.getD svs.length ⟨0, 0, []⟩).n, sv] := by
    rw [List.take_succ_eq_append_getElem h, cellsP_append _ _ _ _ ht.symm]
    simp [cellsP, List.getD, h]
  simp only [partP, List.length_append, List.length_cons, List.length_nil]
  rw [hc, e, List.replicate_succ, List.flatten_cons]
  rw [List.set_append_right _ _ (by omega), List.set_append_right _ _ (by omega), List.set_append_right _ _ (by omega), hl]
  simp
theorem partP_full (ps : List Pt) (svs : List Value) (h : svs.length = ps.length) : partP ps svs = cellsP ps svs := by
  simp [partP, h]
structure Copying (B : Nat) (w wr : World) (ps : List Pt) (svs : List Value) : Prop where
  row : wr.ownsRow B 47 3 (.slice (some ⟨B, 0, none⟩) ps.length ps.length) ps.length (partP ps svs)
  le : svs.length ≤ ps.length
  each : ∀ j, j < svs.length → OwnI (B + 1) wr.heap.size wr (svs.getD j undef) (ps.getD j ⟨0, 0, []⟩).signs
  apart : ∀ i j, i < j → j < svs.length → (svs.getD i undef).ownBlock = none ∨ (svs.getD i undef).ownBlock ≠ (svs.getD j undef).ownBlock
  old : Below B w wr
  size : B < wr.heap.size

theorem Copying.step {B : Nat} {w wr w1 : World} {ps : List Pt} {svs : List Value} {sv : Value} (h : Copying B w wr ps svs) (hk : svs.length < ps.length)
    (o1 : OwnI wr.heap.size w1.heap.size w1 sv (ps.getD svs.length ⟨0, 0, []⟩).signs) (b1 : Below wr.heap.size wr w1) :
    Copying B w (((w1.setCell ⟨B, svs.length * 3, none⟩ (.int .i64 (ps.getD svs.length ⟨0, 0, []⟩).kind)).setCell ⟨B, svs.length * 3 + 1, none⟩ (.int .i64 (ps.getD svs.length ⟨0, 0, []⟩).n)).setCell ⟨B, svs.length * 3 + 2, none⟩ sv) ps (svs ++ [sv]) := by
  have hB := h.size
  have hr1 := World.ownsRow.below h.row b1
  have hr2 := (hr1.stored (svs.length * 3) (.int .i64 (ps.getD svs.length ⟨0, 0, []⟩).kind)).1
  have hr3 := (hr2.stored (svs.length * 3 + 1) (.int .i64 (ps.getD svs.length ⟨0, 0, []⟩).n)).1
  have hr4 := (hr3.stored (svs.length * 3 + 2) sv).1
  rw [partP_step ps svs sv hk] at hr4
  have hw : Within B (B + 1) w1 (((w1.setCell ⟨B, svs.length * 3, none⟩ (.int .i64 (ps.getD svs.length ⟨0, 0, []⟩).kind)).setCell ⟨B, svs.length * 3 + 1, none⟩ (.int .i64 (ps.getD svs.length ⟨0, 0, []⟩).n)).setCell ⟨B, svs.length * 3 + 2, none⟩ sv) :=
    (((Within.refl _ _ _).set (Nat.le_refl _) (by omega) _ _).set (Nat.le_refl _) (by omega) _ _).set (Nat.le_refl _) (by omega) _ _
  have hs := b1.size
  refine ⟨hr4, by simp; omega, fun j hj => ?_, fun i j hij hj => ?_, (h.old.trans (b1.mono (by omega))).trans (hw.below (Nat.le_refl _)), by rw [hw.size]; omega⟩
  · rw [hw.size]
    by_cases hjk : j < svs.length
    · have e : (svs ++ [sv]).getD j undef = svs.getD j undef := by simp [List.getD, List.getElem?_append_left hjk]
      rw [e]
      exact (((h.each j hjk).below b1).within hw (.inr (by omega))).down (Nat.le_refl _) hs
    · have hj' : j = svs.length := by simp at hj; omega
      subst hj'
      have e : (svs ++ [sv]).getD svs.length undef = sv := by simp [List.getD]
      rw [e]
      exact (o1.within hw (.inr (by omega))).down (by omega) (Nat.le_refl _)
  · have hi : i < svs.length := by simp at hj; omega
    have ei : (svs ++ [sv]).getD i undef = svs.getD i undef := by simp [List.getD, List.getElem?_append_left hi]
    by_cases hjk : j < svs.length
    · have e : (svs ++ [sv]).getD j undef = svs.getD j undef := by simp [List.getD, List.getElem?_append_left hjk]
      rw [ei, e]
      exact h.apart i j hij hjk
    · have hj' : j = svs.length := by simp at hj; omega
      subst hj'
      have e : (svs ++ [sv]).getD svs.length undef = sv := by simp [List.getD]
      rw [ei, e]
      cases hg : (svs.getD i undef).ownBlock with
      | none => exact .inl rfl
      | some g =>
        refine .inr fun e2 => ?_
        have h1 := (h.each i hi).2 g hg
        have h2 := (o1.1.lt g e2.symm).1
        omega

theorem madeParts (n : Nat) : (madeCells #[Value.int .i64 0, .int .i64 0, .slice none 0 0] (n * 3)).toList = (List.replicate n [Value.int .i64 0, .int .i64 0, .slice none 0 0]).flatten := by
  have h : ∀ k, (madeCells #[Value.int .i64 0, .int .i64 0, .slice none 0 0] k).toList = (List.range k).map fun j => (#[Value.int .i64 0, .int .i64 0, .slice none 0 0] : Array Value)[j % 3]! := fun k => by
    simp [madeCells, List.range]
  rw [h]
  induction n with
  | zero => simp
  | succ n ih =>
    rw [show (n + 1) * 3 = n * 3 + 1 + 1 + 1 by omega, List.range_succ, List.range_succ, List.range_succ, List.replicate_succ', List.flatten_append, ← ih]
    have e0 : n * 3 % 3 = 0 := by omega
    have e1 : (n * 3 + 1) % 3 = 1 := by omega
    have e2 : (n * 3 + 1 + 1) % 3 = 2 := by omega
    simp [e0, e1, e2]

theorem getElem?_of_lt {l : List Value} {j : Nat} (h : j < l.length) : ∃ u, l[j]? = some u := ⟨l[j], List.getElem?_eq_getElem h⟩

end Go.Proofs.YtookcfpiegbafaaGreatDoor
