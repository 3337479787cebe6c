/- Contracts of PutAt and DropAt: the walks. Condition: none longer than any slice can be. -/
import Derived.Test.YtookcfpiegbafaaGreatDoorPlace
namespace Go.Proofs.YtookcfpiegbafaaGreatDoor
open Go.RowKit
set_option maxRecDepth 100000

theorem wf_i64 {a : Int} (h : (Lit.int .i64 a).wf = true) : -9223372036854775808 ≤ a ∧ a ≤ 9223372036854775807 := by
  simpa [Lit.wf, IntKind.min, IntKind.max, IntKind.bits, IntKind.signed] using h
theorem OwnP.lower {lo lo' hi : Nat} {w : World} {v : Value} {ps : List Pt} {svs : List Value} (h : OwnP lo hi w v ps svs) (hl : lo' ≤ lo) : OwnP lo' hi w v ps svs :=
  ⟨World.ownsRow.base h.row fun g hg => Nat.le_trans hl (h.row.lt g hg).1, h.top, h.len, fun k hk => ⟨World.ownsRow.base (h.each k hk).1 fun g hg => Nat.le_trans hl ((h.each k hk).1.lt g hg).1, (h.each k hk).2⟩, h.apart⟩
/-- A literal of parts. -/
theorem parts_lit {B : Nat} {w : World} {g : Nat} {ps : List Pt} {svs : List Value} (hb : w.heap[g]? = some (.cells (cellsP ps svs).toArray 47 (0, 0))) (hg : g < B) (hl : svs.length = ps.length)
    (hs : ∀ k, k < ps.length → SliceInts B w (svs.getD k undef) (ps.getD k ⟨0, 0, []⟩).signs) (hm : ps.length ≤ maxLen) : SliceParts B w (.slice (some ⟨g, 0, none⟩) ps.length ps.length) ps := by
  refine ⟨_, _, rfl, ⟨Nat.le_refl _, hm⟩, fun k hk => ?_⟩
  obtain ⟨a0, a1, a2⟩ := cellsP_at ps svs k hl hk
  refine ⟨g, 0, _, rfl, hg, ?_, ?_, ?_, hs k hk⟩
  · rw [cell_of_row w g _ _ _ _ hb]; simpa using a0
  · rw [cell_of_row w g _ _ _ _ hb]; simpa using a1
  · rw [cell_of_row w g _ _ _ _ hb]; simpa using a2
theorem sliceInts_nil (B : Nat) (w : World) : SliceInts B w (.slice none 0 0) [] := ⟨none, 0, rfl, ⟨Nat.le_refl _, Nat.zero_le _⟩, fun _ hk => absurd hk (Nat.not_lt_zero _)⟩
theorem place_no {n a many : Int} {l : List Int} (h : Pl.placeOk n a l many = false) : Pl.place n a l many = [] := by rw [Pl.place, if_neg (by rw [h]; decide)]
theorem place_yes {n a many : Int} {l : List Int} (h : Pl.placeOk n a l many = true) : Pl.place n a l many = Pl.norm (Pl.placeO n a l many) := by rw [Pl.place, if_pos h]
theorem place_small (n a : Int) (l : List Int) (many k : Int) (h0 : 0 ≤ k) (h1 : k ≤ 70368744177664) : Pl.small (Pl.place n a l many) k := by
  rw [Pl.place]
  split
  · rename_i h
    have := (Pl.placeOk_iff n a l many).1 h
    exact opOk_small this.2.2.2.2.2 h0 h1
  · exact ⟨h0, by simp, by simp, h1⟩

end Go.Proofs.YtookcfpiegbafaaGreatDoor
