/- Contracts of the laws' comparisons of parts, where both read the same: eqPart, eqPartS. Condition: none longer than 4194304. -/
import Derived.Test.YtookcfpiegbafaaGreatDoorToParts
import Derived.StillTailTactics
namespace Go.Proofs.YtookcfpiegbafaaGreatDoor
open Go.RowKit
set_option maxRecDepth 100000

set_option maxHeartbeats 800000 in
theorem eqPart_b (v v' : Value) (p : Pt) (w : World) (h : PartV w.heap.size w v p) (h' : PartV w.heap.size w v' p) :
    Calls Tryz.prog 31 #[v, v'] w fun e w' => e = .returned (.bool true) ∧ Below w.heap.size w w' := by
  obtain ⟨sv, rfl, hs⟩ := h
  obtain ⟨sv', rfl, hs'⟩ := h'
  have hs0 := hs
  have hs0' := hs'
  obtain ⟨A, c, rfl, -, -⟩ := hs
  obtain ⟨A', c', rfl, -, -⟩ := hs'
  have hW : ∀ (a b : Obj), Below w.heap.size w ((w.alloc a).alloc b) := fun a b => ((Below.refl _ _).alloc (Nat.le_refl _) a).alloc (by simp) b
  go_enter Tryz.func31, Tryz.ntmps31
  go_wp2_with (fail)
  refine (eqIntS_b _ _ _ p.signs p.signs _ (hs0.later (hW _ _)) (hs0'.later (hW _ _)) hs0.len).mono ?_
  rintro e w1 ⟨rfl, b1⟩
  go_wp2_with (fail)
  go_ret
  exact ⟨rfl, (hW _ _).trans (b1.mono (by simp; omega))⟩

set_option maxHeartbeats 1000000 in
theorem eqPartS_b (v v' : Value) (ps : List Pt) (w : World) (h : SliceParts w.heap.size w v ps) (h' : SliceParts w.heap.size w v' ps) :
    Calls Tryz.prog 7 #[v, v'] w fun e w' => e = .returned (.bool true) ∧ Below w.heap.size w w' := by
  have hl := h.len
  unfold maxLen at hl
  obtain ⟨A, c, rfl, -, h⟩ := h
  obtain ⟨A', c', rfl, -, h'⟩ := h'
  obtain ⟨B, hB⟩ : ∃ B, B = w.heap.size := ⟨_, rfl⟩
  have HB := Lib.hid hB
  rw [← hB] at h h'
  clear hB
  go_enter Tryz.func7, Tryz.ntmps7
  go_wp2
  go_loopw [5] (fun i wr => ∃ k : Nat, k ≤ ps.length ∧ i = .int .i64 k ∧ Below B w wr ∧ B ≤ wr.heap.size ∧ PartsAt B wr A ps ∧ PartsAt B wr A' ps) (fun i _ => ps.length - (intOf i).toNat)
  case atStart => exact ⟨0, Nat.zero_le _, rfl, Below.refl _ _, by rw [HB.out]; exact Nat.le_refl _, h, h'⟩
  case round =>
    clear h h'
    obtain ⟨k, hk, rfl, hb, hBs, hr, hr'⟩ := hrel
    by_cases hlt : k < ps.length
    · obtain ⟨b, off, sv, rfl, hbB, c0, c1, c2, hs⟩ := hr k hlt
      obtain ⟨b', off', sv', rfl, hbB', c0', c1', c2', hs'⟩ := hr' k hlt
      have Hr := Lib.hid hr
      have Hr' := Lib.hid hr'
      have Hb := Lib.hid hb
      clear hr hr' hb
      generalize ps.getD k ⟨0, 0, []⟩ = p at c0 c1 hs c0' c1' hs'
      go_wp2
      go_still_tail 8, (by kernel_rfl)
      go_wp2_with (fail)
      refine (eqPart_b _ _ p wr.drew ⟨sv, rfl, hs.mono hBs⟩ ⟨sv', rfl, hs'.mono hBs⟩).mono ?_
      rintro e w1 ⟨rfl, b1⟩
      have hb1 : Below B wr w1 := (Below.refl B wr).drew.trans (b1.mono hBs)
      go_wp2
      go_roundw
      case rel => exact ⟨k + 1, by omega, by go_num, Hb.out.trans hb1, Nat.le_trans hBs hb1.size, Hr.out.below hb1, Hr'.out.below hb1⟩
      case measure => simp [intOf]; omega
    · clear hr hr'
      go_wp2
      go_ret
      exact ⟨rfl, by rw [← HB.out]; exact hb⟩
end Go.Proofs.YtookcfpiegbafaaGreatDoor
