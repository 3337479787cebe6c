/- Contracts of Keeping: one part that keeps n, or none. Condition: none. -/
import Derived.Test.YtookcfpiegbafaaGreatDoorMarks
import Derived.Test.YtookcfpiegbafaaGreatDoorGB
namespace Go.Proofs.YtookcfpiegbafaaGreatDoor
open Go.RowKit
set_option maxRecDepth 100000

theorem own_one (w : World) (k n : Int) : OwnP w.heap.size (w.alloc (.cells #[.int .i64 k, .int .i64 n, .slice none 0 0] 47)).heap.size (w.alloc (.cells #[.int .i64 k, .int .i64 n, .slice none 0 0] 47))
    (.slice (some ⟨w.heap.size, 0, none⟩) 1 1) [⟨k, n, []⟩] [.slice none 0 0] := by
  refine ⟨World.ownsRow_lit w #[.int .i64 k, .int .i64 n, .slice none 0 0] 1 (Nat.le_refl _) (by unfold maxLen; omega) rfl, fun g hg => ?_, rfl, fun j hj => ?_, fun i j hij hj => ?_⟩
  · simp [Value.ownBlock] at hg
    simp
    omega
  · obtain rfl : j = 0 := by simpa using hj
    exact ⟨World.ownsRow_nil _ _ _ _, fun g hg => by simp [Value.ownBlock] at hg⟩
  · simp at hj
    omega

theorem keeping_small (n k : Int) (h0 : 0 ≤ k) (h1 : k ≤ 70368744177664) : Pl.small (Pl.keeping n) k := by
  rw [Pl.keeping]
  split
  · exact ⟨h0, by simp, by simp, h1⟩
  · exact ⟨h0, by simp, by simp, h1⟩
set_option maxHeartbeats 400000 in
theorem keeping_i (n : Int) (w : World) : Calls Tryz.prog 15 #[.int .i64 n] w fun e w' => ∃ v svs, e = .returned v ∧ OwnP w.heap.size w'.heap.size w' v (Pl.keeping n) svs ∧ Below w.heap.size w w' := by
  by_cases h : 1 ≤ n ∧ n ≤ 200
  · have hk := Lib.hid (show Pl.keeping n = [⟨1, n, []⟩] by rw [Pl.keeping, if_pos h])
    have H := Lib.hid h
    clear h
    go_enter Tryz.func15, Tryz.ntmps15
    go_wp2_with (go_at_call 46; refine (within_yes H.out _).mono ?_; rintro e w' ⟨rfl, rfl⟩)
    go_ret
    exact ⟨_, _, rfl, by rw [hk.out]; exact own_one w 1 n, (Below.refl _ _).alloc (Nat.le_refl _) _⟩
  · have hk := Lib.hid (show Pl.keeping n = [] by rw [Pl.keeping, if_neg h])
    have H := Lib.hid h
    clear h
    go_enter Tryz.func15, Tryz.ntmps15
    go_wp2_with (go_at_call 46; refine (within_no H.out _).mono ?_; rintro e w' ⟨rfl, rfl⟩)
    go_ret
    exact ⟨_, _, rfl, by rw [hk.out]; exact OwnP.nil _ _ _, Below.refl _ _⟩
end Go.Proofs.YtookcfpiegbafaaGreatDoor
