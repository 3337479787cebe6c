/- Contracts of the functions that read a list of characters. Condition: the list is no longer than any slice can be. -/
import Derived.Test.YtookcfpiegbafaaGreatDoorSign
namespace Go.Proofs.YtookcfpiegbafaaGreatDoor
open Go.RowKit
set_option maxRecDepth 100000

theorem all_take_succ {α : Type} (p : α → Bool) (l : List α) (d : α) (k : Nat) (h : k < l.length) : (l.take (k + 1)).all p = ((l.take k).all p && p (l.getD k d)) := by
  rw [List.take_succ_eq_append_getElem h, List.all_append]
  simp [List.getD, h]
theorem all_false_of {α : Type} {p : α → Bool} {l : List α} {d : α} {k : Nat} (h : k < l.length) (hp : p (l.getD k d) = false) : l.all p = false := by
  rw [List.all_eq_false]
  exact ⟨l[k], List.getElem_mem h, by simpa [List.getD, h] using hp⟩

set_option maxHeartbeats 400000 in
theorem signsOk_i (B : Nat) (v : Value) (xs : List Int) (w : World) (h : SliceInts B w v xs) (hl : xs.length ≤ maxLen) :
    Calls Tryz.prog 67 #[v] w fun e w' => e = .returned (.bool (Pl.signsOk xs)) ∧ w = w' := by
  unfold maxLen at hl
  obtain ⟨A, c, rfl, -, h⟩ := h
  go_enter Tryz.func67, Tryz.ntmps67
  go_wp2
  go_loop [7] (fun i => ∃ k : Nat, k ≤ xs.length ∧ i = .int .i64 k ∧ Pl.signsOk (xs.take k) = true) (fun i => xs.length - (intOf i).toNat)
  case atStart => exact ⟨0, Nat.zero_le _, rfl, rfl⟩
  case round =>
    obtain ⟨k, hk, rfl, hs⟩ := hrel
    by_cases hlt : k < xs.length
    · obtain ⟨b, off, rfl, _, hc⟩ := h k hlt
      by_cases hok : Pl.signOk (xs.getD k 0) = true
      · have hs' : Hid (Pl.signsOk (xs.take (k + 1)) = true) := by
          show Pl.signsOk (xs.take (k + 1)) = true
          unfold Pl.signsOk at hs ⊢
          rw [all_take_succ _ _ 0 _ hlt, hs, hok]; rfl
        generalize xs.getD k 0 = x at hc hok
        clear hs h
        go_wp2_with (go_at_call 87; refine (signOk_i _ _).mono ?_; rintro e w' ⟨rfl, rfl⟩)
        go_round
        case rel => exact ⟨k + 1, by omega, by go_num, hs'.out⟩
        case measure => simp [intOf]; omega
      · have hf : Hid (Pl.signsOk xs = false) := all_false_of (d := 0) hlt (by simpa using hok)
        replace hok : Pl.signOk (xs.getD k 0) = false := by simpa using hok
        generalize xs.getD k 0 = x at hc hok
        clear hs h
        go_wp2_with (go_at_call 87; refine (signOk_i _ _).mono ?_; rintro e w' ⟨rfl, rfl⟩)
        go_ret
        exact ⟨by rw [hf.out]; rfl, rfl⟩
    · have hf : Hid (Pl.signsOk xs = true) := by
        show Pl.signsOk xs = true
        rw [List.take_of_length_le (by omega)] at hs; exact hs
      clear hs h
      go_wp2
      go_ret
      exact ⟨by rw [hf.out]; rfl, rfl⟩
set_option maxHeartbeats 400000 in
theorem signsOk_s (B : Nat) (v : Value) (xs : List Int) (w : World) (h : SliceInts B w v xs) (hl : xs.length ≤ maxLen) :
    Calls Tryz.prog 74 #[v] w fun e w' => e = .returned (.bool (Pl.signsOk xs)) ∧ w = w' := by
  unfold maxLen at hl
  obtain ⟨A, c, rfl, -, h⟩ := h
  go_enter Tryz.func74, Tryz.ntmps74
  go_wp2
  go_loop [7] (fun i => ∃ k : Nat, k ≤ xs.length ∧ i = .int .i64 k ∧ Pl.signsOk (xs.take k) = true) (fun i => xs.length - (intOf i).toNat)
  case atStart => exact ⟨0, Nat.zero_le _, rfl, rfl⟩
  case round =>
    obtain ⟨k, hk, rfl, hs⟩ := hrel
    by_cases hlt : k < xs.length
    · obtain ⟨b, off, rfl, _, hc⟩ := h k hlt
      by_cases hok : Pl.signOk (xs.getD k 0) = true
      · have hs' : Hid (Pl.signsOk (xs.take (k + 1)) = true) := by
          show Pl.signsOk (xs.take (k + 1)) = true
          unfold Pl.signsOk at hs ⊢
          rw [all_take_succ _ _ 0 _ hlt, hs, hok]; rfl
        generalize xs.getD k 0 = x at hc hok
        clear hs h
        go_wp2_with (go_at_call 55; refine (signOk_s _ _).mono ?_; rintro e w' ⟨rfl, rfl⟩)
        go_round
        case rel => exact ⟨k + 1, by omega, by go_num, hs'.out⟩
        case measure => simp [intOf]; omega
      · have hf : Hid (Pl.signsOk xs = false) := all_false_of (d := 0) hlt (by simpa using hok)
        replace hok : Pl.signOk (xs.getD k 0) = false := by simpa using hok
        generalize xs.getD k 0 = x at hc hok
        clear hs h
        go_wp2_with (go_at_call 55; refine (signOk_s _ _).mono ?_; rintro e w' ⟨rfl, rfl⟩)
        go_ret
        exact ⟨by rw [hf.out]; rfl, rfl⟩
    · have hf : Hid (Pl.signsOk xs = true) := by
        show Pl.signsOk xs = true
        rw [List.take_of_length_le (by omega)] at hs; exact hs
      clear hs h
      go_wp2
      go_ret
      exact ⟨by rw [hf.out]; rfl, rfl⟩

end Go.Proofs.YtookcfpiegbafaaGreatDoor
