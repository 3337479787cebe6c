/- Contracts of the functions that hold two lists of ints against each other. Condition: none longer than any slice can be. -/
import Derived.Test.YtookcfpiegbafaaGreatDoorSigns
import Derived.Deep.QuietTactic
import Derived.BigQuiet
import Derived.WalkSmall
import Derived.Lib.Hide
namespace Go.Proofs.YtookcfpiegbafaaGreatDoor
open Go.RowKit
set_option maxRecDepth 100000

theorem textOk_i (B : Nat) (v : Value) (xs : List Int) (w : World) (h : SliceInts B w v xs) (hl : xs.length ≤ maxLen) :
    Calls Tryz.prog 38 #[v] w fun e w' => e = .returned (.bool (Pl.textOk xs)) ∧ w = w' := by
  have h0 := h
  obtain ⟨A, c, rfl, -, -⟩ := h
  by_cases h2 : xs.length ≤ 200
  · go_enter Tryz.func38, Tryz.ntmps38
    go_wp2_with (go_at_call 67; refine (signsOk_i B _ _ _ h0 hl).mono ?_; rintro e w' ⟨rfl, rfl⟩)
    all_goals go_ret
    all_goals exact ⟨by simp [Pl.textOk, h2], rfl⟩
  · go_enter Tryz.func38, Tryz.ntmps38
    go_wp2_with (go_at_call 67; refine (signsOk_i B _ _ _ h0 hl).mono ?_; rintro e w' ⟨rfl, rfl⟩)
    all_goals go_ret
    all_goals exact ⟨by simp [Pl.textOk]; omega, rfl⟩
theorem drewN2 (w : World) (a b : Nat) : (w.drewN a).drewN b = w.drewN (a + b) := by
  simp [World.drewN, Nat.add_assoc]
theorem take_eq_step {xs ys : List Int} {k : Nat} (hx : k < xs.length) (hy : k < ys.length) (h : xs.take k = ys.take k) (he : xs.getD k 0 = ys.getD k 0) : xs.take (k + 1) = ys.take (k + 1) := by
  rw [List.take_succ_eq_append_getElem hx, List.take_succ_eq_append_getElem hy, h]
  simp [List.getD, hx, hy] at he
  rw [he]
theorem ne_of_at {xs ys : List Int} {k : Nat} (he : xs.getD k 0 ≠ ys.getD k 0) : xs ≠ ys := fun e => he (by rw [e])

set_option maxHeartbeats 800000 in
theorem eqIntS_l (B : Nat) (v v' : Value) (xs ys : List Int) (w : World) (h : SliceInts B w v xs) (h' : SliceInts B w v' ys) (hl : xs.length ≤ maxLen) :
    Calls Tryz.prog 62 #[v, v'] w fun e w' => e = .returned (.bool (decide (xs = ys))) ∧ ∃ n, w' = w.drewN n := by
  unfold maxLen at hl
  obtain ⟨A, c, rfl, -, h⟩ := h
  obtain ⟨A', c', rfl, -, h'⟩ := h'
  by_cases hlen : xs.length = ys.length
  · go_enter Tryz.func62, Tryz.ntmps62
    rw [← hlen]
    have H2 := Lib.hid hlen
    clear hlen
    go_wp2
    go_loopw [5] (fun i wr => ∃ k : Nat, k ≤ xs.length ∧ i = .int .i64 k ∧ xs.take k = ys.take k ∧ ∃ n, wr = w.drewN n) (fun i _ => xs.length - (intOf i).toNat)
    case atStart => exact ⟨0, Nat.zero_le _, rfl, rfl, 0, rfl⟩
    case round =>
      obtain ⟨k, hk, rfl, hs, n, rfl⟩ := hrel
      by_cases hlt : k < xs.length
      · obtain ⟨b, off, rfl, _, hc⟩ := h k hlt
        obtain ⟨b', off', rfl, _, hc'⟩ := h' k (by have := H2.out; omega)
        by_cases he : xs.getD k 0 = ys.getD k 0
        · have hs' := Lib.hid (take_eq_step hlt (by have := H2.out; omega) hs he)
          rw [← he] at hc'
          generalize xs.getD k 0 = x at hc hc'
          clear hs h h' he
          go_wp2
          go_quiet (fail)
          go_wp2
          go_roundw
          case rel => exact ⟨k + 1, by omega, by go_num, hs'.out, _, by first | rfl | exact drewN2 _ _ _⟩
          case measure => simp [intOf]; omega
        · have hf := Lib.hid (ne_of_at he)
          have he' : (xs.getD k 0 == ys.getD k 0) = false := by simpa using he
          generalize xs.getD k 0 = x at hc he'
          generalize ys.getD k 0 = y at hc' he'
          clear hs h h' he
          go_wp2
          go_quiet (fail)
          go_wp2
          go_ret
          exact ⟨by simp [hf.out], _, by first | rfl | exact drewN2 _ _ _⟩
      · have hf : Hid (xs = ys) := by
          show xs = ys
          have := H2.out; rw [List.take_of_length_le (by omega), List.take_of_length_le (by omega)] at hs; exact hs
        clear hs h h'
        go_wp2
        go_ret
        exact ⟨by simp [hf.out], _, by first | rfl | exact drewN2 _ _ _⟩
  · have hf : ¬ xs = ys := fun e => hlen (by rw [e])
    have hb : (((xs.length : Nat) : Int) == ((ys.length : Nat) : Int)) = false := beq_eq_false_iff_ne.2 (by omega)
    go_enter Tryz.func62, Tryz.ntmps62
    go_wp2
    go_ret
    exact ⟨by simp [hf], 0, rfl⟩
set_option maxHeartbeats 800000 in
theorem equal_lib (B : Nat) (v v' : Value) (xs ys : List Int) (w : World) (h : SliceInts B w v xs) (h' : SliceInts B w v' ys) (hl : xs.length ≤ maxLen) :
    Calls Tryz.prog 47 #[v, v'] w fun e w' => e = .returned (.bool (decide (xs = ys))) ∧ ∃ n, w' = w.drewN n := by
  unfold maxLen at hl
  obtain ⟨A, c, rfl, -, h⟩ := h
  obtain ⟨A', c', rfl, -, h'⟩ := h'
  by_cases hlen : xs.length = ys.length
  · go_enter Tryz.func47, Tryz.ntmps47
    rw [← hlen]
    have H2 := Lib.hid hlen
    clear hlen
    go_wp2
    go_loopw [13] (fun i wr => ∃ k : Nat, k ≤ xs.length ∧ i = .int .i64 k ∧ xs.take k = ys.take k ∧ ∃ n, wr = w.drewN n) (fun i _ => xs.length - (intOf i).toNat)
    case atStart => exact ⟨0, Nat.zero_le _, rfl, rfl, 0, rfl⟩
    case round =>
      obtain ⟨k, hk, rfl, hs, n, rfl⟩ := hrel
      by_cases hlt : k < xs.length
      · obtain ⟨b, off, rfl, _, hc⟩ := h k hlt
        obtain ⟨b', off', rfl, _, hc'⟩ := h' k (by have := H2.out; omega)
        by_cases he : xs.getD k 0 = ys.getD k 0
        · have hs' := Lib.hid (take_eq_step hlt (by have := H2.out; omega) hs he)
          rw [← he] at hc'
          generalize xs.getD k 0 = x at hc hc'
          clear hs h h' he
          go_wp2
          go_quiet (fail)
          go_wp2
          go_roundw
          case rel => exact ⟨k + 1, by omega, by go_num, hs'.out, _, by first | rfl | exact drewN2 _ _ _⟩
          case measure => simp [intOf]; omega
        · have hf := Lib.hid (ne_of_at he)
          have he' : (xs.getD k 0 == ys.getD k 0) = false := by simpa using he
          generalize xs.getD k 0 = x at hc he'
          generalize ys.getD k 0 = y at hc' he'
          clear hs h h' he
          go_wp2
          go_quiet (fail)
          go_wp2
          go_ret
          exact ⟨by simp [hf.out], _, by first | rfl | exact drewN2 _ _ _⟩
      · have hf : Hid (xs = ys) := by
          show xs = ys
          have := H2.out; rw [List.take_of_length_le (by omega), List.take_of_length_le (by omega)] at hs; exact hs
        clear hs h h'
        go_wp2
        go_ret
        exact ⟨by simp [hf.out], _, by first | rfl | exact drewN2 _ _ _⟩
  · have hf : ¬ xs = ys := fun e => hlen (by rw [e])
    have hb : (((xs.length : Nat) : Int) == ((ys.length : Nat) : Int)) = false := beq_eq_false_iff_ne.2 (by omega)
    go_enter Tryz.func47, Tryz.ntmps47
    go_wp2
    go_ret
    exact ⟨by simp [hf], 0, rfl⟩
set_option maxHeartbeats 800000 in
theorem signsSame_s (B : Nat) (v v' : Value) (xs ys : List Int) (w : World) (h : SliceInts B w v xs) (h' : SliceInts B w v' ys) (hl : xs.length ≤ maxLen) :
    Calls Tryz.prog 78 #[v, v'] w fun e w' => e = .returned (.bool (decide (xs = ys))) ∧ ∃ n, w' = w.drewN n := by
  unfold maxLen at hl
  obtain ⟨A, c, rfl, -, h⟩ := h
  obtain ⟨A', c', rfl, -, h'⟩ := h'
  by_cases hlen : xs.length = ys.length
  · go_enter Tryz.func78, Tryz.ntmps78
    rw [← hlen]
    have H2 := Lib.hid hlen
    clear hlen
    go_wp2
    go_loopw [13] (fun i wr => ∃ k : Nat, k ≤ xs.length ∧ i = .int .i64 k ∧ xs.take k = ys.take k ∧ ∃ n, wr = w.drewN n) (fun i _ => xs.length - (intOf i).toNat)
    case atStart => exact ⟨0, Nat.zero_le _, rfl, rfl, 0, rfl⟩
    case round =>
      obtain ⟨k, hk, rfl, hs, n, rfl⟩ := hrel
      by_cases hlt : k < xs.length
      · obtain ⟨b, off, rfl, _, hc⟩ := h k hlt
        obtain ⟨b', off', rfl, _, hc'⟩ := h' k (by have := H2.out; omega)
        by_cases he : xs.getD k 0 = ys.getD k 0
        · have hs' := Lib.hid (take_eq_step hlt (by have := H2.out; omega) hs he)
          rw [← he] at hc'
          generalize xs.getD k 0 = x at hc hc'
          clear hs h h' he
          go_wp2
          go_quiet (fail)
          go_wp2
          go_roundw
          case rel => exact ⟨k + 1, by omega, by go_num, hs'.out, _, by first | rfl | exact drewN2 _ _ _⟩
          case measure => simp [intOf]; omega
        · have hf := Lib.hid (ne_of_at he)
          have he' : (xs.getD k 0 == ys.getD k 0) = false := by simpa using he
          generalize xs.getD k 0 = x at hc he'
          generalize ys.getD k 0 = y at hc' he'
          clear hs h h' he
          go_wp2
          go_quiet (fail)
          go_wp2
          go_ret
          exact ⟨by simp [hf.out], _, by first | rfl | exact drewN2 _ _ _⟩
      · have hf : Hid (xs = ys) := by
          show xs = ys
          have := H2.out; rw [List.take_of_length_le (by omega), List.take_of_length_le (by omega)] at hs; exact hs
        clear hs h h'
        go_wp2
        go_ret
        exact ⟨by simp [hf.out], _, by first | rfl | exact drewN2 _ _ _⟩
  · have hf : ¬ xs = ys := fun e => hlen (by rw [e])
    have hb : (((xs.length : Nat) : Int) == ((ys.length : Nat) : Int)) = false := beq_eq_false_iff_ne.2 (by omega)
    go_enter Tryz.func78, Tryz.ntmps78
    go_wp2
    go_ret
    exact ⟨by simp [hf], 0, rfl⟩

theorem signsSame_i (B : Nat) (v v' : Value) (xs ys : List Int) (w : World) (h : SliceInts B w v xs) (h' : SliceInts B w v' ys) (hl : xs.length ≤ maxLen) :
    Calls Tryz.prog 16 #[v, v'] w fun e w' => e = .returned (.bool (decide (xs = ys))) ∧ ∃ n, w' = w.drewN n := by
  go_enter Tryz.func16, Tryz.ntmps16
  go_wp2_with (go_at_call 47; refine (equal_lib B _ _ _ _ _ h h' hl).mono ?_; rintro e w' ⟨rfl, n, rfl⟩)
  go_ret
  exact ⟨rfl, _, rfl⟩
end Go.Proofs.YtookcfpiegbafaaGreatDoor
