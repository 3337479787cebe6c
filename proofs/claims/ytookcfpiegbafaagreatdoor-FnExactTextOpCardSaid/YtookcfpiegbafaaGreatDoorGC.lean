/- Several texts in one; each begins with its own note. No condition but those told there. -/
import Derived.Test.YtookcfpiegbafaaGreatDoorChecked
import Derived.Test.YtookcfpiegbafaaGreatDoorGB
import Derived.Deep.QuietTactic
import Derived.BigQuiet
import Derived.WalkSmall
import Derived.Lib.Hide
/- Contracts of the functions on single characters and on lists of them, read alone. Condition: none. -/
namespace Go.Proofs.YtookcfpiegbafaaGreatDoor
open Go.RowKit
set_option maxRecDepth 100000

theorem within_any (n lo hi : Int) (w : World) : Calls Tryz.prog 46 #[.int .i64 n, .int .i64 lo, .int .i64 hi] w fun e w' => e = .returned (.bool (decide (lo ≤ n) && decide (n ≤ hi))) ∧ w = w' := by
  by_cases h1 : lo ≤ n
  · go_enter Tryz.func46, Tryz.ntmps46
    go_wp2
    go_ret
    exact ⟨by simp [h1], rfl⟩
  · go_enter Tryz.func46, Tryz.ntmps46
    go_wp2
    go_ret
    exact ⟨by simp; omega, rfl⟩

theorem l01In_any (n lo hi : Int) (w : World) : Calls Tryz.prog 73 #[.int .i64 n, .int .i64 lo, .int .i64 hi] w fun e w' => e = .returned (.bool (decide (lo ≤ n) && decide (n ≤ hi))) ∧ w = w' := by
  by_cases h1 : lo ≤ n
  · go_enter Tryz.func73, Tryz.ntmps73
    go_wp2
    go_ret
    exact ⟨by simp [h1], rfl⟩
  · go_enter Tryz.func73, Tryz.ntmps73
    go_wp2
    go_ret
    exact ⟨by simp; omega, rfl⟩

theorem within_yes {n lo hi : Int} (h : lo ≤ n ∧ n ≤ hi) (w : World) : Calls Tryz.prog 46 #[.int .i64 n, .int .i64 lo, .int .i64 hi] w fun e w' => e = .returned (.bool true) ∧ w = w' :=
  (within_any n lo hi w).mono fun _ _ ⟨he, hw⟩ => ⟨by rw [he]; simp [h], hw⟩
theorem within_no {n lo hi : Int} (h : ¬ (lo ≤ n ∧ n ≤ hi)) (w : World) : Calls Tryz.prog 46 #[.int .i64 n, .int .i64 lo, .int .i64 hi] w fun e w' => e = .returned (.bool false) ∧ w = w' :=
  (within_any n lo hi w).mono fun _ _ ⟨he, hw⟩ => ⟨by rw [he]; simp; omega, hw⟩
theorem l01In_yes {n lo hi : Int} (h : lo ≤ n ∧ n ≤ hi) (w : World) : Calls Tryz.prog 73 #[.int .i64 n, .int .i64 lo, .int .i64 hi] w fun e w' => e = .returned (.bool true) ∧ w = w' :=
  (l01In_any n lo hi w).mono fun _ _ ⟨he, hw⟩ => ⟨by rw [he]; simp [h], hw⟩
theorem l01In_no {n lo hi : Int} (h : ¬ (lo ≤ n ∧ n ≤ hi)) (w : World) : Calls Tryz.prog 73 #[.int .i64 n, .int .i64 lo, .int .i64 hi] w fun e w' => e = .returned (.bool false) ∧ w = w' :=
  (l01In_any n lo hi w).mono fun _ _ ⟨he, hw⟩ => ⟨by rw [he]; simp; omega, hw⟩

theorem signOk_i (n : Int) (w : World) : Calls Tryz.prog 87 #[.int .i64 n] w fun e w' => e = .returned (.bool (Pl.signOk n)) ∧ w = w' := by
  go_enter Tryz.func87, Tryz.ntmps87
  go_wp2_with (go_at_call 46; refine (within_any _ _ _ _).mono ?_; rintro e w' ⟨rfl, rfl⟩)
  all_goals go_ret
  all_goals exact ⟨by simp [Pl.signOk, *], rfl⟩

theorem signOk_s (n : Int) (w : World) : Calls Tryz.prog 55 #[.int .i64 n] w fun e w' => e = .returned (.bool (Pl.signOk n)) ∧ w = w' := by
  go_enter Tryz.func55, Tryz.ntmps55
  go_wp2_with (go_at_call 73; refine (l01In_any _ _ _ _).mono ?_; rintro e w' ⟨rfl, rfl⟩)
  all_goals go_ret
  all_goals exact ⟨by simp [Pl.signOk, *], rfl⟩
end Go.Proofs.YtookcfpiegbafaaGreatDoor

/- Contracts of the functions that read a list of characters. Condition: the list is no longer than any slice can be. -/
namespace Go.Proofs.YtookcfpiegbafaaGreatDoor
open Go.RowKit
set_option maxRecDepth 100000

theorem all_take_succ {α : Type} (p : α → Bool) (l : List α) (d : α) (k : Nat) (h : k < l.length) : (l.take (k + 1)).all p = ((l.take k).all p && p (l.getD k d)) := by
  rw [List.take_succ_eq_append_getElem h, List.all_append]
  simp [List.getD, h]
theorem all_false_of {α : Type} {p : α → Bool} {l : List α} {d : α} {k : Nat} (h : k < l.length) (hp : p (l.getD k d) = false) : l.all p = false := by
  rw [List.all_eq_false]
  exact ⟨l[k], List.getElem_mem h, by simpa [List.getD, h] using hp⟩

set_option maxHeartbeats 400000 in
theorem signsOk_i (B : Nat) (v : Value) (xs : List Int) (w : World) (h : SliceInts B w v xs) (hl : xs.length ≤ maxLen) :
    Calls Tryz.prog 67 #[v] w fun e w' => e = .returned (.bool (Pl.signsOk xs)) ∧ w = w' := by
  unfold maxLen at hl
  obtain ⟨A, c, rfl, -, h⟩ := h
  go_enter Tryz.func67, Tryz.ntmps67
  go_wp2
  go_loop [7] (fun i => ∃ k : Nat, k ≤ xs.length ∧ i = .int .i64 k ∧ Pl.signsOk (xs.take k) = true) (fun i => xs.length - (intOf i).toNat)
  case atStart => exact ⟨0, Nat.zero_le _, rfl, rfl⟩
  case round =>
    obtain ⟨k, hk, rfl, hs⟩ := hrel
    by_cases hlt : k < xs.length
    · obtain ⟨b, off, rfl, _, hc⟩ := h k hlt
      by_cases hok : Pl.signOk (xs.getD k 0) = true
      · have hs' : Hid (Pl.signsOk (xs.take (k + 1)) = true) := by
          show Pl.signsOk (xs.take (k + 1)) = true
          unfold Pl.signsOk at hs ⊢
          rw [all_take_succ _ _ 0 _ hlt, hs, hok]; rfl
        generalize xs.getD k 0 = x at hc hok
        clear hs h
        go_wp2_with (go_at_call 87; refine (signOk_i _ _).mono ?_; rintro e w' ⟨rfl, rfl⟩)
        go_round
        case rel => exact ⟨k + 1, by omega, by go_num, hs'.out⟩
        case measure => simp [intOf]; omega
      · have hf : Hid (Pl.signsOk xs = false) := all_false_of (d := 0) hlt (by simpa using hok)
        replace hok : Pl.signOk (xs.getD k 0) = false := by simpa using hok
        generalize xs.getD k 0 = x at hc hok
        clear hs h
        go_wp2_with (go_at_call 87; refine (signOk_i _ _).mono ?_; rintro e w' ⟨rfl, rfl⟩)
        go_ret
        exact ⟨by rw [hf.out]; rfl, rfl⟩
    · have hf : Hid (Pl.signsOk xs = true) := by
        show Pl.signsOk xs = true
        rw [List.take_of_length_le (by omega)] at hs; exact hs
      clear hs h
      go_wp2
      go_ret
      exact ⟨by rw [hf.out]; rfl, rfl⟩
set_option maxHeartbeats 400000 in
theorem signsOk_s (B : Nat) (v : Value) (xs : List Int) (w : World) (h : SliceInts B w v xs) (hl : xs.length ≤ maxLen) :
    Calls Tryz.prog 74 #[v] w fun e w' => e = .returned (.bool (Pl.signsOk xs)) ∧ w = w' := by
  unfold maxLen at hl
  obtain ⟨A, c, rfl, -, h⟩ := h
  go_enter Tryz.func74, Tryz.ntmps74
  go_wp2
  go_loop [7] (fun i => ∃ k : Nat, k ≤ xs.length ∧ i = .int .i64 k ∧ Pl.signsOk (xs.take k) = true) (fun i => xs.length - (intOf i).toNat)
  case atStart => exact ⟨0, Nat.zero_le _, rfl, rfl⟩
  case round =>
    obtain ⟨k, hk, rfl, hs⟩ := hrel
    by_cases hlt : k < xs.length
    · obtain ⟨b, off, rfl, _, hc⟩ := h k hlt
      by_cases hok : Pl.signOk (xs.getD k 0) = true
      · have hs' : Hid (Pl.signsOk (xs.take (k + 1)) = true) := by
          show Pl.signsOk (xs.take (k + 1)) = true
          unfold Pl.signsOk at hs ⊢
          rw [all_take_succ _ _ 0 _ hlt, hs, hok]; rfl
        generalize xs.getD k 0 = x at hc hok
        clear hs h
        go_wp2_with (go_at_call 55; refine (signOk_s _ _).mono ?_; rintro e w' ⟨rfl, rfl⟩)
        go_round
        case rel => exact ⟨k + 1, by omega, by go_num, hs'.out⟩
        case measure => simp [intOf]; omega
      · have hf : Hid (Pl.signsOk xs = false) := all_false_of (d := 0) hlt (by simpa using hok)
        replace hok : Pl.signOk (xs.getD k 0) = false := by simpa using hok
        generalize xs.getD k 0 = x at hc hok
        clear hs h
        go_wp2_with (go_at_call 55; refine (signOk_s _ _).mono ?_; rintro e w' ⟨rfl, rfl⟩)
        go_ret
        exact ⟨by rw [hf.out]; rfl, rfl⟩
    · have hf : Hid (Pl.signsOk xs = true) := by
        show Pl.signsOk xs = true
        rw [List.take_of_length_le (by omega)] at hs; exact hs
      clear hs h
      go_wp2
      go_ret
      exact ⟨by rw [hf.out]; rfl, rfl⟩

end Go.Proofs.YtookcfpiegbafaaGreatDoor

/- Contracts of the functions that hold two lists of ints against each other. Condition: none longer than any slice can be. -/
namespace Go.Proofs.YtookcfpiegbafaaGreatDoor
open Go.RowKit
set_option maxRecDepth 100000

theorem textOk_i (B : Nat) (v : Value) (xs : List Int) (w : World) (h : SliceInts B w v xs) (hl : xs.length ≤ maxLen) :
    Calls Tryz.prog 38 #[v] w fun e w' => e = .returned (.bool (Pl.textOk xs)) ∧ w = w' := by
  have h0 := h
  obtain ⟨A, c, rfl, -, -⟩ := h
  by_cases h2 : xs.length ≤ 200
  · go_enter Tryz.func38, Tryz.ntmps38
    go_wp2_with (go_at_call 67; refine (signsOk_i B _ _ _ h0 hl).mono ?_; rintro e w' ⟨rfl, rfl⟩)
    all_goals go_ret
    all_goals exact ⟨by simp [Pl.textOk, h2], rfl⟩
  · go_enter Tryz.func38, Tryz.ntmps38
    go_wp2_with (go_at_call 67; refine (signsOk_i B _ _ _ h0 hl).mono ?_; rintro e w' ⟨rfl, rfl⟩)
    all_goals go_ret
    all_goals exact ⟨by simp [Pl.textOk]; omega, rfl⟩
theorem drewN2 (w : World) (a b : Nat) : (w.drewN a).drewN b = w.drewN (a + b) := by
  simp [World.drewN, Nat.add_assoc]
theorem take_eq_step {xs ys : List Int} {k : Nat} (hx : k < xs.length) (hy : k < ys.length) (h : xs.take k = ys.take k) (he : xs.getD k 0 = ys.getD k 0) : xs.take (k + 1) = ys.take (k + 1) := by
  rw [List.take_succ_eq_append_getElem hx, List.take_succ_eq_append_getElem hy, h]
  simp [List.getD, hx, hy] at he
  rw [he]
theorem ne_of_at {xs ys : List Int} {k : Nat} (he : xs.getD k 0 ≠ ys.getD k 0) : xs ≠ ys := fun e => he (by rw [e])

set_option maxHeartbeats 800000 in
theorem eqIntS_l (B : Nat) (v v' : Value) (xs ys : List Int) (w : World) (h : SliceInts B w v xs) (h' : SliceInts B w v' ys) (hl : xs.length ≤ maxLen) :
    Calls Tryz.prog 62 #[v, v'] w fun e w' => e = .returned (.bool (decide (xs = ys))) ∧ ∃ n, w' = w.drewN n := by
  unfold maxLen at hl
  obtain ⟨A, c, rfl, -, h⟩ := h
  obtain ⟨A', c', rfl, -, h'⟩ := h'
  by_cases hlen : xs.length = ys.length
  · go_enter Tryz.func62, Tryz.ntmps62
    rw [← hlen]
    have H2 := Lib.hid hlen
    clear hlen
    go_wp2
    go_loopw [5] (fun i wr => ∃ k : Nat, k ≤ xs.length ∧ i = .int .i64 k ∧ xs.take k = ys.take k ∧ ∃ n, wr = w.drewN n) (fun i _ => xs.length - (intOf i).toNat)
    case atStart => exact ⟨0, Nat.zero_le _, rfl, rfl, 0, rfl⟩
    case round =>
      obtain ⟨k, hk, rfl, hs, n, rfl⟩ := hrel
      by_cases hlt : k < xs.length
      · obtain ⟨b, off, rfl, _, hc⟩ := h k hlt
        obtain ⟨b', off', rfl, _, hc'⟩ := h' k (by have := H2.out; omega)
        by_cases he : xs.getD k 0 = ys.getD k 0
        · have hs' := Lib.hid (take_eq_step hlt (by have := H2.out; omega) hs he)
          rw [← he] at hc'
          generalize xs.getD k 0 = x at hc hc'
          clear hs h h' he
          go_wp2
          go_quiet (fail)
          go_wp2
          go_roundw
          case rel => exact ⟨k + 1, by omega, by go_num, hs'.out, _, by first | rfl | exact drewN2 _ _ _⟩
          case measure => simp [intOf]; omega
        · have hf := Lib.hid (ne_of_at he)
          have he' : (xs.getD k 0 == ys.getD k 0) = false := by simpa using he
          generalize xs.getD k 0 = x at hc he'
          generalize ys.getD k 0 = y at hc' he'
          clear hs h h' he
          go_wp2
          go_quiet (fail)
          go_wp2
          go_ret
          exact ⟨by simp [hf.out], _, by first | rfl | exact drewN2 _ _ _⟩
      · have hf : Hid (xs = ys) := by
          show xs = ys
          have := H2.out; rw [List.take_of_length_le (by omega), List.take_of_length_le (by omega)] at hs; exact hs
        clear hs h h'
        go_wp2
        go_ret
        exact ⟨by simp [hf.out], _, by first | rfl | exact drewN2 _ _ _⟩
  · have hf : ¬ xs = ys := fun e => hlen (by rw [e])
    have hb : (((xs.length : Nat) : Int) == ((ys.length : Nat) : Int)) = false := beq_eq_false_iff_ne.2 (by omega)
    go_enter Tryz.func62, Tryz.ntmps62
    go_wp2
    go_ret
    exact ⟨by simp [hf], 0, rfl⟩
set_option maxHeartbeats 800000 in
theorem equal_lib (B : Nat) (v v' : Value) (xs ys : List Int) (w : World) (h : SliceInts B w v xs) (h' : SliceInts B w v' ys) (hl : xs.length ≤ maxLen) :
    Calls Tryz.prog 47 #[v, v'] w fun e w' => e = .returned (.bool (decide (xs = ys))) ∧ ∃ n, w' = w.drewN n := by
  unfold maxLen at hl
  obtain ⟨A, c, rfl, -, h⟩ := h
  obtain ⟨A', c', rfl, -, h'⟩ := h'
  by_cases hlen : xs.length = ys.length
  · go_enter Tryz.func47, Tryz.ntmps47
    rw [← hlen]
    have H2 := Lib.hid hlen
    clear hlen
    go_wp2
    go_loopw [13] (fun i wr => ∃ k : Nat, k ≤ xs.length ∧ i = .int .i64 k ∧ xs.take k = ys.take k ∧ ∃ n, wr = w.drewN n) (fun i _ => xs.length - (intOf i).toNat)
    case atStart => exact ⟨0, Nat.zero_le _, rfl, rfl, 0, rfl⟩
    case round =>
      obtain ⟨k, hk, rfl, hs, n, rfl⟩ := hrel
      by_cases hlt : k < xs.length
      · obtain ⟨b, off, rfl, _, hc⟩ := h k hlt
        obtain ⟨b', off', rfl, _, hc'⟩ := h' k (by have := H2.out; omega)
        by_cases he : xs.getD k 0 = ys.getD k 0
        · have hs' := Lib.hid (take_eq_step hlt (by have := H2.out; omega) hs he)
          rw [← he] at hc'
          generalize xs.getD k 0 = x at hc hc'
          clear hs h h' he
          go_wp2
          go_quiet (fail)
          go_wp2
          go_roundw
          case rel => exact ⟨k + 1, by omega, by go_num, hs'.out, _, by first | rfl | exact drewN2 _ _ _⟩
          case measure => simp [intOf]; omega
        · have hf := Lib.hid (ne_of_at he)
          have he' : (xs.getD k 0 == ys.getD k 0) = false := by simpa using he
          generalize xs.getD k 0 = x at hc he'
          generalize ys.getD k 0 = y at hc' he'
          clear hs h h' he
          go_wp2
          go_quiet (fail)
          go_wp2
          go_ret
          exact ⟨by simp [hf.out], _, by first | rfl | exact drewN2 _ _ _⟩
      · have hf : Hid (xs = ys) := by
          show xs = ys
          have := H2.out; rw [List.take_of_length_le (by omega), List.take_of_length_le (by omega)] at hs; exact hs
        clear hs h h'
        go_wp2
        go_ret
        exact ⟨by simp [hf.out], _, by first | rfl | exact drewN2 _ _ _⟩
  · have hf : ¬ xs = ys := fun e => hlen (by rw [e])
    have hb : (((xs.length : Nat) : Int) == ((ys.length : Nat) : Int)) = false := beq_eq_false_iff_ne.2 (by omega)
    go_enter Tryz.func47, Tryz.ntmps47
    go_wp2
    go_ret
    exact ⟨by simp [hf], 0, rfl⟩
set_option maxHeartbeats 800000 in
theorem signsSame_s (B : Nat) (v v' : Value) (xs ys : List Int) (w : World) (h : SliceInts B w v xs) (h' : SliceInts B w v' ys) (hl : xs.length ≤ maxLen) :
    Calls Tryz.prog 78 #[v, v'] w fun e w' => e = .returned (.bool (decide (xs = ys))) ∧ ∃ n, w' = w.drewN n := by
  unfold maxLen at hl
  obtain ⟨A, c, rfl, -, h⟩ := h
  obtain ⟨A', c', rfl, -, h'⟩ := h'
  by_cases hlen : xs.length = ys.length
  · go_enter Tryz.func78, Tryz.ntmps78
    rw [← hlen]
    have H2 := Lib.hid hlen
    clear hlen
    go_wp2
    go_loopw [13] (fun i wr => ∃ k : Nat, k ≤ xs.length ∧ i = .int .i64 k ∧ xs.take k = ys.take k ∧ ∃ n, wr = w.drewN n) (fun i _ => xs.length - (intOf i).toNat)
    case atStart => exact ⟨0, Nat.zero_le _, rfl, rfl, 0, rfl⟩
    case round =>
      obtain ⟨k, hk, rfl, hs, n, rfl⟩ := hrel
      by_cases hlt : k < xs.length
      · obtain ⟨b, off, rfl, _, hc⟩ := h k hlt
        obtain ⟨b', off', rfl, _, hc'⟩ := h' k (by have := H2.out; omega)
        by_cases he : xs.getD k 0 = ys.getD k 0
        · have hs' := Lib.hid (take_eq_step hlt (by have := H2.out; omega) hs he)
          rw [← he] at hc'
          generalize xs.getD k 0 = x at hc hc'
          clear hs h h' he
          go_wp2
          go_quiet (fail)
          go_wp2
          go_roundw
          case rel => exact ⟨k + 1, by omega, by go_num, hs'.out, _, by first | rfl | exact drewN2 _ _ _⟩
          case measure => simp [intOf]; omega
        · have hf := Lib.hid (ne_of_at he)
          have he' : (xs.getD k 0 == ys.getD k 0) = false := by simpa using he
          generalize xs.getD k 0 = x at hc he'
          generalize ys.getD k 0 = y at hc' he'
          clear hs h h' he
          go_wp2
          go_quiet (fail)
          go_wp2
          go_ret
          exact ⟨by simp [hf.out], _, by first | rfl | exact drewN2 _ _ _⟩
      · have hf : Hid (xs = ys) := by
          show xs = ys
          have := H2.out; rw [List.take_of_length_le (by omega), List.take_of_length_le (by omega)] at hs; exact hs
        clear hs h h'
        go_wp2
        go_ret
        exact ⟨by simp [hf.out], _, by first | rfl | exact drewN2 _ _ _⟩
  · have hf : ¬ xs = ys := fun e => hlen (by rw [e])
    have hb : (((xs.length : Nat) : Int) == ((ys.length : Nat) : Int)) = false := beq_eq_false_iff_ne.2 (by omega)
    go_enter Tryz.func78, Tryz.ntmps78
    go_wp2
    go_ret
    exact ⟨by simp [hf], 0, rfl⟩

theorem signsSame_i (B : Nat) (v v' : Value) (xs ys : List Int) (w : World) (h : SliceInts B w v xs) (h' : SliceInts B w v' ys) (hl : xs.length ≤ maxLen) :
    Calls Tryz.prog 16 #[v, v'] w fun e w' => e = .returned (.bool (decide (xs = ys))) ∧ ∃ n, w' = w.drewN n := by
  go_enter Tryz.func16, Tryz.ntmps16
  go_wp2_with (go_at_call 47; refine (equal_lib B _ _ _ _ _ h h' hl).mono ?_; rintro e w' ⟨rfl, n, rfl⟩)
  go_ret
  exact ⟨rfl, _, rfl⟩
end Go.Proofs.YtookcfpiegbafaaGreatDoor

/- Contracts of the laws' helpers on lists of ints: toIntS, szIntS. Condition: no list of more than 4194304 elements is copied. -/
namespace Go.Proofs.YtookcfpiegbafaaGreatDoor
open Go.RowKit
set_option maxRecDepth 100000

theorem intInfo : (Tryz.prog.info? 3).map (fun i => (i.zero, i.size, i.bytes)) = some (some (.int .i64 0), 1, 8) := by kernel_rfl

/-- What a loop that copies has written after k rounds. -/
def Pl.part (xs : List Int) (k : Nat) : List Value := (xs.take k).map (Value.int .i64) ++ List.replicate (xs.length - k) (.int .i64 0)
theorem Pl.part_zero (xs : List Int) : Pl.part xs 0 = List.replicate xs.length (.int .i64 0) := by simp [Pl.part]
theorem Pl.part_all (xs : List Int) : Pl.part xs xs.length = xs.map (Value.int .i64) := by simp [Pl.part]
theorem Pl.part_succ (xs : List Int) (k : Nat) (h : k < xs.length) : (Pl.part xs k).set k (.int .i64 (xs.getD k 0)) = Pl.part xs (k + 1) := by
  have e : xs.length - k = (xs.length - (k + 1)) + 1 := by omega
  have hl : ((xs.take k).map (Value.int .i64)).length = k := by simp; omega
  rw [Pl.part, Pl.part, e, List.replicate_succ, List.set_append_right _ _ (by omega), hl, Nat.sub_self, List.set_cons_zero,
    List.take_succ_eq_append_getElem h, List.map_append]
  simp [List.getD, h]

theorem eqIntS_b (B : Nat) (v v' : Value) (xs ys : List Int) (w : World) (h : SliceInts B w v xs) (h' : SliceInts B w v' ys) (hl : xs.length ≤ maxLen) :
    Calls Tryz.prog 62 #[v, v'] w fun e w' => e = .returned (.bool (decide (xs = ys))) ∧ Below w.heap.size w w' :=
  (eqIntS_l B v v' xs ys w h h' hl).mono fun _ _ ⟨he, n, hn⟩ => ⟨he, hn ▸ below_drewN (Below.refl _ _) n⟩
theorem signsSame_ib (B : Nat) (v v' : Value) (xs ys : List Int) (w : World) (h : SliceInts B w v xs) (h' : SliceInts B w v' ys) (hl : xs.length ≤ maxLen) :
    Calls Tryz.prog 16 #[v, v'] w fun e w' => e = .returned (.bool (decide (xs = ys))) ∧ Below w.heap.size w w' :=
  (signsSame_i B v v' xs ys w h h' hl).mono fun _ _ ⟨he, n, hn⟩ => ⟨he, hn ▸ below_drewN (Below.refl _ _) n⟩
theorem signsSame_sb (B : Nat) (v v' : Value) (xs ys : List Int) (w : World) (h : SliceInts B w v xs) (h' : SliceInts B w v' ys) (hl : xs.length ≤ maxLen) :
    Calls Tryz.prog 78 #[v, v'] w fun e w' => e = .returned (.bool (decide (xs = ys))) ∧ Below w.heap.size w w' :=
  (signsSame_s B v v' xs ys w h h' hl).mono fun _ _ ⟨he, n, hn⟩ => ⟨he, hn ▸ below_drewN (Below.refl _ _) n⟩
end Go.Proofs.YtookcfpiegbafaaGreatDoor

/- Contracts of the laws' counts: szPart, szPartS. Condition: at most 2^20 are counted. -/
namespace Go.Proofs.YtookcfpiegbafaaGreatDoor
open Go.RowKit
set_option maxRecDepth 100000

/-- What szPartS leaves of 'left' behind the first parts. -/
def Pl.sz : List Pt → Int → Int
  | [], left => left
  | p :: ps, left => if left < p.signs.length then -1 else Pl.sz ps (left - p.signs.length)
def Pl.szS (ps : List Pt) (left : Int) : Int := if left < ps.length then -1 else Pl.sz ps (left - ps.length)

theorem sz_bd : ∀ (ps : List Pt) (left : Int), 0 ≤ left → Pl.sz ps left ≤ left ∧ (0 ≤ Pl.sz ps left → ∀ p ∈ ps, (p.signs.length : Int) ≤ left)
  | [], left, _ => ⟨Int.le_refl _, fun _ p hp => by simp at hp⟩
  | p :: ps, left, _ => by
    rw [Pl.sz]
    split
    · exact ⟨by omega, fun h => by omega⟩
    · have := sz_bd ps (left - p.signs.length) (by omega)
      refine ⟨by omega, fun h0 q hq => ?_⟩
      rcases List.mem_cons.1 hq with rfl | hq
      · omega
      · have := this.2 h0 q hq
        omega
theorem szS_bd {ps : List Pt} {left : Int} (_h : 0 ≤ left) (h0 : 0 ≤ Pl.szS ps left) : (ps.length : Int) ≤ left ∧ ∀ p ∈ ps, (p.signs.length : Int) ≤ left := by
  unfold Pl.szS at h0
  split at h0
  · omega
  · have := sz_bd ps (left - ps.length) (by omega)
    exact ⟨by omega, fun p hp => by have := this.2 h0 p hp; omega⟩
theorem szS_le {ps : List Pt} {left : Int} (_h : 0 ≤ left) : Pl.szS ps left ≤ left := by
  unfold Pl.szS
  split
  · omega
  · have := sz_bd ps (left - ps.length) (by omega)
    omega
theorem szS_nat {ps : List Pt} {left : Int} (h : 0 ≤ left) (h1 : left ≤ 1048576) (h0 : 0 ≤ Pl.szS ps left) : ps.length ≤ 1048576 ∧ ∀ p ∈ ps, p.signs.length ≤ 1048576 := by
  have := szS_bd h h0
  exact ⟨by omega, fun p hp => by have := this.2 p hp; omega⟩

theorem sz_step {ps : List Pt} {k : Nat} (h : k < ps.length) (left : Int) (hlt : ¬ left < (ps.getD k ⟨0, 0, []⟩).signs.length) : Pl.sz (ps.drop k) left = Pl.sz (ps.drop (k + 1)) (left - (ps.getD k ⟨0, 0, []⟩).signs.length) := by
  rw [List.drop_eq_getElem_cons h, Pl.sz]
  simp [List.getD, h] at hlt ⊢
  omega
theorem sz_stop {ps : List Pt} {k : Nat} (h : k < ps.length) (left : Int) (hlt : left < (ps.getD k ⟨0, 0, []⟩).signs.length) : Pl.sz (ps.drop k) left = -1 := by
  rw [List.drop_eq_getElem_cons h, Pl.sz]
  simp [List.getD, h] at hlt ⊢
  omega

end Go.Proofs.YtookcfpiegbafaaGreatDoor
