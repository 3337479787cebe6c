/- Contracts of NameOk. Condition: the string is no longer than any can be. -/
import Derived.Test.YtnojokoabeiegaaSigns
import Derived.Lib.Hide
namespace Go.Proofs.Ytnojokoabeiegaa
open Go.RowKit

theorem getD_byte (s : ByteArray) (k : Nat) (h : k < s.size) : s.data.toList.getD k 0 = s[k]'h := by
  have hl : k < s.data.size := h
  show _ = s.data[k]'hl
  rw [List.getD, Array.getElem?_toList, Array.getElem?_eq_getElem hl]
  rfl
def Pl.low (c : UInt8) : Bool := decide (97 ≤ (c.toNat : Int)) && decide ((c.toNat : Int) ≤ 122)
def Pl.nameOk (l : List UInt8) : Bool := l.all Pl.low && (decide (1 ≤ l.length) && decide (l.length ≤ 8))

set_option maxHeartbeats 400000 in
theorem nameOk_i (s : ByteArray) (w : World) (hs : s.size ≤ maxLen) : Calls Try.prog 20 #[.string s] w fun e w' => e = .returned (.bool (Pl.nameOk s.data.toList)) ∧ w = w' := by
  unfold maxLen at hs
  go_enter Try.func20, Try.ntmps20
  go_wp2
  go_loop [3] (fun i => ∃ k : Nat, k ≤ s.size ∧ i = .int .i64 k ∧ Hid ((s.data.toList.take k).all Pl.low = true)) (fun i => s.size - (intOf i).toNat)
  case atStart => exact ⟨0, Nat.zero_le _, rfl, rfl⟩
  case round =>
    obtain ⟨k, hk, rfl, hx⟩ := hrel
    by_cases hlt : k < s.size
    · have hl : k < s.data.toList.length := by simpa using hlt
      have hg := getD_byte s k hlt
      by_cases hc : 97 ≤ ((s[k]'hlt).toNat : Int) ∧ ((s[k]'hlt).toNat : Int) ≤ 122
      · obtain ⟨h1, h2⟩ := hc
        have hx' : Hid ((s.data.toList.take (k + 1)).all Pl.low = true) := by
          show _ = _
          rw [all_take_succ _ _ 0 _ hl, hx.out, hg]
          simp only [Pl.low, h1, h2, decide_true, Bool.and_self]
        clear hx hg hl
        go_wp2
        go_round
        case rel => exact ⟨k + 1, by omega, by go_num, hx'⟩
        case measure => simp [intOf]; omega
      · have hf : Hid (Pl.nameOk s.data.toList = false) := by
          show _ = _
          have : s.data.toList.all Pl.low = false := all_false_of (d := 0) hl (by
            rw [hg]; simp only [Pl.low, Bool.and_eq_false_iff, decide_eq_false_iff_not]; omega)
          rw [Pl.nameOk, this]; rfl
        clear hx hg hl
        by_cases h1 : 97 ≤ ((s[k]'hlt).toNat : Int)
        · have h2 : 122 < ((s[k]'hlt).toNat : Int) := by omega
          clear hc
          go_wp2
          go_ret
          exact ⟨ret_bool hf.out.symm, rfl⟩
        · clear hc
          go_wp2
          go_ret
          exact ⟨ret_bool hf.out.symm, rfl⟩
    · have hx' := hx.out
      rw [List.take_of_length_le (by simp; omega)] at hx'
      have HX := Lib.hid hx'
      clear hx hx'
      go_wp2_with (go_at_call 48; refine (within_any _ _ _ _).mono ?_; rintro e w' ⟨rfl, rfl⟩)
      go_ret
      refine ⟨ret_bool ?_, rfl⟩
      rw [Pl.nameOk, HX.out, Bool.true_and]
      congr 1 <;> exact decide_eq_decide.2 (by simp; omega)
set_option maxHeartbeats 400000 in
theorem nameOk_s (s : ByteArray) (w : World) (hs : s.size ≤ maxLen) : Calls Try.prog 19 #[.string s] w fun e w' => e = .returned (.bool (Pl.nameOk s.data.toList)) ∧ w = w' := by
  unfold maxLen at hs
  go_enter Try.func19, Try.ntmps19
  go_wp2
  go_loop [3] (fun i => ∃ k : Nat, k ≤ s.size ∧ i = .int .i64 k ∧ Hid ((s.data.toList.take k).all Pl.low = true)) (fun i => s.size - (intOf i).toNat)
  case atStart => exact ⟨0, Nat.zero_le _, rfl, rfl⟩
  case round =>
    obtain ⟨k, hk, rfl, hx⟩ := hrel
    by_cases hlt : k < s.size
    · have hl : k < s.data.toList.length := by simpa using hlt
      have hg := getD_byte s k hlt
      by_cases hc : 97 ≤ ((s[k]'hlt).toNat : Int) ∧ ((s[k]'hlt).toNat : Int) ≤ 122
      · obtain ⟨h1, h2⟩ := hc
        have hx' : Hid ((s.data.toList.take (k + 1)).all Pl.low = true) := by
          show _ = _
          rw [all_take_succ _ _ 0 _ hl, hx.out, hg]
          simp only [Pl.low, h1, h2, decide_true, Bool.and_self]
        clear hx hg hl
        go_wp2
        go_round
        case rel => exact ⟨k + 1, by omega, by go_num, hx'⟩
        case measure => simp [intOf]; omega
      · have hf : Hid (Pl.nameOk s.data.toList = false) := by
          show _ = _
          have : s.data.toList.all Pl.low = false := all_false_of (d := 0) hl (by
            rw [hg]; simp only [Pl.low, Bool.and_eq_false_iff, decide_eq_false_iff_not]; omega)
          rw [Pl.nameOk, this]; rfl
        clear hx hg hl
        by_cases h1 : 97 ≤ ((s[k]'hlt).toNat : Int)
        · have h2 : 122 < ((s[k]'hlt).toNat : Int) := by omega
          clear hc
          go_wp2
          go_ret
          exact ⟨ret_bool hf.out.symm, rfl⟩
        · clear hc
          go_wp2
          go_ret
          exact ⟨ret_bool hf.out.symm, rfl⟩
    · have hx' := hx.out
      rw [List.take_of_length_le (by simp; omega)] at hx'
      have HX := Lib.hid hx'
      clear hx hx'
      go_wp2_with (go_at_call 47; refine (l01In_any _ _ _ _).mono ?_; rintro e w' ⟨rfl, rfl⟩)
      go_ret
      refine ⟨ret_bool ?_, rfl⟩
      rw [Pl.nameOk, HX.out, Bool.true_and]
      congr 1 <;> exact decide_eq_decide.2 (by simp; omega)
end Go.Proofs.Ytnojokoabeiegaa
