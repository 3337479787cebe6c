/- Contracts of Fnv. Condition: the string is no longer than any can be. -/
import Derived.Test.YtnojokoabeiegaaChecked
import Derived.Test.YtnojokoabeiegaaMem
import Derived.Lib.Hide
namespace Go.Proofs.Ytnojokoabeiegaa
open Go.RowKit

def Pl.fnvStep (x : Int) (c : UInt8) : Int := (wrap64 (bits BinOp.xor IntKind.i64 x (wrap64 ↑c.toNat) * 16777619)).tmod 4294967296
def Pl.fnv (l : List UInt8) : Int := l.foldl Pl.fnvStep 2166136261

theorem fnv_take (s : ByteArray) (k : Nat) (h : k < s.size) : Pl.fnv (s.data.toList.take (k + 1)) = Pl.fnvStep (Pl.fnv (s.data.toList.take k)) s[k] := by
  have h2 : k < s.data.toList.length := by simpa using h
  rw [List.take_succ_eq_append_getElem h2, Pl.fnv, List.foldl_append]
  rfl

set_option maxHeartbeats 400000 in
theorem fnv_i (s : ByteArray) (w : World) (hs : s.size ≤ maxLen) : Calls Try.prog 18 #[.string s] w fun e w' => e = .returned (.int .i64 (Pl.fnv s.data.toList)) ∧ w = w' := by
  unfold maxLen at hs
  go_enter Try.func18, Try.ntmps18
  go_wp2
  go_loop [3, 4] (fun n i => ∃ k : Nat, ∃ x : Int, k ≤ s.size ∧ i = .int .i64 k ∧ n = .int .i64 x ∧ Hid (x = Pl.fnv (s.data.toList.take k))) (fun _ i => s.size - (intOf i).toNat)
  case atStart => exact ⟨0, _, Nat.zero_le _, rfl, rfl, rfl⟩
  case round =>
    obtain ⟨k, x, hk, rfl, rfl, hx⟩ := hrel
    by_cases hlt : k < s.size
    · have hx' := Lib.hid (fnv_take s k hlt)
      go_wp2
      go_round
      case rel => exact ⟨k + 1, _, by omega, by go_num, rfl, by show _ = _; rw [hx'.out, ← hx.out]; rfl⟩
      case measure => simp [intOf]; omega
    · go_wp2
      go_ret
      have := hx.out
      rw [List.take_of_length_le (by simp; omega)] at this
      exact ⟨ret_int this, rfl⟩
set_option maxHeartbeats 400000 in
theorem fnv_s (s : ByteArray) (w : World) (hs : s.size ≤ maxLen) : Calls Try.prog 17 #[.string s] w fun e w' => e = .returned (.int .i64 (Pl.fnv s.data.toList)) ∧ w = w' := by
  unfold maxLen at hs
  go_enter Try.func17, Try.ntmps17
  go_wp2
  go_loop [3, 4] (fun n i => ∃ k : Nat, ∃ x : Int, k ≤ s.size ∧ i = .int .i64 k ∧ n = .int .i64 x ∧ Hid (x = Pl.fnv (s.data.toList.take k))) (fun _ i => s.size - (intOf i).toNat)
  case atStart => exact ⟨0, _, Nat.zero_le _, rfl, rfl, rfl⟩
  case round =>
    obtain ⟨k, x, hk, rfl, rfl, hx⟩ := hrel
    by_cases hlt : k < s.size
    · have hx' := Lib.hid (fnv_take s k hlt)
      go_wp2
      go_round
      case rel => exact ⟨k + 1, _, by omega, by go_num, rfl, by show _ = _; rw [hx'.out, ← hx.out]; rfl⟩
      case measure => simp [intOf]; omega
    · go_wp2
      go_ret
      have := hx.out
      rw [List.take_of_length_le (by simp; omega)] at this
      exact ⟨ret_int this, rfl⟩
end Go.Proofs.Ytnojokoabeiegaa
