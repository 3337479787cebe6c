/- Contracts of NumText: the decimal numeral of a number from 0 to 1000000000. Condition: the library's table of powers reads as its initialiser lays it. -/
import Derived.Test.YtookcfpiegbafaaGreatDoorGC
import Derived.Test.YtookcfpiegbafaaGreatDoorSh1
import Derived.Lib.ItoaNum
import Derived.Laws.IdiomStrings
import Derived.Lib.ConvBytes
import Derived.Lib.AppendIntMem
import Derived.Lib.SmallJoins
namespace Go.Proofs.YtookcfpiegbafaaGreatDoor
open Go.RowKit
set_option maxRecDepth 100000

/-- The table of powers of ten that strconv.Itoa reads. -/
abbrev Tab10 (w : World) : Prop := Lib.TabIs Tryz.prog w "internal/strconv.uint64pow10" .u64 Lib.pow10Tab
theorem Tab10.later {w w' : World} (h : Tab10 w) (hb : Below w.heap.size w w') : Tab10 w' := Joins.tab_stays (g := 3) (by kernel_rfl) h hb (Nat.le_refl _)
def Pl.numText (n : Int) : List UInt8 := if 0 ≤ n ∧ n ≤ 1000000000 then Lib.decDigits n.toNat else []
theorem grow_below (w : World) (k : Nat) (os : Array Obj) : Below w.heap.size w (Go.Sort.grow (w.drewN k) os) := Lib.below_grow _ _ (Nat.le_refl _) _ _

theorem conv_one (w : World) (d : Nat) (hd : d ≤ 255) (z : Int) (hz : z = d) : (Go.convert 28 9 (.slice (some ⟨w.heap.size, 0, none⟩) 1 1)).run Tryz.prog (w.alloc (.cells #[.int .u8 z] 5)) =
    .ok (.string ⟨#[UInt8.ofNat d]⟩) (w.alloc (.cells #[.int .u8 z] 5)) := by
  subst hz
  have e : (UInt8.ofNat d).toNat = d := by simp; omega
  refine run_convert_bytes_back _ 28 9 5 ⟨w.heap.size, 0, none⟩ 1 [UInt8.ofNat d] Tryz.underlying28 Tryz.underlying5 Tryz.underlying9 fun j hj => ?_
  have hj0 : j = 0 := by simpa using hj
  subst hj0
  rw [show (Addr.add ⟨w.heap.size, 0, none⟩ 0) = ⟨w.heap.size, 0, none⟩ from rfl, cell_of_row _ w.heap.size 0 _ 5 (0, 0) (heap_new_at _ _ rfl)]
  simp [e]
theorem nDigits_le (u : Nat) : Lib.nDigits u ≤ u + 1 := by
  induction u using Nat.strongRecOn with
  | _ u ih =>
    rw [Lib.nDigits]
    split
    · omega
    · have := ih (u / 10) (by omega)
      omega
theorem bytes_app (a b : List UInt8) : (⟨a.toArray⟩ : ByteArray) ++ ⟨b.toArray⟩ = ⟨(a ++ b).toArray⟩ := by
  apply ByteArray.ext
  rw [ByteArray.data_append]
  simp
theorem dec_step {k : Nat} (h : 9 < k) : Lib.decDigits k = Lib.decDigits (k / 10) ++ [UInt8.ofNat (48 + k % 10)] := by rw [Lib.decDigits, dif_neg (by omega)]
theorem dec_last {k : Nat} (h : ¬ 9 < k) : Lib.decDigits k = [UInt8.ofNat (48 + k)] := Lib.decDigits_one (by omega)
theorem numText_i (n : Int) (w : World) (hT : Tab10 w) :
    Calls Tryz.prog 39 #[.int .i64 n] w fun e w' => e = .returned (.string ⟨(Pl.numText n).toArray⟩) ∧ Below w.heap.size w w' := by
  have HT := Lib.hid hT
  clear hT
  by_cases h : 0 ≤ n ∧ n ≤ 1000000000
  · have HP : Hid (Lib.itoa n = Pl.numText n) := by show _ = _; rw [Pl.numText, if_pos h, Lib.itoa, if_neg (by omega)]
    have H := Lib.hid h
    obtain ⟨h1, h2⟩ := h
    go_enter Tryz.func39, Tryz.ntmps39
    go_wp2_with (fail)
    refine (within_yes H.out _).mono ?_
    rintro e w' ⟨rfl, rfl⟩
    go_wp2_with (fail)
    refine (Tryz.strconv_Itoa n (by omega) (by omega) _ HT.out).mono ?_
    rintro e w' ⟨rfl, k, os, rfl⟩
    rw [HP.out]
    go_wp2_with (fail)
    go_ret
    exact ⟨rfl, grow_below _ _ _⟩
  · have HP : Hid (Pl.numText n = []) := by show _ = _; rw [Pl.numText, if_neg h]
    have H := Lib.hid h
    clear h
    go_enter Tryz.func39, Tryz.ntmps39
    go_wp2_with (fail)
    refine (within_no H.out _).mono ?_
    rintro e w' ⟨rfl, rfl⟩
    go_wp2_with (fail)
    go_ret
    exact ⟨by rw [HP.out]; rfl, Below.refl _ _⟩
set_option maxHeartbeats 1000000 in
theorem numText_s (n : Int) (w : World) :
    Calls Tryz.prog 54 #[.int .i64 n] w fun e w' => e = .returned (.string ⟨(Pl.numText n).toArray⟩) ∧ Below w.heap.size w w' := by
  by_cases h : 0 ≤ n ∧ n ≤ 1000000000
  · obtain ⟨m, rfl⟩ : ∃ m : Nat, n = m := ⟨n.toNat, by omega⟩
    have HP : Hid (Lib.decDigits m = Pl.numText (m : Int)) := by show _ = _; rw [Pl.numText, if_pos h]; simp
    have H := Lib.hid h
    obtain ⟨-, h2⟩ := h
    go_enter Tryz.func54, Tryz.ntmps54
    go_wp2_with (fail)
    refine (l01In_yes H.out _).mono ?_
    rintro e w' ⟨rfl, rfl⟩
    go_wp2_with (fail)
    go_loopw [0, 3] (fun a s wr => ∃ (k : Nat) (l : List UInt8), k ≤ 1000000000 ∧ a = .int .i64 k ∧ s = .string ⟨l.toArray⟩ ∧ Hid (Lib.decDigits k ++ l = Lib.decDigits m) ∧ Hid (Below w.heap.size w wr)) (fun a _ _ => (intOf a).toNat)
    case atStart => exact ⟨m, [], by omega, rfl, rfl, by show _ = _; simp, Below.refl _ _⟩
    case round =>
      obtain ⟨k, l, hk, rfl, rfl, hd, hb⟩ := hrel
      have hll : ¬ 9223372036854775807 < 1 + l.length := by
        have h1 := congrArg List.length hd.out
        rw [List.length_append, Lib.decDigits_length, Lib.decDigits_length] at h1
        have := nDigits_le m
        omega
      by_cases h9 : 9 < k
      · have h9z : (9 : Int) < (k : Int) := by omega
        have HD : Hid (Lib.decDigits (k / 10) ++ UInt8.ofNat (48 + k % 10) :: l = Lib.decDigits m) := by show _ = _; have := hd.out; rw [dec_step h9] at this; simpa using this
        have hcv := conv_one wr (48 + k % 10) (by omega) (48 + (k : Int) % 10) (by omega)
        have BA := Lib.hid (bytes_app [UInt8.ofNat (48 + k % 10)] l)
        generalize UInt8.ofNat (48 + k % 10) = c at hcv BA HD
        go_wp2_with (fail)
        go_roundw
        case rel => exact ⟨k / 10, c :: l, by omega, by go_num, congrArg Value.string BA.out, HD.out, hb.out.trans ((Below.refl _ _).alloc (Nat.le_refl _) _ |>.mono hb.out.size)⟩
        case measure => simp [intOf]; omega
      · have h9z : ¬ ((9 : Int) < (k : Int)) := by omega
        have hcv := conv_one wr (48 + k) (by omega) (48 + (k : Int)) (by omega)
        have HD : Hid (UInt8.ofNat (48 + k) :: l = Lib.decDigits m) := by show _ = _; have := hd.out; rw [dec_last h9] at this; simpa using this
        have BA := Lib.hid (bytes_app [UInt8.ofNat (48 + k)] l)
        generalize UInt8.ofNat (48 + k) = c at hcv BA HD
        go_wp2_with (fail)
        go_ret
        exact ⟨by rw [← HP.out, ← HD.out]; exact congrArg (fun x => Ending.returned (Value.string x)) BA.out, hb.out.trans ((Below.refl _ _).alloc (Nat.le_refl _) _ |>.mono hb.out.size)⟩
  · have HP : Hid (Pl.numText n = []) := by show _ = _; rw [Pl.numText, if_neg h]
    have H := Lib.hid h
    clear h
    go_enter Tryz.func54, Tryz.ntmps54
    go_wp2_with (fail)
    refine (l01In_no H.out _).mono ?_
    rintro e w' ⟨rfl, rfl⟩
    go_wp2_with (fail)
    go_ret
    exact ⟨by rw [HP.out]; rfl, Below.refl _ _⟩
end Go.Proofs.YtookcfpiegbafaaGreatDoor
