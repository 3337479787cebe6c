/- Contracts of Back: the greatest place that comes no further than one. Condition: none longer than any slice can be. -/
import Derived.Test.YtlidheodadoboaaShift
namespace Go.Proofs.Ytlidheodadoboaa
open Go.RowKit
set_option maxRecDepth 100000

namespace Pl
def backL (o : List Pt) (a : Int) : Nat → Int
  | 0 => 0
  | k + 1 => if shift o ((k + 1 : Nat) : Int) false ≤ a then ((k + 1 : Nat) : Int) else backL o a k
def backOk (o : List Pt) (a : Int) : Bool := opOk o && (decide (0 ≤ a) && decide (a ≤ opTo o))
def back (o : List Pt) (a : Int) : Int := if backOk o a = true then backL o a (opFrom o).toNat else 0
end Pl
theorem backL_zero (o : List Pt) (a : Int) {k : Nat} (h : k = 0) : Pl.backL o a k = 0 := by subst h; rfl
theorem backL_yes (o : List Pt) (a : Int) {k : Nat} (h : 0 < k) (hs : Pl.shift o (k : Int) false ≤ a) : Pl.backL o a k = k := by
  obtain ⟨k, rfl⟩ : ∃ j, k = j + 1 := ⟨k - 1, by omega⟩
  rw [Pl.backL, if_pos hs]
theorem backL_no (o : List Pt) (a : Int) {k : Nat} (h : 0 < k) (hs : ¬ Pl.shift o (k : Int) false ≤ a) : Pl.backL o a k = Pl.backL o a (k - 1) := by
  obtain ⟨k, rfl⟩ : ∃ j, k = j + 1 := ⟨k - 1, by omega⟩
  rw [Pl.backL, if_neg hs]
  rfl

set_option maxHeartbeats 4000000 in
theorem back_i (v : Value) (ps : List Pt) (a : Int) (w : World) (h : SliceParts w.heap.size w v ps) :
    Calls Try.prog 38 #[v, .int .i64 a] w fun e w' => e = .returned (.tuple #[.int .i64 (Pl.back ps a), .bool (Pl.backOk ps a)]) ∧ Below w.heap.size w w' := by
  have h0 := Lib.hid h
  obtain ⟨A, c, rfl, -, -⟩ := h
  by_cases ho : Pl.opOk ps = true
  rotate_left
  · have HO : Hid (Pl.opOk ps = false) := by show _ = _; simpa using ho
    have HK : Hid (Pl.backOk ps a = false) := by show _ = _; rw [Pl.backOk, HO.out]; rfl
    have HV : Hid (Pl.back ps a = 0) := by show _ = _; rw [Pl.back, if_neg (by rw [HK.out]; decide)]
    clear ho
    go_enter Try.func38, Try.ntmps38
    go_wp2_with (fail)
    refine (opOk_i _ ps _ h0.out).mono ?_
    rintro e w1 ⟨rfl, b1⟩
    rw [HO.out]
    go_wp2_with (fail)
    go_ret2
    exact ⟨by rw [HK.out, HV.out]; rfl, b1⟩
  have HO := Lib.hid ho
  clear ho
  by_cases hin : 0 ≤ a ∧ a ≤ Pl.opTo ps
  rotate_left
  · have HK : Hid (Pl.backOk ps a = false) := by
      show _ = _
      rw [Pl.backOk, HO.out, Bool.eq_false_iff]
      intro hh
      simp only [Bool.and_eq_true, decide_eq_true_eq] at hh
      exact hin hh.2
    have HV : Hid (Pl.back ps a = 0) := by show _ = _; rw [Pl.back, if_neg (by rw [HK.out]; decide)]
    have HI := Lib.hid hin
    clear hin
    go_enter Try.func38, Try.ntmps38
    go_wp2_with (fail)
    refine (opOk_i _ ps _ h0.out).mono ?_
    rintro e w1 ⟨rfl, b1⟩
    rw [HO.out]
    go_wp2_with (fail)
    refine (opTo_i _ ps _ (h0.out.later b1)).mono ?_
    rintro e w2 ⟨rfl, b2⟩
    go_wp2_with (fail)
    refine (within_no HI.out _).mono ?_
    rintro e w' ⟨rfl, rfl⟩
    go_wp2_with (fail)
    go_ret2
    exact ⟨by rw [HK.out, HV.out]; rfl, b1.trans (b2.mono b1.size)⟩
  have HI := Lib.hid hin
  have hfr := (Pl.opOk_units HO.out).2.1
  have hfr2 := (Pl.opOk_units HO.out).2.2.2.1
  have HK : Hid (Pl.backOk ps a = true) := by
    show _ = _
    rw [Pl.backOk, HO.out]
    simp only [Bool.true_and, Bool.and_eq_true, decide_eq_true_eq]
    exact hin
  have HV : Hid (Pl.back ps a = Pl.backL ps a (Pl.opFrom ps).toNat) := by show _ = _; rw [Pl.back, if_pos HK.out]
  obtain ⟨N, hN⟩ : ∃ N : Nat, Pl.opFrom ps = (N : Int) := ⟨(Pl.opFrom ps).toNat, by omega⟩
  have hN2 : N ≤ 200 := by omega
  have HN := Lib.hid hN
  clear hfr hfr2 hin hN
  go_enter Try.func38, Try.ntmps38
  go_wp2_with (fail)
  refine (opOk_i _ ps _ h0.out).mono ?_
  rintro e w1 ⟨rfl, b1⟩
  rw [HO.out]
  go_wp2_with (fail)
  refine (opTo_i _ ps _ (h0.out.later b1)).mono ?_
  rintro e w2 ⟨rfl, b2⟩
  have b12 := b1.trans (b2.mono b1.size)
  go_wp2_with (fail)
  refine (within_yes HI.out _).mono ?_
  rintro e w' ⟨rfl, rfl⟩
  go_wp2_with (fail)
  refine (opFrom_i _ ps _ (h0.out.later b12)).mono ?_
  rintro e w3 ⟨rfl, b3⟩
  rw [HN.out]
  have B13 := Lib.hid (b12.trans (b3.mono b12.size))
  clear b1 b2 b12 b3
  go_wp2_with (fail)
  go_loopw [6] (fun x wr => ∃ k : Nat, k ≤ 200 ∧ x = .int .i64 k ∧ Hid (Pl.backL ps a k = Pl.back ps a) ∧ Hid (Below w.heap.size w wr)) (fun x _ => (intOf x).toNat)
  case atStart => exact ⟨N, hN2, rfl, by show _ = _; rw [HV.out, HN.out]; rfl, B13.out⟩
  case round =>
    obtain ⟨k, hk, rfl, hap, hb⟩ := hrel
    by_cases hlk : 0 < k
    · have hlk' : (0 : Int) < (k : Int) := by omega
      by_cases hs : Pl.shift ps (k : Int) false ≤ a
      · have HS := Lib.hid (backL_yes ps a hlk hs)
        go_wp2_with (fail)
        refine (shift_i _ ps (k : Int) false _ (by omega) (h0.out.later hb.out)).mono ?_
        rintro e w4 ⟨rfl, b4⟩
        have B4 := Lib.hid (hb.out.trans (b4.mono hb.out.size))
        clear b4
        go_wp2_with (fail)
        go_ret2
        exact ⟨by rw [HK.out, ← hap.out, HS.out]; rfl, B4.out⟩
      · have HS := Lib.hid (backL_no ps a hlk hs)
        have hs' : a < Pl.shift ps (k : Int) false := by omega
        go_wp2_with (fail)
        refine (shift_i _ ps (k : Int) false _ (by omega) (h0.out.later hb.out)).mono ?_
        rintro e w4 ⟨rfl, b4⟩
        have B4 := Lib.hid (hb.out.trans (b4.mono hb.out.size))
        clear b4
        go_wp2_with (fail)
        go_roundw
        case rel => exact ⟨k - 1, by omega, by congr 1; omega, by show _ = _; rw [← HS.out]; exact hap.out, B4.out⟩
        case measure => simp [intOf]; omega
    · have HX := Lib.hid (backL_zero ps a (k := k) (by omega))
      go_wp2_with (fail)
      go_ret2
      exact ⟨by rw [HK.out, ← hap.out, HX.out]; rfl, hb.out⟩
set_option maxHeartbeats 4000000 in
theorem back_s (v : Value) (ps : List Pt) (a : Int) (w : World) (h : SliceParts w.heap.size w v ps) :
    Calls Try.prog 37 #[v, .int .i64 a] w fun e w' => e = .returned (.tuple #[.int .i64 (Pl.back ps a), .bool (Pl.backOk ps a)]) ∧ Below w.heap.size w w' := by
  have h0 := Lib.hid h
  obtain ⟨A, c, rfl, -, -⟩ := h
  by_cases ho : Pl.opOk ps = true
  rotate_left
  · have HO : Hid (Pl.opOk ps = false) := by show _ = _; simpa using ho
    have HK : Hid (Pl.backOk ps a = false) := by show _ = _; rw [Pl.backOk, HO.out]; rfl
    have HV : Hid (Pl.back ps a = 0) := by show _ = _; rw [Pl.back, if_neg (by rw [HK.out]; decide)]
    clear ho
    go_enter Try.func37, Try.ntmps37
    go_wp2_with (fail)
    refine (opOk_s _ ps _ h0.out).mono ?_
    rintro e w1 ⟨rfl, b1⟩
    rw [HO.out]
    go_wp2_with (fail)
    go_ret2
    exact ⟨by rw [HK.out, HV.out]; rfl, b1⟩
  have HO := Lib.hid ho
  clear ho
  by_cases hin : 0 ≤ a ∧ a ≤ Pl.opTo ps
  rotate_left
  · have HK : Hid (Pl.backOk ps a = false) := by
      show _ = _
      rw [Pl.backOk, HO.out, Bool.eq_false_iff]
      intro hh
      simp only [Bool.and_eq_true, decide_eq_true_eq] at hh
      exact hin hh.2
    have HV : Hid (Pl.back ps a = 0) := by show _ = _; rw [Pl.back, if_neg (by rw [HK.out]; decide)]
    have HI := Lib.hid hin
    clear hin
    go_enter Try.func37, Try.ntmps37
    go_wp2_with (fail)
    refine (opOk_s _ ps _ h0.out).mono ?_
    rintro e w1 ⟨rfl, b1⟩
    rw [HO.out]
    go_wp2_with (fail)
    refine (opTo_s _ ps _ (h0.out.later b1)).mono ?_
    rintro e w2 ⟨rfl, b2⟩
    go_wp2_with (fail)
    refine (l01In_no HI.out _).mono ?_
    rintro e w' ⟨rfl, rfl⟩
    go_wp2_with (fail)
    go_ret2
    exact ⟨by rw [HK.out, HV.out]; rfl, b1.trans (b2.mono b1.size)⟩
  have HI := Lib.hid hin
  have hfr := (Pl.opOk_units HO.out).2.1
  have hfr2 := (Pl.opOk_units HO.out).2.2.2.1
  have HK : Hid (Pl.backOk ps a = true) := by
    show _ = _
    rw [Pl.backOk, HO.out]
    simp only [Bool.true_and, Bool.and_eq_true, decide_eq_true_eq]
    exact hin
  have HV : Hid (Pl.back ps a = Pl.backL ps a (Pl.opFrom ps).toNat) := by show _ = _; rw [Pl.back, if_pos HK.out]
  obtain ⟨N, hN⟩ : ∃ N : Nat, Pl.opFrom ps = (N : Int) := ⟨(Pl.opFrom ps).toNat, by omega⟩
  have hN2 : N ≤ 200 := by omega
  have HN := Lib.hid hN
  clear hfr hfr2 hin hN
  go_enter Try.func37, Try.ntmps37
  go_wp2_with (fail)
  refine (opOk_s _ ps _ h0.out).mono ?_
  rintro e w1 ⟨rfl, b1⟩
  rw [HO.out]
  go_wp2_with (fail)
  refine (opTo_s _ ps _ (h0.out.later b1)).mono ?_
  rintro e w2 ⟨rfl, b2⟩
  have b12 := b1.trans (b2.mono b1.size)
  go_wp2_with (fail)
  refine (l01In_yes HI.out _).mono ?_
  rintro e w' ⟨rfl, rfl⟩
  go_wp2_with (fail)
  refine (opFrom_s _ ps _ (h0.out.later b12)).mono ?_
  rintro e w3 ⟨rfl, b3⟩
  rw [HN.out]
  have B13 := Lib.hid (b12.trans (b3.mono b12.size))
  clear b1 b2 b12 b3
  go_wp2_with (fail)
  go_loopw [6] (fun x wr => ∃ k : Nat, k ≤ 200 ∧ x = .int .i64 k ∧ Hid (Pl.backL ps a k = Pl.back ps a) ∧ Hid (Below w.heap.size w wr)) (fun x _ => (intOf x).toNat)
  case atStart => exact ⟨N, hN2, rfl, by show _ = _; rw [HV.out, HN.out]; rfl, B13.out⟩
  case round =>
    obtain ⟨k, hk, rfl, hap, hb⟩ := hrel
    by_cases hlk : 0 < k
    · have hlk' : (0 : Int) < (k : Int) := by omega
      by_cases hs : Pl.shift ps (k : Int) false ≤ a
      · have HS := Lib.hid (backL_yes ps a hlk hs)
        go_wp2_with (fail)
        refine (shift_s _ ps (k : Int) false _ (by omega) (h0.out.later hb.out)).mono ?_
        rintro e w4 ⟨rfl, b4⟩
        have B4 := Lib.hid (hb.out.trans (b4.mono hb.out.size))
        clear b4
        go_wp2_with (fail)
        go_ret2
        exact ⟨by rw [HK.out, ← hap.out, HS.out]; rfl, B4.out⟩
      · have HS := Lib.hid (backL_no ps a hlk hs)
        have hs' : a < Pl.shift ps (k : Int) false := by omega
        go_wp2_with (fail)
        refine (shift_s _ ps (k : Int) false _ (by omega) (h0.out.later hb.out)).mono ?_
        rintro e w4 ⟨rfl, b4⟩
        have B4 := Lib.hid (hb.out.trans (b4.mono hb.out.size))
        clear b4
        go_wp2_with (fail)
        go_roundw
        case rel => exact ⟨k - 1, by omega, by congr 1; omega, by show _ = _; rw [← HS.out]; exact hap.out, B4.out⟩
        case measure => simp [intOf]; omega
    · have HX := Lib.hid (backL_zero ps a (k := k) (by omega))
      go_wp2_with (fail)
      go_ret2
      exact ⟨by rw [HK.out, ← hap.out, HX.out]; rfl, hb.out⟩
end Go.Proofs.Ytlidheodadoboaa
