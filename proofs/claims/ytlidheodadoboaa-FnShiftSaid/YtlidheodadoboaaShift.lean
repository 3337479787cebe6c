/- Contracts of Shift: where a place comes to lie. Condition: none longer than any slice can be. -/
import Derived.Test.YtlidheodadoboaaSpans
import Derived.Test.YtlidheodadoboaaPlace2
namespace Go.Proofs.Ytlidheodadoboaa
open Go.RowKit
set_option maxRecDepth 100000

namespace Pl
def shiftL : List Pt → Int → Int → Int → Bool → Int
  | [], _, _, j, _ => j
  | p :: o, a, i, j, f => if p.kind = 1 then (if a < i + p.n then j + a - i else shiftL o a (i + p.n) (j + p.n) f)
    else if p.kind = 2 then (if a = i ∧ f = false then j else shiftL o a i (j + p.signs.length) f)
    else (if a < i + p.n then j else shiftL o a (i + p.n) j f)
def shiftOk (o : List Pt) (a : Int) : Bool := opOk o && (decide (0 ≤ a) && decide (a ≤ opFrom o))
def shift (o : List Pt) (a : Int) (f : Bool) : Int := if shiftOk o a = true then shiftL (opNorm o) a 0 0 f else 0
end Pl
theorem shiftL_step {o : List Pt} {k : Nat} (h : k < o.length) (a i j : Int) (f : Bool) : Pl.shiftL (o.drop k) a i j f =
    (if (o.getD k ⟨0, 0, []⟩).kind = 1 then (if a < i + (o.getD k ⟨0, 0, []⟩).n then j + a - i else Pl.shiftL (o.drop (k + 1)) a (i + (o.getD k ⟨0, 0, []⟩).n) (j + (o.getD k ⟨0, 0, []⟩).n) f)
      else if (o.getD k ⟨0, 0, []⟩).kind = 2 then (if a = i ∧ f = false then j else Pl.shiftL (o.drop (k + 1)) a i (j + (o.getD k ⟨0, 0, []⟩).signs.length) f)
      else (if a < i + (o.getD k ⟨0, 0, []⟩).n then j else Pl.shiftL (o.drop (k + 1)) a (i + (o.getD k ⟨0, 0, []⟩).n) j f)) := by
  rw [List.drop_eq_getElem_cons h, Pl.shiftL]
  simp [List.getD, h]

set_option maxHeartbeats 4000000 in
set_option maxRecDepth 100000 in
theorem shift_i (v : Value) (ps : List Pt) (a : Int) (f : Bool) (w : World) (ha : -9223372036854775808 ≤ a ∧ a ≤ 9223372036854775807) (h : SliceParts w.heap.size w v ps) :
    Calls Try.prog 36 #[v, .int .i64 a, .bool f] w fun e w' => e = .returned (.tuple #[.int .i64 (Pl.shift ps a f), .bool (Pl.shiftOk ps a)]) ∧ Below w.heap.size w w' := by
  have h0 := Lib.hid h
  obtain ⟨A, c, rfl, -, -⟩ := h
  by_cases ho : Pl.opOk ps = true
  rotate_left
  · have HO : Hid (Pl.opOk ps = false) := by show _ = _; simpa using ho
    have HK : Hid (Pl.shiftOk ps a = false) := by show _ = _; rw [Pl.shiftOk, HO.out]; rfl
    have HV : Hid (Pl.shift ps a f = 0) := by show _ = _; rw [Pl.shift, if_neg (by rw [HK.out]; decide)]
    clear ho
    go_enter Try.func36, Try.ntmps36
    go_wp2_with (fail)
    refine (opOk_i _ ps _ h0.out).mono ?_
    rintro e w1 ⟨rfl, b1⟩
    rw [HO.out]
    go_wp2_with (fail)
    go_ret2
    exact ⟨by rw [HK.out, HV.out]; rfl, b1⟩
  have HO := Lib.hid ho
  clear ho
  by_cases hin : 0 ≤ a ∧ a ≤ Pl.opFrom ps
  rotate_left
  · have HK : Hid (Pl.shiftOk ps a = false) := by
      show _ = _
      rw [Pl.shiftOk, HO.out, Bool.eq_false_iff]
      intro hh
      simp only [Bool.and_eq_true, decide_eq_true_eq] at hh
      exact hin hh.2
    have HV : Hid (Pl.shift ps a f = 0) := by show _ = _; rw [Pl.shift, if_neg (by rw [HK.out]; decide)]
    have HI := Lib.hid hin
    clear hin
    go_enter Try.func36, Try.ntmps36
    go_wp2_with (fail)
    refine (opOk_i _ ps _ h0.out).mono ?_
    rintro e w1 ⟨rfl, b1⟩
    rw [HO.out]
    go_wp2_with (fail)
    refine (opFrom_i _ ps _ (h0.out.later b1)).mono ?_
    rintro e w2 ⟨rfl, b2⟩
    go_wp2_with (fail)
    refine (within_no HI.out _).mono ?_
    rintro e w' ⟨rfl, rfl⟩
    go_wp2_with (fail)
    go_ret2
    exact ⟨by rw [HK.out, HV.out]; rfl, b1.trans (b2.mono b1.size)⟩
  have HI := Lib.hid hin
  obtain ⟨a0, a1⟩ := hin
  have hfr := (Pl.opOk_units HO.out).2.1
  have hfr2 := (Pl.opOk_units HO.out).2.2.2.1
  have a2 : a ≤ 200 := by omega
  have HK : Hid (Pl.shiftOk ps a = true) := by
    show _ = _
    rw [Pl.shiftOk, HO.out]
    simp only [Bool.true_and, Bool.and_eq_true, decide_eq_true_eq]
    exact ⟨a0, a1⟩
  have HV : Hid (Pl.shift ps a f = Pl.shiftL (Pl.opNorm ps) a 0 0 f) := by show _ = _; rw [Pl.shift, if_pos HK.out]
  clear hfr hfr2 a1
  go_enter Try.func36, Try.ntmps36
  go_wp2_with (fail)
  refine (opOk_i _ ps _ h0.out).mono ?_
  rintro e w1 ⟨rfl, b1⟩
  rw [HO.out]
  go_wp2_with (fail)
  refine (opFrom_i _ ps _ (h0.out.later b1)).mono ?_
  rintro e w2 ⟨rfl, b2⟩
  have b12 := b1.trans (b2.mono b1.size)
  go_wp2_with (fail)
  refine (within_yes HI.out _).mono ?_
  rintro e w' ⟨rfl, rfl⟩
  go_wp2_with (fail)
  refine (opNorm_i _ ps _ (h0.out.later b12)).mono ?_
  rintro e w3 ⟨v3, svs, rfl, o3, b3⟩
  have b13 := b12.trans (b3.mono b12.size)
  have B13 := Lib.hid b13
  obtain ⟨A1, c1, rfl, -, hr⟩ := o3.slice
  have HR := Lib.hid hr
  have hns := opNorm_len ps
  have hfine := Lib.hid (fine_of (opOk_partsOk (opNorm_ok ps)))
  clear b1 b2 b12 b3 b13 o3 hr
  generalize Pl.opNorm ps = ns at HR hns hfine HV
  go_wp2_with (fail)
  go_loopw [8, 9, 25] (fun x y n wr => ∃ (k : Nat) (i j : Int), k ≤ ns.length ∧ n = .int .i64 k ∧ x = .int .i64 i ∧ y = .int .i64 j ∧ 0 ≤ i ∧ i ≤ 200 * k ∧ 0 ≤ j ∧ j ≤ 200 * k ∧ Hid (Pl.shiftL (ns.drop k) a i j f = Pl.shift ps a f) ∧
    Hid (Below w3.heap.size w3 wr) ∧ w3.heap.size ≤ wr.heap.size ∧ Hid (PartsAt w3.heap.size wr A1 ns)) (fun _ _ n _ => ns.length - (intOf n).toNat)
  case atStart => exact ⟨0, 0, 0, Nat.zero_le _, rfl, rfl, rfl, Int.le_refl _, by simp, Int.le_refl _, by simp, by show _ = _; rw [HV.out]; rfl, Below.refl _ _, Nat.le_refl _, HR.out⟩
  case round =>
    clear HR
    obtain ⟨k, i, j, hk, rfl, rfl, rfl, hi0, hik, hj0, hjk, hap, hb, hsz, hr⟩ := hrel
    by_cases hlk : k < ns.length
    · obtain ⟨b, off, sv, rfl, hbB, c0, c1, c2, hs⟩ := hr.out k hlk
      have HS := Lib.hid ((shiftL_step hlk a i j f).symm.trans hap.out)
      obtain ⟨pk, p0, p1, p2⟩ := hfine.out (ns.getD k ⟨0, 0, []⟩) (by simp [List.getD, hlk])
      generalize ns.getD k ⟨0, 0, []⟩ = p at c0 c1 hs HS p0 p1 p2 pk
      obtain ⟨A2, c3, rfl, -, -⟩ := hs
      have HBX := fun (o : Obj) => Lib.hid (hb.out.alloc hsz o)
      have hbx := Lib.hid HBX
      clear HBX
      rcases pk with pk | pk | pk
      · have k1 : (p.kind == 1) = true := by simp [pk]
        have PKx := Lib.hid pk
        clear pk
        by_cases hlt : a < i + p.n
        · go_wp2
          go_ret2
          refine ⟨?_, B13.out.trans (((hbx.out _).out).mono B13.out.size)⟩
          have := HS.out
          rw [if_pos PKx.out, if_pos hlt] at this
          rw [HK.out, ← this]
          rfl
        · have hge : i + p.n ≤ a := by omega
          go_wp2
          go_roundw
          case rel =>
            refine ⟨k + 1, i + p.n, j + p.n, by omega, by go_num, rfl, rfl, by omega, by omega, by omega, by omega, ?_, (hbx.out _).out, by simp; omega, hr.out.below ((Below.refl _ _).alloc hsz _)⟩
            show _ = _
            have := HS.out
            rw [if_pos PKx.out, if_neg hlt] at this
            exact this
          case measure => simp [intOf]; omega
      · have k1 : (p.kind == 1) = false := by simp [pk]
        have k2 : (p.kind == 2) = true := by simp [pk]
        have PKx := Lib.hid pk
        clear pk
        by_cases he : a = i
        · have e1 : (a == i) = true := by simp [he]
          have e2 : (i == a) = true := by simp [he]
          have HE := Lib.hid he
          clear he
          cases f
          · go_wp2
            go_ret2
            refine ⟨?_, B13.out.trans (((hbx.out _).out).mono B13.out.size)⟩
            have := HS.out
            rw [if_neg (by rw [PKx.out]; decide), if_pos PKx.out, if_pos (by simp [HE.out])] at this
            rw [HK.out, ← this]
            rfl
          · go_wp2
            go_roundw
            case rel =>
              refine ⟨k + 1, i, j + p.signs.length, by omega, by go_num, rfl, rfl, by omega, by omega, by omega, by omega, ?_, (hbx.out _).out, by simp; omega, hr.out.below ((Below.refl _ _).alloc hsz _)⟩
              show _ = _
              have := HS.out
              rw [if_neg (by rw [PKx.out]; decide), if_pos PKx.out, if_neg (by simp)] at this
              exact this
            case measure => simp [intOf]; omega
        · have e1 : (a == i) = false := by simp [he]
          have e2 : (i == a) = false := by simp; omega
          have HE := Lib.hid he
          clear he
          go_wp2
          go_roundw
          case rel =>
            refine ⟨k + 1, i, j + p.signs.length, by omega, by go_num, rfl, rfl, by omega, by omega, by omega, by omega, ?_, (hbx.out _).out, by simp; omega, hr.out.below ((Below.refl _ _).alloc hsz _)⟩
            show _ = _
            have := HS.out
            rw [if_neg (by rw [PKx.out]; decide), if_pos PKx.out, if_neg (fun hh => HE.out hh.1)] at this
            exact this
          case measure => simp [intOf]; omega
      · have k1 : (p.kind == 1) = false := by simp [pk]
        have k2 : (p.kind == 2) = false := by simp [pk]
        have PKx := Lib.hid pk
        clear pk
        by_cases hlt : a < i + p.n
        · go_wp2
          go_ret2
          refine ⟨?_, B13.out.trans (((hbx.out _).out).mono B13.out.size)⟩
          have := HS.out
          rw [if_neg (by rw [PKx.out]; decide), if_neg (by rw [PKx.out]; decide), if_pos hlt] at this
          rw [HK.out, ← this]
          rfl
        · have hge : i + p.n ≤ a := by omega
          go_wp2
          go_roundw
          case rel =>
            refine ⟨k + 1, i + p.n, j, by omega, by go_num, rfl, rfl, by omega, by omega, by omega, by omega, ?_, (hbx.out _).out, by simp; omega, hr.out.below ((Below.refl _ _).alloc hsz _)⟩
            show _ = _
            have := HS.out
            rw [if_neg (by rw [PKx.out]; decide), if_neg (by rw [PKx.out]; decide), if_neg hlt] at this
            exact this
          case measure => simp [intOf]; omega
    · have hx := hap.out
      rw [List.drop_eq_nil_of_le (by omega)] at hx
      have HX := Lib.hid hx
      clear hx
      go_wp2_with (fail)
      go_ret2
      exact ⟨by rw [HK.out, ← HX.out]; rfl, B13.out.trans (hb.out.mono B13.out.size)⟩
set_option maxHeartbeats 4000000 in
set_option maxRecDepth 100000 in
theorem shift_s (v : Value) (ps : List Pt) (a : Int) (f : Bool) (w : World) (ha : -9223372036854775808 ≤ a ∧ a ≤ 9223372036854775807) (h : SliceParts w.heap.size w v ps) :
    Calls Try.prog 35 #[v, .int .i64 a, .bool f] w fun e w' => e = .returned (.tuple #[.int .i64 (Pl.shift ps a f), .bool (Pl.shiftOk ps a)]) ∧ Below w.heap.size w w' := by
  have h0 := Lib.hid h
  obtain ⟨A, c, rfl, -, -⟩ := h
  by_cases ho : Pl.opOk ps = true
  rotate_left
  · have HO : Hid (Pl.opOk ps = false) := by show _ = _; simpa using ho
    have HK : Hid (Pl.shiftOk ps a = false) := by show _ = _; rw [Pl.shiftOk, HO.out]; rfl
    have HV : Hid (Pl.shift ps a f = 0) := by show _ = _; rw [Pl.shift, if_neg (by rw [HK.out]; decide)]
    clear ho
    go_enter Try.func35, Try.ntmps35
    go_wp2_with (fail)
    refine (opOk_s _ ps _ h0.out).mono ?_
    rintro e w1 ⟨rfl, b1⟩
    rw [HO.out]
    go_wp2_with (fail)
    go_ret2
    exact ⟨by rw [HK.out, HV.out]; rfl, b1⟩
  have HO := Lib.hid ho
  clear ho
  by_cases hin : 0 ≤ a ∧ a ≤ Pl.opFrom ps
  rotate_left
  · have HK : Hid (Pl.shiftOk ps a = false) := by
      show _ = _
      rw [Pl.shiftOk, HO.out, Bool.eq_false_iff]
      intro hh
      simp only [Bool.and_eq_true, decide_eq_true_eq] at hh
      exact hin hh.2
    have HV : Hid (Pl.shift ps a f = 0) := by show _ = _; rw [Pl.shift, if_neg (by rw [HK.out]; decide)]
    have HI := Lib.hid hin
    clear hin
    go_enter Try.func35, Try.ntmps35
    go_wp2_with (fail)
    refine (opOk_s _ ps _ h0.out).mono ?_
    rintro e w1 ⟨rfl, b1⟩
    rw [HO.out]
    go_wp2_with (fail)
    refine (opFrom_s _ ps _ (h0.out.later b1)).mono ?_
    rintro e w2 ⟨rfl, b2⟩
    go_wp2_with (fail)
    refine (l01In_no HI.out _).mono ?_
    rintro e w' ⟨rfl, rfl⟩
    go_wp2_with (fail)
    go_ret2
    exact ⟨by rw [HK.out, HV.out]; rfl, b1.trans (b2.mono b1.size)⟩
  have HI := Lib.hid hin
  obtain ⟨a0, a1⟩ := hin
  have hfr := (Pl.opOk_units HO.out).2.1
  have hfr2 := (Pl.opOk_units HO.out).2.2.2.1
  have a2 : a ≤ 200 := by omega
  have HK : Hid (Pl.shiftOk ps a = true) := by
    show _ = _
    rw [Pl.shiftOk, HO.out]
    simp only [Bool.true_and, Bool.and_eq_true, decide_eq_true_eq]
    exact ⟨a0, a1⟩
  have HV : Hid (Pl.shift ps a f = Pl.shiftL (Pl.opNorm ps) a 0 0 f) := by show _ = _; rw [Pl.shift, if_pos HK.out]
  clear hfr hfr2 a1
  go_enter Try.func35, Try.ntmps35
  go_wp2_with (fail)
  refine (opOk_s _ ps _ h0.out).mono ?_
  rintro e w1 ⟨rfl, b1⟩
  rw [HO.out]
  go_wp2_with (fail)
  refine (opFrom_s _ ps _ (h0.out.later b1)).mono ?_
  rintro e w2 ⟨rfl, b2⟩
  have b12 := b1.trans (b2.mono b1.size)
  go_wp2_with (fail)
  refine (l01In_yes HI.out _).mono ?_
  rintro e w' ⟨rfl, rfl⟩
  go_wp2_with (fail)
  refine (opNorm_s _ ps _ (h0.out.later b12)).mono ?_
  rintro e w3 ⟨v3, svs, rfl, o3, b3⟩
  have b13 := b12.trans (b3.mono b12.size)
  have B13 := Lib.hid b13
  obtain ⟨A1, c1, rfl, -, hr⟩ := o3.slice
  have HR := Lib.hid hr
  have hns := opNorm_len ps
  have hfine := Lib.hid (fine_of (opOk_partsOk (opNorm_ok ps)))
  clear b1 b2 b12 b3 b13 o3 hr
  generalize Pl.opNorm ps = ns at HR hns hfine HV
  go_wp2_with (fail)
  go_loopw [8, 9, 25] (fun x y n wr => ∃ (k : Nat) (i j : Int), k ≤ ns.length ∧ n = .int .i64 k ∧ x = .int .i64 i ∧ y = .int .i64 j ∧ 0 ≤ i ∧ i ≤ 200 * k ∧ 0 ≤ j ∧ j ≤ 200 * k ∧ Hid (Pl.shiftL (ns.drop k) a i j f = Pl.shift ps a f) ∧
    Hid (Below w3.heap.size w3 wr) ∧ w3.heap.size ≤ wr.heap.size ∧ Hid (PartsAt w3.heap.size wr A1 ns)) (fun _ _ n _ => ns.length - (intOf n).toNat)
  case atStart => exact ⟨0, 0, 0, Nat.zero_le _, rfl, rfl, rfl, Int.le_refl _, by simp, Int.le_refl _, by simp, by show _ = _; rw [HV.out]; rfl, Below.refl _ _, Nat.le_refl _, HR.out⟩
  case round =>
    clear HR
    obtain ⟨k, i, j, hk, rfl, rfl, rfl, hi0, hik, hj0, hjk, hap, hb, hsz, hr⟩ := hrel
    by_cases hlk : k < ns.length
    · obtain ⟨b, off, sv, rfl, hbB, c0, c1, c2, hs⟩ := hr.out k hlk
      have HS := Lib.hid ((shiftL_step hlk a i j f).symm.trans hap.out)
      obtain ⟨pk, p0, p1, p2⟩ := hfine.out (ns.getD k ⟨0, 0, []⟩) (by simp [List.getD, hlk])
      generalize ns.getD k ⟨0, 0, []⟩ = p at c0 c1 hs HS p0 p1 p2 pk
      obtain ⟨A2, c3, rfl, -, -⟩ := hs
      have HBX := fun (o : Obj) => Lib.hid (hb.out.alloc hsz o)
      have hbx := Lib.hid HBX
      clear HBX
      rcases pk with pk | pk | pk
      · have k1 : (p.kind == 1) = true := by simp [pk]
        have PKx := Lib.hid pk
        clear pk
        by_cases hlt : a < i + p.n
        · go_wp2
          go_ret2
          refine ⟨?_, B13.out.trans (((hbx.out _).out).mono B13.out.size)⟩
          have := HS.out
          rw [if_pos PKx.out, if_pos hlt] at this
          rw [HK.out, ← this]
          rfl
        · have hge : i + p.n ≤ a := by omega
          go_wp2
          go_roundw
          case rel =>
            refine ⟨k + 1, i + p.n, j + p.n, by omega, by go_num, rfl, rfl, by omega, by omega, by omega, by omega, ?_, (hbx.out _).out, by simp; omega, hr.out.below ((Below.refl _ _).alloc hsz _)⟩
            show _ = _
            have := HS.out
            rw [if_pos PKx.out, if_neg hlt] at this
            exact this
          case measure => simp [intOf]; omega
      · have k1 : (p.kind == 1) = false := by simp [pk]
        have k2 : (p.kind == 2) = true := by simp [pk]
        have PKx := Lib.hid pk
        clear pk
        by_cases he : a = i
        · have e1 : (a == i) = true := by simp [he]
          have e2 : (i == a) = true := by simp [he]
          have HE := Lib.hid he
          clear he
          cases f
          · go_wp2
            go_ret2
            refine ⟨?_, B13.out.trans (((hbx.out _).out).mono B13.out.size)⟩
            have := HS.out
            rw [if_neg (by rw [PKx.out]; decide), if_pos PKx.out, if_pos (by simp [HE.out])] at this
            rw [HK.out, ← this]
            rfl
          · go_wp2
            go_roundw
            case rel =>
              refine ⟨k + 1, i, j + p.signs.length, by omega, by go_num, rfl, rfl, by omega, by omega, by omega, by omega, ?_, (hbx.out _).out, by simp; omega, hr.out.below ((Below.refl _ _).alloc hsz _)⟩
              show _ = _
              have := HS.out
              rw [if_neg (by rw [PKx.out]; decide), if_pos PKx.out, if_neg (by simp)] at this
              exact this
            case measure => simp [intOf]; omega
        · have e1 : (a == i) = false := by simp [he]
          have e2 : (i == a) = false := by simp; omega
          have HE := Lib.hid he
          clear he
          go_wp2
          go_roundw
          case rel =>
            refine ⟨k + 1, i, j + p.signs.length, by omega, by go_num, rfl, rfl, by omega, by omega, by omega, by omega, ?_, (hbx.out _).out, by simp; omega, hr.out.below ((Below.refl _ _).alloc hsz _)⟩
            show _ = _
            have := HS.out
            rw [if_neg (by rw [PKx.out]; decide), if_pos PKx.out, if_neg (fun hh => HE.out hh.1)] at this
            exact this
          case measure => simp [intOf]; omega
      · have k1 : (p.kind == 1) = false := by simp [pk]
        have k2 : (p.kind == 2) = false := by simp [pk]
        have PKx := Lib.hid pk
        clear pk
        by_cases hlt : a < i + p.n
        · go_wp2
          go_ret2
          refine ⟨?_, B13.out.trans (((hbx.out _).out).mono B13.out.size)⟩
          have := HS.out
          rw [if_neg (by rw [PKx.out]; decide), if_neg (by rw [PKx.out]; decide), if_pos hlt] at this
          rw [HK.out, ← this]
          rfl
        · have hge : i + p.n ≤ a := by omega
          go_wp2
          go_roundw
          case rel =>
            refine ⟨k + 1, i + p.n, j, by omega, by go_num, rfl, rfl, by omega, by omega, by omega, by omega, ?_, (hbx.out _).out, by simp; omega, hr.out.below ((Below.refl _ _).alloc hsz _)⟩
            show _ = _
            have := HS.out
            rw [if_neg (by rw [PKx.out]; decide), if_neg (by rw [PKx.out]; decide), if_neg hlt] at this
            exact this
          case measure => simp [intOf]; omega
    · have hx := hap.out
      rw [List.drop_eq_nil_of_le (by omega)] at hx
      have HX := Lib.hid hx
      clear hx
      go_wp2_with (fail)
      go_ret2
      exact ⟨by rw [HK.out, ← HX.out]; rfl, B13.out.trans (hb.out.mono B13.out.size)⟩
end Go.Proofs.Ytlidheodadoboaa
