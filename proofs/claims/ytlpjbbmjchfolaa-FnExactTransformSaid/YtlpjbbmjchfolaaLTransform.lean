/- The law FnExactTransform returns true for every argument and leaves memory as it was. Condition: none. -/
import Derived.Test.YtlpjbbmjchfolaaRow
import Derived.Test.YtlpjbbmjchfolaaOwn2
import Derived.Test.YtlpjbbmjchfolaaSmall
import Derived.Test.YtlpjbbmjchfolaaTransform
import Derived.Test.YtlpjbbmjchfolaaTransformS
namespace Go.Proofs.Ytlpjbbmjchfolaa.fnExactTransform
open Go.ChangeShapes Go.WideShapes Go.ChangeAt Go.RowKit
set_option maxRecDepth 100000
set_option linter.unusedVariables false

set_option maxHeartbeats 2000000 in
set_option maxRecDepth 100000 in
theorem walk (w : World) (v0 : Value) (xs0 : List Pt) (r0 : SliceParts w.heap.size w v0 xs0) (l0 : xs0.length ≤ maxLen) (v1 : Value) (xs1 : List Pt) (r1 : SliceParts w.heap.size w v1 xs1) (l1 : xs1.length ≤ maxLen) : Calls Try.prog 9 #[v0, v1] w fun e w' => e = .returned (.bool true) ∧ Below w.heap.size w w' := by
  have rd0 := r0
  obtain ⟨A0, c0, rfl, -, -⟩ := r0
  have rd1 := r1
  obtain ⟨A1, c1, rfl, -, -⟩ := r1
  by_cases q0 : 0 ≤ Pl.szS xs0 1048576
  rotate_left
  · have q0' : Pl.szS xs0 1048576 < 0 := by omega
    have HB := Below.refl w.heap.size w
    go_enter Try.func9, Try.ntmps9
    go_wp2_with (fail)
    refine (szPartS_l _ xs0 1048576 _ (rd0.mono HB.size) (by omega) (by omega)).mono ?_
    rintro e w1 ⟨rfl, b1⟩
    replace rd0 := rd0.below (b1.mono HB.size)
    replace rd1 := rd1.below (b1.mono HB.size)
    have z1 := b1.size
    replace HB := HB.trans (b1.mono HB.size)
    go_wp2_with (fail)
    go_ret
    exact ⟨rfl, HB⟩
  by_cases q1 : 0 ≤ Pl.szS xs1 (Pl.szS xs0 1048576)
  rotate_left
  · have q1' : Pl.szS xs1 (Pl.szS xs0 1048576) < 0 := by omega
    have g0 := szS_le (ps := xs0) (left := 1048576) (by omega)
    have HB := Below.refl w.heap.size w
    go_enter Try.func9, Try.ntmps9
    go_wp2_with (fail)
    refine (szPartS_l _ xs0 1048576 _ (rd0.mono HB.size) (by omega) (by omega)).mono ?_
    rintro e w2 ⟨rfl, b2⟩
    replace rd0 := rd0.below (b2.mono HB.size)
    replace rd1 := rd1.below (b2.mono HB.size)
    have z2 := b2.size
    replace HB := HB.trans (b2.mono HB.size)
    go_wp2_with (fail)
    refine (szPartS_l _ xs1 (Pl.szS xs0 1048576) _ (rd1.mono HB.size) (by assumption) (by omega)).mono ?_
    rintro e w3 ⟨rfl, b3⟩
    replace rd0 := rd0.below (b3.mono HB.size)
    replace rd1 := rd1.below (b3.mono HB.size)
    have z3 := b3.size
    replace HB := HB.trans (b3.mono HB.size)
    go_wp2_with (fail)
    go_ret
    exact ⟨rfl, HB⟩
  have g0 := szS_le (ps := xs0) (left := 1048576) (by omega)
  obtain ⟨bl0, bs0⟩ := szS_nat (ps := xs0) (left := 1048576) (by omega) (by omega) q0
  have Bs0 := Lib.hid bs0
  clear bs0
  have g1 := szS_le (ps := xs1) (left := (Pl.szS xs0 1048576)) (by omega)
  obtain ⟨bl1, bs1⟩ := szS_nat (ps := xs1) (left := (Pl.szS xs0 1048576)) (by omega) (by omega) q1
  have Bs1 := Lib.hid bs1
  clear bs1
  have HB := Below.refl w.heap.size w
  go_enter Try.func9, Try.ntmps9
  go_wp2_with (fail)
  refine (szPartS_l _ xs0 1048576 _ (rd0.mono HB.size) (by omega) (by omega)).mono ?_
  rintro e w4 ⟨rfl, b4⟩
  replace rd0 := rd0.below (b4.mono HB.size)
  replace rd1 := rd1.below (b4.mono HB.size)
  have z4 := b4.size
  replace HB := HB.trans (b4.mono HB.size)
  go_wp2_with (fail)
  refine (szPartS_l _ xs1 (Pl.szS xs0 1048576) _ (rd1.mono HB.size) (by assumption) (by omega)).mono ?_
  rintro e w5 ⟨rfl, b5⟩
  replace rd0 := rd0.below (b5.mono HB.size)
  replace rd1 := rd1.below (b5.mono HB.size)
  have z5 := b5.size
  replace HB := HB.trans (b5.mono HB.size)
  go_wp2_with (fail)
  refine (toPartS_l _ xs0 _ (rd0.mono HB.size) (by omega) (fun p hp => Nat.le_trans (Bs0.out p hp) (by omega))).mono ?_
  rintro e w6 ⟨s0, us0, rfl, os0, b6⟩
  replace rd0 := rd0.below (b6.mono HB.size)
  replace rd1 := rd1.below (b6.mono HB.size)
  have z6 := b6.size
  replace HB := HB.trans (b6.mono HB.size)
  go_wp2_with (fail)
  refine (toPartS_l _ xs1 _ (rd1.mono HB.size) (by omega) (fun p hp => Nat.le_trans (Bs1.out p hp) (by omega))).mono ?_
  rintro e w7 ⟨s1, us1, rfl, os1, b7⟩
  replace rd0 := rd0.below (b7.mono HB.size)
  replace rd1 := rd1.below (b7.mono HB.size)
  replace os0 := os0.below b7
  have z7 := b7.size
  replace HB := HB.trans (b7.mono HB.size)
  go_wp2_with (fail)
  refine (transform_sx _ _ xs0 xs1 _ os0.slice os1.slice).mono ?_
  rintro e w8 ⟨w0, uw0, w1, uw1, rfl, ow0, ow1, b8, apw⟩
  replace rd0 := rd0.below (b8.mono HB.size)
  replace rd1 := rd1.below (b8.mono HB.size)
  replace os0 := os0.below b8
  replace os1 := os1.below b8
  have z8 := b8.size
  replace HB := HB.trans (b8.mono HB.size)
  go_wp2_with (fail)
  refine (toPartS_l _ xs0 _ (rd0.mono HB.size) (by omega) (fun p hp => Nat.le_trans (Bs0.out p hp) (by omega))).mono ?_
  rintro e w9 ⟨x0, ux0, rfl, ox0, b9⟩
  replace rd0 := rd0.below (b9.mono HB.size)
  replace rd1 := rd1.below (b9.mono HB.size)
  replace ow0 := ow0.below b9
  replace ow1 := ow1.below b9
  have z9 := b9.size
  replace HB := HB.trans (b9.mono HB.size)
  go_wp2_with (fail)
  refine (toPartS_l _ xs1 _ (rd1.mono HB.size) (by omega) (fun p hp => Nat.le_trans (Bs1.out p hp) (by omega))).mono ?_
  rintro e w10 ⟨x1, ux1, rfl, ox1, b10⟩
  replace rd0 := rd0.below (b10.mono HB.size)
  replace rd1 := rd1.below (b10.mono HB.size)
  replace ow0 := ow0.below b10
  replace ow1 := ow1.below b10
  replace ox0 := ox0.below b10
  have z10 := b10.size
  replace HB := HB.trans (b10.mono HB.size)
  go_wp2_with (fail)
  refine (transform_ix _ _ xs0 xs1 _ ox0.slice ox1.slice).mono ?_
  rintro e w11 ⟨g0, ug0, g1, ug1, rfl, og0, og1, b11, apg⟩
  replace rd0 := rd0.below (b11.mono HB.size)
  replace rd1 := rd1.below (b11.mono HB.size)
  replace ow0 := ow0.below b11
  replace ow1 := ow1.below b11
  replace ox0 := ox0.below b11
  replace ox1 := ox1.below b11
  have z11 := b11.size
  replace HB := HB.trans (b11.mono HB.size)
  go_wp2_with (fail)
  refine (eqPartS_b _ _ (Pl.trans1 xs0 xs1) _ og0.slice ow0.slice).mono ?_
  rintro e w12 ⟨rfl, b12⟩
  replace rd0 := rd0.below (b12.mono HB.size)
  replace rd1 := rd1.below (b12.mono HB.size)
  replace ow0 := ow0.below b12
  replace ow1 := ow1.below b12
  replace ox0 := ox0.below b12
  replace ox1 := ox1.below b12
  replace og0 := og0.below b12
  replace og1 := og1.below b12
  have z12 := b12.size
  replace HB := HB.trans (b12.mono HB.size)
  go_wp2_with (fail)
  refine (eqPartS_b _ _ (Pl.trans2 xs0 xs1) _ og1.slice ow1.slice).mono ?_
  rintro e w13 ⟨rfl, b13⟩
  replace rd0 := rd0.below (b13.mono HB.size)
  replace rd1 := rd1.below (b13.mono HB.size)
  replace ow0 := ow0.below b13
  replace ow1 := ow1.below b13
  replace ox0 := ox0.below b13
  replace ox1 := ox1.below b13
  replace og0 := og0.below b13
  replace og1 := og1.below b13
  have z13 := b13.size
  replace HB := HB.trans (b13.mono HB.size)
  go_wp2_with (fail)
  refine (toPartS_l _ xs0 _ (rd0.mono HB.size) (by omega) (fun p hp => Nat.le_trans (Bs0.out p hp) (by omega))).mono ?_
  rintro e w14 ⟨y0, uy0, rfl, oy0, b14⟩
  replace rd0 := rd0.below (b14.mono HB.size)
  replace rd1 := rd1.below (b14.mono HB.size)
  replace ow0 := ow0.below b14
  replace ow1 := ow1.below b14
  replace ox0 := ox0.below b14
  replace ox1 := ox1.below b14
  replace og0 := og0.below b14
  replace og1 := og1.below b14
  have z14 := b14.size
  replace HB := HB.trans (b14.mono HB.size)
  go_wp2_with (fail)
  refine (eqPartS_b _ _ xs0 _ ox0.slice oy0.slice).mono ?_
  rintro e w15 ⟨rfl, b15⟩
  replace rd0 := rd0.below (b15.mono HB.size)
  replace rd1 := rd1.below (b15.mono HB.size)
  replace ow0 := ow0.below b15
  replace ow1 := ow1.below b15
  replace ox0 := ox0.below b15
  replace ox1 := ox1.below b15
  replace og0 := og0.below b15
  replace og1 := og1.below b15
  replace oy0 := oy0.below b15
  have z15 := b15.size
  replace HB := HB.trans (b15.mono HB.size)
  go_wp2_with (fail)
  refine (toPartS_l _ xs1 _ (rd1.mono HB.size) (by omega) (fun p hp => Nat.le_trans (Bs1.out p hp) (by omega))).mono ?_
  rintro e w16 ⟨y1, uy1, rfl, oy1, b16⟩
  replace rd0 := rd0.below (b16.mono HB.size)
  replace rd1 := rd1.below (b16.mono HB.size)
  replace ow0 := ow0.below b16
  replace ow1 := ow1.below b16
  replace ox0 := ox0.below b16
  replace ox1 := ox1.below b16
  replace og0 := og0.below b16
  replace og1 := og1.below b16
  have z16 := b16.size
  replace HB := HB.trans (b16.mono HB.size)
  go_wp2_with (fail)
  refine (eqPartS_b _ _ xs1 _ ox1.slice oy1.slice).mono ?_
  rintro e w17 ⟨rfl, b17⟩
  replace rd0 := rd0.below (b17.mono HB.size)
  replace rd1 := rd1.below (b17.mono HB.size)
  replace ow0 := ow0.below b17
  replace ow1 := ow1.below b17
  replace ox0 := ox0.below b17
  replace ox1 := ox1.below b17
  replace og0 := og0.below b17
  replace og1 := og1.below b17
  replace oy1 := oy1.below b17
  have z17 := b17.size
  replace HB := HB.trans (b17.mono HB.size)
  have sk0 : Pl.small xs0 1 := ⟨by omega, by omega, fun p hp => Nat.le_trans (Bs0.out p hp) (by omega), by omega⟩
  have sb0 := markN_bd sk0
  obtain ⟨sbl0, sbu0⟩ := sb0
  have Sk0 := Lib.hid sk0
  clear sk0
  go_wp2_with (fail)
  refine (markPartS_l _ _ _ xs0 _ 1 _ ox0 Sk0.out).mono ?_
  rintro e w18 ⟨rfl, p18, c18⟩
  replace rd0 := rd0.within c18 (by omega)
  replace rd1 := rd1.within c18 (by omega)
  replace ow0 := ow0.within c18 (by omega)
  replace ow1 := ow1.within c18 (by omega)
  replace ox1 := ox1.within c18 (by omega)
  replace og0 := og0.within c18 (by omega)
  replace og1 := og1.within c18 (by omega)
  have z18 := Nat.le_of_eq c18.size
  have y18 := Nat.le_of_eq c18.size.symm
  replace HB := HB.trans (c18.below (by omega))
  replace ox0 := p18
  clear p18
  have sk1 : Pl.small xs1 (Pl.markN xs0 1) := ⟨by omega, by omega, fun p hp => Nat.le_trans (Bs1.out p hp) (by omega), by omega⟩
  have sb1 := markN_bd sk1
  obtain ⟨sbl1, sbu1⟩ := sb1
  have Sk1 := Lib.hid sk1
  clear sk1
  go_wp2_with (fail)
  refine (markPartS_l _ _ _ xs1 _ (Pl.markN xs0 1) _ ox1 Sk1.out).mono ?_
  rintro e w19 ⟨rfl, p19, c19⟩
  replace rd0 := rd0.within c19 (by omega)
  replace rd1 := rd1.within c19 (by omega)
  replace ow0 := ow0.within c19 (by omega)
  replace ow1 := ow1.within c19 (by omega)
  replace ox0 := ox0.within c19 (by omega)
  replace og0 := og0.within c19 (by omega)
  replace og1 := og1.within c19 (by omega)
  have z19 := Nat.le_of_eq c19.size
  have y19 := Nat.le_of_eq c19.size.symm
  replace HB := HB.trans (c19.below (by omega))
  replace ox1 := p19
  clear p19
  go_wp2_with (fail)
  refine (eqPartS_b _ _ (Pl.trans1 xs0 xs1) _ og0.slice ow0.slice).mono ?_
  rintro e w20 ⟨rfl, b20⟩
  replace rd0 := rd0.below (b20.mono HB.size)
  replace rd1 := rd1.below (b20.mono HB.size)
  replace ow0 := ow0.below b20
  replace ow1 := ow1.below b20
  replace og0 := og0.below b20
  replace og1 := og1.below b20
  have z20 := b20.size
  replace HB := HB.trans (b20.mono HB.size)
  go_wp2_with (fail)
  refine (eqPartS_b _ _ (Pl.trans2 xs0 xs1) _ og1.slice ow1.slice).mono ?_
  rintro e w21 ⟨rfl, b21⟩
  replace rd0 := rd0.below (b21.mono HB.size)
  replace rd1 := rd1.below (b21.mono HB.size)
  replace ow0 := ow0.below b21
  replace ow1 := ow1.below b21
  replace og0 := og0.below b21
  replace og1 := og1.below b21
  have z21 := b21.size
  replace HB := HB.trans (b21.mono HB.size)
  have tk0 : Pl.small (Pl.trans1 xs0 xs1) 1 := trans1_small _ _ _ (by omega) (by omega)
  obtain ⟨tbl0, tbu0⟩ := markN_bd tk0
  have Tk0 := Lib.hid tk0
  clear tk0
  go_wp2_with (fail)
  refine (markPartS_k _ _ _ (Pl.trans1 xs0 xs1) _ 1 _ og0 Tk0.out).mono ?_
  rintro e w22 ⟨rfl, p22, c22, k22⟩
  replace rd0 := rd0.within c22 (by omega)
  replace rd1 := rd1.within c22 (by omega)
  replace ow0 := ow0.within c22 (by omega)
  replace ow1 := ow1.within c22 (by omega)
  have z22 := Nat.le_of_eq c22.size
  have y22 := Nat.le_of_eq c22.size.symm
  replace HB := HB.trans (c22.below (by omega))
  replace og1 := og1.kept k22 (fun g hg hh => apg g hh hg)
  replace og0 := p22
  clear p22 k22
  have tk1 : Pl.small (Pl.trans2 xs0 xs1) (Pl.markN (Pl.trans1 xs0 xs1) 1) := trans2_small _ _ _ (by omega) (by omega)
  obtain ⟨tbl1, tbu1⟩ := markN_bd tk1
  have Tk1 := Lib.hid tk1
  clear tk1
  go_wp2_with (fail)
  refine (markPartS_k _ _ _ (Pl.trans2 xs0 xs1) _ (Pl.markN (Pl.trans1 xs0 xs1) 1) _ og1 Tk1.out).mono ?_
  rintro e w23 ⟨rfl, p23, c23, k23⟩
  replace rd0 := rd0.within c23 (by omega)
  replace rd1 := rd1.within c23 (by omega)
  replace ow0 := ow0.within c23 (by omega)
  replace ow1 := ow1.within c23 (by omega)
  have z23 := Nat.le_of_eq c23.size
  have y23 := Nat.le_of_eq c23.size.symm
  replace HB := HB.trans (c23.below (by omega))
  replace og0 := og0.kept k23 (fun g hg hh => apg g hg hh)
  replace og1 := p23
  clear p23 k23
  go_wp2_with (fail)
  refine (heldPartS_l _ _ (Pl.trans1 xs0 xs1) 1 _ og0.slice Tk0.out).mono ?_
  rintro e w24 ⟨rfl, rfl⟩
  go_wp2_with (fail)
  refine (heldPartS_l _ _ (Pl.trans2 xs0 xs1) (Pl.markN (Pl.trans1 xs0 xs1) 1) _ og1.slice Tk1.out).mono ?_
  rintro e w25 ⟨rfl, rfl⟩
  go_wp2_with (fail)
  refine (toPartS_l _ xs0 _ (rd0.mono HB.size) (by omega) (fun p hp => Nat.le_trans (Bs0.out p hp) (by omega))).mono ?_
  rintro e w26 ⟨t0, ut0, rfl, ot0, b26⟩
  replace rd0 := rd0.below (b26.mono HB.size)
  replace rd1 := rd1.below (b26.mono HB.size)
  replace ow0 := ow0.below b26
  replace ow1 := ow1.below b26
  replace og0 := og0.below b26
  replace og1 := og1.below b26
  have z26 := b26.size
  replace HB := HB.trans (b26.mono HB.size)
  go_wp2_with (fail)
  refine (toPartS_l _ xs1 _ (rd1.mono HB.size) (by omega) (fun p hp => Nat.le_trans (Bs1.out p hp) (by omega))).mono ?_
  rintro e w27 ⟨t1, ut1, rfl, ot1, b27⟩
  replace rd0 := rd0.below (b27.mono HB.size)
  replace rd1 := rd1.below (b27.mono HB.size)
  replace ow0 := ow0.below b27
  replace ow1 := ow1.below b27
  replace og0 := og0.below b27
  replace og1 := og1.below b27
  replace ot0 := ot0.below b27
  have z27 := b27.size
  replace HB := HB.trans (b27.mono HB.size)
  go_wp2_with (fail)
  refine (transform_ix _ _ xs0 xs1 _ ot0.slice ot1.slice).mono ?_
  rintro e w28 ⟨h0, uh0, h1, uh1, rfl, oh0, oh1, b28, aph⟩
  replace rd0 := rd0.below (b28.mono HB.size)
  replace rd1 := rd1.below (b28.mono HB.size)
  replace ow0 := ow0.below b28
  replace ow1 := ow1.below b28
  replace og0 := og0.below b28
  replace og1 := og1.below b28
  replace ot0 := ot0.below b28
  replace ot1 := ot1.below b28
  have z28 := b28.size
  replace HB := HB.trans (b28.mono HB.size)
  go_wp2_with (fail)
  refine (eqPartS_b _ _ (Pl.trans1 xs0 xs1) _ oh0.slice ow0.slice).mono ?_
  rintro e w29 ⟨rfl, b29⟩
  replace rd0 := rd0.below (b29.mono HB.size)
  replace rd1 := rd1.below (b29.mono HB.size)
  replace ow0 := ow0.below b29
  replace ow1 := ow1.below b29
  replace og0 := og0.below b29
  replace og1 := og1.below b29
  replace oh0 := oh0.below b29
  replace oh1 := oh1.below b29
  have z29 := b29.size
  replace HB := HB.trans (b29.mono HB.size)
  go_wp2_with (fail)
  refine (eqPartS_b _ _ (Pl.trans2 xs0 xs1) _ oh1.slice ow1.slice).mono ?_
  rintro e w30 ⟨rfl, b30⟩
  replace rd0 := rd0.below (b30.mono HB.size)
  replace rd1 := rd1.below (b30.mono HB.size)
  replace ow0 := ow0.below b30
  replace ow1 := ow1.below b30
  replace og0 := og0.below b30
  replace og1 := og1.below b30
  replace oh0 := oh0.below b30
  replace oh1 := oh1.below b30
  have z30 := b30.size
  replace HB := HB.trans (b30.mono HB.size)
  go_wp2_with (fail)
  refine (heldPartS_l _ _ (Pl.trans1 xs0 xs1) 1 _ og0.slice Tk0.out).mono ?_
  rintro e w31 ⟨rfl, rfl⟩
  go_wp2_with (fail)
  refine (heldPartS_l _ _ (Pl.trans2 xs0 xs1) (Pl.markN (Pl.trans1 xs0 xs1) 1) _ og1.slice Tk1.out).mono ?_
  rintro e w32 ⟨rfl, rfl⟩
  go_wp2_with (fail)
  go_ret
  exact ⟨rfl, HB⟩

set_option maxRecDepth 100000 in
theorem lifted (os : Os) (started : os.Started) (H : Type) (enc : TypeId × Value → H) :
    ReturnsInHanded {} Try.checked os 9 .any (Rows.fnExactTransformSpec.pre6 enc Try.prog Try.f9 Rows.fnExactTransformRow.domain false) (Rows.fnExactTransformSpec.post enc Try.prog Try.f9 false true false false) := by
  refine returnsInHanded_of_change (C := Try.checked) ownNone started (by kernel_rfl) Try.func9
    (ChangeSpec.witness6 (enc := enc) (C := Try.checked) false ⟨#[], #[.slice none 0 0, .slice none 0 0], []⟩ 8 (by kernel_rfl) (by kernel_rfl) (by kernel_rfl) (by kernel_rfl)) ?_
  intro W base args ds gs before hval0 hW hcnd _
  have hval : ∀ (j : Nat) t v, Try.f9.params[j]? = some t → args[j]? = some v → Value.okWide Try.prog W .any base t v := hval0
  have hW' := hW
  obtain ⟨p, q, hA0, hV, rfl, hfz, hnd⟩ := hW
  have hA : DataW.TrodAll enc Try.prog W 0 (fun _ => true) true Try.f9.params.toList args.toList ds p := hA0
  rw [Try.params9] at hA hval
  obtain ⟨v0, vs0, d0, ds0, p0, q0, hargs, rfl, rfl, h0, r0⟩ := trodAll_cons hA
  obtain ⟨v1, vs1, d1, ds1, p1, q1, rfl, rfl, rfl, h1, r1⟩ := trodAll_cons r0
  obtain ⟨rfl, rfl, rfl⟩ := trodAll_nil r1
  obtain rfl : args = #[v0, v1] := by cases args; simp_all
  obtain ⟨rfl, rfl⟩ := trodVars_none hV
  obtain ⟨a0, s0, w0⟩ := open_partS (hval 0 50 v0 rfl rfl) h0 (fun x hx => hW'.lt x (by simp [hx]))
  obtain ⟨a1, s1, w1⟩ := open_partS (hval 1 50 v1 rfl rfl) h1 (fun x hx => hW'.lt x (by simp [hx]))
  clear hA0 hval0
  refine (walk W v0 a0 s0 w0 v1 a1 s1 w1).mono fun e W' ⟨he, hb⟩ => ?_
  subst he
  exact ⟨_, rfl, law_post hW' rfl hb (by kernel_rfl) (by kernel_rfl) rfl⟩

theorem over : Rows.fnExactTransformRow.holds Try.pinned (OpenSpec.ofChange Rows.fnExactTransformSpec) :=
  OpenClaim.holds_of_wide 9 Try.f9 rfl rfl rfl rfl rfl rfl rfl ⟨rfl, rfl, rfl, rfl, rfl⟩ rfl rfl rfl rfl rfl (by kernel_rfl) Try.func9 (by kernel_rfl)
    (of_decide_eq_true (by kernel_rfl)) (by unfold Func.isWrapper; first | (rw [if_pos (by decide +kernel)]; kernel_rfl) | (rw [if_neg (by decide +kernel)]; exact ⟨rfl, rfl⟩))
    (fun os started H enc _ => lifted os started H enc)

/-- The given statement. -/
theorem proved : Rows.FnExactTransformSaid :=
  over
end Go.Proofs.Ytlpjbbmjchfolaa.fnExactTransform
