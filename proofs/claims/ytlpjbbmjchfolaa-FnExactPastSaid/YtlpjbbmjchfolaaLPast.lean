/- The law FnExactPast returns true for every argument and leaves memory as it was. Condition: none. -/
import Derived.Test.YtlpjbbmjchfolaaRow
import Derived.Test.YtlpjbbmjchfolaaMarkss
import Derived.Test.YtlpjbbmjchfolaaRowOps
import Derived.Test.YtlpjbbmjchfolaaPastXS
namespace Go.Proofs.Ytlpjbbmjchfolaa.fnExactPast
open Go.ChangeShapes Go.WideShapes Go.ChangeAt Go.RowKit
set_option maxRecDepth 100000
set_option linter.unusedVariables false

set_option maxHeartbeats 2000000 in
set_option maxRecDepth 100000 in
theorem walk (w : World) (v0 : Value) (xs0 : List (List Pt)) (r0 : SliceOps w.heap.size w v0 xs0) (l0 : xs0.length ≤ maxLen) (v1 : Value) (xs1 : List Pt) (r1 : SliceParts w.heap.size w v1 xs1) (l1 : xs1.length ≤ maxLen) : Calls Try.prog 11 #[v0, v1] w fun e w' => e = .returned (.bool true) ∧ Below w.heap.size w w' := by
  have rd0 := r0
  obtain ⟨A0, c0, rfl, -, -⟩ := r0
  have rd1 := r1
  obtain ⟨A1, c1, rfl, -, -⟩ := r1
  by_cases q0 : 0 ≤ Pl.szSS xs0 1048576
  rotate_left
  · have q0' : Pl.szSS xs0 1048576 < 0 := by omega
    have HB := Below.refl w.heap.size w
    go_enter Try.func11, Try.ntmps11
    go_wp2_with (fail)
    refine (szPartSS_l _ xs0 1048576 _ (rd0.mono HB.size) (by omega) (by omega)).mono ?_
    rintro e w1 ⟨rfl, b1⟩
    replace rd0 := rd0.below (b1.mono HB.size)
    replace rd1 := rd1.below (b1.mono HB.size)
    have z1 := b1.size
    replace HB := HB.trans (b1.mono HB.size)
    go_wp2_with (fail)
    go_ret
    exact ⟨rfl, HB⟩
  by_cases q1 : 0 ≤ Pl.szS xs1 (Pl.szSS xs0 1048576)
  rotate_left
  · have q1' : Pl.szS xs1 (Pl.szSS xs0 1048576) < 0 := by omega
    have g0 := szSS_le (ps := xs0) (left := 1048576) (by omega)
    have HB := Below.refl w.heap.size w
    go_enter Try.func11, Try.ntmps11
    go_wp2_with (fail)
    refine (szPartSS_l _ xs0 1048576 _ (rd0.mono HB.size) (by omega) (by omega)).mono ?_
    rintro e w2 ⟨rfl, b2⟩
    replace rd0 := rd0.below (b2.mono HB.size)
    replace rd1 := rd1.below (b2.mono HB.size)
    have z2 := b2.size
    replace HB := HB.trans (b2.mono HB.size)
    go_wp2_with (fail)
    refine (szPartS_l _ xs1 (Pl.szSS xs0 1048576) _ (rd1.mono HB.size) (by assumption) (by omega)).mono ?_
    rintro e w3 ⟨rfl, b3⟩
    replace rd0 := rd0.below (b3.mono HB.size)
    replace rd1 := rd1.below (b3.mono HB.size)
    have z3 := b3.size
    replace HB := HB.trans (b3.mono HB.size)
    go_wp2_with (fail)
    go_ret
    exact ⟨rfl, HB⟩
  have g0 := szSS_le (ps := xs0) (left := 1048576) (by omega)
  obtain ⟨bl0, bs0⟩ := szSS_nat (ps := xs0) (left := 1048576) (by omega) (by omega) q0
  have Bs0 := Lib.hid bs0
  clear bs0
  have g1 := szS_le (ps := xs1) (left := (Pl.szSS xs0 1048576)) (by omega)
  obtain ⟨bl1, bs1⟩ := szS_nat (ps := xs1) (left := (Pl.szSS xs0 1048576)) (by omega) (by omega) q1
  have Bs1 := Lib.hid bs1
  clear bs1
  have HB := Below.refl w.heap.size w
  go_enter Try.func11, Try.ntmps11
  go_wp2_with (fail)
  refine (szPartSS_l _ xs0 1048576 _ (rd0.mono HB.size) (by omega) (by omega)).mono ?_
  rintro e w4 ⟨rfl, b4⟩
  replace rd0 := rd0.below (b4.mono HB.size)
  replace rd1 := rd1.below (b4.mono HB.size)
  have z4 := b4.size
  replace HB := HB.trans (b4.mono HB.size)
  go_wp2_with (fail)
  refine (szPartS_l _ xs1 (Pl.szSS xs0 1048576) _ (rd1.mono HB.size) (by assumption) (by omega)).mono ?_
  rintro e w5 ⟨rfl, b5⟩
  replace rd0 := rd0.below (b5.mono HB.size)
  replace rd1 := rd1.below (b5.mono HB.size)
  have z5 := b5.size
  replace HB := HB.trans (b5.mono HB.size)
  go_wp2_with (fail)
  refine (toPartSS_l _ xs0 _ (rd0.mono HB.size) (by omega) Bs0.out).mono ?_
  rintro e w6 ⟨s0, us0, ds0, rfl, os0, b6⟩
  replace rd0 := rd0.below (b6.mono HB.size)
  replace rd1 := rd1.below (b6.mono HB.size)
  have z6 := b6.size
  replace HB := HB.trans (b6.mono HB.size)
  go_wp2_with (fail)
  refine (toPartS_l _ xs1 _ (rd1.mono HB.size) (by omega) (fun p hp => Nat.le_trans (Bs1.out p hp) (by omega))).mono ?_
  rintro e w7 ⟨s1, us1, rfl, os1, b7⟩
  replace rd0 := rd0.below (b7.mono HB.size)
  replace rd1 := rd1.below (b7.mono HB.size)
  replace os0 := os0.below b7
  have z7 := b7.size
  replace HB := HB.trans (b7.mono HB.size)
  go_wp2_with (fail)
  refine (pastV_sx _ _ xs0 xs1 _ os0.slice os1.slice (by omega)).mono ?_
  rintro e w8 ⟨w0, uw0, rfl, ow0, b8⟩
  replace rd0 := rd0.below (b8.mono HB.size)
  replace rd1 := rd1.below (b8.mono HB.size)
  replace os0 := os0.below b8
  replace os1 := os1.below b8
  have z8 := b8.size
  replace HB := HB.trans (b8.mono HB.size)
  go_wp2_with (fail)
  refine (toPartSS_l _ xs0 _ (rd0.mono HB.size) (by omega) Bs0.out).mono ?_
  rintro e w9 ⟨x0, ux0, dx0, rfl, ox0, b9⟩
  replace rd0 := rd0.below (b9.mono HB.size)
  replace rd1 := rd1.below (b9.mono HB.size)
  replace ow0 := ow0.below b9
  have z9 := b9.size
  replace HB := HB.trans (b9.mono HB.size)
  go_wp2_with (fail)
  refine (toPartS_l _ xs1 _ (rd1.mono HB.size) (by omega) (fun p hp => Nat.le_trans (Bs1.out p hp) (by omega))).mono ?_
  rintro e w10 ⟨x1, ux1, rfl, ox1, b10⟩
  replace rd0 := rd0.below (b10.mono HB.size)
  replace rd1 := rd1.below (b10.mono HB.size)
  replace ow0 := ow0.below b10
  replace ox0 := ox0.below b10
  have z10 := b10.size
  replace HB := HB.trans (b10.mono HB.size)
  go_wp2_with (fail)
  refine (pastV_ix _ _ xs0 xs1 _ ox0.slice ox1.slice (by omega)).mono ?_
  rintro e w11 ⟨g0, ug0, rfl, og0, b11⟩
  replace rd0 := rd0.below (b11.mono HB.size)
  replace rd1 := rd1.below (b11.mono HB.size)
  replace ow0 := ow0.below b11
  replace ox0 := ox0.below b11
  replace ox1 := ox1.below b11
  have z11 := b11.size
  replace HB := HB.trans (b11.mono HB.size)
  go_wp2_with (fail)
  refine (eqPartS_b _ _ (Pl.ppV xs0 xs1) _ og0.slice ow0.slice).mono ?_
  rintro e w12 ⟨rfl, b12⟩
  replace rd0 := rd0.below (b12.mono HB.size)
  replace rd1 := rd1.below (b12.mono HB.size)
  replace ow0 := ow0.below b12
  replace ox0 := ox0.below b12
  replace ox1 := ox1.below b12
  replace og0 := og0.below b12
  have z12 := b12.size
  replace HB := HB.trans (b12.mono HB.size)
  go_wp2_with (fail)
  refine (toPartSS_l _ xs0 _ (rd0.mono HB.size) (by omega) Bs0.out).mono ?_
  rintro e w13 ⟨y0, uy0, dy0, rfl, oy0, b13⟩
  replace rd0 := rd0.below (b13.mono HB.size)
  replace rd1 := rd1.below (b13.mono HB.size)
  replace ow0 := ow0.below b13
  replace ox0 := ox0.below b13
  replace ox1 := ox1.below b13
  replace og0 := og0.below b13
  have z13 := b13.size
  replace HB := HB.trans (b13.mono HB.size)
  go_wp2_with (fail)
  refine (eqPartSS_b _ _ xs0 _ ox0.slice oy0.slice).mono ?_
  rintro e w14 ⟨rfl, b14⟩
  replace rd0 := rd0.below (b14.mono HB.size)
  replace rd1 := rd1.below (b14.mono HB.size)
  replace ow0 := ow0.below b14
  replace ox0 := ox0.below b14
  replace ox1 := ox1.below b14
  replace og0 := og0.below b14
  replace oy0 := oy0.below b14
  have z14 := b14.size
  replace HB := HB.trans (b14.mono HB.size)
  go_wp2_with (fail)
  refine (toPartS_l _ xs1 _ (rd1.mono HB.size) (by omega) (fun p hp => Nat.le_trans (Bs1.out p hp) (by omega))).mono ?_
  rintro e w15 ⟨y1, uy1, rfl, oy1, b15⟩
  replace rd0 := rd0.below (b15.mono HB.size)
  replace rd1 := rd1.below (b15.mono HB.size)
  replace ow0 := ow0.below b15
  replace ox0 := ox0.below b15
  replace ox1 := ox1.below b15
  replace og0 := og0.below b15
  have z15 := b15.size
  replace HB := HB.trans (b15.mono HB.size)
  go_wp2_with (fail)
  refine (eqPartS_b _ _ xs1 _ ox1.slice oy1.slice).mono ?_
  rintro e w16 ⟨rfl, b16⟩
  replace rd0 := rd0.below (b16.mono HB.size)
  replace rd1 := rd1.below (b16.mono HB.size)
  replace ow0 := ow0.below b16
  replace ox0 := ox0.below b16
  replace ox1 := ox1.below b16
  replace og0 := og0.below b16
  replace oy1 := oy1.below b16
  have z16 := b16.size
  replace HB := HB.trans (b16.mono HB.size)
  obtain ⟨sk0, sbu0⟩ := smallS_of (os := xs0) (left := 1048576) (k := 1) (by omega) (by omega) q0 (by omega) (by omega)
  have sbl0 := markNN_le xs0 1
  have Sk0 := Lib.hid sk0
  clear sk0
  go_wp2_with (fail)
  refine (markPartSS_l _ _ _ xs0 _ _ 1 _ ox0 Sk0.out (by omega)).mono ?_
  rintro e w17 ⟨rfl, c17⟩
  replace rd0 := rd0.within c17 (by omega)
  replace rd1 := rd1.within c17 (by omega)
  replace ow0 := ow0.within c17 (by omega)
  replace ox1 := ox1.within c17 (by omega)
  replace og0 := og0.within c17 (by omega)
  have z17 := Nat.le_of_eq c17.size
  have y17 := Nat.le_of_eq c17.size.symm
  replace HB := HB.trans (c17.below (by omega))
  have sk1 : Pl.small xs1 (Pl.markNN xs0 1) := ⟨by omega, by omega, fun p hp => Nat.le_trans (Bs1.out p hp) (by omega), by omega⟩
  have sb1 := markN_bd sk1
  obtain ⟨sbl1, sbu1⟩ := sb1
  have Sk1 := Lib.hid sk1
  clear sk1
  go_wp2_with (fail)
  refine (markPartS_l _ _ _ xs1 _ (Pl.markNN xs0 1) _ ox1 Sk1.out).mono ?_
  rintro e w18 ⟨rfl, p18, c18⟩
  replace rd0 := rd0.within c18 (by omega)
  replace rd1 := rd1.within c18 (by omega)
  replace ow0 := ow0.within c18 (by omega)
  replace og0 := og0.within c18 (by omega)
  have z18 := Nat.le_of_eq c18.size
  have y18 := Nat.le_of_eq c18.size.symm
  replace HB := HB.trans (c18.below (by omega))
  replace ox1 := p18
  clear p18
  go_wp2_with (fail)
  refine (eqPartS_b _ _ (Pl.ppV xs0 xs1) _ og0.slice ow0.slice).mono ?_
  rintro e w19 ⟨rfl, b19⟩
  replace rd0 := rd0.below (b19.mono HB.size)
  replace rd1 := rd1.below (b19.mono HB.size)
  replace ow0 := ow0.below b19
  replace og0 := og0.below b19
  have z19 := b19.size
  replace HB := HB.trans (b19.mono HB.size)
  have tk0 : Pl.small (Pl.ppV xs0 xs1) 1 := ppV_small _ _ _ (by omega) (by omega)
  obtain ⟨tbl0, tbu0⟩ := markN_bd tk0
  have Tk0 := Lib.hid tk0
  clear tk0
  go_wp2_with (fail)
  refine (markPartS_l _ _ _ (Pl.ppV xs0 xs1) _ 1 _ og0 Tk0.out).mono ?_
  rintro e w20 ⟨rfl, p20, c20⟩
  replace rd0 := rd0.within c20 (by omega)
  replace rd1 := rd1.within c20 (by omega)
  replace ow0 := ow0.within c20 (by omega)
  have z20 := Nat.le_of_eq c20.size
  have y20 := Nat.le_of_eq c20.size.symm
  replace HB := HB.trans (c20.below (by omega))
  replace og0 := p20
  clear p20
  go_wp2_with (fail)
  refine (heldPartS_l _ _ (Pl.ppV xs0 xs1) 1 _ og0.slice Tk0.out).mono ?_
  rintro e w21 ⟨rfl, rfl⟩
  go_wp2_with (fail)
  refine (toPartSS_l _ xs0 _ (rd0.mono HB.size) (by omega) Bs0.out).mono ?_
  rintro e w22 ⟨t0, ut0, dt0, rfl, ot0, b22⟩
  replace rd0 := rd0.below (b22.mono HB.size)
  replace rd1 := rd1.below (b22.mono HB.size)
  replace ow0 := ow0.below b22
  replace og0 := og0.below b22
  have z22 := b22.size
  replace HB := HB.trans (b22.mono HB.size)
  go_wp2_with (fail)
  refine (toPartS_l _ xs1 _ (rd1.mono HB.size) (by omega) (fun p hp => Nat.le_trans (Bs1.out p hp) (by omega))).mono ?_
  rintro e w23 ⟨t1, ut1, rfl, ot1, b23⟩
  replace rd0 := rd0.below (b23.mono HB.size)
  replace rd1 := rd1.below (b23.mono HB.size)
  replace ow0 := ow0.below b23
  replace og0 := og0.below b23
  replace ot0 := ot0.below b23
  have z23 := b23.size
  replace HB := HB.trans (b23.mono HB.size)
  go_wp2_with (fail)
  refine (pastV_ix _ _ xs0 xs1 _ ot0.slice ot1.slice (by omega)).mono ?_
  rintro e w24 ⟨h0, uh0, rfl, oh0, b24⟩
  replace rd0 := rd0.below (b24.mono HB.size)
  replace rd1 := rd1.below (b24.mono HB.size)
  replace ow0 := ow0.below b24
  replace og0 := og0.below b24
  replace ot0 := ot0.below b24
  replace ot1 := ot1.below b24
  have z24 := b24.size
  replace HB := HB.trans (b24.mono HB.size)
  go_wp2_with (fail)
  refine (eqPartS_b _ _ (Pl.ppV xs0 xs1) _ oh0.slice ow0.slice).mono ?_
  rintro e w25 ⟨rfl, b25⟩
  replace rd0 := rd0.below (b25.mono HB.size)
  replace rd1 := rd1.below (b25.mono HB.size)
  replace ow0 := ow0.below b25
  replace og0 := og0.below b25
  replace oh0 := oh0.below b25
  have z25 := b25.size
  replace HB := HB.trans (b25.mono HB.size)
  go_wp2_with (fail)
  refine (heldPartS_l _ _ (Pl.ppV xs0 xs1) 1 _ og0.slice Tk0.out).mono ?_
  rintro e w26 ⟨rfl, rfl⟩
  go_wp2_with (fail)
  go_ret
  exact ⟨rfl, HB⟩

set_option maxRecDepth 100000 in
theorem lifted (os : Os) (started : os.Started) (H : Type) (enc : TypeId × Value → H) :
    ReturnsInHanded {} Try.checked os 11 .any (Rows.fnExactPastSpec.pre6 enc Try.prog Try.f11 Rows.fnExactPastRow.domain false) (Rows.fnExactPastSpec.post enc Try.prog Try.f11 false true false false) := by
  refine returnsInHanded_of_change (C := Try.checked) ownNone started (by kernel_rfl) Try.func11
    (ChangeSpec.witness6 (enc := enc) (C := Try.checked) false ⟨#[], #[.slice none 0 0, .slice none 0 0], []⟩ 8 (by kernel_rfl) (by kernel_rfl) (by kernel_rfl) (by kernel_rfl)) ?_
  intro W base args ds gs before hval0 hW hcnd _
  have hval : ∀ (j : Nat) t v, Try.f11.params[j]? = some t → args[j]? = some v → Value.okWide Try.prog W .any base t v := hval0
  have hW' := hW
  obtain ⟨p, q, hA0, hV, rfl, hfz, hnd⟩ := hW
  have hA : DataW.TrodAll enc Try.prog W 0 (fun _ => true) true Try.f11.params.toList args.toList ds p := hA0
  rw [Try.params11] at hA hval
  obtain ⟨v0, vs0, d0, ds0, p0, q0, hargs, rfl, rfl, h0, r0⟩ := trodAll_cons hA
  obtain ⟨v1, vs1, d1, ds1, p1, q1, rfl, rfl, rfl, h1, r1⟩ := trodAll_cons r0
  obtain ⟨rfl, rfl, rfl⟩ := trodAll_nil r1
  obtain rfl : args = #[v0, v1] := by cases args; simp_all
  obtain ⟨rfl, rfl⟩ := trodVars_none hV
  obtain ⟨a0, s0, w0⟩ := open_partSS (hval 0 55 v0 rfl rfl) h0 (fun x hx => hW'.lt x (by simp [hx]))
  obtain ⟨a1, s1, w1⟩ := open_partS (hval 1 50 v1 rfl rfl) h1 (fun x hx => hW'.lt x (by simp [hx]))
  clear hA0 hval0
  refine (walk W v0 a0 s0 w0 v1 a1 s1 w1).mono fun e W' ⟨he, hb⟩ => ?_
  subst he
  exact ⟨_, rfl, law_post hW' rfl hb (by kernel_rfl) (by kernel_rfl) rfl⟩

theorem over : Rows.fnExactPastRow.holds Try.pinned (OpenSpec.ofChange Rows.fnExactPastSpec) :=
  OpenClaim.holds_of_wide 11 Try.f11 rfl rfl rfl rfl rfl rfl rfl ⟨rfl, rfl, rfl, rfl, rfl⟩ rfl rfl rfl rfl rfl (by kernel_rfl) Try.func11 (by kernel_rfl)
    (of_decide_eq_true (by kernel_rfl)) (by unfold Func.isWrapper; first | (rw [if_pos (by decide +kernel)]; kernel_rfl) | (rw [if_neg (by decide +kernel)]; exact ⟨rfl, rfl⟩))
    (fun os started H enc _ => lifted os started H enc)

/-- The given statement. -/
theorem proved : Rows.FnExactPastSaid :=
  over
end Go.Proofs.Ytlpjbbmjchfolaa.fnExactPast
