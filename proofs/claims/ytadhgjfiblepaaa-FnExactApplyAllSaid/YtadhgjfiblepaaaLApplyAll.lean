/- The law FnExactApplyAll returns true for every argument and leaves memory as it was. Condition: none. -/
import Derived.Test.YtadhgjfiblepaaaRow
import Derived.Test.YtadhgjfiblepaaaMarkss
import Derived.Test.YtadhgjfiblepaaaRowOps
import Derived.Test.YtadhgjfiblepaaaApplyAll
namespace Go.Proofs.Ytadhgjfiblepaaa.fnExactApplyAll
open Go.ChangeShapes Go.WideShapes Go.ChangeAt Go.RowKit
set_option maxRecDepth 100000
set_option linter.unusedVariables false

set_option maxHeartbeats 2000000 in
set_option maxRecDepth 100000 in
theorem walk (w : World) (v0 : Value) (xs0 : List (List Pt)) (r0 : SliceOps w.heap.size w v0 xs0) (l0 : xs0.length ≤ maxLen) (v1 : Value) (xs1 : List Int) (r1 : SliceInts w.heap.size w v1 xs1) (l1 : xs1.length ≤ maxLen) : Calls Try.prog 13 #[v0, v1] w fun e w' => e = .returned (.bool true) ∧ Below w.heap.size w w' := by
  have rd0 := r0
  obtain ⟨A0, c0, rfl, -, -⟩ := r0
  have rd1 := r1
  obtain ⟨A1, c1, rfl, -, -⟩ := r1
  by_cases sm0 : xs1.length ≤ 1048576
  rotate_left
  · go_enter Try.func13, Try.ntmps13
    go_wp2_with (fail)
    go_ret
    exact ⟨rfl, Below.refl _ _⟩
  by_cases q0 : 0 ≤ Pl.szSS xs0 1048576
  rotate_left
  · have q0' : Pl.szSS xs0 1048576 < 0 := by omega
    have HB := Below.refl w.heap.size w
    go_enter Try.func13, Try.ntmps13
    go_wp2_with (fail)
    refine (szPartSS_l _ xs0 1048576 _ (rd0.mono HB.size) (by omega) (by omega)).mono ?_
    rintro e w1 ⟨rfl, b1⟩
    replace rd0 := rd0.below (b1.mono HB.size)
    replace rd1 := rd1.below (b1.mono HB.size)
    have z1 := b1.size
    replace HB := HB.trans (b1.mono HB.size)
    go_wp2_with (fail)
    go_ret
    exact ⟨rfl, HB⟩
  have g0 := szSS_le (ps := xs0) (left := 1048576) (by omega)
  obtain ⟨bl0, bs0⟩ := szSS_nat (ps := xs0) (left := 1048576) (by omega) (by omega) q0
  have Bs0 := Lib.hid bs0
  clear bs0
  have HB := Below.refl w.heap.size w
  go_enter Try.func13, Try.ntmps13
  go_wp2_with (fail)
  refine (szPartSS_l _ xs0 1048576 _ (rd0.mono HB.size) (by omega) (by omega)).mono ?_
  rintro e w2 ⟨rfl, b2⟩
  replace rd0 := rd0.below (b2.mono HB.size)
  replace rd1 := rd1.below (b2.mono HB.size)
  have z2 := b2.size
  replace HB := HB.trans (b2.mono HB.size)
  go_wp2_with (fail)
  refine (toPartSS_l _ xs0 _ (rd0.mono HB.size) (by omega) Bs0.out).mono ?_
  rintro e w3 ⟨s0, us0, ds0, rfl, os0, b3⟩
  replace rd0 := rd0.below (b3.mono HB.size)
  replace rd1 := rd1.below (b3.mono HB.size)
  have z3 := b3.size
  replace HB := HB.trans (b3.mono HB.size)
  go_wp2_with (fail)
  refine (toIntS_l _ xs1 _ (rd1.mono HB.size) (by omega)).mono ?_
  rintro e w4 ⟨s1, rfl, os1, b4⟩
  replace rd0 := rd0.below (b4.mono HB.size)
  replace rd1 := rd1.below (b4.mono HB.size)
  replace os0 := os0.below b4
  have z4 := b4.size
  replace HB := HB.trans (b4.mono HB.size)
  go_wp2_with (fail)
  refine (applyAll_s _ _ xs0 xs1 _ os0.slice os1.slice (by omega)).mono ?_
  rintro e w5 ⟨w0, rfl, ow0, b5⟩
  replace rd0 := rd0.below (b5.mono HB.size)
  replace rd1 := rd1.below (b5.mono HB.size)
  replace os0 := os0.below b5
  replace os1 := os1.below b5
  have z5 := b5.size
  replace HB := HB.trans (b5.mono HB.size)
  go_wp2_with (fail)
  refine (toPartSS_l _ xs0 _ (rd0.mono HB.size) (by omega) Bs0.out).mono ?_
  rintro e w6 ⟨x0, ux0, dx0, rfl, ox0, b6⟩
  replace rd0 := rd0.below (b6.mono HB.size)
  replace rd1 := rd1.below (b6.mono HB.size)
  replace ow0 := ow0.below b6
  have z6 := b6.size
  replace HB := HB.trans (b6.mono HB.size)
  go_wp2_with (fail)
  refine (toIntS_l _ xs1 _ (rd1.mono HB.size) (by omega)).mono ?_
  rintro e w7 ⟨x1, rfl, ox1, b7⟩
  replace rd0 := rd0.below (b7.mono HB.size)
  replace rd1 := rd1.below (b7.mono HB.size)
  replace ow0 := ow0.below b7
  replace ox0 := ox0.below b7
  have z7 := b7.size
  replace HB := HB.trans (b7.mono HB.size)
  go_wp2_with (fail)
  refine (applyAll_i _ _ xs0 xs1 _ ox0.slice ox1.slice (by omega)).mono ?_
  rintro e w8 ⟨g0, rfl, og0, b8⟩
  replace rd0 := rd0.below (b8.mono HB.size)
  replace rd1 := rd1.below (b8.mono HB.size)
  replace ow0 := ow0.below b8
  replace ox0 := ox0.below b8
  replace ox1 := ox1.below b8
  have z8 := b8.size
  replace HB := HB.trans (b8.mono HB.size)
  go_wp2_with (fail)
  refine (eqIntS_b _ _ _ (Pl.applyAll xs0 xs1) (Pl.applyAll xs0 xs1) _ og0.slice ow0.slice og0.slice.len).mono ?_
  rintro e w9 ⟨rfl, b9⟩
  replace rd0 := rd0.below (b9.mono HB.size)
  replace rd1 := rd1.below (b9.mono HB.size)
  replace ow0 := ow0.below b9
  replace ox0 := ox0.below b9
  replace ox1 := ox1.below b9
  replace og0 := og0.below b9
  have z9 := b9.size
  replace HB := HB.trans (b9.mono HB.size)
  go_wp2_with (fail)
  refine (toPartSS_l _ xs0 _ (rd0.mono HB.size) (by omega) Bs0.out).mono ?_
  rintro e w10 ⟨y0, uy0, dy0, rfl, oy0, b10⟩
  replace rd0 := rd0.below (b10.mono HB.size)
  replace rd1 := rd1.below (b10.mono HB.size)
  replace ow0 := ow0.below b10
  replace ox0 := ox0.below b10
  replace ox1 := ox1.below b10
  replace og0 := og0.below b10
  have z10 := b10.size
  replace HB := HB.trans (b10.mono HB.size)
  go_wp2_with (fail)
  refine (eqPartSS_b _ _ xs0 _ ox0.slice oy0.slice).mono ?_
  rintro e w11 ⟨rfl, b11⟩
  replace rd0 := rd0.below (b11.mono HB.size)
  replace rd1 := rd1.below (b11.mono HB.size)
  replace ow0 := ow0.below b11
  replace ox0 := ox0.below b11
  replace ox1 := ox1.below b11
  replace og0 := og0.below b11
  replace oy0 := oy0.below b11
  have z11 := b11.size
  replace HB := HB.trans (b11.mono HB.size)
  go_wp2_with (fail)
  refine (toIntS_l _ xs1 _ (rd1.mono HB.size) (by omega)).mono ?_
  rintro e w12 ⟨y1, rfl, oy1, b12⟩
  replace rd0 := rd0.below (b12.mono HB.size)
  replace rd1 := rd1.below (b12.mono HB.size)
  replace ow0 := ow0.below b12
  replace ox0 := ox0.below b12
  replace ox1 := ox1.below b12
  replace og0 := og0.below b12
  have z12 := b12.size
  replace HB := HB.trans (b12.mono HB.size)
  go_wp2_with (fail)
  refine (eqIntS_b _ _ _ xs1 xs1 _ ox1.slice oy1.slice ox1.slice.len).mono ?_
  rintro e w13 ⟨rfl, b13⟩
  replace rd0 := rd0.below (b13.mono HB.size)
  replace rd1 := rd1.below (b13.mono HB.size)
  replace ow0 := ow0.below b13
  replace ox0 := ox0.below b13
  replace ox1 := ox1.below b13
  replace og0 := og0.below b13
  replace oy1 := oy1.below b13
  have z13 := b13.size
  replace HB := HB.trans (b13.mono HB.size)
  obtain ⟨sk0, sbu0⟩ := smallS_of (os := xs0) (left := 1048576) (k := 1) (by omega) (by omega) q0 (by omega) (by omega)
  have sbl0 := markNN_le xs0 1
  have Sk0 := Lib.hid sk0
  clear sk0
  go_wp2_with (fail)
  refine (markPartSS_l _ _ _ xs0 _ _ 1 _ ox0 Sk0.out (by omega)).mono ?_
  rintro e w14 ⟨rfl, c14⟩
  replace rd0 := rd0.within c14 (by omega)
  replace rd1 := rd1.within c14 (by omega)
  replace ow0 := ow0.within c14 (by omega)
  replace ox1 := ox1.within c14 (by omega)
  replace og0 := og0.within c14 (by omega)
  have z14 := Nat.le_of_eq c14.size
  have y14 := Nat.le_of_eq c14.size.symm
  replace HB := HB.trans (c14.below (by omega))
  go_wp2_with (fail)
  refine (markIntS_w _ _ _ xs1 (Pl.markNN xs0 1) _ ox1 (by omega) (by omega) (by omega)).mono ?_
  rintro e w15 ⟨rfl, p15, c15⟩
  replace rd0 := rd0.within c15 (by omega)
  replace rd1 := rd1.within c15 (by omega)
  replace ow0 := ow0.within c15 (by omega)
  replace og0 := og0.within c15 (by omega)
  have z15 := Nat.le_of_eq c15.size
  have y15 := Nat.le_of_eq c15.size.symm
  replace HB := HB.trans (c15.below (by omega))
  replace ox1 := p15
  clear p15
  go_wp2_with (fail)
  refine (eqIntS_b _ _ _ (Pl.applyAll xs0 xs1) (Pl.applyAll xs0 xs1) _ og0.slice ow0.slice og0.slice.len).mono ?_
  rintro e w16 ⟨rfl, b16⟩
  replace rd0 := rd0.below (b16.mono HB.size)
  replace rd1 := rd1.below (b16.mono HB.size)
  replace ow0 := ow0.below b16
  replace og0 := og0.below b16
  have z16 := b16.size
  replace HB := HB.trans (b16.mono HB.size)
  have tk0 : (Pl.applyAll xs0 xs1).length ≤ 4194304 := Nat.le_trans (Pl.applyAll_len xs0 xs1) (by omega)
  go_wp2_with (fail)
  refine (markIntS_w _ _ _ (Pl.applyAll xs0 xs1) 1 _ og0 (by omega) (by omega) tk0).mono ?_
  rintro e w17 ⟨rfl, p17, c17⟩
  replace rd0 := rd0.within c17 (by omega)
  replace rd1 := rd1.within c17 (by omega)
  replace ow0 := ow0.within c17 (by omega)
  have z17 := Nat.le_of_eq c17.size
  have y17 := Nat.le_of_eq c17.size.symm
  replace HB := HB.trans (c17.below (by omega))
  replace og0 := p17
  clear p17
  go_wp2_with (fail)
  refine (heldIntS_l _ _ (Pl.applyAll xs0 xs1).length 1 _ og0.slice (by omega) (by omega) tk0).mono ?_
  rintro e w18 ⟨rfl, rfl⟩
  go_wp2_with (fail)
  refine (toPartSS_l _ xs0 _ (rd0.mono HB.size) (by omega) Bs0.out).mono ?_
  rintro e w19 ⟨t0, ut0, dt0, rfl, ot0, b19⟩
  replace rd0 := rd0.below (b19.mono HB.size)
  replace rd1 := rd1.below (b19.mono HB.size)
  replace ow0 := ow0.below b19
  replace og0 := og0.below b19
  have z19 := b19.size
  replace HB := HB.trans (b19.mono HB.size)
  go_wp2_with (fail)
  refine (toIntS_l _ xs1 _ (rd1.mono HB.size) (by omega)).mono ?_
  rintro e w20 ⟨t1, rfl, ot1, b20⟩
  replace rd0 := rd0.below (b20.mono HB.size)
  replace rd1 := rd1.below (b20.mono HB.size)
  replace ow0 := ow0.below b20
  replace og0 := og0.below b20
  replace ot0 := ot0.below b20
  have z20 := b20.size
  replace HB := HB.trans (b20.mono HB.size)
  go_wp2_with (fail)
  refine (applyAll_i _ _ xs0 xs1 _ ot0.slice ot1.slice (by omega)).mono ?_
  rintro e w21 ⟨h0, rfl, oh0, b21⟩
  replace rd0 := rd0.below (b21.mono HB.size)
  replace rd1 := rd1.below (b21.mono HB.size)
  replace ow0 := ow0.below b21
  replace og0 := og0.below b21
  replace ot0 := ot0.below b21
  replace ot1 := ot1.below b21
  have z21 := b21.size
  replace HB := HB.trans (b21.mono HB.size)
  go_wp2_with (fail)
  refine (eqIntS_b _ _ _ (Pl.applyAll xs0 xs1) (Pl.applyAll xs0 xs1) _ oh0.slice ow0.slice oh0.slice.len).mono ?_
  rintro e w22 ⟨rfl, b22⟩
  replace rd0 := rd0.below (b22.mono HB.size)
  replace rd1 := rd1.below (b22.mono HB.size)
  replace ow0 := ow0.below b22
  replace og0 := og0.below b22
  replace oh0 := oh0.below b22
  have z22 := b22.size
  replace HB := HB.trans (b22.mono HB.size)
  go_wp2_with (fail)
  refine (heldIntS_l _ _ (Pl.applyAll xs0 xs1).length 1 _ og0.slice (by omega) (by omega) tk0).mono ?_
  rintro e w23 ⟨rfl, rfl⟩
  go_wp2_with (fail)
  go_ret
  exact ⟨rfl, HB⟩

set_option maxRecDepth 100000 in
theorem lifted (os : Os) (started : os.Started) (H : Type) (enc : TypeId × Value → H) :
    ReturnsInHanded {} Try.checked os 13 .any (Rows.fnExactApplyAllSpec.pre6 enc Try.prog Try.f13 Rows.fnExactApplyAllRow.domain false) (Rows.fnExactApplyAllSpec.post enc Try.prog Try.f13 false true false false) := by
  refine returnsInHanded_of_change (C := Try.checked) ownNone started (by kernel_rfl) Try.func13
    (ChangeSpec.witness6 (enc := enc) (C := Try.checked) false ⟨#[], #[.slice none 0 0, .slice none 0 0], []⟩ 8 (by kernel_rfl) (by kernel_rfl) (by kernel_rfl) (by kernel_rfl)) ?_
  intro W base args ds gs before hval0 hW hcnd _
  have hval : ∀ (j : Nat) t v, Try.f13.params[j]? = some t → args[j]? = some v → Value.okWide Try.prog W .any base t v := hval0
  have hW' := hW
  obtain ⟨p, q, hA0, hV, rfl, hfz, hnd⟩ := hW
  have hA : DataW.TrodAll enc Try.prog W 0 (fun _ => true) true Try.f13.params.toList args.toList ds p := hA0
  rw [Try.params13] at hA hval
  obtain ⟨v0, vs0, d0, ds0, p0, q0, hargs, rfl, rfl, h0, r0⟩ := trodAll_cons hA
  obtain ⟨v1, vs1, d1, ds1, p1, q1, rfl, rfl, rfl, h1, r1⟩ := trodAll_cons r0
  obtain ⟨rfl, rfl, rfl⟩ := trodAll_nil r1
  obtain rfl : args = #[v0, v1] := by cases args; simp_all
  obtain ⟨rfl, rfl⟩ := trodVars_none hV
  obtain ⟨a0, s0, w0⟩ := open_partSS (hval 0 60 v0 rfl rfl) h0 (fun x hx => hW'.lt x (by simp [hx]))
  obtain ⟨a1, s1, w1⟩ := open_intS (hval 1 39 v1 rfl rfl) h1 (fun x hx => hW'.lt x (by simp [hx]))
  clear hA0 hval0
  refine (walk W v0 a0 s0 w0 v1 a1 s1 w1).mono fun e W' ⟨he, hb⟩ => ?_
  subst he
  exact ⟨_, rfl, law_post hW' rfl hb (by kernel_rfl) (by kernel_rfl) rfl⟩

theorem over : Rows.fnExactApplyAllRow.holds Try.pinned (OpenSpec.ofChange Rows.fnExactApplyAllSpec) :=
  OpenClaim.holds_of_wide 13 Try.f13 rfl rfl rfl rfl rfl rfl rfl ⟨rfl, rfl, rfl, rfl, rfl⟩ rfl rfl rfl rfl rfl (by kernel_rfl) Try.func13 (by kernel_rfl)
    (of_decide_eq_true (by kernel_rfl)) (by unfold Func.isWrapper; first | (rw [if_pos (by decide +kernel)]; kernel_rfl) | (rw [if_neg (by decide +kernel)]; exact ⟨rfl, rfl⟩))
    (fun os started H enc _ => lifted os started H enc)

/-- The given statement. -/
theorem proved : Rows.FnExactApplyAllSaid :=
  over
end Go.Proofs.Ytadhgjfiblepaaa.fnExactApplyAll
