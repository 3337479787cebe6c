/- The law FnExactComposeAll returns true for every argument and leaves memory as it was. Condition: none. -/
import Derived.Test.YtlpjbbmjchfolaaRow
import Derived.Test.YtlpjbbmjchfolaaMarkss
import Derived.Test.YtlpjbbmjchfolaaRowOps
import Derived.Test.YtlpjbbmjchfolaaComposeAllS
namespace Go.Proofs.Ytlpjbbmjchfolaa.fnExactComposeAll
open Go.ChangeShapes Go.WideShapes Go.ChangeAt Go.RowKit
set_option maxRecDepth 100000
set_option linter.unusedVariables false

set_option maxHeartbeats 2000000 in
set_option maxRecDepth 100000 in
theorem walk (w : World) (v0 : Value) (xs0 : List (List Pt)) (r0 : SliceOps w.heap.size w v0 xs0) (l0 : xs0.length ≤ maxLen) (a1 : Int) (w1 : (Lit.int .i64 a1).wf = true) : Calls Try.prog 10 #[v0, .int .i64 a1] w fun e w' => e = .returned (.bool true) ∧ Below w.heap.size w w' := by
  have rd0 := r0
  obtain ⟨A0, c0, rfl, -, -⟩ := r0
  by_cases q0 : 0 ≤ Pl.szSS xs0 1048576
  rotate_left
  · have q0' : Pl.szSS xs0 1048576 < 0 := by omega
    have HB := Below.refl w.heap.size w
    go_enter Try.func10, Try.ntmps10
    go_wp2_with (fail)
    refine (szPartSS_l _ xs0 1048576 _ (rd0.mono HB.size) (by omega) (by omega)).mono ?_
    rintro e w1 ⟨rfl, b1⟩
    replace rd0 := rd0.below (b1.mono HB.size)
    have z1 := b1.size
    replace HB := HB.trans (b1.mono HB.size)
    go_wp2_with (fail)
    go_ret
    exact ⟨rfl, HB⟩
  have g0 := szSS_le (ps := xs0) (left := 1048576) (by omega)
  obtain ⟨bl0, bs0⟩ := szSS_nat (ps := xs0) (left := 1048576) (by omega) (by omega) q0
  have Bs0 := Lib.hid bs0
  clear bs0
  have HB := Below.refl w.heap.size w
  go_enter Try.func10, Try.ntmps10
  go_wp2_with (fail)
  refine (szPartSS_l _ xs0 1048576 _ (rd0.mono HB.size) (by omega) (by omega)).mono ?_
  rintro e w2 ⟨rfl, b2⟩
  replace rd0 := rd0.below (b2.mono HB.size)
  have z2 := b2.size
  replace HB := HB.trans (b2.mono HB.size)
  go_wp2_with (fail)
  refine (toPartSS_l _ xs0 _ (rd0.mono HB.size) (by omega) Bs0.out).mono ?_
  rintro e w3 ⟨s0, us0, ds0, rfl, os0, b3⟩
  replace rd0 := rd0.below (b3.mono HB.size)
  have z3 := b3.size
  replace HB := HB.trans (b3.mono HB.size)
  go_wp2_with (fail)
  refine (composeAll_sx _ xs0 a1 _ os0.slice).mono ?_
  rintro e w4 ⟨w0, uw0, rfl, ow0, b4⟩
  replace rd0 := rd0.below (b4.mono HB.size)
  replace os0 := os0.below b4
  have z4 := b4.size
  replace HB := HB.trans (b4.mono HB.size)
  go_wp2_with (fail)
  refine (toPartSS_l _ xs0 _ (rd0.mono HB.size) (by omega) Bs0.out).mono ?_
  rintro e w5 ⟨x0, ux0, dx0, rfl, ox0, b5⟩
  replace rd0 := rd0.below (b5.mono HB.size)
  replace ow0 := ow0.below b5
  have z5 := b5.size
  replace HB := HB.trans (b5.mono HB.size)
  go_wp2_with (fail)
  refine (composeAll_ix _ xs0 a1 _ ox0.slice).mono ?_
  rintro e w6 ⟨g0, ug0, rfl, og0, b6⟩
  replace rd0 := rd0.below (b6.mono HB.size)
  replace ow0 := ow0.below b6
  replace ox0 := ox0.below b6
  have z6 := b6.size
  replace HB := HB.trans (b6.mono HB.size)
  go_wp2_with (fail)
  refine (eqPartS_b _ _ (Pl.composeAll xs0 a1) _ og0.slice ow0.slice).mono ?_
  rintro e w7 ⟨rfl, b7⟩
  replace rd0 := rd0.below (b7.mono HB.size)
  replace ow0 := ow0.below b7
  replace ox0 := ox0.below b7
  replace og0 := og0.below b7
  have z7 := b7.size
  replace HB := HB.trans (b7.mono HB.size)
  go_wp2_with (fail)
  refine (toPartSS_l _ xs0 _ (rd0.mono HB.size) (by omega) Bs0.out).mono ?_
  rintro e w8 ⟨y0, uy0, dy0, rfl, oy0, b8⟩
  replace rd0 := rd0.below (b8.mono HB.size)
  replace ow0 := ow0.below b8
  replace ox0 := ox0.below b8
  replace og0 := og0.below b8
  have z8 := b8.size
  replace HB := HB.trans (b8.mono HB.size)
  go_wp2_with (fail)
  refine (eqPartSS_b _ _ xs0 _ ox0.slice oy0.slice).mono ?_
  rintro e w9 ⟨rfl, b9⟩
  replace rd0 := rd0.below (b9.mono HB.size)
  replace ow0 := ow0.below b9
  replace ox0 := ox0.below b9
  replace og0 := og0.below b9
  replace oy0 := oy0.below b9
  have z9 := b9.size
  replace HB := HB.trans (b9.mono HB.size)
  obtain ⟨sk0, sbu0⟩ := smallS_of (os := xs0) (left := 1048576) (k := 1) (by omega) (by omega) q0 (by omega) (by omega)
  have sbl0 := markNN_le xs0 1
  have Sk0 := Lib.hid sk0
  clear sk0
  go_wp2_with (fail)
  refine (markPartSS_l _ _ _ xs0 _ _ 1 _ ox0 Sk0.out (by omega)).mono ?_
  rintro e w10 ⟨rfl, c10⟩
  replace rd0 := rd0.within c10 (by omega)
  replace ow0 := ow0.within c10 (by omega)
  replace og0 := og0.within c10 (by omega)
  have z10 := Nat.le_of_eq c10.size
  have y10 := Nat.le_of_eq c10.size.symm
  replace HB := HB.trans (c10.below (by omega))
  go_wp2_with (fail)
  refine (eqPartS_b _ _ (Pl.composeAll xs0 a1) _ og0.slice ow0.slice).mono ?_
  rintro e w11 ⟨rfl, b11⟩
  replace rd0 := rd0.below (b11.mono HB.size)
  replace ow0 := ow0.below b11
  replace og0 := og0.below b11
  have z11 := b11.size
  replace HB := HB.trans (b11.mono HB.size)
  have tk0 : Pl.small (Pl.composeAll xs0 a1) 1 := composeAll_small _ _ _ (by omega) (by omega)
  obtain ⟨tbl0, tbu0⟩ := markN_bd tk0
  have Tk0 := Lib.hid tk0
  clear tk0
  go_wp2_with (fail)
  refine (markPartS_l _ _ _ (Pl.composeAll xs0 a1) _ 1 _ og0 Tk0.out).mono ?_
  rintro e w12 ⟨rfl, p12, c12⟩
  replace rd0 := rd0.within c12 (by omega)
  replace ow0 := ow0.within c12 (by omega)
  have z12 := Nat.le_of_eq c12.size
  have y12 := Nat.le_of_eq c12.size.symm
  replace HB := HB.trans (c12.below (by omega))
  replace og0 := p12
  clear p12
  go_wp2_with (fail)
  refine (heldPartS_l _ _ (Pl.composeAll xs0 a1) 1 _ og0.slice Tk0.out).mono ?_
  rintro e w13 ⟨rfl, rfl⟩
  go_wp2_with (fail)
  refine (toPartSS_l _ xs0 _ (rd0.mono HB.size) (by omega) Bs0.out).mono ?_
  rintro e w14 ⟨t0, ut0, dt0, rfl, ot0, b14⟩
  replace rd0 := rd0.below (b14.mono HB.size)
  replace ow0 := ow0.below b14
  replace og0 := og0.below b14
  have z14 := b14.size
  replace HB := HB.trans (b14.mono HB.size)
  go_wp2_with (fail)
  refine (composeAll_ix _ xs0 a1 _ ot0.slice).mono ?_
  rintro e w15 ⟨h0, uh0, rfl, oh0, b15⟩
  replace rd0 := rd0.below (b15.mono HB.size)
  replace ow0 := ow0.below b15
  replace og0 := og0.below b15
  replace ot0 := ot0.below b15
  have z15 := b15.size
  replace HB := HB.trans (b15.mono HB.size)
  go_wp2_with (fail)
  refine (eqPartS_b _ _ (Pl.composeAll xs0 a1) _ oh0.slice ow0.slice).mono ?_
  rintro e w16 ⟨rfl, b16⟩
  replace rd0 := rd0.below (b16.mono HB.size)
  replace ow0 := ow0.below b16
  replace og0 := og0.below b16
  replace oh0 := oh0.below b16
  have z16 := b16.size
  replace HB := HB.trans (b16.mono HB.size)
  go_wp2_with (fail)
  refine (heldPartS_l _ _ (Pl.composeAll xs0 a1) 1 _ og0.slice Tk0.out).mono ?_
  rintro e w17 ⟨rfl, rfl⟩
  go_wp2_with (fail)
  go_ret
  exact ⟨rfl, HB⟩

set_option maxRecDepth 100000 in
theorem lifted (os : Os) (started : os.Started) (H : Type) (enc : TypeId × Value → H) :
    ReturnsInHanded {} Try.checked os 10 .any (Rows.fnExactComposeAllSpec.pre6 enc Try.prog Try.f10 Rows.fnExactComposeAllRow.domain false) (Rows.fnExactComposeAllSpec.post enc Try.prog Try.f10 false true false false) := by
  refine returnsInHanded_of_change (C := Try.checked) ownNone started (by kernel_rfl) Try.func10
    (ChangeSpec.witness6 (enc := enc) (C := Try.checked) false ⟨#[], #[.slice none 0 0, .int .i64 0], []⟩ 8 (by kernel_rfl) (by kernel_rfl) (by kernel_rfl) (by kernel_rfl)) ?_
  intro W base args ds gs before hval0 hW hcnd _
  have hval : ∀ (j : Nat) t v, Try.f10.params[j]? = some t → args[j]? = some v → Value.okWide Try.prog W .any base t v := hval0
  have hW' := hW
  obtain ⟨p, q, hA0, hV, rfl, hfz, hnd⟩ := hW
  have hA : DataW.TrodAll enc Try.prog W 0 (fun _ => true) true Try.f10.params.toList args.toList ds p := hA0
  rw [Try.params10] at hA hval
  obtain ⟨v0, vs0, d0, ds0, p0, q0, hargs, rfl, rfl, h0, r0⟩ := trodAll_cons hA
  obtain ⟨v1, vs1, d1, ds1, p1, q1, rfl, rfl, rfl, h1, r1⟩ := trodAll_cons r0
  obtain ⟨rfl, rfl, rfl⟩ := trodAll_nil r1
  obtain rfl : args = #[v0, v1] := by cases args; simp_all
  obtain ⟨rfl, rfl⟩ := trodVars_none hV
  obtain ⟨a0, s0, w0⟩ := open_partSS (hval 0 55 v0 rfl rfl) h0 (fun x hx => hW'.lt x (by simp [hx]))
  obtain ⟨a1, rfl, rfl, rfl, w1⟩ := open_int Try.underlying3 (hval 1 3 v1 rfl rfl) h1
  clear hA0 hval0
  refine (walk W v0 a0 s0 w0 a1 w1).mono fun e W' ⟨he, hb⟩ => ?_
  subst he
  exact ⟨_, rfl, law_post hW' rfl hb (by kernel_rfl) (by kernel_rfl) rfl⟩

theorem over : Rows.fnExactComposeAllRow.holds Try.pinned (OpenSpec.ofChange Rows.fnExactComposeAllSpec) :=
  OpenClaim.holds_of_wide 10 Try.f10 rfl rfl rfl rfl rfl rfl rfl ⟨rfl, rfl, rfl, rfl, rfl⟩ rfl rfl rfl rfl rfl (by kernel_rfl) Try.func10 (by kernel_rfl)
    (of_decide_eq_true (by kernel_rfl)) (by unfold Func.isWrapper; first | (rw [if_pos (by decide +kernel)]; kernel_rfl) | (rw [if_neg (by decide +kernel)]; exact ⟨rfl, rfl⟩))
    (fun os started H enc _ => lifted os started H enc)

/-- The given statement. -/
theorem proved : Rows.FnExactComposeAllSaid :=
  over
end Go.Proofs.Ytlpjbbmjchfolaa.fnExactComposeAll
