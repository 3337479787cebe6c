/- The law FnExactDropAt returns true for every argument and leaves memory as it was. Condition: none. -/
import Derived.Test.YtlidheodadoboaaRow
import Derived.Test.YtlidheodadoboaaMarks
import Derived.Test.YtlidheodadoboaaPlace2
namespace Go.Proofs.Ytlidheodadoboaa.fnExactDropAt
open Go.ChangeShapes Go.WideShapes Go.ChangeAt Go.RowKit
set_option linter.unusedVariables false

set_option maxHeartbeats 2000000 in
set_option maxRecDepth 100000 in
theorem walk (w : World) (a0 : Int) (w0 : (Lit.int .i64 a0).wf = true) (a1 : Int) (w1 : (Lit.int .i64 a1).wf = true) (a2 : Int) (w2 : (Lit.int .i64 a2).wf = true) : Calls Try.prog 6 #[.int .i64 a0, .int .i64 a1, .int .i64 a2] w fun e w' => e = .returned (.bool true) ∧ Below w.heap.size w w' := by
  have iu0 := (wf_i64 w0).2
  have HB := Below.refl w.heap.size w
  go_enter Try.func6, Try.ntmps6
  go_wp2_with (fail)
  refine (dropAt_s a0 a1 a2 _ iu0).mono ?_
  rintro e w1 ⟨w0, uw0, rfl, ow0, b1⟩
  have z1 := b1.size
  replace HB := HB.trans (b1.mono HB.size)
  go_wp2_with (fail)
  refine (dropAt_i a0 a1 a2 _ iu0).mono ?_
  rintro e w2 ⟨g0, ug0, rfl, og0, b2⟩
  replace ow0 := ow0.below b2
  have z2 := b2.size
  replace HB := HB.trans (b2.mono HB.size)
  go_wp2_with (fail)
  refine (eqPartS_b _ _ (Pl.place a0 a1 [] a2) _ og0.slice ow0.slice).mono ?_
  rintro e w3 ⟨rfl, b3⟩
  replace ow0 := ow0.below b3
  replace og0 := og0.below b3
  have z3 := b3.size
  replace HB := HB.trans (b3.mono HB.size)
  have tk0 : Pl.small (Pl.place a0 a1 [] a2) 1 := place_small _ _ _ _ _ (by omega) (by omega)
  obtain ⟨tbl0, tbu0⟩ := markN_bd tk0
  have Tk0 := Lib.hid tk0
  clear tk0
  go_wp2_with (fail)
  refine (markPartS_l _ _ _ (Pl.place a0 a1 [] a2) _ 1 _ og0 Tk0.out).mono ?_
  rintro e w4 ⟨rfl, p4, c4⟩
  replace ow0 := ow0.within c4 (by omega)
  have z4 := Nat.le_of_eq c4.size
  have y4 := Nat.le_of_eq c4.size.symm
  replace HB := HB.trans (c4.below (by omega))
  replace og0 := p4
  clear p4
  go_wp2_with (fail)
  refine (heldPartS_l _ _ (Pl.place a0 a1 [] a2) 1 _ og0.slice Tk0.out).mono ?_
  rintro e w5 ⟨rfl, rfl⟩
  go_wp2_with (fail)
  refine (dropAt_i a0 a1 a2 _ iu0).mono ?_
  rintro e w6 ⟨h0, uh0, rfl, oh0, b6⟩
  replace ow0 := ow0.below b6
  replace og0 := og0.below b6
  have z6 := b6.size
  replace HB := HB.trans (b6.mono HB.size)
  go_wp2_with (fail)
  refine (eqPartS_b _ _ (Pl.place a0 a1 [] a2) _ oh0.slice ow0.slice).mono ?_
  rintro e w7 ⟨rfl, b7⟩
  replace ow0 := ow0.below b7
  replace og0 := og0.below b7
  replace oh0 := oh0.below b7
  have z7 := b7.size
  replace HB := HB.trans (b7.mono HB.size)
  go_wp2_with (fail)
  refine (heldPartS_l _ _ (Pl.place a0 a1 [] a2) 1 _ og0.slice Tk0.out).mono ?_
  rintro e w8 ⟨rfl, rfl⟩
  go_wp2_with (fail)
  go_ret
  exact ⟨rfl, HB⟩

set_option maxRecDepth 100000 in
theorem lifted (os : Os) (started : os.Started) (H : Type) (enc : TypeId × Value → H) :
    ReturnsInHanded {} Try.checked os 6 .any (Rows.fnExactDropAtSpec.pre6 enc Try.prog Try.f6 Rows.fnExactDropAtRow.domain false) (Rows.fnExactDropAtSpec.post enc Try.prog Try.f6 false true false false) := by
  refine returnsInHanded_of_change (C := Try.checked) ownNone started (by kernel_rfl) Try.func6
    (ChangeSpec.witness6 (enc := enc) (C := Try.checked) false ⟨#[], #[.int .i64 0, .int .i64 0, .int .i64 0], []⟩ 8 (by kernel_rfl) (by kernel_rfl) (by kernel_rfl) (by kernel_rfl)) ?_
  intro W base args ds gs before hval0 hW hcnd _
  have hval : ∀ (j : Nat) t v, Try.f6.params[j]? = some t → args[j]? = some v → Value.okWide Try.prog W .any base t v := hval0
  have hW' := hW
  obtain ⟨p, q, hA0, hV, rfl, hfz, hnd⟩ := hW
  have hA : DataW.TrodAll enc Try.prog W 0 (fun _ => true) true Try.f6.params.toList args.toList ds p := hA0
  rw [Try.params6] at hA hval
  obtain ⟨v0, vs0, d0, ds0, p0, q0, hargs, rfl, rfl, h0, r0⟩ := trodAll_cons hA
  obtain ⟨v1, vs1, d1, ds1, p1, q1, rfl, rfl, rfl, h1, r1⟩ := trodAll_cons r0
  obtain ⟨v2, vs2, d2, ds2, p2, q2, rfl, rfl, rfl, h2, r2⟩ := trodAll_cons r1
  obtain ⟨rfl, rfl, rfl⟩ := trodAll_nil r2
  obtain rfl : args = #[v0, v1, v2] := by cases args; simp_all
  obtain ⟨rfl, rfl⟩ := trodVars_none hV
  obtain ⟨a0, rfl, rfl, rfl, w0⟩ := open_int Try.underlying3 (hval 0 3 v0 rfl rfl) h0
  obtain ⟨a1, rfl, rfl, rfl, w1⟩ := open_int Try.underlying3 (hval 1 3 v1 rfl rfl) h1
  obtain ⟨a2, rfl, rfl, rfl, w2⟩ := open_int Try.underlying3 (hval 2 3 v2 rfl rfl) h2
  clear hA0 hval0
  refine (walk W a0 w0 a1 w1 a2 w2).mono fun e W' ⟨he, hb⟩ => ?_
  subst he
  exact ⟨_, rfl, law_post hW' rfl hb (by kernel_rfl) (by kernel_rfl) rfl⟩

theorem over : Rows.fnExactDropAtRow.holds Try.pinned (OpenSpec.ofChange Rows.fnExactDropAtSpec) :=
  OpenClaim.holds_of_wide 6 Try.f6 rfl rfl rfl rfl rfl rfl rfl ⟨rfl, rfl, rfl, rfl, rfl⟩ rfl rfl rfl rfl rfl (by kernel_rfl) Try.func6 (by kernel_rfl)
    (of_decide_eq_true (by kernel_rfl)) (by unfold Func.isWrapper; first | (rw [if_pos (by decide +kernel)]; kernel_rfl) | (rw [if_neg (by decide +kernel)]; exact ⟨rfl, rfl⟩))
    (fun os started H enc _ => lifted os started H enc)

/-- The given statement. -/
theorem proved : Rows.FnExactDropAtSaid :=
  over
end Go.Proofs.Ytlidheodadoboaa.fnExactDropAt
