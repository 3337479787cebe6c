/- The law FnExactKeeping returns true for every argument and leaves memory as it was. Condition: none. -/
import Derived.Test.YtnojokoabeiegaaRow
import Derived.Test.YtnojokoabeiegaaKeeping
namespace Go.Proofs.Ytnojokoabeiegaa.fnExactKeeping
open Go.ChangeShapes Go.WideShapes Go.ChangeAt Go.RowKit
set_option linter.unusedVariables false

set_option maxHeartbeats 2000000 in
set_option maxRecDepth 100000 in
theorem walk (w : World) (a0 : Int) (w0 : (Lit.int .i64 a0).wf = true) : Calls Try.prog 12 #[.int .i64 a0] w fun e w' => e = .returned (.bool true) ∧ Below w.heap.size w w' := by
  have HB := Below.refl w.heap.size w
  go_enter Try.func12, Try.ntmps12
  go_wp2_with (fail)
  refine (keeping_s a0 _).mono ?_
  rintro e w1 ⟨w0, uw0, rfl, ow0, b1⟩
  have z1 := b1.size
  replace HB := HB.trans (b1.mono HB.size)
  go_wp2_with (fail)
  refine (keeping_i a0 _).mono ?_
  rintro e w2 ⟨g0, ug0, rfl, og0, b2⟩
  replace ow0 := ow0.below b2
  have z2 := b2.size
  replace HB := HB.trans (b2.mono HB.size)
  go_wp2_with (fail)
  refine (eqPartS_b _ _ (Pl.keeping a0) _ og0.slice ow0.slice).mono ?_
  rintro e w3 ⟨rfl, b3⟩
  replace ow0 := ow0.below b3
  replace og0 := og0.below b3
  have z3 := b3.size
  replace HB := HB.trans (b3.mono HB.size)
  have tk0 : Pl.small (Pl.keeping a0) 1 := keeping_small a0 _ (by omega) (by omega)
  obtain ⟨tbl0, tbu0⟩ := markN_bd tk0
  have Tk0 := Lib.hid tk0
  clear tk0
  go_wp2_with (fail)
  refine (markPartS_l _ _ _ (Pl.keeping a0) _ 1 _ og0 Tk0.out).mono ?_
  rintro e w4 ⟨rfl, p4, c4⟩
  replace ow0 := ow0.within c4 (by omega)
  have z4 := Nat.le_of_eq c4.size
  have y4 := Nat.le_of_eq c4.size.symm
  replace HB := HB.trans (c4.below (by omega))
  replace og0 := p4
  clear p4
  go_wp2_with (fail)
  refine (heldPartS_l _ _ (Pl.keeping a0) 1 _ og0.slice Tk0.out).mono ?_
  rintro e w5 ⟨rfl, rfl⟩
  go_wp2_with (fail)
  refine (keeping_i a0 _).mono ?_
  rintro e w6 ⟨h0, uh0, rfl, oh0, b6⟩
  replace ow0 := ow0.below b6
  replace og0 := og0.below b6
  have z6 := b6.size
  replace HB := HB.trans (b6.mono HB.size)
  go_wp2_with (fail)
  refine (eqPartS_b _ _ (Pl.keeping a0) _ oh0.slice ow0.slice).mono ?_
  rintro e w7 ⟨rfl, b7⟩
  replace ow0 := ow0.below b7
  replace og0 := og0.below b7
  replace oh0 := oh0.below b7
  have z7 := b7.size
  replace HB := HB.trans (b7.mono HB.size)
  go_wp2_with (fail)
  refine (heldPartS_l _ _ (Pl.keeping a0) 1 _ og0.slice Tk0.out).mono ?_
  rintro e w8 ⟨rfl, rfl⟩
  go_wp2_with (fail)
  go_ret
  exact ⟨rfl, HB⟩

set_option maxRecDepth 100000 in
theorem lifted (os : Os) (started : os.Started) (H : Type) (enc : TypeId × Value → H) :
    ReturnsInHanded {} Try.checked os 12 .any (Rows.fnExactKeepingSpec.pre6 enc Try.prog Try.f12 Rows.fnExactKeepingRow.domain false) (Rows.fnExactKeepingSpec.post enc Try.prog Try.f12 false true false false) := by
  refine returnsInHanded_of_change (C := Try.checked) ownNone started (by kernel_rfl) Try.func12
    (ChangeSpec.witness6 (enc := enc) (C := Try.checked) false ⟨#[], #[.int .i64 0], []⟩ 8 (by kernel_rfl) (by kernel_rfl) (by kernel_rfl) (by kernel_rfl)) ?_
  intro W base args ds gs before hval0 hW hcnd _
  have hval : ∀ (j : Nat) t v, Try.f12.params[j]? = some t → args[j]? = some v → Value.okWide Try.prog W .any base t v := hval0
  have hW' := hW
  obtain ⟨p, q, hA0, hV, rfl, hfz, hnd⟩ := hW
  have hA : DataW.TrodAll enc Try.prog W 0 (fun _ => true) true Try.f12.params.toList args.toList ds p := hA0
  rw [Try.params12] at hA hval
  obtain ⟨v0, vs0, d0, ds0, p0, q0, hargs, rfl, rfl, h0, r0⟩ := trodAll_cons hA
  obtain ⟨rfl, rfl, rfl⟩ := trodAll_nil r0
  obtain rfl : args = #[v0] := by cases args; simp_all
  obtain ⟨rfl, rfl⟩ := trodVars_none hV
  obtain ⟨a0, rfl, rfl, rfl, w0⟩ := open_int Try.underlying3 (hval 0 3 v0 rfl rfl) h0
  clear hA0 hval0
  refine (walk W a0 w0).mono fun e W' ⟨he, hb⟩ => ?_
  subst he
  exact ⟨_, rfl, law_post hW' rfl hb (by kernel_rfl) (by kernel_rfl) rfl⟩

theorem over : Rows.fnExactKeepingRow.holds Try.pinned (OpenSpec.ofChange Rows.fnExactKeepingSpec) :=
  OpenClaim.holds_of_wide 12 Try.f12 rfl rfl rfl rfl rfl rfl rfl ⟨rfl, rfl, rfl, rfl, rfl⟩ rfl rfl rfl rfl rfl (by kernel_rfl) Try.func12 (by kernel_rfl)
    (of_decide_eq_true (by kernel_rfl)) (by unfold Func.isWrapper; first | (rw [if_pos (by decide +kernel)]; kernel_rfl) | (rw [if_neg (by decide +kernel)]; exact ⟨rfl, rfl⟩))
    (fun os started H enc _ => lifted os started H enc)

/-- The given statement. -/
theorem proved : Rows.FnExactKeepingSaid :=
  over
end Go.Proofs.Ytnojokoabeiegaa.fnExactKeeping
