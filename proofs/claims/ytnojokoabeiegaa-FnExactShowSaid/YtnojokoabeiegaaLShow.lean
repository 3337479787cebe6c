/- The law FnExactShow returns true for every argument and leaves memory as it was. Condition: none. -/
import Derived.Test.YtnojokoabeiegaaRow
import Derived.Test.YtnojokoabeiegaaShow
namespace Go.Proofs.Ytnojokoabeiegaa.fnExactShow
open Go.ChangeShapes Go.WideShapes Go.ChangeAt Go.RowKit
set_option linter.unusedVariables false

set_option maxHeartbeats 800000 in
theorem walk (w : World) (v0 : Value) (xs0 : List Int) (r0 : SliceInts w.heap.size w v0 xs0) (l0 : xs0.length ≤ maxLen) : Calls Try.prog 14 #[v0] w fun e w' => e = .returned (.bool true) ∧ Below w.heap.size w w' := by
  have rd0 := r0
  obtain ⟨A0, c0, rfl, -, -⟩ := r0
  by_cases sm0 : xs0.length ≤ 1048576
  rotate_left
  · go_enter Try.func14, Try.ntmps14
    go_wp2_with (fail)
    go_ret
    exact ⟨rfl, Below.refl _ _⟩
  have HB := Below.refl w.heap.size w
  go_enter Try.func14, Try.ntmps14
  go_wp2_with (fail)
  refine (toIntS_l _ xs0 _ rd0 (by omega)).mono ?_
  rintro e w1 ⟨s0, rfl, os0, b1⟩
  replace rd0 := rd0.later b1
  replace HB := HB.trans (b1.mono HB.size)
  go_wp2_with (fail)
  refine (show_s _ xs0 _ os0.slice (by omega)).mono ?_
  rintro e w2 ⟨rfl, b2⟩
  replace rd0 := rd0.later b2
  replace os0 := os0.below b2
  replace HB := HB.trans (b2.mono HB.size)
  go_wp2_with (fail)
  refine (toIntS_l _ xs0 _ rd0 (by omega)).mono ?_
  rintro e w3 ⟨x0, rfl, ox0, b3⟩
  replace rd0 := rd0.later b3
  replace HB := HB.trans (b3.mono HB.size)
  go_wp2_with (fail)
  refine (show_i _ xs0 _ ox0.slice (by omega)).mono ?_
  rintro e w4 ⟨rfl, b4⟩
  replace rd0 := rd0.later b4
  replace ox0 := ox0.below b4
  replace HB := HB.trans (b4.mono HB.size)
  go_wp2_with (fail)
  refine (toIntS_l _ xs0 _ rd0 (by omega)).mono ?_
  rintro e w5 ⟨y0, rfl, oy0, b5⟩
  replace rd0 := rd0.later b5
  replace ox0 := ox0.below b5
  replace HB := HB.trans (b5.mono HB.size)
  go_wp2_with (fail)
  refine (eqIntS_b _ _ _ xs0 xs0 _ ox0.slice oy0.slice (by unfold maxLen; omega)).mono ?_
  rintro e w6 ⟨rfl, b6⟩
  replace rd0 := rd0.later b6
  replace ox0 := ox0.below b6
  replace HB := HB.trans (b6.mono HB.size)
  go_wp2_with (fail)
  go_ret
  exact ⟨rfl, HB⟩

set_option maxRecDepth 100000 in
theorem lifted (os : Os) (started : os.Started) (H : Type) (enc : TypeId × Value → H) :
    ReturnsInHanded {} Try.checked os 14 .any (Rows.fnExactShowSpec.pre6 enc Try.prog Try.f14 Rows.fnExactShowRow.domain false) (Rows.fnExactShowSpec.post enc Try.prog Try.f14 false true false false) := by
  refine returnsInHanded_of_change (C := Try.checked) ownNone started (by kernel_rfl) Try.func14
    (ChangeSpec.witness6 (enc := enc) (C := Try.checked) false ⟨#[], #[.slice none 0 0], []⟩ 8 (by kernel_rfl) (by kernel_rfl) (by kernel_rfl) (by kernel_rfl)) ?_
  intro W base args ds gs before hval0 hW hcnd _
  have hval : ∀ (j : Nat) t v, Try.f14.params[j]? = some t → args[j]? = some v → Value.okWide Try.prog W .any base t v := hval0
  have hW' := hW
  obtain ⟨p, q, hA0, hV, rfl, hfz, hnd⟩ := hW
  have hA : DataW.TrodAll enc Try.prog W 0 (fun _ => true) true Try.f14.params.toList args.toList ds p := hA0
  rw [Try.params14] at hA hval
  obtain ⟨v0, vs0, d0, ds0, p0, q0, hargs, rfl, rfl, h0, r0⟩ := trodAll_cons hA
  obtain ⟨rfl, rfl, rfl⟩ := trodAll_nil r0
  obtain rfl : args = #[v0] := by cases args; simp_all
  obtain ⟨rfl, rfl⟩ := trodVars_none hV
  obtain ⟨a0, s0, w0⟩ := open_intS (hval 0 26 v0 rfl rfl) h0 (fun x hx => hW'.lt x (by simp [hx]))
  clear hA0 hval0
  refine (walk W v0 a0 s0 w0).mono fun e W' ⟨he, hb⟩ => ?_
  subst he
  exact ⟨_, rfl, law_post hW' rfl hb (by kernel_rfl) (by kernel_rfl) rfl⟩

theorem over : Rows.fnExactShowRow.holds Try.pinned (OpenSpec.ofChange Rows.fnExactShowSpec) :=
  OpenClaim.holds_of_wide 14 Try.f14 rfl rfl rfl rfl rfl rfl rfl ⟨rfl, rfl, rfl, rfl, rfl⟩ rfl rfl rfl rfl rfl (by kernel_rfl) Try.func14 (by kernel_rfl)
    (of_decide_eq_true (by kernel_rfl)) (by unfold Func.isWrapper; first | (rw [if_pos (by decide +kernel)]; kernel_rfl) | (rw [if_neg (by decide +kernel)]; exact ⟨rfl, rfl⟩))
    (fun os started H enc _ => lifted os started H enc)

/-- The given statement. -/
theorem proved : Rows.FnExactShowSaid :=
  over
end Go.Proofs.Ytnojokoabeiegaa.fnExactShow
