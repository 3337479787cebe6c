/- The law FnExactSignsOk returns true for every list of ints and leaves memory as it was. Condition: none. -/
import Derived.Test.YtnojokoabeiegaaRow
import Derived.Test.YtnojokoabeiegaaToInts
namespace Go.Proofs.Ytnojokoabeiegaa.fnExactSignsOk
open Go.ChangeShapes Go.WideShapes Go.ChangeAt Go.RowKit
set_option linter.unusedVariables false

theorem walk (w : World) (v : Value) (xs : List Int) (hs : SliceInts w.heap.size w v xs) (hl : xs.length ≤ maxLen) : Calls Try.prog 7 #[v] w fun e w' => e = .returned (.bool true) ∧ Below w.heap.size w w' := by
  have hs0 := hs
  obtain ⟨A, c, rfl, -, -⟩ := hs
  by_cases hb : xs.length ≤ 1048576
  · have HB := Below.refl w.heap.size w
    go_enter Try.func7, Try.ntmps7
    go_wp2_with (fail)
    refine (toIntS_l _ xs _ hs0 (by omega)).mono ?_
    rintro e w1 ⟨v1, rfl, o1, b1⟩
    replace hs0 := hs0.later b1
    replace HB := HB.trans (b1.mono HB.size)
    go_wp2_with (fail)
    refine (signsOk_s _ _ xs _ o1.slice (by unfold maxLen; omega)).mono ?_
    rintro e w2 ⟨rfl, rfl⟩
    go_wp2_with (fail)
    refine (toIntS_l _ xs _ hs0 (by omega)).mono ?_
    rintro e w2 ⟨v2, rfl, o2, b2⟩
    replace hs0 := hs0.later b2
    replace HB := HB.trans (b2.mono HB.size)
    go_wp2_with (fail)
    refine (signsOk_i _ _ xs _ o2.slice (by unfold maxLen; omega)).mono ?_
    rintro e w3 ⟨rfl, rfl⟩
    go_wp2_with (fail)
    refine (toIntS_l _ xs _ hs0 (by omega)).mono ?_
    rintro e w3 ⟨v3, rfl, o3, b3⟩
    replace hs0 := hs0.later b3
    replace o2 := o2.below b3
    replace HB := HB.trans (b3.mono HB.size)
    go_wp2_with (fail)
    refine (eqIntS_b _ _ _ xs xs _ o2.slice o3.slice (by unfold maxLen; omega)).mono ?_
    rintro e w4 ⟨rfl, b4⟩
    replace HB := HB.trans (b4.mono HB.size)
    go_wp2_with (fail)
    go_ret
    exact ⟨rfl, HB⟩
  · go_enter Try.func7, Try.ntmps7
    go_wp2_with (fail)
    go_ret
    exact ⟨rfl, Below.refl _ _⟩

set_option maxRecDepth 100000 in
theorem lifted (os : Os) (started : os.Started) (H : Type) (enc : TypeId × Value → H) :
    ReturnsInHanded {} Try.checked os 7 .any (Rows.fnExactSignsOkSpec.pre6 enc Try.prog Try.f7 Rows.fnExactSignsOkRow.domain false) (Rows.fnExactSignsOkSpec.post enc Try.prog Try.f7 false true false false) := by
  refine returnsInHanded_of_change (C := Try.checked) ownNone started (by kernel_rfl) Try.func7
    (ChangeSpec.witness6 (enc := enc) (C := Try.checked) false ⟨#[], #[.slice none 0 0], []⟩ 8 (by kernel_rfl) (by kernel_rfl) (by kernel_rfl) (by kernel_rfl)) ?_
  intro W base args ds gs before hval0 hW hcnd _
  have hval : ∀ (j : Nat) t v, Try.f7.params[j]? = some t → args[j]? = some v → Value.okWide Try.prog W .any base t v := hval0
  have hW' := hW
  obtain ⟨p, q, hA0, hV, rfl, hfz, hnd⟩ := hW
  have hA : DataW.TrodAll enc Try.prog W 0 (fun _ => true) true Try.f7.params.toList args.toList ds p := hA0
  rw [Try.params7] at hA hval
  obtain ⟨v0, vs0, d0, ds0, p0, q0, hargs, rfl, rfl, h0, r0⟩ := trodAll_cons hA
  obtain ⟨rfl, rfl, rfl⟩ := trodAll_nil r0
  obtain rfl : args = #[v0] := by cases args; simp_all
  obtain ⟨rfl, rfl⟩ := trodVars_none hV
  obtain ⟨a0, s0, w0⟩ := open_intS (hval 0 26 v0 rfl rfl) h0 (fun x hx => hW'.lt x (by simp [hx]))
  clear hA0 hval0
  refine (walk W v0 a0 s0 w0).mono fun e W' ⟨he, hb⟩ => ?_
  subst he
  exact ⟨_, rfl, law_post hW' rfl hb (by kernel_rfl) (by kernel_rfl) rfl⟩

theorem over : Rows.fnExactSignsOkRow.holds Try.pinned (OpenSpec.ofChange Rows.fnExactSignsOkSpec) :=
  OpenClaim.holds_of_wide 7 Try.f7 rfl rfl rfl rfl rfl rfl rfl ⟨rfl, rfl, rfl, rfl, rfl⟩ rfl rfl rfl rfl rfl (by kernel_rfl) Try.func7 (by kernel_rfl)
    (of_decide_eq_true (by kernel_rfl)) (by unfold Func.isWrapper; first | (rw [if_pos (by decide +kernel)]; kernel_rfl) | (rw [if_neg (by decide +kernel)]; exact ⟨rfl, rfl⟩))
    (fun os started H enc _ => lifted os started H enc)

/-- The given statement. -/
theorem proved : Rows.FnExactSignsOkSaid :=
  over
end Go.Proofs.Ytnojokoabeiegaa.fnExactSignsOk
