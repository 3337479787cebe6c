/- The law FnExactSignsSame returns true for every argument and leaves memory as it was. Condition: none. -/
import Derived.Test.YtnojokoabeiegaaRow
import Derived.Test.YtnojokoabeiegaaToInts
namespace Go.Proofs.Ytnojokoabeiegaa.fnExactSignsSame
open Go.ChangeShapes Go.WideShapes Go.ChangeAt Go.RowKit
set_option linter.unusedVariables false

set_option maxHeartbeats 800000 in
theorem walk (w : World) (v0 : Value) (xs0 : List Int) (r0 : SliceInts w.heap.size w v0 xs0) (l0 : xs0.length ≤ maxLen) (v1 : Value) (xs1 : List Int) (r1 : SliceInts w.heap.size w v1 xs1) (l1 : xs1.length ≤ maxLen) : Calls Try.prog 9 #[v0, v1] w fun e w' => e = .returned (.bool true) ∧ Below w.heap.size w w' := by
  have rd0 := r0
  obtain ⟨A0, c0, rfl, -, -⟩ := r0
  have rd1 := r1
  obtain ⟨A1, c1, rfl, -, -⟩ := r1
  by_cases sm0 : xs0.length ≤ 1048576
  rotate_left
  · go_enter Try.func9, Try.ntmps9
    go_wp2_with (fail)
    go_ret
    exact ⟨rfl, Below.refl _ _⟩
  by_cases sm1 : xs1.length ≤ 1048576
  rotate_left
  · go_enter Try.func9, Try.ntmps9
    go_wp2_with (fail)
    go_ret
    exact ⟨rfl, Below.refl _ _⟩
  have HB := Below.refl w.heap.size w
  go_enter Try.func9, Try.ntmps9
  go_wp2_with (fail)
  refine (toIntS_l _ xs0 _ rd0 (by omega)).mono ?_
  rintro e w1 ⟨s0, rfl, os0, b1⟩
  replace rd0 := rd0.later b1
  replace rd1 := rd1.later b1
  replace HB := HB.trans (b1.mono HB.size)
  go_wp2_with (fail)
  refine (toIntS_l _ xs1 _ rd1 (by omega)).mono ?_
  rintro e w2 ⟨s1, rfl, os1, b2⟩
  replace rd0 := rd0.later b2
  replace rd1 := rd1.later b2
  replace os0 := os0.below b2
  replace HB := HB.trans (b2.mono HB.size)
  go_wp2_with (fail)
  refine (signsSame_sb _ _ _ xs0 xs1 _ os0.slice os1.slice (by unfold maxLen; omega)).mono ?_
  rintro e w3 ⟨rfl, b3⟩
  replace rd0 := rd0.later b3
  replace rd1 := rd1.later b3
  replace os0 := os0.below b3
  replace os1 := os1.below b3
  replace HB := HB.trans (b3.mono HB.size)
  go_wp2_with (fail)
  refine (toIntS_l _ xs0 _ rd0 (by omega)).mono ?_
  rintro e w4 ⟨x0, rfl, ox0, b4⟩
  replace rd0 := rd0.later b4
  replace rd1 := rd1.later b4
  replace HB := HB.trans (b4.mono HB.size)
  go_wp2_with (fail)
  refine (toIntS_l _ xs1 _ rd1 (by omega)).mono ?_
  rintro e w5 ⟨x1, rfl, ox1, b5⟩
  replace rd0 := rd0.later b5
  replace rd1 := rd1.later b5
  replace ox0 := ox0.below b5
  replace HB := HB.trans (b5.mono HB.size)
  go_wp2_with (fail)
  refine (signsSame_ib _ _ _ xs0 xs1 _ ox0.slice ox1.slice (by unfold maxLen; omega)).mono ?_
  rintro e w6 ⟨rfl, b6⟩
  replace rd0 := rd0.later b6
  replace rd1 := rd1.later b6
  replace ox0 := ox0.below b6
  replace ox1 := ox1.below b6
  replace HB := HB.trans (b6.mono HB.size)
  go_wp2_with (fail)
  refine (toIntS_l _ xs0 _ rd0 (by omega)).mono ?_
  rintro e w7 ⟨y0, rfl, oy0, b7⟩
  replace rd0 := rd0.later b7
  replace rd1 := rd1.later b7
  replace ox0 := ox0.below b7
  replace ox1 := ox1.below b7
  replace HB := HB.trans (b7.mono HB.size)
  go_wp2_with (fail)
  refine (eqIntS_b _ _ _ xs0 xs0 _ ox0.slice oy0.slice (by unfold maxLen; omega)).mono ?_
  rintro e w8 ⟨rfl, b8⟩
  replace rd0 := rd0.later b8
  replace rd1 := rd1.later b8
  replace ox0 := ox0.below b8
  replace ox1 := ox1.below b8
  replace HB := HB.trans (b8.mono HB.size)
  go_wp2_with (fail)
  refine (toIntS_l _ xs1 _ rd1 (by omega)).mono ?_
  rintro e w9 ⟨y1, rfl, oy1, b9⟩
  replace rd0 := rd0.later b9
  replace rd1 := rd1.later b9
  replace ox0 := ox0.below b9
  replace ox1 := ox1.below b9
  replace HB := HB.trans (b9.mono HB.size)
  go_wp2_with (fail)
  refine (eqIntS_b _ _ _ xs1 xs1 _ ox1.slice oy1.slice (by unfold maxLen; omega)).mono ?_
  rintro e w10 ⟨rfl, b10⟩
  replace rd0 := rd0.later b10
  replace rd1 := rd1.later b10
  replace ox0 := ox0.below b10
  replace ox1 := ox1.below b10
  replace HB := HB.trans (b10.mono HB.size)
  go_wp2_with (fail)
  go_ret
  exact ⟨rfl, HB⟩

set_option maxRecDepth 100000 in
theorem lifted (os : Os) (started : os.Started) (H : Type) (enc : TypeId × Value → H) :
    ReturnsInHanded {} Try.checked os 9 .any (Rows.fnExactSignsSameSpec.pre6 enc Try.prog Try.f9 Rows.fnExactSignsSameRow.domain false) (Rows.fnExactSignsSameSpec.post enc Try.prog Try.f9 false true false false) := by
  refine returnsInHanded_of_change (C := Try.checked) ownNone started (by kernel_rfl) Try.func9
    (ChangeSpec.witness6 (enc := enc) (C := Try.checked) false ⟨#[], #[.slice none 0 0, .slice none 0 0], []⟩ 8 (by kernel_rfl) (by kernel_rfl) (by kernel_rfl) (by kernel_rfl)) ?_
  intro W base args ds gs before hval0 hW hcnd _
  have hval : ∀ (j : Nat) t v, Try.f9.params[j]? = some t → args[j]? = some v → Value.okWide Try.prog W .any base t v := hval0
  have hW' := hW
  obtain ⟨p, q, hA0, hV, rfl, hfz, hnd⟩ := hW
  have hA : DataW.TrodAll enc Try.prog W 0 (fun _ => true) true Try.f9.params.toList args.toList ds p := hA0
  rw [Try.params9] at hA hval
  obtain ⟨v0, vs0, d0, ds0, p0, q0, hargs, rfl, rfl, h0, r0⟩ := trodAll_cons hA
  obtain ⟨v1, vs1, d1, ds1, p1, q1, rfl, rfl, rfl, h1, r1⟩ := trodAll_cons r0
  obtain ⟨rfl, rfl, rfl⟩ := trodAll_nil r1
  obtain rfl : args = #[v0, v1] := by cases args; simp_all
  obtain ⟨rfl, rfl⟩ := trodVars_none hV
  obtain ⟨a0, s0, w0⟩ := open_intS (hval 0 26 v0 rfl rfl) h0 (fun x hx => hW'.lt x (by simp [hx]))
  obtain ⟨a1, s1, w1⟩ := open_intS (hval 1 26 v1 rfl rfl) h1 (fun x hx => hW'.lt x (by simp [hx]))
  clear hA0 hval0
  refine (walk W v0 a0 s0 w0 v1 a1 s1 w1).mono fun e W' ⟨he, hb⟩ => ?_
  subst he
  exact ⟨_, rfl, law_post hW' rfl hb (by kernel_rfl) (by kernel_rfl) rfl⟩

theorem over : Rows.fnExactSignsSameRow.holds Try.pinned (OpenSpec.ofChange Rows.fnExactSignsSameSpec) :=
  OpenClaim.holds_of_wide 9 Try.f9 rfl rfl rfl rfl rfl rfl rfl ⟨rfl, rfl, rfl, rfl, rfl⟩ rfl rfl rfl rfl rfl (by kernel_rfl) Try.func9 (by kernel_rfl)
    (of_decide_eq_true (by kernel_rfl)) (by unfold Func.isWrapper; first | (rw [if_pos (by decide +kernel)]; kernel_rfl) | (rw [if_neg (by decide +kernel)]; exact ⟨rfl, rfl⟩))
    (fun os started H enc _ => lifted os started H enc)

/-- The given statement. -/
theorem proved : Rows.FnExactSignsSameSaid :=
  over
end Go.Proofs.Ytnojokoabeiegaa.fnExactSignsSame
