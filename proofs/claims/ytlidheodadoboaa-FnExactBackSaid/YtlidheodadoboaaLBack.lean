/- The law FnExactBack returns true for every argument and leaves memory as it was. Condition: none. -/
import Derived.Test.YtlidheodadoboaaRow
import Derived.Test.YtlidheodadoboaaEqParts
import Derived.Test.YtlidheodadoboaaBack
namespace Go.Proofs.Ytlidheodadoboaa.fnExactBack
open Go.ChangeShapes Go.WideShapes Go.ChangeAt Go.RowKit
set_option linter.unusedVariables false

set_option maxHeartbeats 2000000 in
set_option maxRecDepth 100000 in
theorem walk (w : World) (v0 : Value) (xs0 : List Pt) (r0 : SliceParts w.heap.size w v0 xs0) (l0 : xs0.length ≤ maxLen) (a1 : Int) (w1 : (Lit.int .i64 a1).wf = true) : Calls Try.prog 10 #[v0, .int .i64 a1] w fun e w' => e = .returned (.bool true) ∧ Below w.heap.size w w' := by
  have rd0 := r0
  obtain ⟨A0, c0, rfl, -, -⟩ := r0
  by_cases q0 : 0 ≤ Pl.szS xs0 1048576
  rotate_left
  · have q0' : Pl.szS xs0 1048576 < 0 := by omega
    have HB := Below.refl w.heap.size w
    go_enter Try.func10, Try.ntmps10
    go_wp2_with (fail)
    refine (szPartS_l _ xs0 1048576 _ (rd0.mono HB.size) (by omega) (by omega)).mono ?_
    rintro e w1 ⟨rfl, b1⟩
    replace rd0 := rd0.below (b1.mono HB.size)
    have z1 := b1.size
    replace HB := HB.trans (b1.mono HB.size)
    go_wp2_with (fail)
    go_ret
    exact ⟨rfl, HB⟩
  have g0 := szS_le (ps := xs0) (left := 1048576) (by omega)
  obtain ⟨bl0, bs0⟩ := szS_nat (ps := xs0) (left := 1048576) (by omega) (by omega) q0
  have Bs0 := Lib.hid bs0
  clear bs0
  have HB := Below.refl w.heap.size w
  go_enter Try.func10, Try.ntmps10
  go_wp2_with (fail)
  refine (szPartS_l _ xs0 1048576 _ (rd0.mono HB.size) (by omega) (by omega)).mono ?_
  rintro e w2 ⟨rfl, b2⟩
  replace rd0 := rd0.below (b2.mono HB.size)
  have z2 := b2.size
  replace HB := HB.trans (b2.mono HB.size)
  go_wp2_with (fail)
  refine (toPartS_l _ xs0 _ (rd0.mono HB.size) (by omega) (fun p hp => Nat.le_trans (Bs0.out p hp) (by omega))).mono ?_
  rintro e w3 ⟨s0, us0, rfl, os0, b3⟩
  replace rd0 := rd0.below (b3.mono HB.size)
  have z3 := b3.size
  replace HB := HB.trans (b3.mono HB.size)
  go_wp2_with (fail)
  refine (back_s _ xs0 a1 _ os0.slice).mono ?_
  rintro e w4 ⟨rfl, b4⟩
  replace rd0 := rd0.below (b4.mono HB.size)
  replace os0 := os0.below b4
  have z4 := b4.size
  replace HB := HB.trans (b4.mono HB.size)
  go_wp2_with (fail)
  refine (toPartS_l _ xs0 _ (rd0.mono HB.size) (by omega) (fun p hp => Nat.le_trans (Bs0.out p hp) (by omega))).mono ?_
  rintro e w5 ⟨x0, ux0, rfl, ox0, b5⟩
  replace rd0 := rd0.below (b5.mono HB.size)
  have z5 := b5.size
  replace HB := HB.trans (b5.mono HB.size)
  go_wp2_with (fail)
  refine (back_i _ xs0 a1 _ ox0.slice).mono ?_
  rintro e w6 ⟨rfl, b6⟩
  replace rd0 := rd0.below (b6.mono HB.size)
  replace ox0 := ox0.below b6
  have z6 := b6.size
  replace HB := HB.trans (b6.mono HB.size)
  go_wp2_with (fail)
  refine (toPartS_l _ xs0 _ (rd0.mono HB.size) (by omega) (fun p hp => Nat.le_trans (Bs0.out p hp) (by omega))).mono ?_
  rintro e w7 ⟨y0, uy0, rfl, oy0, b7⟩
  replace rd0 := rd0.below (b7.mono HB.size)
  replace ox0 := ox0.below b7
  have z7 := b7.size
  replace HB := HB.trans (b7.mono HB.size)
  go_wp2_with (fail)
  refine (eqPartS_b _ _ xs0 _ ox0.slice oy0.slice).mono ?_
  rintro e w8 ⟨rfl, b8⟩
  replace rd0 := rd0.below (b8.mono HB.size)
  replace ox0 := ox0.below b8
  replace oy0 := oy0.below b8
  have z8 := b8.size
  replace HB := HB.trans (b8.mono HB.size)
  go_wp2_with (fail)
  go_ret
  exact ⟨rfl, HB⟩

set_option maxRecDepth 100000 in
theorem lifted (os : Os) (started : os.Started) (H : Type) (enc : TypeId × Value → H) :
    ReturnsInHanded {} Try.checked os 10 .any (Rows.fnExactBackSpec.pre6 enc Try.prog Try.f10 Rows.fnExactBackRow.domain false) (Rows.fnExactBackSpec.post enc Try.prog Try.f10 false true false false) := by
  refine returnsInHanded_of_change (C := Try.checked) ownNone started (by kernel_rfl) Try.func10
    (ChangeSpec.witness6 (enc := enc) (C := Try.checked) false ⟨#[], #[.slice none 0 0, .int .i64 0], []⟩ 8 (by kernel_rfl) (by kernel_rfl) (by kernel_rfl) (by kernel_rfl)) ?_
  intro W base args ds gs before hval0 hW hcnd _
  have hval : ∀ (j : Nat) t v, Try.f10.params[j]? = some t → args[j]? = some v → Value.okWide Try.prog W .any base t v := hval0
  have hW' := hW
  obtain ⟨p, q, hA0, hV, rfl, hfz, hnd⟩ := hW
  have hA : DataW.TrodAll enc Try.prog W 0 (fun _ => true) true Try.f10.params.toList args.toList ds p := hA0
  rw [Try.params10] at hA hval
  obtain ⟨v0, vs0, d0, ds0, p0, q0, hargs, rfl, rfl, h0, r0⟩ := trodAll_cons hA
  obtain ⟨v1, vs1, d1, ds1, p1, q1, rfl, rfl, rfl, h1, r1⟩ := trodAll_cons r0
  obtain ⟨rfl, rfl, rfl⟩ := trodAll_nil r1
  obtain rfl : args = #[v0, v1] := by cases args; simp_all
  obtain ⟨rfl, rfl⟩ := trodVars_none hV
  obtain ⟨a0, s0, w0⟩ := open_partS (hval 0 22 v0 rfl rfl) h0 (fun x hx => hW'.lt x (by simp [hx]))
  obtain ⟨a1, rfl, rfl, rfl, w1⟩ := open_int Try.underlying3 (hval 1 3 v1 rfl rfl) h1
  clear hA0 hval0
  refine (walk W v0 a0 s0 w0 a1 w1).mono fun e W' ⟨he, hb⟩ => ?_
  subst he
  exact ⟨_, rfl, law_post hW' rfl hb (by kernel_rfl) (by kernel_rfl) rfl⟩

theorem over : Rows.fnExactBackRow.holds Try.pinned (OpenSpec.ofChange Rows.fnExactBackSpec) :=
  OpenClaim.holds_of_wide 10 Try.f10 rfl rfl rfl rfl rfl rfl rfl ⟨rfl, rfl, rfl, rfl, rfl⟩ rfl rfl rfl rfl rfl (by kernel_rfl) Try.func10 (by kernel_rfl)
    (of_decide_eq_true (by kernel_rfl)) (by unfold Func.isWrapper; first | (rw [if_pos (by decide +kernel)]; kernel_rfl) | (rw [if_neg (by decide +kernel)]; exact ⟨rfl, rfl⟩))
    (fun os started H enc _ => lifted os started H enc)

/-- The given statement. -/
theorem proved : Rows.FnExactBackSaid :=
  over
end Go.Proofs.Ytlidheodadoboaa.fnExactBack
