/- The law FnExactPutAt returns true for every argument and leaves memory as it was. Condition: none. -/
import Derived.Test.YtlidheodadoboaaRow
import Derived.Test.YtlidheodadoboaaMarks
import Derived.Test.YtlidheodadoboaaPlace2
namespace Go.Proofs.Ytlidheodadoboaa.fnExactPutAt
open Go.ChangeShapes Go.WideShapes Go.ChangeAt Go.RowKit
set_option linter.unusedVariables false

set_option maxHeartbeats 2000000 in
set_option maxRecDepth 100000 in
theorem walk (w : World) (a0 : Int) (w0 : (Lit.int .i64 a0).wf = true) (a1 : Int) (w1 : (Lit.int .i64 a1).wf = true) (v2 : Value) (xs2 : List Int) (r2 : SliceInts w.heap.size w v2 xs2) (l2 : xs2.length ≤ maxLen) : Calls Try.prog 7 #[.int .i64 a0, .int .i64 a1, v2] w fun e w' => e = .returned (.bool true) ∧ Below w.heap.size w w' := by
  have iu0 := (wf_i64 w0).2
  have rd2 := r2
  obtain ⟨A2, c2, rfl, -, -⟩ := r2
  by_cases sm0 : xs2.length ≤ 1048576
  rotate_left
  · go_enter Try.func7, Try.ntmps7
    go_wp2_with (fail)
    go_ret
    exact ⟨rfl, Below.refl _ _⟩
  have HB := Below.refl w.heap.size w
  go_enter Try.func7, Try.ntmps7
  go_wp2_with (fail)
  refine (toIntS_l _ xs2 _ (rd2.mono HB.size) (by omega)).mono ?_
  rintro e w1 ⟨s2, rfl, os2, b1⟩
  replace rd2 := rd2.below (b1.mono HB.size)
  have z1 := b1.size
  replace HB := HB.trans (b1.mono HB.size)
  go_wp2_with (fail)
  refine (putAt_s a0 a1 _ xs2 _ iu0 os2.slice).mono ?_
  rintro e w2 ⟨w0, uw0, rfl, ow0, b2⟩
  replace rd2 := rd2.below (b2.mono HB.size)
  replace os2 := os2.below b2
  have z2 := b2.size
  replace HB := HB.trans (b2.mono HB.size)
  go_wp2_with (fail)
  refine (toIntS_l _ xs2 _ (rd2.mono HB.size) (by omega)).mono ?_
  rintro e w3 ⟨x2, rfl, ox2, b3⟩
  replace rd2 := rd2.below (b3.mono HB.size)
  replace ow0 := ow0.below b3
  have z3 := b3.size
  replace HB := HB.trans (b3.mono HB.size)
  go_wp2_with (fail)
  refine (putAt_i a0 a1 _ xs2 _ iu0 ox2.slice).mono ?_
  rintro e w4 ⟨g0, ug0, rfl, og0, b4⟩
  replace rd2 := rd2.below (b4.mono HB.size)
  replace ow0 := ow0.below b4
  replace ox2 := ox2.below b4
  have z4 := b4.size
  replace HB := HB.trans (b4.mono HB.size)
  go_wp2_with (fail)
  refine (eqPartS_b _ _ (Pl.place a0 a1 xs2 0) _ og0.slice ow0.slice).mono ?_
  rintro e w5 ⟨rfl, b5⟩
  replace rd2 := rd2.below (b5.mono HB.size)
  replace ow0 := ow0.below b5
  replace ox2 := ox2.below b5
  replace og0 := og0.below b5
  have z5 := b5.size
  replace HB := HB.trans (b5.mono HB.size)
  go_wp2_with (fail)
  refine (toIntS_l _ xs2 _ (rd2.mono HB.size) (by omega)).mono ?_
  rintro e w6 ⟨y2, rfl, oy2, b6⟩
  replace rd2 := rd2.below (b6.mono HB.size)
  replace ow0 := ow0.below b6
  replace ox2 := ox2.below b6
  replace og0 := og0.below b6
  have z6 := b6.size
  replace HB := HB.trans (b6.mono HB.size)
  go_wp2_with (fail)
  refine (eqIntS_b _ _ _ xs2 xs2 _ ox2.slice oy2.slice ox2.slice.len).mono ?_
  rintro e w7 ⟨rfl, b7⟩
  replace rd2 := rd2.below (b7.mono HB.size)
  replace ow0 := ow0.below b7
  replace ox2 := ox2.below b7
  replace og0 := og0.below b7
  replace oy2 := oy2.below b7
  have z7 := b7.size
  replace HB := HB.trans (b7.mono HB.size)
  go_wp2_with (fail)
  refine (markIntS_w _ _ _ xs2 1 _ ox2 (by omega) (by omega) (by omega)).mono ?_
  rintro e w8 ⟨rfl, p8, c8⟩
  replace rd2 := rd2.within c8 (by omega)
  replace ow0 := ow0.within c8 (by omega)
  replace og0 := og0.within c8 (by omega)
  have z8 := Nat.le_of_eq c8.size
  have y8 := Nat.le_of_eq c8.size.symm
  replace HB := HB.trans (c8.below (by omega))
  replace ox2 := p8
  clear p8
  go_wp2_with (fail)
  refine (eqPartS_b _ _ (Pl.place a0 a1 xs2 0) _ og0.slice ow0.slice).mono ?_
  rintro e w9 ⟨rfl, b9⟩
  replace rd2 := rd2.below (b9.mono HB.size)
  replace ow0 := ow0.below b9
  replace og0 := og0.below b9
  have z9 := b9.size
  replace HB := HB.trans (b9.mono HB.size)
  have tk0 : Pl.small (Pl.place a0 a1 xs2 0) 1 := place_small _ _ _ _ _ (by omega) (by omega)
  obtain ⟨tbl0, tbu0⟩ := markN_bd tk0
  have Tk0 := Lib.hid tk0
  clear tk0
  go_wp2_with (fail)
  refine (markPartS_l _ _ _ (Pl.place a0 a1 xs2 0) _ 1 _ og0 Tk0.out).mono ?_
  rintro e w10 ⟨rfl, p10, c10⟩
  replace rd2 := rd2.within c10 (by omega)
  replace ow0 := ow0.within c10 (by omega)
  have z10 := Nat.le_of_eq c10.size
  have y10 := Nat.le_of_eq c10.size.symm
  replace HB := HB.trans (c10.below (by omega))
  replace og0 := p10
  clear p10
  go_wp2_with (fail)
  refine (heldPartS_l _ _ (Pl.place a0 a1 xs2 0) 1 _ og0.slice Tk0.out).mono ?_
  rintro e w11 ⟨rfl, rfl⟩
  go_wp2_with (fail)
  refine (toIntS_l _ xs2 _ (rd2.mono HB.size) (by omega)).mono ?_
  rintro e w12 ⟨t2, rfl, ot2, b12⟩
  replace rd2 := rd2.below (b12.mono HB.size)
  replace ow0 := ow0.below b12
  replace og0 := og0.below b12
  have z12 := b12.size
  replace HB := HB.trans (b12.mono HB.size)
  go_wp2_with (fail)
  refine (putAt_i a0 a1 _ xs2 _ iu0 ot2.slice).mono ?_
  rintro e w13 ⟨h0, uh0, rfl, oh0, b13⟩
  replace rd2 := rd2.below (b13.mono HB.size)
  replace ow0 := ow0.below b13
  replace og0 := og0.below b13
  replace ot2 := ot2.below b13
  have z13 := b13.size
  replace HB := HB.trans (b13.mono HB.size)
  go_wp2_with (fail)
  refine (eqPartS_b _ _ (Pl.place a0 a1 xs2 0) _ oh0.slice ow0.slice).mono ?_
  rintro e w14 ⟨rfl, b14⟩
  replace rd2 := rd2.below (b14.mono HB.size)
  replace ow0 := ow0.below b14
  replace og0 := og0.below b14
  replace oh0 := oh0.below b14
  have z14 := b14.size
  replace HB := HB.trans (b14.mono HB.size)
  go_wp2_with (fail)
  refine (heldPartS_l _ _ (Pl.place a0 a1 xs2 0) 1 _ og0.slice Tk0.out).mono ?_
  rintro e w15 ⟨rfl, rfl⟩
  go_wp2_with (fail)
  go_ret
  exact ⟨rfl, HB⟩

set_option maxRecDepth 100000 in
theorem lifted (os : Os) (started : os.Started) (H : Type) (enc : TypeId × Value → H) :
    ReturnsInHanded {} Try.checked os 7 .any (Rows.fnExactPutAtSpec.pre6 enc Try.prog Try.f7 Rows.fnExactPutAtRow.domain false) (Rows.fnExactPutAtSpec.post enc Try.prog Try.f7 false true false false) := by
  refine returnsInHanded_of_change (C := Try.checked) ownNone started (by kernel_rfl) Try.func7
    (ChangeSpec.witness6 (enc := enc) (C := Try.checked) false ⟨#[], #[.int .i64 0, .int .i64 0, .slice none 0 0], []⟩ 8 (by kernel_rfl) (by kernel_rfl) (by kernel_rfl) (by kernel_rfl)) ?_
  intro W base args ds gs before hval0 hW hcnd _
  have hval : ∀ (j : Nat) t v, Try.f7.params[j]? = some t → args[j]? = some v → Value.okWide Try.prog W .any base t v := hval0
  have hW' := hW
  obtain ⟨p, q, hA0, hV, rfl, hfz, hnd⟩ := hW
  have hA : DataW.TrodAll enc Try.prog W 0 (fun _ => true) true Try.f7.params.toList args.toList ds p := hA0
  rw [Try.params7] at hA hval
  obtain ⟨v0, vs0, d0, ds0, p0, q0, hargs, rfl, rfl, h0, r0⟩ := trodAll_cons hA
  obtain ⟨v1, vs1, d1, ds1, p1, q1, rfl, rfl, rfl, h1, r1⟩ := trodAll_cons r0
  obtain ⟨v2, vs2, d2, ds2, p2, q2, rfl, rfl, rfl, h2, r2⟩ := trodAll_cons r1
  obtain ⟨rfl, rfl, rfl⟩ := trodAll_nil r2
  obtain rfl : args = #[v0, v1, v2] := by cases args; simp_all
  obtain ⟨rfl, rfl⟩ := trodVars_none hV
  obtain ⟨a0, rfl, rfl, rfl, w0⟩ := open_int Try.underlying3 (hval 0 3 v0 rfl rfl) h0
  obtain ⟨a1, rfl, rfl, rfl, w1⟩ := open_int Try.underlying3 (hval 1 3 v1 rfl rfl) h1
  obtain ⟨a2, s2, w2⟩ := open_intS (hval 2 31 v2 rfl rfl) h2 (fun x hx => hW'.lt x (by simp [hx]))
  clear hA0 hval0
  refine (walk W a0 w0 a1 w1 v2 a2 s2 w2).mono fun e W' ⟨he, hb⟩ => ?_
  subst he
  exact ⟨_, rfl, law_post hW' rfl hb (by kernel_rfl) (by kernel_rfl) rfl⟩

theorem over : Rows.fnExactPutAtRow.holds Try.pinned (OpenSpec.ofChange Rows.fnExactPutAtSpec) :=
  OpenClaim.holds_of_wide 7 Try.f7 rfl rfl rfl rfl rfl rfl rfl ⟨rfl, rfl, rfl, rfl, rfl⟩ rfl rfl rfl rfl rfl (by kernel_rfl) Try.func7 (by kernel_rfl)
    (of_decide_eq_true (by kernel_rfl)) (by unfold Func.isWrapper; first | (rw [if_pos (by decide +kernel)]; kernel_rfl) | (rw [if_neg (by decide +kernel)]; exact ⟨rfl, rfl⟩))
    (fun os started H enc _ => lifted os started H enc)

/-- The given statement. -/
theorem proved : Rows.FnExactPutAtSaid :=
  over
end Go.Proofs.Ytlidheodadoboaa.fnExactPutAt
