/- The law FnMeet returns true for every argument and leaves memory as it was. Condition: none. -/
import Derived.Test.YtlpjbbmjchfolaaRowBytes
import Derived.Test.YtlpjbbmjchfolaaMake
import Derived.Test.YtlpjbbmjchfolaaLaw
import Derived.Test.YtlpjbbmjchfolaaTransform
import Derived.Test.YtlpjbbmjchfolaaIsNorm
namespace Go.Proofs.Ytlpjbbmjchfolaa.fnMeet
open Go.ChangeShapes Go.WideShapes Go.ChangeAt Go.RowKit
set_option maxRecDepth 100000
set_option linter.unusedVariables false

set_option maxHeartbeats 8000000 in
set_option maxRecDepth 100000 in
theorem walk (w : World) (v0 : Value) (n0 : Nat) (r0 : SliceBytes w.heap.size w v0 n0) (l0 : n0 ≤ maxLen) : Calls Try.prog 3 #[v0] w fun e w' => e = .returned (.bool true) ∧ Below w.heap.size w w' := by
  have rd0 := Lib.hid r0
  obtain ⟨A0, c0, rfl, -, -⟩ := r0
  by_cases sm0 : n0 ≤ 1048576
  rotate_left
  · go_enter Try.func3, Try.ntmps3
    go_wp2_with (fail)
    go_ret
    exact ⟨rfl, Below.refl _ _⟩
  go_enter Try.func3, Try.ntmps3
  go_wp2_with (fail)
  refine (makeOps_s _ n0 _ rd0.out).mono ?_
  rintro e w1 ⟨u1, a1, b1, t, o, qs, rfl, ht, ho, hq, ⟨tl, tok⟩, ⟨ook, ofr, oto⟩, ⟨qok, qfr, qto⟩, bw1⟩
  have T1 := Lib.hid ht
  have O1 := Lib.hid ho
  have Q1 := Lib.hid hq
  obtain ⟨At, ct, rfl, -, -⟩ := ht
  obtain ⟨Ao, co, rfl, -, -⟩ := ho
  obtain ⟨Aq, cq, rfl, -, -⟩ := hq
  have HB1 := Lib.hid bw1
  have opO := Pl.Op.mk' ook ofr (k := t.length) rfl
  have opQ := Pl.Op.mk' qok qfr (k := t.length) rfl
  obtain ⟨m, hm⟩ : ∃ m, Pl.to_ (Pl.units o) = m := ⟨_, rfl⟩
  obtain ⟨n, hn⟩ : ∃ n, Pl.to_ (Pl.units qs) = n := ⟨_, rfl⟩
  rw [hm] at opO
  rw [hn] at opQ
  have tx : Pl.Tx t t.length := ⟨tok, rfl⟩
  have hmn : m + n ≤ 200 := by have := opO.opFrom.2; have := opQ.opFrom.2; omega
  obtain ⟨x1, x2, x3, j, hj, x4, x5, x6, x7, x8⟩ := opO.trans opQ hmn
  obtain ⟨p1, p2, p3⟩ := opO.apply tx
  obtain ⟨q1, q2, q3⟩ := opQ.apply tx
  obtain ⟨y1, y2, y3⟩ := x5.apply p3
  obtain ⟨z1, z2, z3⟩ := x4.apply q3
  have hsame := x8 t tx
  obtain ⟨P, hP⟩ : ∃ P, Pl.app (Pl.units o) t = P := ⟨_, rfl⟩
  obtain ⟨Q, hQ⟩ : ∃ Q, Pl.app (Pl.units qs) t = Q := ⟨_, rfl⟩
  rw [hP] at p2 p3 y1 y2 y3 hsame
  rw [hQ] at q2 q3 z1 z2 z3 hsame
  obtain ⟨R, hR⟩ : ∃ R, Pl.app (Pl.units (Pl.xf2 o qs)) P = R := ⟨_, rfl⟩
  rw [hR] at y2 y3 hsame
  rw [← hsame] at z2 z3
  have X1 := Lib.hid x1
  have X2 := Lib.hid x2
  have X3 := Lib.hid x3
  have X6 := Lib.hid x6
  have X7 := Lib.hid x7
  have P1 := Lib.hid p1
  have P2 := Lib.hid p2
  have Q1' := Lib.hid q1
  have Q2 := Lib.hid q2
  have Y1 := Lib.hid y1
  have Y2 := Lib.hid y2
  have Z1 := Lib.hid z1
  have Z2 := Lib.hid z2
  have lR : R.length ≤ 200 := by have := y3.len; omega
  clear bw1 ook ofr oto tok hm hn rd0 qok qfr qto opO opQ tx hmn hj x1 x2 x3 x4 x5 x6 x7 x8 p1 p2 p3 q1 q2 q3 y1 y2 y3 z1 z2 z3 hsame hP hQ hR
  go_wp2_with (fail)
  refine (transform_i _ _ o qs _ O1.out Q1.out).mono ?_
  rintro e w2 ⟨v2, s2, v3, s3, rfl, ov, ow, b2⟩
  rw [X1.out]
  rw [X2.out] at ov
  rw [X3.out] at ow
  generalize Pl.xf1 o qs = xo at ov X6 Z1 Z2
  generalize Pl.xf2 o qs = yo at ow X7 Y1 Y2
  have XV2 := Lib.hid ov.slice
  have YV2 := Lib.hid ow.slice
  obtain ⟨Ax, cx, rfl⟩ := own_shape ov.row
  obtain ⟨Ay, cy, rfl⟩ := own_shape ow.row
  have T2 := Lib.hid (T1.out.later b2)
  have O2 := Lib.hid (O1.out.later b2)
  have QV2 := Lib.hid (Q1.out.later b2)
  have HB2 := Lib.hid (HB1.out.trans (b2.mono HB1.out.size))
  clear T1 O1 Q1 HB1 b2 ov ow
  go_wp2_with (fail)
  refine (apply_i _ _ o t _ O2.out T2.out).mono ?_
  rintro e w3 ⟨v4, rfl, o3, b3⟩
  rw [P1.out]
  rw [P2.out] at o3
  have PV3 := Lib.hid o3.slice
  obtain ⟨Ap, cp, rfl⟩ := own_shape o3.1
  have T3 := Lib.hid (T2.out.later b3)
  have QV3 := Lib.hid (QV2.out.later b3)
  have XV3 := Lib.hid (XV2.out.later b3)
  have YV3 := Lib.hid (YV2.out.later b3)
  have HB3 := Lib.hid (HB2.out.trans (b3.mono HB2.out.size))
  clear T2 O2 QV2 XV2 YV2 HB2 b3 o3
  go_wp2_with (fail)
  refine (apply_i _ _ qs t _ QV3.out T3.out).mono ?_
  rintro e w4 ⟨v5, rfl, o4, b4⟩
  rw [Q1'.out]
  rw [Q2.out] at o4
  have QT4 := Lib.hid o4.slice
  obtain ⟨Aw, cw, rfl⟩ := own_shape o4.1
  have PV4 := Lib.hid (PV3.out.later b4)
  have XV4 := Lib.hid (XV3.out.later b4)
  have YV4 := Lib.hid (YV3.out.later b4)
  have HB4 := Lib.hid (HB3.out.trans (b4.mono HB3.out.size))
  clear T3 QV3 PV3 XV3 YV3 HB3 b4 o4
  go_wp2_with (fail)
  refine (apply_i _ _ yo P _ YV4.out PV4.out).mono ?_
  rintro e w5 ⟨v6, rfl, o5, b5⟩
  rw [Y1.out]
  rw [Y2.out] at o5
  have U5 := Lib.hid o5.slice
  obtain ⟨Au, cu, rfl⟩ := own_shape o5.1
  have QT5 := Lib.hid (QT4.out.later b5)
  have XV5 := Lib.hid (XV4.out.later b5)
  have YV5 := Lib.hid (YV4.out.later b5)
  have HB5 := Lib.hid (HB4.out.trans (b5.mono HB4.out.size))
  clear PV4 XV4 YV4 QT4 HB4 b5 o5
  go_wp2_with (fail)
  refine (apply_i _ _ xo Q _ XV5.out QT5.out).mono ?_
  rintro e w6 ⟨v7, rfl, o6, b6⟩
  rw [Z1.out]
  rw [Z2.out] at o6
  have V6 := Lib.hid o6.slice
  obtain ⟨Av, cv, rfl⟩ := own_shape o6.1
  have U6 := Lib.hid (U5.out.later b6)
  have XV6 := Lib.hid (XV5.out.later b6)
  have YV6 := Lib.hid (YV5.out.later b6)
  have HB6 := Lib.hid (HB5.out.trans (b6.mono HB5.out.size))
  clear U5 QT5 XV5 YV5 HB5 b6 o6
  go_wp2_with (fail)
  refine (signsSame_ib w6.heap.size _ _ R R _ U6.out V6.out (by unfold maxLen; omega)).mono ?_
  rintro e w7 ⟨rfl, b7⟩
  have e7 : decide (R = R) = true := by simp
  rw [e7]
  have XV7 := Lib.hid (XV6.out.later b7)
  have YV7 := Lib.hid (YV6.out.later b7)
  have HB7 := Lib.hid (HB6.out.trans (b7.mono HB6.out.size))
  clear XV6 YV6 HB6 b7 e7 U6 V6
  go_wp2_with (fail)
  refine (isNorm_i _ xo _ XV7.out).mono ?_
  rintro e w8 ⟨rfl, b8⟩
  rw [X6.out]
  have YV8 := Lib.hid (YV7.out.later b8)
  have HB8 := Lib.hid (HB7.out.trans (b8.mono HB7.out.size))
  clear YV7 XV7 HB7 b8
  go_wp2_with (fail)
  refine (isNorm_i _ yo _ YV8.out).mono ?_
  rintro e w9 ⟨rfl, b9⟩
  rw [X7.out]
  have HB9 := Lib.hid (HB8.out.trans (b9.mono HB8.out.size))
  clear b9
  go_wp2_with (fail)
  go_ret
  exact ⟨rfl, HB9.out⟩

set_option maxRecDepth 100000 in
theorem lifted (os : Os) (started : os.Started) (H : Type) (enc : TypeId × Value → H) :
    ReturnsInHanded {} Try.checked os 3 .any (Rows.fnMeetSpec.pre6 enc Try.prog Try.f3 Rows.fnMeetRow.domain false) (Rows.fnMeetSpec.post enc Try.prog Try.f3 false true false false) := by
  refine returnsInHanded_of_change (C := Try.checked) ownNone started (by kernel_rfl) Try.func3
    (ChangeSpec.witness6 (enc := enc) (C := Try.checked) false ⟨#[], #[.slice none 0 0], []⟩ 8 (by kernel_rfl) (by kernel_rfl) (by kernel_rfl) (by kernel_rfl)) ?_
  intro W base args ds gs before hval0 hW hcnd _
  have hval : ∀ (j : Nat) t v, Try.f3.params[j]? = some t → args[j]? = some v → Value.okWide Try.prog W .any base t v := hval0
  have hW' := hW
  obtain ⟨p, q, hA0, hV, rfl, hfz, hnd⟩ := hW
  have hA : DataW.TrodAll enc Try.prog W 0 (fun _ => true) true Try.f3.params.toList args.toList ds p := hA0
  rw [Try.params3] at hA hval
  obtain ⟨v0, vs0, d0, ds0, p0, q0, hargs, rfl, rfl, h0, r0⟩ := trodAll_cons hA
  obtain ⟨rfl, rfl, rfl⟩ := trodAll_nil r0
  obtain rfl : args = #[v0] := by cases args; simp_all
  obtain ⟨rfl, rfl⟩ := trodVars_none hV
  obtain ⟨a0, s0, w0⟩ := open_byteS (hval 0 22 v0 rfl rfl) h0 (fun x hx => hW'.lt x (by simp [hx]))
  clear hA0 hval0
  refine (walk W v0 a0 s0 w0).mono fun e W' ⟨he, hb⟩ => ?_
  subst he
  exact ⟨_, rfl, law_post hW' rfl hb (by kernel_rfl) (by kernel_rfl) rfl⟩

theorem over : Rows.fnMeetRow.holds Try.pinned (OpenSpec.ofChange Rows.fnMeetSpec) :=
  OpenClaim.holds_of_wide 3 Try.f3 rfl rfl rfl rfl rfl rfl rfl ⟨rfl, rfl, rfl, rfl, rfl⟩ rfl rfl rfl rfl rfl (by kernel_rfl) Try.func3 (by kernel_rfl)
    (of_decide_eq_true (by kernel_rfl)) (by unfold Func.isWrapper; first | (rw [if_pos (by decide +kernel)]; kernel_rfl) | (rw [if_neg (by decide +kernel)]; exact ⟨rfl, rfl⟩))
    (fun os started H enc _ => lifted os started H enc)

/-- The given statement. -/
theorem proved : Rows.FnMeetSaid :=
  over
end Go.Proofs.Ytlpjbbmjchfolaa.fnMeet
