/- The law FnInvert returns true for every argument and leaves memory as it was. Condition: none. -/
import Derived.Test.YtlpjbbmjchfolaaRowBytes
import Derived.Test.YtlpjbbmjchfolaaMake
import Derived.Test.YtlpjbbmjchfolaaLaw
import Derived.Test.YtlpjbbmjchfolaaLawInv
import Derived.Test.YtlpjbbmjchfolaaCompose
import Derived.Test.YtlpjbbmjchfolaaSame
import Derived.Test.YtlpjbbmjchfolaaIsNorm
namespace Go.Proofs.Ytlpjbbmjchfolaa.fnInvert
open Go.ChangeShapes Go.WideShapes Go.ChangeAt Go.RowKit
set_option maxRecDepth 100000
set_option linter.unusedVariables false

set_option maxHeartbeats 8000000 in
set_option maxRecDepth 100000 in
theorem walk (w : World) (v0 : Value) (n0 : Nat) (r0 : SliceBytes w.heap.size w v0 n0) (l0 : n0 ≤ maxLen) : Calls Try.prog 7 #[v0] w fun e w' => e = .returned (.bool true) ∧ Below w.heap.size w w' := by
  have rd0 := Lib.hid r0
  obtain ⟨A0, c0, rfl, -, -⟩ := r0
  by_cases sm0 : n0 ≤ 1048576
  rotate_left
  · go_enter Try.func7, Try.ntmps7
    go_wp2_with (fail)
    go_ret
    exact ⟨rfl, Below.refl _ _⟩
  go_enter Try.func7, Try.ntmps7
  go_wp2_with (fail)
  refine (makeOps_s _ n0 _ rd0.out).mono ?_
  rintro e w1 ⟨u1, a1, b1, t, o, qs, rfl, ht, ho, hq, ⟨tl, tok⟩, ⟨ook, ofr, oto⟩, ⟨qok, qfr, qto⟩, bw1⟩
  have T1 := Lib.hid ht
  have O1 := Lib.hid ho
  obtain ⟨At, ct, rfl, -, -⟩ := ht
  obtain ⟨Ao, co, rfl, -, -⟩ := ho
  obtain ⟨Aq, cq, rfl, -, -⟩ := hq
  have HB1 := Lib.hid bw1
  have opO := Pl.Op.mk' ook ofr (k := t.length) rfl
  obtain ⟨m, hm⟩ : ∃ m, Pl.to_ (Pl.units o) = m := ⟨_, rfl⟩
  rw [hm] at opO
  have tx : Pl.Tx t t.length := ⟨tok, rfl⟩
  obtain ⟨p1, p2, p3⟩ := opO.apply tx
  obtain ⟨x1, x2, x3, x4, x5⟩ := opO.invert tx
  obtain ⟨k1, k2, k3, k4, k5⟩ := opO.compose x1
  have k6 := opO.composeApp x1 tx
  rw [x3] at k6
  obtain ⟨P, hP⟩ : ∃ P, Pl.app (Pl.units o) t = P := ⟨_, rfl⟩
  rw [hP] at p2 p3 x3 x4
  obtain ⟨X, hX⟩ : ∃ X, Pl.invert o t = X := ⟨_, rfl⟩
  rw [hX] at x1 x3 x4 k1 k2 k3 k6
  obtain ⟨q1, q2, q3⟩ := x1.apply p3
  rw [x3] at q2
  obtain ⟨u1, u2, u3⟩ := k3.apply tx
  rw [k6] at u2
  have n1 := opNorm_yes opO.ok
  have P1 := Lib.hid p1
  have P2 := Lib.hid p2
  have X5 := Lib.hid x5
  have X4 := Lib.hid x4
  have HX := Lib.hid hX
  have K1 := Lib.hid k1
  have K2 := Lib.hid k2
  have Q1' := Lib.hid q1
  have Q2 := Lib.hid q2
  have U1 := Lib.hid u1
  have U2 := Lib.hid u2
  have N1 := Lib.hid n1
  clear bw1 ook ofr oto tok hm rd0 qok qfr qto opO tx p1 p2 p3 x1 x2 x3 x4 x5 k1 k2 k3 k4 k5 k6 hP hX q1 q2 q3 u1 u2 u3 n1
  go_wp2_with (fail)
  refine (apply_i _ _ o t _ O1.out T1.out).mono ?_
  rintro e w2 ⟨v2, rfl, o2, b2⟩
  rw [P1.out]
  rw [P2.out] at o2
  have PV2 := Lib.hid o2.slice
  obtain ⟨Ap, cp, rfl⟩ := own_shape o2.1
  have T2 := Lib.hid (T1.out.later b2)
  have O2 := Lib.hid (O1.out.later b2)
  have HB2 := Lib.hid (HB1.out.trans (b2.mono HB1.out.size))
  clear b2 T1 O1 HB1 o2
  go_wp2_with (fail)
  refine (invert_i _ _ o t _ O2.out T2.out).mono ?_
  rintro e w3 ⟨v3, s3, rfl, o3, b3⟩
  rw [X5.out]
  rw [HX.out] at o3
  have XV3 := Lib.hid o3.slice
  obtain ⟨Ax, cx, rfl⟩ := own_shape o3.row
  have T3 := Lib.hid (T2.out.later b3)
  have O3 := Lib.hid (O2.out.later b3)
  have PV3 := Lib.hid (PV2.out.later b3)
  have HB3 := Lib.hid (HB2.out.trans (b3.mono HB2.out.size))
  clear b3 T2 O2 PV2 HB2 o3
  go_wp2_with (fail)
  refine (apply_i _ _ X P _ XV3.out PV3.out).mono ?_
  rintro e w4 ⟨v4, rfl, o4, b4⟩
  rw [Q1'.out]
  rw [Q2.out] at o4
  have QV4 := Lib.hid o4.slice
  obtain ⟨Aw, cw, rfl⟩ := own_shape o4.1
  have T4 := Lib.hid (T3.out.later b4)
  have O4 := Lib.hid (O3.out.later b4)
  have PV4 := Lib.hid (PV3.out.later b4)
  have XV4 := Lib.hid (XV3.out.later b4)
  have HB4 := Lib.hid (HB3.out.trans (b4.mono HB3.out.size))
  clear b4 T3 O3 PV3 XV3 HB3 o4
  go_wp2_with (fail)
  refine (invert_i _ _ X P _ XV4.out PV4.out).mono ?_
  rintro e w5 ⟨v5, s5, rfl, o5, b5⟩
  rw [Q1'.out]
  rw [X4.out] at o5
  have YV5 := Lib.hid o5.slice
  obtain ⟨Ay, cy, rfl⟩ := own_shape o5.row
  have T5 := Lib.hid (T4.out.later b5)
  have O5 := Lib.hid (O4.out.later b5)
  have PV5 := Lib.hid (PV4.out.later b5)
  have XV5 := Lib.hid (XV4.out.later b5)
  have QV5 := Lib.hid (QV4.out.later b5)
  have HB5 := Lib.hid (HB4.out.trans (b5.mono HB4.out.size))
  clear b5 T4 O4 PV4 XV4 QV4 HB4 o5
  go_wp2_with (fail)
  refine (compose_i _ _ o X _ O5.out XV5.out).mono ?_
  rintro e w6 ⟨v6, s6, rfl, o6, b6⟩
  rw [K1.out]
  rw [K2.out] at o6
  have KV6 := Lib.hid o6.slice
  obtain ⟨Ak, ck, rfl⟩ := own_shape o6.row
  have T6 := Lib.hid (T5.out.later b6)
  have O6 := Lib.hid (O5.out.later b6)
  have PV6 := Lib.hid (PV5.out.later b6)
  have XV6 := Lib.hid (XV5.out.later b6)
  have QV6 := Lib.hid (QV5.out.later b6)
  have YV6 := Lib.hid (YV5.out.later b6)
  have HB6 := Lib.hid (HB5.out.trans (b6.mono HB5.out.size))
  clear b6 T5 O5 PV5 XV5 QV5 YV5 HB5 o6
  go_wp2_with (fail)
  refine (apply_i _ _ (Pl.cmpL o X) t _ KV6.out T6.out).mono ?_
  rintro e w7 ⟨v7, rfl, o7, b7⟩
  rw [U1.out]
  rw [U2.out] at o7
  have UV7 := Lib.hid o7.slice
  obtain ⟨Au, cu, rfl⟩ := own_shape o7.1
  have T7 := Lib.hid (T6.out.later b7)
  have O7 := Lib.hid (O6.out.later b7)
  have PV7 := Lib.hid (PV6.out.later b7)
  have XV7 := Lib.hid (XV6.out.later b7)
  have QV7 := Lib.hid (QV6.out.later b7)
  have YV7 := Lib.hid (YV6.out.later b7)
  have KV7 := Lib.hid (KV6.out.later b7)
  have HB7 := Lib.hid (HB6.out.trans (b7.mono HB6.out.size))
  clear b7 T6 O6 PV6 XV6 QV6 YV6 KV6 HB6 o7
  go_wp2_with (fail)
  refine (signsSame_ib w7.heap.size _ _ t t _ QV7.out T7.out (by unfold maxLen; omega)).mono ?_
  rintro e w8 ⟨rfl, b8⟩
  have e8 : decide (t = t) = true := by simp
  rw [e8]
  have T8 := Lib.hid (T7.out.later b8)
  have O8 := Lib.hid (O7.out.later b8)
  have PV8 := Lib.hid (PV7.out.later b8)
  have XV8 := Lib.hid (XV7.out.later b8)
  have QV8 := Lib.hid (QV7.out.later b8)
  have YV8 := Lib.hid (YV7.out.later b8)
  have KV8 := Lib.hid (KV7.out.later b8)
  have UV8 := Lib.hid (UV7.out.later b8)
  have HB8 := Lib.hid (HB7.out.trans (b8.mono HB7.out.size))
  clear b8 T7 O7 PV7 XV7 QV7 YV7 KV7 UV7 HB7 e8
  go_wp2_with (fail)
  refine (signsSame_ib w8.heap.size _ _ t t _ UV8.out T8.out (by unfold maxLen; omega)).mono ?_
  rintro e w9 ⟨rfl, b9⟩
  have e9 : decide (t = t) = true := by simp
  rw [e9]
  have T9 := Lib.hid (T8.out.later b9)
  have O9 := Lib.hid (O8.out.later b9)
  have PV9 := Lib.hid (PV8.out.later b9)
  have XV9 := Lib.hid (XV8.out.later b9)
  have QV9 := Lib.hid (QV8.out.later b9)
  have YV9 := Lib.hid (YV8.out.later b9)
  have KV9 := Lib.hid (KV8.out.later b9)
  have UV9 := Lib.hid (UV8.out.later b9)
  have HB9 := Lib.hid (HB8.out.trans (b9.mono HB8.out.size))
  clear b9 T8 O8 PV8 XV8 QV8 YV8 KV8 UV8 HB8 e9
  go_wp2_with (fail)
  refine (opNorm_i _ o _ O9.out).mono ?_
  rintro e w10 ⟨v10, s10, rfl, o10, b10⟩
  rw [N1.out] at o10
  have NV10 := Lib.hid o10.slice
  obtain ⟨An, cn, rfl⟩ := own_shape o10.row
  have T10 := Lib.hid (T9.out.later b10)
  have O10 := Lib.hid (O9.out.later b10)
  have PV10 := Lib.hid (PV9.out.later b10)
  have XV10 := Lib.hid (XV9.out.later b10)
  have QV10 := Lib.hid (QV9.out.later b10)
  have YV10 := Lib.hid (YV9.out.later b10)
  have KV10 := Lib.hid (KV9.out.later b10)
  have UV10 := Lib.hid (UV9.out.later b10)
  have HB10 := Lib.hid (HB9.out.trans (b10.mono HB9.out.size))
  clear b10 T9 O9 PV9 XV9 QV9 YV9 KV9 UV9 HB9 o10
  go_wp2_with (fail)
  refine (opSame_i _ _ (Pl.norm o) (Pl.norm o) _ YV10.out NV10.out).mono ?_
  rintro e w11 ⟨rfl, b11⟩
  rw [(sameS_eq (ps := Pl.norm o) (qs := Pl.norm o)).2 rfl]
  have T11 := Lib.hid (T10.out.later b11)
  have O11 := Lib.hid (O10.out.later b11)
  have PV11 := Lib.hid (PV10.out.later b11)
  have XV11 := Lib.hid (XV10.out.later b11)
  have QV11 := Lib.hid (QV10.out.later b11)
  have YV11 := Lib.hid (YV10.out.later b11)
  have KV11 := Lib.hid (KV10.out.later b11)
  have UV11 := Lib.hid (UV10.out.later b11)
  have NV11 := Lib.hid (NV10.out.later b11)
  have HB11 := Lib.hid (HB10.out.trans (b11.mono HB10.out.size))
  clear b11 T10 O10 PV10 XV10 QV10 YV10 KV10 UV10 NV10 HB10
  go_wp2_with (fail)
  go_ret
  exact ⟨rfl, HB11.out⟩

set_option maxRecDepth 100000 in
theorem lifted (os : Os) (started : os.Started) (H : Type) (enc : TypeId × Value → H) :
    ReturnsInHanded {} Try.checked os 7 .any (Rows.fnInvertSpec.pre6 enc Try.prog Try.f7 Rows.fnInvertRow.domain false) (Rows.fnInvertSpec.post enc Try.prog Try.f7 false true false false) := by
  refine returnsInHanded_of_change (C := Try.checked) ownNone started (by kernel_rfl) Try.func7
    (ChangeSpec.witness6 (enc := enc) (C := Try.checked) false ⟨#[], #[.slice none 0 0], []⟩ 8 (by kernel_rfl) (by kernel_rfl) (by kernel_rfl) (by kernel_rfl)) ?_
  intro W base args ds gs before hval0 hW hcnd _
  have hval : ∀ (j : Nat) t v, Try.f7.params[j]? = some t → args[j]? = some v → Value.okWide Try.prog W .any base t v := hval0
  have hW' := hW
  obtain ⟨p, q, hA0, hV, rfl, hfz, hnd⟩ := hW
  have hA : DataW.TrodAll enc Try.prog W 0 (fun _ => true) true Try.f7.params.toList args.toList ds p := hA0
  rw [Try.params7] at hA hval
  obtain ⟨v0, vs0, d0, ds0, p0, q0, hargs, rfl, rfl, h0, r0⟩ := trodAll_cons hA
  obtain ⟨rfl, rfl, rfl⟩ := trodAll_nil r0
  obtain rfl : args = #[v0] := by cases args; simp_all
  obtain ⟨rfl, rfl⟩ := trodVars_none hV
  obtain ⟨a0, s0, w0⟩ := open_byteS (hval 0 22 v0 rfl rfl) h0 (fun x hx => hW'.lt x (by simp [hx]))
  clear hA0 hval0
  refine (walk W v0 a0 s0 w0).mono fun e W' ⟨he, hb⟩ => ?_
  subst he
  exact ⟨_, rfl, law_post hW' rfl hb (by kernel_rfl) (by kernel_rfl) rfl⟩

theorem over : Rows.fnInvertRow.holds Try.pinned (OpenSpec.ofChange Rows.fnInvertSpec) :=
  OpenClaim.holds_of_wide 7 Try.f7 rfl rfl rfl rfl rfl rfl rfl ⟨rfl, rfl, rfl, rfl, rfl⟩ rfl rfl rfl rfl rfl (by kernel_rfl) Try.func7 (by kernel_rfl)
    (of_decide_eq_true (by kernel_rfl)) (by unfold Func.isWrapper; first | (rw [if_pos (by decide +kernel)]; kernel_rfl) | (rw [if_neg (by decide +kernel)]; exact ⟨rfl, rfl⟩))
    (fun os started H enc _ => lifted os started H enc)

/-- The given statement. -/
theorem proved : Rows.FnInvertSaid :=
  over
end Go.Proofs.Ytlpjbbmjchfolaa.fnInvert
