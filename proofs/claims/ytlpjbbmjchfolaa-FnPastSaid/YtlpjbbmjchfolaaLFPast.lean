/- The law FnPast returns true for every argument and leaves memory as it was. Condition: none. -/
import Derived.Test.YtlpjbbmjchfolaaRowBytes
import Derived.Test.YtlpjbbmjchfolaaPast
namespace Go.Proofs.Ytlpjbbmjchfolaa.fnPast
open Go.ChangeShapes Go.WideShapes Go.ChangeAt Go.RowKit
set_option maxRecDepth 100000
set_option linter.unusedVariables false

set_option maxHeartbeats 8000000 in
set_option maxRecDepth 100000 in
theorem walk (w : World) (v0 : Value) (n0 : Nat) (r0 : SliceBytes w.heap.size w v0 n0) (l0 : n0 ≤ maxLen) : Calls Try.prog 4 #[v0] w fun e w' => e = .returned (.bool true) ∧ Below w.heap.size w w' := by
  have rd0 := Lib.hid r0
  obtain ⟨A0, c0, rfl, -, -⟩ := r0
  by_cases sm0 : n0 ≤ 1048576
  rotate_left
  · go_enter Try.func4, Try.ntmps4
    go_wp2_with (fail)
    go_ret
    exact ⟨rfl, Below.refl _ _⟩
  go_enter Try.func4, Try.ntmps4
  go_wp2_with (fail)
  refine (makeList_s _ n0 _ rd0.out).mono ?_
  rintro e w1 ⟨u1, lv, b1, t, os, qs, m, rfl, ht, hl, hq, ⟨tl, tok⟩, ⟨hch, hol, hsm⟩, ⟨qok, qfr, qto⟩, bw1⟩
  have T1 := Lib.hid ht
  have L1 := Lib.hid hl
  have Q1 := Lib.hid hq
  obtain ⟨At, ct, rfl, -, -⟩ := ht
  obtain ⟨Al, cl, rfl, -, -⟩ := hl
  obtain ⟨Aq, cq, rfl, -, -⟩ := hq
  have HB1 := Lib.hid bw1
  have opQ := Pl.Op.mk' qok qfr (k := t.length) rfl
  obtain ⟨n, hn⟩ : ∃ n, Pl.to_ (Pl.units qs) = n := ⟨_, rfl⟩
  rw [hn] at opQ
  have tx : Pl.Tx t t.length := ⟨tok, rfl⟩
  have hn20 : n ≤ 20 := by have := opQ.opFrom.2; omega
  obtain ⟨opN, apN⟩ := opQ.norm
  have hput : (Pl.units (Pl.norm qs)).countP Pl.putU ≤ 20 := by have := Pl.puts_le (Pl.units (Pl.norm qs)); have := opN.to; omega
  obtain ⟨p1, K, p2, p3, p4⟩ := Pl.past_law hch hsm opN (by omega) hput
  obtain ⟨a1, a2, a3⟩ := Pl.all_law hch tx
  obtain ⟨q1, q2, q3⟩ := opQ.apply tx
  obtain ⟨y1, y2, y3⟩ := p2.apply a3
  obtain ⟨z1, z2, z3⟩ := Pl.all_law p3 q3
  have hsame := p4 t tx
  rw [apN t] at hsame
  have AOK : Hid (Pl.applyAllOk os t = true) := by show _ = _; rw [Pl.applyAllOk, a1, tx.textOk (by omega)]; rfl
  have AV : Hid (Pl.applyAll os t = Pl.appL os t) := by show _ = _; rw [Pl.applyAll, if_pos AOK.out, a2]
  have ZOK : Hid (Pl.applyAllOk (Pl.pastX os (Pl.norm qs)) (Pl.app (Pl.units qs) t) = true) := by show _ = _; rw [Pl.applyAllOk, z1, q3.textOk (by omega)]; rfl
  have ZV : Hid (Pl.applyAll (Pl.pastX os (Pl.norm qs)) (Pl.app (Pl.units qs) t) = Pl.appL (Pl.pastX os (Pl.norm qs)) (Pl.app (Pl.units qs) t)) := by show _ = _; rw [Pl.applyAll, if_pos ZOK.out, z2]
  have xl := Pl.pastX_len os (Pl.norm qs)
  have lp : (Pl.appL os t).length ≤ 200 := by have := a3.len; have := p2.le.1; omega
  have lq : (Pl.app (Pl.units qs) t).length ≤ 200 := by have := q3.len; omega
  have lr : (Pl.appL (Pl.pastX os (Pl.norm qs)) (Pl.app (Pl.units qs) t)).length ≤ 200 := by have := z3.len; have := p2.le.2; omega
  rw [hsame] at y2
  have QOK := Lib.hid qok
  have PO := Lib.hid p1
  have Q1' := Lib.hid q1
  have Q2 := Lib.hid q2
  have Y1 := Lib.hid y1
  have Y2 := Lib.hid y2
  clear p1 p2 p3 p4 a1 a2 a3 q1 q2 q3 y1 y2 y3 z1 z2 z3 hsame bw1 tok hch hsm qok qfr qto opQ hn tx opN apN hput rd0
  obtain ⟨P, hP⟩ : ∃ P, Pl.appL os t = P := ⟨_, rfl⟩
  obtain ⟨Q, hQ⟩ : ∃ Q, Pl.app (Pl.units qs) t = Q := ⟨_, rfl⟩
  obtain ⟨X, hX⟩ : ∃ X, Pl.pastX os (Pl.norm qs) = X := ⟨_, rfl⟩
  obtain ⟨Y, hY⟩ : ∃ Y, Pl.pastV os (Pl.norm qs) = Y := ⟨_, rfl⟩
  rw [hP] at AV lp Y1 Y2
  rw [hQ] at ZOK ZV lq lr Q2 Y2
  rw [hX] at ZOK ZV lr xl Y2
  rw [hY] at Y1 Y2
  obtain ⟨R, hR⟩ : ∃ R, Pl.appL X Q = R := ⟨_, rfl⟩
  rw [hR] at ZV lr Y2
  have HX := Lib.hid hX
  have HY := Lib.hid hY
  have XL := Lib.hid xl
  have xl600 : X.length ≤ 600 := by omega
  clear hP hQ hX hY hR xl
  go_wp2_with (fail)
  refine (pastV_i _ _ os qs _ L1.out Q1.out QOK.out PO.out (by omega)).mono ?_
  rintro e w2 ⟨v2, rfl, o2, b2⟩
  rw [HY.out] at o2
  have YV2 := Lib.hid o2
  obtain ⟨Ay, cy, rfl, -, -⟩ := o2
  have T2 := Lib.hid (T1.out.later b2)
  have L2 := Lib.hid ((L1.out.below b2).mono b2.size)
  have Q2 := Lib.hid (Q1.out.later b2)
  have HB2 := Lib.hid (HB1.out.trans (b2.mono HB1.out.size))
  clear b2 T1 L1 Q1 HB1
  go_wp2_with (fail)
  refine (pastAll_i _ _ os qs _ L2.out Q2.out QOK.out PO.out (by omega)).mono ?_
  rintro e w3 ⟨v3, rfl, o3, b3⟩
  rw [HX.out] at o3
  have XV3 := Lib.hid o3
  obtain ⟨Ax, cx, rfl, -, -⟩ := o3
  have T3 := Lib.hid (T2.out.later b3)
  have L3 := Lib.hid ((L2.out.below b3).mono b3.size)
  have Q3 := Lib.hid (Q2.out.later b3)
  have YV3 := Lib.hid (YV2.out.later b3)
  have HB3 := Lib.hid (HB2.out.trans (b3.mono HB2.out.size))
  clear b3 T2 L2 Q2 YV2 HB2
  go_wp2_with (fail)
  refine (applyAll_i _ _ os t _ L3.out T3.out (by omega)).mono ?_
  rintro e w4 ⟨v4, rfl, o4, b4⟩
  rw [AOK.out]
  rw [AV.out] at o4
  have PV4 := Lib.hid o4.slice
  obtain ⟨Ap, cp, rfl⟩ := own_shape o4.1
  have T4 := Lib.hid (T3.out.later b4)
  have L4 := Lib.hid ((L3.out.below b4).mono b4.size)
  have Q4 := Lib.hid (Q3.out.later b4)
  have YV4 := Lib.hid (YV3.out.later b4)
  have XV4 := Lib.hid ((XV3.out.below b4).mono b4.size)
  have HB4 := Lib.hid (HB3.out.trans (b4.mono HB3.out.size))
  clear b4 T3 L3 Q3 YV3 XV3 HB3 o4
  go_wp2_with (fail)
  refine (apply_i _ _ Y P _ YV4.out PV4.out).mono ?_
  rintro e w5 ⟨v5, rfl, o5, b5⟩
  rw [Y1.out]
  rw [Y2.out] at o5
  have UV5 := Lib.hid o5.slice
  obtain ⟨Au, cu, rfl⟩ := own_shape o5.1
  have T5 := Lib.hid (T4.out.later b5)
  have L5 := Lib.hid ((L4.out.below b5).mono b5.size)
  have Q5 := Lib.hid (Q4.out.later b5)
  have YV5 := Lib.hid (YV4.out.later b5)
  have XV5 := Lib.hid ((XV4.out.below b5).mono b5.size)
  have PV5 := Lib.hid (PV4.out.later b5)
  have HB5 := Lib.hid (HB4.out.trans (b5.mono HB4.out.size))
  clear b5 T4 L4 Q4 YV4 XV4 PV4 HB4 o5
  go_wp2_with (fail)
  refine (apply_i _ _ qs t _ Q5.out T5.out).mono ?_
  rintro e w6 ⟨v6, rfl, o6, b6⟩
  rw [Q1'.out]
  rw [Q2.out] at o6
  have QV6 := Lib.hid o6.slice
  obtain ⟨Aw, cw, rfl⟩ := own_shape o6.1
  have T6 := Lib.hid (T5.out.later b6)
  have L6 := Lib.hid ((L5.out.below b6).mono b6.size)
  have Q6 := Lib.hid (Q5.out.later b6)
  have YV6 := Lib.hid (YV5.out.later b6)
  have XV6 := Lib.hid ((XV5.out.below b6).mono b6.size)
  have PV6 := Lib.hid (PV5.out.later b6)
  have UV6 := Lib.hid (UV5.out.later b6)
  have HB6 := Lib.hid (HB5.out.trans (b6.mono HB5.out.size))
  clear b6 T5 L5 Q5 YV5 XV5 PV5 UV5 HB5 o6
  go_wp2_with (fail)
  refine (applyAll_i _ _ X Q _ XV6.out QV6.out (by omega)).mono ?_
  rintro e w7 ⟨v7, rfl, o7, b7⟩
  rw [ZOK.out]
  rw [ZV.out] at o7
  have VV7 := Lib.hid o7.slice
  obtain ⟨Av, cv, rfl⟩ := own_shape o7.1
  have T7 := Lib.hid (T6.out.later b7)
  have L7 := Lib.hid ((L6.out.below b7).mono b7.size)
  have Q7 := Lib.hid (Q6.out.later b7)
  have YV7 := Lib.hid (YV6.out.later b7)
  have XV7 := Lib.hid ((XV6.out.below b7).mono b7.size)
  have PV7 := Lib.hid (PV6.out.later b7)
  have UV7 := Lib.hid (UV6.out.later b7)
  have QV7 := Lib.hid (QV6.out.later b7)
  have HB7 := Lib.hid (HB6.out.trans (b7.mono HB6.out.size))
  clear b7 T6 L6 Q6 YV6 XV6 PV6 UV6 QV6 HB6 o7
  have xll : (X.length : Int) = (os.length : Int) := by rw [XL.out]
  go_wp2_with (fail)
  refine (signsSame_ib w7.heap.size _ _ R R _ UV7.out VV7.out (by unfold maxLen; omega)).mono ?_
  rintro e w8 ⟨rfl, b8⟩
  have e8 : decide (R = R) = true := by simp
  rw [e8]
  have T8 := Lib.hid (T7.out.later b8)
  have L8 := Lib.hid ((L7.out.below b8).mono b8.size)
  have Q8 := Lib.hid (Q7.out.later b8)
  have YV8 := Lib.hid (YV7.out.later b8)
  have XV8 := Lib.hid ((XV7.out.below b8).mono b8.size)
  have PV8 := Lib.hid (PV7.out.later b8)
  have UV8 := Lib.hid (UV7.out.later b8)
  have QV8 := Lib.hid (QV7.out.later b8)
  have VV8 := Lib.hid (VV7.out.later b8)
  have HB8 := Lib.hid (HB7.out.trans (b8.mono HB7.out.size))
  clear b8 T7 L7 Q7 YV7 XV7 PV7 UV7 QV7 VV7 HB7 e8
  go_wp2_with (fail)
  go_ret
  exact ⟨rfl, HB8.out⟩

set_option maxRecDepth 100000 in
theorem lifted (os : Os) (started : os.Started) (H : Type) (enc : TypeId × Value → H) :
    ReturnsInHanded {} Try.checked os 4 .any (Rows.fnPastSpec.pre6 enc Try.prog Try.f4 Rows.fnPastRow.domain false) (Rows.fnPastSpec.post enc Try.prog Try.f4 false true false false) := by
  refine returnsInHanded_of_change (C := Try.checked) ownNone started (by kernel_rfl) Try.func4
    (ChangeSpec.witness6 (enc := enc) (C := Try.checked) false ⟨#[], #[.slice none 0 0], []⟩ 8 (by kernel_rfl) (by kernel_rfl) (by kernel_rfl) (by kernel_rfl)) ?_
  intro W base args ds gs before hval0 hW hcnd _
  have hval : ∀ (j : Nat) t v, Try.f4.params[j]? = some t → args[j]? = some v → Value.okWide Try.prog W .any base t v := hval0
  have hW' := hW
  obtain ⟨p, q, hA0, hV, rfl, hfz, hnd⟩ := hW
  have hA : DataW.TrodAll enc Try.prog W 0 (fun _ => true) true Try.f4.params.toList args.toList ds p := hA0
  rw [Try.params4] at hA hval
  obtain ⟨v0, vs0, d0, ds0, p0, q0, hargs, rfl, rfl, h0, r0⟩ := trodAll_cons hA
  obtain ⟨rfl, rfl, rfl⟩ := trodAll_nil r0
  obtain rfl : args = #[v0] := by cases args; simp_all
  obtain ⟨rfl, rfl⟩ := trodVars_none hV
  obtain ⟨a0, s0, w0⟩ := open_byteS (hval 0 22 v0 rfl rfl) h0 (fun x hx => hW'.lt x (by simp [hx]))
  clear hA0 hval0
  refine (walk W v0 a0 s0 w0).mono fun e W' ⟨he, hb⟩ => ?_
  subst he
  exact ⟨_, rfl, law_post hW' rfl hb (by kernel_rfl) (by kernel_rfl) rfl⟩

theorem over : Rows.fnPastRow.holds Try.pinned (OpenSpec.ofChange Rows.fnPastSpec) :=
  OpenClaim.holds_of_wide 4 Try.f4 rfl rfl rfl rfl rfl rfl rfl ⟨rfl, rfl, rfl, rfl, rfl⟩ rfl rfl rfl rfl rfl (by kernel_rfl) Try.func4 (by kernel_rfl)
    (of_decide_eq_true (by kernel_rfl)) (by unfold Func.isWrapper; first | (rw [if_pos (by decide +kernel)]; kernel_rfl) | (rw [if_neg (by decide +kernel)]; exact ⟨rfl, rfl⟩))
    (fun os started H enc _ => lifted os started H enc)

/-- The given statement. -/
theorem proved : Rows.FnPastSaid :=
  over
end Go.Proofs.Ytlpjbbmjchfolaa.fnPast
