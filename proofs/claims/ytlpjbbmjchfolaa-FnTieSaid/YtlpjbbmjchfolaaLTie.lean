/- The law FnTie returns true for every argument and leaves memory as it was. Condition: none. -/
import Derived.Test.YtlpjbbmjchfolaaRowBytes
import Derived.Test.YtlpjbbmjchfolaaMake
import Derived.Test.YtlpjbbmjchfolaaLawTie
import Derived.Test.YtlpjbbmjchfolaaTransform
import Derived.Test.YtlpjbbmjchfolaaApplyAll
import Derived.Test.YtlpjbbmjchfolaaPlace2
import Derived.Deep.QuietTactic
import Derived.BigQuiet
namespace Go.Proofs.Ytlpjbbmjchfolaa.fnTie
open Go.ChangeShapes Go.WideShapes Go.ChangeAt Go.RowKit
set_option maxRecDepth 100000
set_option linter.unusedVariables false

theorem lit_ops {w : World} {b : Nat} {x y : Value} {t : TypeId} {ps qs : List Pt} (h : w.heap[b]? = some (.cells #[x, y] t (0, 0))) (h1 : SliceParts w.heap.size w x ps) (h2 : SliceParts w.heap.size w y qs) :
    SliceOps w.heap.size w (.slice (some ⟨b, 0, none⟩) 2 2) [ps, qs] := by
  refine ⟨_, _, rfl, ⟨Nat.le_refl _, by unfold maxLen; decide⟩, fun k hk => ?_⟩
  match k, hk with
  | 0, _ => exact ⟨b, 0, x, rfl, lt_of_block h, by rw [cell_of_row w b 0 _ t (0, 0) h]; rfl, h1⟩
  | 1, _ => exact ⟨b, 0, y, rfl, lt_of_block h, by rw [cell_of_row w b 1 _ t (0, 0) h]; rfl, h2⟩
theorem at_tie (t l : List Int) (a : Nat) (h : a ≤ t.length) : (t.take a ++ ([65, 66] ++ ([90] ++ l))).getD a 0 = 65 ∧ (t.take a ++ ([65, 66] ++ ([90] ++ l))).getD (a + 1) 0 = 66 ∧ (t.take a ++ ([65, 66] ++ ([90] ++ l))).getD (a + 2) 0 = 90 := by
  have e : (t.take a).length = a := by rw [List.length_take]; omega
  refine ⟨?_, ?_, ?_⟩ <;> simp [List.getD, e]

set_option maxHeartbeats 8000000 in
set_option maxRecDepth 100000 in
theorem walk (w : World) (v0 : Value) (n0 : Nat) (r0 : SliceBytes w.heap.size w v0 n0) (l0 : n0 ≤ maxLen) : Calls Try.prog 6 #[v0] w fun e w' => e = .returned (.bool true) ∧ Below w.heap.size w w' := by
  have rd0 := Lib.hid r0
  obtain ⟨A0, c0, rfl, -, -⟩ := r0
  by_cases sm0 : n0 ≤ 1048576
  rotate_left
  · go_enter Try.func6, Try.ntmps6
    go_wp2_with (fail)
    go_ret
    exact ⟨rfl, Below.refl _ _⟩
  go_enter Try.func6, Try.ntmps6
  go_wp2_with (fail)
  refine (makeText_s _ n0 1 _ rd0.out).mono ?_
  rintro e w1 ⟨u1, t, rfl, o1, lt1, k1, b1⟩
  have T1 := Lib.hid o1.slice
  obtain ⟨A1, c1, rfl⟩ := own_shape o1.1
  have RD1 := Lib.hid ((rd0.out.below b1).mono b1.size)
  have HB1 := Lib.hid b1
  have K1 := Lib.hid k1
  clear o1 k1 b1 rd0
  go_wp2_with (fail)
  refine (makeNum_s _ n0 _ _ RD1.out).mono ?_
  rintro e w2 ⟨x, rfl, hx, b2⟩
  obtain ⟨x0, x1⟩ := hx.2 (by omega)
  obtain ⟨a, rfl⟩ : ∃ a : Nat, x = a := ⟨x.toNat, by omega⟩
  have T2 := Lib.hid (T1.out.later b2)
  have HB2 := Lib.hid (HB1.out.trans (b2.mono HB1.out.size))
  obtain ⟨p1, -, -⟩ := Pl.units_putAt (N := t.length) (A := a) (l := [65, 66]) (by omega) (by omega) (by decide) (by simp; omega)
  obtain ⟨q1, -, -⟩ := Pl.units_putAt (N := t.length) (A := a) (l := [90]) (by omega) (by omega) (by decide) (by simp; omega)
  obtain ⟨t1, t2, t3, t4, t5, t6⟩ := Pl.tie (N := t.length) (A := a) (x := [65, 66]) (y := [90]) (by omega) (by omega) (by decide) (by decide) (by decide) (by decide) ⟨K1.out, rfl⟩
  have ct : Pl.textOk t = true := (⟨K1.out, rfl⟩ : Pl.Tx t t.length).textOk (by omega)
  have P1 := Lib.hid p1
  have Q1 := Lib.hid q1
  obtain ⟨X, hX⟩ : ∃ X, Pl.place t.length a [65, 66] 0 = X := ⟨_, rfl⟩
  obtain ⟨Y, hY⟩ : ∃ Y, Pl.place t.length a [90] 0 = Y := ⟨_, rfl⟩
  rw [hX, hY] at t1 t2
  rw [hX] at t3 t4
  rw [hX, hY] at t5 t6
  obtain ⟨Z, hZ⟩ : ∃ Z, Pl.xf2 X Y = Z := ⟨_, rfl⟩
  rw [hZ] at t2 t5 t6
  have HX := Lib.hid hX
  have HY := Lib.hid hY
  have TR1 := Lib.hid t1
  have TR2 := Lib.hid t2
  have AOK : Hid (Pl.applyAllOk [X, Z] t = true) := by
    show _ = _
    rw [Pl.applyAllOk, ct, Bool.true_and, Pl.allOk, t3, t4, Bool.true_and, Pl.allOk, t5, Bool.true_and, Pl.allOk]
  have AV : Hid (Pl.applyAll [X, Z] t = t.take a ++ ([65, 66] ++ ([90] ++ t.drop a))) := by
    show _ = _
    rw [Pl.applyAll, if_pos AOK.out, Pl.allL, t4, Pl.allL, t6, Pl.allL]
  obtain ⟨g0, g1, g2⟩ := at_tie t (t.drop a) a (by omega)
  have lU : (t.take a ++ ([65, 66] ++ ([90] ++ t.drop a))).length = t.length + 3 := by simp; omega
  obtain ⟨U, hU⟩ : ∃ U, t.take a ++ ([65, 66] ++ ([90] ++ t.drop a)) = U := ⟨_, rfl⟩
  rw [hU] at AV g0 g1 g2 lU
  have G0 := Lib.hid g0
  have G1 := Lib.hid g1
  have G2 := Lib.hid g2
  have LU := Lib.hid lU
  clear hx b2 T1 HB1 p1 q1 t1 t2 t3 t4 t5 t6 ct hX hY hZ g0 g1 g2 lU hU RD1
  go_wp2_with (fail)
  have ba := Frame.alloc (fun _ => False) w2 (.cells #[.int .i64 65, .int .i64 66] 3)
  have bb : Below w2.heap.size w2 (w2.alloc (.cells #[.int .i64 65, .int .i64 66] 3)) := (Below.refl _ _).alloc (Nat.le_refl _) _
  refine (putAt_i t.length a _ [65, 66] _ (by omega) (lit_ints (heap_new_at _ _ rfl) rfl (by unfold maxLen; decide) rfl)).mono ?_
  rintro e w3 ⟨v3, s3, rfl, o3, b3⟩
  rw [P1.out]
  rw [HX.out] at o3
  have b3' : Below w2.heap.size w2 w3 := bb.trans (b3.mono (by simp))
  have XV3 := Lib.hid o3.slice
  obtain ⟨Ax, cx, rfl⟩ := own_shape o3.row
  have T3 := Lib.hid (T2.out.later b3')
  have HB3 := Lib.hid (HB2.out.trans (b3'.mono HB2.out.size))
  clear ba bb o3 b3 b3' T2 HB2
  go_wp2_with (fail)
  have bb : Below w3.heap.size w3 (w3.alloc (.cells #[.int .i64 90] 3)) := (Below.refl _ _).alloc (Nat.le_refl _) _
  refine (putAt_i t.length a _ [90] _ (by omega) (lit_ints (heap_new_at _ _ rfl) rfl (by unfold maxLen; decide) rfl)).mono ?_
  rintro e w4 ⟨v4, s4, rfl, o4, b4⟩
  rw [Q1.out]
  rw [HY.out] at o4
  have b4' : Below w3.heap.size w3 w4 := bb.trans (b4.mono (by simp))
  have YV4 := Lib.hid o4.slice
  obtain ⟨Ay, cy, rfl⟩ := own_shape o4.row
  have XV4 := Lib.hid (XV3.out.later b4')
  have T4 := Lib.hid (T3.out.later b4')
  have HB4 := Lib.hid (HB3.out.trans (b4'.mono HB3.out.size))
  clear bb o4 b4 b4' T3 HB3 XV3
  go_wp2_with (fail)
  refine (transform_i _ _ X Y _ XV4.out YV4.out).mono ?_
  rintro e w5 ⟨v5, s5, v6, s6, rfl, ov, ow, b5⟩
  rw [TR1.out]
  rw [TR2.out] at ow
  have ZV5 := Lib.hid ow.slice
  obtain ⟨A5, c5, rfl⟩ := own_shape ov.row
  obtain ⟨A6, c6, rfl⟩ := own_shape ow.row
  have XV5 := Lib.hid (XV4.out.later b5)
  have T5 := Lib.hid (T4.out.later b5)
  have HB5 := Lib.hid (HB4.out.trans (b5.mono HB4.out.size))
  clear ov ow b5 T4 HB4 XV4 YV4
  generalize (Pl.trans1 X Y).length = l5
  go_wp2_with (fail)
  have bb : ∀ o, Below w5.heap.size w5 (w5.alloc o) := fun o => (Below.refl _ _).alloc (Nat.le_refl _) _
  refine (applyAll_i _ _ [X, Z] t _ (lit_ops (heap_new_at _ _ rfl) (XV5.out.later (bb _)) (ZV5.out.later (bb _))) (T5.out.later (bb _)) (by omega)).mono ?_
  rintro e w6 ⟨v6, rfl, o6, b6⟩
  rw [AOK.out]
  rw [AV.out] at o6
  have b6' : Below w5.heap.size w5 w6 := (bb _).trans (b6.mono (by simp))
  obtain ⟨A', c', e6, hc6, hi6⟩ := o6.slice
  have HB6 := Lib.hid (HB5.out.trans (b6'.mono HB5.out.size))
  subst e6
  obtain ⟨bx, off, rfl, hb0, y0⟩ := hi6 a (by rw [LU.out]; omega)
  obtain ⟨bx1, off1, hA1, hb1, y1⟩ := hi6 (a + 1) (by rw [LU.out]; omega)
  obtain ⟨bx2, off2, hA2, hb2, y2⟩ := hi6 (a + 2) (by rw [LU.out]; omega)
  injection hA1 with hA1
  injection hA1 with hA1 hA1'
  injection hA2 with hA2
  injection hA2 with hA2 hA2'
  subst hA1 hA1' hA2 hA2'
  rw [G0.out] at y0
  rw [G1.out] at y1
  rw [G2.out] at y2
  have l6 := LU.out
  rw [l6] at hc6 ⊢
  unfold maxLen at hc6
  clear bb o6 b6 b6' hi6 T5 HB5 XV5 ZV5 l6
  go_wp2_with (fail)
  go_ret
  exact ⟨rfl, HB6.out⟩

set_option maxRecDepth 100000 in
theorem lifted (os : Os) (started : os.Started) (H : Type) (enc : TypeId × Value → H) :
    ReturnsInHanded {} Try.checked os 6 .any (Rows.fnTieSpec.pre6 enc Try.prog Try.f6 Rows.fnTieRow.domain false) (Rows.fnTieSpec.post enc Try.prog Try.f6 false true false false) := by
  refine returnsInHanded_of_change (C := Try.checked) ownNone started (by kernel_rfl) Try.func6
    (ChangeSpec.witness6 (enc := enc) (C := Try.checked) false ⟨#[], #[.slice none 0 0], []⟩ 8 (by kernel_rfl) (by kernel_rfl) (by kernel_rfl) (by kernel_rfl)) ?_
  intro W base args ds gs before hval0 hW hcnd _
  have hval : ∀ (j : Nat) t v, Try.f6.params[j]? = some t → args[j]? = some v → Value.okWide Try.prog W .any base t v := hval0
  have hW' := hW
  obtain ⟨p, q, hA0, hV, rfl, hfz, hnd⟩ := hW
  have hA : DataW.TrodAll enc Try.prog W 0 (fun _ => true) true Try.f6.params.toList args.toList ds p := hA0
  rw [Try.params6] at hA hval
  obtain ⟨v0, vs0, d0, ds0, p0, q0, hargs, rfl, rfl, h0, r0⟩ := trodAll_cons hA
  obtain ⟨rfl, rfl, rfl⟩ := trodAll_nil r0
  obtain rfl : args = #[v0] := by cases args; simp_all
  obtain ⟨rfl, rfl⟩ := trodVars_none hV
  obtain ⟨a0, s0, w0⟩ := open_byteS (hval 0 22 v0 rfl rfl) h0 (fun x hx => hW'.lt x (by simp [hx]))
  clear hA0 hval0
  refine (walk W v0 a0 s0 w0).mono fun e W' ⟨he, hb⟩ => ?_
  subst he
  exact ⟨_, rfl, law_post hW' rfl hb (by kernel_rfl) (by kernel_rfl) rfl⟩

theorem over : Rows.fnTieRow.holds Try.pinned (OpenSpec.ofChange Rows.fnTieSpec) :=
  OpenClaim.holds_of_wide 6 Try.f6 rfl rfl rfl rfl rfl rfl rfl ⟨rfl, rfl, rfl, rfl, rfl⟩ rfl rfl rfl rfl rfl (by kernel_rfl) Try.func6 (by kernel_rfl)
    (of_decide_eq_true (by kernel_rfl)) (by unfold Func.isWrapper; first | (rw [if_pos (by decide +kernel)]; kernel_rfl) | (rw [if_neg (by decide +kernel)]; exact ⟨rfl, rfl⟩))
    (fun os started H enc _ => lifted os started H enc)

/-- The given statement. -/
theorem proved : Rows.FnTieSaid :=
  over
end Go.Proofs.Ytlpjbbmjchfolaa.fnTie
