/- The law FnCompose returns true for every argument and leaves memory as it was. Condition: none. -/
import Derived.Test.YtlpjbbmjchfolaaRowBytes
import Derived.Test.YtlpjbbmjchfolaaLawComp
import Derived.Test.YtlpjbbmjchfolaaIsNorm
import Derived.Test.YtlpjbbmjchfolaaSame
import Derived.RegionCalls
import Derived.Deep.RegionHeld3
namespace Go.Proofs.Ytlpjbbmjchfolaa.fnCompose
open Go.ChangeShapes Go.WideShapes Go.ChangeAt Go.RowKit
set_option maxRecDepth 100000
set_option linter.unusedVariables false

/-- A call of Compose behind loads. -/
theorem cmpE {w : World} {va vb : Value} {pa pb : List Pt} (ha : Hid (SliceParts w.heap.size w va pa)) (hb : Hid (SliceParts w.heap.size w vb pb)) (h1 : Hid (Pl.cmpOk pa pb = true)) (h2 : Hid (Pl.compose pa pb = Pl.cmpL pa pb)) (wr : World) (b : Below w.heap.size w wr) :
    Calls Try.prog 23 #[va, vb] wr fun e w' => ∃ A c, e = .returned (.tuple #[.slice A (Pl.cmpL pa pb).length c, .bool true]) ∧ Hid (SliceParts w'.heap.size w' (.slice A (Pl.cmpL pa pb).length c) (Pl.cmpL pa pb)) ∧ Hid (Below w.heap.size w w') := by
  refine (compose_i _ _ pa pb wr (ha.out.later b) (hb.out.later b)).mono ?_
  rintro e w' ⟨u, us, rfl, o, bb⟩
  rw [h2.out] at o
  obtain ⟨A, c, rfl⟩ := own_shape o.row
  exact ⟨A, c, by rw [h1.out], o.slice, b.trans (bb.mono b.size)⟩

set_option maxHeartbeats 8000000 in
set_option maxRecDepth 100000 in
theorem walk (w : World) (v0 : Value) (n0 : Nat) (r0 : SliceBytes w.heap.size w v0 n0) (l0 : n0 ≤ maxLen) : Calls Try.prog 5 #[v0] w fun e w' => e = .returned (.bool true) ∧ Below w.heap.size w w' := by
  have rd0 := Lib.hid r0
  obtain ⟨A0, c0, rfl, -, -⟩ := r0
  by_cases sm0 : n0 ≤ 1048576
  rotate_left
  · go_enter Try.func5, Try.ntmps5
    go_wp2_with (fail)
    go_ret
    exact ⟨rfl, Below.refl _ _⟩
  go_enter Try.func5, Try.ntmps5
  go_wp2_with (fail)
  refine (makeList_s _ n0 _ rd0.out).mono ?_
  rintro e w1 ⟨u1, lv, b1, t, os, qs, m, rfl, ht, hl, hq, ⟨tl, tok⟩, ⟨hch, hol⟩, -, bw1⟩
  have T1 := Lib.hid ht
  have L1 := Lib.hid hl
  obtain ⟨At, ct, rfl, -, -⟩ := ht
  obtain ⟨Al, cl, rfl, hcl, hop⟩ := hl
  have OPS1 := Lib.hid hop
  obtain ⟨Aq, cq, rfl, -, -⟩ := hq
  have HB1 := Lib.hid bw1
  obtain ⟨a1, a2, a3, a4, a5, a6, a7, a8⟩ := Pl.Chain.law hch tok tl
  have CH := Lib.hid hch
  obtain ⟨P, hP⟩ : ∃ P, Pl.appL os t = P := ⟨_, rfl⟩
  rw [hP] at a5 a7 a8
  have H1 := Lib.hid a1
  have H3 := Lib.hid a3
  have H4 := Lib.hid a4
  have H5 := Lib.hid a5
  have H6 := Lib.hid a6
  have H7 := Lib.hid a7
  clear bw1 tok hch a1 a2 a3 a4 a5 a6 a7 hP hop rd0
  go_wp2_with (fail)
  refine (composeAll_i _ os t.length _ L1.out (by omega) (by omega)).mono ?_
  rintro e w2 ⟨v2, s2, rfl, o2, b2⟩
  rw [H1.out]
  have C2 := Lib.hid o2.slice
  obtain ⟨Ac, cc, rfl⟩ := own_shape o2.row
  have L2 := Lib.hid ((L1.out.below b2).mono b2.size)
  have OPS2 := Lib.hid ((OPS1.out.below b2).mono b2.size)
  have T2 := Lib.hid (T1.out.later b2)
  have HB2 := Lib.hid (HB1.out.trans (b2.mono HB1.out.size))
  clear o2 b2 L1 T1 HB1 OPS1
  go_wp2_with (fail)
  refine (applyAll_i _ _ os t _ L2.out T2.out (by omega)).mono ?_
  rintro e w3 ⟨v3, rfl, o3, b3⟩
  rw [H4.out]
  rw [H5.out] at o3
  have P3 := Lib.hid o3.slice
  obtain ⟨Ap, cp, rfl⟩ := own_shape o3.1
  have C3 := Lib.hid (C2.out.later b3)
  have OPS3 := Lib.hid ((OPS2.out.below b3).mono b3.size)
  have T3 := Lib.hid (T2.out.later b3)
  have HB3 := Lib.hid (HB2.out.trans (b3.mono HB2.out.size))
  clear o3 b3 L2 T2 HB2 C2 OPS2
  go_wp2_with (fail)
  refine (apply_i _ _ (Pl.composeAll os t.length) t _ C3.out T3.out).mono ?_
  rintro e w4 ⟨v4, rfl, o4, b4⟩
  rw [H6.out]
  rw [H7.out] at o4
  have Q4 := Lib.hid o4.slice
  obtain ⟨Aw, cw, rfl⟩ := own_shape o4.1
  have C4 := Lib.hid (C3.out.later b4)
  have P4 := Lib.hid (P3.out.later b4)
  have OPS4 := Lib.hid ((OPS3.out.below b4).mono b4.size)
  have HB4 := Lib.hid (HB3.out.trans (b4.mono HB3.out.size))
  clear o4 b4 T3 HB3 C3 P3 OPS3
  go_wp2_with (fail)
  refine (signsSame_ib w4.heap.size _ _ P P _ P4.out Q4.out (by unfold maxLen; omega)).mono ?_
  rintro e w5 ⟨rfl, b5⟩
  have e5 : decide (P = P) = true := by simp
  rw [e5]
  have C5 := Lib.hid (C4.out.later b5)
  have OPS5 := Lib.hid ((OPS4.out.below b5).mono b5.size)
  have HB5 := Lib.hid (HB4.out.trans (b5.mono HB4.out.size))
  clear b5 e5 C4 P4 Q4 HB4 OPS4
  go_wp2_with (fail)
  refine (isNorm_i _ (Pl.composeAll os t.length) _ C5.out).mono ?_
  rintro e w6 ⟨rfl, b6⟩
  rw [H3.out]
  have OPS6 := Lib.hid ((OPS5.out.below b6).mono b6.size)
  have HB6 := Lib.hid (HB5.out.trans (b6.mono HB5.out.size))
  clear b6 C5 HB5 OPS5
  by_cases h3 : os.length < 3
  · go_wp2_with (fail)
    go_ret
    exact ⟨rfl, HB6.out⟩
  · obtain ⟨pa, os1, rfl⟩ : ∃ p q, os = p :: q := by
      cases os with
      | nil => simp at h3
      | cons p q => exact ⟨p, q, rfl⟩
    obtain ⟨pb, os2, rfl⟩ : ∃ p q, os1 = p :: q := by
      cases os1 with
      | nil => simp at h3
      | cons p q => exact ⟨p, q, rfl⟩
    obtain ⟨pc, os3, rfl⟩ : ∃ p q, os2 = p :: q := by
      cases os2 with
      | nil => simp at h3
      | cons p q => exact ⟨p, q, rfl⟩
    obtain ⟨k1, oa, k2, ob, k3, oc, -⟩ := CH.out
    obtain ⟨x1, x2, x3, x4, x5, x6, x7⟩ := Pl.three oa ob oc
    obtain ⟨b0, off, sva, rfl, hb0, c0a, ha⟩ := OPS6.out 0 (by simp)
    obtain ⟨b0', off', svb, e1, -, c0b, hb⟩ := OPS6.out 1 (by simp)
    obtain ⟨b0'', off'', svc, e2, -, c0c, hc⟩ := OPS6.out 2 (by simp)
    injection e1 with e1
    injection e1 with e11 e12
    injection e2 with e2
    injection e2 with e21 e22
    subst e11 e12 e21 e22
    simp only [List.getD_cons_zero, List.getD_cons_succ, Nat.add_zero] at ha hb hc c0a c0b c0c
    have PA := Lib.hid ha
    have PB := Lib.hid hb
    have PC := Lib.hid hc
    obtain ⟨Aa, ca, rfl, -, -⟩ := ha
    obtain ⟨Ab, cb, rfl, -, -⟩ := hb
    obtain ⟨Ac2, cc2, rfl, -, -⟩ := hc
    have X1 := Lib.hid x1
    have X2 := Lib.hid x2
    have X3 := Lib.hid x3
    have X4 := Lib.hid x4
    have X5 := Lib.hid x5
    have X6 := Lib.hid x6
    have X7 := Lib.hid x7
    have C0a := Lib.hid c0a
    have C0b := Lib.hid c0b
    have C0c := Lib.hid c0c
    clear x1 x2 x3 x4 x5 x6 x7 oa ob oc CH OPS6
    simp only [List.length_cons] at h3 hcl hol ⊢
    obtain ⟨N, hN⟩ : ∃ N, os3.length + 1 + 1 + 1 = N := ⟨_, rfl⟩
    rw [hN] at h3 hcl hol ⊢
    have n0 : 0 < N := by omega
    have n1 : 1 < N := by omega
    have n2 : 2 < N := by omega
    have m0 : (0 : Int) < (N : Int) := by omega
    have m1 : (1 : Int) < (N : Int) := by omega
    have m2 : (2 : Int) < (N : Int) := by omega
    clear hN
    go_wp2_with (fail)
    have CE := Lib.hid (cmpE (w := w6) PA PB X1 X5)
    go_region_with (go_at_call 23; refine (CE.out _ (by first | exact Below.refl _ _ | exact (Below.refl _ _).drew | exact (Below.refl _ _).drew.drew)).mono ?_; rintro e w7 ⟨A7, c7, rfl, XV7, b7⟩)
    all_goals
      have B67 := b7.out
      have PA7 := Lib.hid (PA.out.later B67)
      have PB7 := Lib.hid (PB.out.later B67)
      have PC7 := Lib.hid (PC.out.later B67)
      have c7a := (B67.cell (p := ⟨b0, off, none⟩) hb0).trans C0a.out
      have c7b := (B67.cell (p := ⟨b0, off + 1, none⟩) hb0).trans C0b.out
      have c7c := (B67.cell (p := ⟨b0, off + 2, none⟩) hb0).trans C0c.out
      have hb7 : b0 < w7.heap.size := Nat.lt_of_lt_of_le hb0 B67.size
      have HB7 := Lib.hid (HB6.out.trans (B67.mono HB6.out.size))
      clear B67 b7 c0a c0b c0c HB6 PA PB PC CE
      have C7a := Lib.hid c7a
      have C7b := Lib.hid c7b
      have C7c := Lib.hid c7c
      go_wp2_with (fail)
      refine (compose_i _ _ (Pl.cmpL pa pb) pc _ XV7.out PC7.out).mono ?_
      rintro e w8 ⟨v8, s8, rfl, o8, b8⟩
      rw [X2.out]
      rw [X7.out] at o8
      have XV8 := Lib.hid o8.slice
      obtain ⟨A8, c8, rfl⟩ := own_shape o8.row
      have PA8 := Lib.hid (PA7.out.later b8)
      have PB8 := Lib.hid (PB7.out.later b8)
      have PC8 := Lib.hid (PC7.out.later b8)
      have c8a := (b8.cell (p := ⟨b0, off, none⟩) hb7).trans C7a.out
      have c8b := (b8.cell (p := ⟨b0, off + 1, none⟩) hb7).trans C7b.out
      have c8c := (b8.cell (p := ⟨b0, off + 2, none⟩) hb7).trans C7c.out
      have hb8 : b0 < w8.heap.size := Nat.lt_of_lt_of_le hb7 b8.size
      have HB8 := Lib.hid (HB7.out.trans (b8.mono HB7.out.size))
      have C8a := Lib.hid c8a
      have CE := Lib.hid (cmpE (w := w8) PB8 PC8 X3 X6)
      clear o8 b8 c7a c7b c7c HB7 PA7 PB7 PC7 XV7
      go_wp2_with (fail)
      go_region_with (go_at_call 23; refine (CE.out _ (by first | exact Below.refl _ _ | exact (Below.refl _ _).drew | exact (Below.refl _ _).drew.drew)).mono ?_; rintro e w9 ⟨A9, c9, rfl, YV9, b9⟩)
      all_goals
        have B89 := b9.out
        have PA9 := Lib.hid (PA8.out.later B89)
        have XV9 := Lib.hid (XV8.out.later B89)
        have c9a := (B89.cell (p := ⟨b0, off, none⟩) hb8).trans C8a.out
        have HB9 := Lib.hid (HB8.out.trans (B89.mono HB8.out.size))
        have hb9 : b0 < w9.heap.size := Nat.lt_of_lt_of_le hb8 B89.size
        clear B89 b9 c8a c8b c8c HB8 PA8 PB8 PC8 XV8 CE
        go_wp2_with (fail)
        refine (compose_i _ _ pa (Pl.cmpL pb pc) _ PA9.out YV9.out).mono ?_
        rintro e w10 ⟨v10, s10, rfl, o10, b10⟩
        rw [X4.out]
        have YV10 := Lib.hid o10.slice
        obtain ⟨A10, c10, rfl⟩ := own_shape o10.row
        have XV10 := Lib.hid (XV9.out.later b10)
        have HB10 := Lib.hid (HB9.out.trans (b10.mono HB9.out.size))
        clear o10 b10 c9a HB9 PA9 XV9 YV9
        go_wp2_with (fail)
        refine (opSame_i _ _ (Pl.compose pa (Pl.cmpL pb pc)) (Pl.compose pa (Pl.cmpL pb pc)) _ XV10.out YV10.out).mono ?_
        rintro e w11 ⟨rfl, b11⟩
        rw [(sameS_eq (ps := Pl.compose pa (Pl.cmpL pb pc)) (qs := Pl.compose pa (Pl.cmpL pb pc))).2 rfl]
        have HB11 := Lib.hid (HB10.out.trans (b11.mono HB10.out.size))
        clear b11
        go_wp2_with (fail)
        go_ret
        exact ⟨rfl, HB11.out⟩

set_option maxRecDepth 100000 in
theorem lifted (os : Os) (started : os.Started) (H : Type) (enc : TypeId × Value → H) :
    ReturnsInHanded {} Try.checked os 5 .any (Rows.fnComposeSpec.pre6 enc Try.prog Try.f5 Rows.fnComposeRow.domain false) (Rows.fnComposeSpec.post enc Try.prog Try.f5 false true false false) := by
  refine returnsInHanded_of_change (C := Try.checked) ownNone started (by kernel_rfl) Try.func5
    (ChangeSpec.witness6 (enc := enc) (C := Try.checked) false ⟨#[], #[.slice none 0 0], []⟩ 8 (by kernel_rfl) (by kernel_rfl) (by kernel_rfl) (by kernel_rfl)) ?_
  intro W base args ds gs before hval0 hW hcnd _
  have hval : ∀ (j : Nat) t v, Try.f5.params[j]? = some t → args[j]? = some v → Value.okWide Try.prog W .any base t v := hval0
  have hW' := hW
  obtain ⟨p, q, hA0, hV, rfl, hfz, hnd⟩ := hW
  have hA : DataW.TrodAll enc Try.prog W 0 (fun _ => true) true Try.f5.params.toList args.toList ds p := hA0
  rw [Try.params5] at hA hval
  obtain ⟨v0, vs0, d0, ds0, p0, q0, hargs, rfl, rfl, h0, r0⟩ := trodAll_cons hA
  obtain ⟨rfl, rfl, rfl⟩ := trodAll_nil r0
  obtain rfl : args = #[v0] := by cases args; simp_all
  obtain ⟨rfl, rfl⟩ := trodVars_none hV
  obtain ⟨a0, s0, w0⟩ := open_byteS (hval 0 22 v0 rfl rfl) h0 (fun x hx => hW'.lt x (by simp [hx]))
  clear hA0 hval0
  refine (walk W v0 a0 s0 w0).mono fun e W' ⟨he, hb⟩ => ?_
  subst he
  exact ⟨_, rfl, law_post hW' rfl hb (by kernel_rfl) (by kernel_rfl) rfl⟩

theorem over : Rows.fnComposeRow.holds Try.pinned (OpenSpec.ofChange Rows.fnComposeSpec) :=
  OpenClaim.holds_of_wide 5 Try.f5 rfl rfl rfl rfl rfl rfl rfl ⟨rfl, rfl, rfl, rfl, rfl⟩ rfl rfl rfl rfl rfl (by kernel_rfl) Try.func5 (by kernel_rfl)
    (of_decide_eq_true (by kernel_rfl)) (by unfold Func.isWrapper; first | (rw [if_pos (by decide +kernel)]; kernel_rfl) | (rw [if_neg (by decide +kernel)]; exact ⟨rfl, rfl⟩))
    (fun os started H enc _ => lifted os started H enc)

/-- The given statement. -/
theorem proved : Rows.FnComposeSaid :=
  over
end Go.Proofs.Ytlpjbbmjchfolaa.fnCompose
