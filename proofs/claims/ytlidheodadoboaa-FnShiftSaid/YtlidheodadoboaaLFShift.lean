/- The law FnShift returns true for every argument and leaves memory as it was. Condition: none. -/
import Derived.Test.YtlidheodadoboaaRowBytes
import Derived.Test.YtlidheodadoboaaMake
import Derived.Test.YtlidheodadoboaaLawShift
import Derived.Test.YtlidheodadoboaaSpans
import Derived.Test.YtlidheodadoboaaBack
import Derived.Test.YtlidheodadoboaaKeeping
import Derived.Deep.QuietTactic
import Derived.BigQuiet
namespace Go.Proofs.Ytlidheodadoboaa.fnShift
open Go.ChangeShapes Go.WideShapes Go.ChangeAt Go.RowKit
set_option maxRecDepth 100000
set_option linter.unusedVariables false

set_option maxHeartbeats 8000000 in
set_option maxRecDepth 100000 in
theorem walk (w : World) (v0 : Value) (n0 : Nat) (r0 : SliceBytes w.heap.size w v0 n0) (l0 : n0 ≤ maxLen) : Calls Try.prog 12 #[v0] w fun e w' => e = .returned (.bool true) ∧ Below w.heap.size w w' := by
  have rd0 := Lib.hid r0
  obtain ⟨A0, c0, rfl, -, -⟩ := r0
  by_cases sm0 : n0 ≤ 1048576
  rotate_left
  · go_enter Try.func12, Try.ntmps12
    go_wp2_with (fail)
    go_ret
    exact ⟨rfl, Below.refl _ _⟩
  go_enter Try.func12, Try.ntmps12
  go_wp2_with (fail)
  refine (makeOps_s _ n0 _ rd0.out).mono ?_
  rintro e w1 ⟨u1, a1, b1, t, o, qs, rfl, ht, ho, hq, ⟨tl, tok⟩, ⟨ook, ofr, oto⟩, -, bw1⟩
  have T1 := Lib.hid ht
  have O1 := Lib.hid ho
  obtain ⟨At, ct, rfl, -, -⟩ := ht
  obtain ⟨Ao, co, rfl, -, -⟩ := ho
  obtain ⟨Aq, cq, rfl, -, -⟩ := hq
  have HB1 := Lib.hid bw1
  have OP := Lib.hid (Pl.Op.mk' ook ofr (k := t.length) rfl)
  obtain ⟨m, hm⟩ : ∃ m, Pl.to_ (Pl.units o) = m := ⟨_, rfl⟩
  rw [hm] at OP
  have hm2 : m ≤ 22 := by have := OP.out.opFrom.2; omega
  have OT : Hid (Pl.opTo o = (m : Int)) := OP.out.opFrom.2
  clear bw1 ook ofr oto tok hm rd0
  go_wp2_with (fail)
  go_loopw [6, 7] (fun la ai wr => ∃ (a : Nat) (x : Int), ai = .int .i64 a ∧ a ≤ t.length + 1 ∧ la = .int .i64 x ∧ Hid (∀ b, a ≤ b → b ≤ t.length → x ≤ Pl.shift o b false) ∧ Hid (Below w.heap.size w wr) ∧ w.heap.size ≤ wr.heap.size ∧ Hid (SliceParts wr.heap.size wr (.slice Ao o.length co) o)) (fun _ ai _ => t.length + 1 - (intOf ai).toNat)
  case atStart => exact ⟨0, 0, rfl, by omega, rfl, (fun b _ hb => (OP.out.shift_bd hb).1), HB1.out, HB1.out.size, O1.out⟩
  case round =>
    clear HB1 O1
    obtain ⟨a, x, rfl, hal, rfl, hx, hb, hsz, ho⟩ := hrel
    by_cases hat : a ≤ t.length
    · obtain ⟨bd0, bd1, bd2⟩ := OP.out.shift_bd hat
      have hxa := hx.out a (Nat.le_refl _) hat
      have SK := Lib.hid (OP.out.shift hat).1
      obtain ⟨bk, bk1, bk2, bk3⟩ := OP.out.back hat
      have BK := Lib.hid bk
      have MON : Hid (∀ b, a + 1 ≤ b → b ≤ t.length → Pl.shift o a false ≤ Pl.shift o b false) := fun b h1 h2 => OP.out.shift_mono (by omega) h2
      obtain ⟨X, hX⟩ : ∃ X, Pl.shift o a false = X := ⟨_, rfl⟩
      obtain ⟨Y, hY⟩ : ∃ Y, Pl.shift o a true = Y := ⟨_, rfl⟩
      rw [hX] at bd0 bd1 hxa BK bk1 bk2 bk3 MON
      rw [hY] at bd1 bd2
      obtain ⟨K, hK⟩ : ∃ K, Pl.back o X = K := ⟨_, rfl⟩
      rw [hK] at bk1 bk2 bk3
      obtain ⟨Z, hZ⟩ : ∃ Z, Pl.shift o K false = Z := ⟨_, rfl⟩
      rw [hZ] at bk3
      have HX := Lib.hid hX
      have HY := Lib.hid hY
      have HK := Lib.hid hK
      have HZ := Lib.hid hZ
      clear hX hY hK hZ bk hx
      go_wp2_with (fail)
      refine (shift_i _ o a false _ (by omega) ho.out).mono ?_
      rintro e w2 ⟨rfl, b2⟩
      rw [HX.out, SK.out]
      have O2 := Lib.hid (ho.out.later b2)
      have HB2 := Lib.hid (hb.out.trans (b2.mono hsz))
      clear ho hb b2
      go_wp2_with (fail)
      refine (shift_i _ o a true _ (by omega) O2.out).mono ?_
      rintro e w3 ⟨rfl, b3⟩
      rw [HY.out, SK.out]
      have O3 := Lib.hid (O2.out.later b3)
      have HB3 := Lib.hid (HB2.out.trans (b3.mono HB2.out.size))
      clear O2 HB2 b3
      go_wp2_with (fail)
      refine (opTo_i _ o _ O3.out).mono ?_
      rintro e w4 ⟨rfl, b4⟩
      rw [OT.out]
      have O4 := Lib.hid (O3.out.later b4)
      have HB4 := Lib.hid (HB3.out.trans (b4.mono HB3.out.size))
      clear O3 HB3 b4
      go_wp2_with (fail)
      refine (back_i _ o X _ O4.out).mono ?_
      rintro e w5 ⟨rfl, b5⟩
      rw [HK.out, BK.out]
      have O5 := Lib.hid (O4.out.later b5)
      have HB5 := Lib.hid (HB4.out.trans (b5.mono HB4.out.size))
      clear O4 HB4 b5
      go_wp2_with (fail)
      refine (shift_i _ o K false _ (by omega) O5.out).mono ?_
      rintro e w6 ⟨rfl, b6⟩
      rw [HZ.out]
      have O6 := Lib.hid (O5.out.later b6)
      have HB6 := Lib.hid (HB5.out.trans (b6.mono HB5.out.size))
      have sz6 := HB6.out.size
      clear O5 HB5 b6
      go_wp2_with (fail)
      go_roundw
      case rel => exact ⟨a + 1, X, by go_num, by omega, rfl, MON.out, HB6.out, sz6, O6.out⟩
      case measure => simp [intOf]; omega
    · have HXX := hx
      clear hx
      have SE := Lib.hid OP.out.shift_end
      have SKE := Lib.hid (OP.out.shift (Nat.le_refl _)).1
      obtain ⟨kp1, kp2⟩ := Pl.shift_keeping tl
      have KP1 := Lib.hid kp1
      have KP2 := Lib.hid kp2
      clear kp1 kp2
      go_wp2_with (fail)
      refine (shift_i _ o t.length true _ (by omega) ho.out).mono ?_
      rintro e w2 ⟨rfl, b2⟩
      rw [SE.out, SKE.out]
      have O2 := Lib.hid (ho.out.later b2)
      have HB2 := Lib.hid (hb.out.trans (b2.mono hsz))
      clear ho hb b2
      go_wp2_with (fail)
      refine (keeping_i t.length _).mono ?_
      rintro e w3 ⟨u3, s3, rfl, o3, b3⟩
      have K3 := Lib.hid o3.slice
      obtain ⟨A3, c3, rfl⟩ := own_shape o3.row
      have O3 := Lib.hid (O2.out.later b3)
      have HB3 := Lib.hid (HB2.out.trans (b3.mono HB2.out.size))
      clear O2 HB2 b3 o3
      go_wp2_with (fail)
      refine (shift_i _ (Pl.keeping t.length) ((t.length : Int) / 2) false _ (by omega) K3.out).mono ?_
      rintro e w4 ⟨rfl, b4⟩
      rw [KP1.out, KP2.out]
      have O4 := Lib.hid (O3.out.later b4)
      have HB4 := Lib.hid (HB3.out.trans (b4.mono HB3.out.size))
      clear O3 HB3 b4 K3
      go_wp2_with (fail)
      refine (spans_i _ o _ O4.out).mono ?_
      rintro e w5 ⟨u5, rfl, o5, b5⟩
      have S5 := Lib.hid o5.slice
      obtain ⟨A5, c5, rfl⟩ := own_shape o5.1
      have O5 := Lib.hid (O4.out.later b5)
      have HB5 := Lib.hid (HB4.out.trans (b5.mono HB4.out.size))
      have SM := Lib.hid OP.out.sums
      have PN := Lib.hid OP.out.puts_norm
      have EN : Hid (Pl.spans o = Pl.spanL (Pl.norm o) 0) := by show _ = _; rw [Pl.spans, SM.out.2.2.2]
      have sl := spans_len o
      clear O4 HB4 b5 o5
      generalize Pl.spans o = sp at S5 EN sl ⊢
      go_wp2_with (fail)
      go_loopw [21, 22] (fun mv iv wr => ∃ (nn i : Nat) (many j : Int) (l : List Pt), wr = w5.drewN nn ∧ iv = .int .i64 i ∧ mv = .int .i64 many ∧ i ≤ sp.length ∧ 0 ≤ many ∧ many ≤ 200 ∧ 0 ≤ j ∧ j + Pl.toL l ≤ 200 ∧ Hid (Pl.Ok l) ∧ Hid (sp.drop i = Pl.spanL l j) ∧ Hid (many + Pl.puts l = Pl.puts (Pl.norm o)) ∧ Pl.puts (Pl.norm o) ≤ 200) (fun _ iv _ => sp.length - (intOf iv).toNat)
      case atStart =>
        refine ⟨0, 0, 0, 0, Pl.norm o, rfl, rfl, rfl, Nat.zero_le _, Int.le_refl _, by omega, Int.le_refl _, ?_, SM.out.1, EN.out, Int.zero_add _, ?_⟩
        · have := SM.out.2.2.1; omega
        · have := SM.out.2.2.1
          have h2 := keeps_nat SM.out.1
          unfold Pl.toL at this
          omega
      case round =>
        obtain ⟨nn, i, many, j, l, rfl, rfl, rfl, hil, m0, m1, j0, j1, okl, hd, hp, ht⟩ := hrel
        by_cases hi1 : i + 1 < sp.length
        · rcases Pl.span_pair okl.out j with ⟨e, _⟩ | ⟨a, b, l', e, ok', pe, h1, h2, h3⟩
          · have := hd.out
            rw [e] at this
            have := List.drop_eq_nil_iff.1 this
            omega
          · have hd' := hd.out
            rw [e] at hd'
            have g0 : sp.getD i 0 = a := by
              have := congrArg (fun q => q[0]?) hd'
              simp [List.getElem?_drop] at this
              simp [List.getD, this]
            have g1 : sp.getD (i + 1) 0 = b := by
              have := congrArg (fun q => q[1]?) hd'
              simp [List.getElem?_drop] at this
              simp [List.getD, this]
            have g2 : sp.drop (i + 2) = Pl.spanL l' b := by
              have := congrArg (fun q => q.drop 2) hd'
              simpa [List.drop_drop] using this
            obtain ⟨A', c', e5, -, hi5⟩ := S5.out
            injection e5 with e51 e52 e53
            obtain ⟨b0, off, hA, hb0, x0⟩ := hi5 i (by omega)
            obtain ⟨b1, off1, hA1, hb1, x1⟩ := hi5 (i + 1) hi1
            rw [← e51] at hA hA1
            subst hA
            injection hA1 with hA1
            injection hA1 with hA1 hA2
            subst hA1 hA2
            rw [g0] at x0
            rw [g1] at x1
            have hp' := hp.out
            have hpn := Pl.puts_nat2 l'
            have tn := Pl.toL_nat ok'
            have OK' := Lib.hid ok'
            have G2 := Lib.hid g2
            have HP' : Hid (many + b - a + Pl.puts l' = Pl.puts (Pl.norm o)) := by show _ = _; omega
            have mb : many + b - a ≤ 200 := by omega
            clear hd' g0 g1 g2 e hp hp' pe ok' hi5 e51 e52 e53 okl hd
            go_wp2_with (fail)
            go_quiet (fail)
            go_wp2
            go_roundw
            case rel => exact ⟨_, i + 2, many + b - a, b, l', rfl, by go_num, rfl, by omega, by omega, mb, by omega, by omega, OK'.out, G2.out, HP'.out, ht⟩
            case measure => simp [intOf]; omega
        · have hz : many = Pl.puts (Pl.norm o) := by
            rcases Pl.span_pair okl.out j with ⟨e, e2⟩ | ⟨a, b, l', e, ok', pe, h1, h2, h3⟩
            · have := hp.out; omega
            · have hd' := hd.out
              rw [e] at hd'
              have := congrArg List.length hd'
              simp at this
              omega
          have HZ : Hid (many = Pl.opPuts o) := by show _ = _; rw [hz]; exact PN.out
          clear hz
          have bn := below_drewN (Below.refl w5.heap.size w5) nn
          have O5' := Lib.hid (O5.out.later bn)
          have HB5' := Lib.hid (HB5.out.trans (bn.mono HB5.out.size))
          clear bn
          go_wp2_with (fail)
          refine (opTo_i _ o _ O5'.out).mono ?_
          rintro e w6 ⟨rfl, b6⟩
          rw [OT.out]
          have O6 := Lib.hid (O5'.out.later b6)
          have HB6 := Lib.hid (HB5'.out.trans (b6.mono HB5'.out.size))
          clear b6
          go_wp2_with (fail)
          refine (puts_i _ o _ O6.out).mono ?_
          rintro e w7 ⟨rfl, b7⟩
          rw [← HZ.out]
          have HB7 := Lib.hid (HB6.out.trans (b7.mono HB6.out.size))
          clear b7
          go_wp2_with (fail)
          go_ret
          exact ⟨rfl, HB7.out⟩

set_option maxRecDepth 100000 in
theorem lifted (os : Os) (started : os.Started) (H : Type) (enc : TypeId × Value → H) :
    ReturnsInHanded {} Try.checked os 12 .any (Rows.fnShiftSpec.pre6 enc Try.prog Try.f12 Rows.fnShiftRow.domain false) (Rows.fnShiftSpec.post enc Try.prog Try.f12 false true false false) := by
  refine returnsInHanded_of_change (C := Try.checked) ownNone started (by kernel_rfl) Try.func12
    (ChangeSpec.witness6 (enc := enc) (C := Try.checked) false ⟨#[], #[.slice none 0 0], []⟩ 8 (by kernel_rfl) (by kernel_rfl) (by kernel_rfl) (by kernel_rfl)) ?_
  intro W base args ds gs before hval0 hW hcnd _
  have hval : ∀ (j : Nat) t v, Try.f12.params[j]? = some t → args[j]? = some v → Value.okWide Try.prog W .any base t v := hval0
  have hW' := hW
  obtain ⟨p, q, hA0, hV, rfl, hfz, hnd⟩ := hW
  have hA : DataW.TrodAll enc Try.prog W 0 (fun _ => true) true Try.f12.params.toList args.toList ds p := hA0
  rw [Try.params12] at hA hval
  obtain ⟨v0, vs0, d0, ds0, p0, q0, hargs, rfl, rfl, h0, r0⟩ := trodAll_cons hA
  obtain ⟨rfl, rfl, rfl⟩ := trodAll_nil r0
  obtain rfl : args = #[v0] := by cases args; simp_all
  obtain ⟨rfl, rfl⟩ := trodVars_none hV
  obtain ⟨a0, s0, w0⟩ := open_byteS (hval 0 49 v0 rfl rfl) h0 (fun x hx => hW'.lt x (by simp [hx]))
  clear hA0 hval0
  refine (walk W v0 a0 s0 w0).mono fun e W' ⟨he, hb⟩ => ?_
  subst he
  exact ⟨_, rfl, law_post hW' rfl hb (by kernel_rfl) (by kernel_rfl) rfl⟩

theorem over : Rows.fnShiftRow.holds Try.pinned (OpenSpec.ofChange Rows.fnShiftSpec) :=
  OpenClaim.holds_of_wide 12 Try.f12 rfl rfl rfl rfl rfl rfl rfl ⟨rfl, rfl, rfl, rfl, rfl⟩ rfl rfl rfl rfl rfl (by kernel_rfl) Try.func12 (by kernel_rfl)
    (of_decide_eq_true (by kernel_rfl)) (by unfold Func.isWrapper; first | (rw [if_pos (by decide +kernel)]; kernel_rfl) | (rw [if_neg (by decide +kernel)]; exact ⟨rfl, rfl⟩))
    (fun os started H enc _ => lifted os started H enc)

/-- The given statement. -/
theorem proved : Rows.FnShiftSaid :=
  over
end Go.Proofs.Ytlidheodadoboaa.fnShift
