/- The law FnNorm returns true for every argument and leaves memory as it was, where the library's tables and errors read as their initialisers lay them (which the card ties to the program's text). Condition: none beyond the card's own. -/
import Derived.Test.YtookcfpiegbafaaGreatDoorRowBytes
import Derived.Test.YtookcfpiegbafaaGreatDoorMake
import Derived.Test.YtookcfpiegbafaaGreatDoorNormLaw
import Derived.Test.YtookcfpiegbafaaGreatDoorTextOp
import Derived.Test.YtookcfpiegbafaaGreatDoorKeeping
import Derived.Test.YtookcfpiegbafaaGreatDoorCompose
import Derived.Test.YtookcfpiegbafaaGreatDoorSame
import Derived.Test.YtookcfpiegbafaaGreatDoorGC
import Derived.Test.YtookcfpiegbafaaGreatDoorCards
import Derived.Test.YtookcfpiegbafaaGreatDoorTie
import Derived.Test.YtookcfpiegbafaaGreatDoorShaped
import Derived.PinnedBridge
import Derived.Lib.LaidU8
import Derived.LaidMore
import Derived.OpenShut
import Derived.Stop.Joined
import Derived.Stop.LaidErr
import Derived.ChangeMaps5
import Derived.SevenTiedAt
namespace Go.Proofs.YtookcfpiegbafaaGreatDoor.fnNorm
open Go.ChangeShapes Go.WideShapes Go.ChangeAt Go.RowKit
set_option maxRecDepth 100000
set_option linter.unusedVariables false

theorem pow10_data : (Rows.laid_internal_strconv_uint64pow10 : DataW Unit) = Lib.tabData .u64 Lib.pow10Tab := by kernel_rfl
theorem err_star : "*" ++ "errors.errorString" = "*errors.errorString" := by decide
theorem err_row : ∀ u, Tryz.prog.typeName? 3 u = some "*errors.errorString" → u = 140 := fun u h =>
  typeName_ptr_named (nm := "errors.errorString") (by rw [err_star]; kernel_rfl) (by kernel_rfl) (by decide) u (by rw [err_star]; exact h)
theorem facts {W : World} (h : laidMetH Tryz.prog Rows.fnNormRow.laid W) (hsh : W.ShapedOpen Tryz.prog) : Tab10 W ∧ Errs W ∧ MaxLenAt W := by
  rw [MakeChecks.laidMetH_plain _ _ _ (by kernel_rfl)] at h
  have h2 : laidMet Tryz.prog [("internal/strconv.uint64pow10", Rows.laid_internal_strconv_uint64pow10), ("unicode/utf8.acceptRanges", Rows.laid_unicode_utf8_acceptRanges), ("strconv.ErrRange", Rows.laid_strconv_ErrRange), ("strconv.ErrSyntax", Rows.laid_strconv_ErrSyntax), ("unicode/utf8.first", Rows.laid_unicode_utf8_first)] W := laidMet.tail (laidMet.tail h)
  have h3 := laidMet.tail (laidMet.tail h2)
  have h4 := laidMet.tail h3
  rw [pow10_data] at h2
  refine ⟨Lib.tabIs_of_head (g := 3) (by kernel_rfl) (by kernel_rfl) Tryz.underlying129 Tryz.underlying116 (by kernel_rfl) (by kernel_rfl) h2, ⟨?_, ?_⟩, maxLen_of_shape hsh⟩
  · obtain ⟨a, s, hv, _⟩ := laid_sentinel h4 (g := 1) (by kernel_rfl) (by kernel_rfl) Tryz.underlying80 err_row Tryz.underlying140 Tryz.underlying142 rfl rfl Tryz.underlying9 (by kernel_rfl) (by kernel_rfl)
    exact ⟨_, _, hv⟩
  · obtain ⟨a, s, hv, _⟩ := laid_sentinel h3 (g := 2) (by kernel_rfl) (by kernel_rfl) Tryz.underlying80 err_row Tryz.underlying140 Tryz.underlying142 rfl rfl Tryz.underlying9 (by kernel_rfl) (by kernel_rfl)
    exact ⟨_, _, hv⟩


set_option maxHeartbeats 8000000 in
set_option maxRecDepth 100000 in
theorem walk (w : World) (v0 : Value) (n0 : Nat) (r0 : SliceBytes w.heap.size w v0 n0) (l0 : n0 ≤ maxLen) (hF : Tab10 w ∧ Errs w ∧ MaxLenAt w) : Calls Tryz.prog 4 #[v0] w fun e w' => e = .returned (.bool true) ∧ Below w.heap.size w w' := by
  have HT := Lib.hid hF.1
  have HE := Lib.hid hF.2.1
  have HM := Lib.hid hF.2.2
  clear hF
  have rd0 := Lib.hid r0
  obtain ⟨A0, c0, rfl, -, -⟩ := r0
  by_cases sm0 : n0 ≤ 1048576
  rotate_left
  · go_enter Tryz.func4, Tryz.ntmps4
    go_wp2_with (fail)
    go_ret
    exact ⟨rfl, Below.refl _ _⟩
  go_enter Tryz.func4, Tryz.ntmps4
  go_wp2_with (fail)
  refine (makeOps_s _ n0 _ rd0.out).mono ?_
  rintro e w1 ⟨u1, a1, q1, t, o, qs, rfl, ht, hp, hq, ⟨tl, tok⟩, ⟨ook, ofr, oto⟩, -, b1⟩
  obtain ⟨⟨f1, f2, f3⟩, ⟨g1, g2⟩, ⟨k1, k2⟩, h1, h2⟩ := Pl.norm_law ook ofr tok tl
  have F1 := Lib.hid f1
  have F2 := Lib.hid f2
  have F3 := Lib.hid f3
  have G1 := Lib.hid g1
  have G2 := Lib.hid g2
  have K1 := Lib.hid k1
  have K2 := Lib.hid k2
  have D1 := Lib.hid h1
  have D2 := Lib.hid h2
  have R1 := Lib.hid (Pl.textOp_round ook).1
  have R2 := Lib.hid (Pl.textOp_round ook).2
  have OK := Lib.hid ook
  have FR := Lib.hid ofr
  have htl := Pl.opText_length ook ofr tl oto
  have T1 := Lib.hid ht
  have O1 := Lib.hid hp
  obtain ⟨At, ct, rfl, -, -⟩ := ht
  obtain ⟨Ao, co, rfl, -, -⟩ := hp
  obtain ⟨Aq, cq, rfl, -, -⟩ := hq
  have HB1 := Lib.hid b1
  clear f1 f2 f3 g1 g2 k1 k2 h1 h2 ook ofr oto tok b1 rd0
  go_wp2_with (fail)
  refine (opNorm_i _ o _ O1.out).mono ?_
  rintro e w2 ⟨v2, s2, rfl, o2, b2⟩
  have HB2 := Lib.hid (HB1.out.trans (b2.mono HB1.out.size))
  have T2 := Lib.hid (T1.out.later b2)
  have O2 := Lib.hid (O1.out.later b2)
  have N2 := Lib.hid o2.slice
  obtain ⟨An, cn, rfl⟩ := own_shape o2.row
  clear o2
  clear b2 HB1 T1 O1
  go_wp2_with (fail)
  refine (apply_i _ _ o t _ O2.out T2.out).mono ?_
  rintro e w3 ⟨v3, rfl, o3, b3⟩
  rw [F1.out]
  have HB3 := Lib.hid (HB2.out.trans (b3.mono HB2.out.size))
  have T3 := Lib.hid (T2.out.later b3)
  have O3 := Lib.hid (O2.out.later b3)
  have N3 := Lib.hid (N2.out.later b3)
  have P3 := Lib.hid o3.slice
  obtain ⟨Ap, cp, rfl⟩ := own_shape o3.1
  clear o3
  clear b3 HB2 T2 O2 N2
  go_wp2_with (fail)
  refine (apply_i _ _ (Pl.opNorm o) t _ N3.out T3.out).mono ?_
  rintro e w4 ⟨v4, rfl, o4, b4⟩
  rw [F2.out]
  rw [F3.out] at o4
  have HB4 := Lib.hid (HB3.out.trans (b4.mono HB3.out.size))
  have T4 := Lib.hid (T3.out.later b4)
  have O4 := Lib.hid (O3.out.later b4)
  have N4 := Lib.hid (N3.out.later b4)
  have P4 := Lib.hid (P3.out.later b4)
  have Q4 := Lib.hid o4.slice
  obtain ⟨Aw, cw, rfl⟩ := own_shape o4.1
  clear o4
  clear b4 HB3 T3 O3 N3 P3
  go_wp2_with (fail)
  refine (opText_i _ o _ O4.out (HT.out.later HB4.out)).mono ?_
  rintro e w5 ⟨rfl, b5⟩
  have HB5 := Lib.hid (HB4.out.trans (b5.mono HB4.out.size))
  have T5 := Lib.hid (T4.out.later b5)
  have O5 := Lib.hid (O4.out.later b5)
  have N5 := Lib.hid (N4.out.later b5)
  have P5 := Lib.hid (P4.out.later b5)
  have Q5 := Lib.hid (Q4.out.later b5)
  clear b5 HB4 T4 O4 N4 P4 Q4
  have TS := Lib.hid (fun hs => textOp_i ⟨(Pl.opText o).toArray⟩ w5 hs (HT.out.later HB5.out) (HE.out.later HB5.out) (HM.out.later HB5.out))
  go_wp2_with (fail)
  refine (TS.out (by show (Pl.opText o).toArray.size ≤ _; rw [List.size_toArray]; omega)).mono ?_
  rintro e w6 ⟨v6, s6, rfl, o6, b6⟩
  have o6' : OwnP w5.heap.size w6.heap.size w6 v6 (Pl.textOp (Pl.opText o)) s6 := o6
  rw [R2.out] at o6'
  first | rw [R1.out] | rw [show (⟨(Pl.opText o).toArray⟩ : ByteArray).data.toList = Pl.opText o from rfl, R1.out]
  have HB6 := Lib.hid (HB5.out.trans (b6.mono HB5.out.size))
  have T6 := Lib.hid (T5.out.later b6)
  have O6 := Lib.hid (O5.out.later b6)
  have N6 := Lib.hid (N5.out.later b6)
  have P6 := Lib.hid (P5.out.later b6)
  have Q6 := Lib.hid (Q5.out.later b6)
  have X6 := Lib.hid o6'.slice
  obtain ⟨Ax, cx, rfl⟩ := own_shape o6'.row
  clear o6 o6' TS
  clear b6 HB5 T5 O5 N5 P5 Q5
  go_wp2_with (fail)
  refine (keeping_i t.length _).mono ?_
  rintro e w7 ⟨v7, s7, rfl, o7, b7⟩
  have HB7 := Lib.hid (HB6.out.trans (b7.mono HB6.out.size))
  have T7 := Lib.hid (T6.out.later b7)
  have O7 := Lib.hid (O6.out.later b7)
  have N7 := Lib.hid (N6.out.later b7)
  have P7 := Lib.hid (P6.out.later b7)
  have Q7 := Lib.hid (Q6.out.later b7)
  have X7 := Lib.hid (X6.out.later b7)
  have Kp7 := Lib.hid o7.slice
  obtain ⟨Ak, ck, rfl⟩ := own_shape o7.row
  clear o7
  clear b7 HB6 T6 O6 N6 P6 Q6 X6
  go_wp2_with (fail)
  refine (compose_i _ _ (Pl.keeping t.length) o _ Kp7.out O7.out).mono ?_
  rintro e w8 ⟨v8, s8, rfl, o8, b8⟩
  rw [K1.out]
  rw [K2.out] at o8
  have HB8 := Lib.hid (HB7.out.trans (b8.mono HB7.out.size))
  have T8 := Lib.hid (T7.out.later b8)
  have O8 := Lib.hid (O7.out.later b8)
  have N8 := Lib.hid (N7.out.later b8)
  have P8 := Lib.hid (P7.out.later b8)
  have Q8 := Lib.hid (Q7.out.later b8)
  have X8 := Lib.hid (X7.out.later b8)
  have Kp8 := Lib.hid (Kp7.out.later b8)
  have C8 := Lib.hid o8.slice
  obtain ⟨Ac, cc, rfl⟩ := own_shape o8.row
  clear o8
  clear b8 HB7 T7 O7 N7 P7 Q7 X7 Kp7
  go_wp2_with (fail)
  refine (signsSame_ib w8.heap.size _ _ (Pl.apply o t) (Pl.apply o t) _ P8.out Q8.out P8.out.len).mono ?_
  rintro e w9 ⟨rfl, b9⟩
  rw [show decide (Pl.apply o t = Pl.apply o t) = true from decide_eq_true rfl]
  have HB9 := Lib.hid (HB8.out.trans (b9.mono HB8.out.size))
  have O9 := Lib.hid (O8.out.later b9)
  have N9 := Lib.hid (N8.out.later b9)
  have P9 := Lib.hid (P8.out.later b9)
  have Q9 := Lib.hid (Q8.out.later b9)
  have X9 := Lib.hid (X8.out.later b9)
  have C9 := Lib.hid (C8.out.later b9)
  clear b9 HB8 O8 N8 P8 Q8 X8 C8
  go_wp2_with (fail)
  refine (isNorm_i _ (Pl.opNorm o) _ N9.out).mono ?_
  rintro e w10 ⟨rfl, b10⟩
  rw [G1.out]
  have HB10 := Lib.hid (HB9.out.trans (b10.mono HB9.out.size))
  have O10 := Lib.hid (O9.out.later b10)
  have N10 := Lib.hid (N9.out.later b10)
  have X10 := Lib.hid (X9.out.later b10)
  have C10 := Lib.hid (C9.out.later b10)
  clear b10 HB9 O9 N9 X9 C9
  go_wp2_with (fail)
  refine (opNorm_i _ (Pl.opNorm o) _ N10.out).mono ?_
  rintro e w11 ⟨v11, s11, rfl, o11, b11⟩
  rw [G2.out] at o11
  have HB11 := Lib.hid (HB10.out.trans (b11.mono HB10.out.size))
  have O11 := Lib.hid (O10.out.later b11)
  have N11 := Lib.hid (N10.out.later b11)
  have X11 := Lib.hid (X10.out.later b11)
  have C11 := Lib.hid (C10.out.later b11)
  have M11 := Lib.hid o11.slice
  obtain ⟨Am, cm, rfl⟩ := own_shape o11.row
  clear o11
  clear b11 HB10 O10 N10 X10 C10
  go_wp2_with (fail)
  refine (opSame_i _ _ (Pl.opNorm o) (Pl.opNorm o) _ M11.out N11.out).mono ?_
  rintro e w12 ⟨rfl, b12⟩
  rw [(sameS_eq (ps := Pl.opNorm o) (qs := Pl.opNorm o)).2 rfl]
  have HB12 := Lib.hid (HB11.out.trans (b12.mono HB11.out.size))
  have O12 := Lib.hid (O11.out.later b12)
  have N12 := Lib.hid (N11.out.later b12)
  have X12 := Lib.hid (X11.out.later b12)
  have C12 := Lib.hid (C11.out.later b12)
  have M12 := Lib.hid (M11.out.later b12)
  clear b12 HB11 O11 N11 X11 C11 M11
  go_wp2_with (fail)
  refine (opSame_i _ _ (Pl.opNorm o) (Pl.opNorm o) _ X12.out N12.out).mono ?_
  rintro e w13 ⟨rfl, b13⟩
  rw [(sameS_eq (ps := Pl.opNorm o) (qs := Pl.opNorm o)).2 rfl]
  have HB13 := Lib.hid (HB12.out.trans (b13.mono HB12.out.size))
  have O13 := Lib.hid (O12.out.later b13)
  have N13 := Lib.hid (N12.out.later b13)
  have X13 := Lib.hid (X12.out.later b13)
  have C13 := Lib.hid (C12.out.later b13)
  clear b13 HB12 O12 N12 X12 C12
  go_wp2_with (fail)
  refine (opSame_i _ _ (Pl.opNorm o) (Pl.opNorm o) _ C13.out N13.out).mono ?_
  rintro e w14 ⟨rfl, b14⟩
  rw [(sameS_eq (ps := Pl.opNorm o) (qs := Pl.opNorm o)).2 rfl]
  have HB14 := Lib.hid (HB13.out.trans (b14.mono HB13.out.size))
  have O14 := Lib.hid (O13.out.later b14)
  have N14 := Lib.hid (N13.out.later b14)
  have C14 := Lib.hid (C13.out.later b14)
  clear b14 HB13 O13 N13 C13
  go_wp2_with (fail)
  refine (opFrom_i _ o _ O14.out).mono ?_
  rintro e w15 ⟨rfl, b15⟩
  rw [FR.out]
  have HB15 := Lib.hid (HB14.out.trans (b15.mono HB14.out.size))
  have O15 := Lib.hid (O14.out.later b15)
  clear b15 HB14 O14
  go_wp2_with (fail)
  refine (opTo_i _ o _ O15.out).mono ?_
  rintro e w16 ⟨rfl, b16⟩
  rw [D1.out]
  have HB16 := Lib.hid (HB15.out.trans (b16.mono HB15.out.size))
  have O16 := Lib.hid (O15.out.later b16)
  clear b16 HB15 O15
  go_wp2_with (fail)
  refine (opOk_i _ o _ O16.out).mono ?_
  rintro e w17 ⟨rfl, b17⟩
  rw [OK.out]
  have HB17 := Lib.hid (HB16.out.trans (b17.mono HB16.out.size))
  have O17 := Lib.hid (O16.out.later b17)
  clear b17 HB16 O16
  go_wp2_with (fail)
  refine (puts_i _ o _ O17.out).mono ?_
  rintro e w18 ⟨rfl, b18⟩
  have HB18 := Lib.hid (HB17.out.trans (b18.mono HB17.out.size))
  have O18 := Lib.hid (O17.out.later b18)
  clear b18 HB17 O17
  go_wp2_with (fail)
  refine (drops_i _ o _ O18.out).mono ?_
  rintro e w19 ⟨rfl, b19⟩
  have HB19 := Lib.hid (HB18.out.trans (b19.mono HB18.out.size))
  have O19 := Lib.hid (O18.out.later b19)
  clear b19 HB18 O18
  go_wp2_with (fail)
  go_ret
  have D3 : (wrap64 (wrap64 ((t.length : Int) + Pl.opPuts o) - Pl.opDrops o) == ((Pl.apply o t).length : Int)) = true := beq_iff_eq.2 (by
    have h1 := D2.out
    have h2 := P9.out.len
    unfold maxLen at h2
    unfold wrap64
    omega)
  exact ⟨by
    show Ending.returned (Value.bool (wrap64 (wrap64 ((t.length : Int) + Pl.opPuts o) - Pl.opDrops o) == ((Pl.apply o t).length : Int))) = _
    rw [D3], HB19.out⟩
/-- The door's own heap, and the pinned table in its place. -/
noncomputable def witnessWorld (os : Os) : World :=
  let w0 := World.doorLaid Tryz.prog 72 os
  { w0 with heap := w0.heap.modify 4 fun
    | .cells _ t frozen => .cells (Lib.firstTab.map fun z => Value.int .u8 z).toArray t frozen
    | o => o }
/-- The witness meets the condition: closed facts. -/
theorem door_met (os : Os) (args : Array Value) : laidMetH Tryz.prog Rows.fnNormRow.laid ((witnessWorld os).forCall (fun _ _ => 0) ⟨#[], args, []⟩).memory :=
  laidMetH_of_parts3 (fuel := 8) (laidMet_of_run' 8 (by kernel_rfl) (by kernel_rfl)) (by kernel_rfl) (by kernel_rfl)
set_option maxRecDepth 100000 in
theorem lifted (os : Os) (started : os.Started) (H : Type) (enc : TypeId × Value → H) :
    ReturnsInHanded {} Tryz.checked os 4 .any (fun w args => (Rows.fnNormSpec.pre enc Tryz.prog Tryz.f4 [] false w args ∧ laidMetH Tryz.prog Rows.fnNormRow.laid w) ∧ sizedMet enc Tryz.prog Tryz.f4 (OpenSpec.ofChange Rows.fnNormSpec) false w args)
      (Rows.fnNormSpec.post enc Tryz.prog Tryz.f4 false true false false) := by
  refine returns_and_shaped (C := Tryz.checked) (X := fun w _ => laidMetH Tryz.prog Rows.fnNormRow.laid w) (fun _ _ _ hh h => h.of_heap hh) ownNone started (by kernel_rfl) Tryz.func4
    (ChangeSpec.witness_shaped (enc := enc) (C := Tryz.checked) (os := os) (X := fun w _ => laidMetH Tryz.prog Rows.fnNormRow.laid w) false (witnessWorld os) #[.slice none 0 0] 8 rfl (World.shaped_of_RefB (by kernel_rfl) (by kernel_rfl)) (by kernel_rfl) (by kernel_rfl) (by kernel_rfl) (door_met os _)) ?_
  intro W base args ds gs before hval0 hW _ _ hL hsh _
  have hval : ∀ (j : Nat) t v, Tryz.f4.params[j]? = some t → args[j]? = some v → Value.okWide Tryz.prog W .any base t v := hval0
  have hW' := hW
  obtain ⟨p, q, hA0, hV, rfl, hfz, hnd⟩ := hW
  have hA : DataW.TrodAll enc Tryz.prog W 0 (fun _ => true) true Tryz.f4.params.toList args.toList ds p := hA0
  rw [Tryz.params4] at hA hval
  obtain ⟨v0, vs0, d0, ds0, p0, q0, hargs, rfl, rfl, h0, r0⟩ := trodAll_cons hA
  obtain ⟨rfl, rfl, rfl⟩ := trodAll_nil r0
  obtain rfl : args = #[v0] := by cases args; simp_all
  obtain ⟨rfl, rfl⟩ := trodVars_none hV
  obtain ⟨a0, s0, w0⟩ := open_byteS (hval 0 28 v0 rfl rfl) h0 (fun x hx => hW'.lt x (by simp [hx]))
  clear hA0 hval0
  refine (walk W v0 a0 s0 w0 (facts hL hsh)).mono fun e W' ⟨he, hb⟩ => ?_
  subst he
  exact ⟨_, rfl, law_post hW' rfl hb (by kernel_rfl) (by kernel_rfl) rfl⟩

theorem over : Rows.fnNormRow.holds Tryz.pinned (OpenSpec.ofChange Rows.fnNormSpec) :=
  OpenClaim.holds_of_wide 4 Tryz.f4 rfl rfl rfl rfl rfl rfl rfl ⟨rfl, rfl, rfl, rfl, rfl⟩ rfl rfl rfl rfl rfl (by kernel_rfl) Tryz.func4 (by kernel_rfl)
    (of_decide_eq_true (by kernel_rfl)) (by unfold Func.isWrapper; first | (rw [if_pos (by decide +kernel)]; kernel_rfl) | (rw [if_neg (by decide +kernel)]; exact ⟨rfl, rfl⟩))
    (fun os started H enc _ => lifted os started H enc)

/-- The given statement: the tied card. -/
theorem proved : Rows.FnNormCardSaid :=
  Claim7.holds_tied_plain_at .later [] [.data, .data, .data, .data, .sentinel, .sentinel, .pinned] true (true, "ff462c0d617caa48ff35c2414d866653cc3827f1fbbeb1f4ea4c27cf43a496fa") true
    over (fun _ h => by cases h) (by kernel_rfl) (fun _ h => by cases h) fnNorm_row_tie rfl ⟨rfl, rfl⟩ (by kernel_rfl) rfl
    (fun f fn hf hfn => by
      obtain rfl : f = 4 := Option.some.inj ((show Tryz.prog.funcNamed "loop.example/g00797/laws.FnNorm" = some 4 by kernel_rfl).symm.trans hf) |>.symm
      obtain rfl : fn = Tryz.f4 := (Option.some.inj (Tryz.func4.symm.trans hfn)).symm
      refine ⟨by kernel_rfl, fun j t ht => ?_⟩
      rw [Tryz.params4] at ht
      have h3 : t = 28 := by
        match j, ht with
        | 0, ht => exact ((by simpa using ht.symm))
        | j + 1, ht => simp at ht
      rcases h3 with rfl
      · exact (show Tryz.prog.wantsStandIn 28 = false by kernel_rfl))
    (by kernel_rfl)
end Go.Proofs.YtookcfpiegbafaaGreatDoor.fnNorm
