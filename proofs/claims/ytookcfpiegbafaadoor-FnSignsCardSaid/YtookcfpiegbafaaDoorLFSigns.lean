/- The law FnSigns returns true for every argument and leaves memory as it was, where the library's tables and errors read as their initialisers lay them (which the card ties to the program's text). Condition: none beyond the card's own. -/
import Derived.Test.YtookcfpiegbafaaDoorRowBytes
import Derived.Test.YtookcfpiegbafaaDoorMake
import Derived.Test.YtookcfpiegbafaaDoorSignsLaw
import Derived.Test.YtookcfpiegbafaaDoorUtf
import Derived.Test.YtookcfpiegbafaaDoorEqInts
import Derived.Test.YtookcfpiegbafaaDoorToInts
import Derived.Test.YtookcfpiegbafaaDoorCards
import Derived.Test.YtookcfpiegbafaaDoorTie
import Derived.Test.YtookcfpiegbafaaDoorShaped
import Derived.PinnedBridge
import Derived.Lib.LaidU8
import Derived.LaidMore
import Derived.OpenShut
import Derived.Stop.Joined
import Derived.Stop.LaidErr
import Derived.ChangeMaps5
import Derived.SevenTiedAt
namespace Go.Proofs.YtookcfpiegbafaaDoor.fnSigns
open Go.ChangeShapes Go.WideShapes Go.ChangeAt Go.RowKit
set_option maxRecDepth 100000
set_option linter.unusedVariables false

theorem pow10_data : (Rows.laid_internal_strconv_uint64pow10 : DataW Unit) = Lib.tabData .u64 Lib.pow10Tab := by kernel_rfl
theorem accept_data : (Rows.laid_unicode_utf8_acceptRanges : DataW Unit) = Lib.acceptData := by kernel_rfl
theorem err_star : "*" ++ "errors.errorString" = "*errors.errorString" := by decide
theorem err_row : ∀ u, Tryd.prog.typeName? 3 u = some "*errors.errorString" → u = 138 := fun u h =>
  typeName_ptr_named (nm := "errors.errorString") (by rw [err_star]; kernel_rfl) (by kernel_rfl) (by decide) u (by rw [err_star]; exact h)
theorem facts {W : World} (h : laidMetH Tryd.prog Rows.fnSignsRow.laid W) (hsh : W.ShapedOpen Tryd.prog) : Tab10 W ∧ Errs W ∧ MaxLenAt W ∧ Utf8T W := by
  rw [MakeChecks.laidMetH_plain _ _ _ (by kernel_rfl)] at h
  have h2 : laidMet Tryd.prog [("internal/strconv.uint64pow10", Rows.laid_internal_strconv_uint64pow10), ("unicode/utf8.acceptRanges", Rows.laid_unicode_utf8_acceptRanges), ("strconv.ErrRange", Rows.laid_strconv_ErrRange), ("strconv.ErrSyntax", Rows.laid_strconv_ErrSyntax), ("unicode/utf8.first", Rows.laid_unicode_utf8_first)] W := laidMet.tail (laidMet.tail h)
  have h3 := laidMet.tail (laidMet.tail h2)
  have h4 := laidMet.tail h3
  have ha := Lib.laidMet.reads h2 (.tail _ (.head _))
  have hf := Lib.laidMet.reads h2 (.tail _ (.tail _ (.tail _ (.tail _ (.head _)))))
  rw [accept_data] at ha
  rw [show Rows.laid_unicode_utf8_first = Lib.firstData from Pinned.utf8First_eq] at hf
  rw [pow10_data] at h2
  refine ⟨Lib.tabIs_of_head (g := 4) (by kernel_rfl) (by kernel_rfl) Tryd.underlying134 Tryd.underlying112 (by kernel_rfl) (by kernel_rfl) h2, ⟨?_, ?_⟩, maxLen_of_shape hsh, utf8T_of hf ha⟩
  · obtain ⟨a, s, hv, _⟩ := laid_sentinel h4 (g := 2) (by kernel_rfl) (by kernel_rfl) Tryd.underlying52 err_row Tryd.underlying138 Tryd.underlying140 rfl rfl Tryd.underlying9 (by kernel_rfl) (by kernel_rfl)
    exact ⟨_, _, hv⟩
  · obtain ⟨a, s, hv, _⟩ := laid_sentinel h3 (g := 3) (by kernel_rfl) (by kernel_rfl) Tryd.underlying52 err_row Tryd.underlying138 Tryd.underlying140 rfl rfl Tryd.underlying9 (by kernel_rfl) (by kernel_rfl)
    exact ⟨_, _, hv⟩

theorem SliceBytes.later {w w' : World} {v : Value} {n : Nat} (h : SliceBytes w.heap.size w v n) (hb : Below w.heap.size w w') : SliceBytes w'.heap.size w' v n := by
  obtain ⟨A, c, hv, hc, hi⟩ := h
  refine ⟨A, c, hv, hc, fun k hk => ?_⟩
  obtain ⟨b, off, x, hA, hlt, hx, hr⟩ := hi k hk
  exact ⟨b, off, x, hA, Nat.lt_of_lt_of_le hlt hb.size, (hb.cell (p := ⟨b, _, none⟩) hlt).trans hx, hr⟩
set_option maxHeartbeats 8000000 in
set_option maxRecDepth 100000 in
theorem walk (w : World) (v0 : Value) (n0 : Nat) (r0 : SliceBytes w.heap.size w v0 n0) (l0 : n0 ≤ maxLen) (hF : Tab10 w ∧ Errs w ∧ MaxLenAt w ∧ Utf8T w) : Calls Tryd.prog 10 #[v0] w fun e w' => e = .returned (.bool true) ∧ Below w.heap.size w w' := by
  have HT := Lib.hid hF.1
  have HE := Lib.hid hF.2.1
  have HM := Lib.hid hF.2.2.1
  have HU := Lib.hid hF.2.2.2
  clear hF
  have rd0 := Lib.hid r0
  obtain ⟨A0, c0, rfl, -, -⟩ := r0
  by_cases sm0 : n0 ≤ 1048576
  rotate_left
  · go_enter Tryd.func10, Tryd.ntmps10
    go_wp2_with (fail)
    go_ret
    exact ⟨rfl, Below.refl _ _⟩
  go_enter Tryd.func10, Tryd.ntmps10
  go_wp2_with (fail)
  refine (makeText_s _ n0 _ _ rd0.out).mono ?_
  rintro e w1 ⟨u1, l, rfl, o1, hl, hok, b1⟩
  have HOK := Lib.hid hok
  have RB := Lib.hid (Pl.round_bytes hok)
  have RT := Lib.hid (Pl.signText_round hok)
  have SL := Lib.hid (Pl.shown_length hok)
  have hbl := Pl.enc_length l
  have hdl := Pl.dotted_length l
  have hstl : (Pl.signText l).length ≤ 200 := by
    rw [Pl.signText, if_pos hok]
    split
    · decide
    · omega
  have H1 := Lib.hid b1
  have O1 := Lib.hid o1
  obtain ⟨A1, c1, rfl, -, -⟩ := o1.slice
  have RD1 := Lib.hid (SliceBytes.later rd0.out b1)
  clear b1 o1 hok rd0 hdl
  -- Bytes, Signs
  go_wp2_with (fail)
  refine (bytes_i _ l _ O1.out.slice (by omega)).mono ?_
  rintro e w2 ⟨rfl, b2⟩
  have H2 := Lib.hid (H1.out.trans (b2.mono H1.out.size))
  have O2 := Lib.hid (O1.out.below b2)
  have RD2 := Lib.hid (SliceBytes.later RD1.out b2)
  clear b2 O1 RD1 H1
  have SG := Lib.hid (fun hs => signs_iu ⟨(Pl.bytes l).toArray⟩ w2 hs (HU.out.later H2.out))
  go_wp2_with (fail)
  refine (SG.out (by show (Pl.bytes l).toArray.size ≤ _; rw [List.size_toArray]; omega)).mono ?_
  rintro e w3 ⟨u3, rfl, o3, b3⟩
  have o3' : OwnI w2.heap.size w3.heap.size w3 u3 (Pl.signsV (Pl.bytes l)) := o3
  rw [RB.out.1] at o3'
  first | rw [RB.out.2] | rw [show (⟨(Pl.bytes l).toArray⟩ : ByteArray).data.toList = Pl.bytes l from rfl, RB.out.2]
  have H3 := Lib.hid (H2.out.trans (b3.mono H2.out.size))
  have O3 := Lib.hid (O2.out.below b3)
  have S3 := Lib.hid o3'
  obtain ⟨A3, c3, rfl, -, -⟩ := o3'.slice
  have RD3 := Lib.hid (SliceBytes.later RD2.out b3)
  clear b3 o3 o3' O2 RD2 H2 SG
  -- SignText, TextSign
  go_wp2_with (fail)
  refine (signText_i _ _ l _ (Nat.le_refl _) O3.out.slice (by omega) (HT.out.later H3.out)).mono ?_
  rintro e w4 ⟨rfl, b4⟩
  have H4 := Lib.hid (H3.out.trans (b4.mono H3.out.size))
  have O4 := Lib.hid (O3.out.below b4)
  have S4 := Lib.hid (S3.out.below b4)
  have RD4 := Lib.hid (SliceBytes.later RD3.out b4)
  clear b4 O3 S3 RD3 H3
  have TS := Lib.hid (fun hs => textSign_i ⟨(Pl.signText l).toArray⟩ w4 hs (HT.out.later H4.out) (HE.out.later H4.out) (HM.out.later H4.out))
  go_wp2_with (fail)
  refine (TS.out (by show (Pl.signText l).toArray.size ≤ _; rw [List.size_toArray]; omega)).mono ?_
  rintro e w5 ⟨u5, rfl, o5, b5⟩
  have o5' : OwnI w4.heap.size w5.heap.size w5 u5 (Pl.textSign (Pl.signText l)) := o5
  rw [RT.out.2] at o5'
  first | rw [RT.out.1] | rw [show (⟨(Pl.signText l).toArray⟩ : ByteArray).data.toList = Pl.signText l from rfl, RT.out.1]
  have H5 := Lib.hid (H4.out.trans (b5.mono H4.out.size))
  have O5 := Lib.hid (O4.out.below b5)
  have S5 := Lib.hid (S4.out.below b5)
  have T5 := Lib.hid o5'
  obtain ⟨A5, c5, rfl, -, -⟩ := o5'.slice
  have RD5 := Lib.hid (SliceBytes.later RD4.out b5)
  clear b5 o5 o5' O4 S4 RD4 H4 TS
  -- MakeNum, NumText, TextNum
  go_wp2_with (fail)
  refine (makeNum_s _ n0 _ _ RD5.out).mono ?_
  rintro e w6 ⟨x, rfl, hx, b6⟩
  obtain ⟨hx0, hx1⟩ := hx.2 (by decide)
  have TN := Lib.hid (Pl.tnOk_num (n := x) hx0 (by omega))
  have H6 := Lib.hid (H5.out.trans (b6.mono H5.out.size))
  have O6 := Lib.hid (O5.out.below b6)
  have S6 := Lib.hid (S5.out.below b6)
  have T6 := Lib.hid (T5.out.below b6)
  clear b6 O5 S5 T5 RD5 H5 hx
  go_wp2_with (fail)
  refine (numText_i x _ (HT.out.later H6.out)).mono ?_
  rintro e w7 ⟨rfl, b7⟩
  have H7 := Lib.hid (H6.out.trans (b7.mono H6.out.size))
  have O7 := Lib.hid (O6.out.below b7)
  have S7 := Lib.hid (S6.out.below b7)
  have T7 := Lib.hid (T6.out.below b7)
  have hnl := Pl.numText_length x
  clear b7 O6 S6 T6 H6
  go_wp2_with (fail)
  refine (textNum_il (Pl.numText x) _ (by omega) (HT.out.later H7.out) (HE.out.later H7.out)).mono ?_
  rintro e w8 ⟨rfl, b8⟩
  rw [TN.out.1, TN.out.2]
  have H8 := Lib.hid (H7.out.trans (b8.mono H7.out.size))
  have O8 := Lib.hid (O7.out.below b8)
  have S8 := Lib.hid (S7.out.below b8)
  have T8 := Lib.hid (T7.out.below b8)
  clear b8 O7 S7 T7 H7
  go_wp2_with (fail)
  refine (signsSame_ib _ _ _ l l _ S8.out.slice O8.out.slice (by unfold maxLen; omega)).mono ?_
  rintro e w9 ⟨rfl, b9⟩
  rw [show decide (l = l) = true from decide_eq_true rfl]
  have H9 := Lib.hid (H8.out.trans (b9.mono H8.out.size))
  have O9 := Lib.hid (O8.out.below b9)
  have T9 := Lib.hid (T8.out.below b9)
  clear b9 O8 S8 T8 H8
  go_wp2_with (fail)
  refine (signsSame_ib _ _ _ l l _ T9.out.slice O9.out.slice (by unfold maxLen; omega)).mono ?_
  rintro e w10 ⟨rfl, b10⟩
  rw [show decide (l = l) = true from decide_eq_true rfl]
  have H10 := Lib.hid (H9.out.trans (b10.mono H9.out.size))
  have O10 := Lib.hid (O9.out.below b10)
  clear b10 O9 T9 H9
  go_wp2_with (fail)
  refine (signsOk_i _ _ l _ O10.out.slice (by unfold maxLen; omega)).mono ?_
  rintro e w11 ⟨rfl, rfl⟩
  rw [HOK.out]
  go_wp2_with (fail)
  refine (textOk_i _ _ l _ O10.out.slice (by unfold maxLen; omega)).mono ?_
  rintro e w11 ⟨rfl, rfl⟩
  have HTX : Hid (Pl.textOk l = true) := by show _ = _; rw [Pl.textOk, HOK.out, decide_eq_true (by omega)]; rfl
  rw [HTX.out]
  go_wp2_with (fail)
  refine (show_i _ l _ O10.out.slice (by omega)).mono ?_
  rintro e w12 ⟨rfl, b12⟩
  have H12 := Lib.hid (H10.out.trans (b12.mono H10.out.size))
  have O12 := Lib.hid (O10.out.below b12)
  clear b12 O10 H10
  go_wp2_with (fail)
  refine (bytes_i _ l _ O12.out.slice (by omega)).mono ?_
  rintro e w13 ⟨rfl, b13⟩
  have H13 := Lib.hid (H12.out.trans (b13.mono H12.out.size))
  clear b13 O12 H12
  have hlz : ((((Pl.shown l).length : Nat) : Int) == (((Pl.bytes l).length : Nat) : Int)) = true := by rw [SL.out]; exact beq_iff_eq.2 rfl
  have HLZ := Lib.hid hlz
  clear hlz
  go_wp2_with (fail)
  go_ret
  exact ⟨congrArg (fun b => Ending.returned (Value.bool b)) HLZ.out, H13.out⟩
/-- The door's own heap, and the pinned table in its place. -/
noncomputable def witnessWorld (os : Os) : World :=
  let w0 := World.doorLaid Tryd.prog 72 os
  { w0 with heap := w0.heap.modify 0 fun
    | .cells _ t frozen => .cells (Lib.firstTab.map fun z => Value.int .u8 z).toArray t frozen
    | o => o }
/-- The witness meets the condition: closed facts. -/
theorem door_met (os : Os) (args : Array Value) : laidMetH Tryd.prog Rows.fnSignsRow.laid ((witnessWorld os).forCall (fun _ _ => 0) ⟨#[], args, []⟩).memory :=
  laidMetH_of_parts3 (fuel := 8) (laidMet_of_run' 8 (by kernel_rfl) (by kernel_rfl)) (by kernel_rfl) (by kernel_rfl)
set_option maxRecDepth 100000 in
theorem lifted (os : Os) (started : os.Started) (H : Type) (enc : TypeId × Value → H) :
    ReturnsInHanded {} Tryd.checked os 10 .any (fun w args => (Rows.fnSignsSpec.pre enc Tryd.prog Tryd.f10 [] false w args ∧ laidMetH Tryd.prog Rows.fnSignsRow.laid w) ∧ sizedMet enc Tryd.prog Tryd.f10 (OpenSpec.ofChange Rows.fnSignsSpec) false w args)
      (Rows.fnSignsSpec.post enc Tryd.prog Tryd.f10 false true false false) := by
  refine returns_and_shaped (C := Tryd.checked) (X := fun w _ => laidMetH Tryd.prog Rows.fnSignsRow.laid w) (fun _ _ _ hh h => h.of_heap hh) ownNone started (by kernel_rfl) Tryd.func10
    (ChangeSpec.witness_shaped (enc := enc) (C := Tryd.checked) (os := os) (X := fun w _ => laidMetH Tryd.prog Rows.fnSignsRow.laid w) false (witnessWorld os) #[.slice none 0 0] 8 rfl (World.shaped_of_RefB (by kernel_rfl) (by kernel_rfl)) (by kernel_rfl) (by kernel_rfl) (by kernel_rfl) (door_met os _)) ?_
  intro W base args ds gs before hval0 hW _ _ hL hsh _
  have hval : ∀ (j : Nat) t v, Tryd.f10.params[j]? = some t → args[j]? = some v → Value.okWide Tryd.prog W .any base t v := hval0
  have hW' := hW
  obtain ⟨p, q, hA0, hV, rfl, hfz, hnd⟩ := hW
  have hA : DataW.TrodAll enc Tryd.prog W 0 (fun _ => true) true Tryd.f10.params.toList args.toList ds p := hA0
  rw [Tryd.params10] at hA hval
  obtain ⟨v0, vs0, d0, ds0, p0, q0, hargs, rfl, rfl, h0, r0⟩ := trodAll_cons hA
  obtain ⟨rfl, rfl, rfl⟩ := trodAll_nil r0
  obtain rfl : args = #[v0] := by cases args; simp_all
  obtain ⟨rfl, rfl⟩ := trodVars_none hV
  obtain ⟨a0, s0, w0⟩ := open_byteS (hval 0 46 v0 rfl rfl) h0 (fun x hx => hW'.lt x (by simp [hx]))
  clear hA0 hval0
  refine (walk W v0 a0 s0 w0 (facts hL hsh)).mono fun e W' ⟨he, hb⟩ => ?_
  subst he
  exact ⟨_, rfl, law_post hW' rfl hb (by kernel_rfl) (by kernel_rfl) rfl⟩

theorem over : Rows.fnSignsRow.holds Tryd.pinned (OpenSpec.ofChange Rows.fnSignsSpec) :=
  OpenClaim.holds_of_wide 10 Tryd.f10 rfl rfl rfl rfl rfl rfl rfl ⟨rfl, rfl, rfl, rfl, rfl⟩ rfl rfl rfl rfl rfl (by kernel_rfl) Tryd.func10 (by kernel_rfl)
    (of_decide_eq_true (by kernel_rfl)) (by unfold Func.isWrapper; first | (rw [if_pos (by decide +kernel)]; kernel_rfl) | (rw [if_neg (by decide +kernel)]; exact ⟨rfl, rfl⟩))
    (fun os started H enc _ => lifted os started H enc)

/-- The given statement: the tied card. -/
theorem proved : Rows.FnSignsCardSaid :=
  Claim7.holds_tied_plain_at .later [] [.data, .data, .data, .data, .sentinel, .sentinel, .pinned] true (true, "9821e4a66082f48ecfeb108014bb2a03f43cd621bc8edbb3dcf0f096f358e609") true
    over (fun _ h => by cases h) (by kernel_rfl) (fun _ h => by cases h) fnSigns_row_tie rfl ⟨rfl, rfl⟩ (by kernel_rfl) rfl
    (fun f fn hf hfn => by
      obtain rfl : f = 10 := Option.some.inj ((show Tryd.prog.funcNamed "loop.example/g00797/laws.FnSigns" = some 10 by kernel_rfl).symm.trans hf) |>.symm
      obtain rfl : fn = Tryd.f10 := (Option.some.inj (Tryd.func10.symm.trans hfn)).symm
      refine ⟨by kernel_rfl, fun j t ht => ?_⟩
      rw [Tryd.params10] at ht
      have h3 : t = 46 := by
        match j, ht with
        | 0, ht => exact ((by simpa using ht.symm))
        | j + 1, ht => simp at ht
      rcases h3 with rfl
      · exact (show Tryd.prog.wantsStandIn 46 = false by kernel_rfl))
    (by kernel_rfl)
end Go.Proofs.YtookcfpiegbafaaDoor.fnSigns
