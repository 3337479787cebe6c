/- The law FnExactSigns returns true for every argument and leaves memory as it was. Condition: none beyond the card's own (the library's variables read as their initialisers lay them). -/
import Derived.Test.YtofbcccpailbhaaDoorRow
import Derived.Test.YtofbcccpailbhaaDoorMarks
import Derived.Test.YtofbcccpailbhaaDoorUtf
import Derived.Test.YtofbcccpailbhaaDoorSignsS
import Derived.Test.YtofbcccpailbhaaDoorCards
import Derived.Test.YtofbcccpailbhaaDoorTie
import Derived.PinnedBridge
import Derived.Lib.LaidU8
import Derived.LaidMore
import Derived.OpenShut
import Derived.Stop.Joined
import Derived.Stop.LaidErr
import Derived.ChangeMaps5
import Derived.SevenTiedAt
namespace Go.Proofs.YtofbcccpailbhaaDoor.fnExactSigns
open Go.ChangeShapes Go.WideShapes Go.ChangeAt Go.RowKit
set_option maxRecDepth 100000
set_option linter.unusedVariables false

theorem accept_data : (Rows.laid_unicode_utf8_acceptRanges : DataW Unit) = Lib.acceptData := by kernel_rfl
theorem facts {W : World} (h : laidMetH Tryd.prog Rows.fnExactSignsRow.laid W) : Utf8T W := by
  rw [MakeChecks.laidMetH_plain _ _ _ (by kernel_rfl)] at h
  have h2 : laidMet Tryd.prog [("unicode/utf8.acceptRanges", Rows.laid_unicode_utf8_acceptRanges), ("unicode/utf8.first", Rows.laid_unicode_utf8_first)] W := h
  have ha := Lib.laidMet.reads h2 (.head _)
  have hf := Lib.laidMet.reads h2 (.tail _ (.head _))
  rw [accept_data] at ha
  rw [show Rows.laid_unicode_utf8_first = Lib.firstData from Pinned.utf8First_eq] at hf
  exact utf8T_of hf ha

set_option maxHeartbeats 2000000 in
set_option maxRecDepth 100000 in
theorem walk (w : World) (a0 : ByteArray) (w0 : a0.size ≤ maxLen) (hF : Utf8T w) : Calls Tryd.prog 3 #[.string a0] w fun e w' => e = .returned (.bool true) ∧ Below w.heap.size w w' := by
  have HU := Lib.hid hF
  clear hF
  by_cases sm0 : a0.size ≤ 1048576
  rotate_left
  · go_enter Tryd.func3, Tryd.ntmps3
    go_wp2_with (fail)
    go_ret
    exact ⟨rfl, Below.refl _ _⟩
  have HB := Below.refl w.heap.size w
  go_enter Tryd.func3, Tryd.ntmps3
  go_wp2_with (fail)
  refine (signs_s a0 _ (by omega)).mono ?_
  rintro e w1 ⟨w0, rfl, ow0, b1⟩
  have z1 := b1.size
  replace HB := HB.trans (b1.mono HB.size)
  go_wp2_with (fail)
  refine (signs_iu a0 _ (by omega) (HU.out.later HB)).mono ?_
  rintro e w2 ⟨g0, rfl, og0, b2⟩
  replace ow0 := ow0.below b2
  have z2 := b2.size
  replace HB := HB.trans (b2.mono HB.size)
  go_wp2_with (fail)
  refine (eqIntS_b _ _ _ (Pl.signsV a0.data.toList) (Pl.signsV a0.data.toList) _ og0.slice ow0.slice og0.slice.len).mono ?_
  rintro e w3 ⟨rfl, b3⟩
  replace ow0 := ow0.below b3
  replace og0 := og0.below b3
  have z3 := b3.size
  replace HB := HB.trans (b3.mono HB.size)
  have tk0 : (Pl.signsV a0.data.toList).length ≤ 4194304 := Nat.le_trans (Pl.signsV_length _) (by show a0.size ≤ _; omega)
  go_wp2_with (fail)
  refine (markIntS_w _ _ _ (Pl.signsV a0.data.toList) 1 _ og0 (by omega) (by omega) tk0).mono ?_
  rintro e w4 ⟨rfl, p4, c4⟩
  replace ow0 := ow0.within c4 (by omega)
  have z4 := Nat.le_of_eq c4.size
  have y4 := Nat.le_of_eq c4.size.symm
  replace HB := HB.trans (c4.below (by omega))
  replace og0 := p4
  clear p4
  go_wp2_with (fail)
  refine (heldIntS_l _ _ (Pl.signsV a0.data.toList).length 1 _ og0.slice (by omega) (by omega) tk0).mono ?_
  rintro e w5 ⟨rfl, rfl⟩
  go_wp2_with (fail)
  refine (signs_iu a0 _ (by omega) (HU.out.later HB)).mono ?_
  rintro e w6 ⟨h0, rfl, oh0, b6⟩
  replace ow0 := ow0.below b6
  replace og0 := og0.below b6
  have z6 := b6.size
  replace HB := HB.trans (b6.mono HB.size)
  go_wp2_with (fail)
  refine (eqIntS_b _ _ _ (Pl.signsV a0.data.toList) (Pl.signsV a0.data.toList) _ oh0.slice ow0.slice oh0.slice.len).mono ?_
  rintro e w7 ⟨rfl, b7⟩
  replace ow0 := ow0.below b7
  replace og0 := og0.below b7
  replace oh0 := oh0.below b7
  have z7 := b7.size
  replace HB := HB.trans (b7.mono HB.size)
  go_wp2_with (fail)
  refine (heldIntS_l _ _ (Pl.signsV a0.data.toList).length 1 _ og0.slice (by omega) (by omega) tk0).mono ?_
  rintro e w8 ⟨rfl, rfl⟩
  go_wp2_with (fail)
  go_ret
  exact ⟨rfl, HB⟩

/-- The door's own heap, and the pinned table in its place. -/
noncomputable def witnessWorld (os : Os) : World :=
  let w0 := World.doorLaid Tryd.prog 19 os
  { w0 with heap := w0.heap.modify 0 fun
    | .cells _ t frozen => .cells (Lib.firstTab.map fun z => Value.int .u8 z).toArray t frozen
    | o => o }
/-- The witness meets the condition: closed facts. -/
theorem door_met (os : Os) (args : Array Value) : laidMetH Tryd.prog Rows.fnExactSignsRow.laid ((witnessWorld os).forCall (fun _ _ => 0) ⟨#[], args, []⟩).memory :=
  laidMetH_of_parts3 (fuel := 8) (laidMet_of_run' 8 (by kernel_rfl) (by kernel_rfl)) (by kernel_rfl) (by kernel_rfl)
set_option maxRecDepth 100000 in
theorem lifted (os : Os) (started : os.Started) (H : Type) (enc : TypeId × Value → H) :
    ReturnsInHanded {} Tryd.checked os 3 .any (fun w args => (Rows.fnExactSignsSpec.pre enc Tryd.prog Tryd.f3 [] false w args ∧ laidMetH Tryd.prog Rows.fnExactSignsRow.laid w) ∧ sizedMet enc Tryd.prog Tryd.f3 (OpenSpec.ofChange Rows.fnExactSignsSpec) false w args)
      (Rows.fnExactSignsSpec.post enc Tryd.prog Tryd.f3 false true false false) := by
  refine returnsInHanded_of_change_and (C := Tryd.checked) (X := fun w _ => laidMetH Tryd.prog Rows.fnExactSignsRow.laid w) (fun _ _ _ hh h => h.of_heap hh) ownNone started (by kernel_rfl) Tryd.func3
    (ChangeSpec.witness_shaped (enc := enc) (C := Tryd.checked) (os := os) (X := fun w _ => laidMetH Tryd.prog Rows.fnExactSignsRow.laid w) false (witnessWorld os) #[.string ⟨#[]⟩] 8 rfl (World.shaped_of_RefB (by kernel_rfl) (by kernel_rfl)) (by kernel_rfl) (by kernel_rfl) (by kernel_rfl) (door_met os _)) ?_
  intro W base args ds gs before hval0 hW _ _ hL _
  have hval : ∀ (j : Nat) t v, Tryd.f3.params[j]? = some t → args[j]? = some v → Value.okWide Tryd.prog W .any base t v := hval0
  have hW' := hW
  obtain ⟨p, q, hA0, hV, rfl, hfz, hnd⟩ := hW
  have hA : DataW.TrodAll enc Tryd.prog W 0 (fun _ => true) true Tryd.f3.params.toList args.toList ds p := hA0
  rw [Tryd.params3] at hA hval
  obtain ⟨v0, vs0, d0, ds0, p0, q0, hargs, rfl, rfl, h0, r0⟩ := trodAll_cons hA
  obtain ⟨rfl, rfl, rfl⟩ := trodAll_nil r0
  obtain rfl : args = #[v0] := by cases args; simp_all
  obtain ⟨rfl, rfl⟩ := trodVars_none hV
  obtain ⟨a0, rfl, rfl, rfl, w0⟩ := Go.ChangeMaps.open_string Tryd.underlying9 (hval 0 9 v0 rfl rfl) h0
  clear hA0 hval0
  refine (walk W a0 w0 (facts hL)).mono fun e W' ⟨he, hb⟩ => ?_
  subst he
  exact ⟨_, rfl, law_post hW' rfl hb (by kernel_rfl) (by kernel_rfl) rfl⟩

theorem over : Rows.fnExactSignsRow.holds Tryd.pinned (OpenSpec.ofChange Rows.fnExactSignsSpec) :=
  OpenClaim.holds_of_wide 3 Tryd.f3 rfl rfl rfl rfl rfl rfl rfl ⟨rfl, rfl, rfl, rfl, rfl⟩ rfl rfl rfl rfl rfl (by kernel_rfl) Tryd.func3 (by kernel_rfl)
    (of_decide_eq_true (by kernel_rfl)) (by unfold Func.isWrapper; first | (rw [if_pos (by decide +kernel)]; kernel_rfl) | (rw [if_neg (by decide +kernel)]; exact ⟨rfl, rfl⟩))
    (fun os started H enc _ => lifted os started H enc)

/-- The given statement: the tied card. -/
theorem proved : Rows.FnExactSignsCardSaid :=
  Claim7.holds_tied_plain_at .later [] [.data, .pinned] true (true, "67c5612aa79d2dc4bfe3b6704f1caffeef601cc5efe6fcca7f65792e9d0d6602") false
    over (fun _ h => by cases h) (by kernel_rfl) (fun _ h => by cases h) fnExactSigns_row_tie rfl ⟨rfl, rfl⟩ (by kernel_rfl) rfl
    (fun f fn hf hfn => by
      obtain rfl : f = 3 := Option.some.inj ((show Tryd.prog.funcNamed "loop.example/g00797/laws.FnExactSigns" = some 3 by kernel_rfl).symm.trans hf) |>.symm
      obtain rfl : fn = Tryd.f3 := (Option.some.inj (Tryd.func3.symm.trans hfn)).symm
      refine ⟨by kernel_rfl, fun j t ht => ?_⟩
      rw [Tryd.params3] at ht
      have h3 : t = 9 := by
        match j, ht with
        | 0, ht => exact ((by simpa using ht.symm))
        | j + 1, ht => simp at ht
      rcases h3 with rfl
      · exact (show Tryd.prog.wantsStandIn 9 = false by kernel_rfl))
    (by kernel_rfl)
end Go.Proofs.YtofbcccpailbhaaDoor.fnExactSigns
