/- The law FnExactSignText returns true for every argument and leaves memory as it was. Condition: none beyond the card's own (the library's variables read as their initialisers lay them). -/
import Derived.Test.YtookcfpiegbafaaDoorRow
import Derived.Test.YtookcfpiegbafaaDoorToInts
import Derived.Test.YtookcfpiegbafaaDoorDotted
import Derived.Test.YtookcfpiegbafaaDoorCards
import Derived.Test.YtookcfpiegbafaaDoorTie
import Derived.LaidMore
import Derived.OpenShut
import Derived.Stop.Joined
import Derived.Stop.LaidErr
import Derived.ChangeMaps5
import Derived.SevenTiedAt
namespace Go.Proofs.YtookcfpiegbafaaDoor.fnExactSignText
open Go.ChangeShapes Go.WideShapes Go.ChangeAt Go.RowKit
set_option maxRecDepth 100000
set_option linter.unusedVariables false

theorem pow10_data : (Rows.laid_internal_strconv_uint64pow10 : DataW Unit) = Lib.tabData .u64 Lib.pow10Tab := by kernel_rfl
theorem facts {W : World} (h : laidMetH Tryd.prog Rows.fnExactSignTextRow.laid W) : Tab10 W := by
  rw [MakeChecks.laidMetH_plain _ _ _ (by kernel_rfl)] at h
  have h2 : laidMet Tryd.prog [("internal/strconv.uint64pow10", Rows.laid_internal_strconv_uint64pow10)] W := laidMet.tail (laidMet.tail h)
  rw [pow10_data] at h2
  exact Lib.tabIs_of_head (g := 4) (by kernel_rfl) (by kernel_rfl) Tryd.underlying134 Tryd.underlying112 (by kernel_rfl) (by kernel_rfl) h2

set_option maxHeartbeats 2000000 in
set_option maxRecDepth 100000 in
theorem walk (w : World) (v0 : Value) (xs0 : List Int) (r0 : SliceInts w.heap.size w v0 xs0) (l0 : xs0.length ≤ maxLen) (hF : Tab10 w) : Calls Tryd.prog 7 #[v0] w fun e w' => e = .returned (.bool true) ∧ Below w.heap.size w w' := by
  have HT := Lib.hid hF
  clear hF
  have rd0 := r0
  obtain ⟨A0, c0, rfl, -, -⟩ := r0
  by_cases sm0 : xs0.length ≤ 1048576
  rotate_left
  · go_enter Tryd.func7, Tryd.ntmps7
    go_wp2_with (fail)
    go_ret
    exact ⟨rfl, Below.refl _ _⟩
  have HB := Below.refl w.heap.size w
  go_enter Tryd.func7, Tryd.ntmps7
  go_wp2_with (fail)
  refine (toIntS_l _ xs0 _ (rd0.mono HB.size) (by omega)).mono ?_
  rintro e w1 ⟨s0, rfl, os0, b1⟩
  replace rd0 := rd0.below (b1.mono HB.size)
  have z1 := b1.size
  replace HB := HB.trans (b1.mono HB.size)
  go_wp2_with (fail)
  refine (signText_s _ _ xs0 _ (Nat.le_refl _) os0.slice (by omega)).mono ?_
  rintro e w2 ⟨rfl, b2⟩
  replace rd0 := rd0.below (b2.mono HB.size)
  replace os0 := os0.below b2
  have z2 := b2.size
  replace HB := HB.trans (b2.mono HB.size)
  go_wp2_with (fail)
  refine (toIntS_l _ xs0 _ (rd0.mono HB.size) (by omega)).mono ?_
  rintro e w3 ⟨x0, rfl, ox0, b3⟩
  replace rd0 := rd0.below (b3.mono HB.size)
  have z3 := b3.size
  replace HB := HB.trans (b3.mono HB.size)
  go_wp2_with (fail)
  refine (signText_i _ _ xs0 _ (Nat.le_refl _) ox0.slice (by omega) (HT.out.later HB)).mono ?_
  rintro e w4 ⟨rfl, b4⟩
  replace rd0 := rd0.below (b4.mono HB.size)
  replace ox0 := ox0.below b4
  have z4 := b4.size
  replace HB := HB.trans (b4.mono HB.size)
  go_wp2_with (fail)
  refine (toIntS_l _ xs0 _ (rd0.mono HB.size) (by omega)).mono ?_
  rintro e w5 ⟨y0, rfl, oy0, b5⟩
  replace rd0 := rd0.below (b5.mono HB.size)
  replace ox0 := ox0.below b5
  have z5 := b5.size
  replace HB := HB.trans (b5.mono HB.size)
  go_wp2_with (fail)
  refine (eqIntS_b _ _ _ xs0 xs0 _ ox0.slice oy0.slice ox0.slice.len).mono ?_
  rintro e w6 ⟨rfl, b6⟩
  replace rd0 := rd0.below (b6.mono HB.size)
  replace ox0 := ox0.below b6
  replace oy0 := oy0.below b6
  have z6 := b6.size
  replace HB := HB.trans (b6.mono HB.size)
  go_wp2_with (fail)
  go_ret
  exact ⟨rfl, HB⟩

/-- The witness meets the condition: closed facts. -/
theorem door_met (os : Os) (args : Array Value) : laidMetH Tryd.prog Rows.fnExactSignTextRow.laid ((World.doorLaid Tryd.prog 72 os).forCall (fun _ _ => 0) ⟨#[], args, []⟩).memory :=
  laidMetH_of_parts3 (fuel := 8) (laidMet_of_run' 8 (by kernel_rfl) (by kernel_rfl)) (by kernel_rfl) (by kernel_rfl)
set_option maxRecDepth 100000 in
theorem lifted (os : Os) (started : os.Started) (H : Type) (enc : TypeId × Value → H) :
    ReturnsInHanded {} Tryd.checked os 7 .any (fun w args => (Rows.fnExactSignTextSpec.pre enc Tryd.prog Tryd.f7 [] false w args ∧ laidMetH Tryd.prog Rows.fnExactSignTextRow.laid w) ∧ sizedMet enc Tryd.prog Tryd.f7 (OpenSpec.ofChange Rows.fnExactSignTextSpec) false w args)
      (Rows.fnExactSignTextSpec.post enc Tryd.prog Tryd.f7 false true false false) := by
  refine returnsInHanded_of_change_and (C := Tryd.checked) (X := fun w _ => laidMetH Tryd.prog Rows.fnExactSignTextRow.laid w) (fun _ _ _ hh h => h.of_heap hh) ownNone started (by kernel_rfl) Tryd.func7
    (ChangeSpec.witness_shaped (enc := enc) (C := Tryd.checked) (os := os) (X := fun w _ => laidMetH Tryd.prog Rows.fnExactSignTextRow.laid w) false (World.doorLaid Tryd.prog 72 os) #[.slice none 0 0] 8 rfl (World.shaped_of_RefB (by kernel_rfl) (by kernel_rfl)) (by kernel_rfl) (by kernel_rfl) (by kernel_rfl) (door_met os _)) ?_
  intro W base args ds gs before hval0 hW _ _ hL _
  have hval : ∀ (j : Nat) t v, Tryd.f7.params[j]? = some t → args[j]? = some v → Value.okWide Tryd.prog W .any base t v := hval0
  have hW' := hW
  obtain ⟨p, q, hA0, hV, rfl, hfz, hnd⟩ := hW
  have hA : DataW.TrodAll enc Tryd.prog W 0 (fun _ => true) true Tryd.f7.params.toList args.toList ds p := hA0
  rw [Tryd.params7] at hA hval
  obtain ⟨v0, vs0, d0, ds0, p0, q0, hargs, rfl, rfl, h0, r0⟩ := trodAll_cons hA
  obtain ⟨rfl, rfl, rfl⟩ := trodAll_nil r0
  obtain rfl : args = #[v0] := by cases args; simp_all
  obtain ⟨rfl, rfl⟩ := trodVars_none hV
  obtain ⟨a0, s0, w0⟩ := open_intS (hval 0 31 v0 rfl rfl) h0 (fun x hx => hW'.lt x (by simp [hx]))
  clear hA0 hval0
  refine (walk W v0 a0 s0 w0 (facts hL)).mono fun e W' ⟨he, hb⟩ => ?_
  subst he
  exact ⟨_, rfl, law_post hW' rfl hb (by kernel_rfl) (by kernel_rfl) rfl⟩

theorem over : Rows.fnExactSignTextRow.holds Tryd.pinned (OpenSpec.ofChange Rows.fnExactSignTextSpec) :=
  OpenClaim.holds_of_wide 7 Tryd.f7 rfl rfl rfl rfl rfl rfl rfl ⟨rfl, rfl, rfl, rfl, rfl⟩ rfl rfl rfl rfl rfl (by kernel_rfl) Tryd.func7 (by kernel_rfl)
    (of_decide_eq_true (by kernel_rfl)) (by unfold Func.isWrapper; first | (rw [if_pos (by decide +kernel)]; kernel_rfl) | (rw [if_neg (by decide +kernel)]; exact ⟨rfl, rfl⟩))
    (fun os started H enc _ => lifted os started H enc)

/-- The given statement: the tied card. -/
theorem proved : Rows.FnExactSignTextCardSaid :=
  Claim7.holds_tied_plain_at .later [] [.data, .data, .data] true (true, "9821e4a66082f48ecfeb108014bb2a03f43cd621bc8edbb3dcf0f096f358e609") true
    over (fun _ h => by cases h) (by kernel_rfl) (fun _ h => by cases h) fnExactSignText_row_tie rfl ⟨rfl, rfl⟩ (by kernel_rfl) rfl
    (fun f fn hf hfn => by
      obtain rfl : f = 7 := Option.some.inj ((show Tryd.prog.funcNamed "loop.example/g00797/laws.FnExactSignText" = some 7 by kernel_rfl).symm.trans hf) |>.symm
      obtain rfl : fn = Tryd.f7 := (Option.some.inj (Tryd.func7.symm.trans hfn)).symm
      refine ⟨by kernel_rfl, fun j t ht => ?_⟩
      rw [Tryd.params7] at ht
      have h3 : t = 31 := by
        match j, ht with
        | 0, ht => exact ((by simpa using ht.symm))
        | j + 1, ht => simp at ht
      rcases h3 with rfl
      · exact (show Tryd.prog.wantsStandIn 31 = false by kernel_rfl))
    (by kernel_rfl)
end Go.Proofs.YtookcfpiegbafaaDoor.fnExactSignText
