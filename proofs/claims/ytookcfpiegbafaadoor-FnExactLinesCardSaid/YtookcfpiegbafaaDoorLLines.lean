/- The law FnExactLines returns true for every argument and leaves memory as it was, where the library's tables read as their initialisers lay them (which the card ties to the program's text). Condition: none beyond the card's own. -/
import Derived.Test.YtookcfpiegbafaaDoorRow
import Derived.Test.YtookcfpiegbafaaDoorCut
import Derived.Test.YtookcfpiegbafaaDoorStrOps
import Derived.Test.YtookcfpiegbafaaDoorCards
import Derived.Test.YtookcfpiegbafaaDoorTie
import Derived.LaidMore
import Derived.OpenShut
import Derived.Stop.Joined
import Derived.ChangeMaps5
import Derived.SevenTiedAt
import Derived.PinnedBridge
import Derived.Lib.LaidU8
namespace Go.Proofs.YtookcfpiegbafaaDoor.fnExactLines
open Go.ChangeShapes Go.WideShapes Go.ChangeAt Go.RowKit
set_option maxRecDepth 100000
set_option linter.unusedVariables false

theorem facts {W : World} (_ : laidMetH Tryd.prog Rows.fnExactLinesRow.laid W) (h : W.ShapedOpen Tryd.prog) : MaxLenAt W := maxLen_of_shape h
theorem small {s : ByteArray} (h : s.size ≤ 1048576) : (Pl.lines s.data.toList).length ≤ 4194304 := Nat.le_trans (lines_small h) (by decide)
set_option maxHeartbeats 1000000 in
theorem walk (w : World) (a0 : ByteArray) (w0 : a0.size ≤ maxLen) (hM : MaxLenAt w) : Calls Tryd.prog 6 #[.string a0] w fun e w' => e = .returned (.bool true) ∧ Below w.heap.size w w' := by
  have HM := Lib.hid hM
  clear hM
  unfold maxLen at w0
  by_cases h : 1048576 < a0.size
  · go_enter Tryd.func6, Tryd.ntmps6
    go_wp2_with (fail)
    go_ret
    exact ⟨rfl, Below.refl _ _⟩
  · have hs : a0.size ≤ 1048576 := by omega
    go_enter Tryd.func6, Tryd.ntmps6
    go_wp2_with (fail)
    refine (lines_s a0 _ hs).mono ?_
    rintro e w1 ⟨v1, rfl, o1, b1⟩
    have O1 := Lib.hid o1
    have B1 := Lib.hid b1
    clear o1 b1
    go_wp2_with (fail)
    refine (lines_i a0 _ hs (HM.out.later B1.out)).mono ?_
    rintro e w2 ⟨v2, rfl, o2, b2⟩
    have hn := small hs
    obtain ⟨xs, hxs⟩ : ∃ xs, xs = Pl.lines a0.data.toList := ⟨_, rfl⟩
    have O1 := O1.out
    rw [← hxs] at O1 o2 hn
    have HX := Lib.hid hxs
    have O1 := Lib.hid (O1.below b2)
    have B2 := Lib.hid (B1.out.trans (b2.mono B1.out.size))
    have O2 := Lib.hid o2
    have s12 := b2.size
    clear o2 b2 hxs
    go_wp2_with (fail)
    refine (eqStringS_b _ _ _ xs _ O2.out.slice O1.out.slice).mono ?_
    rintro e w3 ⟨rfl, b3⟩
    have O1 := Lib.hid (O1.out.below b3)
    have O2 := Lib.hid (O2.out.below b3)
    have B3 := Lib.hid (B2.out.trans (b3.mono B2.out.size))
    have s23 := b3.size
    clear b3
    go_wp2_with (fail)
    refine (markStringS_1 _ _ _ xs _ O2.out hn).mono ?_
    rintro e w4 ⟨rfl, o2, f4⟩
    have s01 := B1.out.size
    have O1 := Lib.hid (O1.out.frame f4 (fun g h1 h2 hh => by omega))
    have B4 := Lib.hid (B3.out.trans (f4.below (B := w.heap.size) (fun g hg => by omega) B3.out.size))
    have O2 := Lib.hid o2
    have s34 := f4.size
    clear o2 f4
    go_wp2_with (fail)
    refine (heldStringS_1 _ xs.length _ O2.out.slice hn).mono ?_
    rintro e w5 ⟨rfl, b5⟩
    have O1 := Lib.hid (O1.out.below b5)
    have O2 := Lib.hid (O2.out.below b5)
    have B5 := Lib.hid (B4.out.trans (b5.mono B4.out.size))
    have s45 := b5.size
    clear b5
    go_wp2_with (fail)
    refine (lines_i a0 _ hs (HM.out.later B5.out)).mono ?_
    rintro e w6 ⟨v3, rfl, o3, b6⟩
    rw [← HX.out] at o3
    have O1 := Lib.hid (O1.out.below b6)
    have O2 := Lib.hid (O2.out.below b6)
    have O3 := Lib.hid o3
    have B6 := Lib.hid (B5.out.trans (b6.mono B5.out.size))
    have s56 := b6.size
    clear o3 b6
    go_wp2_with (fail)
    refine (eqStringS_b _ _ _ xs _ O3.out.slice O1.out.slice).mono ?_
    rintro e w7 ⟨rfl, b7⟩
    have O2 := Lib.hid (O2.out.below b7)
    have B7 := Lib.hid (B6.out.trans (b7.mono B6.out.size))
    clear b7
    go_wp2_with (fail)
    refine (heldStringS_1 _ xs.length _ O2.out.slice hn).mono ?_
    rintro e w8 ⟨rfl, b8⟩
    have B8 := Lib.hid (B7.out.trans (b8.mono B7.out.size))
    clear b8
    go_wp2_with (fail)
    go_ret
    exact ⟨rfl, B8.out⟩
/-- The door's own heap, and the pinned table in its place. -/
noncomputable def witnessWorld (os : Os) : World :=
  let w0 := World.doorLaid Tryd.prog 72 os
  { w0 with heap := w0.heap.modify 0 fun
    | .cells _ t frozen => .cells (Lib.firstTab.map fun z => Value.int .u8 z).toArray t frozen
    | o => o }
/-- The witness meets the condition: closed facts. -/
theorem door_met (os : Os) (args : Array Value) : laidMetH Tryd.prog Rows.fnExactLinesRow.laid ((witnessWorld os).forCall (fun _ _ => 0) ⟨#[], args, []⟩).memory :=
  laidMetH_of_parts3 (fuel := 8) (laidMet_of_run' 8 (by kernel_rfl) (by kernel_rfl)) (by kernel_rfl) (by kernel_rfl)
set_option maxRecDepth 100000 in
theorem lifted (os : Os) (started : os.Started) (H : Type) (enc : TypeId × Value → H) :
    ReturnsInHanded {} Tryd.checked os 6 .any (fun w args => (Rows.fnExactLinesSpec.pre enc Tryd.prog Tryd.f6 [] false w args ∧ laidMetH Tryd.prog Rows.fnExactLinesRow.laid w) ∧ sizedMet enc Tryd.prog Tryd.f6 (OpenSpec.ofChange Rows.fnExactLinesSpec) false w args)
      (Rows.fnExactLinesSpec.post enc Tryd.prog Tryd.f6 false true false false) := by
  refine returns_and_shaped (C := Tryd.checked) (X := fun w _ => laidMetH Tryd.prog Rows.fnExactLinesRow.laid w) (fun _ _ _ hh h => h.of_heap hh) ownNone started (by kernel_rfl) Tryd.func6
    (ChangeSpec.witness_shaped (enc := enc) (C := Tryd.checked) (os := os) (X := fun w _ => laidMetH Tryd.prog Rows.fnExactLinesRow.laid w) false (witnessWorld os) #[.string ⟨#[]⟩] 8 rfl (World.shaped_of_RefB (by kernel_rfl) (by kernel_rfl)) (by kernel_rfl) (by kernel_rfl) (by kernel_rfl) (door_met os _)) ?_
  intro W base args ds gs before hval0 hW _ _ hL hsh _
  have hval : ∀ (j : Nat) t v, Tryd.f6.params[j]? = some t → args[j]? = some v → Value.okWide Tryd.prog W .any base t v := hval0
  have hW' := hW
  obtain ⟨p, q, hA0, hV, rfl, hfz, hnd⟩ := hW
  have hA : DataW.TrodAll enc Tryd.prog W 0 (fun _ => true) true Tryd.f6.params.toList args.toList ds p := hA0
  rw [Tryd.params6] at hA hval
  obtain ⟨v0, vs0, d0, ds0, p0, q0, hargs, rfl, rfl, h0, r0⟩ := trodAll_cons hA
  obtain ⟨rfl, rfl, rfl⟩ := trodAll_nil r0
  obtain rfl : args = #[v0] := by cases args; simp_all
  obtain ⟨rfl, rfl⟩ := trodVars_none hV
  obtain ⟨a0, rfl, rfl, rfl, w0⟩ := Go.ChangeMaps.open_string Tryd.underlying9 (hval 0 9 v0 rfl rfl) h0
  clear hA0 hval0
  refine (walk W a0 w0 (facts hL hsh)).mono fun e W' ⟨he, hb⟩ => ?_
  subst he
  exact ⟨_, rfl, law_post hW' rfl hb (by kernel_rfl) (by kernel_rfl) rfl⟩

theorem over : Rows.fnExactLinesRow.holds Tryd.pinned (OpenSpec.ofChange Rows.fnExactLinesSpec) :=
  OpenClaim.holds_of_wide 6 Tryd.f6 rfl rfl rfl rfl rfl rfl rfl ⟨rfl, rfl, rfl, rfl, rfl⟩ rfl rfl rfl rfl rfl (by kernel_rfl) Tryd.func6 (by kernel_rfl)
    (of_decide_eq_true (by kernel_rfl)) (by unfold Func.isWrapper; first | (rw [if_pos (by decide +kernel)]; kernel_rfl) | (rw [if_neg (by decide +kernel)]; exact ⟨rfl, rfl⟩))
    (fun os started H enc _ => lifted os started H enc)

/-- The given statement: the tied card. -/
theorem proved : Rows.FnExactLinesCardSaid :=
  Claim7.holds_tied_plain_at .later [] [.data, .pinned] true (true, "9821e4a66082f48ecfeb108014bb2a03f43cd621bc8edbb3dcf0f096f358e609") true
    over (fun _ h => by cases h) (by kernel_rfl) (fun _ h => by cases h) fnExactLines_row_tie rfl ⟨rfl, rfl⟩ (by kernel_rfl) rfl
    (fun f fn hf hfn => by
      obtain rfl : f = 6 := Option.some.inj ((show Tryd.prog.funcNamed "loop.example/g00797/laws.FnExactLines" = some 6 by kernel_rfl).symm.trans hf) |>.symm
      obtain rfl : fn = Tryd.f6 := (Option.some.inj (Tryd.func6.symm.trans hfn)).symm
      refine ⟨by kernel_rfl, fun j t ht => ?_⟩
      rw [Tryd.params6] at ht
      have h3 : t = 9 := by
        match j, ht with
        | 0, ht => exact ((by simpa using ht.symm))
        | j + 1, ht => simp at ht
      rcases h3 with rfl
      · exact (show Tryd.prog.wantsStandIn 9 = false by kernel_rfl))
    (by kernel_rfl)
end Go.Proofs.YtookcfpiegbafaaDoor.fnExactLines
