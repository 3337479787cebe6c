/- Contract of spec.Signs: the characters that a text's bytes spell. Condition: the text has at most 1048576 bytes. -/
import Derived.Test.YtofbcccpailbhaaDoorGet
import Derived.Test.YtofbcccpailbhaaDoorSignsI
namespace Go.Proofs.YtofbcccpailbhaaDoor
open Go.RowKit
set_option maxRecDepth 100000

/-- What the decoder says of a place, and what's left of it. -/
theorem getAt_sg {s : ByteArray} {p : Nat} (h : p < s.size) :
    ((Pl.getAt s p).2 = 0 ∧ Lib.validD (s.data.toList.drop p) = false) ∨
    (1 ≤ (Pl.getAt s p).2 ∧ p + (Pl.getAt s p).2 ≤ s.size ∧ Lib.validD (s.data.toList.drop p) = Lib.validD (s.data.toList.drop (p + (Pl.getAt s p).2)) ∧ Pl.sg (s.data.toList.drop p) = ((Pl.getAt s p).1 : Int) :: Pl.sg (s.data.toList.drop (p + (Pl.getAt s p).2))) := by
  have hv := Pl.valid_at (l := s.data.toList) (p := p) h
  have hg := Pl.sg_at (l := s.data.toList) (p := p) h
  have hw := Lib.decodeL_width (s.data.toList.drop p)
  have hne : s.data.toList.drop p ≠ [] := by
    intro e
    have := congrArg List.length e
    rw [List.length_drop, List.length_nil] at this
    have : s.data.toList.length = s.size := rfl
    omega
  have hle := Lib.decodeL_le (s.data.toList.drop p) hne
  rw [List.length_drop, show s.data.toList.length = s.size from rfl] at hle
  rw [Lib.decodeL_drop] at hv hg hw hle
  have hd : Utf8.decode s p = Lib.decodeN (s.size - p) (Pl.cb s p 0) (Pl.cb s p 1) (Pl.cb s p 2) (Pl.cb s p 3) := Lib.decode_at s p
  have hga := Pl.getAt_decode s p
  rw [← hd] at hga
  by_cases hb : (Utf8.decode s p).1 = 65533 ∧ (Utf8.decode s p).2 = 1
  · rw [if_pos hb] at hga hv
    exact .inl ⟨by rw [hga], hv⟩
  · rw [if_neg hb] at hga hv
    rw [hga]
    exact .inr ⟨hw, by omega, hv, hg⟩
set_option maxHeartbeats 4000000 in
set_option maxRecDepth 100000 in
theorem signs_s (s : ByteArray) (w : World) (hs : s.size ≤ 1048576) :
    Calls Tryd.prog 4 #[.string s] w fun e w' => ∃ u, e = .returned (.tuple #[u, .bool (Lib.validD s.data.toList)]) ∧ OwnI w.heap.size w'.heap.size w' u (Pl.signsV s.data.toList) ∧ Below w.heap.size w w' := by
  obtain ⟨j0, hj, hy0, hy1, hy2⟩ := info_parts intInfoS
  have hb0 : Below w.heap.size w (w.alloc (.cells #[] 3)) := (Below.refl _ _).alloc (Nat.le_refl _) _
  have HB0 := Lib.hid hb0
  have hmade := Lib.hid (World.ownsRow_made (base := w.heap.size) (e := 3) (size := 1) w #[] 0 (Nat.le_refl _) (Nat.zero_le _) rfl)
  have HVD : Hid (Lib.validD [] = true) := rfl
  clear hb0
  go_enter Tryd.func4, Tryd.ntmps4
  go_wp2_with (fail)
  go_loopw [4, 5] (fun u i wr => ∃ (p : Nat) (acc : List Int), p ≤ s.size ∧ acc.length ≤ p ∧ i = .int .i64 p ∧ Hid (wr.ownsRow w.heap.size 3 1 u acc.length (acc.map (Value.int .i64))) ∧
      Hid (acc ++ Pl.sg (s.data.toList.drop p) = Pl.sg s.data.toList) ∧ Hid (Lib.validD (s.data.toList.drop p) = Lib.validD s.data.toList) ∧ Hid (Below w.heap.size w wr) ∧ w.heap.size ≤ wr.heap.size) (fun _ i _ => s.size - (intOf i).toNat)
  case atStart => exact ⟨0, [], Nat.zero_le _, Nat.le_refl _, rfl, hmade.out, by show _ = _; simp, by show _ = _; simp, HB0.out, HB0.out.size⟩
  case round =>
    obtain ⟨p, acc, hpl, hal, rfl, hown, hap, hvv, hb, hsz⟩ := hrel
    by_cases hp : p < s.size
    · have CG := Lib.hid (fun w => l01Get_s s p w hp hs)
      rcases getAt_sg hp with ⟨h0, hbad⟩ | ⟨h1, h2, h3, h4⟩
      · have HV : Hid (Lib.validD s.data.toList = false) := by show _ = _; rw [← hvv.out, hbad]
        have HP : Hid (Pl.signsV s.data.toList = []) := by show _ = _; rw [Pl.signsV, if_neg (by rw [HV.out]; decide)]
        have hz : (((Pl.getAt s p).2 : Nat) : Int) = 0 := by rw [h0]; rfl
        generalize (((Pl.getAt s p).2 : Nat) : Int) = wd at CG hz
        generalize (Pl.getAt s p).1 = r at CG
        subst hz
        clear h0 hbad hvv hap
        go_wp2_with (fail)
        refine (CG.out _).mono ?_
        rintro e w1 ⟨rfl, b1⟩
        have HBB := Lib.hid (hb.out.trans (b1.mono hsz))
        clear b1
        go_wp2_with (fail)
        go_ret2
        exact ⟨_, by rw [HV.out]; rfl, by rw [HP.out]; exact ⟨World.ownsRow_nil _ _ _ _, fun g hg => by simp [Value.ownBlock] at hg⟩, HBB.out⟩
      · generalize (Pl.getAt s p).1 = r at CG h4
        generalize (Pl.getAt s p).2 = wd at CG h1 h2 h3 h4
        have hz : ((wd : Int) == 0) = false := beq_eq_false_iff_ne.2 (by omega)
        have HAP : Hid ((acc ++ [(r : Int)]) ++ Pl.sg (s.data.toList.drop (p + wd)) = Pl.sg s.data.toList) := by
          show _ = _
          rw [← hap.out, h4]; simp
        have HVV : Hid (Lib.validD (s.data.toList.drop (p + wd)) = Lib.validD s.data.toList) := by show _ = _; rw [← h3]; exact hvv.out
        clear h3 h4 hap hvv
        go_wp2_with (fail)
        refine (CG.out _).mono ?_
        rintro e w1 ⟨rfl, b1⟩
        have HOWN := Lib.hid (World.ownsRow.below hown.out b1)
        have HB1 := Lib.hid (hb.out.trans (b1.mono hsz))
        have sz1 := b1.size
        clear b1 hown hb CG
        go_wp2_with (at_builtin; refine wpList_append_lies _ rfl (.tmp 21) (.tmp 23) 22 rfl w.heap.size 3 j0 _ 1 8 Tryd.underlying22 hj hy0 hy1 hy2 rfl (by decide) _ acc.length _ (by rfl) (HOWN.out.alloc _) ⟨w1.heap.size, 0, none⟩ 1 1 [.int .i64 (r : Int)] (by rfl) rfl (World.news_of_block (cs := #[.int .i64 (r : Int)]) (heap_new_at _ _ (by simp))) (by simp [Value.oneCell']) (by omega) (by unfold maxLen; omega) (by omega) (by simp; omega) (w1.heap.size + 1) (by simp) ?_)
        intro g cap w3 hown3 hg hat hlt3
        have hf : Frame (fun x => u4.ownBlock = some x) w1 w3 := (Frame.alloc _ w1 _).trans (Frame.grown hg fun _ e => e) (fun _ _ hh => hh)
        have hbel : Below w.heap.size w1 w3 := hf.below (fun x hx => (HOWN.out.lt x hx).1) (by omega)
        have sz3 := hf.size
        have HF := Lib.hid hbel
        have HO3 : Hid (w3.ownsRow w.heap.size 3 1 (.slice (some ⟨g, 0, none⟩) (acc.length + 1) cap) (acc ++ [(r : Int)]).length ((acc ++ [(r : Int)]).map (Value.int .i64))) := by rw [List.length_append, List.map_append]; exact hown3
        clear hf hbel hown3 hg hat
        go_wp2_with (fail)
        go_roundw
        case rel => exact ⟨p + wd, _, h2, by rw [List.length_append]; simp; omega, by go_num, HO3.out, HAP.out, HVV.out, HB1.out.trans HF.out, by omega⟩
        case measure => simp [intOf]; omega
    · have hpe : p = s.size := by omega
      have hx : acc = Pl.sg s.data.toList := by
        have := hap.out
        rw [List.drop_eq_nil_of_le (by show s.size ≤ _; omega), Pl.sg_nil, List.append_nil] at this
        exact this
      have HV : Hid (Lib.validD s.data.toList = true) := by
        show _ = _
        have := hvv.out
        rw [List.drop_eq_nil_of_le (by show s.size ≤ _; omega), HVD.out] at this
        exact this.symm
      have HOI : Hid (OwnI w.heap.size wr.heap.size wr u4 (Pl.signsV s.data.toList)) := by
        show OwnI _ _ _ _ _
        rw [Pl.signsV, if_pos HV.out, ← hx]
        exact .of hown.out
      clear hap hx hown hvv hpe
      go_wp2_with (fail)
      go_ret2
      exact ⟨_, by rw [HV.out]; rfl, HOI.out, hb.out⟩
end Go.Proofs.YtofbcccpailbhaaDoor
