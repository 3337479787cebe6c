/- Contract of impl.Signs: the characters that a text's bytes spell. Condition: the text has at most 1048576 bytes; what the library's ValidString answers is given. -/
import Derived.Test.YtofbcccpailbhaaDoorSignsPl
import Derived.Test.YtofbcccpailbhaaDoorStrs
import Derived.Test.YtofbcccpailbhaaDoorFoot
import Derived.Deep.AppendLies
import Derived.OwnWalk
import Derived.Lib.OthersKept
import Derived.Laws.RangeAny
import Derived.Lib.MapLaws
import Derived.BigCall
namespace Go.Proofs.YtofbcccpailbhaaDoor
open Go.RowKit
set_option maxRecDepth 100000

theorem intInfoS : (Tryd.prog.info? 3).map (fun i => (i.zero, i.size, i.bytes)) = some (some (.int .i64 0), 1, 8) := by kernel_rfl
theorem frame_iter (w : World) (k : Nat) (s : ByteArray) (pos : Nat) : Frame (fun g => g = k) w (w.iterAt k s pos) :=
  ⟨rfl, rfl, rfl, by rw [Lib.iterAt_size]; exact Nat.le_refl _, fun i _ hi => Lib.iterAt_other w k i s pos hi⟩
set_option maxHeartbeats 2000000 in
theorem signs_i (s : ByteArray) (w : World) (hs : s.size ≤ 1048576) (cV : Calls Tryd.prog 10 #[.string s] w fun e w' => e = .returned (.bool (Lib.validD s.data.toList)) ∧ Below w.heap.size w w') :
    Calls Tryd.prog 5 #[.string s] w fun e w' => ∃ u, e = .returned (.tuple #[u, .bool (Lib.validD s.data.toList)]) ∧ OwnI w.heap.size w'.heap.size w' u (Pl.signsV s.data.toList) ∧ Below w.heap.size w w' := by
  obtain ⟨j0, hj, hy0, hy1, hy2⟩ := info_parts intInfoS
  have hsl : Hid (s.data.toList.length = s.size) := rfl
  have CV := Lib.hid cV
  clear cV
  by_cases hv : Lib.validD s.data.toList = true
  · have HP : Hid (Pl.signsV s.data.toList = Pl.sg s.data.toList) := by show _ = _; rw [Pl.signsV, if_pos hv]
    have HV := Lib.hid hv
    clear hv
    go_enter Tryd.func5, Tryd.ntmps5
    go_wp2_with (fail)
    refine CV.out.mono ?_
    rintro e w1 ⟨rfl, b1⟩
    rw [HV.out]
    have HB1 := Lib.hid b1
    have sz1 := b1.size
    clear b1 CV
    go_wp2_with (fail)
    have hk0 : (w1.iter s 0).heap[w1.heap.size]? = some (.stringIter s 0) := World.iter_heap w1 s 0
    have hz0 : (w1.iter s 0).heap.size = w1.heap.size + 1 := by simp [World.iter]
    have hb0 : Below w1.heap.size w1 (w1.iter s 0) := (Below.refl _ _).alloc (Nat.le_refl _) _
    have HK0 := Lib.hid hk0
    have HZ0 := Lib.hid hz0
    have HB0 := Lib.hid hb0
    clear hk0 hz0 hb0
    generalize w1.iter s 0 = wi at HK0 HZ0 HB0 ⊢
    go_loopw [4] (fun u wr => ∃ (pos : Nat) (acc : List Int), pos ≤ s.size ∧ acc.length ≤ pos ∧ Hid (wr.heap[w1.heap.size]? = some (.stringIter s pos)) ∧ Hid (wr.ownsRow (w1.heap.size + 1) 3 1 u acc.length (acc.map (Value.int .i64))) ∧
      Hid (acc ++ Pl.sg (s.data.toList.drop pos) = Pl.sg s.data.toList) ∧ Hid (Below w1.heap.size w1 wr) ∧ w1.heap.size + 1 ≤ wr.heap.size) (fun _ wr => s.size - wr.iterPos w1.heap.size)
    case atStart => exact ⟨0, [], Nat.zero_le _, Nat.le_refl _, HK0.out, World.ownsRow_nil _ _ _ _, by show _ = _; simp, HB0.out, Nat.le_of_eq HZ0.out.symm⟩
    case round =>
      clear HK0 HZ0 HB0 wi
      obtain ⟨pos, acc, hpl, hal, hit, hown, hap, hb, hsz⟩ := hrel
      by_cases hp : pos < s.size
      · have hnx : ∀ ty, (Instr.next (.pointer (some ⟨w1.heap.size, 0, none⟩)) true ty).run Tryd.prog wr = _ := fun ty => Lib.run_next_any_at wr w1.heap.size s pos ty hit.out hp
        have hd1 := decode_le s pos
        have hst : Hid (Pl.sg (s.data.toList.drop pos) = ((Utf8.decode s pos).1 : Int) :: Pl.sg (s.data.toList.drop (pos + (Utf8.decode s pos).2))) := by
          have h1 := Pl.sg_at (l := s.data.toList) (p := pos) hp
          rw [Lib.decodeL_drop] at h1
          exact h1
        have hwd : 1 ≤ (Utf8.decode s pos).2 := by
          have := Lib.decodeL_width (s.data.toList.drop pos)
          rwa [Lib.decodeL_drop] at this
        have hwl : pos + (Utf8.decode s pos).2 ≤ s.size := by
          have hne : s.data.toList.drop pos ≠ [] := by
            intro e
            have := congrArg List.length e
            rw [List.length_drop, hsl.out, List.length_nil] at this
            omega
          have := Lib.decodeL_le (s.data.toList.drop pos) hne
          rw [Lib.decodeL_drop, List.length_drop, hsl.out] at this
          omega
        generalize (Utf8.decode s pos).1 = r at hnx hd1 hst
        generalize (Utf8.decode s pos).2 = wd at hnx hst hwd hwl
        have hr0 : (0 : Int) ≤ (r : Int) := by omega
        have hr1 : (r : Int) ≤ 2147483647 := by omega
        have hfi := frame_iter wr w1.heap.size s (pos + wd)
        have HFI := Lib.hid hfi
        have HIT2 := Lib.hid (Lib.iterAt_heap wr w1.heap.size s pos (pos + wd) hit.out)
        have HOWN := Lib.hid (hfi.row hown.out fun g hg e => by have := (hown.out.lt g hg).1; omega)
        have HBI := Lib.hid (hb.out.trans (hfi.below (B := w1.heap.size) (fun i hi => by omega) (by omega)))
        have szi : w1.heap.size + 1 ≤ (wr.iterAt w1.heap.size s (pos + wd)).heap.size := by rw [Lib.iterAt_size]; exact hsz
        have HIP : Hid (wr.iterPos w1.heap.size = pos) := by show _ = _; simp only [World.iterPos, hit.out]
        clear hfi hit hown hb
        generalize wr.iterAt w1.heap.size s (pos + wd) = wx at hnx HFI HIT2 HOWN HBI szi
        go_wp2_with (at_builtin; refine wpList_append_lies _ rfl (.tmp 15) (.tmp 18) 22 rfl (w1.heap.size + 1) 3 j0 _ 1 8 Tryd.underlying22 hj hy0 hy1 hy2 rfl (by decide) _ acc.length _ (by rfl) (HOWN.out.alloc _) ⟨wx.heap.size, 0, none⟩ 1 1 [.int .i64 (r : Int)] (by rfl) rfl (World.news_of_block (cs := #[.int .i64 (r : Int)]) (heap_new_at _ _ (by simp))) (by simp [Value.oneCell']) (by omega) (by unfold maxLen; omega) (by omega) (by simp; omega) (wx.heap.size + 1) (by simp) ?_)
        intro g cap w3 hown3 hg hat hlt3
        have hf : Frame (fun x => u4.ownBlock = some x) wx w3 := (Frame.alloc _ wx _).trans (Frame.grown hg fun _ e => e) (fun _ _ hh => hh)
        have hbel : Below w1.heap.size wx w3 := hf.below (fun x hx => by have := (HOWN.out.lt x hx).1; omega) (by omega)
        have HIT3 := Lib.hid (hf.heap HIT2.out (fun hh => by have := (HOWN.out.lt _ hh).1; omega))
        have sz3 := hf.size
        have HF := Lib.hid hbel
        have HO3 : Hid (w3.ownsRow (w1.heap.size + 1) 3 1 (.slice (some ⟨g, 0, none⟩) (acc.length + 1) cap) (acc ++ [(r : Int)]).length ((acc ++ [(r : Int)]).map (Value.int .i64))) := by rw [List.length_append, List.map_append]; exact hown3
        have HAP : Hid ((acc ++ [(r : Int)]) ++ Pl.sg (s.data.toList.drop (pos + wd)) = Pl.sg s.data.toList) := by
          show _ = _
          rw [← hap.out, hst.out]; simp
        have HIP3 : Hid (w3.iterPos w1.heap.size = pos + wd) := by show _ = _; simp only [World.iterPos, HIT3.out]
        clear hf hbel hown3 hg hat
        go_wp2_with (fail)
        go_roundw
        case rel => exact ⟨pos + wd, _, hwl, by rw [List.length_append]; simp; omega, HIT3.out, HO3.out, HAP.out, HBI.out.trans HF.out, by omega⟩
        case measure => rw [HIP3.out, HIP.out]; omega
      · have hnx : ∀ ty, (Instr.next (.pointer (some ⟨w1.heap.size, 0, none⟩)) true ty).run Tryd.prog wr = _ := fun ty => Lib.run_next_end_at wr w1.heap.size s pos ty hit.out hp
        have hx : acc = Pl.sg s.data.toList := by
          have := hap.out
          rw [List.drop_eq_nil_of_le (by rw [hsl.out]; omega), Pl.sg_nil, List.append_nil] at this
          exact this
        have HOI : Hid (OwnI w.heap.size wr.heap.size wr u4 (Pl.signsV s.data.toList)) := by
          rw [HP.out, ← hx]
          exact .of (World.ownsRow.base hown.out fun g hg => by have := (hown.out.lt g hg).1; omega)
        have HBB := Lib.hid (HB1.out.trans (hb.out.mono sz1))
        clear hap hx hown hit
        go_wp2_with (fail)
        go_ret2
        exact ⟨_, by rw [HV.out]; rfl, HOI.out, HBB.out⟩
  · have hv' : Lib.validD s.data.toList = false := by simpa using hv
    have HP : Hid (Pl.signsV s.data.toList = []) := by show _ = _; rw [Pl.signsV, if_neg hv]
    have HV := Lib.hid hv'
    clear hv hv'
    go_enter Tryd.func5, Tryd.ntmps5
    go_wp2_with (fail)
    refine CV.out.mono ?_
    rintro e w1 ⟨rfl, b1⟩
    rw [HV.out]
    go_wp2_with (fail)
    go_ret2
    exact ⟨_, by rw [HV.out]; rfl, by rw [HP.out]; exact ⟨World.ownsRow_nil _ _ _ _, fun g hg => by simp [Value.ownBlock] at hg⟩, b1⟩
end Go.Proofs.YtofbcccpailbhaaDoor
