/- Contracts of Cut and Lines: a text cut at one byte. Condition: the text has at most 1048576 bytes; the library's variable MaxLen holds some number. -/
import Derived.Test.YtookcfpiegbafaaGreatDoorGA
import Derived.Test.YtookcfpiegbafaaGreatDoorGB
import Derived.Test.YtookcfpiegbafaaGreatDoorSh3
import Derived.Test.YtookcfpiegbafaaGreatDoorShaped
import Derived.Test.YtookcfpiegbafaaGreatDoorTextNum
import Derived.Deep.AppendLies
import Derived.OwnWalk
namespace Go.Proofs.YtookcfpiegbafaaGreatDoor
open Go.RowKit
set_option maxRecDepth 100000

theorem splitB_strs (c : UInt8) (s : ByteArray) : ((Lib.splitB ⟨#[c]⟩ 0 (Lib.countB s ⟨#[c]⟩) s).map Value.string) = (Pl.spl c s.data.toList).map strV := by
  have h := Lib.splitB_data ⟨#[c]⟩ 0 (Lib.countB s ⟨#[c]⟩) s
  rw [show Lib.countB s ⟨#[c]⟩ = Lib.count s.data.toList [c] from rfl, show (⟨#[c]⟩ : ByteArray).data.toList = [c] from rfl, Pl.splitK_one] at h
  rw [← h, List.map_map]
  rfl
theorem countB_spl (c : UInt8) (s : ByteArray) : Lib.countB s ⟨#[c]⟩ + 1 = (Pl.spl c s.data.toList).length := by
  have h := congrArg List.length (splitB_strs c s)
  rw [List.length_map, List.length_map, Lib.splitB_all ⟨#[c]⟩ (Nat.le_refl 1) 0 _ s rfl] at h
  exact h
theorem spl_small (c : UInt8) {s : ByteArray} (h : s.size ≤ 1048576) : (Pl.spl c s.data.toList).length ≤ 1048577 := by
  have := Pl.spl_length c s.data.toList
  have e : s.data.toList.length = s.size := rfl
  omega

theorem split_lib (c : UInt8) (s : ByteArray) (w : World) (hs : s.size ≤ 1048576) (hM : MaxLenAt w) :
    Calls Tryz.prog 60 #[.string s, .string ⟨#[c]⟩] w fun e w' => ∃ u, e = .returned u ∧ OwnS w.heap.size w'.heap.size w' u (Pl.spl c s.data.toList) ∧ Below w.heap.size w w' := by
  obtain ⟨m, hm⟩ := hM
  have hl := spl_small c hs
  refine (Tryz.strings_Split s ⟨#[c]⟩ m w (by omega) hm (Nat.le_refl 1)).mono ?_
  rintro e w' ⟨rfl, rfl⟩
  refine ⟨_, rfl, ?_, (Below.refl _ _).alloc (Nat.le_refl _) _⟩
  rw [countB_spl]
  exact .of (OwnStrs.alloc w _ (by unfold maxLen; omega) _ (by rw [splitB_strs]))
theorem cut_i (s : ByteArray) (w : World) (hs : s.size ≤ 1048576) (hM : MaxLenAt w) :
    Calls Tryz.prog 29 #[.string s] w fun e w' => ∃ u, e = .returned u ∧ OwnS w.heap.size w'.heap.size w' u (Pl.spl 32 s.data.toList) ∧ Below w.heap.size w w' := by
  go_enter Tryz.func29, Tryz.ntmps29
  go_wp2_with (fail)
  refine (split_lib 32 s _ hs hM).mono ?_
  rintro e w' ⟨u, rfl, o, b⟩
  go_wp2_with (fail)
  go_ret
  exact ⟨_, rfl, o, b⟩
namespace Pl
def lines (l : List UInt8) : List (List UInt8) := if (spl 10 l).getD ((spl 10 l).length - 1) [] = [] then (spl 10 l).take ((spl 10 l).length - 1) else spl 10 l
end Pl
theorem strInfoB : (Tryz.prog.info? 9).map (fun i => (i.zero, i.size, i.bytes)) = some (some (.string ByteArray.empty), 1, 16) := by kernel_rfl
theorem mk_extract (s : ByteArray) (a b : Nat) : s.extract a b = ⟨((s.data.toList.drop a).take (b - a)).toArray⟩ := by
  have := Lib.extract_data s a b
  rw [← this]
theorem byte_eq {b c : UInt8} : (((b.toNat : Nat) : Int) == ((c.toNat : Nat) : Int)) = decide (b = c) := by
  by_cases h : b = c
  · simp [h]
  · have : b.toNat ≠ c.toNat := fun e => h (UInt8.toNat_inj.1 e)
    rw [decide_eq_false h]
    exact beq_eq_false_iff_ne.2 (by omega)
/-- The state of the loop that cuts, before byte k. -/
def SplSt (c : UInt8) (l : List UInt8) (f k : Nat) (acc : List (List UInt8)) : Prop :=
  (k ≤ l.length ∧ f ≤ k ∧ acc ++ Pl.splA c ((l.drop f).take (k - f)) (l.drop k) = Pl.spl c l) ∨ (k = l.length + 1 ∧ acc = Pl.spl c l)
theorem SplSt.hit {c : UInt8} {l : List UInt8} {f k : Nat} {acc : List (List UInt8)} (h : SplSt c l f k acc) (hk : k < l.length) (he : l[k] = c) : SplSt c l (k + 1) (k + 1) (acc ++ [(l.drop f).take (k - f)]) := by
  rcases h with ⟨h1, h2, h3⟩ | ⟨h1, _⟩
  · refine .inl ⟨by omega, Nat.le_refl _, ?_⟩
    rw [Pl.splA_at hk he] at h3
    rw [← h3, Nat.sub_self, List.take_zero]
    simp
  · omega
theorem SplSt.on {c : UInt8} {l : List UInt8} {f k : Nat} {acc : List (List UInt8)} (h : SplSt c l f k acc) (hk : k < l.length) (he : l[k] ≠ c) : SplSt c l f (k + 1) acc := by
  rcases h with ⟨h1, h2, h3⟩ | ⟨h1, _⟩
  · refine .inl ⟨by omega, by omega, ?_⟩
    rw [Pl.splA_on hk h2 he] at h3
    exact h3
  · omega
theorem SplSt.fin {c : UInt8} {l : List UInt8} {f : Nat} {acc : List (List UInt8)} (h : SplSt c l f l.length acc) : SplSt c l (l.length + 1) (l.length + 1) (acc ++ [(l.drop f).take (l.length - f)]) := by
  rcases h with ⟨h1, h2, h3⟩ | ⟨h1, _⟩
  · rw [Pl.splA_end] at h3
    exact .inr ⟨rfl, by rw [List.take_of_length_le (by simp)]; exact h3⟩
  · omega
set_option maxHeartbeats 2000000 in
theorem l01Split_s (s : ByteArray) (c : UInt8) (w : World) (hs : s.size ≤ 1048576) :
    Calls Tryz.prog 53 #[.string s, .int .u8 c.toNat] w fun e w' => ∃ u, e = .returned u ∧ OwnS w.heap.size w'.heap.size w' u (Pl.spl c s.data.toList) ∧ Below w.heap.size w w' := by
  obtain ⟨j0, hj, hy0, hy1, hy2⟩ := info_parts strInfoB
  have hb0 : Below w.heap.size w (w.alloc (.cells #[] 9)) := (Below.refl _ _).alloc (Nat.le_refl _) _
  have HB0 := Lib.hid hb0
  have hmade := Lib.hid (World.ownsRow_made (base := w.heap.size) (e := 9) (size := 1) w #[] 0 (Nat.le_refl _) (Nat.zero_le _) rfl)
  have HL := Lib.hid (show s.data.toList.length = s.size from rfl)
  clear hb0
  go_enter Tryz.func53, Tryz.ntmps53
  go_wp2_with (fail)
  go_loopw [5, 6, 7] (fun u f i wr => ∃ (fr k : Nat) (acc : List (List UInt8)), k ≤ s.size + 1 ∧ fr ≤ k ∧ i = .int .i64 k ∧ f = .int .i64 fr ∧ wr.ownsRow w.heap.size 9 1 u acc.length (acc.map strV) ∧ acc.length ≤ k ∧ Hid (SplSt c s.data.toList fr k acc) ∧ Hid (Below w.heap.size w wr) ∧ w.heap.size ≤ wr.heap.size) (fun _ _ i _ => s.size + 1 - (intOf i).toNat)
  case atStart => exact ⟨0, 0, [], by omega, Nat.le_refl _, rfl, rfl, hmade.out, Nat.le_refl _, .inl ⟨Nat.zero_le _, Nat.le_refl _, by simp [Pl.spl]⟩, HB0.out, HB0.out.size⟩
  case round =>
    obtain ⟨fr, k, acc, hk, hf, rfl, rfl, hown, hal, hst, hb, hsz⟩ := hrel
    by_cases hlt : k < s.size
    · have hl : k < s.data.toList.length := by simpa using hlt
      have k1 : ((k : Int) == (s.size : Int)) = false := beq_eq_false_iff_ne.2 (by omega)
      have heq := @byte_eq (s[k]'hlt) c
      by_cases he : s[k]'hlt = c
      · rw [decide_eq_true he] at heq
        have HS := Lib.hid (hst.out.hit hl he)
        have ME := Lib.hid (mk_extract s fr k)
        have HOWN := Lib.hid hown
        clear hst he hl hown
        go_wp2_with (at_builtin; refine wpList_append_lies _ rfl (.tmp 26) (.tmp 31) 42 rfl w.heap.size 9 j0 _ 1 16 Tryz.underlying42 hj hy0 hy1 hy2 rfl (by decide) _ acc.length _ (by rfl) (HOWN.out.alloc _) ⟨wr.heap.size, 0, none⟩ 1 1 [.string (s.extract fr k)] (by rfl) rfl (World.news_of_block (cs := #[.string (s.extract fr k)]) (heap_new_at _ _ (by simp))) (by simp [Value.oneCell']) (by omega) (by unfold maxLen; omega) (by omega) (by simp; omega) (wr.heap.size + 1) (by simp) ?_)
        intro g cap w3 hown3 hg hat hlt3
        have hf : Frame (fun x => u5.ownBlock = some x) wr w3 := (Frame.alloc _ wr _).trans (Frame.grown hg fun _ e => e) (fun _ _ hh => hh)
        have hbel : Below w.heap.size wr w3 := hf.below (fun x hx => (HOWN.out.lt x hx).1) (by omega)
        have sz3 := hf.size
        rw [ME.out] at hown3
        have HF := Lib.hid hbel
        have HO3 : Hid (w3.ownsRow w.heap.size 9 1 (.slice (some ⟨g, 0, none⟩) (acc.length + 1) cap) (acc ++ [List.take (k - fr) (List.drop fr s.data.toList)]).length ((acc ++ [List.take (k - fr) (List.drop fr s.data.toList)]).map strV)) := by
          rw [List.length_append, List.map_append]; exact hown3
        clear hf hbel hown3 hg hat
        go_wp2_with (fail)
        go_roundw
        case rel => exact ⟨k + 1, k + 1, _, by omega, Nat.le_refl _, by go_num, by go_num, HO3.out, by rw [List.length_append]; simp; omega, HS.out, hb.out.trans HF.out, by omega⟩
        case measure => simp [intOf]; omega
      · rw [decide_eq_false he] at heq
        have HS := Lib.hid (hst.out.on hl he)
        clear hst he hl
        go_wp2_with (fail)
        go_roundw
        case rel => exact ⟨fr, k + 1, acc, by omega, by omega, by go_num, rfl, hown, by omega, HS.out, hb.out, hsz⟩
        case measure => simp [intOf]; omega
    · by_cases hke : k = s.size
      · have k1 : ((k : Int) == (s.size : Int)) = true := by rw [hke]; exact beq_iff_eq.2 rfl
        have hst' : SplSt c s.data.toList fr s.data.toList.length acc := by have := hst.out; rw [hke] at this; exact this
        have HS := Lib.hid hst'.fin
        have ME := Lib.hid (mk_extract s fr k)
        have HKE := Lib.hid hke
        have HOWN := Lib.hid hown
        have kle : k ≤ s.size := by omega
        clear hst hst' hown hke
        go_wp2_with (at_builtin; refine wpList_append_lies _ rfl (.tmp 26) (.tmp 31) 42 rfl w.heap.size 9 j0 _ 1 16 Tryz.underlying42 hj hy0 hy1 hy2 rfl (by decide) _ acc.length _ (by rfl) (HOWN.out.alloc _) ⟨wr.heap.size, 0, none⟩ 1 1 [.string (s.extract fr k)] (by rfl) rfl (World.news_of_block (cs := #[.string (s.extract fr k)]) (heap_new_at _ _ (by simp))) (by simp [Value.oneCell']) (by omega) (by unfold maxLen; omega) (by omega) (by simp; omega) (wr.heap.size + 1) (by simp) ?_)
        intro g cap w3 hown3 hg hat hlt3
        have hf : Frame (fun x => u5.ownBlock = some x) wr w3 := (Frame.alloc _ wr _).trans (Frame.grown hg fun _ e => e) (fun _ _ hh => hh)
        have hbel : Below w.heap.size wr w3 := hf.below (fun x hx => (HOWN.out.lt x hx).1) (by omega)
        have sz3 := hf.size
        have hks : k = s.data.toList.length := HKE.out
        rw [ME.out, hks] at hown3
        have HF := Lib.hid hbel
        have HO3 : Hid (w3.ownsRow w.heap.size 9 1 (.slice (some ⟨g, 0, none⟩) (acc.length + 1) cap) (acc ++ [List.take (s.data.toList.length - fr) (List.drop fr s.data.toList)]).length ((acc ++ [List.take (s.data.toList.length - fr) (List.drop fr s.data.toList)]).map strV)) := by
          rw [List.length_append, List.map_append]; exact hown3
        have HS' : Hid (SplSt c s.data.toList (k + 1) (k + 1) (acc ++ [List.take (s.data.toList.length - fr) (List.drop fr s.data.toList)])) := by show SplSt _ _ _ _ _; rw [hks]; exact HS.out
        clear hf hbel hown3 hg hat hks
        go_wp2_with (fail)
        go_roundw
        case rel => exact ⟨k + 1, k + 1, _, by omega, Nat.le_refl _, by go_num, by go_num, HO3.out, by rw [List.length_append]; simp; omega, HS'.out, hb.out.trans HF.out, by omega⟩
        case measure => simp [intOf]; omega
      · have hx : acc = Pl.spl c s.data.toList := by
          rcases hst.out with ⟨h1, _⟩ | ⟨_, h2⟩
          · have := HL.out; omega
          · exact h2
        have kn : ¬ ((k : Int) ≤ (s.size : Int)) := by omega
        subst hx
        have HOWN := Lib.hid hown
        clear hown hst
        go_wp2_with (fail)
        go_ret
        exact ⟨_, rfl, .of HOWN.out, hb.out⟩
theorem cut_s (s : ByteArray) (w : World) (hs : s.size ≤ 1048576) :
    Calls Tryz.prog 24 #[.string s] w fun e w' => ∃ u, e = .returned u ∧ OwnS w.heap.size w'.heap.size w' u (Pl.spl 32 s.data.toList) ∧ Below w.heap.size w w' := by
  go_enter Tryz.func24, Tryz.ntmps24
  go_wp2_with (fail)
  refine (l01Split_s s 32 _ hs).mono ?_
  rintro e w' ⟨u, rfl, o, b⟩
  go_wp2_with (fail)
  go_ret
  exact ⟨_, rfl, o, b⟩
theorem lines_small {s : ByteArray} (h : s.size ≤ 1048576) : (Pl.lines s.data.toList).length ≤ 1048577 := by
  have := spl_small 10 h
  unfold Pl.lines
  split
  · rw [List.length_take]; omega
  · exact this
theorem str_nil (l : List UInt8) : (⟨l.toArray⟩ : ByteArray).toList.isEmpty = decide (l = []) := by
  rw [ByteArray.toList_eq]
  cases l <;> simp
end Go.Proofs.YtookcfpiegbafaaGreatDoor
