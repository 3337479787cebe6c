/- Contracts of TextSign: the characters that a text of numbers separated by points spells. Condition: the text has at most 1048576 bytes; the library's tables and errors read as their initialisers lay them, and its variable MaxLen holds some number. -/
import Derived.Test.YtookcfpiegbafaaDoorDotted
import Derived.Test.YtookcfpiegbafaaDoorRead
import Derived.Test.YtookcfpiegbafaaDoorCut
import Derived.Test.YtookcfpiegbafaaDoorTextNum
namespace Go.Proofs.YtookcfpiegbafaaDoor
open Go.RowKit
set_option maxRecDepth 100000

namespace Pl
theorem splA_mem (c : UInt8) (pre l : List UInt8) : ∀ x ∈ splA c pre l, x.length ≤ pre.length + l.length := by
  induction l generalizing pre with
  | nil => intro x hx; simp [splA] at hx; subst hx; simp
  | cons b l ih =>
    intro x hx
    rw [splA] at hx
    split at hx
    · rcases List.mem_cons.1 hx with h | h
      · subst h; simp
      · have := ih [] x h; simp at this ⊢; omega
    · have := ih _ x hx; simp at this ⊢; omega
theorem spl_mem (c : UInt8) (l : List UInt8) : ∀ x ∈ spl c l, x.length ≤ l.length := fun x hx => by
  have := splA_mem c [] l x hx
  simpa using this
theorem tnOk_numText {l : List UInt8} (h : tnOk l = true) : numText (tn l) = l := by
  have h' := h
  rw [tnOk, Bool.and_eq_true] at h'
  have h1 := of_decide_eq_true h'.1
  have h2 := of_decide_eq_true h'.2
  rw [tn, if_pos h, numText, if_pos ⟨by omega, by omega⟩]
  simpa using h2
/-- The numbers of a text of numbers separated by points. -/
def rdOk (l : List UInt8) : Bool := (spl 46 l).all tnOk
def rd (l : List UInt8) : List Int := if rdOk l = true then (spl 46 l).map tn else []
def textSignOk (l : List UInt8) : Bool := decide (l = [45]) || (rdOk l && signsOk (rd l))
def textSign (l : List UInt8) : List Int := if l = [45] then [] else if textSignOk l = true then rd l else []
theorem dotted_rd {l : List UInt8} (h : rdOk l = true) : dotted (rd l) = l := by
  rw [dotted, rd, if_pos h, List.map_map]
  have : (spl 46 l).map (numText ∘ tn) = spl 46 l := by
    have h2 : ∀ x ∈ spl 46 l, (numText ∘ tn) x = x := fun x hx => tnOk_numText (List.all_eq_true.1 h x hx)
    rw [List.map_congr_left h2, List.map_id']
  rw [this, join_spl]
theorem rd_ne {l : List UInt8} (h : rdOk l = true) : rd l ≠ [] := by
  rw [rd, if_pos h]
  intro e
  exact spl_ne 46 l (List.map_eq_nil_iff.1 e)
theorem rd_length (l : List UInt8) : (rd l).length ≤ l.length + 1 := by
  rw [rd]
  split
  · rw [List.length_map]; exact spl_length 46 l
  · simp
theorem textSign_length (l : List UInt8) : (textSign l).length ≤ l.length + 1 := by
  rw [textSign]
  split
  · simp
  · split
    · exact rd_length l
    · simp
theorem ts_bad1 {l : List UInt8} (hz : l ≠ [45]) (h : (spl 46 l).all tnOk = false) : textSignOk l = false ∧ textSign l = [] := by
  have h1 : textSignOk l = false := by rw [textSignOk, decide_eq_false hz, rdOk, h]; rfl
  exact ⟨h1, by rw [textSign, if_neg hz, if_neg (by rw [h1]; decide)]⟩
theorem ts_bad2 {l : List UInt8} (hz : l ≠ [45]) {x : List UInt8} (hx : x ∈ spl 46 l) (h : signOk (tn x) = false) : textSignOk l = false ∧ textSign l = [] := by
  have h1 : textSignOk l = false := by
    rw [textSignOk, decide_eq_false hz, Bool.false_or, Bool.eq_false_iff]
    intro hh
    rw [Bool.and_eq_true] at hh
    have h2 := hh.2
    rw [rd, if_pos hh.1, signsOk] at h2
    have := List.all_eq_true.1 h2 (tn x) (List.mem_map.2 ⟨x, hx, rfl⟩)
    rw [h] at this
    cases this
  exact ⟨h1, by rw [textSign, if_neg hz, if_neg (by rw [h1]; decide)]⟩
theorem ts_good {l : List UInt8} (hz : l ≠ [45]) (h : (spl 46 l).all tnOk = true) (hs : signsOk ((spl 46 l).map tn) = true) :
    textSignOk l = true ∧ textSign l = (spl 46 l).map tn ∧ signText ((spl 46 l).map tn) = l := by
  have hr : rdOk l = true := h
  have hrd : rd l = (spl 46 l).map tn := by rw [rd, if_pos hr]
  have h1 : textSignOk l = true := by rw [textSignOk, hr, hrd, hs]; simp
  refine ⟨h1, by rw [textSign, if_neg hz, if_pos h1, hrd], ?_⟩
  have hn := rd_ne hr
  have hd := dotted_rd hr
  rw [hrd] at hn hd
  rw [signText, if_pos hs, if_neg hn, hd]
/-- k pieces in. -/
theorem take_all_step {xs : List (List UInt8)} {k : Nat} (h : k < xs.length) (p : List UInt8 → Bool) : (xs.take (k + 1)).all p = ((xs.take k).all p && p (xs.getD k [])) := by
  rw [List.take_succ_eq_append_getElem h, List.all_append]
  simp [List.getD, h]
theorem take_tn_step {xs : List (List UInt8)} {k : Nat} (h : k < xs.length) : (xs.take (k + 1)).map tn = (xs.take k).map tn ++ [tn (xs.getD k [])] := by
  rw [List.take_succ_eq_append_getElem h, List.map_append]
  simp [List.getD, h]
theorem all_bad {xs : List (List UInt8)} {k : Nat} (h : k < xs.length) {p : List UInt8 → Bool} (hp : p (xs.getD k []) = false) : xs.all p = false := by
  rw [Bool.eq_false_iff]
  intro ha
  have := List.all_eq_true.1 ha (xs.getD k []) (by simp [List.getD, h])
  rw [hp] at this
  cases this
end Pl
theorem textSign_small {s : ByteArray} (h : s.size ≤ 1048576) : (Pl.textSign s.data.toList).length ≤ 1048577 := by
  have := Pl.textSign_length s.data.toList
  have e : s.data.toList.length = s.size := rfl
  omega
theorem intInfoD : (Tryd.prog.info? 3).map (fun i => (i.zero, i.size, i.bytes)) = some (some (.int .i64 0), 1, 8) := by kernel_rfl
theorem textNum_il (l : List UInt8) (w : World) (hl : l.length ≤ 1048576) (hT : Tab10 w) (hE : Errs w) :
    Calls Tryd.prog 14 #[.string ⟨l.toArray⟩] w fun e w' => e = .returned (.tuple #[.int .i64 (Pl.tn l), .bool (Pl.tnOk l)]) ∧ Below w.heap.size w w' :=
  textNum_i ⟨l.toArray⟩ w (by show l.toArray.size ≤ _; simpa using hl) hT hE
theorem textNum_sl (l : List UInt8) (w : World) (hl : l.length ≤ 1048576) :
    Calls Tryd.prog 13 #[.string ⟨l.toArray⟩] w fun e w' => e = .returned (.tuple #[.int .i64 (Pl.tn l), .bool (Pl.tnOk l)]) ∧ Below w.heap.size w w' :=
  textNum_s ⟨l.toArray⟩ w (by show l.toArray.size ≤ _; simpa using hl)
theorem OwnInts.lower {lo lo' : Nat} {w : World} {v : Value} {xs : List Int} (h : OwnInts lo w v xs) (hl : lo' ≤ lo) : OwnInts lo' w v xs :=
  World.ownsRow.base h fun g hg => Nat.le_trans hl (h.lt g hg).1
set_option maxHeartbeats 2000000 in
theorem readDotted_i (s : ByteArray) (w : World) (hs : s.size ≤ 1048576) (hT : Tab10 w) (hE : Errs w) (hM : MaxLenAt w) :
    Calls Tryd.prog 61 #[.string s] w fun e w' => ∃ u, e = .returned (.tuple #[u, .bool (Pl.rdOk s.data.toList)]) ∧ OwnI w.heap.size w'.heap.size w' u (Pl.rd s.data.toList) ∧ Below w.heap.size w w' := by
  obtain ⟨j0, hj, hy0, hy1, hy2⟩ := info_parts intInfoD
  have HT := Lib.hid hT
  have HE := Lib.hid hE
  have hsm := spl_small 46 hs
  have hmm : Hid (∀ x ∈ Pl.spl 46 s.data.toList, x.length ≤ 1048576) := fun x hx => Nat.le_trans (Pl.spl_mem 46 _ x hx) hs
  have HR0 : Hid (Pl.rdOk s.data.toList = (Pl.spl 46 s.data.toList).all Pl.tnOk) := rfl
  have HR1 : Hid (Pl.rd s.data.toList = if (Pl.spl 46 s.data.toList).all Pl.tnOk = true then (Pl.spl 46 s.data.toList).map Pl.tn else []) := rfl
  have CS := Lib.hid (split_lib 46 s w hs hM)
  clear hT hE
  go_enter Tryd.func61, Tryd.ntmps61
  go_wp2_with (fail)
  refine CS.out.mono ?_
  rintro e w1 ⟨u, rfl, o, b1⟩
  generalize Pl.spl 46 s.data.toList = xs at hsm hmm HR0 HR1 o
  obtain ⟨A, c, rfl, hc, hat⟩ := o.slice
  have HAT := Lib.hid hat
  have HB1 := Lib.hid b1
  have sz1 := b1.size
  clear o hat CS b1 hc
  go_wp2_with (fail)
  go_loopw [4, 12] (fun u i wr => ∃ (k : Nat) (acc : List Int), k ≤ xs.length ∧ i = .int .i64 k ∧ Hid (acc = (xs.take k).map Pl.tn) ∧ Hid ((xs.take k).all Pl.tnOk = true) ∧ Hid (wr.ownsRow w1.heap.size 3 1 u k (acc.map (Value.int .i64))) ∧ Hid (Below w1.heap.size w1 wr) ∧ w1.heap.size ≤ wr.heap.size) (fun _ i _ => xs.length - (intOf i).toNat)
  case atStart => exact ⟨0, [], Nat.zero_le _, rfl, rfl, rfl, World.ownsRow_nil _ _ _ _, Below.refl _ _, Nat.le_refl _⟩
  case round =>
    obtain ⟨k, acc, hk, rfl, hacc, hall, hown, hb, hsz⟩ := hrel
    by_cases hlt : k < xs.length
    · obtain ⟨b, off, rfl, hbB, hc⟩ := (HAT.out.below hb.out) k hlt
      have hxm : xs.getD k [] ∈ xs := by simp [List.getD, hlt]
      have hxl := hmm.out _ hxm
      have HS1 := Lib.hid (Pl.take_all_step hlt Pl.tnOk)
      have HS2 := Lib.hid (Pl.take_tn_step hlt)
      have HBW := Lib.hid (HB1.out.trans (hb.out.mono sz1))
      by_cases ho : Pl.tnOk (xs.getD k []) = true
      · generalize xs.getD k [] = x at hc hxl HS1 HS2 ho
        unfold strV at hc
        have HO := Lib.hid ho
        clear hxm
        go_wp2_with (fail)
        refine (textNum_il x _ hxl (HT.out.later HBW.out) (HE.out.later HBW.out)).mono ?_
        rintro e w2 ⟨rfl, b2⟩
        have HOWN := Lib.hid (World.ownsRow.below hown.out b2)
        have HB2 := Lib.hid (hb.out.trans (b2.mono hsz))
        have sz2 := b2.size
        rw [HO.out]
        clear b2 hown ho
        generalize Pl.tn x = n at HS2
        go_wp2_with (at_builtin; refine wpList_append_lies _ rfl (.tmp 23) (.tmp 25) 31 rfl w1.heap.size 3 j0 _ 1 8 Tryd.underlying31 hj hy0 hy1 hy2 rfl (by decide) _ k _ (by rfl) (HOWN.out.alloc _) ⟨w2.heap.size, 0, none⟩ 1 1 [.int .i64 n] (by rfl) rfl (World.news_of_block (cs := #[.int .i64 n]) (heap_new_at _ _ (by simp))) (by simp [Value.oneCell']) (by omega) (by unfold maxLen; omega) (by omega) (by simp; omega) (w2.heap.size + 1) (by simp) ?_)
        intro g cap w3 hown3 hg hat hlt3
        have hf : Frame (fun x => u4.ownBlock = some x) w2 w3 := (Frame.alloc _ w2 _).trans (Frame.grown hg fun _ e => e) (fun _ _ hh => hh)
        have hbel : Below w1.heap.size w2 w3 := hf.below (fun x hx => (HOWN.out.lt x hx).1) (by omega)
        have sz3 := hf.size
        have HF := Lib.hid hbel
        have HO3 : Hid (w3.ownsRow w1.heap.size 3 1 (.slice (some ⟨g, 0, none⟩) (k + 1) cap) (k + 1) ((acc ++ [n]).map (Value.int .i64))) := by rw [List.map_append]; exact hown3
        clear hf hbel hown3 hg hat
        go_wp2_with (fail)
        go_roundw
        case rel => exact ⟨k + 1, _, by omega, by go_num, (by show _ = _; rw [hacc.out]; exact HS2.out.symm), (by show _ = _; rw [HS1.out, hall.out, HO.out]; rfl), HO3.out, HB2.out.trans HF.out, by omega⟩
        case measure => simp [intOf]; omega
      · have HBAD : Hid (xs.all Pl.tnOk = false) := Pl.all_bad hlt (by simpa using ho)
        have ho' : Pl.tnOk (xs.getD k []) = false := by simpa using ho
        generalize xs.getD k [] = x at hc hxl ho'
        unfold strV at hc
        have HO := Lib.hid ho'
        clear hxm ho ho'
        go_wp2_with (fail)
        refine (textNum_il x _ hxl (HT.out.later HBW.out) (HE.out.later HBW.out)).mono ?_
        rintro e w2 ⟨rfl, b2⟩
        rw [HO.out]
        have HB2 := Lib.hid (HBW.out.trans (b2.mono HBW.out.size))
        clear b2
        go_wp2_with (fail)
        go_ret2
        exact ⟨_, by rw [HR0.out, HBAD.out]; rfl, by rw [HR1.out, HBAD.out]; exact ⟨World.ownsRow_nil _ _ _ _, fun g hg => by simp [Value.ownBlock] at hg⟩, HB2.out⟩
    · have e : k = xs.length := by omega
      have hall' : Hid (xs.all Pl.tnOk = true) := by show _ = _; have := hall.out; rw [e, List.take_of_length_le (Nat.le_refl _)] at this; exact this
      have hacc' : Hid (acc = xs.map Pl.tn) := by show _ = _; have := hacc.out; rw [e, List.take_of_length_le (Nat.le_refl _)] at this; exact this
      have HOI : Hid (OwnI w.heap.size wr.heap.size wr u4 (xs.map Pl.tn)) := by
        rw [← hacc'.out]
        have hlen : acc.length = k := by rw [hacc'.out, List.length_map, e]
        have h1 : OwnInts w1.heap.size wr u4 acc := by rw [OwnInts, hlen]; exact hown.out
        exact .of (h1.lower sz1)
      have HBW := Lib.hid (HB1.out.trans (hb.out.mono sz1))
      clear hacc hall hown e
      go_wp2_with (fail)
      go_ret2
      exact ⟨_, by rw [HR0.out, hall'.out]; rfl, by rw [HR1.out, if_pos hall'.out]; exact HOI.out, HBW.out⟩
theorem dash (s : ByteArray) : (s.toList == [45]) = decide (s.data.toList = [45]) := by
  rw [ByteArray.toList_eq]
  by_cases h : s.data.toList = [45]
  · rw [h]; simp
  · rw [decide_eq_false h]; exact beq_eq_false_iff_ne.2 h
theorem OwnI.nil (lo hi : Nat) (w : World) : OwnI lo hi w (.slice none 0 0) [] := ⟨World.ownsRow_nil _ _ _ _, fun g hg => by simp [Value.ownBlock] at hg⟩
set_option maxHeartbeats 2000000 in
theorem textSign_i (s : ByteArray) (w : World) (hs : s.size ≤ 1048576) (hT : Tab10 w) (hE : Errs w) (hM : MaxLenAt w) :
    Calls Tryd.prog 32 #[.string s] w fun e w' => ∃ u, e = .returned (.tuple #[u, .bool (Pl.textSignOk s.data.toList)]) ∧ OwnI w.heap.size w'.heap.size w' u (Pl.textSign s.data.toList) ∧ Below w.heap.size w w' := by
  have hd := dash s
  have CR := Lib.hid (readDotted_i s w hs hT hE hM)
  have hrl := Pl.rd_length s.data.toList
  have hsl : s.data.toList.length = s.size := rfl
  have hlm : (Pl.rd s.data.toList).length ≤ maxLen := by unfold maxLen; omega
  by_cases hz : s.data.toList = [45]
  · rw [decide_eq_true hz] at hd
    have H1 : Hid (Pl.textSignOk s.data.toList = true) := by show _ = _; rw [Pl.textSignOk, decide_eq_true hz]; rfl
    have H2 : Hid (Pl.textSign s.data.toList = []) := by show _ = _; rw [Pl.textSign, if_pos hz]
    clear hz hsl
    go_enter Tryd.func32, Tryd.ntmps32
    go_wp2_with (fail)
    go_ret2
    exact ⟨_, by rw [H1.out]; rfl, by rw [H2.out]; exact OwnI.nil _ _ _, Below.refl _ _⟩
  · rw [decide_eq_false hz] at hd
    by_cases hr : Pl.rdOk s.data.toList = true
    · have HR := Lib.hid hr
      by_cases hk : Pl.signsOk (Pl.rd s.data.toList) = true
      · have H1 : Hid (Pl.textSignOk s.data.toList = true) := by show _ = _; rw [Pl.textSignOk, hr, hk]; simp
        have H2 : Hid (Pl.textSign s.data.toList = Pl.rd s.data.toList) := by show _ = _; rw [Pl.textSign, if_neg hz, if_pos H1.out]
        have HK := Lib.hid hk
        clear hz hr hk hsl hrl
        go_enter Tryd.func32, Tryd.ntmps32
        go_wp2_with (fail)
        refine CR.out.mono ?_
        rintro e w1 ⟨u, rfl, o, b1⟩
        rw [HR.out]
        have HO := Lib.hid o
        have HB := Lib.hid b1
        clear o b1
        go_wp2_with (fail)
        refine (signsOk_i _ _ _ _ HO.out.slice hlm).mono ?_
        rintro e w2 ⟨rfl, rfl⟩
        rw [HK.out]
        go_wp2_with (fail)
        go_ret2
        exact ⟨_, by rw [H1.out]; rfl, by rw [H2.out]; exact HO.out, HB.out⟩
      · have hk' : Pl.signsOk (Pl.rd s.data.toList) = false := by simpa using hk
        have H1 : Hid (Pl.textSignOk s.data.toList = false) := by show _ = _; rw [Pl.textSignOk, hr, hk', decide_eq_false hz]; rfl
        have H2 : Hid (Pl.textSign s.data.toList = []) := by show _ = _; rw [Pl.textSign, if_neg hz, if_neg (by rw [H1.out]; decide)]
        have HK := Lib.hid hk'
        clear hz hr hk hk' hsl hrl
        go_enter Tryd.func32, Tryd.ntmps32
        go_wp2_with (fail)
        refine CR.out.mono ?_
        rintro e w1 ⟨u, rfl, o, b1⟩
        rw [HR.out]
        have HO := Lib.hid o
        have HB := Lib.hid b1
        clear o b1
        go_wp2_with (fail)
        refine (signsOk_i _ _ _ _ HO.out.slice hlm).mono ?_
        rintro e w2 ⟨rfl, rfl⟩
        rw [HK.out]
        go_wp2_with (fail)
        go_ret2
        exact ⟨_, by rw [H1.out]; rfl, by rw [H2.out]; exact OwnI.nil _ _ _, HB.out⟩
    · have hr' : Pl.rdOk s.data.toList = false := by simpa using hr
      have H1 : Hid (Pl.textSignOk s.data.toList = false) := by show _ = _; rw [Pl.textSignOk, hr', decide_eq_false hz]; rfl
      have H2 : Hid (Pl.textSign s.data.toList = []) := by show _ = _; rw [Pl.textSign, if_neg hz, if_neg (by rw [H1.out]; decide)]
      have HR := Lib.hid hr'
      clear hz hr hr' hsl hrl
      go_enter Tryd.func32, Tryd.ntmps32
      go_wp2_with (fail)
      refine CR.out.mono ?_
      rintro e w1 ⟨u, rfl, o, b1⟩
      rw [HR.out]
      have HB := Lib.hid b1
      clear o b1
      go_wp2_with (fail)
      go_ret2
      exact ⟨_, by rw [H1.out]; rfl, by rw [H2.out]; exact OwnI.nil _ _ _, HB.out⟩
theorem OwnS.at {lo hi : Nat} {w : World} {v : Value} {xs : List (List UInt8)} (h : OwnS lo hi w v xs) (hp : 0 < xs.length) :
    ∃ g c, v = .slice (some ⟨g, 0, none⟩) xs.length c ∧ lo ≤ g ∧ g < hi ∧ g < w.heap.size ∧ ∀ j, j < xs.length → w.cell? ⟨g, j, none⟩ = some (strV (xs.getD j [])) := by
  have hlt := h.1.lt
  have htop := h.2
  have hcell := @World.ownsRow.cells w lo 9 1 v xs.length (xs.map strV) h.1
  rcases h.1.2 with ⟨rfl, hn⟩ | ⟨g, cap, cur, rfl, hb, hg, hc, hm, hs, ht⟩
  · omega
  · refine ⟨g, cap, rfl, hb, htop g rfl, (hlt g rfl).2, fun j hj => ?_⟩
    have := hcell (g := g) rfl j (strV (xs.getD j [])) (by simp [List.getD, hj])
    rw [Addr.add_lit] at this
    simpa using this
set_option maxHeartbeats 2000000 in
theorem textSign_s (s : ByteArray) (w : World) (hs : s.size ≤ 1048576) :
    Calls Tryd.prog 31 #[.string s] w fun e w' => ∃ u, e = .returned (.tuple #[u, .bool (Pl.textSignOk s.data.toList)]) ∧ OwnI w.heap.size w'.heap.size w' u (Pl.textSign s.data.toList) ∧ Below w.heap.size w w' := by
  obtain ⟨j0, hj, hy0, hy1, hy2⟩ := info_parts intInfoD
  have hd := dash s
  have hb0 : Below w.heap.size w (w.alloc (.cells #[] 3)) := (Below.refl _ _).alloc (Nat.le_refl _) _
  have HB0 := Lib.hid hb0
  have hmade := Lib.hid (World.ownsRow_made (base := w.heap.size) (e := 3) (size := 1) w #[] 0 (Nat.le_refl _) (Nat.zero_le _) rfl)
  clear hb0
  by_cases hz : s.data.toList = [45]
  · rw [decide_eq_true hz] at hd
    have H1 : Hid (Pl.textSignOk s.data.toList = true) := by show _ = _; rw [Pl.textSignOk, decide_eq_true hz]; rfl
    have H2 : Hid (Pl.textSign s.data.toList = []) := by show _ = _; rw [Pl.textSign, if_pos hz]
    clear hz
    go_enter Tryd.func31, Tryd.ntmps31
    go_wp2_with (fail)
    go_ret2
    exact ⟨_, by rw [H1.out]; rfl, by rw [H2.out]; exact .of hmade.out, HB0.out⟩
  rw [decide_eq_false hz] at hd
  have hsm := spl_small 46 hs
  have hps := Pl.spl_pos 46 s.data.toList
  have hmm : Hid (∀ x ∈ Pl.spl 46 s.data.toList, x.length ≤ 1048576) := fun x hx => Nat.le_trans (Pl.spl_mem 46 _ x hx) hs
  have BAD1 : Hid ((Pl.spl 46 s.data.toList).all Pl.tnOk = false → Pl.textSignOk s.data.toList = false ∧ Pl.textSign s.data.toList = []) := Pl.ts_bad1 hz
  have BAD2 : Hid (∀ x, x ∈ Pl.spl 46 s.data.toList → Pl.signOk (Pl.tn x) = false → Pl.textSignOk s.data.toList = false ∧ Pl.textSign s.data.toList = []) := fun x => Pl.ts_bad2 hz
  have GOOD : Hid ((Pl.spl 46 s.data.toList).all Pl.tnOk = true → Pl.signsOk ((Pl.spl 46 s.data.toList).map Pl.tn) = true → Pl.textSignOk s.data.toList = true ∧ Pl.textSign s.data.toList = (Pl.spl 46 s.data.toList).map Pl.tn ∧ Pl.signText ((Pl.spl 46 s.data.toList).map Pl.tn) = s.data.toList) := Pl.ts_good hz
  have CS := Lib.hid (fun w => l01Split_s s 46 w hs)
  clear hz
  go_enter Tryd.func31, Tryd.ntmps31
  go_wp2_with (fail)
  refine (CS.out _).mono ?_
  rintro e w1 ⟨u, rfl, o, b1⟩
  generalize Pl.spl 46 s.data.toList = xs at hsm hps hmm BAD1 BAD2 GOOD o
  obtain ⟨g0, c, rfl, hg0, hg1, -, hat⟩ := o.at hps
  have hg0 : w.heap.size + 1 ≤ g0 := by simpa using hg0
  have HAT := Lib.hid hat
  have HMADE := Lib.hid (World.ownsRow.below hmade.out b1)
  have HB1 := Lib.hid (HB0.out.trans (b1.mono (by simp)))
  have sz1 : w.heap.size + 1 ≤ w1.heap.size := by have := b1.size; simpa using this
  clear o hat CS b1 hmade
  go_wp2_with (fail)
  go_loopw [4, 16] (fun u i wr => ∃ (k : Nat) (acc : List Int), k ≤ xs.length ∧ i = .int .i64 k ∧ Hid (acc = (xs.take k).map Pl.tn) ∧ Hid ((xs.take k).all Pl.tnOk = true) ∧ Hid (Pl.signsOk acc = true) ∧ Hid (wr.ownsRow w.heap.size 3 1 u k (acc.map (Value.int .i64))) ∧ Hid (∀ g, u.ownBlock = some g → g = w.heap.size ∨ w1.heap.size ≤ g) ∧
    Hid (∀ j, j < xs.length → wr.cell? ⟨g0, j, none⟩ = some (strV (xs.getD j []))) ∧ Hid (Below w.heap.size w wr) ∧ w1.heap.size ≤ wr.heap.size) (fun _ i _ => xs.length - (intOf i).toNat)
  case atStart => exact ⟨0, [], Nat.zero_le _, rfl, rfl, rfl, rfl, HMADE.out, (fun g hg => .inl (by simp [Value.ownBlock] at hg; omega)), HAT.out, HB1.out, Nat.le_refl _⟩
  case round =>
    clear HAT HMADE
    obtain ⟨k, acc, hk, rfl, hacc, hall, hsg, hown, hob, hat, hb, hsz⟩ := hrel
    by_cases hlt : k < xs.length
    · have hc := hat.out k hlt
      have hxm : xs.getD k [] ∈ xs := by simp [List.getD, hlt]
      have hxl := hmm.out _ hxm
      have HS1 := Lib.hid (Pl.take_all_step hlt Pl.tnOk)
      have HS2 := Lib.hid (Pl.take_tn_step hlt)
      by_cases ho : Pl.tnOk (xs.getD k []) = true
      · by_cases hq : Pl.signOk (Pl.tn (xs.getD k [])) = true
        · generalize xs.getD k [] = x at hc hxl HS1 HS2 ho hq
          unfold strV at hc
          have HO := Lib.hid ho
          have HQ := Lib.hid hq
          clear hxm
          go_wp2_with (fail)
          refine (textNum_sl x _ hxl).mono ?_
          rintro e w2 ⟨rfl, b2⟩
          have HOWN := Lib.hid (World.ownsRow.below hown.out b2)
          have HB2 := Lib.hid (hb.out.trans (b2.mono hb.out.size))
          have HAT2 : Hid (∀ j, j < xs.length → w2.cell? ⟨g0, j, none⟩ = some (strV (xs.getD j []))) := fun j hj => (b2.cell (p := ⟨g0, j, none⟩) (by show g0 < _; omega)).trans (hat.out j hj)
          have sz2 := b2.size
          rw [HO.out]
          clear b2 hown ho hq hat
          generalize Pl.tn x = n at HS2 HQ
          go_wp2_with (fail)
          refine (signOk_s n _).mono ?_
          rintro e w2' ⟨rfl, rfl⟩
          rw [HQ.out]
          go_wp2_with (at_builtin; refine wpList_append_lies _ rfl (.tmp 32) (.tmp 34) 31 rfl w.heap.size 3 j0 _ 1 8 Tryd.underlying31 hj hy0 hy1 hy2 rfl (by decide) _ k _ (by rfl) (HOWN.out.alloc _) ⟨w2.heap.size, 0, none⟩ 1 1 [.int .i64 n] (by rfl) rfl (World.news_of_block (cs := #[.int .i64 n]) (heap_new_at _ _ (by simp))) (by simp [Value.oneCell']) (by omega) (by unfold maxLen; omega) (by omega) (by simp; omega) (w2.heap.size + 1) (by simp) ?_)
          intro g cap w3 hown3 hg hat3 hlt3
          have hf : Frame (fun x => u4.ownBlock = some x) w2 w3 := (Frame.alloc _ w2 _).trans (Frame.grown hg fun _ e => e) (fun _ _ hh => hh)
          have hbel : Below w.heap.size w2 w3 := hf.below (fun x hx => (HOWN.out.lt x hx).1) (by omega)
          have sz3 := hf.size
          have HAT3 : Hid (∀ j, j < xs.length → w3.cell? ⟨g0, j, none⟩ = some (strV (xs.getD j []))) := fun j hj => (hf.cell (by omega) (fun hh => by have := hob.out g0 hh; omega)).trans (HAT2.out j hj)
          have HOB3 : Hid (∀ x, (Value.slice (some ⟨g, 0, none⟩) (k + 1) cap).ownBlock = some x → x = w.heap.size ∨ w1.heap.size ≤ x) := fun x hx => by
            have e : g = x := by simpa [Value.ownBlock] using hx
            subst e
            rcases hat3 with hh | hh
            · exact hob.out g hh
            · exact .inr (by omega)
          have HF := Lib.hid hbel
          have HO3 : Hid (w3.ownsRow w.heap.size 3 1 (.slice (some ⟨g, 0, none⟩) (k + 1) cap) (k + 1) ((acc ++ [n]).map (Value.int .i64))) := by rw [List.map_append]; exact hown3
          have HSG : Hid (Pl.signsOk (acc ++ [n]) = true) := by show _ = _; have := hsg.out; rw [Pl.signsOk] at this ⊢; rw [List.all_append, this]; simp [HQ.out]
          clear hf hbel hown3 hg hat3
          go_wp2_with (fail)
          go_roundw
          case rel => exact ⟨k + 1, _, by omega, by go_num, (by show _ = _; rw [hacc.out]; exact HS2.out.symm), (by show _ = _; rw [HS1.out, hall.out, HO.out]; rfl), HSG.out, HO3.out, HOB3.out, HAT3.out, HB2.out.trans HF.out, by omega⟩
          case measure => simp [intOf]; omega
        · have HBAD := Lib.hid (BAD2.out _ hxm (by simpa using hq))
          have hq' : Pl.signOk (Pl.tn (xs.getD k [])) = false := by simpa using hq
          generalize xs.getD k [] = x at hc hxl ho hq'
          unfold strV at hc
          have HO := Lib.hid ho
          have HQ := Lib.hid hq'
          clear hxm ho hq hq'
          go_wp2_with (fail)
          refine (textNum_sl x _ hxl).mono ?_
          rintro e w2 ⟨rfl, b2⟩
          rw [HO.out]
          have HB2 := Lib.hid (hb.out.trans (b2.mono hb.out.size))
          clear b2
          generalize Pl.tn x = n at HQ
          go_wp2_with (fail)
          refine (signOk_s n _).mono ?_
          rintro e w2' ⟨rfl, rfl⟩
          rw [HQ.out]
          go_wp2_with (fail)
          go_ret2
          exact ⟨_, by rw [HBAD.out.1]; rfl, by rw [HBAD.out.2]; exact OwnI.nil _ _ _, HB2.out⟩
      · have HBAD := Lib.hid (BAD1.out (Pl.all_bad hlt (by simpa using ho)))
        have ho' : Pl.tnOk (xs.getD k []) = false := by simpa using ho
        generalize xs.getD k [] = x at hc hxl ho'
        unfold strV at hc
        have HO := Lib.hid ho'
        clear hxm ho ho'
        go_wp2_with (fail)
        refine (textNum_sl x _ hxl).mono ?_
        rintro e w2 ⟨rfl, b2⟩
        rw [HO.out]
        have HB2 := Lib.hid (hb.out.trans (b2.mono hb.out.size))
        clear b2
        go_wp2_with (fail)
        go_ret2
        exact ⟨_, by rw [HBAD.out.1]; rfl, by rw [HBAD.out.2]; exact OwnI.nil _ _ _, HB2.out⟩
    · have e : k = xs.length := by omega
      have hall' : xs.all Pl.tnOk = true := by have := hall.out; rw [e, List.take_of_length_le (Nat.le_refl _)] at this; exact this
      have hacc' : acc = xs.map Pl.tn := by have := hacc.out; rw [e, List.take_of_length_le (Nat.le_refl _)] at this; exact this
      have HG := Lib.hid (GOOD.out hall' (by rw [← hacc']; exact hsg.out))
      have hlen : acc.length = k := by rw [hacc', List.length_map, e]
      have HOI : Hid (OwnI w.heap.size wr.heap.size wr u4 acc) := .of (by rw [OwnInts, hlen]; exact hown.out)
      have HACC := Lib.hid hacc'
      have hal : acc.length ≤ 1048577 := by omega
      obtain ⟨t, ht⟩ : ∃ t : ByteArray, t = ⟨(Pl.signText acc).toArray⟩ := ⟨_, rfl⟩
      have hcmp : (t.toList == s.toList) = true := by rw [str_eq t s ht]; exact decide_eq_true (by rw [hacc']; exact HG.out.2.2)
      have HTT := Lib.hid ht
      have CT := Lib.hid (signText_s wr.heap.size u4 acc wr (Nat.le_refl _) HOI.out.slice hal)
      clear hacc hall hown e hacc' hall' hlen ht hat hob
      go_wp2_with (fail)
      refine CT.out.mono ?_
      rintro e w2 ⟨rfl, b2⟩
      rw [strV, ← HTT.out]
      have HB2 := Lib.hid (hb.out.trans (b2.mono hb.out.size))
      have HO2 := Lib.hid (HOI.out.below b2)
      have sz2 := b2.size
      clear b2
      go_wp2_with (fail)
      go_ret2
      exact ⟨_, by rw [HG.out.1]; rfl, by rw [HG.out.2.1, ← HACC.out]; exact ⟨HO2.out.1, fun g hg => Nat.lt_of_lt_of_le (HO2.out.2 g hg) sz2⟩, HB2.out⟩
end Go.Proofs.YtookcfpiegbafaaDoor
