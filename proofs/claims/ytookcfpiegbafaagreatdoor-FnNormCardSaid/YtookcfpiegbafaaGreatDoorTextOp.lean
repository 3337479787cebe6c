/- Contracts of TextOp: the operation that words separated by blanks spell. Condition: the text has at most 1048576 bytes; the library's tables and errors read as their initialisers lay them, and its variable MaxLen holds some number. -/
import Derived.Test.YtookcfpiegbafaaGreatDoorTextOpPl
import Derived.Test.YtookcfpiegbafaaGreatDoorOpText
import Derived.Test.YtookcfpiegbafaaGreatDoorIsNorm
import Derived.Test.YtookcfpiegbafaaGreatDoorMarks
import Derived.Test.YtookcfpiegbafaaGreatDoorPlace2
namespace Go.Proofs.YtookcfpiegbafaaGreatDoor
open Go.RowKit
set_option maxRecDepth 100000

namespace Pl
theorem to_bad {l : List UInt8} (hz : l ≠ [45]) {x : List UInt8} (hx : x ∈ spl 32 l) (h : wOk x = false) : toOk l = false ∧ textOp l = [] := by
  have h1 : toOk l = false := by
    rw [toOk, decide_eq_false hz, Bool.false_or, Bool.eq_false_iff]
    intro hh
    rw [Bool.and_eq_true] at hh
    have := List.all_eq_true.1 hh.1 x hx
    rw [h] at this
    cases this
  exact ⟨h1, by rw [textOp, if_neg hz, if_neg (by rw [h1]; decide)]⟩
theorem to_end {l : List UInt8} (hz : l ≠ [45]) (ha : (spl 32 l).all wOk = true) :
    (opOk ((spl 32 l).map wPt) = false → toOk l = false ∧ textOp l = []) ∧ (opText ((spl 32 l).map wPt) ≠ l → toOk l = false ∧ textOp l = []) ∧
    (opOk ((spl 32 l).map wPt) = true → opText ((spl 32 l).map wPt) = l → toOk l = true ∧ textOp l = opNorm ((spl 32 l).map wPt)) := by
  have hto : toOk l = (opOk ((spl 32 l).map wPt) && decide (opText ((spl 32 l).map wPt) = l)) := by rw [toOk, decide_eq_false hz, Bool.false_or, ha, Bool.true_and]
  refine ⟨fun h => ?_, fun h => ?_, fun h1 h2 => ?_⟩
  · have h1 : toOk l = false := by rw [hto, h]; rfl
    exact ⟨h1, by rw [textOp, if_neg hz, if_neg (by rw [h1]; decide)]⟩
  · have h1 : toOk l = false := by rw [hto, decide_eq_false h, Bool.and_false]
    exact ⟨h1, by rw [textOp, if_neg hz, if_neg (by rw [h1]; decide)]⟩
  · have h3 : toOk l = true := by rw [hto, h1, decide_eq_true h2]; rfl
    exact ⟨h3, by rw [textOp, if_neg hz, if_pos h3]⟩
theorem ts_bad {l : List UInt8} (hz : l ≠ [45]) {x : List UInt8} (hx : x ∈ spl 32 l) (h : sOk x = false) : toOk l = false ∧ textOp l = [] := by
  have h1 : toOk l = false := by
    rw [← (read_same hz).1, Bool.eq_false_iff]
    intro hh
    rw [Bool.and_eq_true] at hh
    have := List.all_eq_true.1 hh.1 x hx
    rw [h] at this
    cases this
  exact ⟨h1, by rw [textOp, if_neg hz, if_neg (by rw [h1]; decide)]⟩
theorem ts_end {l : List UInt8} (hz : l ≠ [45]) (ha : (spl 32 l).all sOk = true) :
    (isNorm ((spl 32 l).map sPt) = false → toOk l = false ∧ textOp l = []) ∧ (opText ((spl 32 l).map sPt) ≠ l → toOk l = false ∧ textOp l = []) ∧
    (isNorm ((spl 32 l).map sPt) = true → opText ((spl 32 l).map sPt) = l → toOk l = true ∧ textOp l = (spl 32 l).map sPt) := by
  obtain ⟨r1, r2⟩ := read_same hz
  rw [ha, Bool.true_and] at r1
  refine ⟨fun h => ?_, fun h => ?_, fun h1 h2 => ?_⟩
  · have h1 : toOk l = false := by rw [← r1, h]; rfl
    exact ⟨h1, by rw [textOp, if_neg hz, if_neg (by rw [h1]; decide)]⟩
  · have h1 : toOk l = false := by rw [← r1, decide_eq_false h, Bool.and_false]
    exact ⟨h1, by rw [textOp, if_neg hz, if_neg (by rw [h1]; decide)]⟩
  · have h3 : toOk l = true := by rw [← r1, h1, decide_eq_true h2]; rfl
    exact ⟨h3, (r2 h3).symm⟩
end Pl
theorem textOp_small (l : List UInt8) (k : Int) (h0 : 0 ≤ k) (h1 : k ≤ 70368744177664) : Pl.small (Pl.textOp l) k := by
  have hn : Pl.small [] k := by
    have := opNorm_small [⟨0, -1, []⟩] k h0 h1
    rwa [show Pl.opNorm [⟨0, -1, []⟩] = [] by decide] at this
  unfold Pl.textOp
  split
  · exact hn
  · split
    · exact opNorm_small _ _ h0 h1
    · exact hn
/-- One part more at the end of a row of the call's own: its characters lie in a block from M up. -/
theorem OwnP.push {lo M : Nat} {w w3 : World} {v : Value} {ps : List Pt} {svs : List Value} (h : OwnP lo M w v ps svs) (p : Pt) {sv : Value} {g cap n : Nat} (hn : ps.length = n)
    (hown : w3.ownsRow lo 47 3 (.slice (some ⟨g, 0, none⟩) (n + 1) cap) (n + 1) (cellsP ps svs ++ [.int .i64 p.kind, .int .i64 p.n, sv])) (hg : w.grownBy w3 v.ownBlock)
    (hs : OwnI M w.heap.size w sv p.signs) (hM : lo ≤ M) (hM2 : M ≤ w.heap.size) : OwnP lo w3.heap.size w3 (.slice (some ⟨g, 0, none⟩) (n + 1) cap) (ps ++ [p]) (svs ++ [sv]) := by
  subst hn
  have hf : Frame (fun k => v.ownBlock = some k) w w3 := Frame.grown hg (fun _ e => e)
  have e1 : ∀ k, k < ps.length → (svs ++ [sv]).getD k undef = svs.getD k undef := fun k hk => by simp [List.getD, List.getElem?_append_left (show k < svs.length by rw [h.len]; exact hk)]
  have e2 : (svs ++ [sv]).getD ps.length undef = sv := by simp [List.getD, ← h.len]
  refine ⟨?_, fun b hb => (hown.lt b hb).2, by simp [h.len], fun k hk => ?_, fun i j hij hj => ?_⟩
  · rw [cellsP_append _ _ _ _ h.len, List.length_append]
    exact hown
  · by_cases hkl : k < ps.length
    · have e3 : (ps ++ [p]).getD k ⟨0, 0, []⟩ = ps.getD k ⟨0, 0, []⟩ := by simp [List.getD, List.getElem?_append_left hkl]
      rw [e1 k hkl, e3]
      have he := h.each k hkl
      refine ⟨hf.row he.1 fun g' hg' hv => own_ne h.row he.1 (by decide) hv hg', fun g' hg' => ?_⟩
      have := he.2 g' hg'
      have := hf.size
      omega
    · obtain rfl : k = ps.length := by simp at hk; omega
      have e3 : (ps ++ [p]).getD ps.length ⟨0, 0, []⟩ = p := by simp [List.getD]
      rw [e2, e3]
      have hh : OwnI M w.heap.size w3 sv p.signs := ⟨hf.row hs.1 fun g' hg' hv => by have := h.top g' hv; have := (hs.1.lt g' hg').1; omega, hs.2⟩
      exact hh.down hM hf.size
  · by_cases hjl : j < ps.length
    · rw [e1 i (by omega), e1 j hjl]
      exact h.apart i j hij hjl
    · obtain rfl : j = ps.length := by simp at hj; omega
      rw [e1 i hij, e2]
      cases hi : (svs.getD i undef).ownBlock with
      | none => exact .inl rfl
      | some x =>
        refine .inr fun e => ?_
        have := (h.each i hij).2 x hi
        have := (hs.1.lt x e.symm).1
        omega
theorem byte_eqn (b : Nat) (c : Int) (h : (b : Int) = c) : ((b : Int) == c) = true := beq_iff_eq.2 h
set_option maxHeartbeats 8000000 in
set_option maxRecDepth 100000 in
theorem textOp_i (s : ByteArray) (w : World) (hs : s.size ≤ 1048576) (hT : Tab10 w) (hE : Errs w) (hM : MaxLenAt w) :
    Calls Tryz.prog 6 #[.string s] w fun e w' => ∃ v svs, e = .returned (.tuple #[v, .bool (Pl.toOk s.data.toList)]) ∧ OwnP w.heap.size w'.heap.size w' v (Pl.textOp s.data.toList) svs ∧ Below w.heap.size w w' := by
  obtain ⟨i0, hi, hz0, hz1, hz2⟩ := info_parts partInfoB
  have HT := Lib.hid hT
  have HE := Lib.hid hE
  have HM := Lib.hid hM
  have hd := dash s
  by_cases hz : s.data.toList = [45]
  · rw [decide_eq_true hz] at hd
    have H1 : Hid (Pl.toOk s.data.toList = true) := by show _ = _; rw [Pl.toOk, decide_eq_true hz]; rfl
    have H2 : Hid (Pl.textOp s.data.toList = []) := by show _ = _; rw [Pl.textOp, if_pos hz]
    clear hz hT hE hM
    go_enter Tryz.func6, Tryz.ntmps6
    go_wp2_with (fail)
    go_ret2
    exact ⟨_, [], by rw [H1.out]; rfl, by rw [H2.out]; exact OwnP.nil _ _ _, Below.refl _ _⟩
  rw [decide_eq_false hz] at hd
  have hsm := spl_small 32 hs
  have hps := Pl.spl_pos 32 s.data.toList
  have hmm : Hid (∀ x ∈ Pl.spl 32 s.data.toList, x.length ≤ 1048576) := fun x hx => Nat.le_trans (Pl.spl_mem 32 _ x hx) hs
  have BAD : Hid (∀ x, x ∈ Pl.spl 32 s.data.toList → Pl.wOk x = false → Pl.toOk s.data.toList = false ∧ Pl.textOp s.data.toList = []) := fun x => Pl.to_bad hz
  have FIN : Hid ((Pl.spl 32 s.data.toList).all Pl.wOk = true → (Pl.opOk ((Pl.spl 32 s.data.toList).map Pl.wPt) = false → Pl.toOk s.data.toList = false ∧ Pl.textOp s.data.toList = []) ∧ (Pl.opText ((Pl.spl 32 s.data.toList).map Pl.wPt) ≠ s.data.toList → Pl.toOk s.data.toList = false ∧ Pl.textOp s.data.toList = []) ∧
    (Pl.opOk ((Pl.spl 32 s.data.toList).map Pl.wPt) = true → Pl.opText ((Pl.spl 32 s.data.toList).map Pl.wPt) = s.data.toList → Pl.toOk s.data.toList = true ∧ Pl.textOp s.data.toList = Pl.opNorm ((Pl.spl 32 s.data.toList).map Pl.wPt))) := Pl.to_end hz
  have CC := Lib.hid (cut_i s w hs hM)
  clear hz hT hE hM
  go_enter Tryz.func6, Tryz.ntmps6
  go_wp2_with (fail)
  refine CC.out.mono ?_
  rintro e w1 ⟨u, rfl, o, b1⟩
  generalize Pl.spl 32 s.data.toList = xs at hsm hps hmm BAD FIN o
  obtain ⟨g0, c, rfl, hg0, hg1, -, hat⟩ := o.at hps
  have HAT := Lib.hid hat
  have HB1 := Lib.hid b1
  have sz1 := b1.size
  clear o hat CC b1
  go_wp2_with (fail)
  go_loopw [4, 14] (fun u i wr => ∃ (k : Nat) (acc : List Pt) (svs : List Value), k ≤ xs.length ∧ i = .int .i64 k ∧ Hid (acc = (xs.take k).map Pl.wPt) ∧ Hid (acc.length = k) ∧ Hid ((xs.take k).all Pl.wOk = true) ∧ Hid (OwnP w1.heap.size wr.heap.size wr u acc svs) ∧
    Hid (∀ j, j < xs.length → wr.cell? ⟨g0, j, none⟩ = some (strV (xs.getD j []))) ∧ Hid (Below w.heap.size w wr) ∧ w1.heap.size ≤ wr.heap.size) (fun _ i _ => xs.length - (intOf i).toNat)
  case atStart => exact ⟨0, [], [], Nat.zero_le _, rfl, rfl, rfl, rfl, OwnP.nil _ _ _, HAT.out, HB1.out, Nat.le_refl _⟩
  case round =>
    clear HAT
    obtain ⟨k, acc, svs, hk, rfl, hacc, hlen, hall, hown, hat, hb, hsz⟩ := hrel
    by_cases hlt : k < xs.length
    · have hc := hat.out k hlt
      have hxm : xs.getD k [] ∈ xs := by simp [List.getD, hlt]
      have hxl := hmm.out _ hxm
      have HS1 := Lib.hid (Pl.take_all_step hlt Pl.wOk)
      have HS2 : Hid ((xs.take (k + 1)).map Pl.wPt = acc ++ [Pl.wPt (xs.getD k [])]) := by show _ = _; rw [List.take_succ_eq_append_getElem hlt, List.map_append, ← hacc.out]; simp [List.getD, hlt]
      have HBAD := Lib.hid (BAD.out _ hxm)
      generalize xs.getD k [] = x at hc hxl HS1 HS2 HBAD
      clear hxm
      unfold strV at hc
      rcases x with _ | ⟨c0, r⟩
      · have HN := Lib.hid (HBAD.out rfl)
        have he : (⟨([] : List UInt8).toArray⟩ : ByteArray).toList.isEmpty = true := str_nilT []
        generalize (⟨([] : List UInt8).toArray⟩ : ByteArray) = t at hc he
        go_wp2_with (fail)
        go_ret2
        exact ⟨_, [], by rw [HN.out.1]; rfl, by rw [HN.out.2]; exact OwnP.nil _ _ _, hb.out⟩
      obtain ⟨t, ht⟩ : ∃ t : ByteArray, t = ⟨(c0 :: r).toArray⟩ := ⟨_, rfl⟩
      rw [← ht] at hc
      have hts : t.size = r.length + 1 := by rw [ht]; show (c0 :: r).toArray.size = _; simp
      have he : t.toList.isEmpty = false := by rw [ht, str_nilT]; rfl
      have ht0 : 0 < t.size := by omega
      have h0 : (t[0]'ht0).toNat = c0.toNat := by subst ht; rfl
      have htd : t.data.toList = c0 :: r := by rw [ht]
      have hex : (t.extract 1 t.size).data.toList = r := by
        rw [mk_extract, htd]
        show (List.take (t.size - 1) r) = r
        rw [List.take_of_length_le (by omega)]
      have hel : (t.extract 1 t.size).size ≤ 1048576 := by
        have : (t.extract 1 t.size).size = (t.extract 1 t.size).data.toList.length := rfl
        rw [this, hex]
        simp only [List.length_cons] at hxl
        omega
      have CR : Hid (∀ w, Tab10 w → Errs w → MaxLenAt w → Calls Tryz.prog 30 #[.string (t.extract 1 t.size)] w fun e w' => ∃ u, e = .returned (.tuple #[u, .bool (Pl.rdOk r)]) ∧ OwnI w.heap.size w'.heap.size w' u (Pl.rd r) ∧ Below w.heap.size w w') := fun w a b c => by
        have := readDotted_i (t.extract 1 t.size) w hel a b c
        rwa [hex] at this
      have hrl : (Pl.rd r).length ≤ 1048577 := by
        have := Pl.rd_length r
        simp only [List.length_cons] at hxl
        omega
      have HTS := Lib.hid hts
      have htm : t.size ≤ 1048576 := by simp only [List.length_cons] at hxl; omega
      clear ht hts htd hex hel hxl
      by_cases hr : Pl.rdOk r = true
      · have HR := Lib.hid hr
        have HS1' : Hid ((xs.take (k + 1)).all Pl.wOk = true) := by show _ = _; rw [HS1.out, hall.out]; simp [Pl.wOk, hr]
        have hne := List.length_pos_iff.2 (Pl.rd_ne hr)
        have HPT : Hid (Pl.wPt (c0 :: r) = if c0.toNat = 107 then ⟨1, (Pl.rd r).getD 0 0, []⟩ else if c0.toNat = 100 then ⟨3, (Pl.rd r).getD 0 0, []⟩ else ⟨2, 0, Pl.rd r⟩) := by
          show _ = _
          have e1 : (c0 = 107) = (c0.toNat = 107) := propext ⟨fun h => by rw [h]; rfl, fun h => UInt8.toNat_inj.1 h⟩
          have e2 : (c0 = 100) = (c0.toNat = 100) := propext ⟨fun h => by rw [h]; rfl, fun h => UInt8.toNat_inj.1 h⟩
          simp only [Pl.wPt, List.headD_cons, List.tail_cons, e1, e2]
        generalize Pl.rd r = ls at CR hrl hne HPT
        generalize c0.toNat = q at h0 HPT
        clear hr HS1 HBAD hall
        go_wp2_with (fail)
        refine (CR.out _ (HT.out.later hb.out) (HE.out.later hb.out) (HM.out.later hb.out)).mono ?_
        rintro e w2 ⟨u2, rfl, o2, b2⟩
        rw [HR.out]
        have sz2 := b2.size
        have HOW := Lib.hid (hown.out.below b2)
        have HAT2 : Hid (∀ j, j < xs.length → w2.cell? ⟨g0, j, none⟩ = some (strV (xs.getD j []))) := fun j hj => (b2.cell (p := ⟨g0, j, none⟩) (by show g0 < _; omega)).trans (hat.out j hj)
        have HBW2 := Lib.hid (hb.out.trans (b2.mono hb.out.size))
        have hal : acc.length ≤ 1048577 := by rw [hlen.out]; omega
        have O2 := Lib.hid o2
        obtain ⟨A2, cc2, rfl, hc2, hi2⟩ := o2.slice
        obtain ⟨bb, off, rfl, hbb, hcell0⟩ := hi2 0 hne
        rw [Nat.add_zero] at hcell0
        clear b2 o2 hi2 hown hat hb CR
        by_cases q1 : q = 107
        · have HS2' : Hid ((xs.take (k + 1)).map Pl.wPt = acc ++ [⟨1, ls.getD 0 0, []⟩]) := by show _ = _; rw [HS2.out, HPT.out, if_pos q1]
          have t1 : ((q : Int) == 107) = true := byte_eqn _ _ (by omega)
          generalize ls.getD 0 0 = n1 at hcell0 HS2'
          clear q1 HS2 HPT
          go_wp2_with (at_builtin; refine wpList_append_lies _ rfl (.tmp 37) (.tmp 42) 22 rfl w1.heap.size 47 i0 _ 3 40 Tryz.underlying22 hi hz0 hz1 hz2 rfl (by decide) _ acc.length _ (by rfl) (HOW.out.row.alloc _) ⟨w2.heap.size, 0, none⟩ 1 1 [.int .i64 1, .int .i64 n1, .slice none 0 0] (by rfl) rfl (World.news_of_block (cs := #[.int .i64 1, .int .i64 n1, .slice none 0 0]) (heap_new_at _ _ (by simp))) (by simp [Value.oneCell']) (by omega) (by unfold maxLen; omega) (by omega) (by simp; omega) (w2.heap.size + 1) (by simp) ?_)
          intro g cap w3 hown3 hg hat3 hlt3
          have hfa := Frame.alloc (fun _ => False) w2 (.cells #[.int .i64 1, .int .i64 n1, .slice none 0 0] 47)
          have hpush := OwnP.push (lo := w1.heap.size) (M := wr.heap.size) (HOW.out.below ((Below.refl _ _).alloc (Nat.le_refl _) _)) ⟨1, n1, []⟩ rfl hown3 hg (OwnI.nil _ _ _) hsz (by simp; omega)
          have hf : Frame (fun x => u4.ownBlock = some x) w2 w3 := (Frame.alloc _ w2 _).trans (Frame.grown hg fun _ e => e) (fun _ _ hh => hh)
          have hbel : Below w1.heap.size w2 w3 := hf.below (fun x hx => (HOW.out.row.lt x hx).1) (by omega)
          have sz3 := hf.size
          have HF := Lib.hid hbel
          have HO3 := Lib.hid hpush
          have HL3 : Hid ((acc ++ [(⟨1, n1, []⟩ : Pt)]).length = k + 1) := by show _ = _; rw [List.length_append, hlen.out]; rfl
          have HAT3 : Hid (∀ j, j < xs.length → w3.cell? ⟨g0, j, none⟩ = some (strV (xs.getD j []))) := fun j hj => (hbel.cell (p := ⟨g0, j, none⟩) hg1).trans (HAT2.out j hj)
          have HLL : acc.length = k := hlen.out
          have HBW3 := Lib.hid (HBW2.out.trans (hbel.mono sz1))
          clear hfa hpush hf hbel hown3 hg hat3
          go_wp2_with (fail)
          go_roundw
          case rel => exact ⟨k + 1, _, _, by omega, by go_num, HS2'.out.symm, HL3.out, HS1'.out, HO3.out, HAT3.out, HBW3.out, by omega⟩
          case measure => simp [intOf]; omega
        by_cases q2 : q = 100
        · have HS2' : Hid ((xs.take (k + 1)).map Pl.wPt = acc ++ [⟨3, ls.getD 0 0, []⟩]) := by show _ = _; rw [HS2.out, HPT.out, if_neg q1, if_pos q2]
          have t1 : ((q : Int) == 107) = false := beq_eq_false_iff_ne.2 (by omega)
          have t2 : ((q : Int) == 100) = true := byte_eqn _ _ (by omega)
          generalize ls.getD 0 0 = n1 at hcell0 HS2'
          clear q1 q2 HS2 HPT
          go_wp2_with (at_builtin; refine wpList_append_lies _ rfl (.tmp 46) (.tmp 51) 22 rfl w1.heap.size 47 i0 _ 3 40 Tryz.underlying22 hi hz0 hz1 hz2 rfl (by decide) _ acc.length _ (by rfl) (HOW.out.row.alloc _) ⟨w2.heap.size, 0, none⟩ 1 1 [.int .i64 3, .int .i64 n1, .slice none 0 0] (by rfl) rfl (World.news_of_block (cs := #[.int .i64 3, .int .i64 n1, .slice none 0 0]) (heap_new_at _ _ (by simp))) (by simp [Value.oneCell']) (by omega) (by unfold maxLen; omega) (by omega) (by simp; omega) (w2.heap.size + 1) (by simp) ?_)
          intro g cap w3 hown3 hg hat3 hlt3
          have hfa := Frame.alloc (fun _ => False) w2 (.cells #[.int .i64 3, .int .i64 n1, .slice none 0 0] 47)
          have hpush := OwnP.push (lo := w1.heap.size) (M := wr.heap.size) (HOW.out.below ((Below.refl _ _).alloc (Nat.le_refl _) _)) ⟨3, n1, []⟩ rfl hown3 hg (OwnI.nil _ _ _) hsz (by simp; omega)
          have hf : Frame (fun x => u4.ownBlock = some x) w2 w3 := (Frame.alloc _ w2 _).trans (Frame.grown hg fun _ e => e) (fun _ _ hh => hh)
          have hbel : Below w1.heap.size w2 w3 := hf.below (fun x hx => (HOW.out.row.lt x hx).1) (by omega)
          have sz3 := hf.size
          have HF := Lib.hid hbel
          have HO3 := Lib.hid hpush
          have HL3 : Hid ((acc ++ [(⟨3, n1, []⟩ : Pt)]).length = k + 1) := by show _ = _; rw [List.length_append, hlen.out]; rfl
          have HAT3 : Hid (∀ j, j < xs.length → w3.cell? ⟨g0, j, none⟩ = some (strV (xs.getD j []))) := fun j hj => (hbel.cell (p := ⟨g0, j, none⟩) hg1).trans (HAT2.out j hj)
          have HLL : acc.length = k := hlen.out
          have HBW3 := Lib.hid (HBW2.out.trans (hbel.mono sz1))
          clear hfa hpush hf hbel hown3 hg hat3
          go_wp2_with (fail)
          go_roundw
          case rel => exact ⟨k + 1, _, _, by omega, by go_num, HS2'.out.symm, HL3.out, HS1'.out, HO3.out, HAT3.out, HBW3.out, by omega⟩
          case measure => simp [intOf]; omega
        · have HS2' : Hid ((xs.take (k + 1)).map Pl.wPt = acc ++ [⟨2, 0, ls⟩]) := by show _ = _; rw [HS2.out, HPT.out, if_neg q1, if_neg q2]
          have t1 : ((q : Int) == 107) = false := beq_eq_false_iff_ne.2 (by omega)
          have t2 : ((q : Int) == 100) = false := beq_eq_false_iff_ne.2 (by omega)
          clear q1 q2 HS2 HPT hcell0
          go_wp2_with (at_builtin; refine wpList_append_lies _ rfl (.tmp 30) (.tmp 33) 22 rfl w1.heap.size 47 i0 _ 3 40 Tryz.underlying22 hi hz0 hz1 hz2 rfl (by decide) _ acc.length _ (by rfl) (HOW.out.row.alloc _) ⟨w2.heap.size, 0, none⟩ 1 1 [.int .i64 2, .int .i64 0, .slice (some ⟨bb, off, none⟩) ls.length cc2] (by rfl) rfl (World.news_of_block (cs := #[.int .i64 2, .int .i64 0, .slice (some ⟨bb, off, none⟩) ls.length cc2]) (heap_new_at _ _ (by simp))) (by simp [Value.oneCell']) (by omega) (by unfold maxLen; omega) (by omega) (by simp; omega) (w2.heap.size + 1) (by simp) ?_)
          intro g cap w3 hown3 hg hat3 hlt3
          have hfa := Frame.alloc (fun _ => False) w2 (.cells #[.int .i64 2, .int .i64 0, .slice (some ⟨bb, off, none⟩) ls.length cc2] 47)
          have hpush := OwnP.push (lo := w1.heap.size) (M := wr.heap.size) (HOW.out.below ((Below.refl _ _).alloc (Nat.le_refl _) _)) ⟨2, 0, ls⟩ rfl hown3 hg ((O2.out.below ((Below.refl _ _).alloc (Nat.le_refl _) _)).down (Nat.le_refl _) (by simp)) hsz (by simp; omega)
          have hf : Frame (fun x => u4.ownBlock = some x) w2 w3 := (Frame.alloc _ w2 _).trans (Frame.grown hg fun _ e => e) (fun _ _ hh => hh)
          have hbel : Below w1.heap.size w2 w3 := hf.below (fun x hx => (HOW.out.row.lt x hx).1) (by omega)
          have sz3 := hf.size
          have HF := Lib.hid hbel
          have HO3 := Lib.hid hpush
          have HL3 : Hid ((acc ++ [(⟨2, 0, ls⟩ : Pt)]).length = k + 1) := by show _ = _; rw [List.length_append, hlen.out]; rfl
          have HAT3 : Hid (∀ j, j < xs.length → w3.cell? ⟨g0, j, none⟩ = some (strV (xs.getD j []))) := fun j hj => (hbel.cell (p := ⟨g0, j, none⟩) hg1).trans (HAT2.out j hj)
          have HLL : acc.length = k := hlen.out
          have HBW3 := Lib.hid (HBW2.out.trans (hbel.mono sz1))
          clear hfa hpush hf hbel hown3 hg hat3
          go_wp2_with (fail)
          go_roundw
          case rel => exact ⟨k + 1, _, _, by omega, by go_num, HS2'.out.symm, HL3.out, HS1'.out, HO3.out, HAT3.out, HBW3.out, by omega⟩
          case measure => simp [intOf]; omega
      · have hr' : Pl.rdOk r = false := by simpa using hr
        have HR := Lib.hid hr'
        have HN := Lib.hid (HBAD.out (by simp [Pl.wOk, hr']))
        generalize Pl.rd r = ls at CR hrl
        clear hr hr' HBAD HS1 HS2
        go_wp2_with (fail)
        refine (CR.out _ (HT.out.later hb.out) (HE.out.later hb.out) (HM.out.later hb.out)).mono ?_
        rintro e w2 ⟨u2, rfl, o2, b2⟩
        rw [HR.out]
        have HBW2 := Lib.hid (hb.out.trans (b2.mono hb.out.size))
        clear b2 o2
        go_wp2_with (fail)
        go_ret2
        exact ⟨_, [], by rw [HN.out.1]; rfl, by rw [HN.out.2]; exact OwnP.nil _ _ _, HBW2.out⟩
    · have e : k = xs.length := by omega
      have hall' : xs.all Pl.wOk = true := by have := hall.out; rw [e, List.take_of_length_le (Nat.le_refl _)] at this; exact this
      have hacc' : acc = xs.map Pl.wPt := by have := hacc.out; rw [e, List.take_of_length_le (Nat.le_refl _)] at this; exact this
      obtain ⟨N1, N2, Y⟩ := FIN.out hall'
      rw [← hacc'] at N1 N2 Y
      have hsl := hown.out.slice
      obtain ⟨A4, c4, rfl⟩ := own_shape hown.out.row
      have HSL := Lib.hid hsl
      clear hacc hall hown e hacc' hall' hat hsl FIN BAD hlen
      by_cases ho : Pl.opOk acc = true
      · have HO := Lib.hid ho
        obtain ⟨t, ht⟩ : ∃ t : ByteArray, t = ⟨(Pl.opText acc).toArray⟩ := ⟨_, rfl⟩
        have HTT := Lib.hid ht
        by_cases hq : Pl.opText acc = s.data.toList
        · have HY := Lib.hid (Y ho hq)
          have hcmp : (t.toList == s.toList) = true := by rw [str_eq t s ht]; exact decide_eq_true hq
          clear ht hq ho N1 N2 Y
          go_wp2_with (fail)
          refine (opOk_i _ acc _ HSL.out).mono ?_
          rintro e w2 ⟨rfl, b2⟩
          rw [HO.out]
          have HSL2 := Lib.hid (HSL.out.later b2)
          have HB2 := Lib.hid (hb.out.trans (b2.mono hb.out.size))
          clear b2 HSL
          go_wp2_with (fail)
          refine (opText_i _ acc _ HSL2.out (HT.out.later HB2.out)).mono ?_
          rintro e w3 ⟨rfl, b3⟩
          rw [strV, ← HTT.out]
          have HSL3 := Lib.hid (HSL2.out.later b3)
          have HB3 := Lib.hid (HB2.out.trans (b3.mono HB2.out.size))
          clear b3 HSL2
          go_wp2_with (fail)
          refine (opNorm_i _ acc _ HSL3.out).mono ?_
          rintro e w4 ⟨v4, s4, rfl, o4, b4⟩
          have HB4 := Lib.hid (HB3.out.trans (b4.mono HB3.out.size))
          have O4 := Lib.hid (o4.lower (lo' := w.heap.size) HB3.out.size)
          clear b4 o4 HSL3
          go_wp2_with (fail)
          go_ret2
          exact ⟨_, s4, by rw [HY.out.1]; rfl, by rw [HY.out.2]; exact O4.out, HB4.out⟩
        · have HN := Lib.hid (N2 hq)
          have hcmp : (t.toList == s.toList) = false := by rw [str_eq t s ht]; exact decide_eq_false hq
          clear ht hq ho N1 N2 Y
          go_wp2_with (fail)
          refine (opOk_i _ acc _ HSL.out).mono ?_
          rintro e w2 ⟨rfl, b2⟩
          rw [HO.out]
          have HSL2 := Lib.hid (HSL.out.later b2)
          have HB2 := Lib.hid (hb.out.trans (b2.mono hb.out.size))
          clear b2 HSL
          go_wp2_with (fail)
          refine (opText_i _ acc _ HSL2.out (HT.out.later HB2.out)).mono ?_
          rintro e w3 ⟨rfl, b3⟩
          rw [strV, ← HTT.out]
          have HB3 := Lib.hid (HB2.out.trans (b3.mono HB2.out.size))
          clear b3 HSL2
          go_wp2_with (fail)
          go_ret2
          exact ⟨_, [], by rw [HN.out.1]; rfl, by rw [HN.out.2]; exact OwnP.nil _ _ _, HB3.out⟩
      · have ho' : Pl.opOk acc = false := by simpa using ho
        have HN := Lib.hid (N1 ho')
        have HO := Lib.hid ho'
        clear ho ho' N1 N2 Y
        go_wp2_with (fail)
        refine (opOk_i _ acc _ HSL.out).mono ?_
        rintro e w2 ⟨rfl, b2⟩
        rw [HO.out]
        have HB2 := Lib.hid (hb.out.trans (b2.mono hb.out.size))
        clear b2 HSL
        go_wp2_with (fail)
        go_ret2
        exact ⟨_, [], by rw [HN.out.1]; rfl, by rw [HN.out.2]; exact OwnP.nil _ _ _, HB2.out⟩
end Go.Proofs.YtookcfpiegbafaaGreatDoor
