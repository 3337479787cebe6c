/- Contract of spec.TextOp: the operation that words separated by blanks spell. Condition: the text has at most 1048576 bytes. -/
import Derived.Test.YtookcfpiegbafaaGreatDoorTextOp
namespace Go.Proofs.YtookcfpiegbafaaGreatDoor
open Go.RowKit
set_option maxRecDepth 100000

/-- A round of a loop that grows a row of parts: what lies in the row behind the append, and what has not turned. -/
theorem OwnP.round {lo M K : Nat} {w0 wx w3 : World} {v : Value} {ps : List Pt} {svs : List Value} (h : OwnP lo M w0 v ps svs) (hbx : Below w0.heap.size w0 wx) (p : Pt) {sv : Value} {g cap n : Nat} (hn : ps.length = n)
    (hown : w3.ownsRow lo 47 3 (.slice (some ⟨g, 0, none⟩) (n + 1) cap) (n + 1) (cellsP ps svs ++ [.int .i64 p.kind, .int .i64 p.n, sv])) (hg : wx.grownBy w3 v.ownBlock) (hat : v.ownBlock = some g ∨ g = K) (hK : w0.heap.size ≤ K)
    (hs : OwnI M wx.heap.size wx sv p.signs) (hlo : lo ≤ M) (hM : M ≤ w0.heap.size) :
    OwnP lo w3.heap.size w3 (.slice (some ⟨g, 0, none⟩) (n + 1) cap) (ps ++ [p]) (svs ++ [sv]) ∧ (∀ k j, k < w0.heap.size → ¬ v.ownBlock = some k → w3.cell? ⟨k, j, none⟩ = w0.cell? ⟨k, j, none⟩) ∧
      Below lo w0 w3 ∧ w0.heap.size ≤ w3.heap.size ∧ ∀ x, (Value.slice (some ⟨g, 0, none⟩) (n + 1) cap).ownBlock = some x → v.ownBlock = some x ∨ w0.heap.size ≤ x := by
  have hf : Frame (fun k => v.ownBlock = some k) wx w3 := Frame.grown hg (fun _ e => e)
  have hz := hbx.size
  have hz3 := hf.size
  refine ⟨OwnP.push (h.below hbx) p hn hown hg hs hlo (by omega), fun k j hk hv => ?_, ?_, by omega, fun x hx => ?_⟩
  · rw [hf.cell (by omega) hv]
    exact hbx.cell (p := ⟨k, j, none⟩) hk
  · exact (hbx.mono (by omega)).trans (hf.below (fun x hx => (h.row.lt x hx).1) (by omega))
  · have e : g = x := Option.some.inj hx
    subst e
    rcases hat with hh | hh
    · exact .inl hh
    · exact .inr (by omega)
set_option maxHeartbeats 8000000 in
set_option maxRecDepth 100000 in
theorem textOp_s (s : ByteArray) (w : World) (hs : s.size ≤ 1048576) :
    Calls Tryz.prog 5 #[.string s] w fun e w' => ∃ v svs, e = .returned (.tuple #[v, .bool (Pl.toOk s.data.toList)]) ∧ OwnP w.heap.size w'.heap.size w' v (Pl.textOp s.data.toList) svs ∧ Below w.heap.size w w' := by
  obtain ⟨i0, hi, hz0, hz1, hz2⟩ := info_parts partInfoB
  have hd := dash s
  have hb0 : Below w.heap.size w (w.alloc (.cells #[] 47)) := (Below.refl _ _).alloc (Nat.le_refl _) _
  have HB0 := Lib.hid hb0
  have hmade := World.ownsRow_made (base := w.heap.size) (e := 47) (size := 3) w #[] 0 (Nat.le_refl _) (Nat.zero_le _) rfl
  have HMADE : Hid (OwnP w.heap.size (w.heap.size + 1) (w.alloc (.cells #[] 47)) (.slice (some ⟨w.heap.size, 0, none⟩) 0 0) [] []) :=
    ⟨hmade, fun g hg => by have : w.heap.size = g := by simpa [Value.ownBlock] using hg
                           omega, rfl, fun k hk => absurd hk (Nat.not_lt_zero _), fun i j _ hj => absurd hj (Nat.not_lt_zero _)⟩
  clear hb0 hmade
  by_cases hz : s.data.toList = [45]
  · rw [decide_eq_true hz] at hd
    have H1 : Hid (Pl.toOk s.data.toList = true) := by show _ = _; rw [Pl.toOk, decide_eq_true hz]; rfl
    have H2 : Hid (Pl.textOp s.data.toList = []) := by show _ = _; rw [Pl.textOp, if_pos hz]
    clear hz
    go_enter Tryz.func5, Tryz.ntmps5
    go_wp2_with (fail)
    go_ret2
    exact ⟨_, [], by rw [H1.out]; rfl, by rw [H2.out]; exact HMADE.out.upto (by simp), HB0.out⟩
  rw [decide_eq_false hz] at hd
  have hsm := spl_small 32 hs
  have hps := Pl.spl_pos 32 s.data.toList
  have hmm : Hid (∀ x ∈ Pl.spl 32 s.data.toList, x.length ≤ 1048576) := fun x hx => Nat.le_trans (Pl.spl_mem 32 _ x hx) hs
  have BAD : Hid (∀ x, x ∈ Pl.spl 32 s.data.toList → Pl.sOk x = false → Pl.toOk s.data.toList = false ∧ Pl.textOp s.data.toList = []) := fun x => Pl.ts_bad hz
  have FIN : Hid ((Pl.spl 32 s.data.toList).all Pl.sOk = true → (Pl.isNorm ((Pl.spl 32 s.data.toList).map Pl.sPt) = false → Pl.toOk s.data.toList = false ∧ Pl.textOp s.data.toList = []) ∧ (Pl.opText ((Pl.spl 32 s.data.toList).map Pl.sPt) ≠ s.data.toList → Pl.toOk s.data.toList = false ∧ Pl.textOp s.data.toList = []) ∧
    (Pl.isNorm ((Pl.spl 32 s.data.toList).map Pl.sPt) = true → Pl.opText ((Pl.spl 32 s.data.toList).map Pl.sPt) = s.data.toList → Pl.toOk s.data.toList = true ∧ Pl.textOp s.data.toList = (Pl.spl 32 s.data.toList).map Pl.sPt)) := Pl.ts_end hz
  have CC := Lib.hid (fun w => cut_s s w hs)
  clear hz
  go_enter Tryz.func5, Tryz.ntmps5
  go_wp2_with (fail)
  refine (CC.out _).mono ?_
  rintro e w1 ⟨u, rfl, o, b1⟩
  generalize Pl.spl 32 s.data.toList = xs at hsm hps hmm BAD FIN o
  obtain ⟨g0, c, rfl, hg0, hg1, -, hat⟩ := o.at hps
  have hg0 : w.heap.size + 1 ≤ g0 := by simpa using hg0
  have HAT := Lib.hid hat
  have HMADE1 := Lib.hid (HMADE.out.below b1)
  have HB1 := Lib.hid (HB0.out.trans (b1.mono (by simp)))
  have sz1 : w.heap.size + 1 ≤ w1.heap.size := by have := b1.size; simpa using this
  clear o hat CC b1 HMADE
  go_wp2_with (fail)
  have HOB0 : Hid (∀ g, (Value.slice (some ⟨w.heap.size, 0, none⟩) 0 0).ownBlock = some g → g = w.heap.size ∨ w1.heap.size ≤ g) := fun g hg => .inl (Option.some.inj hg).symm
  go_loopw [4, 19] (fun u i wr => ∃ (k : Nat) (acc : List Pt) (svs : List Value), k ≤ xs.length ∧ i = .int .i64 k ∧ Hid (acc = (xs.take k).map Pl.sPt) ∧ Hid (acc.length = k) ∧ Hid ((xs.take k).all Pl.sOk = true) ∧ Hid (OwnP w.heap.size wr.heap.size wr u acc svs) ∧
    Hid (∀ g, u.ownBlock = some g → g = w.heap.size ∨ w1.heap.size ≤ g) ∧ Hid (∀ j, j < xs.length → wr.cell? ⟨g0, j, none⟩ = some (strV (xs.getD j []))) ∧ Hid (Below w.heap.size w wr) ∧ w1.heap.size ≤ wr.heap.size) (fun _ i _ => xs.length - (intOf i).toNat)
  case atStart => exact ⟨0, [], [], Nat.zero_le _, rfl, rfl, rfl, rfl, HMADE1.out.upto (by omega), HOB0.out, HAT.out, HB1.out, Nat.le_refl _⟩
  case round =>
    clear HAT HMADE1 HOB0
    obtain ⟨k, acc, svs, hk, rfl, hacc, hlen, hall, hown, hob, hat, hb, hsz⟩ := hrel
    by_cases hlt : k < xs.length
    · have hc := hat.out k hlt
      have hxm : xs.getD k [] ∈ xs := by simp [List.getD, hlt]
      have hxl := hmm.out _ hxm
      have HS1 := Lib.hid (Pl.take_all_step hlt Pl.sOk)
      have HS2 : Hid ((xs.take (k + 1)).map Pl.sPt = acc ++ [Pl.sPt (xs.getD k [])]) := by show _ = _; rw [List.take_succ_eq_append_getElem hlt, List.map_append, ← hacc.out]; simp [List.getD, hlt]
      have HBAD := Lib.hid (BAD.out _ hxm)
      generalize xs.getD k [] = x at hc hxl HS1 HS2 HBAD
      clear hxm
      unfold strV at hc
      by_cases hx2 : x.length < 2
      · have HN := Lib.hid (HBAD.out (by simp [Pl.sOk]; intro; omega))
        have hts : (⟨x.toArray⟩ : ByteArray).size = x.length := by show x.toArray.size = _; simp
        generalize (⟨x.toArray⟩ : ByteArray) = t at hc hts
        have htz : (t.size : Int) < 2 := by omega
        clear hts
        go_wp2_with (fail)
        go_ret2
        exact ⟨_, [], by rw [HN.out.1]; rfl, by rw [HN.out.2]; exact OwnP.nil _ _ _, hb.out⟩
      obtain ⟨c0, r, rfl⟩ : ∃ c0 r, x = c0 :: r := by
        cases x with
        | nil => simp at hx2
        | cons a b => exact ⟨a, b, rfl⟩
      obtain ⟨t, ht⟩ : ∃ t : ByteArray, t = ⟨(c0 :: r).toArray⟩ := ⟨_, rfl⟩
      rw [← ht] at hc
      have hts : t.size = r.length + 1 := by rw [ht]; show (c0 :: r).toArray.size = _; simp
      simp only [List.length_cons] at hx2 hxl
      have ht2 : ¬ ((t.size : Int) < 2) := by omega
      have ht0 : 0 < t.size := by omega
      have ht1 : 2 ≤ t.size := by omega
      have h0 : (t[0]'ht0).toNat = c0.toNat := by subst ht; rfl
      have htd : t.data.toList = c0 :: r := by rw [ht]
      have hex : (t.extract 1 t.size).data.toList = r := by
        rw [mk_extract, htd]
        show (List.take (t.size - 1) r) = r
        rw [List.take_of_length_le (by omega)]
      have hel : (t.extract 1 t.size).size ≤ 1048576 := by
        have : (t.extract 1 t.size).size = (t.extract 1 t.size).data.toList.length := rfl
        rw [this, hex]
        omega
      have CN : Hid (∀ w, Calls Tryz.prog 25 #[.string (t.extract 1 t.size)] w fun e w' => e = .returned (.tuple #[.int .i64 (Pl.tn r), .bool (Pl.tnOk r)]) ∧ Below w.heap.size w w') := fun w => by
        have := textNum_s (t.extract 1 t.size) w hel
        rwa [hex] at this
      have CS : Hid (∀ w, Calls Tryz.prog 26 #[.string (t.extract 1 t.size)] w fun e w' => ∃ u, e = .returned (.tuple #[u, .bool (Pl.textSignOk r)]) ∧ OwnI w.heap.size w'.heap.size w' u (Pl.textSign r) ∧ Below w.heap.size w w') := fun w => by
        have := textSign_s (t.extract 1 t.size) w hel
        rwa [hex] at this
      have hrl : (Pl.textSign r).length ≤ 1048577 := by
        have := Pl.textSign_length r
        omega
      have HTS := Lib.hid hts
      have htm : t.size ≤ 1048576 := by omega
      have hal : acc.length ≤ 1048577 := by rw [hlen.out]; omega
      have hrl2 : 1 ≤ r.length := by omega
      have HSO : Hid (Pl.sOk (c0 :: r) = if c0.toNat = 112 then Pl.textSignOk r else Pl.tnOk r) := by
        show _ = _
        have e3 : (c0 = 112) = (c0.toNat = 112) := propext ⟨fun h => by rw [h]; rfl, fun h => UInt8.toNat_inj.1 h⟩
        simp only [Pl.sOk, List.headD_cons, List.tail_cons, e3, List.length_cons]
        rw [decide_eq_true (by omega), Bool.true_and]
      have HPT : Hid (Pl.sPt (c0 :: r) = if c0.toNat = 112 then ⟨2, 0, Pl.textSign r⟩ else if c0.toNat = 107 then ⟨1, Pl.tn r, []⟩ else if c0.toNat = 100 then ⟨3, Pl.tn r, []⟩ else ⟨0, Pl.tn r, []⟩) := by
        show _ = _
        have e1 : (c0 = 107) = (c0.toNat = 107) := propext ⟨fun h => by rw [h]; rfl, fun h => UInt8.toNat_inj.1 h⟩
        have e2 : (c0 = 100) = (c0.toNat = 100) := propext ⟨fun h => by rw [h]; rfl, fun h => UInt8.toNat_inj.1 h⟩
        have e3 : (c0 = 112) = (c0.toNat = 112) := propext ⟨fun h => by rw [h]; rfl, fun h => UInt8.toNat_inj.1 h⟩
        simp only [Pl.sPt, List.headD_cons, List.tail_cons, e1, e2, e3]
      clear ht hts htd hex hel hxl hx2
      generalize Pl.textSign r = ls at CS hrl HPT
      generalize Pl.tn r = n1 at CN HPT
      generalize hb1 : Pl.tnOk r = bn at CN HSO
      generalize hb2 : Pl.textSignOk r = bs at CS HSO
      clear hb1 hb2
      generalize c0.toNat = q at h0 HPT HSO
      by_cases q1 : q = 107
      · have HPT1 : Hid (Pl.sPt (c0 :: r) = ⟨1, n1, []⟩) := by show _ = _; rw [HPT.out, if_neg (by omega), if_pos q1]
        have HSO1 : Hid (Pl.sOk (c0 :: r) = bn) := by show _ = _; rw [HSO.out, if_neg (by omega)]
        have t107 : ((q : Int) == 107) = true := byte_eqn _ _ (by omega)
        clear q1 HPT HSO CS
        cases bn with
        | true =>
          have HS1' : Hid ((xs.take (k + 1)).all Pl.sOk = true) := by show _ = _; rw [HS1.out, hall.out, HSO1.out]; rfl
          have HS2' : Hid ((xs.take (k + 1)).map Pl.sPt = acc ++ [⟨1, n1, []⟩]) := by show _ = _; rw [HS2.out, HPT1.out]
          clear HS1 HS2 HPT1 HSO1 HBAD hall
          go_wp2_with (fail)
          refine (CN.out _).mono ?_
          rintro e w2 ⟨rfl, b2⟩
          have sz2 := b2.size
          have HOW := Lib.hid (hown.out.below b2)
          have HAT2 : Hid (∀ j, j < xs.length → w2.cell? ⟨g0, j, none⟩ = some (strV (xs.getD j []))) := fun j hj => (b2.cell (p := ⟨g0, j, none⟩) (by show g0 < _; omega)).trans (hat.out j hj)
          have HBW2 := Lib.hid (hb.out.trans (b2.mono hb.out.size))
          clear b2 hown hat hb CN
          go_wp2_with (at_builtin; refine wpList_append_lies _ rfl (.tmp 55) (.tmp 57) 22 rfl w.heap.size 47 i0 _ 3 40 Tryz.underlying22 hi hz0 hz1 hz2 rfl (by decide) _ acc.length _ (by rfl) ((HOW.out.below ((Below.refl _ _).alloc (Nat.le_refl _) _)).row.alloc _) ⟨w2.heap.size + 1, 0, none⟩ 1 1 [.int .i64 1, .int .i64 n1, .slice none 0 0] (by rfl) rfl (World.news_of_block (cs := #[.int .i64 1, .int .i64 n1, .slice none 0 0]) (heap_new_at _ _ (by simp))) (by simp [Value.oneCell']) (by omega) (by unfold maxLen; omega) (by omega) (by simp; omega) (w2.heap.size + 1 + 1) (by simp) ?_)
          intro g cap w3 hown3 hg hat3 hlt3
          obtain ⟨hpush, hcells, hbel, sz3, hobn⟩ := OwnP.round HOW.out (((Below.refl _ _).alloc (Nat.le_refl _) _).alloc (by simp) _) (⟨1, n1, []⟩ : Pt) rfl hown3 hg hat3 (by omega) (OwnI.nil _ _ _) (by omega) (by omega)
          have HO3 := Lib.hid hpush
          have HL3 : Hid ((acc ++ [(⟨1, n1, []⟩ : Pt)]).length = k + 1) := by show _ = _; rw [List.length_append, hlen.out]; rfl
          have HAT3 : Hid (∀ j, j < xs.length → w3.cell? ⟨g0, j, none⟩ = some (strV (xs.getD j []))) := fun j hj => (hcells g0 j (by omega) (fun hh => by have := hob.out g0 hh; omega)).trans (HAT2.out j hj)
          have HOB3 : Hid (∀ x, (Value.slice (some ⟨g, 0, none⟩) (acc.length + 1) cap).ownBlock = some x → x = w.heap.size ∨ w1.heap.size ≤ x) := fun x hx => by
            rcases hobn x hx with hh | hh
            · exact hob.out x hh
            · exact .inr (by omega)
          have HBW3 := Lib.hid (HBW2.out.trans hbel)
          have szz : w1.heap.size ≤ w3.heap.size := by omega
          clear hpush hcells hbel hobn hown3 hg hat3
          go_wp2_with (fail)
          go_roundw
          case rel => exact ⟨k + 1, _, _, by omega, by go_num, HS2'.out.symm, HL3.out, HS1'.out, HO3.out, HOB3.out, HAT3.out, HBW3.out, szz⟩
          case measure => simp [intOf]; omega
        | false =>
          have HN := Lib.hid (HBAD.out HSO1.out)
          clear HS1 HS2 HPT1 HSO1 HBAD hall
          go_wp2_with (fail)
          refine (CN.out _).mono ?_
          rintro e w2 ⟨rfl, b2⟩
          have sz2 := b2.size
          have HOW := Lib.hid (hown.out.below b2)
          have HAT2 : Hid (∀ j, j < xs.length → w2.cell? ⟨g0, j, none⟩ = some (strV (xs.getD j []))) := fun j hj => (b2.cell (p := ⟨g0, j, none⟩) (by show g0 < _; omega)).trans (hat.out j hj)
          have HBW2 := Lib.hid (hb.out.trans (b2.mono hb.out.size))
          clear b2 hown hat hb CN
          go_wp2_with (fail)
          go_ret2
          exact ⟨_, [], by rw [HN.out.1]; rfl, by rw [HN.out.2]; exact OwnP.nil _ _ _, HBW2.out.alloc (by omega) _⟩
      by_cases q2 : q = 100
      · have HPT1 : Hid (Pl.sPt (c0 :: r) = ⟨3, n1, []⟩) := by show _ = _; rw [HPT.out, if_neg (by omega), if_neg q1, if_pos q2]
        have HSO1 : Hid (Pl.sOk (c0 :: r) = bn) := by show _ = _; rw [HSO.out, if_neg (by omega)]
        have t107 : ((q : Int) == 107) = false := beq_eq_false_iff_ne.2 (by omega)
        have t100 : ((q : Int) == 100) = true := byte_eqn _ _ (by omega)
        clear q1 q2 HPT HSO CS
        cases bn with
        | true =>
          have HS1' : Hid ((xs.take (k + 1)).all Pl.sOk = true) := by show _ = _; rw [HS1.out, hall.out, HSO1.out]; rfl
          have HS2' : Hid ((xs.take (k + 1)).map Pl.sPt = acc ++ [⟨3, n1, []⟩]) := by show _ = _; rw [HS2.out, HPT1.out]
          clear HS1 HS2 HPT1 HSO1 HBAD hall
          go_wp2_with (fail)
          refine (CN.out _).mono ?_
          rintro e w2 ⟨rfl, b2⟩
          have sz2 := b2.size
          have HOW := Lib.hid (hown.out.below b2)
          have HAT2 : Hid (∀ j, j < xs.length → w2.cell? ⟨g0, j, none⟩ = some (strV (xs.getD j []))) := fun j hj => (b2.cell (p := ⟨g0, j, none⟩) (by show g0 < _; omega)).trans (hat.out j hj)
          have HBW2 := Lib.hid (hb.out.trans (b2.mono hb.out.size))
          clear b2 hown hat hb CN
          go_wp2_with (at_builtin; refine wpList_append_lies _ rfl (.tmp 55) (.tmp 57) 22 rfl w.heap.size 47 i0 _ 3 40 Tryz.underlying22 hi hz0 hz1 hz2 rfl (by decide) _ acc.length _ (by rfl) ((HOW.out.below ((Below.refl _ _).alloc (Nat.le_refl _) _)).row.alloc _) ⟨w2.heap.size + 1, 0, none⟩ 1 1 [.int .i64 3, .int .i64 n1, .slice none 0 0] (by rfl) rfl (World.news_of_block (cs := #[.int .i64 3, .int .i64 n1, .slice none 0 0]) (heap_new_at _ _ (by simp))) (by simp [Value.oneCell']) (by omega) (by unfold maxLen; omega) (by omega) (by simp; omega) (w2.heap.size + 1 + 1) (by simp) ?_)
          intro g cap w3 hown3 hg hat3 hlt3
          obtain ⟨hpush, hcells, hbel, sz3, hobn⟩ := OwnP.round HOW.out (((Below.refl _ _).alloc (Nat.le_refl _) _).alloc (by simp) _) (⟨3, n1, []⟩ : Pt) rfl hown3 hg hat3 (by omega) (OwnI.nil _ _ _) (by omega) (by omega)
          have HO3 := Lib.hid hpush
          have HL3 : Hid ((acc ++ [(⟨3, n1, []⟩ : Pt)]).length = k + 1) := by show _ = _; rw [List.length_append, hlen.out]; rfl
          have HAT3 : Hid (∀ j, j < xs.length → w3.cell? ⟨g0, j, none⟩ = some (strV (xs.getD j []))) := fun j hj => (hcells g0 j (by omega) (fun hh => by have := hob.out g0 hh; omega)).trans (HAT2.out j hj)
          have HOB3 : Hid (∀ x, (Value.slice (some ⟨g, 0, none⟩) (acc.length + 1) cap).ownBlock = some x → x = w.heap.size ∨ w1.heap.size ≤ x) := fun x hx => by
            rcases hobn x hx with hh | hh
            · exact hob.out x hh
            · exact .inr (by omega)
          have HBW3 := Lib.hid (HBW2.out.trans hbel)
          have szz : w1.heap.size ≤ w3.heap.size := by omega
          clear hpush hcells hbel hobn hown3 hg hat3
          go_wp2_with (fail)
          go_roundw
          case rel => exact ⟨k + 1, _, _, by omega, by go_num, HS2'.out.symm, HL3.out, HS1'.out, HO3.out, HOB3.out, HAT3.out, HBW3.out, szz⟩
          case measure => simp [intOf]; omega
        | false =>
          have HN := Lib.hid (HBAD.out HSO1.out)
          clear HS1 HS2 HPT1 HSO1 HBAD hall
          go_wp2_with (fail)
          refine (CN.out _).mono ?_
          rintro e w2 ⟨rfl, b2⟩
          have sz2 := b2.size
          have HOW := Lib.hid (hown.out.below b2)
          have HAT2 : Hid (∀ j, j < xs.length → w2.cell? ⟨g0, j, none⟩ = some (strV (xs.getD j []))) := fun j hj => (b2.cell (p := ⟨g0, j, none⟩) (by show g0 < _; omega)).trans (hat.out j hj)
          have HBW2 := Lib.hid (hb.out.trans (b2.mono hb.out.size))
          clear b2 hown hat hb CN
          go_wp2_with (fail)
          go_ret2
          exact ⟨_, [], by rw [HN.out.1]; rfl, by rw [HN.out.2]; exact OwnP.nil _ _ _, HBW2.out.alloc (by omega) _⟩
      by_cases q3 : q = 112
      · have HPT1 : Hid (Pl.sPt (c0 :: r) = ⟨2, 0, ls⟩) := by show _ = _; rw [HPT.out, if_pos q3]
        have HSO1 : Hid (Pl.sOk (c0 :: r) = bs) := by show _ = _; rw [HSO.out, if_pos q3]
        have t107 : ((q : Int) == 107) = false := beq_eq_false_iff_ne.2 (by omega)
        have t100 : ((q : Int) == 100) = false := beq_eq_false_iff_ne.2 (by omega)
        have t112 : ((q : Int) == 112) = true := byte_eqn _ _ (by omega)
        clear q1 q2 q3 HPT HSO
        go_wp2_with (fail)
        refine (CN.out _).mono ?_
        rintro e w2 ⟨rfl, b2⟩
        have sz2 := b2.size
        have HOW := Lib.hid (hown.out.below b2)
        have HAT2 : Hid (∀ j, j < xs.length → w2.cell? ⟨g0, j, none⟩ = some (strV (xs.getD j []))) := fun j hj => (b2.cell (p := ⟨g0, j, none⟩) (by show g0 < _; omega)).trans (hat.out j hj)
        have HBW2 := Lib.hid (hb.out.trans (b2.mono hb.out.size))
        clear b2 hown hat hb CN
        go_wp2_with (fail)
        refine (CS.out _).mono ?_
        rintro e w4 ⟨u4', rfl, o4, b4⟩
        have sz4 : w2.heap.size + 1 ≤ w4.heap.size := by have := b4.size; simpa using this
        have B24 : Hid (Below w2.heap.size w2 w4) := ((Below.refl _ _).alloc (Nat.le_refl _) _).trans (b4.mono (by simp))
        obtain ⟨x0, x1, x2, x3, x4⟩ := blk3 (w := w4) (g := w2.heap.size) (t := 47) ((b4.block _ (by simp)).trans (heap_new_at _ _ rfl))
        have O4 : Hid (OwnI (w2.heap.size + 1) w4.heap.size w4 u4' ls) := o4.down (by simp) (Nat.le_refl _)
        obtain ⟨A4, c4, rfl, -, -⟩ := O4.out.slice
        clear b4 o4 CS
        cases bs with
        | true =>
          have HS1' : Hid ((xs.take (k + 1)).all Pl.sOk = true) := by show _ = _; rw [HS1.out, hall.out, HSO1.out]; rfl
          have HS2' : Hid ((xs.take (k + 1)).map Pl.sPt = acc ++ [⟨2, 0, ls⟩]) := by show _ = _; rw [HS2.out, HPT1.out]
          have HOWB : Hid (∀ wx, Below w2.heap.size w2 wx → OwnP w.heap.size wr.heap.size wx u4 acc svs) := fun wx hx => HOW.out.below hx
          clear HS1 HS2 HPT1 HSO1 HBAD hall
          go_wp2_with (at_builtin; refine wpList_append_lies _ rfl (.tmp 55) (.tmp 57) 22 rfl w.heap.size 47 i0 _ 3 40 Tryz.underlying22 hi hz0 hz1 hz2 rfl (by decide) _ acc.length _ (by rfl) ((HOWB.out _ (by repeat (first | exact B24.out | refine Below.setCell ?_ (by dsimp only; omega) _))).row.alloc _) ⟨w4.heap.size, 0, none⟩ 1 1 [.int .i64 2, .int .i64 0, .slice A4 ls.length c4] (by rfl) rfl (World.news_of_block (cs := #[.int .i64 2, .int .i64 0, .slice A4 ls.length c4]) (heap_new_at _ _ (by simp))) (by simp [Value.oneCell']) (by omega) (by unfold maxLen; omega) (by omega) (by simp; omega) (w4.heap.size + 1) (by simp) ?_)
          intro g cap w3 hown3 hg hat3 hlt3
          obtain ⟨hpush, hcells, hbel, sz3, hobn⟩ := OwnP.round HOW.out (by repeat (first | exact B24.out | refine Below.setCell ?_ (by dsimp only; omega) _ | refine Below.alloc ?_ (by simp [World.setCell]; omega) _)) (⟨2, 0, ls⟩ : Pt) rfl hown3 hg hat3 (by omega) (by refine OwnI.down (lo := w2.heap.size + 1) (hi := w4.heap.size) ?_ (by omega) (by simp [World.setCell]); refine OwnI.below ?_ ((Below.refl _ _).alloc (Nat.le_refl _) _); refine O4.out.within (lo' := w2.heap.size) (hi' := w2.heap.size + 1) ?_ (.inr (Nat.le_refl _)); repeat (first | exact Within.refl _ _ _ | refine Within.set ?_ (by omega) (by omega) _ _)) (by omega) (by omega)
          have HO3 := Lib.hid hpush
          have HL3 : Hid ((acc ++ [(⟨2, 0, ls⟩ : Pt)]).length = k + 1) := by show _ = _; rw [List.length_append, hlen.out]; rfl
          have HAT3 : Hid (∀ j, j < xs.length → w3.cell? ⟨g0, j, none⟩ = some (strV (xs.getD j []))) := fun j hj => (hcells g0 j (by omega) (fun hh => by have := hob.out g0 hh; omega)).trans (HAT2.out j hj)
          have HOB3 : Hid (∀ x, (Value.slice (some ⟨g, 0, none⟩) (acc.length + 1) cap).ownBlock = some x → x = w.heap.size ∨ w1.heap.size ≤ x) := fun x hx => by
            rcases hobn x hx with hh | hh
            · exact hob.out x hh
            · exact .inr (by omega)
          have HBW3 := Lib.hid (HBW2.out.trans hbel)
          have szz : w1.heap.size ≤ w3.heap.size := by omega
          clear hpush hcells hbel hobn hown3 hg hat3
          go_wp2_with (fail)
          go_roundw
          case rel => exact ⟨k + 1, _, _, by omega, by go_num, HS2'.out.symm, HL3.out, HS1'.out, HO3.out, HOB3.out, HAT3.out, HBW3.out, szz⟩
          case measure => simp [intOf]; omega
        | false =>
          have HN := Lib.hid (HBAD.out HSO1.out)
          have HBW4 := Lib.hid (HBW2.out.trans (B24.out.mono (by omega)))
          clear HS1 HS2 HPT1 HSO1 HBAD hall
          go_wp2_with (fail)
          go_ret2
          exact ⟨_, [], by rw [HN.out.1]; rfl, by rw [HN.out.2]; exact OwnP.nil _ _ _, by repeat (first | exact HBW4.out | refine Below.setCell ?_ (by dsimp only; omega) _)⟩
      · have HPT1 : Hid (Pl.sPt (c0 :: r) = ⟨0, n1, []⟩) := by show _ = _; rw [HPT.out, if_neg q3, if_neg q1, if_neg q2]
        have HSO1 : Hid (Pl.sOk (c0 :: r) = bn) := by show _ = _; rw [HSO.out, if_neg (by omega)]
        have t107 : ((q : Int) == 107) = false := beq_eq_false_iff_ne.2 (by omega)
        have t100 : ((q : Int) == 100) = false := beq_eq_false_iff_ne.2 (by omega)
        have t112 : ((q : Int) == 112) = false := beq_eq_false_iff_ne.2 (by omega)
        clear q1 q2 q3 HPT HSO CS
        cases bn with
        | true =>
          have HS1' : Hid ((xs.take (k + 1)).all Pl.sOk = true) := by show _ = _; rw [HS1.out, hall.out, HSO1.out]; rfl
          have HS2' : Hid ((xs.take (k + 1)).map Pl.sPt = acc ++ [⟨0, n1, []⟩]) := by show _ = _; rw [HS2.out, HPT1.out]
          clear HS1 HS2 HPT1 HSO1 HBAD hall
          go_wp2_with (fail)
          refine (CN.out _).mono ?_
          rintro e w2 ⟨rfl, b2⟩
          have sz2 := b2.size
          have HOW := Lib.hid (hown.out.below b2)
          have HAT2 : Hid (∀ j, j < xs.length → w2.cell? ⟨g0, j, none⟩ = some (strV (xs.getD j []))) := fun j hj => (b2.cell (p := ⟨g0, j, none⟩) (by show g0 < _; omega)).trans (hat.out j hj)
          have HBW2 := Lib.hid (hb.out.trans (b2.mono hb.out.size))
          clear b2 hown hat hb CN
          go_wp2_with (at_builtin; refine wpList_append_lies _ rfl (.tmp 55) (.tmp 57) 22 rfl w.heap.size 47 i0 _ 3 40 Tryz.underlying22 hi hz0 hz1 hz2 rfl (by decide) _ acc.length _ (by rfl) ((HOW.out.below ((Below.refl _ _).alloc (Nat.le_refl _) _)).row.alloc _) ⟨w2.heap.size + 1, 0, none⟩ 1 1 [.int .i64 0, .int .i64 n1, .slice none 0 0] (by rfl) rfl (World.news_of_block (cs := #[.int .i64 0, .int .i64 n1, .slice none 0 0]) (heap_new_at _ _ (by simp))) (by simp [Value.oneCell']) (by omega) (by unfold maxLen; omega) (by omega) (by simp; omega) (w2.heap.size + 1 + 1) (by simp) ?_)
          intro g cap w3 hown3 hg hat3 hlt3
          obtain ⟨hpush, hcells, hbel, sz3, hobn⟩ := OwnP.round HOW.out (((Below.refl _ _).alloc (Nat.le_refl _) _).alloc (by simp) _) (⟨0, n1, []⟩ : Pt) rfl hown3 hg hat3 (by omega) (OwnI.nil _ _ _) (by omega) (by omega)
          have HO3 := Lib.hid hpush
          have HL3 : Hid ((acc ++ [(⟨0, n1, []⟩ : Pt)]).length = k + 1) := by show _ = _; rw [List.length_append, hlen.out]; rfl
          have HAT3 : Hid (∀ j, j < xs.length → w3.cell? ⟨g0, j, none⟩ = some (strV (xs.getD j []))) := fun j hj => (hcells g0 j (by omega) (fun hh => by have := hob.out g0 hh; omega)).trans (HAT2.out j hj)
          have HOB3 : Hid (∀ x, (Value.slice (some ⟨g, 0, none⟩) (acc.length + 1) cap).ownBlock = some x → x = w.heap.size ∨ w1.heap.size ≤ x) := fun x hx => by
            rcases hobn x hx with hh | hh
            · exact hob.out x hh
            · exact .inr (by omega)
          have HBW3 := Lib.hid (HBW2.out.trans hbel)
          have szz : w1.heap.size ≤ w3.heap.size := by omega
          clear hpush hcells hbel hobn hown3 hg hat3
          go_wp2_with (fail)
          go_roundw
          case rel => exact ⟨k + 1, _, _, by omega, by go_num, HS2'.out.symm, HL3.out, HS1'.out, HO3.out, HOB3.out, HAT3.out, HBW3.out, szz⟩
          case measure => simp [intOf]; omega
        | false =>
          have HN := Lib.hid (HBAD.out HSO1.out)
          clear HS1 HS2 HPT1 HSO1 HBAD hall
          go_wp2_with (fail)
          refine (CN.out _).mono ?_
          rintro e w2 ⟨rfl, b2⟩
          have sz2 := b2.size
          have HOW := Lib.hid (hown.out.below b2)
          have HAT2 : Hid (∀ j, j < xs.length → w2.cell? ⟨g0, j, none⟩ = some (strV (xs.getD j []))) := fun j hj => (b2.cell (p := ⟨g0, j, none⟩) (by show g0 < _; omega)).trans (hat.out j hj)
          have HBW2 := Lib.hid (hb.out.trans (b2.mono hb.out.size))
          clear b2 hown hat hb CN
          go_wp2_with (fail)
          go_ret2
          exact ⟨_, [], by rw [HN.out.1]; rfl, by rw [HN.out.2]; exact OwnP.nil _ _ _, HBW2.out.alloc (by omega) _⟩
    · have e : k = xs.length := by omega
      have hall' : xs.all Pl.sOk = true := by have := hall.out; rw [e, List.take_of_length_le (Nat.le_refl _)] at this; exact this
      have hacc' : acc = xs.map Pl.sPt := by have := hacc.out; rw [e, List.take_of_length_le (Nat.le_refl _)] at this; exact this
      obtain ⟨N1, N2, Y⟩ := FIN.out hall'
      rw [← hacc'] at N1 N2 Y
      have hsl := hown.out.slice
      have HOW := Lib.hid hown.out
      obtain ⟨A4, c4, rfl⟩ := own_shape hown.out.row
      have HSL := Lib.hid hsl
      clear hacc hall hown e hacc' hall' hat hsl FIN BAD hlen hob
      by_cases ho : Pl.isNorm acc = true
      · have HO := Lib.hid ho
        obtain ⟨t, ht⟩ : ∃ t : ByteArray, t = ⟨(Pl.opText acc).toArray⟩ := ⟨_, rfl⟩
        have HTT := Lib.hid ht
        by_cases hq : Pl.opText acc = s.data.toList
        · have HY := Lib.hid (Y ho hq)
          have hcmp : (t.toList == s.toList) = true := by rw [str_eq t s ht]; exact decide_eq_true hq
          clear ht hq ho N1 N2 Y
          go_wp2_with (fail)
          refine (isNorm_s _ acc _ HSL.out).mono ?_
          rintro e w2 ⟨rfl, b2⟩
          rw [HO.out]
          have HSL2 := Lib.hid (HSL.out.later b2)
          have HOW2 := Lib.hid ((HOW.out.below b2).upto b2.size)
          have HB2 := Lib.hid (hb.out.trans (b2.mono hb.out.size))
          clear b2 HSL HOW
          go_wp2_with (fail)
          refine (opText_s _ acc _ HSL2.out).mono ?_
          rintro e w3 ⟨rfl, b3⟩
          rw [strV, ← HTT.out]
          have HOW3 := Lib.hid ((HOW2.out.below b3).upto b3.size)
          have HB3 := Lib.hid (HB2.out.trans (b3.mono HB2.out.size))
          clear b3 HSL2 HOW2
          go_wp2_with (fail)
          go_ret2
          exact ⟨_, svs, by rw [HY.out.1]; rfl, by rw [HY.out.2]; exact HOW3.out, HB3.out⟩
        · have HN := Lib.hid (N2 hq)
          have hcmp : (t.toList == s.toList) = false := by rw [str_eq t s ht]; exact decide_eq_false hq
          clear ht hq ho N1 N2 Y HOW
          go_wp2_with (fail)
          refine (isNorm_s _ acc _ HSL.out).mono ?_
          rintro e w2 ⟨rfl, b2⟩
          rw [HO.out]
          have HSL2 := Lib.hid (HSL.out.later b2)
          have HB2 := Lib.hid (hb.out.trans (b2.mono hb.out.size))
          clear b2 HSL
          go_wp2_with (fail)
          refine (opText_s _ acc _ HSL2.out).mono ?_
          rintro e w3 ⟨rfl, b3⟩
          rw [strV, ← HTT.out]
          have HB3 := Lib.hid (HB2.out.trans (b3.mono HB2.out.size))
          clear b3 HSL2
          go_wp2_with (fail)
          go_ret2
          exact ⟨_, [], by rw [HN.out.1]; rfl, by rw [HN.out.2]; exact OwnP.nil _ _ _, HB3.out⟩
      · have ho' : Pl.isNorm acc = false := by simpa using ho
        have HN := Lib.hid (N1 ho')
        have HO := Lib.hid ho'
        clear ho ho' N1 N2 Y HOW
        go_wp2_with (fail)
        refine (isNorm_s _ acc _ HSL.out).mono ?_
        rintro e w2 ⟨rfl, b2⟩
        rw [HO.out]
        have HB2 := Lib.hid (hb.out.trans (b2.mono hb.out.size))
        clear b2 HSL
        go_wp2_with (fail)
        go_ret2
        exact ⟨_, [], by rw [HN.out.1]; rfl, by rw [HN.out.2]; exact OwnP.nil _ _ _, HB2.out⟩
end Go.Proofs.YtookcfpiegbafaaGreatDoor
