/- Contracts of OpText: the words of an operation's normal form, separated by blanks. Condition: the library's table of powers reads as its initialiser lays it. -/
import Derived.Test.YtookcfpiegbafaaGreatDoorOpTextPl
namespace Go.Proofs.YtookcfpiegbafaaGreatDoor
open Go.RowKit
set_option maxRecDepth 100000

theorem strInfoT : (Tryz.prog.info? 9).map (fun i => (i.zero, i.size, i.bytes)) = some (some (.string ByteArray.empty), 1, 16) := by kernel_rfl
theorem app_one (c : UInt8) (l : List UInt8) : (⟨#[c]⟩ : ByteArray) ++ ⟨l.toArray⟩ = ⟨(c :: l).toArray⟩ := bytes_app [c] l
set_option maxHeartbeats 4000000 in
set_option maxRecDepth 100000 in
theorem opText_i (v : Value) (ps : List Pt) (w : World) (h : SliceParts w.heap.size w v ps) (hT : Tab10 w) :
    Calls Tryz.prog 13 #[v] w fun e w' => e = .returned (strV (Pl.opText ps)) ∧ Below w.heap.size w w' := by
  obtain ⟨j0, hj, hy0, hy1, hy2⟩ := info_parts strInfoT
  have HT := Lib.hid hT
  have h0 := Lib.hid h
  obtain ⟨A, c, rfl, -, -⟩ := h
  clear hT
  by_cases ho : Pl.opOk ps = true
  · have HO := Lib.hid ho
    have hns := opNorm_len ps
    have hfine := Lib.hid (fine_of (opOk_partsOk (opNorm_ok ps)))
    have HSP : Hid (Pl.opText ps = if Pl.opNorm ps = [] then [45] else Pl.wordsT (Pl.opNorm ps)) := by show _ = _; rw [Pl.opText, if_pos ho]
    clear ho
    go_enter Tryz.func13, Tryz.ntmps13
    go_wp2_with (fail)
    refine (opOk_i _ ps _ h0.out).mono ?_
    rintro e w1 ⟨rfl, b1⟩
    rw [HO.out]
    have sz1 := b1.size
    have B1 := Lib.hid b1
    clear b1
    go_wp2_with (fail)
    refine (opNorm_i _ ps _ (h0.out.later B1.out)).mono ?_
    rintro e w2 ⟨v2, svs, rfl, o2, b2⟩
    have sz2 := b2.size
    have B2 := Lib.hid (B1.out.trans (b2.mono sz1))
    obtain ⟨A2, c2, rfl, -, hr⟩ := o2.slice
    have HR := Lib.hid hr
    clear b2 o2 hr
    generalize Pl.opNorm ps = ns at HR hns hfine HSP
    go_wp2_with (fail)
    go_loopw [3, 12] (fun u i wr => ∃ (k : Nat) (acc : List (List UInt8)), k ≤ ns.length ∧ i = .int .i64 k ∧ Hid (acc = (ns.take k).map Pl.word) ∧ Hid (wr.ownsRow w2.heap.size 9 1 u k (acc.map strV)) ∧ Hid (Below w2.heap.size w2 wr) ∧ w2.heap.size ≤ wr.heap.size) (fun _ i _ => ns.length - (intOf i).toNat)
    case atStart => exact ⟨0, [], Nat.zero_le _, rfl, rfl, World.ownsRow_nil _ _ _ _, Below.refl _ _, Nat.le_refl _⟩
    case round =>
      obtain ⟨k, acc, hk, rfl, hacc, hown, hb, hsz⟩ := hrel
      by_cases hlk : k < ns.length
      · obtain ⟨b, off, sv, rfl, hbB, c0, c1, c2, hs⟩ := (HR.out.below hb.out) k hlk
        have HTK : Hid (acc ++ [Pl.word (ns.getD k ⟨0, 0, []⟩)] = (ns.take (k + 1)).map Pl.word) := by
          show _ = _
          rw [List.take_succ_eq_append_getElem hlk, List.map_append, hacc.out]
          simp [List.getD, hlk]
        obtain ⟨pk, p0, p1, p2⟩ := hfine.out (ns.getD k ⟨0, 0, []⟩) (by simp [List.getD, hlk])
        generalize ns.getD k ⟨0, 0, []⟩ = p at c0 c1 hs HTK p0 p1 p2 pk
        have HSV := Lib.hid hs
        obtain ⟨A5, c5, rfl, -, -⟩ := hs
        rcases pk with pk | pk | pk
        · have k1 : (p.kind == 1) = true := by simp [pk]
          have PKx := Lib.hid pk
          have HW : Hid (Pl.word p = 107 :: Pl.numText p.n) := by show _ = _; unfold Pl.word; rw [if_pos pk]
          clear pk
          obtain ⟨t, ht⟩ : ∃ t : ByteArray, t = ⟨(Pl.numText p.n).toArray⟩ := ⟨_, rfl⟩
          have hts : t.size ≤ 2200 := by rw [ht]; show (Pl.numText p.n).toArray.size ≤ _; rw [List.size_toArray]; exact Nat.le_trans (Pl.numText_length _) (by decide)
          have hlen : ¬ 9223372036854775807 < 1 + t.size := by omega
          have HTT := Lib.hid ht
          have AO := Lib.hid (app_one 107 (Pl.numText p.n))
          clear ht
          go_wp2_with (fail)
          refine (numText_i p.n _ (HT.out.later (B2.out.trans ((hb.out.mono (by omega)).trans ((Below.refl _ _).alloc (by omega) _))))).mono ?_
          rintro e w3 ⟨rfl, b3⟩
          first | rw [← HTT.out] | rw [strV, ← HTT.out]
          have sz3 : wr.heap.size + 1 ≤ w3.heap.size := by have := b3.size; simpa using this
          have B03 := Lib.hid (((Below.refl wr.heap.size wr).alloc (Nat.le_refl _) (.cells #[.int .i64 p.kind, .int .i64 p.n, .slice A5 p.signs.length c5] 47)).trans (b3.mono (by simp)))
          have HOWN := Lib.hid (World.ownsRow.below hown.out B03.out)
          have HB3 := Lib.hid (hb.out.trans (B03.out.mono hsz))
          clear b3 hown
          go_wp2_with (at_builtin; refine wpList_append_lies _ rfl (.tmp 27) (.tmp 32) 42 rfl w2.heap.size 9 j0 _ 1 16 Tryz.underlying42 hj hy0 hy1 hy2 rfl (by decide) _ k _ (by rfl) (HOWN.out.alloc _) ⟨w3.heap.size, 0, none⟩ 1 1 [.string (⟨#[107]⟩ ++ t)] (by rfl) rfl (World.news_of_block (cs := #[.string (⟨#[107]⟩ ++ t)]) (heap_new_at _ _ (by simp))) (by simp [Value.oneCell']) (by omega) (by unfold maxLen; omega) (by omega) (by simp; omega) (w3.heap.size + 1) (by simp) ?_)
          intro g cap w4 hown4 hg hat hlt4
          have hf : Frame (fun x => u3.ownBlock = some x) w3 w4 := (Frame.alloc _ w3 _).trans (Frame.grown hg fun _ e => e) (fun _ _ hh => hh)
          have hbel : Below w2.heap.size w3 w4 := hf.below (fun x hx => (HOWN.out.lt x hx).1) (by omega)
          have sz4 := hf.size
          rw [HTT.out, AO.out, ← HW.out] at hown4
          have HF := Lib.hid hbel
          have HO4 : Hid (w4.ownsRow w2.heap.size 9 1 (.slice (some ⟨g, 0, none⟩) (k + 1) cap) (k + 1) ((acc ++ [Pl.word p]).map strV)) := by rw [List.map_append]; exact hown4
          clear hf hbel hown4 hg hat
          go_wp2_with (fail)
          go_roundw
          case rel => exact ⟨k + 1, _, by omega, by go_num, HTK.out, HO4.out, HB3.out.trans HF.out, by omega⟩
          case measure => simp [intOf]; omega
        · have k1 : (p.kind == 1) = false := by simp [pk]
          have k3 : (p.kind == 3) = false := by simp [pk]
          have PKx := Lib.hid pk
          have HW : Hid (Pl.word p = 112 :: Pl.dotted p.signs) := by show _ = _; unfold Pl.word; rw [if_neg (by omega), if_neg (by omega)]
          clear pk
          obtain ⟨t, ht⟩ : ∃ t : ByteArray, t = ⟨(Pl.dotted p.signs).toArray⟩ := ⟨_, rfl⟩
          have hts : t.size ≤ 2200 := by rw [ht]; show (Pl.dotted p.signs).toArray.size ≤ _; rw [List.size_toArray]; exact Nat.le_trans (Pl.dotted_length _) (by omega)
          have hlen : ¬ 9223372036854775807 < 1 + t.size := by omega
          have HTT := Lib.hid ht
          have AO := Lib.hid (app_one 112 (Pl.dotted p.signs))
          clear ht
          go_wp2_with (fail)
          refine (dotted_i wr.heap.size _ p.signs _ (by simp) ((HSV.out.mono hsz).below ((Below.refl _ _).alloc (Nat.le_refl _) _)) (by omega) (HT.out.later (B2.out.trans ((hb.out.mono (by omega)).trans ((Below.refl _ _).alloc (by omega) _))))).mono ?_
          rintro e w3 ⟨rfl, b3⟩
          first | rw [← HTT.out] | rw [strV, ← HTT.out]
          have sz3 : wr.heap.size + 1 ≤ w3.heap.size := by have := b3.size; simpa using this
          have B03 := Lib.hid (((Below.refl wr.heap.size wr).alloc (Nat.le_refl _) (.cells #[.int .i64 p.kind, .int .i64 p.n, .slice A5 p.signs.length c5] 47)).trans (b3.mono (by simp)))
          have HOWN := Lib.hid (World.ownsRow.below hown.out B03.out)
          have HB3 := Lib.hid (hb.out.trans (B03.out.mono hsz))
          clear b3 hown
          go_wp2_with (at_builtin; refine wpList_append_lies _ rfl (.tmp 18) (.tmp 23) 42 rfl w2.heap.size 9 j0 _ 1 16 Tryz.underlying42 hj hy0 hy1 hy2 rfl (by decide) _ k _ (by rfl) (HOWN.out.alloc _) ⟨w3.heap.size, 0, none⟩ 1 1 [.string (⟨#[112]⟩ ++ t)] (by rfl) rfl (World.news_of_block (cs := #[.string (⟨#[112]⟩ ++ t)]) (heap_new_at _ _ (by simp))) (by simp [Value.oneCell']) (by omega) (by unfold maxLen; omega) (by omega) (by simp; omega) (w3.heap.size + 1) (by simp) ?_)
          intro g cap w4 hown4 hg hat hlt4
          have hf : Frame (fun x => u3.ownBlock = some x) w3 w4 := (Frame.alloc _ w3 _).trans (Frame.grown hg fun _ e => e) (fun _ _ hh => hh)
          have hbel : Below w2.heap.size w3 w4 := hf.below (fun x hx => (HOWN.out.lt x hx).1) (by omega)
          have sz4 := hf.size
          rw [HTT.out, AO.out, ← HW.out] at hown4
          have HF := Lib.hid hbel
          have HO4 : Hid (w4.ownsRow w2.heap.size 9 1 (.slice (some ⟨g, 0, none⟩) (k + 1) cap) (k + 1) ((acc ++ [Pl.word p]).map strV)) := by rw [List.map_append]; exact hown4
          clear hf hbel hown4 hg hat
          go_wp2_with (fail)
          go_roundw
          case rel => exact ⟨k + 1, _, by omega, by go_num, HTK.out, HO4.out, HB3.out.trans HF.out, by omega⟩
          case measure => simp [intOf]; omega
        · have k1 : (p.kind == 1) = false := by simp [pk]
          have k3 : (p.kind == 3) = true := by simp [pk]
          have PKx := Lib.hid pk
          have HW : Hid (Pl.word p = 100 :: Pl.numText p.n) := by show _ = _; unfold Pl.word; rw [if_neg (by omega), if_pos pk]
          clear pk
          obtain ⟨t, ht⟩ : ∃ t : ByteArray, t = ⟨(Pl.numText p.n).toArray⟩ := ⟨_, rfl⟩
          have hts : t.size ≤ 2200 := by rw [ht]; show (Pl.numText p.n).toArray.size ≤ _; rw [List.size_toArray]; exact Nat.le_trans (Pl.numText_length _) (by decide)
          have hlen : ¬ 9223372036854775807 < 1 + t.size := by omega
          have HTT := Lib.hid ht
          have AO := Lib.hid (app_one 100 (Pl.numText p.n))
          clear ht
          go_wp2_with (fail)
          refine (numText_i p.n _ (HT.out.later (B2.out.trans ((hb.out.mono (by omega)).trans ((Below.refl _ _).alloc (by omega) _))))).mono ?_
          rintro e w3 ⟨rfl, b3⟩
          first | rw [← HTT.out] | rw [strV, ← HTT.out]
          have sz3 : wr.heap.size + 1 ≤ w3.heap.size := by have := b3.size; simpa using this
          have B03 := Lib.hid (((Below.refl wr.heap.size wr).alloc (Nat.le_refl _) (.cells #[.int .i64 p.kind, .int .i64 p.n, .slice A5 p.signs.length c5] 47)).trans (b3.mono (by simp)))
          have HOWN := Lib.hid (World.ownsRow.below hown.out B03.out)
          have HB3 := Lib.hid (hb.out.trans (B03.out.mono hsz))
          clear b3 hown
          go_wp2_with (at_builtin; refine wpList_append_lies _ rfl (.tmp 36) (.tmp 41) 42 rfl w2.heap.size 9 j0 _ 1 16 Tryz.underlying42 hj hy0 hy1 hy2 rfl (by decide) _ k _ (by rfl) (HOWN.out.alloc _) ⟨w3.heap.size, 0, none⟩ 1 1 [.string (⟨#[100]⟩ ++ t)] (by rfl) rfl (World.news_of_block (cs := #[.string (⟨#[100]⟩ ++ t)]) (heap_new_at _ _ (by simp))) (by simp [Value.oneCell']) (by omega) (by unfold maxLen; omega) (by omega) (by simp; omega) (w3.heap.size + 1) (by simp) ?_)
          intro g cap w4 hown4 hg hat hlt4
          have hf : Frame (fun x => u3.ownBlock = some x) w3 w4 := (Frame.alloc _ w3 _).trans (Frame.grown hg fun _ e => e) (fun _ _ hh => hh)
          have hbel : Below w2.heap.size w3 w4 := hf.below (fun x hx => (HOWN.out.lt x hx).1) (by omega)
          have sz4 := hf.size
          rw [HTT.out, AO.out, ← HW.out] at hown4
          have HF := Lib.hid hbel
          have HO4 : Hid (w4.ownsRow w2.heap.size 9 1 (.slice (some ⟨g, 0, none⟩) (k + 1) cap) (k + 1) ((acc ++ [Pl.word p]).map strV)) := by rw [List.map_append]; exact hown4
          clear hf hbel hown4 hg hat
          go_wp2_with (fail)
          go_roundw
          case rel => exact ⟨k + 1, _, by omega, by go_num, HTK.out, HO4.out, HB3.out.trans HF.out, by omega⟩
          case measure => simp [intOf]; omega
      · have e : k = ns.length := by omega
        have hacc' : acc = ns.map Pl.word := by have := hacc.out; rw [e, List.take_of_length_le (Nat.le_refl _)] at this; exact this
        have hlen : acc.length = k := by rw [hacc', List.length_map, e]
        have hos : OwnStrs w2.heap.size wr u3 acc := by rw [OwnStrs, hlen]; exact hown.out
        obtain ⟨A6, c6, rfl, -, -⟩ := OwnStrs.slice hos
        have HOS := Lib.hid hos
        have hwl : (Pl.join 32 acc).length ≤ 2000000 := by
          have := Pl.wordsT_length (ns := ns) (fun p hp => (hfine.out p hp).2.2.2)
          rw [hacc']
          show (Pl.wordsT ns).length ≤ _
          omega
        have HJ : Hid (Pl.join 32 acc = Pl.wordsT ns) := by show _ = _; rw [hacc']; rfl
        by_cases hn : ns = []
        · have hz : ((acc.length : Int) == 0) = true := by rw [hlen, e, hn]; rfl
          have HSP' : Hid (Pl.opText ps = [45]) := by show _ = _; rw [HSP.out, if_pos hn]
          clear hacc hown e hacc' hlen hos hn
          go_wp2_with (fail)
          go_ret
          exact ⟨by rw [HSP'.out]; rfl, B2.out.trans (hb.out.mono (by omega))⟩
        · have hz : ((acc.length : Int) == 0) = false := beq_eq_false_iff_ne.2 (by have := List.length_pos_iff.2 hn; omega)
          have HSP' : Hid (Pl.opText ps = Pl.wordsT ns) := by show _ = _; rw [HSP.out, if_neg hn]
          have JL := Lib.hid (join_lib 32 _ acc wr (OwnStrs.slice HOS.out) (by omega) (by omega))
          clear hacc hown e hacc' hlen hos hn
          go_wp2_with (fail)
          refine JL.out.mono ?_
          rintro e w4 ⟨rfl, b4⟩
          go_wp2_with (fail)
          go_ret
          exact ⟨by rw [HSP'.out, ← HJ.out]; rfl, B2.out.trans ((hb.out.mono (by omega)).trans (b4.mono (by omega)))⟩
  · have ho' : Pl.opOk ps = false := by simpa using ho
    have HO := Lib.hid ho'
    have HSP : Hid (Pl.opText ps = []) := by show _ = _; rw [Pl.opText, if_neg ho]
    clear ho ho'
    go_enter Tryz.func13, Tryz.ntmps13
    go_wp2_with (fail)
    refine (opOk_i _ ps _ h0.out).mono ?_
    rintro e w1 ⟨rfl, b1⟩
    rw [HO.out]
    go_wp2_with (fail)
    go_ret
    exact ⟨by rw [HSP.out]; rfl, b1⟩
theorem str_nilT (l : List UInt8) : (⟨l.toArray⟩ : ByteArray).toList.isEmpty = decide (l = []) := by
  rw [ByteArray.toList_eq]
  cases l <;> simp
theorem signText_length {xs : List Int} (h : xs.length ≤ 200) : (Pl.signText xs).length ≤ 2200 := by
  have := Pl.dotted_length xs
  unfold Pl.signText
  split
  · split
    · simp
    · omega
  · simp
theorem signText_put {p : Pt} (h : Pl.Shp p) (hk : p.kind = 2) (hs : Pl.signsOk p.signs = true) : Pl.signText p.signs = Pl.dotted p.signs := by
  have hn : p.signs ≠ [] := by
    rcases h with ⟨e, _⟩ | ⟨_, _, e⟩ | ⟨e, _⟩
    · omega
    · exact e
    · omega
  rw [Pl.signText, if_pos hs, if_neg hn]
set_option maxHeartbeats 4000000 in
set_option maxRecDepth 100000 in
theorem opText_s (v : Value) (ps : List Pt) (w : World) (h : SliceParts w.heap.size w v ps) :
    Calls Tryz.prog 28 #[v] w fun e w' => e = .returned (strV (Pl.opText ps)) ∧ Below w.heap.size w w' := by
  have h0 := Lib.hid h
  obtain ⟨A, c, rfl, -, -⟩ := h
  by_cases ho : Pl.opOk ps = true
  · have HO := Lib.hid ho
    have hns := opNorm_len ps
    have hfine := Lib.hid (fine_of (opOk_partsOk (opNorm_ok ps)))
    have hshp := Lib.hid (Pl.opNorm_shp ps)
    have hsig : Hid (∀ p ∈ Pl.opNorm ps, Pl.signsOk p.signs = true) := fun p hp => (partOk_facts (partOk_mem (opOk_partsOk (opNorm_ok ps)) p hp)).2.2.2.2.2.2
    have HSP : Hid (Pl.opText ps = if Pl.opNorm ps = [] then [45] else Pl.wordsT (Pl.opNorm ps)) := by show _ = _; rw [Pl.opText, if_pos ho]
    clear ho
    go_enter Tryz.func28, Tryz.ntmps28
    go_wp2_with (fail)
    refine (opOk_s _ ps _ h0.out).mono ?_
    rintro e w1 ⟨rfl, b1⟩
    rw [HO.out]
    have sz1 := b1.size
    have B1 := Lib.hid b1
    clear b1
    go_wp2_with (fail)
    refine (opNorm_s _ ps _ (h0.out.later B1.out)).mono ?_
    rintro e w2 ⟨v2, svs, rfl, o2, b2⟩
    have sz2 := b2.size
    have B2 := Lib.hid (B1.out.trans (b2.mono sz1))
    obtain ⟨A2, c2, rfl, -, hr⟩ := o2.slice
    have HR := Lib.hid hr
    clear b2 o2 hr
    generalize Pl.opNorm ps = ns at HR hns hfine hshp hsig HSP
    go_wp2_with (fail)
    go_loopw [3, 12] (fun u i wr => ∃ (k : Nat) (t : ByteArray), k ≤ ns.length ∧ i = .int .i64 k ∧ u = .string t ∧ Hid (t = ⟨(Pl.wordsT (ns.take k)).toArray⟩) ∧ Hid (Below w2.heap.size w2 wr) ∧ w2.heap.size ≤ wr.heap.size) (fun _ i _ => ns.length - (intOf i).toNat)
    case atStart => exact ⟨0, _, Nat.zero_le _, rfl, rfl, rfl, Below.refl _ _, Nat.le_refl _⟩
    case round =>
      obtain ⟨k, t, hk, rfl, rfl, ht, hb, hsz⟩ := hrel
      have hts : t.size ≤ 2000000 := by
        have h1 := Pl.wordsT_length (ns := ns.take k) (fun p hp => (hfine.out p (List.mem_of_mem_take hp)).2.2.2)
        rw [List.length_take] at h1
        rw [ht.out]
        show (Pl.wordsT (ns.take k)).toArray.size ≤ _
        rw [List.size_toArray]
        omega
      by_cases hlk : k < ns.length
      · obtain ⟨b, off, sv, rfl, hbB, c0, c1, c2, hs⟩ := (HR.out.below hb.out) k hlk
        have HD := Lib.hid (Pl.wordsT_step hlk)
        have hpm : ns.getD k ⟨0, 0, []⟩ ∈ ns := by simp [List.getD, hlk]
        obtain ⟨pk, p0, p1, p2⟩ := hfine.out _ hpm
        have hsh := Lib.hid (hshp.out _ hpm)
        have hso := Lib.hid (hsig.out _ hpm)
        generalize ns.getD k ⟨0, 0, []⟩ = p at c0 c1 hs HD p0 p1 p2 pk hsh hso
        have HSV := Lib.hid hs
        obtain ⟨A5, c5, rfl, -, -⟩ := hs
        clear hpm
        by_cases hk0 : k = 0
        · have he : t.toList.isEmpty = true := by rw [ht.out, hk0, List.take_zero]; exact str_nilT []
          rcases pk with pk | pk | pk
          · have k1 : (p.kind == 1) = true := by simp [pk]
            have k2 : (p.kind == 2) = false := by simp [pk]
            have PKx := Lib.hid pk
            clear pk
            have HW : Hid (Pl.word p = 107 :: Pl.numText p.n) := by
              show _ = _
              unfold Pl.word
              rw [if_pos PKx.out]
            obtain ⟨m, hm⟩ : ∃ m : ByteArray, m = ⟨(Pl.numText p.n).toArray⟩ := ⟨_, rfl⟩
            have hms : m.size ≤ 2200 := by rw [hm]; show (Pl.numText p.n).toArray.size ≤ _; rw [List.size_toArray]; exact Nat.le_trans (Pl.numText_length _) (by decide)
            have HM := Lib.hid hm
            clear hm
            have BA : Hid ((t ++ ⟨#[107]⟩) ++ m = ⟨(Pl.wordsT (ns.take (k + 1))).toArray⟩) := by
              show _ = _
              rw [HD.out, if_pos hk0, ht.out, hk0, List.take_zero, HM.out, HW.out]
              exact (congrArg (fun x => x ++ (⟨(Pl.numText p.n).toArray⟩ : ByteArray)) (bytes_app [] [107])).trans (bytes_app _ _)
            have hlen1 : ¬ 9223372036854775807 < t.size + 1 := by omega
            have hlen2 : ¬ 9223372036854775807 < t.size + 1 + 1 := by omega
            have hlen3 : ¬ 9223372036854775807 < t.size + 1 + m.size := by omega
            have hlen4 : ¬ 9223372036854775807 < t.size + 1 + 1 + m.size := by omega
            have hq1 : (t ++ ⟨#[32]⟩ : ByteArray).size = t.size + 1 := by rw [ByteArray.size_append]; rfl
            have hq2 : (t ++ ⟨#[107]⟩ : ByteArray).size = t.size + 1 := by rw [ByteArray.size_append]; rfl
            clear hk0
            go_wp2_with (fail)
            refine (numText_s p.n _).mono ?_
            rintro e w3 ⟨rfl, b3⟩
            first | rw [← HM.out] | rw [strV, ← HM.out]
            have sz3 : wr.heap.size + 1 ≤ w3.heap.size := by have := b3.size; simpa using this
            have B03 := Lib.hid (((Below.refl wr.heap.size wr).alloc (Nat.le_refl _) (.cells #[.int .i64 p.kind, .int .i64 p.n, .slice A5 p.signs.length c5] 47)).trans (b3.mono (by simp)))
            clear b3
            go_wp2_with (fail)
            go_roundw
            case rel => exact ⟨k + 1, _, by omega, by go_num, rfl, BA.out, hb.out.trans (B03.out.mono hsz), by omega⟩
            case measure => simp [intOf]; omega
          · have k1 : (p.kind == 1) = false := by simp [pk]
            have k2 : (p.kind == 2) = true := by simp [pk]
            have PKx := Lib.hid pk
            clear pk
            have HW : Hid (Pl.word p = 112 :: Pl.signText p.signs) := by
              show _ = _
              unfold Pl.word
              rw [if_neg (by have := PKx.out; omega), if_neg (by have := PKx.out; omega), signText_put hsh.out PKx.out hso.out]
            obtain ⟨m, hm⟩ : ∃ m : ByteArray, m = ⟨(Pl.signText p.signs).toArray⟩ := ⟨_, rfl⟩
            have hms : m.size ≤ 2200 := by rw [hm]; show (Pl.signText p.signs).toArray.size ≤ _; rw [List.size_toArray]; exact signText_length p2
            have HM := Lib.hid hm
            clear hm
            have BA : Hid ((t ++ ⟨#[112]⟩) ++ m = ⟨(Pl.wordsT (ns.take (k + 1))).toArray⟩) := by
              show _ = _
              rw [HD.out, if_pos hk0, ht.out, hk0, List.take_zero, HM.out, HW.out]
              exact (congrArg (fun x => x ++ (⟨(Pl.signText p.signs).toArray⟩ : ByteArray)) (bytes_app [] [112])).trans (bytes_app _ _)
            have hlen1 : ¬ 9223372036854775807 < t.size + 1 := by omega
            have hlen2 : ¬ 9223372036854775807 < t.size + 1 + 1 := by omega
            have hlen3 : ¬ 9223372036854775807 < t.size + 1 + m.size := by omega
            have hlen4 : ¬ 9223372036854775807 < t.size + 1 + 1 + m.size := by omega
            have hq1 : (t ++ ⟨#[32]⟩ : ByteArray).size = t.size + 1 := by rw [ByteArray.size_append]; rfl
            have hq2 : (t ++ ⟨#[112]⟩ : ByteArray).size = t.size + 1 := by rw [ByteArray.size_append]; rfl
            clear hk0
            go_wp2_with (fail)
            refine (signText_s wr.heap.size _ p.signs _ (by simp) ((HSV.out.mono hsz).below ((Below.refl _ _).alloc (Nat.le_refl _) _)) (by omega)).mono ?_
            rintro e w3 ⟨rfl, b3⟩
            first | rw [← HM.out] | rw [strV, ← HM.out]
            have sz3 : wr.heap.size + 1 ≤ w3.heap.size := by have := b3.size; simpa using this
            have B03 := Lib.hid (((Below.refl wr.heap.size wr).alloc (Nat.le_refl _) (.cells #[.int .i64 p.kind, .int .i64 p.n, .slice A5 p.signs.length c5] 47)).trans (b3.mono (by simp)))
            clear b3
            go_wp2_with (fail)
            go_roundw
            case rel => exact ⟨k + 1, _, by omega, by go_num, rfl, BA.out, hb.out.trans (B03.out.mono hsz), by omega⟩
            case measure => simp [intOf]; omega
          · have k1 : (p.kind == 1) = false := by simp [pk]
            have k2 : (p.kind == 2) = false := by simp [pk]
            have PKx := Lib.hid pk
            clear pk
            have HW : Hid (Pl.word p = 100 :: Pl.numText p.n) := by
              show _ = _
              unfold Pl.word
              rw [if_neg (by have := PKx.out; omega), if_pos PKx.out]
            obtain ⟨m, hm⟩ : ∃ m : ByteArray, m = ⟨(Pl.numText p.n).toArray⟩ := ⟨_, rfl⟩
            have hms : m.size ≤ 2200 := by rw [hm]; show (Pl.numText p.n).toArray.size ≤ _; rw [List.size_toArray]; exact Nat.le_trans (Pl.numText_length _) (by decide)
            have HM := Lib.hid hm
            clear hm
            have BA : Hid ((t ++ ⟨#[100]⟩) ++ m = ⟨(Pl.wordsT (ns.take (k + 1))).toArray⟩) := by
              show _ = _
              rw [HD.out, if_pos hk0, ht.out, hk0, List.take_zero, HM.out, HW.out]
              exact (congrArg (fun x => x ++ (⟨(Pl.numText p.n).toArray⟩ : ByteArray)) (bytes_app [] [100])).trans (bytes_app _ _)
            have hlen1 : ¬ 9223372036854775807 < t.size + 1 := by omega
            have hlen2 : ¬ 9223372036854775807 < t.size + 1 + 1 := by omega
            have hlen3 : ¬ 9223372036854775807 < t.size + 1 + m.size := by omega
            have hlen4 : ¬ 9223372036854775807 < t.size + 1 + 1 + m.size := by omega
            have hq1 : (t ++ ⟨#[32]⟩ : ByteArray).size = t.size + 1 := by rw [ByteArray.size_append]; rfl
            have hq2 : (t ++ ⟨#[100]⟩ : ByteArray).size = t.size + 1 := by rw [ByteArray.size_append]; rfl
            clear hk0
            go_wp2_with (fail)
            refine (numText_s p.n _).mono ?_
            rintro e w3 ⟨rfl, b3⟩
            first | rw [← HM.out] | rw [strV, ← HM.out]
            have sz3 : wr.heap.size + 1 ≤ w3.heap.size := by have := b3.size; simpa using this
            have B03 := Lib.hid (((Below.refl wr.heap.size wr).alloc (Nat.le_refl _) (.cells #[.int .i64 p.kind, .int .i64 p.n, .slice A5 p.signs.length c5] 47)).trans (b3.mono (by simp)))
            clear b3
            go_wp2_with (fail)
            go_roundw
            case rel => exact ⟨k + 1, _, by omega, by go_num, rfl, BA.out, hb.out.trans (B03.out.mono hsz), by omega⟩
            case measure => simp [intOf]; omega
        · have he : t.toList.isEmpty = false := by
            rw [ht.out, str_nilT]
            exact decide_eq_false (Pl.wordsT_ne (by intro hn; have := congrArg List.length hn; rw [List.length_take, List.length_nil] at this; omega))
          rcases pk with pk | pk | pk
          · have k1 : (p.kind == 1) = true := by simp [pk]
            have k2 : (p.kind == 2) = false := by simp [pk]
            have PKx := Lib.hid pk
            clear pk
            have HW : Hid (Pl.word p = 107 :: Pl.numText p.n) := by
              show _ = _
              unfold Pl.word
              rw [if_pos PKx.out]
            obtain ⟨m, hm⟩ : ∃ m : ByteArray, m = ⟨(Pl.numText p.n).toArray⟩ := ⟨_, rfl⟩
            have hms : m.size ≤ 2200 := by rw [hm]; show (Pl.numText p.n).toArray.size ≤ _; rw [List.size_toArray]; exact Nat.le_trans (Pl.numText_length _) (by decide)
            have HM := Lib.hid hm
            clear hm
            have BA : Hid (((t ++ ⟨#[32]⟩) ++ ⟨#[107]⟩) ++ m = ⟨(Pl.wordsT (ns.take (k + 1))).toArray⟩) := by
              show _ = _
              rw [HD.out, if_neg hk0, ht.out, HM.out, HW.out]
              have e1 := bytes_app (Pl.wordsT (ns.take k)) [32]
              have e2 := bytes_app (Pl.wordsT (ns.take k) ++ [32]) [107]
              rw [show (⟨#[32]⟩ : ByteArray) = ⟨[32].toArray⟩ from rfl, e1, show (⟨#[107]⟩ : ByteArray) = ⟨[107].toArray⟩ from rfl, e2, bytes_app]
              simp
            have hlen1 : ¬ 9223372036854775807 < t.size + 1 := by omega
            have hlen2 : ¬ 9223372036854775807 < t.size + 1 + 1 := by omega
            have hlen3 : ¬ 9223372036854775807 < t.size + 1 + m.size := by omega
            have hlen4 : ¬ 9223372036854775807 < t.size + 1 + 1 + m.size := by omega
            have hq1 : (t ++ ⟨#[32]⟩ : ByteArray).size = t.size + 1 := by rw [ByteArray.size_append]; rfl
            have hq2 : ((t ++ ⟨#[32]⟩) ++ ⟨#[107]⟩ : ByteArray).size = (t.size + 1) + 1 := by rw [ByteArray.size_append, hq1]; rfl
            clear hk0
            go_wp2_with (fail)
            refine (numText_s p.n _).mono ?_
            rintro e w3 ⟨rfl, b3⟩
            first | rw [← HM.out] | rw [strV, ← HM.out]
            have sz3 : wr.heap.size + 1 ≤ w3.heap.size := by have := b3.size; simpa using this
            have B03 := Lib.hid (((Below.refl wr.heap.size wr).alloc (Nat.le_refl _) (.cells #[.int .i64 p.kind, .int .i64 p.n, .slice A5 p.signs.length c5] 47)).trans (b3.mono (by simp)))
            clear b3
            go_wp2_with (fail)
            go_roundw
            case rel => exact ⟨k + 1, _, by omega, by go_num, rfl, BA.out, hb.out.trans (B03.out.mono hsz), by omega⟩
            case measure => simp [intOf]; omega
          · have k1 : (p.kind == 1) = false := by simp [pk]
            have k2 : (p.kind == 2) = true := by simp [pk]
            have PKx := Lib.hid pk
            clear pk
            have HW : Hid (Pl.word p = 112 :: Pl.signText p.signs) := by
              show _ = _
              unfold Pl.word
              rw [if_neg (by have := PKx.out; omega), if_neg (by have := PKx.out; omega), signText_put hsh.out PKx.out hso.out]
            obtain ⟨m, hm⟩ : ∃ m : ByteArray, m = ⟨(Pl.signText p.signs).toArray⟩ := ⟨_, rfl⟩
            have hms : m.size ≤ 2200 := by rw [hm]; show (Pl.signText p.signs).toArray.size ≤ _; rw [List.size_toArray]; exact signText_length p2
            have HM := Lib.hid hm
            clear hm
            have BA : Hid (((t ++ ⟨#[32]⟩) ++ ⟨#[112]⟩) ++ m = ⟨(Pl.wordsT (ns.take (k + 1))).toArray⟩) := by
              show _ = _
              rw [HD.out, if_neg hk0, ht.out, HM.out, HW.out]
              have e1 := bytes_app (Pl.wordsT (ns.take k)) [32]
              have e2 := bytes_app (Pl.wordsT (ns.take k) ++ [32]) [112]
              rw [show (⟨#[32]⟩ : ByteArray) = ⟨[32].toArray⟩ from rfl, e1, show (⟨#[112]⟩ : ByteArray) = ⟨[112].toArray⟩ from rfl, e2, bytes_app]
              simp
            have hlen1 : ¬ 9223372036854775807 < t.size + 1 := by omega
            have hlen2 : ¬ 9223372036854775807 < t.size + 1 + 1 := by omega
            have hlen3 : ¬ 9223372036854775807 < t.size + 1 + m.size := by omega
            have hlen4 : ¬ 9223372036854775807 < t.size + 1 + 1 + m.size := by omega
            have hq1 : (t ++ ⟨#[32]⟩ : ByteArray).size = t.size + 1 := by rw [ByteArray.size_append]; rfl
            have hq2 : ((t ++ ⟨#[32]⟩) ++ ⟨#[112]⟩ : ByteArray).size = (t.size + 1) + 1 := by rw [ByteArray.size_append, hq1]; rfl
            clear hk0
            go_wp2_with (fail)
            refine (signText_s wr.heap.size _ p.signs _ (by simp) ((HSV.out.mono hsz).below ((Below.refl _ _).alloc (Nat.le_refl _) _)) (by omega)).mono ?_
            rintro e w3 ⟨rfl, b3⟩
            first | rw [← HM.out] | rw [strV, ← HM.out]
            have sz3 : wr.heap.size + 1 ≤ w3.heap.size := by have := b3.size; simpa using this
            have B03 := Lib.hid (((Below.refl wr.heap.size wr).alloc (Nat.le_refl _) (.cells #[.int .i64 p.kind, .int .i64 p.n, .slice A5 p.signs.length c5] 47)).trans (b3.mono (by simp)))
            clear b3
            go_wp2_with (fail)
            go_roundw
            case rel => exact ⟨k + 1, _, by omega, by go_num, rfl, BA.out, hb.out.trans (B03.out.mono hsz), by omega⟩
            case measure => simp [intOf]; omega
          · have k1 : (p.kind == 1) = false := by simp [pk]
            have k2 : (p.kind == 2) = false := by simp [pk]
            have PKx := Lib.hid pk
            clear pk
            have HW : Hid (Pl.word p = 100 :: Pl.numText p.n) := by
              show _ = _
              unfold Pl.word
              rw [if_neg (by have := PKx.out; omega), if_pos PKx.out]
            obtain ⟨m, hm⟩ : ∃ m : ByteArray, m = ⟨(Pl.numText p.n).toArray⟩ := ⟨_, rfl⟩
            have hms : m.size ≤ 2200 := by rw [hm]; show (Pl.numText p.n).toArray.size ≤ _; rw [List.size_toArray]; exact Nat.le_trans (Pl.numText_length _) (by decide)
            have HM := Lib.hid hm
            clear hm
            have BA : Hid (((t ++ ⟨#[32]⟩) ++ ⟨#[100]⟩) ++ m = ⟨(Pl.wordsT (ns.take (k + 1))).toArray⟩) := by
              show _ = _
              rw [HD.out, if_neg hk0, ht.out, HM.out, HW.out]
              have e1 := bytes_app (Pl.wordsT (ns.take k)) [32]
              have e2 := bytes_app (Pl.wordsT (ns.take k) ++ [32]) [100]
              rw [show (⟨#[32]⟩ : ByteArray) = ⟨[32].toArray⟩ from rfl, e1, show (⟨#[100]⟩ : ByteArray) = ⟨[100].toArray⟩ from rfl, e2, bytes_app]
              simp
            have hlen1 : ¬ 9223372036854775807 < t.size + 1 := by omega
            have hlen2 : ¬ 9223372036854775807 < t.size + 1 + 1 := by omega
            have hlen3 : ¬ 9223372036854775807 < t.size + 1 + m.size := by omega
            have hlen4 : ¬ 9223372036854775807 < t.size + 1 + 1 + m.size := by omega
            have hq1 : (t ++ ⟨#[32]⟩ : ByteArray).size = t.size + 1 := by rw [ByteArray.size_append]; rfl
            have hq2 : ((t ++ ⟨#[32]⟩) ++ ⟨#[100]⟩ : ByteArray).size = (t.size + 1) + 1 := by rw [ByteArray.size_append, hq1]; rfl
            clear hk0
            go_wp2_with (fail)
            refine (numText_s p.n _).mono ?_
            rintro e w3 ⟨rfl, b3⟩
            first | rw [← HM.out] | rw [strV, ← HM.out]
            have sz3 : wr.heap.size + 1 ≤ w3.heap.size := by have := b3.size; simpa using this
            have B03 := Lib.hid (((Below.refl wr.heap.size wr).alloc (Nat.le_refl _) (.cells #[.int .i64 p.kind, .int .i64 p.n, .slice A5 p.signs.length c5] 47)).trans (b3.mono (by simp)))
            clear b3
            go_wp2_with (fail)
            go_roundw
            case rel => exact ⟨k + 1, _, by omega, by go_num, rfl, BA.out, hb.out.trans (B03.out.mono hsz), by omega⟩
            case measure => simp [intOf]; omega
      · have e : k = ns.length := by omega
        subst e
        have HX2 : Hid (t = ⟨(Pl.wordsT ns).toArray⟩) := by show _ = _; have := ht.out; rw [List.take_of_length_le (Nat.le_refl _)] at this; exact this
        by_cases hn : ns = []
        · have HSP' : Hid (Pl.opText ps = [45]) := by show _ = _; rw [HSP.out, if_pos hn]
          have he : t.toList.isEmpty = true := by rw [HX2.out, hn]; exact str_nilT []
          clear hn
          go_wp2_with (fail)
          go_ret
          exact ⟨by rw [HSP'.out]; rfl, B2.out.trans (hb.out.mono (by omega))⟩
        · have HSP' : Hid (Pl.opText ps = Pl.wordsT ns) := by show _ = _; rw [HSP.out, if_neg hn]
          have he : t.toList.isEmpty = false := by rw [HX2.out, str_nilT]; exact decide_eq_false (Pl.wordsT_ne hn)
          clear hn
          go_wp2_with (fail)
          go_ret
          exact ⟨by rw [HSP'.out]; exact congrArg (fun x => Ending.returned (Value.string x)) HX2.out, B2.out.trans (hb.out.mono (by omega))⟩
  · have ho' : Pl.opOk ps = false := by simpa using ho
    have HO := Lib.hid ho'
    have HSP : Hid (Pl.opText ps = []) := by show _ = _; rw [Pl.opText, if_neg ho]
    clear ho ho'
    go_enter Tryz.func28, Tryz.ntmps28
    go_wp2_with (fail)
    refine (opOk_s _ ps _ h0.out).mono ?_
    rintro e w1 ⟨rfl, b1⟩
    rw [HO.out]
    go_wp2_with (fail)
    go_ret
    exact ⟨by rw [HSP.out]; rfl, b1⟩
end Go.Proofs.YtookcfpiegbafaaGreatDoor
