/- Contracts of the reference's l05Past, Past, PastAll, for every list. Condition: none longer than any slice can be. -/
import Derived.Test.YtlpjbbmjchfolaaPastX
namespace Go.Proofs.Ytlpjbbmjchfolaa
open Go.RowKit
set_option maxRecDepth 100000
set_option linter.unusedVariables false

theorem OwnQ.made {lo : Nat} {w1 : World} (h : lo ≤ w1.heap.size) : OwnQ lo (w1.alloc (.cells #[] 24)).heap.size (w1.alloc (.cells #[] 24)) (.slice (some ⟨w1.heap.size, 0, none⟩) 0 0) [] [] [] :=
  ⟨World.ownsRow_made (base := 0) (e := 24) (size := 1) w1 #[] 0 (Nat.zero_le _) (Nat.zero_le _) rfl, fun g hg => by
    have e : w1.heap.size = g := Option.some.inj hg
    rw [World.size_alloc]; omega, rfl, rfl, fun k hk => absurd hk (Nat.not_lt_zero _), fun i j _ hj => absurd hj (Nat.not_lt_zero _), fun k hk => absurd hk (Nat.not_lt_zero _)⟩
set_option maxHeartbeats 4000000 in
set_option maxRecDepth 100000 in
theorem past_sx (v v' : Value) (os : List (List Pt)) (b : List Pt) (w : World) (h : SliceOps w.heap.size w v os) (h' : SliceParts w.heap.size w v' b) (hl : os.length ≤ 4194304) :
    Calls Try.prog 84 #[v, v'] w fun e w' => ∃ A k svs sss u us, e = .returned (.tuple #[.slice A (Pl.ppX os b).length k, u, .bool (Pl.ppOk os b)]) ∧ OwnQ w.heap.size w'.heap.size w' (.slice A (Pl.ppX os b).length k) (Pl.ppX os b) svs sss ∧ OwnP w.heap.size w'.heap.size w' u (Pl.ppV os b) us ∧ Below w.heap.size w w' := by
  have h0' := Lib.hid h'
  obtain ⟨A, c, rfl, -, ho⟩ := h
  obtain ⟨A', c', rfl, -, -⟩ := h'
  obtain ⟨i0, hi, hz0, hz1, hz2⟩ := info_parts partsSInfo
  have HO := Lib.hid ho
  clear ho
  by_cases hb : Pl.opOk b = true
  rotate_left
  · have HB : Hid (Pl.opOk b = false) := by show _ = _; simpa using hb
    have HN : Hid (Pl.ppOk os b = false) := by show _ = _; rw [Pl.ppOk, HB.out, Bool.false_and]
    have HV : Hid (Pl.ppX os b = [] ∧ Pl.ppV os b = []) := ⟨by rw [Pl.ppX, if_neg (by rw [HN.out]; decide)], by rw [Pl.ppV, if_neg (by rw [HN.out]; decide)]⟩
    clear hb
    go_enter Try.func84, Try.ntmps84
    go_wp2_with (fail)
    refine (opOk_s _ b _ h0'.out).mono ?_
    rintro e w1 ⟨rfl, b1⟩
    rw [HB.out]
    have B1 := Lib.hid b1
    clear b1
    go_wp2_with (fail)
    go_ret3
    rw [HV.out.1, HV.out.2, HN.out]
    exact ⟨_, _, [], [], _, [], rfl, OwnQ.nil _ _ _, OwnP.nil _ _ _, B1.out⟩
  have HB0 := Lib.hid hb
  clear hb
  go_enter Try.func84, Try.ntmps84
  go_wp2_with (fail)
  refine (opOk_s _ b _ h0'.out).mono ?_
  rintro e w1 ⟨rfl, b1⟩
  rw [HB0.out]
  have H1' := Lib.hid (h0'.out.later b1)
  have B1 := Lib.hid b1
  clear b1
  go_wp2_with (fail)
  have fa1 : Below w1.heap.size w1 (w1.alloc (.cells #[] 24)) := (Below.refl _ _).alloc (Nat.le_refl _) _
  have zb1 := B1.out.size
  have H1a := Lib.hid (H1'.out.later fa1)
  have B1a := Lib.hid (B1.out.trans (fa1.mono zb1))
  have Q1 := Lib.hid (OwnQ.made zb1)
  clear fa1
  refine (opNorm_s _ b _ H1a.out).mono ?_
  rintro e w2 ⟨v2, s2, rfl, o2, b2⟩
  rw [opNorm_yes HB0.out] at o2
  obtain ⟨A2, c2, rfl⟩ := own_shape o2.row
  have B2 := Lib.hid (B1a.out.trans (b2.mono B1a.out.size))
  have sz1 := B1a.out.size
  have sz2 := b2.size
  have V2 := Lib.hid (o2.lower2 sz1)
  have Q2 := Lib.hid ((Q1.out.below b2).upto sz2)
  clear o2 b2 B1 H1'
  go_wp2_with (fail)
  go_loopw [7, 8, 22] (fun lv vv iv wr => ∃ (k : Nat) (cur : List Pt) (acc : List (List Pt)) (svs : List Value) (sss : List (List Value)) (cvs : List Value), k ≤ os.length ∧ iv = .int .i64 k ∧ Hid (OwnP w.heap.size wr.heap.size wr vv cur cvs) ∧ Hid (OwnQ w.heap.size wr.heap.size wr lv acc svs sss) ∧ acc.length = k ∧ Hid (Pl.psOk os (Pl.norm b) = Pl.psOk (os.drop k) cur) ∧ Hid (acc ++ Pl.psX (os.drop k) cur = Pl.psX os (Pl.norm b)) ∧ Hid (Pl.psV os (Pl.norm b) = Pl.psV (os.drop k) cur) ∧ Hid (Below w.heap.size w wr) ∧ w.heap.size ≤ wr.heap.size) (fun _ _ iv _ => os.length - (intOf iv).toNat)
  case atStart => exact ⟨0, Pl.norm b, [], [], [], _, Nat.zero_le _, rfl, V2.out, Q2.out, rfl, by show _ = _; simp, by show _ = _; simp, by show _ = _; simp, B2.out, by omega⟩
  case round =>
    clear V2 B2 Q2
    obtain ⟨k, cur, acc, svs, sss, cvs, hk, rfl, hv, hq, hac, hok, hx, hpv, hb, hsz⟩ := hrel
    have hal : acc.length ≤ 4194304 := by omega
    have HAC := Lib.hid hac
    clear hac
    obtain ⟨Av, cv, rfl⟩ := own_shape hv.out.row
    obtain ⟨Al, cl, rfl⟩ := hq.out.shape
    by_cases hlk : k < os.length
    · obtain ⟨b0, off, sv, rfl, hbB, c0, hs⟩ := HO.out k hlk
      have c0' := (hb.out.cell (p := ⟨b0, off + k, none⟩) hbB).trans c0
      have S0 := Lib.hid ((hs.below hb.out).mono hsz)
      have hx' := hx.out
      rw [psX_step hlk] at hx'
      have HA := Lib.hid (psOk_step hlk cur)
      have HW := Lib.hid (psV_step hlk cur)
      generalize os.getD k [] = o at c0 c0' S0 hx' HA HW hs
      obtain ⟨A3, c3, rfl, -, -⟩ := hs
      have HX : Hid (acc ++ [Pl.trans1 o cur] ++ Pl.psX (os.drop (k + 1)) (Pl.trans2 o cur) = Pl.psX os (Pl.norm b)) := by show _ = _; rw [← hx']; simp
      clear c0 hx' hx
      by_cases hxo : Pl.xfOk o cur = true
      · have XO := Lib.hid hxo
        clear hxo
        go_wp2_with (fail)
        refine (transform_s _ _ o cur _ S0.out hv.out.slice).mono ?_
        rintro e w3 ⟨u1, s1, u2, s2, rfl, ou, ov, b3⟩
        rw [XO.out]
        obtain ⟨A4, c4, rfl⟩ := own_shape ou.row
        obtain ⟨A5, c5, rfl⟩ := own_shape ov.row
        have Q3 := Lib.hid (hq.out.below b3)
        have U3 := Lib.hid ou
        have V3 := Lib.hid ov
        have B3 := Lib.hid (hb.out.trans (b3.mono hsz))
        have z3 := b3.size
        clear ou ov b3 hq hv hb S0
        have HOK : Hid (Pl.psOk os (Pl.norm b) = Pl.psOk (os.drop (k + 1)) (Pl.trans2 o cur)) := by show _ = _; rw [hok.out, HA.out, XO.out, Bool.true_and]
        have HPV : Hid (Pl.psV os (Pl.norm b) = Pl.psV (os.drop (k + 1)) (Pl.trans2 o cur)) := by show _ = _; rw [hpv.out, HW.out]
        clear hok hpv HA HW
        generalize Pl.trans1 o cur = x1 at HX U3 ⊢
        generalize Pl.trans2 o cur = x2 at HX HPV HOK V3 ⊢
        go_wp2_with (at_builtin; refine wpList_append_lies _ rfl (.tmp 35) (.tmp 37) 34 rfl 0 24 i0 _ 1 24 Try.underlying34 hi hz0 hz1 hz2 rfl (by decide) _ _ _ (by rfl) (Q3.out.row.alloc _) ⟨w3.heap.size, 0, none⟩ 1 1 [.slice A4 x1.length c4] (by rfl) rfl (World.news_of_block (cs := #[.slice A4 x1.length c4]) (heap_new_at _ _ rfl)) (by simp [Value.oneCell']) (by omega) (by unfold maxLen; omega) (by omega) (Nat.zero_le _) (w3.heap.size + 1) (by simp) ?_)
        intro gg cap w6 hown hg6 hat hlt
        have fa : Frame (fun _ => False) w3 (w3.alloc (.cells #[.slice A4 x1.length c4] 24)) := Frame.alloc _ _ _
        have ba : Below w3.heap.size w3 (w3.alloc (.cells #[.slice A4 x1.length c4] 24)) := (Below.refl _ _).alloc (Nat.le_refl _) _
        have f6 : Frame (fun k => (Value.slice Al acc.length cl).ownBlock = some k) (w3.alloc (.cells #[.slice A4 x1.length c4] 24)) w6 := Frame.grown hg6 (fun _ e => e)
        have q6 := (Q3.out.below ba).push (Nat.le_refl _) x1 rfl hown hg6 hat (by simp) ((U3.out.below ba).upto (by omega)) hsz (by omega) (by omega)
        have V6 := Lib.hid ((((V3.out.below ba).low (R := (Value.slice Al acc.length cl).ownBlock) (fun b hb hv => f6.block b hb hv) (fun x hx e => by
          have h1 := V3.out.blk hx
          have h2 := Q3.out.blk x e
          omega)).lower2 hsz).upto (hi' := w6.heap.size) (by have := f6.size; simp only [World.size_alloc] at this; omega))
        have B6 := Lib.hid (below_step (below_step B3.out fa (fun _ hh => hh.elim)) f6 (fun i hi => (Q3.out.blk i hi).1))
        have z6 := f6.size
        simp only [World.size_alloc] at z6
        have Q6 := Lib.hid q6
        clear hown hg6 hat hlt fa ba f6 q6 Q3 U3 V3 B3
        go_wp2
        go_roundw
        case rel => exact ⟨k + 1, x2, acc ++ [x1], _, _, _, by omega, by go_num, V6.out, Q6.out, by have := HAC.out; simp; omega, HOK.out, HX.out, HPV.out, B6.out, by omega⟩
        case measure => simp [intOf]; omega
      · have XO : Hid (Pl.xfOk o cur = false) := by show _ = _; simpa using hxo
        have HN : Hid (Pl.ppOk os b = false) := by show _ = _; rw [Pl.ppOk, hok.out, HA.out, XO.out, Bool.false_and, Bool.and_false]
        have HV : Hid (Pl.ppX os b = [] ∧ Pl.ppV os b = []) := ⟨by rw [Pl.ppX, if_neg (by rw [HN.out]; decide)], by rw [Pl.ppV, if_neg (by rw [HN.out]; decide)]⟩
        clear hxo hok hpv
        go_wp2_with (fail)
        refine (transform_s _ _ o cur _ S0.out hv.out.slice).mono ?_
        rintro e w3 ⟨u1, s1, u2, s2, rfl, ou, ov, b3⟩
        rw [XO.out]
        obtain ⟨A4, c4, rfl⟩ := own_shape ou.row
        obtain ⟨A5, c5, rfl⟩ := own_shape ov.row
        have B3 := Lib.hid (hb.out.trans (b3.mono hsz))
        clear ou ov b3 hb
        go_wp2_with (fail)
        go_ret3
        rw [HV.out.1, HV.out.2, HN.out]
        exact ⟨_, _, [], [], _, [], rfl, OwnQ.nil _ _ _, OwnP.nil _ _ _, B3.out⟩
    · have hd : os.drop k = [] := List.drop_eq_nil_of_le (by omega)
      have HN : Hid (Pl.ppOk os b = true) := by show _ = _; rw [Pl.ppOk, HB0.out, hok.out, hd]; rfl
      have HX : Hid (Pl.ppX os b = acc) := by show _ = _; rw [Pl.ppX, if_pos HN.out]; have := hx.out; rw [hd] at this; simpa [Pl.psX] using this.symm
      have HV : Hid (Pl.ppV os b = cur) := by show _ = _; rw [Pl.ppV, if_pos HN.out, hpv.out, hd]; rfl
      clear hd hx hpv hok
      go_wp2_with (fail)
      go_ret3
      rw [HX.out, HV.out, HN.out]
      exact ⟨_, _, _, _, _, _, rfl, hq.out, hv.out, hb.out⟩
set_option maxHeartbeats 1000000 in
theorem pastV_sx (v v' : Value) (os : List (List Pt)) (b : List Pt) (w : World) (h : SliceOps w.heap.size w v os) (h' : SliceParts w.heap.size w v' b) (hl : os.length ≤ 4194304) :
    Calls Try.prog 42 #[v, v'] w fun e w' => ∃ u us, e = .returned (.tuple #[u, .bool (Pl.ppOk os b)]) ∧ OwnP w.heap.size w'.heap.size w' u (Pl.ppV os b) us ∧ Below w.heap.size w w' := by
  have H := Lib.hid h
  have H' := Lib.hid h'
  obtain ⟨A, c, rfl, -, -⟩ := h
  obtain ⟨A', c', rfl, -, -⟩ := h'
  go_enter Try.func42, Try.ntmps42
  go_wp2_with (fail)
  refine (past_sx _ _ os b _ H.out H'.out hl).mono ?_
  rintro e w1 ⟨A2, c2, s1, s2, u, us, rfl, -, hu, b1⟩
  have U := Lib.hid hu
  obtain ⟨A1, c1, rfl⟩ := own_shape hu.row
  have B1 := Lib.hid b1
  clear b1 hu
  go_wp2_with (fail)
  go_ret2
  exact ⟨_, _, rfl, U.out, B1.out⟩
set_option maxHeartbeats 1000000 in
theorem pastAll_sx (v v' : Value) (os : List (List Pt)) (b : List Pt) (w : World) (h : SliceOps w.heap.size w v os) (h' : SliceParts w.heap.size w v' b) (hl : os.length ≤ 4194304) :
    Calls Try.prog 43 #[v, v'] w fun e w' => ∃ u svs sss, e = .returned (.tuple #[u, .bool (Pl.ppOk os b)]) ∧ OwnQ w.heap.size w'.heap.size w' u (Pl.ppX os b) svs sss ∧ Below w.heap.size w w' := by
  have H := Lib.hid h
  have H' := Lib.hid h'
  obtain ⟨A, c, rfl, -, -⟩ := h
  obtain ⟨A', c', rfl, -, -⟩ := h'
  go_enter Try.func43, Try.ntmps43
  go_wp2_with (fail)
  refine (past_sx _ _ os b _ H.out H'.out hl).mono ?_
  rintro e w1 ⟨A2, c2, s1, s2, u, us, rfl, hq, hu, b1⟩
  have Q := Lib.hid hq
  obtain ⟨A1, c1, rfl⟩ := own_shape hu.row
  have B1 := Lib.hid b1
  clear b1 hu hq
  go_wp2_with (fail)
  go_ret2
  exact ⟨_, _, _, rfl, Q.out, B1.out⟩
end Go.Proofs.Ytlpjbbmjchfolaa
