/- Contracts of impl.Compose. Condition: none longer than any slice can be. -/
import Derived.Test.YtookcfpiegbafaaGreatDoorTwo
import Derived.Test.YtookcfpiegbafaaGreatDoorOpNorm
import Derived.Deep.DeepCutAuto
namespace Go.Proofs.YtookcfpiegbafaaGreatDoor
open Go.RowKit
set_option maxRecDepth 100000
set_option linter.unusedVariables false

theorem fine_all {ps : List Pt} (h : ∀ p ∈ ps, Pl.partOk p = true) : ∀ p ∈ ps, Pl.Fine p := fun p hp => by
  obtain ⟨a, b, c, d, _⟩ := partOk_facts (h p hp)
  exact ⟨a, b, c, d⟩
theorem units_snoc (ps : List Pt) (p : Pt) : Pl.units (ps ++ [p]) = Pl.units ps ++ Pl.unitsP p := by simp [Pl.units]
theorem ok_snoc {ps : List Pt} {p : Pt} (h : ∀ q ∈ ps, Pl.partOk q = true) (hp : Pl.partOk p = true) : ∀ q ∈ ps ++ [p], Pl.partOk q = true := fun q hq => by
  rcases List.mem_append.1 hq with hq | hq
  · exact h q hq
  · simp at hq; subst hq; exact hp
theorem skip_len (q : List Pt) : (Pl.skip q).length ≤ q.length := (List.dropWhile_sublist _).length_le
/-- What the skipped rests are. -/
theorem Pl.CSt.both0 {a b acc : List Pl.U} {q r q0 r0 : List Pt} (h : Pl.CSt a b acc q r) (e0 : Pl.skip q = q0) (e1 : Pl.skip r = r0) :
    Pl.CSt a b acc q0 r0 ∧ Pl.skip q0 = q0 ∧ Pl.skip r0 = r0 ∧ (Pl.units q0).length = (Pl.units q).length ∧ (Pl.units r0).length = (Pl.units r).length ∧ q0.length ≤ q.length ∧ r0.length ≤ r.length := by
  subst e0 e1
  exact ⟨h.skips, Pl.skip_idem q, Pl.skip_idem r, by rw [Pl.units_skip h.okq], by rw [Pl.units_skip h.okr], skip_len q, skip_len r⟩
theorem PV.next {F : Nat → Prop} {w w' : World} {g : Nat} {v : Value} {p : Pt} (h : PV F w v p) (f : Frame (fun k => k = g) w w') (hg : ¬ F g) : PV (Plus F w w') w' v p :=
  (h.frame f (fun b hb e => hg (e ▸ hb))).mono (fun b hb => Or.inl hb)
theorem ownP_lower {lo lo' hi : Nat} {w : World} {v : Value} {ps : List Pt} {svs : List Value} (h : OwnP lo hi w v ps svs) (hl : lo' ≤ lo) : OwnP lo' hi w v ps svs :=
  ⟨World.ownsRow.base h.row fun b hb => Nat.le_trans hl (h.row.lt b hb).1, h.top, h.len, fun k hk => ⟨World.ownsRow.base (h.each k hk).1 fun b hb => Nat.le_trans hl ((h.each k hk).1.lt b hb).1, (h.each k hk).2⟩, h.apart⟩
theorem start_st {w4 : World} {v v' : Value} {ps qs : List Pt} (h4 : SliceParts w4.heap.size w4 v ps) (h4' : SliceParts w4.heap.size w4 v' qs) :
    St (fun b => b < w4.heap.size) ((w4.alloc (.cells #[v] 61)).alloc (.cells #[v'] 61)) w4.heap.size (w4.heap.size + 1) ps qs (.slice none 0 0) [] [] (.slice none 0 0) [] [] := by
  have f1 : Frame (fun _ => False) w4 ((w4.alloc (.cells #[v] 61)).alloc (.cells #[v'] 61)) := ((Frame.refl _ w4).andAlloc _).andAlloc _
  have r1 := (h4.rd (Nat.le_refl _) (F := fun b => b < w4.heap.size) (fun _ hb => hb)).frame f1 (fun _ _ hh => hh)
  have r2 := (h4'.rd (Nat.le_refl _) (F := fun b => b < w4.heap.size) (fun _ hb => hb)).frame f1 (fun _ _ hh => hh)
  refine ⟨⟨⟨v, ?_, r1⟩, ⟨v', heap_new_at _ _ (by simp), r2⟩, Nat.lt_irrefl _, by omega, by omega, fun b hb => by simp; omega⟩, OutAt.init _ _, OutAt.init _ _, fun g hg => by simp [Value.ownBlock] at hg, fun g hg => by simp [Value.ownBlock] at hg⟩
  show _ = _
  rw [Below.heap_alloc _ _ _ (by simp)]
  exact heap_new_at _ _ rfl
set_option maxHeartbeats 40000000 in
set_option maxRecDepth 100000 in
theorem compose_i (v v' : Value) (ps qs : List Pt) (w : World) (h : SliceParts w.heap.size w v ps) (h' : SliceParts w.heap.size w v' qs) :
    Calls Tryz.prog 14 #[v, v'] w fun e w' => ∃ u svs, e = .returned (.tuple #[u, .bool (Pl.cmpOk ps qs)]) ∧ OwnP w.heap.size w'.heap.size w' u (Pl.compose ps qs) svs ∧ Below w.heap.size w w' := by
  have h0 := Lib.hid h
  have h0' := Lib.hid h'
  obtain ⟨A, c, rfl, -, -⟩ := h
  obtain ⟨A', c', rfl, -, -⟩ := h'
  obtain ⟨i0, hi, hz0, hz1, hz2⟩ := info_parts partInfoB
  have hfd : ∀ (a b : Int) (A : Option Addr) (l c : Nat) (w : World), (Instr.field 47 (.agg #[.int .i64 a, .int .i64 b, .slice A l c]) 0).run Tryz.prog w = .ok (.int .i64 a) w := fun _ _ _ _ _ _ => by kernel_rfl
  by_cases ho1 : Pl.opOk ps = true
  rotate_left
  ·
    have HO1 : Hid (Pl.opOk ps = false) := by show _ = _; simpa using ho1
    have HN : Hid (Pl.cmpOk ps qs = false) := by show _ = _; rw [Pl.cmpOk, HO1.out, Bool.false_and, Bool.false_and]
    clear ho1
    have HV : Hid (Pl.compose ps qs = []) := by show _ = _; rw [Pl.compose, if_neg (by rw [HN.out]; decide)]
    go_enter Tryz.func14, Tryz.ntmps14
    go_wp2_with (fail)
    refine (opOk_i _ ps _ h0.out).mono ?_
    rintro e w1 ⟨rfl, b1⟩
    rw [HO1.out]
    have h1 := Lib.hid (h0.out.later b1)
    have h1' := Lib.hid (h0'.out.later b1)
    have B1 := Lib.hid b1
    clear b1
    go_wp2_with (fail)
    go_ret2
    exact ⟨_, [], by rw [HN.out]; rfl, by rw [HV.out]; exact OwnP.nil _ _ _, B1.out⟩
  by_cases ho2 : Pl.opOk qs = true
  rotate_left
  ·
    have HO1 := Lib.hid ho1
    have HO2 : Hid (Pl.opOk qs = false) := by show _ = _; simpa using ho2
    have HN : Hid (Pl.cmpOk ps qs = false) := by show _ = _; rw [Pl.cmpOk, HO1.out, HO2.out, Bool.false_and, Bool.and_false, Bool.false_and]
    clear ho1 ho2
    have HV : Hid (Pl.compose ps qs = []) := by show _ = _; rw [Pl.compose, if_neg (by rw [HN.out]; decide)]
    go_enter Tryz.func14, Tryz.ntmps14
    go_wp2_with (fail)
    refine (opOk_i _ ps _ h0.out).mono ?_
    rintro e w1 ⟨rfl, b1⟩
    rw [HO1.out]
    have h1 := Lib.hid (h0.out.later b1)
    have h1' := Lib.hid (h0'.out.later b1)
    have B1 := Lib.hid b1
    clear b1
    go_wp2_with (fail)
    refine (opOk_i _ qs _ h1'.out).mono ?_
    rintro e w2 ⟨rfl, b2⟩
    rw [HO2.out]
    have h2 := Lib.hid (h1.out.later b2)
    have h2' := Lib.hid (h1'.out.later b2)
    have B2 := Lib.hid (B1.out.trans (b2.mono B1.out.size))
    clear b2 h1 h1' B1
    go_wp2_with (fail)
    go_ret2
    exact ⟨_, [], by rw [HN.out]; rfl, by rw [HV.out]; exact OwnP.nil _ _ _, B2.out⟩
  by_cases hft : Pl.opTo ps = Pl.opFrom qs
  rotate_left
  ·
    have HO1 := Lib.hid ho1
    have HO2 := Lib.hid ho2
    have HN : Hid (Pl.cmpOk ps qs = false) := by show _ = _; rw [Pl.cmpOk, HO1.out, HO2.out, decide_eq_false hft, Bool.and_false, Bool.and_false, Bool.false_and]
    clear ho1 ho2
    have HV : Hid (Pl.compose ps qs = []) := by show _ = _; rw [Pl.compose, if_neg (by rw [HN.out]; decide)]
    go_enter Tryz.func14, Tryz.ntmps14
    go_wp2_with (fail)
    refine (opOk_i _ ps _ h0.out).mono ?_
    rintro e w1 ⟨rfl, b1⟩
    rw [HO1.out]
    have h1 := Lib.hid (h0.out.later b1)
    have h1' := Lib.hid (h0'.out.later b1)
    have B1 := Lib.hid b1
    clear b1
    go_wp2_with (fail)
    refine (opOk_i _ qs _ h1'.out).mono ?_
    rintro e w2 ⟨rfl, b2⟩
    rw [HO2.out]
    have h2 := Lib.hid (h1.out.later b2)
    have h2' := Lib.hid (h1'.out.later b2)
    have B2 := Lib.hid (B1.out.trans (b2.mono B1.out.size))
    clear b2 h1 h1' B1
    go_wp2_with (fail)
    refine (opTo_i _ ps _ h2.out).mono ?_
    rintro e w3 ⟨rfl, b3⟩
    have h3 := Lib.hid (h2.out.later b3)
    have h3' := Lib.hid (h2'.out.later b3)
    have B3 := Lib.hid (B2.out.trans (b3.mono B2.out.size))
    clear b3 h2 h2' B2
    go_wp2_with (fail)
    refine (opFrom_i _ qs _ h3'.out).mono ?_
    rintro e w4 ⟨rfl, b4⟩
    have h4 := Lib.hid (h3.out.later b4)
    have h4' := Lib.hid (h3'.out.later b4)
    have B4 := Lib.hid (B3.out.trans (b4.mono B3.out.size))
    clear b4 h3 h3' B3
    go_wp2_with (fail)
    go_ret2
    exact ⟨_, [], by rw [HN.out]; rfl, by rw [HV.out]; exact OwnP.nil _ _ _, B4.out⟩
  have HO1 := Lib.hid ho1
  have HO2 := Lib.hid ho2
  have HFT := Lib.hid hft
  have HC0 := Lib.hid (Pl.CSt.start ho1 ho2 hft)
  have ul1 := Pl.len_units ho1
  have ul2 := Pl.len_units ho2
  have pl1 := partsOk_len (opOk_partsOk ho1)
  have pl2 := partsOk_len (opOk_partsOk ho2)
  clear ho1 ho2
  go_enter Tryz.func14, Tryz.ntmps14
  go_wp2_with (fail)
  refine (opOk_i _ ps _ h0.out).mono ?_
  rintro e w1 ⟨rfl, b1⟩
  rw [HO1.out]
  have h1 := Lib.hid (h0.out.later b1)
  have h1' := Lib.hid (h0'.out.later b1)
  have B1 := Lib.hid b1
  clear b1
  go_wp2_with (fail)
  refine (opOk_i _ qs _ h1'.out).mono ?_
  rintro e w2 ⟨rfl, b2⟩
  rw [HO2.out]
  have h2 := Lib.hid (h1.out.later b2)
  have h2' := Lib.hid (h1'.out.later b2)
  have B2 := Lib.hid (B1.out.trans (b2.mono B1.out.size))
  clear b2 h1 h1' B1
  go_wp2_with (fail)
  refine (opTo_i _ ps _ h2.out).mono ?_
  rintro e w3 ⟨rfl, b3⟩
  have h3 := Lib.hid (h2.out.later b3)
  have h3' := Lib.hid (h2'.out.later b3)
  have B3 := Lib.hid (B2.out.trans (b3.mono B2.out.size))
  clear b3 h2 h2' B2
  go_wp2_with (fail)
  refine (opFrom_i _ qs _ h3'.out).mono ?_
  rintro e w4 ⟨rfl, b4⟩
  have h4 := Lib.hid (h3.out.later b4)
  have h4' := Lib.hid (h3'.out.later b4)
  have B4 := Lib.hid (B3.out.trans (b4.mono B3.out.size))
  clear b4 h3 h3' B3
  go_wp2_with (fail)
  have hw4 := B4.out.size
  have S0 := Lib.hid (start_st h4.out h4'.out)
  have B0 := Lib.hid (below_step (below_step B4.out (Frame.alloc (fun _ => False) _ (.cells #[.slice A ps.length c] 61)) (fun _ hh => hh.elim)) (Frame.alloc (fun _ => False) _ (.cells #[.slice A' qs.length c'] 61)) (fun _ hh => hh.elim))
  clear h4 h4' h0 h0'
  go_loopg [8] ((Pl.units ps).length + (Pl.units qs).length) (fun gk vo wr => ∃ (F : Nat → Prop) (svs : List Value) (acc q r : List Pt), gk = (Pl.units q).length + (Pl.units r).length ∧ Hid (St F wr w4.heap.size (w4.heap.size + 1) q r vo acc svs (.slice none 0 0) [] []) ∧ Hid (Pl.CSt (Pl.units ps) (Pl.units qs) (Pl.units acc) q r) ∧ Hid (∀ p ∈ acc, Pl.partOk p = true) ∧ acc.length + ((Pl.units q).length + (Pl.units r).length) ≤ 800 ∧ Hid (Below w.heap.size w wr) ∧ q.length ≤ 600 ∧ r.length ≤ 600 ∧ Hid (∀ g, vo.ownBlock = some g → w.heap.size ≤ g))
  case atStart => exact ⟨_, [], [], ps, qs, rfl, S0.out, HC0.out, (fun p hp => by simp at hp), by simp; omega, B0.out, pl1, pl2, fun g hg => by simp [Value.ownBlock] at hg⟩
  case round =>
    clear S0 B0 HC0
    obtain ⟨F, svs, acc, q, r, hgk, S, HC, HOK, hac, B, hql, hrl, VB⟩ := hrel
    subst hgk
    obtain ⟨q0, eq0⟩ : ∃ x, Pl.skip q = x := ⟨_, rfl⟩
    obtain ⟨r0, er0⟩ : ∃ x, Pl.skip r = x := ⟨_, rfl⟩
    obtain ⟨hc0, es, et, el1, el2, em1, em2⟩ := HC.out.both0 eq0 er0
    have OQ := Lib.hid HC.out.okq
    have OR := Lib.hid HC.out.okr
    have OQ0 := Lib.hid hc0.okq
    have OR0 := Lib.hid hc0.okr
    have EQ := Lib.hid eq0
    have ER := Lib.hid er0
    have EQ0 := Lib.hid es
    have ER0 := Lib.hid et
    have HC1 := Lib.hid hc0
    clear hc0 eq0 er0 es et HC
    obtain ⟨A9, c9, rfl⟩ := S.out.o1.shape
    have zr := B.out.size
    cases q0 with
    | nil =>
      have HQ : Hid (Pl.hd ([] : List Pt) = ⟨0, 0, []⟩) := rfl
      cases r0 with
      | nil =>
        have HR : Hid (Pl.hd ([] : List Pt) = ⟨0, 0, []⟩) := rfl
        -- PART stop
        go_wp2_with (fail)
        refine (S.out.nextX OQ.out EQ.out HQ.out).mono ?_
        rintro e wn1 ⟨pv, rfl, pn, sn, fn⟩
        obtain ⟨A1, c1, rfl⟩ : ∃ A c, pv = .agg #[.int .i64 (⟨0, 0, []⟩ : Pt).kind, .int .i64 (⟨0, 0, []⟩ : Pt).n, .slice A (⟨0, 0, []⟩ : Pt).signs.length c] := by obtain ⟨_, rfl, A, c, rfl, _⟩ := pn; exact ⟨A, c, rfl⟩
        have PN1 := Lib.hid pn
        have S' := Lib.hid sn
        have B' := Lib.hid (below_step B.out fn (fun i hi => by omega))
        have zn1 := B'.out.size
        clear pn sn fn S B
        have S := S'
        have B := B'
        clear S' B'
        go_wp2_with (fail)
        refine (S.out.nextY OR.out ER.out HR.out).mono ?_
        rintro e wn2 ⟨pv, rfl, pn, sn, fn⟩
        obtain ⟨A2, c2, rfl⟩ : ∃ A c, pv = .agg #[.int .i64 (⟨0, 0, []⟩ : Pt).kind, .int .i64 (⟨0, 0, []⟩ : Pt).n, .slice A (⟨0, 0, []⟩ : Pt).signs.length c] := by obtain ⟨_, rfl, A, c, rfl, _⟩ := pn; exact ⟨A, c, rfl⟩
        have PN2 := Lib.hid pn
        have S' := Lib.hid sn
        have B' := Lib.hid (below_step B.out fn (fun i hi => by omega))
        have zn2 := B'.out.size
        clear pn sn fn S B
        have S := S'
        have B := B'
        clear S' B'
        go_wp2_with (fail)
        have HF := Lib.hid (fine_all HOK.out)
        have HE : Hid (Pl.norm acc = Pl.cmpL ps qs) := by show _ = _; rw [Pl.norm_grp (fun p hp => (partOk_facts (HOK.out p hp)).2.1), HC1.out.stop]; rfl
        have zz := B.out.size
        refine (normal_i _ acc _ S.out.o1.slice HF.out (by omega)).mono ?_
        rintro e wz ⟨u, uvs, rfl, ou, bu⟩
        rw [HE.out] at ou
        have OU := Lib.hid ou
        obtain ⟨A8, c8, rfl⟩ := own_shape ou.row
        have BU := Lib.hid (B.out.trans (bu.mono zz))
        have zu := bu.size
        clear ou bu S B
        go_wp2_with (fail)
        refine (opOk_i _ (Pl.cmpL ps qs) _ OU.out.slice).mono ?_
        rintro e wy ⟨rfl, by1⟩
        have BY := Lib.hid (BU.out.trans (by1.mono (by omega)))
        have OY := Lib.hid (ownP_lower (lo' := w.heap.size) (OU.out.below by1) zz)
        have zy := by1.size
        clear by1 OU BU
        by_cases hfin : Pl.opOk (Pl.cmpL ps qs) = true
        · have HN : Hid (Pl.cmpOk ps qs = true) := by show _ = _; rw [Pl.cmpOk, HO1.out, HO2.out, decide_eq_true HFT.out, hfin]; rfl
          have HV : Hid (Pl.compose ps qs = Pl.cmpL ps qs) := by show _ = _; rw [Pl.compose, if_pos HN.out]
          rw [hfin]
          clear hfin
          go_wp2_with (fail)
          go_ret2
          exact ⟨_, _, by rw [HN.out]; rfl, by rw [HV.out]; exact OY.out.upto zy, BY.out⟩
        · have hfin' : Pl.opOk (Pl.cmpL ps qs) = false := by simpa using hfin
          have HN : Hid (Pl.cmpOk ps qs = false) := by show _ = _; rw [Pl.cmpOk, hfin', Bool.and_false]
          have HV : Hid (Pl.compose ps qs = []) := by show _ = _; rw [Pl.compose, if_neg (by rw [HN.out]; decide)]
          rw [hfin']
          clear hfin hfin'
          go_wp2_with (fail)
          go_ret2
          exact ⟨_, [], by rw [HN.out]; rfl, by rw [HV.out]; exact OwnP.nil _ _ _, BY.out⟩
        -- END stop
      | cons s r1 =>
        have HR : Hid (Pl.hd (s :: r1) = s) := rfl
        have oks := OR0.out s (by simp)
        obtain ⟨szs, uns⟩ := Pl.head_len (q := r1) oks (Pl.skip_head ER0.out)
        obtain ⟨Ns, hNs⟩ : ∃ n : Nat, (n : Int) = Pl.size s := ⟨(Pl.size s).toNat, by omega⟩
        have hN2s := (Pl.size_nat oks).2
        have kds := (partOk_facts oks).1
        have hks : s.kind = 2 := by
          rcases Classical.em (s.kind = 2) with h | h
          · exact h
          · have := HC1.out.noY ER0.out h; cases this
        have k0s : (s.kind == 0) = false := by simp [hks]
        have k1s : (s.kind == 1) = false := by simp [hks]
        have k2s : (s.kind == 2) = true := by simp [hks]
        have k3s : (s.kind == 3) = false := by simp [hks]
        have kns : (s.kind != 0) = true := by simp [hks]
        have HKs := Lib.hid hks
        clear hks kds
        -- PART put1
        have HNs := Lib.hid hNs
        have hN3s : (Ns : Int) ≤ 200 := by omega
        have hN1s : 1 ≤ Ns := by omega
        have ONs := Lib.hid oks
        have hcs : (Pl.units (s :: r1)).length = Ns + (Pl.units (Pl.lf s Ns :: r1)).length := Pl.cut_len oks (by omega)
        clear hNs hN2s szs oks
        obtain ⟨pt, ept⟩ : ∃ x, Pl.tk s Ns = x := ⟨_, rfl⟩
        have EPT := Lib.hid ept
        have OPT : Hid (Pl.partOk pt = true) := by show _ = _; rw [← EPT.out]; exact Pl.tk_ok ONs.out (by rw [HNs.out]; exact Int.le_refl _)
        clear ept
        go_wp2_with (fail)
        refine (S.out.nextX OQ.out EQ.out HQ.out).mono ?_
        rintro e wn3 ⟨pv, rfl, pn, sn, fn⟩
        obtain ⟨A3, c3, rfl⟩ : ∃ A c, pv = .agg #[.int .i64 (⟨0, 0, []⟩ : Pt).kind, .int .i64 (⟨0, 0, []⟩ : Pt).n, .slice A (⟨0, 0, []⟩ : Pt).signs.length c] := by obtain ⟨_, rfl, A, c, rfl, _⟩ := pn; exact ⟨A, c, rfl⟩
        have PN3 := Lib.hid pn
        have S' := Lib.hid sn
        have B' := Lib.hid (below_step B.out fn (fun i hi => by omega))
        have zn3 := B'.out.size
        clear pn sn fn S B
        have S := S'
        have B := B'
        clear S' B'
        go_wp2_with (fail)
        refine (S.out.nextY OR.out ER.out HR.out).mono ?_
        rintro e wn4 ⟨pv, rfl, pn, sn, fn⟩
        obtain ⟨A4, c4, rfl⟩ : ∃ A c, pv = .agg #[.int .i64 s.kind, .int .i64 s.n, .slice A s.signs.length c] := by obtain ⟨_, rfl, A, c, rfl, _⟩ := pn; exact ⟨A, c, rfl⟩
        have PN4 := Lib.hid pn
        have S' := Lib.hid sn
        have B' := Lib.hid (below_step B.out fn (fun i hi => by omega))
        have zn4 := B'.out.size
        clear pn sn fn S B
        have S := S'
        have B := B'
        clear S' B'
        go_wp2_with (fail)
        refine (S.out.nextX OQ0.out EQ0.out HQ.out).mono ?_
        rintro e wn5 ⟨pv, rfl, pn, sn, fn⟩
        obtain ⟨A5, c5, rfl⟩ : ∃ A c, pv = .agg #[.int .i64 (⟨0, 0, []⟩ : Pt).kind, .int .i64 (⟨0, 0, []⟩ : Pt).n, .slice A (⟨0, 0, []⟩ : Pt).signs.length c] := by obtain ⟨_, rfl, A, c, rfl, _⟩ := pn; exact ⟨A, c, rfl⟩
        have PN5 := Lib.hid pn
        have S' := Lib.hid sn
        have B' := Lib.hid (below_step B.out fn (fun i hi => by omega))
        have zn5 := B'.out.size
        clear pn sn fn S B
        have S := S'
        have B := B'
        clear S' B'
        go_wp2_with (fail)
        refine (S.out.nextY OR0.out ER0.out HR.out).mono ?_
        rintro e wn6 ⟨pv, rfl, pn, sn, fn⟩
        obtain ⟨A6, c6, rfl⟩ : ∃ A c, pv = .agg #[.int .i64 s.kind, .int .i64 s.n, .slice A s.signs.length c] := by obtain ⟨_, rfl, A, c, rfl, _⟩ := pn; exact ⟨A, c, rfl⟩
        have PN6 := Lib.hid pn
        have S' := Lib.hid sn
        have B' := Lib.hid (below_step B.out fn (fun i hi => by omega))
        have zn6 := B'.out.size
        clear pn sn fn S B
        have S := S'
        have B := B'
        clear S' B'
        go_wp2_with (fail)
        refine (S.out.wholeY Ns ONs.out HNs.out (by simp at em2; omega) EPT.out).mono ?_
        rintro e wn7 ⟨pv, rfl, pn, sn, fn⟩
        obtain ⟨A7, c7, rfl⟩ : ∃ A c, pv = .agg #[.int .i64 pt.kind, .int .i64 pt.n, .slice A pt.signs.length c] := by obtain ⟨_, rfl, A, c, rfl, _⟩ := pn; exact ⟨A, c, rfl⟩
        have PN7 := Lib.hid pn
        have S' := Lib.hid sn
        have B' := Lib.hid (below_step B.out fn (fun i hi => by omega))
        have zn7 := B'.out.size
        clear pn sn fn S B
        have S := S'
        have B := B'
        clear S' B'
        go_wp2_with (at_builtin; refine wpList_append_lies _ rfl (.tmp 87) (.tmp 90) 22 rfl 0 47 i0 _ 3 40 Tryz.underlying22 hi hz0 hz1 hz2 rfl (by decide) _ _ _ (by rfl) (S.out.o1.row.alloc _) ⟨wn7.heap.size, 0, none⟩ 1 1 [.int .i64 pt.kind, .int .i64 pt.n, .slice A7 pt.signs.length c7] (by rfl) rfl (World.news_of_block (heap_new_at _ _ (by first | rfl | (simp; done) | omega))) (by simp [Value.oneCell']) (by omega) (by unfold maxLen; omega) (by omega) (Nat.zero_le _) (wn7.heap.size + 1) (by simp) ?_)
        intro gg cap w9 hown hg hat hlt
        obtain ⟨s9, f9⟩ := (S.out.free (Frame.alloc (fun _ => False) _ _)).push1 pt rfl hown hg hat (by simp) ((by obtain ⟨_, e, R⟩ := PN7.out; injection e with e; injection e with e; simp only [List.cons.injEq, and_true] at e; obtain ⟨-, -, rfl⟩ := e; exact R.frame (Frame.alloc (fun _ => False) _ _) (fun _ _ hh => hh)))
        have B9 := Lib.hid (below_step (below_step B.out (Frame.alloc (fun _ => False) _ _) (fun _ hh => hh.elim)) f9 (fun i hi => VB.out i hi))
        have VB9 : Hid (∀ g, (Value.slice (some ⟨gg, 0, none⟩) (acc.length + 1) cap).ownBlock = some g → w.heap.size ≤ g) := fun g hh => by
          have e9 : gg = g := Option.some.inj hh
          rcases hat with e | e
          · exact VB.out g (by rw [← e9]; exact e)
          · omega
        have S9 := Lib.hid s9
        clear s9 f9 hown hg hat hlt S B VB
        have S := S9
        have B := B9
        have VB := VB9
        clear S9 B9 VB9
        go_wp2_with (fail)
        have HC' : Hid (Pl.CSt (Pl.units ps) (Pl.units qs) (Pl.units (acc ++ [pt])) ([]) (Pl.lf s Ns :: r1)) := by
          show Pl.CSt _ _ _ _ _
          rw [units_snoc, ← EPT.out]
          exact HC1.out.put (n := Ns) (Int.le_of_eq HNs.out) HKs.out EQ0.out (by decide)
        go_roundg ((Pl.units ([])).length + (Pl.units (Pl.lf s Ns :: r1)).length)
        case rel => exact ⟨_, _, acc ++ [pt], [], Pl.lf s Ns :: r1, rfl, S.out, HC'.out, ok_snoc HOK.out OPT.out, by simp; omega, B.out, by simp, by simp at em2 ⊢; omega, VB.out⟩
        case measure => omega
        -- END put1
    | cons p q1 =>
      have HQ : Hid (Pl.hd (p :: q1) = p) := rfl
      have okp := OQ0.out p (by simp)
      obtain ⟨szp, unp⟩ := Pl.head_len (q := q1) okp (Pl.skip_head EQ0.out)
      obtain ⟨Np, hNp⟩ : ∃ n : Nat, (n : Int) = Pl.size p := ⟨(Pl.size p).toNat, by omega⟩
      have hN2p := (Pl.size_nat okp).2
      have kdp := (partOk_facts okp).1
      by_cases hkp : p.kind = 3
      ·
        have k0p : (p.kind == 0) = false := by simp [hkp]
        have k1p : (p.kind == 1) = false := by simp [hkp]
        have k2p : (p.kind == 2) = false := by simp [hkp]
        have k3p : (p.kind == 3) = true := by simp [hkp]
        have knp : (p.kind != 0) = true := by simp [hkp]
        have HKp := Lib.hid hkp
        clear hkp kdp
        -- PART drop
        have HNp := Lib.hid hNp
        have hN3p : (Np : Int) ≤ 200 := by omega
        have hN1p : 1 ≤ Np := by omega
        have ONp := Lib.hid okp
        have hcp : (Pl.units (p :: q1)).length = Np + (Pl.units (Pl.lf p Np :: q1)).length := Pl.cut_len okp (by omega)
        clear hNp hN2p szp okp
        obtain ⟨pt, ept⟩ : ∃ x, Pl.tk p Np = x := ⟨_, rfl⟩
        have EPT := Lib.hid ept
        have OPT : Hid (Pl.partOk pt = true) := by show _ = _; rw [← EPT.out]; exact Pl.tk_ok ONp.out (by rw [HNp.out]; exact Int.le_refl _)
        clear ept
        go_wp2_with (fail)
        refine (S.out.nextX OQ.out EQ.out HQ.out).mono ?_
        rintro e wn8 ⟨pv, rfl, pn, sn, fn⟩
        obtain ⟨A8, c8, rfl⟩ : ∃ A c, pv = .agg #[.int .i64 p.kind, .int .i64 p.n, .slice A p.signs.length c] := by obtain ⟨_, rfl, A, c, rfl, _⟩ := pn; exact ⟨A, c, rfl⟩
        have PN8 := Lib.hid pn
        have S' := Lib.hid sn
        have B' := Lib.hid (below_step B.out fn (fun i hi => by omega))
        have zn8 := B'.out.size
        clear pn sn fn S B
        have S := S'
        have B := B'
        clear S' B'
        go_wp2_with (fail)
        refine (S.out.nextX OQ0.out EQ0.out HQ.out).mono ?_
        rintro e wn9 ⟨pv, rfl, pn, sn, fn⟩
        obtain ⟨A9, c9, rfl⟩ : ∃ A c, pv = .agg #[.int .i64 p.kind, .int .i64 p.n, .slice A p.signs.length c] := by obtain ⟨_, rfl, A, c, rfl, _⟩ := pn; exact ⟨A, c, rfl⟩
        have PN9 := Lib.hid pn
        have S' := Lib.hid sn
        have B' := Lib.hid (below_step B.out fn (fun i hi => by omega))
        have zn9 := B'.out.size
        clear pn sn fn S B
        have S := S'
        have B := B'
        clear S' B'
        go_wp2_with (fail)
        refine (S.out.wholeX Np ONp.out HNp.out (by simp at em1; omega) EPT.out).mono ?_
        rintro e wn10 ⟨pv, rfl, pn, sn, fn⟩
        obtain ⟨A10, c10, rfl⟩ : ∃ A c, pv = .agg #[.int .i64 pt.kind, .int .i64 pt.n, .slice A pt.signs.length c] := by obtain ⟨_, rfl, A, c, rfl, _⟩ := pn; exact ⟨A, c, rfl⟩
        have PN10 := Lib.hid pn
        have S' := Lib.hid sn
        have B' := Lib.hid (below_step B.out fn (fun i hi => by omega))
        have zn10 := B'.out.size
        clear pn sn fn S B
        have S := S'
        have B := B'
        clear S' B'
        go_wp2_with (at_builtin; refine wpList_append_lies _ rfl (.tmp 77) (.tmp 80) 22 rfl 0 47 i0 _ 3 40 Tryz.underlying22 hi hz0 hz1 hz2 rfl (by decide) _ _ _ (by rfl) (S.out.o1.row.alloc _) ⟨wn10.heap.size, 0, none⟩ 1 1 [.int .i64 pt.kind, .int .i64 pt.n, .slice A10 pt.signs.length c10] (by rfl) rfl (World.news_of_block (heap_new_at _ _ (by first | rfl | (simp; done) | omega))) (by simp [Value.oneCell']) (by omega) (by unfold maxLen; omega) (by omega) (Nat.zero_le _) (wn10.heap.size + 1) (by simp) ?_)
        intro gg cap w9 hown hg hat hlt
        obtain ⟨s9, f9⟩ := (S.out.free (Frame.alloc (fun _ => False) _ _)).push1 pt rfl hown hg hat (by simp) ((by obtain ⟨_, e, R⟩ := PN10.out; injection e with e; injection e with e; simp only [List.cons.injEq, and_true] at e; obtain ⟨-, -, rfl⟩ := e; exact R.frame (Frame.alloc (fun _ => False) _ _) (fun _ _ hh => hh)))
        have B9 := Lib.hid (below_step (below_step B.out (Frame.alloc (fun _ => False) _ _) (fun _ hh => hh.elim)) f9 (fun i hi => VB.out i hi))
        have VB9 : Hid (∀ g, (Value.slice (some ⟨gg, 0, none⟩) (acc.length + 1) cap).ownBlock = some g → w.heap.size ≤ g) := fun g hh => by
          have e9 : gg = g := Option.some.inj hh
          rcases hat with e | e
          · exact VB.out g (by rw [← e9]; exact e)
          · omega
        have S9 := Lib.hid s9
        clear s9 f9 hown hg hat hlt S B VB
        have S := S9
        have B := B9
        have VB := VB9
        clear S9 B9 VB9
        have hcr : Hid (Pl.CSt (Pl.units ps) (Pl.units qs) (Pl.units acc) (p :: q1) r) := ⟨HC1.out.okq, OR.out, by have := HC1.out.mid; rw [← ER.out, Pl.units_skip OR.out] at this; exact this, by have := HC1.out.all; rw [← ER.out, Pl.units_skip OR.out] at this; exact this⟩
        go_wp2_with (fail)
        have HC' : Hid (Pl.CSt (Pl.units ps) (Pl.units qs) (Pl.units (acc ++ [pt])) (Pl.lf p Np :: q1) (r)) := by
          show Pl.CSt _ _ _ _ _
          rw [units_snoc, ← EPT.out]
          exact hcr.out.drop (n := Np) (Int.le_of_eq HNp.out) HKp.out
        go_roundg ((Pl.units (Pl.lf p Np :: q1)).length + (Pl.units (r)).length)
        case rel => exact ⟨_, _, acc ++ [pt], Pl.lf p Np :: q1, r, rfl, S.out, HC'.out, ok_snoc HOK.out OPT.out, by simp; omega, B.out, by simp at em1 ⊢; omega, hrl, VB.out⟩
        case measure => omega
        -- END drop
      cases r0 with
      | nil => have := HC1.out.noX EQ0.out hkp; cases this
      | cons s r1 =>
        have HR : Hid (Pl.hd (s :: r1) = s) := rfl
        have oks := OR0.out s (by simp)
        obtain ⟨szs, uns⟩ := Pl.head_len (q := r1) oks (Pl.skip_head ER0.out)
        obtain ⟨Ns, hNs⟩ : ∃ n : Nat, (n : Int) = Pl.size s := ⟨(Pl.size s).toNat, by omega⟩
        have hN2s := (Pl.size_nat oks).2
        have kds := (partOk_facts oks).1
        have HK3 := Lib.hid hkp
        by_cases hks : s.kind = 2
        ·
          have k0p : (p.kind == 0) = false := by rcases kdp with h | h | h <;> simp [h]
          have knp : (p.kind != 0) = true := by rcases kdp with h | h | h <;> simp [h]
          have k3p : (p.kind == 3) = false := by simpa using hkp
          clear hkp kdp
          have k0s : (s.kind == 0) = false := by simp [hks]
          have k1s : (s.kind == 1) = false := by simp [hks]
          have k2s : (s.kind == 2) = true := by simp [hks]
          have k3s : (s.kind == 3) = false := by simp [hks]
          have kns : (s.kind != 0) = true := by simp [hks]
          have HKs := Lib.hid hks
          clear hks kds
          -- PART put0
          have HNs := Lib.hid hNs
          have hN3s : (Ns : Int) ≤ 200 := by omega
          have hN1s : 1 ≤ Ns := by omega
          have ONs := Lib.hid oks
          have hcs : (Pl.units (s :: r1)).length = Ns + (Pl.units (Pl.lf s Ns :: r1)).length := Pl.cut_len oks (by omega)
          clear hNs hN2s szs oks
          obtain ⟨pt, ept⟩ : ∃ x, Pl.tk s Ns = x := ⟨_, rfl⟩
          have EPT := Lib.hid ept
          have OPT : Hid (Pl.partOk pt = true) := by show _ = _; rw [← EPT.out]; exact Pl.tk_ok ONs.out (by rw [HNs.out]; exact Int.le_refl _)
          clear ept
          go_wp2_with (fail)
          refine (S.out.nextX OQ.out EQ.out HQ.out).mono ?_
          rintro e wn11 ⟨pv, rfl, pn, sn, fn⟩
          obtain ⟨A11, c11, rfl⟩ : ∃ A c, pv = .agg #[.int .i64 p.kind, .int .i64 p.n, .slice A p.signs.length c] := by obtain ⟨_, rfl, A, c, rfl, _⟩ := pn; exact ⟨A, c, rfl⟩
          have PN11 := Lib.hid pn
          have S' := Lib.hid sn
          have B' := Lib.hid (below_step B.out fn (fun i hi => by omega))
          have zn11 := B'.out.size
          clear pn sn fn S B
          have S := S'
          have B := B'
          clear S' B'
          go_wp2_with (fail)
          refine (S.out.nextX OQ0.out EQ0.out HQ.out).mono ?_
          rintro e wn12 ⟨pv, rfl, pn, sn, fn⟩
          obtain ⟨A12, c12, rfl⟩ : ∃ A c, pv = .agg #[.int .i64 p.kind, .int .i64 p.n, .slice A p.signs.length c] := by obtain ⟨_, rfl, A, c, rfl, _⟩ := pn; exact ⟨A, c, rfl⟩
          have PN12 := Lib.hid pn
          have S' := Lib.hid sn
          have B' := Lib.hid (below_step B.out fn (fun i hi => by omega))
          have zn12 := B'.out.size
          clear pn sn fn S B
          have S := S'
          have B := B'
          clear S' B'
          go_wp2_with (fail)
          refine (S.out.nextY OR.out ER.out HR.out).mono ?_
          rintro e wn13 ⟨pv, rfl, pn, sn, fn⟩
          obtain ⟨A13, c13, rfl⟩ : ∃ A c, pv = .agg #[.int .i64 s.kind, .int .i64 s.n, .slice A s.signs.length c] := by obtain ⟨_, rfl, A, c, rfl, _⟩ := pn; exact ⟨A, c, rfl⟩
          have PN13 := Lib.hid pn
          have S' := Lib.hid sn
          have B' := Lib.hid (below_step B.out fn (fun i hi => by omega))
          have zn13 := B'.out.size
          clear pn sn fn S B
          have S := S'
          have B := B'
          clear S' B'
          go_wp2_with (fail)
          refine (S.out.wholeY Ns ONs.out HNs.out (by simp at em2; omega) EPT.out).mono ?_
          rintro e wn14 ⟨pv, rfl, pn, sn, fn⟩
          obtain ⟨A14, c14, rfl⟩ : ∃ A c, pv = .agg #[.int .i64 pt.kind, .int .i64 pt.n, .slice A pt.signs.length c] := by obtain ⟨_, rfl, A, c, rfl, _⟩ := pn; exact ⟨A, c, rfl⟩
          have PN14 := Lib.hid pn
          have S' := Lib.hid sn
          have B' := Lib.hid (below_step B.out fn (fun i hi => by omega))
          have zn14 := B'.out.size
          clear pn sn fn S B
          have S := S'
          have B := B'
          clear S' B'
          go_wp2_with (at_builtin; refine wpList_append_lies _ rfl (.tmp 87) (.tmp 90) 22 rfl 0 47 i0 _ 3 40 Tryz.underlying22 hi hz0 hz1 hz2 rfl (by decide) _ _ _ (by rfl) (S.out.o1.row.alloc _) ⟨wn14.heap.size, 0, none⟩ 1 1 [.int .i64 pt.kind, .int .i64 pt.n, .slice A14 pt.signs.length c14] (by rfl) rfl (World.news_of_block (heap_new_at _ _ (by first | rfl | (simp; done) | omega))) (by simp [Value.oneCell']) (by omega) (by unfold maxLen; omega) (by omega) (Nat.zero_le _) (wn14.heap.size + 1) (by simp) ?_)
          intro gg cap w9 hown hg hat hlt
          obtain ⟨s9, f9⟩ := (S.out.free (Frame.alloc (fun _ => False) _ _)).push1 pt rfl hown hg hat (by simp) ((by obtain ⟨_, e, R⟩ := PN14.out; injection e with e; injection e with e; simp only [List.cons.injEq, and_true] at e; obtain ⟨-, -, rfl⟩ := e; exact R.frame (Frame.alloc (fun _ => False) _ _) (fun _ _ hh => hh)))
          have B9 := Lib.hid (below_step (below_step B.out (Frame.alloc (fun _ => False) _ _) (fun _ hh => hh.elim)) f9 (fun i hi => VB.out i hi))
          have VB9 : Hid (∀ g, (Value.slice (some ⟨gg, 0, none⟩) (acc.length + 1) cap).ownBlock = some g → w.heap.size ≤ g) := fun g hh => by
            have e9 : gg = g := Option.some.inj hh
            rcases hat with e | e
            · exact VB.out g (by rw [← e9]; exact e)
            · omega
          have S9 := Lib.hid s9
          clear s9 f9 hown hg hat hlt S B VB
          have S := S9
          have B := B9
          have VB := VB9
          clear S9 B9 VB9
          go_wp2_with (fail)
          have HC' : Hid (Pl.CSt (Pl.units ps) (Pl.units qs) (Pl.units (acc ++ [pt])) ((p :: q1)) (Pl.lf s Ns :: r1)) := by
            show Pl.CSt _ _ _ _ _
            rw [units_snoc, ← EPT.out]
            exact HC1.out.put (n := Ns) (Int.le_of_eq HNs.out) HKs.out EQ0.out HK3.out
          go_roundg ((Pl.units ((p :: q1))).length + (Pl.units (Pl.lf s Ns :: r1)).length)
          case rel => exact ⟨_, _, acc ++ [pt], (p :: q1), Pl.lf s Ns :: r1, rfl, S.out, HC'.out, ok_snoc HOK.out OPT.out, by simp; omega, B.out, by simp at em1 ⊢; omega, by simp at em2 ⊢; omega, VB.out⟩
          case measure => omega
          -- END put0
        -- PART both
        have k0p : (p.kind == 0) = false := by rcases kdp with h | h | h <;> simp [h]
        have knp : (p.kind != 0) = true := by rcases kdp with h | h | h <;> simp [h]
        have k0s : (s.kind == 0) = false := by rcases kds with h | h | h <;> simp [h]
        have kns : (s.kind != 0) = true := by rcases kds with h | h | h <;> simp [h]
        have k3p : (p.kind == 3) = false := by simpa using hkp
        have k2s : (s.kind == 2) = false := by simpa using hks
        have HKS := Lib.hid hks
        obtain ⟨m, hm⟩ : ∃ m : Nat, m = min Np Ns := ⟨_, rfl⟩
        have hmi : min (Np : Int) (Ns : Int) = (m : Int) := by omega
        have hle1 : (m : Int) ≤ Pl.size p := by omega
        have hle2 : (m : Int) ≤ Pl.size s := by omega
        have hcp : (Pl.units (p :: q1)).length = m + (Pl.units (Pl.lf p m :: q1)).length := Pl.cut_len okp hle1
        have hcs : (Pl.units (s :: r1)).length = m + (Pl.units (Pl.lf s m :: r1)).length := Pl.cut_len oks hle2
        have hNm : 1 ≤ m ∧ (m : Int) ≤ 200 := by omega
        obtain ⟨pt, ept⟩ : ∃ x, Pl.tk p m = x := ⟨_, rfl⟩
        obtain ⟨st, est⟩ : ∃ x, Pl.tk s m = x := ⟨_, rfl⟩
        have OPT : Hid (Pl.partOk pt = true) := by show _ = _; rw [← ept]; exact Pl.tk_ok okp hle1
        have OST : Hid (Pl.partOk st = true) := by show _ = _; rw [← est]; exact Pl.tk_ok oks hle2
        have KPT : Hid (pt.kind = p.kind) := by show _ = _; rw [← ept, Pl.tk_kind]
        have KST : Hid (st.kind = s.kind) := by show _ = _; rw [← est, Pl.tk_kind]
        have HB := Lib.hid (HC1.out.both hle1 hle2 hkp hks)
        have EPT := Lib.hid ept
        have EST := Lib.hid est
        have HNp := Lib.hid hNp
        have HNs := Lib.hid hNs
        have ONp := Lib.hid okp
        have ONs := Lib.hid oks
        have hpn := (partOk_facts okp).2
        have hsn := (partOk_facts oks).2
        have HM := Lib.hid hm
        clear hm
        have HL1 := Lib.hid hle1
        have HL2 := Lib.hid hle2
        have HMI := Lib.hid hmi
        have hb1 : 0 ≤ p.n ∧ p.n ≤ 1000000 ∧ p.signs.length ≤ 1000000 := by obtain ⟨a, b, c, _⟩ := hpn; omega
        have hb2 : 0 ≤ s.n ∧ s.n ≤ 1000000 ∧ s.signs.length ≤ 1000000 := by obtain ⟨a, b, c, _⟩ := hsn; omega
        clear ept est hNp hNs hN2p hN2s szp szs okp oks hpn hsn hle1 hle2 unp uns hkp hks kdp kds hmi HK3
        go_wp2_with (fail)
        refine (S.out.nextX OQ.out EQ.out HQ.out).mono ?_
        rintro e wn15 ⟨pv, rfl, pn, sn, fn⟩
        obtain ⟨A15, c15, rfl⟩ : ∃ A c, pv = .agg #[.int .i64 p.kind, .int .i64 p.n, .slice A p.signs.length c] := by obtain ⟨_, rfl, A, c, rfl, _⟩ := pn; exact ⟨A, c, rfl⟩
        have PN15 := Lib.hid pn
        have S' := Lib.hid sn
        have B' := Lib.hid (below_step B.out fn (fun i hi => by omega))
        have zn15 := B'.out.size
        clear pn sn fn S B
        have S := S'
        have B := B'
        clear S' B'
        go_wp2_with (fail)
        refine (S.out.nextX OQ0.out EQ0.out HQ.out).mono ?_
        rintro e wn16 ⟨pv, rfl, pn, sn, fn⟩
        obtain ⟨A16, c16, rfl⟩ : ∃ A c, pv = .agg #[.int .i64 p.kind, .int .i64 p.n, .slice A p.signs.length c] := by obtain ⟨_, rfl, A, c, rfl, _⟩ := pn; exact ⟨A, c, rfl⟩
        have PN16 := Lib.hid pn
        have S' := Lib.hid sn
        have B' := Lib.hid (below_step B.out fn (fun i hi => by omega))
        have zn16 := B'.out.size
        clear pn sn fn S B
        have S := S'
        have B := B'
        clear S' B'
        go_wp2_with (fail)
        refine (S.out.nextY OR.out ER.out HR.out).mono ?_
        rintro e wn17 ⟨pv, rfl, pn, sn, fn⟩
        obtain ⟨A17, c17, rfl⟩ : ∃ A c, pv = .agg #[.int .i64 s.kind, .int .i64 s.n, .slice A s.signs.length c] := by obtain ⟨_, rfl, A, c, rfl, _⟩ := pn; exact ⟨A, c, rfl⟩
        have PN17 := Lib.hid pn
        have S' := Lib.hid sn
        have B' := Lib.hid (below_step B.out fn (fun i hi => by omega))
        have zn17 := B'.out.size
        clear pn sn fn S B
        have S := S'
        have B := B'
        clear S' B'
        go_wp2_with (fail)
        refine (S.out.nextX OQ0.out EQ0.out HQ.out).mono ?_
        rintro e wn18 ⟨pv, rfl, pn, sn, fn⟩
        obtain ⟨A18, c18, rfl⟩ : ∃ A c, pv = .agg #[.int .i64 p.kind, .int .i64 p.n, .slice A p.signs.length c] := by obtain ⟨_, rfl, A, c, rfl, _⟩ := pn; exact ⟨A, c, rfl⟩
        have PN18 := Lib.hid pn
        have S' := Lib.hid sn
        have B' := Lib.hid (below_step B.out fn (fun i hi => by omega))
        have zn18 := B'.out.size
        clear pn sn fn S B
        have S := S'
        have B := B'
        clear S' B'
        go_wp2_with (fail)
        refine (size_i _ p _ PN18.out.part hb1.1 hb1.2.1 hb1.2.2).mono ?_
        rintro e wzp ⟨he, bz⟩
        rw [← HNp.out] at he
        subst he
        have S' := Lib.hid (S.out.free (Frame.ofBelow bz))
        have B' := Lib.hid (B.out.trans (bz.mono (by omega)))
        have zzp := B'.out.size
        clear S B bz PN18
        have S := S'
        have B := B'
        clear S' B'
        go_wp2_with (fail)
        refine (S.out.nextY OR0.out ER0.out HR.out).mono ?_
        rintro e wn19 ⟨pv, rfl, pn, sn, fn⟩
        obtain ⟨A19, c19, rfl⟩ : ∃ A c, pv = .agg #[.int .i64 s.kind, .int .i64 s.n, .slice A s.signs.length c] := by obtain ⟨_, rfl, A, c, rfl, _⟩ := pn; exact ⟨A, c, rfl⟩
        have PN19 := Lib.hid pn
        have S' := Lib.hid sn
        have B' := Lib.hid (below_step B.out fn (fun i hi => by omega))
        have zn19 := B'.out.size
        clear pn sn fn S B
        have S := S'
        have B := B'
        clear S' B'
        go_wp2_with (fail)
        refine (size_i _ s _ PN19.out.part hb2.1 hb2.2.1 hb2.2.2).mono ?_
        rintro e wzs ⟨he, bz⟩
        rw [← HNs.out] at he
        subst he
        have S' := Lib.hid (S.out.free (Frame.ofBelow bz))
        have B' := Lib.hid (B.out.trans (bz.mono (by omega)))
        have zzs := B'.out.size
        clear S B bz PN19
        have S := S'
        have B := B'
        clear S' B'
        obtain ⟨pl, epl⟩ : ∃ x, Pl.lf p m = x := ⟨_, rfl⟩
        obtain ⟨sl, esl⟩ : ∃ x, Pl.lf s m = x := ⟨_, rfl⟩
        rw [epl] at hcp
        rw [esl] at hcs
        have EPL := Lib.hid epl
        have ESL := Lib.hid esl
        clear epl esl
        rcases Nat.lt_or_ge Ns Np with hle | hle
        ·
          obtain rfl : m = Ns := by rw [HM.out]; omega
          go_wp2_with (fail)
          refine (S.out.takeX _ ONp.out HL1.out (by simp at em1; omega) EPT.out).mono ?_
          rintro e wn20 ⟨pv, rfl, pn, sn, fn⟩
          obtain ⟨A20, c20, rfl⟩ : ∃ A c, pv = .agg #[.int .i64 pt.kind, .int .i64 pt.n, .slice A pt.signs.length c] := by obtain ⟨_, rfl, A, c, rfl, _⟩ := pn; exact ⟨A, c, rfl⟩
          have PN20 := Lib.hid pn
          have S' := Lib.hid sn
          have B' := Lib.hid (below_step B.out fn (fun i hi => by omega))
          have zn20 := B'.out.size
          clear pn sn fn S B
          have S := S'
          have B := B'
          clear S' B'
          go_wp2_with (fail)
          refine (S.out.takeY _ ONs.out HL2.out (by simp at em2; omega) EST.out).mono ?_
          rintro e wn21 ⟨pv, rfl, pn, sn, fn⟩
          obtain ⟨A21, c21, rfl⟩ : ∃ A c, pv = .agg #[.int .i64 st.kind, .int .i64 st.n, .slice A st.signs.length c] := by obtain ⟨_, rfl, A, c, rfl, _⟩ := pn; exact ⟨A, c, rfl⟩
          have PN21 := Lib.hid pn
          have S' := Lib.hid sn
          have B' := Lib.hid (below_step B.out fn (fun i hi => by omega))
          have zn21 := B'.out.size
          have PP := Lib.hid (PN20.out.next fn S.out.two.ny)
          clear pn sn fn S B
          have S := S'
          have B := B'
          clear S' B'
          clear PN20
          have FA := Lib.hid (((Frame.refl (fun _ => False) wn21).andAlloc (.cells #[.int .i64 pt.kind, .int .i64 pt.n, .slice A20 pt.signs.length c20] 47)).andAlloc (.cells #[.int .i64 st.kind, .int .i64 st.n, .slice A21 st.signs.length c21] 47))
          rw [EPL.out, ESL.out] at S
          have S' := Lib.hid (S.out.free FA.out)
          have B' := Lib.hid (below_step B.out FA.out (fun _ hh => hh.elim))
          clear S B
          have S := S'
          have B := B'
          clear S' B'
          by_cases ks1 : s.kind = 1
          · have k1st : (st.kind == 1) = true := by rw [KST.out]; simp [ks1]
            have KS1 := Lib.hid ks1
            clear ks1
            -- PART t1
            go_wp2_with (at_builtin; refine wpList_append_lies _ rfl (.tmp 60) (.tmp 62) 22 rfl 0 47 i0 _ 3 40 Tryz.underlying22 hi hz0 hz1 hz2 rfl (by decide) _ _ _ (by rfl) (S.out.o1.row.alloc _) ⟨wn21.heap.size + 1 + 1, 0, none⟩ 1 1 [.int .i64 pt.kind, .int .i64 pt.n, .slice A20 pt.signs.length c20] (by rfl) rfl (World.news_of_block (heap_new_at _ _ (by first | rfl | (simp; done) | omega))) (by simp [Value.oneCell']) (by omega) (by unfold maxLen; omega) (by omega) (Nat.zero_le _) (wn21.heap.size + 1 + 1 + 1) (by simp) ?_)
            intro gg cap w9 hown hg hat hlt
            obtain ⟨s9, f9⟩ := (S.out.free (Frame.alloc (fun _ => False) _ _)).push1 pt rfl hown hg hat (by simp) ((by obtain ⟨_, e, R⟩ := PP.out; injection e with e; injection e with e; simp only [List.cons.injEq, and_true] at e; obtain ⟨-, -, rfl⟩ := e; exact (R.frame FA.out (fun _ _ hh => hh)).frame (Frame.alloc (fun _ => False) _ _) (fun _ _ hh => hh)))
            have B9 := Lib.hid (below_step (below_step B.out (Frame.alloc (fun _ => False) _ _) (fun _ hh => hh.elim)) f9 (fun i hi => VB.out i hi))
            have VB9 : Hid (∀ g, (Value.slice (some ⟨gg, 0, none⟩) (acc.length + 1) cap).ownBlock = some g → w.heap.size ≤ g) := fun g hh => by
              have e9 : gg = g := Option.some.inj hh
              rcases hat with e | e
              · exact VB.out g (by rw [← e9]; exact e)
              · omega
            have S9 := Lib.hid s9
            clear s9 f9 hown hg hat hlt S B VB
            have S := S9
            have B := B9
            have VB := VB9
            clear S9 B9 VB9
            go_wp2_with (fail)
            have HC' : Hid (Pl.CSt (Pl.units ps) (Pl.units qs) (Pl.units (acc ++ [pt])) (pl :: q1) (sl :: r1)) := by
              show Pl.CSt _ _ _ _ _
              rw [units_snoc, ← EPT.out, ← EPL.out, ← ESL.out]
              have hb := HB.out
              rw [Pl.cOut, if_pos KS1.out] at hb
              exact hb
            go_roundg ((Pl.units (pl :: q1)).length + (Pl.units (sl :: r1)).length)
            case rel => exact ⟨_, _, acc ++ [pt], pl :: q1, sl :: r1, rfl, S.out, HC'.out, ok_snoc HOK.out OPT.out, by simp; omega, B.out, by simp at em1 ⊢; omega, by simp at em2 ⊢; omega, VB.out⟩
            case measure => omega
            -- END t1
          · have k1st : (st.kind == 1) = false := by rw [KST.out]; simp [ks1]
            have KS1 := Lib.hid ks1
            clear ks1
            by_cases kp1 : p.kind = 1
            · have k1pt : (pt.kind == 1) = true := by rw [KPT.out]; simp [kp1]
              have KP1 := Lib.hid kp1
              clear kp1
              -- PART t2
              go_wp2_with (at_builtin; refine wpList_append_lies _ rfl (.tmp 68) (.tmp 70) 22 rfl 0 47 i0 _ 3 40 Tryz.underlying22 hi hz0 hz1 hz2 rfl (by decide) _ _ _ (by rfl) (S.out.o1.row.alloc _) ⟨wn21.heap.size + 1 + 1, 0, none⟩ 1 1 [.int .i64 st.kind, .int .i64 st.n, .slice A21 st.signs.length c21] (by rfl) rfl (World.news_of_block (heap_new_at _ _ (by first | rfl | (simp; done) | omega))) (by simp [Value.oneCell']) (by omega) (by unfold maxLen; omega) (by omega) (Nat.zero_le _) (wn21.heap.size + 1 + 1 + 1) (by simp) ?_)
              intro gg cap w9 hown hg hat hlt
              obtain ⟨s9, f9⟩ := (S.out.free (Frame.alloc (fun _ => False) _ _)).push1 st rfl hown hg hat (by simp) ((by obtain ⟨_, e, R⟩ := PN21.out; injection e with e; injection e with e; simp only [List.cons.injEq, and_true] at e; obtain ⟨-, -, rfl⟩ := e; exact (R.frame FA.out (fun _ _ hh => hh)).frame (Frame.alloc (fun _ => False) _ _) (fun _ _ hh => hh)))
              have B9 := Lib.hid (below_step (below_step B.out (Frame.alloc (fun _ => False) _ _) (fun _ hh => hh.elim)) f9 (fun i hi => VB.out i hi))
              have VB9 : Hid (∀ g, (Value.slice (some ⟨gg, 0, none⟩) (acc.length + 1) cap).ownBlock = some g → w.heap.size ≤ g) := fun g hh => by
                have e9 : gg = g := Option.some.inj hh
                rcases hat with e | e
                · exact VB.out g (by rw [← e9]; exact e)
                · omega
              have S9 := Lib.hid s9
              clear s9 f9 hown hg hat hlt S B VB
              have S := S9
              have B := B9
              have VB := VB9
              clear S9 B9 VB9
              go_wp2_with (fail)
              have HC' : Hid (Pl.CSt (Pl.units ps) (Pl.units qs) (Pl.units (acc ++ [st])) (pl :: q1) (sl :: r1)) := by
                show Pl.CSt _ _ _ _ _
                rw [units_snoc, ← EST.out, ← EPL.out, ← ESL.out]
                have hb := HB.out
                rw [Pl.cOut, if_neg KS1.out, if_pos KP1.out] at hb
                exact hb
              go_roundg ((Pl.units (pl :: q1)).length + (Pl.units (sl :: r1)).length)
              case rel => exact ⟨_, _, acc ++ [st], pl :: q1, sl :: r1, rfl, S.out, HC'.out, ok_snoc HOK.out OST.out, by simp; omega, B.out, by simp at em1 ⊢; omega, by simp at em2 ⊢; omega, VB.out⟩
              case measure => omega
              -- END t2
            · have k1pt : (pt.kind == 1) = false := by rw [KPT.out]; simp [kp1]
              have KP1 := Lib.hid kp1
              clear kp1
              -- PART t3
              go_wp2_with (fail)
              have HC' : Hid (Pl.CSt (Pl.units ps) (Pl.units qs) (Pl.units (acc)) (pl :: q1) (sl :: r1)) := by
                show Pl.CSt _ _ _ _ _
                rw [← EPL.out, ← ESL.out]
                have hb := HB.out
                rw [Pl.cOut, if_neg KS1.out, if_neg KP1.out, List.append_nil] at hb
                exact hb
              go_roundg ((Pl.units (pl :: q1)).length + (Pl.units (sl :: r1)).length)
              case rel => exact ⟨_, _, acc, pl :: q1, sl :: r1, rfl, S.out, HC'.out, HOK.out, by omega, B.out, by simp at em1 ⊢; omega, by simp at em2 ⊢; omega, VB.out⟩
              case measure => omega
              -- END t3
        ·
          obtain rfl : m = Np := by rw [HM.out]; omega
          go_wp2_with (fail)
          refine (S.out.takeX _ ONp.out HL1.out (by simp at em1; omega) EPT.out).mono ?_
          rintro e wn22 ⟨pv, rfl, pn, sn, fn⟩
          obtain ⟨A22, c22, rfl⟩ : ∃ A c, pv = .agg #[.int .i64 pt.kind, .int .i64 pt.n, .slice A pt.signs.length c] := by obtain ⟨_, rfl, A, c, rfl, _⟩ := pn; exact ⟨A, c, rfl⟩
          have PN22 := Lib.hid pn
          have S' := Lib.hid sn
          have B' := Lib.hid (below_step B.out fn (fun i hi => by omega))
          have zn22 := B'.out.size
          clear pn sn fn S B
          have S := S'
          have B := B'
          clear S' B'
          go_wp2_with (fail)
          refine (S.out.takeY _ ONs.out HL2.out (by simp at em2; omega) EST.out).mono ?_
          rintro e wn23 ⟨pv, rfl, pn, sn, fn⟩
          obtain ⟨A23, c23, rfl⟩ : ∃ A c, pv = .agg #[.int .i64 st.kind, .int .i64 st.n, .slice A st.signs.length c] := by obtain ⟨_, rfl, A, c, rfl, _⟩ := pn; exact ⟨A, c, rfl⟩
          have PN23 := Lib.hid pn
          have S' := Lib.hid sn
          have B' := Lib.hid (below_step B.out fn (fun i hi => by omega))
          have zn23 := B'.out.size
          have PP := Lib.hid (PN22.out.next fn S.out.two.ny)
          clear pn sn fn S B
          have S := S'
          have B := B'
          clear S' B'
          clear PN22
          have FA := Lib.hid (((Frame.refl (fun _ => False) wn23).andAlloc (.cells #[.int .i64 pt.kind, .int .i64 pt.n, .slice A22 pt.signs.length c22] 47)).andAlloc (.cells #[.int .i64 st.kind, .int .i64 st.n, .slice A23 st.signs.length c23] 47))
          rw [EPL.out, ESL.out] at S
          have S' := Lib.hid (S.out.free FA.out)
          have B' := Lib.hid (below_step B.out FA.out (fun _ hh => hh.elim))
          clear S B
          have S := S'
          have B := B'
          clear S' B'
          by_cases ks1 : s.kind = 1
          · have k1st : (st.kind == 1) = true := by rw [KST.out]; simp [ks1]
            have KS1 := Lib.hid ks1
            clear ks1
            -- PART t1
            go_wp2_with (at_builtin; refine wpList_append_lies _ rfl (.tmp 60) (.tmp 62) 22 rfl 0 47 i0 _ 3 40 Tryz.underlying22 hi hz0 hz1 hz2 rfl (by decide) _ _ _ (by rfl) (S.out.o1.row.alloc _) ⟨wn23.heap.size + 1 + 1, 0, none⟩ 1 1 [.int .i64 pt.kind, .int .i64 pt.n, .slice A22 pt.signs.length c22] (by rfl) rfl (World.news_of_block (heap_new_at _ _ (by first | rfl | (simp; done) | omega))) (by simp [Value.oneCell']) (by omega) (by unfold maxLen; omega) (by omega) (Nat.zero_le _) (wn23.heap.size + 1 + 1 + 1) (by simp) ?_)
            intro gg cap w9 hown hg hat hlt
            obtain ⟨s9, f9⟩ := (S.out.free (Frame.alloc (fun _ => False) _ _)).push1 pt rfl hown hg hat (by simp) ((by obtain ⟨_, e, R⟩ := PP.out; injection e with e; injection e with e; simp only [List.cons.injEq, and_true] at e; obtain ⟨-, -, rfl⟩ := e; exact (R.frame FA.out (fun _ _ hh => hh)).frame (Frame.alloc (fun _ => False) _ _) (fun _ _ hh => hh)))
            have B9 := Lib.hid (below_step (below_step B.out (Frame.alloc (fun _ => False) _ _) (fun _ hh => hh.elim)) f9 (fun i hi => VB.out i hi))
            have VB9 : Hid (∀ g, (Value.slice (some ⟨gg, 0, none⟩) (acc.length + 1) cap).ownBlock = some g → w.heap.size ≤ g) := fun g hh => by
              have e9 : gg = g := Option.some.inj hh
              rcases hat with e | e
              · exact VB.out g (by rw [← e9]; exact e)
              · omega
            have S9 := Lib.hid s9
            clear s9 f9 hown hg hat hlt S B VB
            have S := S9
            have B := B9
            have VB := VB9
            clear S9 B9 VB9
            go_wp2_with (fail)
            have HC' : Hid (Pl.CSt (Pl.units ps) (Pl.units qs) (Pl.units (acc ++ [pt])) (pl :: q1) (sl :: r1)) := by
              show Pl.CSt _ _ _ _ _
              rw [units_snoc, ← EPT.out, ← EPL.out, ← ESL.out]
              have hb := HB.out
              rw [Pl.cOut, if_pos KS1.out] at hb
              exact hb
            go_roundg ((Pl.units (pl :: q1)).length + (Pl.units (sl :: r1)).length)
            case rel => exact ⟨_, _, acc ++ [pt], pl :: q1, sl :: r1, rfl, S.out, HC'.out, ok_snoc HOK.out OPT.out, by simp; omega, B.out, by simp at em1 ⊢; omega, by simp at em2 ⊢; omega, VB.out⟩
            case measure => omega
            -- END t1
          · have k1st : (st.kind == 1) = false := by rw [KST.out]; simp [ks1]
            have KS1 := Lib.hid ks1
            clear ks1
            by_cases kp1 : p.kind = 1
            · have k1pt : (pt.kind == 1) = true := by rw [KPT.out]; simp [kp1]
              have KP1 := Lib.hid kp1
              clear kp1
              -- PART t2
              go_wp2_with (at_builtin; refine wpList_append_lies _ rfl (.tmp 68) (.tmp 70) 22 rfl 0 47 i0 _ 3 40 Tryz.underlying22 hi hz0 hz1 hz2 rfl (by decide) _ _ _ (by rfl) (S.out.o1.row.alloc _) ⟨wn23.heap.size + 1 + 1, 0, none⟩ 1 1 [.int .i64 st.kind, .int .i64 st.n, .slice A23 st.signs.length c23] (by rfl) rfl (World.news_of_block (heap_new_at _ _ (by first | rfl | (simp; done) | omega))) (by simp [Value.oneCell']) (by omega) (by unfold maxLen; omega) (by omega) (Nat.zero_le _) (wn23.heap.size + 1 + 1 + 1) (by simp) ?_)
              intro gg cap w9 hown hg hat hlt
              obtain ⟨s9, f9⟩ := (S.out.free (Frame.alloc (fun _ => False) _ _)).push1 st rfl hown hg hat (by simp) ((by obtain ⟨_, e, R⟩ := PN23.out; injection e with e; injection e with e; simp only [List.cons.injEq, and_true] at e; obtain ⟨-, -, rfl⟩ := e; exact (R.frame FA.out (fun _ _ hh => hh)).frame (Frame.alloc (fun _ => False) _ _) (fun _ _ hh => hh)))
              have B9 := Lib.hid (below_step (below_step B.out (Frame.alloc (fun _ => False) _ _) (fun _ hh => hh.elim)) f9 (fun i hi => VB.out i hi))
              have VB9 : Hid (∀ g, (Value.slice (some ⟨gg, 0, none⟩) (acc.length + 1) cap).ownBlock = some g → w.heap.size ≤ g) := fun g hh => by
                have e9 : gg = g := Option.some.inj hh
                rcases hat with e | e
                · exact VB.out g (by rw [← e9]; exact e)
                · omega
              have S9 := Lib.hid s9
              clear s9 f9 hown hg hat hlt S B VB
              have S := S9
              have B := B9
              have VB := VB9
              clear S9 B9 VB9
              go_wp2_with (fail)
              have HC' : Hid (Pl.CSt (Pl.units ps) (Pl.units qs) (Pl.units (acc ++ [st])) (pl :: q1) (sl :: r1)) := by
                show Pl.CSt _ _ _ _ _
                rw [units_snoc, ← EST.out, ← EPL.out, ← ESL.out]
                have hb := HB.out
                rw [Pl.cOut, if_neg KS1.out, if_pos KP1.out] at hb
                exact hb
              go_roundg ((Pl.units (pl :: q1)).length + (Pl.units (sl :: r1)).length)
              case rel => exact ⟨_, _, acc ++ [st], pl :: q1, sl :: r1, rfl, S.out, HC'.out, ok_snoc HOK.out OST.out, by simp; omega, B.out, by simp at em1 ⊢; omega, by simp at em2 ⊢; omega, VB.out⟩
              case measure => omega
              -- END t2
            · have k1pt : (pt.kind == 1) = false := by rw [KPT.out]; simp [kp1]
              have KP1 := Lib.hid kp1
              clear kp1
              -- PART t3
              go_wp2_with (fail)
              have HC' : Hid (Pl.CSt (Pl.units ps) (Pl.units qs) (Pl.units (acc)) (pl :: q1) (sl :: r1)) := by
                show Pl.CSt _ _ _ _ _
                rw [← EPL.out, ← ESL.out]
                have hb := HB.out
                rw [Pl.cOut, if_neg KS1.out, if_neg KP1.out, List.append_nil] at hb
                exact hb
              go_roundg ((Pl.units (pl :: q1)).length + (Pl.units (sl :: r1)).length)
              case rel => exact ⟨_, _, acc, pl :: q1, sl :: r1, rfl, S.out, HC'.out, HOK.out, by omega, B.out, by simp at em1 ⊢; omega, by simp at em2 ⊢; omega, VB.out⟩
              case measure => omega
              -- END t3
        -- END both
end Go.Proofs.YtookcfpiegbafaaGreatDoor
