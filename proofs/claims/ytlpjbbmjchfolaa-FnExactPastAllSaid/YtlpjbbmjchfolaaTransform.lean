/- Contracts of impl.Transform. Condition: none longer than any slice can be. -/
import Derived.Test.YtlpjbbmjchfolaaCompose
import Derived.Test.YtlpjbbmjchfolaaOwn2
import Derived.Deep.DeepCutAuto
namespace Go.Proofs.Ytlpjbbmjchfolaa
open Go.RowKit
set_option maxRecDepth 100000
set_option linter.unusedVariables false

/-- What the skipped rests are. -/
theorem Pl.XSt.both0 {a b x y : List Pl.U} {q r q0 r0 : List Pt} (h : Pl.XSt a b x y q r) (e0 : Pl.skip q = q0) (e1 : Pl.skip r = r0) :
    Pl.XSt a b x y q0 r0 ∧ Pl.skip q0 = q0 ∧ Pl.skip r0 = r0 ∧ (Pl.units q0).length = (Pl.units q).length ∧ (Pl.units r0).length = (Pl.units r).length ∧ q0.length ≤ q.length ∧ r0.length ≤ r.length := by
  subst e0 e1
  exact ⟨h.skips, Pl.skip_idem q, Pl.skip_idem r, by rw [Pl.units_skip h.okq], by rw [Pl.units_skip h.okr], skip_len q, skip_len r⟩
theorem PV.rd {F : Nat → Prop} {w : World} {p : Pt} {x y sv : Value} (h : PV F w (.agg #[x, y, sv]) p) : RdI F w sv p.signs := by
  obtain ⟨_, e, R⟩ := h
  injection e with e
  injection e with e
  simp only [List.cons.injEq, and_true] at e
  obtain ⟨-, -, rfl⟩ := e
  exact R
theorem keep_ok {n : Nat} (h : n ≤ 200) : Pl.partOk ⟨1, n, []⟩ = true := Pl.partOk_of (.inl ⟨rfl, by show (0 : Int) ≤ (n : Int); omega, by show (n : Int) ≤ 200; omega, rfl⟩)
theorem keep_units (n : Nat) : Pl.unitsP ⟨1, n, []⟩ = Pl.ks n := by simp [Pl.unitsP]
set_option maxHeartbeats 40000000 in
set_option maxRecDepth 100000 in
theorem transform_ix (v v' : Value) (ps qs : List Pt) (w : World) (h : SliceParts w.heap.size w v ps) (h' : SliceParts w.heap.size w v' qs) :
    Calls Try.prog 14 #[v, v'] w fun e w' => ∃ u1 s1 u2 s2, e = .returned (.tuple #[u1, u2, .bool (Pl.xfOk ps qs)]) ∧ OwnP w.heap.size w'.heap.size w' u1 (Pl.trans1 ps qs) s1 ∧ OwnP w.heap.size w'.heap.size w' u2 (Pl.trans2 ps qs) s2 ∧ Below w.heap.size w w' ∧ ApartP u1 s1 u2 s2 := by
  have h0 := Lib.hid h
  have h0' := Lib.hid h'
  obtain ⟨A, c, rfl, -, -⟩ := h
  obtain ⟨A', c', rfl, -, -⟩ := h'
  obtain ⟨i0, hi, hz0, hz1, hz2⟩ := info_parts partInfoB
  have hfd : ∀ (a b : Int) (A : Option Addr) (l c : Nat) (w : World), (Instr.field 71 (.agg #[.int .i64 a, .int .i64 b, .slice A l c]) 0).run Try.prog w = .ok (.int .i64 a) w := fun _ _ _ _ _ _ => by kernel_rfl
  by_cases ho1 : Pl.opOk ps = true
  rotate_left
  ·
    have HO1 : Hid (Pl.opOk ps = false) := by show _ = _; simpa using ho1
    have HN : Hid (Pl.xfOk ps qs = false) := by show _ = _; rw [Pl.xfOk, HO1.out, Bool.false_and, Bool.false_and]
    clear ho1
    have HV : Hid (Pl.trans1 ps qs = [] ∧ Pl.trans2 ps qs = []) := ⟨by rw [Pl.trans1, if_neg (by rw [HN.out]; decide)], by rw [Pl.trans2, if_neg (by rw [HN.out]; decide)]⟩
    go_enter Try.func14, Try.ntmps14
    go_wp2_with (fail)
    refine (opOk_i _ ps _ h0.out).mono ?_
    rintro e w1 ⟨rfl, b1⟩
    rw [HO1.out]
    have h1 := Lib.hid (h0.out.later b1)
    have h1' := Lib.hid (h0'.out.later b1)
    have B1 := Lib.hid b1
    clear b1
    go_wp2_with (fail)
    go_ret3
    exact ⟨_, [], _, [], by rw [HN.out]; rfl, by rw [HV.out.1]; exact OwnP.nil _ _ _, by rw [HV.out.2]; exact OwnP.nil _ _ _, B1.out, ApartP.nil _ _⟩
  by_cases ho2 : Pl.opOk qs = true
  rotate_left
  ·
    have HO1 := Lib.hid ho1
    have HO2 : Hid (Pl.opOk qs = false) := by show _ = _; simpa using ho2
    have HN : Hid (Pl.xfOk ps qs = false) := by show _ = _; rw [Pl.xfOk, HO1.out, HO2.out, Bool.false_and, Bool.and_false, Bool.false_and]
    clear ho1 ho2
    have HV : Hid (Pl.trans1 ps qs = [] ∧ Pl.trans2 ps qs = []) := ⟨by rw [Pl.trans1, if_neg (by rw [HN.out]; decide)], by rw [Pl.trans2, if_neg (by rw [HN.out]; decide)]⟩
    go_enter Try.func14, Try.ntmps14
    go_wp2_with (fail)
    refine (opOk_i _ ps _ h0.out).mono ?_
    rintro e w1 ⟨rfl, b1⟩
    rw [HO1.out]
    have h1 := Lib.hid (h0.out.later b1)
    have h1' := Lib.hid (h0'.out.later b1)
    have B1 := Lib.hid b1
    clear b1
    go_wp2_with (fail)
    refine (opOk_i _ qs _ h1'.out).mono ?_
    rintro e w2 ⟨rfl, b2⟩
    rw [HO2.out]
    have h2 := Lib.hid (h1.out.later b2)
    have h2' := Lib.hid (h1'.out.later b2)
    have B2 := Lib.hid (B1.out.trans (b2.mono B1.out.size))
    clear b2 h1 h1' B1
    go_wp2_with (fail)
    go_ret3
    exact ⟨_, [], _, [], by rw [HN.out]; rfl, by rw [HV.out.1]; exact OwnP.nil _ _ _, by rw [HV.out.2]; exact OwnP.nil _ _ _, B2.out, ApartP.nil _ _⟩
  by_cases hft : Pl.opFrom ps = Pl.opFrom qs
  rotate_left
  ·
    have HO1 := Lib.hid ho1
    have HO2 := Lib.hid ho2
    have HN : Hid (Pl.xfOk ps qs = false) := by show _ = _; rw [Pl.xfOk, HO1.out, HO2.out, decide_eq_false hft, Bool.and_false, Bool.and_false, Bool.false_and]
    clear ho1 ho2
    have HV : Hid (Pl.trans1 ps qs = [] ∧ Pl.trans2 ps qs = []) := ⟨by rw [Pl.trans1, if_neg (by rw [HN.out]; decide)], by rw [Pl.trans2, if_neg (by rw [HN.out]; decide)]⟩
    go_enter Try.func14, Try.ntmps14
    go_wp2_with (fail)
    refine (opOk_i _ ps _ h0.out).mono ?_
    rintro e w1 ⟨rfl, b1⟩
    rw [HO1.out]
    have h1 := Lib.hid (h0.out.later b1)
    have h1' := Lib.hid (h0'.out.later b1)
    have B1 := Lib.hid b1
    clear b1
    go_wp2_with (fail)
    refine (opOk_i _ qs _ h1'.out).mono ?_
    rintro e w2 ⟨rfl, b2⟩
    rw [HO2.out]
    have h2 := Lib.hid (h1.out.later b2)
    have h2' := Lib.hid (h1'.out.later b2)
    have B2 := Lib.hid (B1.out.trans (b2.mono B1.out.size))
    clear b2 h1 h1' B1
    go_wp2_with (fail)
    refine (opFrom_i _ ps _ h2.out).mono ?_
    rintro e w3 ⟨rfl, b3⟩
    have h3 := Lib.hid (h2.out.later b3)
    have h3' := Lib.hid (h2'.out.later b3)
    have B3 := Lib.hid (B2.out.trans (b3.mono B2.out.size))
    clear b3 h2 h2' B2
    go_wp2_with (fail)
    refine (opFrom_i _ qs _ h3'.out).mono ?_
    rintro e w4 ⟨rfl, b4⟩
    have h4 := Lib.hid (h3.out.later b4)
    have h4' := Lib.hid (h3'.out.later b4)
    have B4 := Lib.hid (B3.out.trans (b4.mono B3.out.size))
    clear b4 h3 h3' B3
    go_wp2_with (fail)
    go_ret3
    exact ⟨_, [], _, [], by rw [HN.out]; rfl, by rw [HV.out.1]; exact OwnP.nil _ _ _, by rw [HV.out.2]; exact OwnP.nil _ _ _, B4.out, ApartP.nil _ _⟩
  have HO1 := Lib.hid ho1
  have HO2 := Lib.hid ho2
  have HFT := Lib.hid hft
  have HC0 := Lib.hid (Pl.XSt.start ho1 ho2 hft)
  have ul1 := Pl.len_units ho1
  have ul2 := Pl.len_units ho2
  have pl1 := partsOk_len (opOk_partsOk ho1)
  have pl2 := partsOk_len (opOk_partsOk ho2)
  clear ho1 ho2
  go_enter Try.func14, Try.ntmps14
  go_wp2_with (fail)
  refine (opOk_i _ ps _ h0.out).mono ?_
  rintro e w1 ⟨rfl, b1⟩
  rw [HO1.out]
  have h1 := Lib.hid (h0.out.later b1)
  have h1' := Lib.hid (h0'.out.later b1)
  have B1 := Lib.hid b1
  clear b1
  go_wp2_with (fail)
  refine (opOk_i _ qs _ h1'.out).mono ?_
  rintro e w2 ⟨rfl, b2⟩
  rw [HO2.out]
  have h2 := Lib.hid (h1.out.later b2)
  have h2' := Lib.hid (h1'.out.later b2)
  have B2 := Lib.hid (B1.out.trans (b2.mono B1.out.size))
  clear b2 h1 h1' B1
  go_wp2_with (fail)
  refine (opFrom_i _ ps _ h2.out).mono ?_
  rintro e w3 ⟨rfl, b3⟩
  have h3 := Lib.hid (h2.out.later b3)
  have h3' := Lib.hid (h2'.out.later b3)
  have B3 := Lib.hid (B2.out.trans (b3.mono B2.out.size))
  clear b3 h2 h2' B2
  go_wp2_with (fail)
  refine (opFrom_i _ qs _ h3'.out).mono ?_
  rintro e w4 ⟨rfl, b4⟩
  have h4 := Lib.hid (h3.out.later b4)
  have h4' := Lib.hid (h3'.out.later b4)
  have B4 := Lib.hid (B3.out.trans (b4.mono B3.out.size))
  clear b4 h3 h3' B3
  go_wp2_with (fail)
  have hw4 := B4.out.size
  have S0 := Lib.hid (start_st h4.out h4'.out)
  have B0 := Lib.hid (below_step (below_step B4.out (Frame.alloc (fun _ => False) _ (.cells #[.slice A ps.length c] 69)) (fun _ hh => hh.elim)) (Frame.alloc (fun _ => False) _ (.cells #[.slice A' qs.length c'] 69)) (fun _ hh => hh.elim))
  clear h4 h4' h0 h0'
  go_loopg [9, 10] ((Pl.units ps).length + (Pl.units qs).length) (fun gk vo vy wr => ∃ (F : Nat → Prop) (svs : List Value) (acc : List Pt) (svs2 : List Value) (acc2 q r : List Pt), gk = (Pl.units q).length + (Pl.units r).length ∧ Hid (St F wr w4.heap.size (w4.heap.size + 1) q r vo acc svs vy acc2 svs2) ∧ Hid (Pl.XSt (Pl.units ps) (Pl.units qs) (Pl.units acc) (Pl.units acc2) q r) ∧ Hid (∀ p ∈ acc, Pl.partOk p = true) ∧ Hid (∀ p ∈ acc2, Pl.partOk p = true) ∧ acc.length + ((Pl.units q).length + (Pl.units r).length) ≤ 800 ∧ acc2.length + ((Pl.units q).length + (Pl.units r).length) ≤ 800 ∧ Hid (Below w.heap.size w wr) ∧ q.length ≤ 600 ∧ r.length ≤ 600 ∧ Hid (∀ g, vo.ownBlock = some g → w.heap.size ≤ g) ∧ Hid (∀ g, vy.ownBlock = some g → w.heap.size ≤ g))
  case atStart => exact ⟨_, [], [], [], [], ps, qs, rfl, S0.out, HC0.out, (fun p hp => by simp at hp), (fun p hp => by simp at hp), by simp; omega, by simp; omega, B0.out, pl1, pl2, (fun g hg => by simp [Value.ownBlock] at hg), fun g hg => by simp [Value.ownBlock] at hg⟩
  case round =>
    clear S0 B0 HC0
    obtain ⟨F, svs, acc, svs2, acc2, q, r, hgk, S, HC, HOK, HOK2, hac, hac2, B, hql, hrl, VB, VB2⟩ := hrel
    subst hgk
    obtain ⟨q0, eq0⟩ : ∃ x, Pl.skip q = x := ⟨_, rfl⟩
    obtain ⟨r0, er0⟩ : ∃ x, Pl.skip r = x := ⟨_, rfl⟩
    obtain ⟨hc0, es, et, el1, el2, em1, em2⟩ := HC.out.both0 eq0 er0
    have OQ := Lib.hid HC.out.okq
    have OR := Lib.hid HC.out.okr
    have OQ0 := Lib.hid hc0.okq
    have OR0 := Lib.hid hc0.okr
    have EQ := Lib.hid eq0
    have ER := Lib.hid er0
    have EQ0 := Lib.hid es
    have ER0 := Lib.hid et
    have HC1 := Lib.hid hc0
    clear hc0 eq0 er0 es et HC
    obtain ⟨Ax, cx, rfl⟩ := S.out.o1.shape
    obtain ⟨Ay, cy, rfl⟩ := S.out.o2.shape
    have zr := B.out.size
    cases q0 with
    | nil =>
      have HQ : Hid (Pl.hd ([] : List Pt) = ⟨0, 0, []⟩) := rfl
      cases r0 with
      | nil =>
        have HR : Hid (Pl.hd ([] : List Pt) = ⟨0, 0, []⟩) := rfl
        -- PART stop
        go_wp2_with (fail)
        refine (S.out.nextX OQ.out EQ.out HQ.out).mono ?_
        rintro e wn1 ⟨pv, rfl, pn, sn, fn⟩
        obtain ⟨A1, c1, rfl⟩ : ∃ A c, pv = .agg #[.int .i64 (⟨0, 0, []⟩ : Pt).kind, .int .i64 (⟨0, 0, []⟩ : Pt).n, .slice A (⟨0, 0, []⟩ : Pt).signs.length c] := by obtain ⟨_, rfl, A, c, rfl, _⟩ := pn; exact ⟨A, c, rfl⟩
        have PN1 := Lib.hid pn
        have S' := Lib.hid sn
        have B' := Lib.hid (below_step B.out fn (fun i hi => by omega))
        have zn1 := B'.out.size
        clear pn sn fn S B
        have S := S'
        have B := B'
        clear S' B'
        go_wp2_with (fail)
        refine (S.out.nextY OR.out ER.out HR.out).mono ?_
        rintro e wn2 ⟨pv, rfl, pn, sn, fn⟩
        obtain ⟨A2, c2, rfl⟩ : ∃ A c, pv = .agg #[.int .i64 (⟨0, 0, []⟩ : Pt).kind, .int .i64 (⟨0, 0, []⟩ : Pt).n, .slice A (⟨0, 0, []⟩ : Pt).signs.length c] := by obtain ⟨_, rfl, A, c, rfl, _⟩ := pn; exact ⟨A, c, rfl⟩
        have PN2 := Lib.hid pn
        have S' := Lib.hid sn
        have B' := Lib.hid (below_step B.out fn (fun i hi => by omega))
        have zn2 := B'.out.size
        clear pn sn fn S B
        have S := S'
        have B := B'
        clear S' B'
        go_wp2_with (fail)
        have HF := Lib.hid (fine_all HOK.out)
        have HF2 := Lib.hid (fine_all HOK2.out)
        obtain ⟨st1, st2⟩ := HC1.out.stop
        have HE : Hid (Pl.norm acc = Pl.xf1 ps qs) := by show _ = _; rw [Pl.norm_grp (fun p hp => (partOk_facts (HOK.out p hp)).2.1), st1]; rfl
        have HE2 : Hid (Pl.norm acc2 = Pl.xf2 ps qs) := by show _ = _; rw [Pl.norm_grp (fun p hp => (partOk_facts (HOK2.out p hp)).2.1), st2]; rfl
        clear st1 st2
        have zz := B.out.size
        refine (normal_i _ acc _ S.out.o1.slice HF.out (by omega)).mono ?_
        rintro e wz ⟨u, uvs, rfl, ou, bu⟩
        rw [HE.out] at ou
        have OU := Lib.hid (ownP_lower (lo' := w.heap.size) ou zz)
        obtain ⟨A8, c8, rfl⟩ := own_shape ou.row
        have Y8 := Lib.hid (S.out.o2.slice.later bu)
        have BU := Lib.hid (B.out.trans (bu.mono zz))
        have zu := bu.size
        clear ou bu S B
        go_wp2_with (fail)
        refine (normal_i _ acc2 _ Y8.out HF2.out (by omega)).mono ?_
        rintro e wy ⟨u, uvs2, rfl, ov, bv⟩
        rw [HE2.out] at ov
        have zz2 := BU.out.size
        have OV := Lib.hid (ownP_lower (lo' := w.heap.size) ov zz2)
        obtain ⟨A9, c9, rfl⟩ := own_shape ov.row
        have AP := Lib.hid (ApartP.regions OU.out ov (Nat.le_refl _))
        have OU2 := Lib.hid (OU.out.below bv)
        have BV := Lib.hid (BU.out.trans (bv.mono zz2))
        have zv := bv.size
        have zv2 := BV.out.size
        clear ov bv OU BU Y8
        by_cases f1 : Pl.opOk (Pl.xf1 ps qs) = true
        rotate_left
        · have F1 : Hid (Pl.opOk (Pl.xf1 ps qs) = false) := by show _ = _; simpa using f1
          have HN : Hid (Pl.xfOk ps qs = false) := by show _ = _; rw [Pl.xfOk, F1.out, Bool.false_and, Bool.and_false]
          have HV : Hid (Pl.trans1 ps qs = [] ∧ Pl.trans2 ps qs = []) := ⟨by rw [Pl.trans1, if_neg (by rw [HN.out]; decide)], by rw [Pl.trans2, if_neg (by rw [HN.out]; decide)]⟩
          clear f1
          go_wp2_with (fail)
          refine (opOk_i _ (Pl.xf1 ps qs) _ OU2.out.slice).mono ?_
          rintro e wk ⟨rfl, bk⟩
          rw [F1.out]
          have BK := Lib.hid (BV.out.trans (bk.mono zv2))
          clear bk
          go_wp2_with (fail)
          go_ret3
          exact ⟨_, [], _, [], by rw [HN.out]; rfl, by rw [HV.out.1]; exact OwnP.nil _ _ _, by rw [HV.out.2]; exact OwnP.nil _ _ _, BK.out, ApartP.nil _ _⟩
        have F1 := Lib.hid f1
        clear f1
        go_wp2_with (fail)
        refine (opOk_i _ (Pl.xf1 ps qs) _ OU2.out.slice).mono ?_
        rintro e wk ⟨rfl, bk⟩
        rw [F1.out]
        have BK := Lib.hid (BV.out.trans (bk.mono zv2))
        have OU3 := Lib.hid (OU2.out.below bk)
        have OV3 := Lib.hid (OV.out.below bk)
        have zk := bk.size
        have zk2 := BK.out.size
        clear bk OU2 OV BV
        by_cases f2 : Pl.opOk (Pl.xf2 ps qs) = true
        ·
          have F2 := Lib.hid f2
          have HN : Hid (Pl.xfOk ps qs = true) := by show _ = _; rw [Pl.xfOk, HO1.out, HO2.out, decide_eq_true HFT.out, F1.out, F2.out]; rfl
          have HV : Hid (Pl.trans1 ps qs = Pl.xf1 ps qs ∧ Pl.trans2 ps qs = Pl.xf2 ps qs) := ⟨by rw [Pl.trans1, if_pos HN.out], by rw [Pl.trans2, if_pos HN.out]⟩
          clear f2
          go_wp2_with (fail)
          refine (opOk_i _ (Pl.xf2 ps qs) _ OV3.out.slice).mono ?_
          rintro e wl ⟨rfl, bl⟩
          rw [F2.out]
          have BL := Lib.hid (BK.out.trans (bl.mono zk2))
          have OU4 := Lib.hid (OU3.out.below bl)
          have OV4 := Lib.hid (OV3.out.below bl)
          have zl := bl.size
          clear bl
          go_wp2_with (fail)
          go_ret3
          exact ⟨_, _, _, _, by rw [HN.out]; rfl, by rw [HV.out.1]; exact OU4.out.upto (by omega), by rw [HV.out.2]; exact OV4.out.upto (by omega), BL.out, AP.out⟩
        ·
          have F2 : Hid (Pl.opOk (Pl.xf2 ps qs) = false) := by show _ = _; simpa using f2
          have HN : Hid (Pl.xfOk ps qs = false) := by show _ = _; rw [Pl.xfOk, F2.out, Bool.and_false, Bool.and_false]
          have HV : Hid (Pl.trans1 ps qs = [] ∧ Pl.trans2 ps qs = []) := ⟨by rw [Pl.trans1, if_neg (by rw [HN.out]; decide)], by rw [Pl.trans2, if_neg (by rw [HN.out]; decide)]⟩
          clear f2
          go_wp2_with (fail)
          refine (opOk_i _ (Pl.xf2 ps qs) _ OV3.out.slice).mono ?_
          rintro e wl ⟨rfl, bl⟩
          rw [F2.out]
          have BL := Lib.hid (BK.out.trans (bl.mono zk2))
          have OU4 := Lib.hid (OU3.out.below bl)
          have OV4 := Lib.hid (OV3.out.below bl)
          have zl := bl.size
          clear bl
          go_wp2_with (fail)
          go_ret3
          exact ⟨_, [], _, [], by rw [HN.out]; rfl, by rw [HV.out.1]; exact OwnP.nil _ _ _, by rw [HV.out.2]; exact OwnP.nil _ _ _, BL.out, ApartP.nil _ _⟩
        -- END stop
      | cons s r1 =>
        have HR : Hid (Pl.hd (s :: r1) = s) := rfl
        have oks := OR0.out s (by simp)
        obtain ⟨szs, uns⟩ := Pl.head_len (q := r1) oks (Pl.skip_head ER0.out)
        obtain ⟨Ns, hNs⟩ : ∃ n : Nat, (n : Int) = Pl.size s := ⟨(Pl.size s).toNat, by omega⟩
        have hN2s := (Pl.size_nat oks).2
        have kds := (partOk_facts oks).1
        have hks : s.kind = 2 := by
          rcases Classical.em (s.kind = 2) with h | h
          · exact h
          · have := HC1.out.noY ER0.out h; cases this
        have k0s : (s.kind == 0) = false := by simp [hks]
        have k1s : (s.kind == 1) = false := by simp [hks]
        have k2s : (s.kind == 2) = true := by simp [hks]
        have k3s : (s.kind == 3) = false := by simp [hks]
        have kns : (s.kind != 0) = true := by simp [hks]
        have HKs := Lib.hid hks
        clear hks kds
        -- PART put1
        have HNs := Lib.hid hNs
        have hN3s : (Ns : Int) ≤ 200 := by omega
        have hN1s : 1 ≤ Ns := by omega
        have ONs := Lib.hid oks
        have hcs : (Pl.units (s :: r1)).length = Ns + (Pl.units (Pl.lf s Ns :: r1)).length := Pl.cut_len oks (by omega)
        clear hNs hN2s szs oks
        obtain ⟨pt, ept⟩ : ∃ x, Pl.tk s Ns = x := ⟨_, rfl⟩
        have EPT := Lib.hid ept
        have OPT : Hid (Pl.partOk pt = true) := by show _ = _; rw [← EPT.out]; exact Pl.tk_ok ONs.out (Int.le_of_eq HNs.out)
        have LPT : Hid (pt.signs.length = Ns) := by
          show _ = _
          have e := Pl.size_2 ONs.out HKs.out
          have e2 := HNs.out
          rw [← EPT.out, Pl.tk, if_pos HKs.out, List.length_take]
          omega
        have lpt : pt.signs.length ≤ 200 := by rw [LPT.out]; omega
        clear ept
        go_wp2_with (fail)
        refine (S.out.nextX OQ.out EQ.out HQ.out).mono ?_
        rintro e wn3 ⟨pv, rfl, pn, sn, fn⟩
        obtain ⟨A3, c3, rfl⟩ : ∃ A c, pv = .agg #[.int .i64 (⟨0, 0, []⟩ : Pt).kind, .int .i64 (⟨0, 0, []⟩ : Pt).n, .slice A (⟨0, 0, []⟩ : Pt).signs.length c] := by obtain ⟨_, rfl, A, c, rfl, _⟩ := pn; exact ⟨A, c, rfl⟩
        have PN3 := Lib.hid pn
        have S' := Lib.hid sn
        have B' := Lib.hid (below_step B.out fn (fun i hi => by omega))
        have zn3 := B'.out.size
        clear pn sn fn S B
        have S := S'
        have B := B'
        clear S' B'
        go_wp2_with (fail)
        refine (S.out.nextY OR.out ER.out HR.out).mono ?_
        rintro e wn4 ⟨pv, rfl, pn, sn, fn⟩
        obtain ⟨A4, c4, rfl⟩ : ∃ A c, pv = .agg #[.int .i64 s.kind, .int .i64 s.n, .slice A s.signs.length c] := by obtain ⟨_, rfl, A, c, rfl, _⟩ := pn; exact ⟨A, c, rfl⟩
        have PN4 := Lib.hid pn
        have S' := Lib.hid sn
        have B' := Lib.hid (below_step B.out fn (fun i hi => by omega))
        have zn4 := B'.out.size
        clear pn sn fn S B
        have S := S'
        have B := B'
        clear S' B'
        go_wp2_with (fail)
        refine (S.out.nextX OQ0.out EQ0.out HQ.out).mono ?_
        rintro e wn5 ⟨pv, rfl, pn, sn, fn⟩
        obtain ⟨A5, c5, rfl⟩ : ∃ A c, pv = .agg #[.int .i64 (⟨0, 0, []⟩ : Pt).kind, .int .i64 (⟨0, 0, []⟩ : Pt).n, .slice A (⟨0, 0, []⟩ : Pt).signs.length c] := by obtain ⟨_, rfl, A, c, rfl, _⟩ := pn; exact ⟨A, c, rfl⟩
        have PN5 := Lib.hid pn
        have S' := Lib.hid sn
        have B' := Lib.hid (below_step B.out fn (fun i hi => by omega))
        have zn5 := B'.out.size
        clear pn sn fn S B
        have S := S'
        have B := B'
        clear S' B'
        go_wp2_with (fail)
        refine (S.out.nextY OR0.out ER0.out HR.out).mono ?_
        rintro e wn6 ⟨pv, rfl, pn, sn, fn⟩
        obtain ⟨A6, c6, rfl⟩ : ∃ A c, pv = .agg #[.int .i64 s.kind, .int .i64 s.n, .slice A s.signs.length c] := by obtain ⟨_, rfl, A, c, rfl, _⟩ := pn; exact ⟨A, c, rfl⟩
        have PN6 := Lib.hid pn
        have S' := Lib.hid sn
        have B' := Lib.hid (below_step B.out fn (fun i hi => by omega))
        have zn6 := B'.out.size
        clear pn sn fn S B
        have S := S'
        have B := B'
        clear S' B'
        go_wp2_with (fail)
        refine (S.out.wholeY Ns ONs.out HNs.out (by simp at em2; omega) EPT.out).mono ?_
        rintro e wn7 ⟨pv, rfl, pn, sn, fn⟩
        obtain ⟨A7, c7, rfl⟩ : ∃ A c, pv = .agg #[.int .i64 pt.kind, .int .i64 pt.n, .slice A pt.signs.length c] := by obtain ⟨_, rfl, A, c, rfl, _⟩ := pn; exact ⟨A, c, rfl⟩
        have PN7 := Lib.hid pn
        have S' := Lib.hid sn
        have B' := Lib.hid (below_step B.out fn (fun i hi => by omega))
        have zn7 := B'.out.size
        clear pn sn fn S B
        have S := S'
        have B := B'
        clear S' B'
        have FA := Lib.hid ((Frame.refl (fun _ => False) wn7).andAlloc (.cells #[.int .i64 pt.kind, .int .i64 pt.n, .slice A7 pt.signs.length c7] 71))
        have LT := Lib.hid S.out.o1.lt
        have LT2 := Lib.hid S.out.o2.lt
        have S' := Lib.hid (S.out.free FA.out)
        have B' := Lib.hid (below_step B.out FA.out (fun _ hh => hh.elim))
        clear S B
        have S := S'
        have B := B'
        clear S' B'
        have PB : Hid ((wn7.alloc (.cells #[.int .i64 pt.kind, .int .i64 pt.n, .slice A7 pt.signs.length c7] 71)).heap[wn7.heap.size]? = some (.cells #[.int .i64 pt.kind, .int .i64 pt.n, .slice A7 pt.signs.length c7] 71 (0, 0))) := heap_new_at _ _ rfl
        have PSI := Lib.hid (PN7.out.rd.frame FA.out (fun _ _ hh => hh))
        clear PN7
        go_wp2_with (at_builtin; refine wpList_append_lies _ rfl (.tmp 99) (.tmp 104) 24 rfl 0 71 i0 _ 3 40 Try.underlying24 hi hz0 hz1 hz2 rfl (by decide) _ _ _ (by rfl) (S.out.o1.row.alloc _) ⟨wn7.heap.size + 1, 0, none⟩ 1 1 [.int .i64 1, .int .i64 pt.signs.length, .slice none 0 0] (by rfl) rfl (World.news_of_block (heap_new_at _ _ (by first | rfl | (simp; done) | omega))) (by simp [Value.oneCell']) (by omega) (by unfold maxLen; omega) (by omega) (Nat.zero_le _) (wn7.heap.size + 1 + 1) (by simp) ?_)
        intro gg cap w9 hown hg hat hlt
        obtain ⟨s9, f9⟩ := (S.out.free (Frame.alloc (fun _ => False) _ _)).push1 (⟨1, (pt.signs.length : Int), []⟩ : Pt) rfl hown hg hat (by simp) (⟨none, 0, rfl, ⟨Nat.le_refl _, Nat.zero_le _⟩, fun k hk => absurd hk (Nat.not_lt_zero _)⟩)
        have B9 := Lib.hid (below_step (below_step B.out (Frame.alloc (fun _ => False) _ _) (fun _ hh => hh.elim)) f9 (fun i hi => VB.out i hi))
        have VB9 : Hid (∀ g, (Value.slice (some ⟨gg, 0, none⟩) (acc.length + 1) cap).ownBlock = some g → w.heap.size ≤ g) := fun g hh => by
          have e9 : gg = g := Option.some.inj hh
          rcases hat with e | e
          · exact VB.out g (by rw [← e9]; exact e)
          · omega
        have PB9 := f9.heap ((Frame.alloc (fun _ => False) _ _).heap PB.out (fun hh => hh)) (fun e => by have := LT.out _ e; omega)
        obtain ⟨PB0, PB1, PB2, -, PBl⟩ := blk3 PB9
        have PBH := Lib.hid PB9
        clear PB PB9
        have PSI9 := Lib.hid ((PSI.out.frame (Frame.alloc (fun _ => False) _ _) (fun _ _ hh => hh)).frame f9 (fun x hx e => S.out.o1.far x e hx))
        clear PSI
        have PSI := PSI9
        clear PSI9
        have S9 := Lib.hid s9
        clear s9 f9 hown hg hat hlt S B VB
        have S := S9
        have B := B9
        have VB := VB9
        clear S9 B9 VB9
        go_wp2_with (at_builtin; refine wpList_append_lies _ rfl (.tmp 106) (.tmp 108) 24 rfl 0 71 i0 _ 3 40 Try.underlying24 hi hz0 hz1 hz2 rfl (by decide) _ _ _ (by rfl) (S.out.o2.row.alloc _) ⟨w9.heap.size, 0, none⟩ 1 1 [.int .i64 pt.kind, .int .i64 pt.n, .slice A7 pt.signs.length c7] (by rfl) rfl (World.news_of_block (heap_new_at _ _ (by first | rfl | (simp; done) | omega))) (by simp [Value.oneCell']) (by omega) (by unfold maxLen; omega) (by omega) (Nat.zero_le _) (w9.heap.size + 1) (by simp) ?_)
        intro gg cap w9 hown hg hat hlt
        obtain ⟨s9, f9⟩ := (S.out.free (Frame.alloc (fun _ => False) _ _)).push2 pt rfl hown hg hat (by simp) ((PSI.out.frame (Frame.alloc (fun _ => False) _ _) (fun _ _ hh => hh)))
        have B9 := Lib.hid (below_step (below_step B.out (Frame.alloc (fun _ => False) _ _) (fun _ hh => hh.elim)) f9 (fun i hi => VB2.out i hi))
        have VB9 : Hid (∀ g, (Value.slice (some ⟨gg, 0, none⟩) (acc2.length + 1) cap).ownBlock = some g → w.heap.size ≤ g) := fun g hh => by
          have e9 : gg = g := Option.some.inj hh
          rcases hat with e | e
          · exact VB2.out g (by rw [← e9]; exact e)
          · omega
        have S9 := Lib.hid s9
        clear s9 f9 hown hg hat hlt S B VB2
        have S := S9
        have B := B9
        have VB2 := VB9
        clear S9 B9 VB9
        have HC' : Hid (Pl.XSt (Pl.units ps) (Pl.units qs) (Pl.units (acc ++ [(⟨1, (pt.signs.length : Int), []⟩ : Pt)])) (Pl.units (acc2 ++ [pt])) ([]) (Pl.lf s Ns :: r1)) := by
          show Pl.XSt _ _ _ _ _ _
          rw [units_snoc, units_snoc, keep_units, LPT.out, ← EPT.out]
          exact HC1.out.put2 (n := Ns) HNs.out HKs.out EQ0.out (by decide)
        go_wp2_with (fail)
        go_roundg ((Pl.units ([])).length + (Pl.units (Pl.lf s Ns :: r1)).length)
        case rel => exact ⟨_, _, acc ++ [(⟨1, (pt.signs.length : Int), []⟩ : Pt)], _, acc2 ++ [pt], [], Pl.lf s Ns :: r1, rfl, S.out, HC'.out, ok_snoc HOK.out (keep_ok lpt), ok_snoc HOK2.out OPT.out, by first | omega | (simp; omega), by first | omega | (simp; omega), B.out, by simp, by simp at em2 ⊢; omega, VB.out, VB2.out⟩
        case measure => omega
        -- END put1
    | cons p q1 =>
      have HQ : Hid (Pl.hd (p :: q1) = p) := rfl
      have okp := OQ0.out p (by simp)
      obtain ⟨szp, unp⟩ := Pl.head_len (q := q1) okp (Pl.skip_head EQ0.out)
      obtain ⟨Np, hNp⟩ : ∃ n : Nat, (n : Int) = Pl.size p := ⟨(Pl.size p).toNat, by omega⟩
      have hN2p := (Pl.size_nat okp).2
      have kdp := (partOk_facts okp).1
      by_cases hkp : p.kind = 2
      ·
        have k0p : (p.kind == 0) = false := by simp [hkp]
        have k1p : (p.kind == 1) = false := by simp [hkp]
        have k2p : (p.kind == 2) = true := by simp [hkp]
        have k3p : (p.kind == 3) = false := by simp [hkp]
        have knp : (p.kind != 0) = true := by simp [hkp]
        have HKp := Lib.hid hkp
        clear hkp kdp
        -- PART putX
        have HNp := Lib.hid hNp
        have hN3p : (Np : Int) ≤ 200 := by omega
        have hN1p : 1 ≤ Np := by omega
        have ONp := Lib.hid okp
        have hcp : (Pl.units (p :: q1)).length = Np + (Pl.units (Pl.lf p Np :: q1)).length := Pl.cut_len okp (by omega)
        clear hNp hN2p szp okp
        obtain ⟨pt, ept⟩ : ∃ x, Pl.tk p Np = x := ⟨_, rfl⟩
        have EPT := Lib.hid ept
        have OPT : Hid (Pl.partOk pt = true) := by show _ = _; rw [← EPT.out]; exact Pl.tk_ok ONp.out (Int.le_of_eq HNp.out)
        have LPT : Hid (pt.signs.length = Np) := by
          show _ = _
          have e := Pl.size_2 ONp.out HKp.out
          have e2 := HNp.out
          rw [← EPT.out, Pl.tk, if_pos HKp.out, List.length_take]
          omega
        have lpt : pt.signs.length ≤ 200 := by rw [LPT.out]; omega
        clear ept
        go_wp2_with (fail)
        refine (S.out.nextX OQ.out EQ.out HQ.out).mono ?_
        rintro e wn8 ⟨pv, rfl, pn, sn, fn⟩
        obtain ⟨A8, c8, rfl⟩ : ∃ A c, pv = .agg #[.int .i64 p.kind, .int .i64 p.n, .slice A p.signs.length c] := by obtain ⟨_, rfl, A, c, rfl, _⟩ := pn; exact ⟨A, c, rfl⟩
        have PN8 := Lib.hid pn
        have S' := Lib.hid sn
        have B' := Lib.hid (below_step B.out fn (fun i hi => by omega))
        have zn8 := B'.out.size
        clear pn sn fn S B
        have S := S'
        have B := B'
        clear S' B'
        go_wp2_with (fail)
        refine (S.out.nextX OQ0.out EQ0.out HQ.out).mono ?_
        rintro e wn9 ⟨pv, rfl, pn, sn, fn⟩
        obtain ⟨A9, c9, rfl⟩ : ∃ A c, pv = .agg #[.int .i64 p.kind, .int .i64 p.n, .slice A p.signs.length c] := by obtain ⟨_, rfl, A, c, rfl, _⟩ := pn; exact ⟨A, c, rfl⟩
        have PN9 := Lib.hid pn
        have S' := Lib.hid sn
        have B' := Lib.hid (below_step B.out fn (fun i hi => by omega))
        have zn9 := B'.out.size
        clear pn sn fn S B
        have S := S'
        have B := B'
        clear S' B'
        go_wp2_with (fail)
        refine (S.out.wholeX Np ONp.out HNp.out (by simp at em1; omega) EPT.out).mono ?_
        rintro e wn10 ⟨pv, rfl, pn, sn, fn⟩
        obtain ⟨A10, c10, rfl⟩ : ∃ A c, pv = .agg #[.int .i64 pt.kind, .int .i64 pt.n, .slice A pt.signs.length c] := by obtain ⟨_, rfl, A, c, rfl, _⟩ := pn; exact ⟨A, c, rfl⟩
        have PN10 := Lib.hid pn
        have S' := Lib.hid sn
        have B' := Lib.hid (below_step B.out fn (fun i hi => by omega))
        have zn10 := B'.out.size
        clear pn sn fn S B
        have S := S'
        have B := B'
        clear S' B'
        have FA := Lib.hid ((Frame.refl (fun _ => False) wn10).andAlloc (.cells #[.int .i64 pt.kind, .int .i64 pt.n, .slice A10 pt.signs.length c10] 71))
        have LT := Lib.hid S.out.o1.lt
        have LT2 := Lib.hid S.out.o2.lt
        have S' := Lib.hid (S.out.free FA.out)
        have B' := Lib.hid (below_step B.out FA.out (fun _ hh => hh.elim))
        clear S B
        have S := S'
        have B := B'
        clear S' B'
        have PB : Hid ((wn10.alloc (.cells #[.int .i64 pt.kind, .int .i64 pt.n, .slice A10 pt.signs.length c10] 71)).heap[wn10.heap.size]? = some (.cells #[.int .i64 pt.kind, .int .i64 pt.n, .slice A10 pt.signs.length c10] 71 (0, 0))) := heap_new_at _ _ rfl
        have PSI := Lib.hid (PN10.out.rd.frame FA.out (fun _ _ hh => hh))
        clear PN10
        go_wp2_with (at_builtin; refine wpList_append_lies _ rfl (.tmp 81) (.tmp 83) 24 rfl 0 71 i0 _ 3 40 Try.underlying24 hi hz0 hz1 hz2 rfl (by decide) _ _ _ (by rfl) (S.out.o1.row.alloc _) ⟨wn10.heap.size + 1, 0, none⟩ 1 1 [.int .i64 pt.kind, .int .i64 pt.n, .slice A10 pt.signs.length c10] (by rfl) rfl (World.news_of_block (heap_new_at _ _ (by first | rfl | (simp; done) | omega))) (by simp [Value.oneCell']) (by omega) (by unfold maxLen; omega) (by omega) (Nat.zero_le _) (wn10.heap.size + 1 + 1) (by simp) ?_)
        intro gg cap w9 hown hg hat hlt
        obtain ⟨s9, f9⟩ := (S.out.free (Frame.alloc (fun _ => False) _ _)).push1 pt rfl hown hg hat (by simp) ((PSI.out.frame (Frame.alloc (fun _ => False) _ _) (fun _ _ hh => hh)))
        have B9 := Lib.hid (below_step (below_step B.out (Frame.alloc (fun _ => False) _ _) (fun _ hh => hh.elim)) f9 (fun i hi => VB.out i hi))
        have VB9 : Hid (∀ g, (Value.slice (some ⟨gg, 0, none⟩) (acc.length + 1) cap).ownBlock = some g → w.heap.size ≤ g) := fun g hh => by
          have e9 : gg = g := Option.some.inj hh
          rcases hat with e | e
          · exact VB.out g (by rw [← e9]; exact e)
          · omega
        have PB9 := f9.heap ((Frame.alloc (fun _ => False) _ _).heap PB.out (fun hh => hh)) (fun e => by have := LT.out _ e; omega)
        obtain ⟨PB0, PB1, PB2, -, PBl⟩ := blk3 PB9
        have PBH := Lib.hid PB9
        clear PB PB9
        have S9 := Lib.hid s9
        clear s9 f9 hown hg hat hlt S B VB
        have S := S9
        have B := B9
        have VB := VB9
        clear S9 B9 VB9
        go_wp2_with (at_builtin; refine wpList_append_lies _ rfl (.tmp 85) (.tmp 90) 24 rfl 0 71 i0 _ 3 40 Try.underlying24 hi hz0 hz1 hz2 rfl (by decide) _ _ _ (by rfl) (S.out.o2.row.alloc _) ⟨w9.heap.size, 0, none⟩ 1 1 [.int .i64 1, .int .i64 pt.signs.length, .slice none 0 0] (by rfl) rfl (World.news_of_block (heap_new_at _ _ (by first | rfl | (simp; done) | omega))) (by simp [Value.oneCell']) (by omega) (by unfold maxLen; omega) (by omega) (Nat.zero_le _) (w9.heap.size + 1) (by simp) ?_)
        intro gg cap w9 hown hg hat hlt
        obtain ⟨s9, f9⟩ := (S.out.free (Frame.alloc (fun _ => False) _ _)).push2 (⟨1, (pt.signs.length : Int), []⟩ : Pt) rfl hown hg hat (by simp) (⟨none, 0, rfl, ⟨Nat.le_refl _, Nat.zero_le _⟩, fun k hk => absurd hk (Nat.not_lt_zero _)⟩)
        have B9 := Lib.hid (below_step (below_step B.out (Frame.alloc (fun _ => False) _ _) (fun _ hh => hh.elim)) f9 (fun i hi => VB2.out i hi))
        have VB9 : Hid (∀ g, (Value.slice (some ⟨gg, 0, none⟩) (acc2.length + 1) cap).ownBlock = some g → w.heap.size ≤ g) := fun g hh => by
          have e9 : gg = g := Option.some.inj hh
          rcases hat with e | e
          · exact VB2.out g (by rw [← e9]; exact e)
          · omega
        have S9 := Lib.hid s9
        clear s9 f9 hown hg hat hlt S B VB2
        have S := S9
        have B := B9
        have VB2 := VB9
        clear S9 B9 VB9
        have hcr : Hid (Pl.XSt (Pl.units ps) (Pl.units qs) (Pl.units acc) (Pl.units acc2) (p :: q1) r) := ⟨HC1.out.okq, OR.out, by have := HC1.out.mid; rw [← ER.out, Pl.units_skip OR.out] at this; exact this, by have := HC1.out.all1; rw [← ER.out, Pl.units_skip OR.out] at this; exact this, by have := HC1.out.all2; rw [← ER.out, Pl.units_skip OR.out] at this; exact this⟩
        have HC' : Hid (Pl.XSt (Pl.units ps) (Pl.units qs) (Pl.units (acc ++ [pt])) (Pl.units (acc2 ++ [(⟨1, (pt.signs.length : Int), []⟩ : Pt)])) (Pl.lf p Np :: q1) (r)) := by
          show Pl.XSt _ _ _ _ _ _
          rw [units_snoc, units_snoc, keep_units, LPT.out, ← EPT.out]
          exact hcr.out.put1 (n := Np) HNp.out HKp.out
        go_wp2_with (fail)
        go_roundg ((Pl.units (Pl.lf p Np :: q1)).length + (Pl.units (r)).length)
        case rel => exact ⟨_, _, acc ++ [pt], _, acc2 ++ [(⟨1, (pt.signs.length : Int), []⟩ : Pt)], Pl.lf p Np :: q1, r, rfl, S.out, HC'.out, ok_snoc HOK.out OPT.out, ok_snoc HOK2.out (keep_ok lpt), by first | omega | (simp; omega), by first | omega | (simp; omega), B.out, by simp at em1 ⊢; omega, hrl, VB.out, VB2.out⟩
        case measure => omega
        -- END putX
      cases r0 with
      | nil => have := HC1.out.noX EQ0.out hkp; cases this
      | cons s r1 =>
        have HR : Hid (Pl.hd (s :: r1) = s) := rfl
        have oks := OR0.out s (by simp)
        obtain ⟨szs, uns⟩ := Pl.head_len (q := r1) oks (Pl.skip_head ER0.out)
        obtain ⟨Ns, hNs⟩ : ∃ n : Nat, (n : Int) = Pl.size s := ⟨(Pl.size s).toNat, by omega⟩
        have hN2s := (Pl.size_nat oks).2
        have kds := (partOk_facts oks).1
        have HK3 := Lib.hid hkp
        by_cases hks : s.kind = 2
        ·
          have k0p : (p.kind == 0) = false := by rcases kdp with h | h | h <;> simp [h]
          have knp : (p.kind != 0) = true := by rcases kdp with h | h | h <;> simp [h]
          have k2p : (p.kind == 2) = false := by simpa using hkp
          clear hkp kdp
          have k0s : (s.kind == 0) = false := by simp [hks]
          have k1s : (s.kind == 1) = false := by simp [hks]
          have k2s : (s.kind == 2) = true := by simp [hks]
          have k3s : (s.kind == 3) = false := by simp [hks]
          have kns : (s.kind != 0) = true := by simp [hks]
          have HKs := Lib.hid hks
          clear hks kds
          -- PART put0
          have HNs := Lib.hid hNs
          have hN3s : (Ns : Int) ≤ 200 := by omega
          have hN1s : 1 ≤ Ns := by omega
          have ONs := Lib.hid oks
          have hcs : (Pl.units (s :: r1)).length = Ns + (Pl.units (Pl.lf s Ns :: r1)).length := Pl.cut_len oks (by omega)
          clear hNs hN2s szs oks
          obtain ⟨pt, ept⟩ : ∃ x, Pl.tk s Ns = x := ⟨_, rfl⟩
          have EPT := Lib.hid ept
          have OPT : Hid (Pl.partOk pt = true) := by show _ = _; rw [← EPT.out]; exact Pl.tk_ok ONs.out (Int.le_of_eq HNs.out)
          have LPT : Hid (pt.signs.length = Ns) := by
            show _ = _
            have e := Pl.size_2 ONs.out HKs.out
            have e2 := HNs.out
            rw [← EPT.out, Pl.tk, if_pos HKs.out, List.length_take]
            omega
          have lpt : pt.signs.length ≤ 200 := by rw [LPT.out]; omega
          clear ept
          go_wp2_with (fail)
          refine (S.out.nextX OQ.out EQ.out HQ.out).mono ?_
          rintro e wn11 ⟨pv, rfl, pn, sn, fn⟩
          obtain ⟨A11, c11, rfl⟩ : ∃ A c, pv = .agg #[.int .i64 p.kind, .int .i64 p.n, .slice A p.signs.length c] := by obtain ⟨_, rfl, A, c, rfl, _⟩ := pn; exact ⟨A, c, rfl⟩
          have PN11 := Lib.hid pn
          have S' := Lib.hid sn
          have B' := Lib.hid (below_step B.out fn (fun i hi => by omega))
          have zn11 := B'.out.size
          clear pn sn fn S B
          have S := S'
          have B := B'
          clear S' B'
          go_wp2_with (fail)
          refine (S.out.nextX OQ0.out EQ0.out HQ.out).mono ?_
          rintro e wn12 ⟨pv, rfl, pn, sn, fn⟩
          obtain ⟨A12, c12, rfl⟩ : ∃ A c, pv = .agg #[.int .i64 p.kind, .int .i64 p.n, .slice A p.signs.length c] := by obtain ⟨_, rfl, A, c, rfl, _⟩ := pn; exact ⟨A, c, rfl⟩
          have PN12 := Lib.hid pn
          have S' := Lib.hid sn
          have B' := Lib.hid (below_step B.out fn (fun i hi => by omega))
          have zn12 := B'.out.size
          clear pn sn fn S B
          have S := S'
          have B := B'
          clear S' B'
          go_wp2_with (fail)
          refine (S.out.nextY OR.out ER.out HR.out).mono ?_
          rintro e wn13 ⟨pv, rfl, pn, sn, fn⟩
          obtain ⟨A13, c13, rfl⟩ : ∃ A c, pv = .agg #[.int .i64 s.kind, .int .i64 s.n, .slice A s.signs.length c] := by obtain ⟨_, rfl, A, c, rfl, _⟩ := pn; exact ⟨A, c, rfl⟩
          have PN13 := Lib.hid pn
          have S' := Lib.hid sn
          have B' := Lib.hid (below_step B.out fn (fun i hi => by omega))
          have zn13 := B'.out.size
          clear pn sn fn S B
          have S := S'
          have B := B'
          clear S' B'
          go_wp2_with (fail)
          refine (S.out.wholeY Ns ONs.out HNs.out (by simp at em2; omega) EPT.out).mono ?_
          rintro e wn14 ⟨pv, rfl, pn, sn, fn⟩
          obtain ⟨A14, c14, rfl⟩ : ∃ A c, pv = .agg #[.int .i64 pt.kind, .int .i64 pt.n, .slice A pt.signs.length c] := by obtain ⟨_, rfl, A, c, rfl, _⟩ := pn; exact ⟨A, c, rfl⟩
          have PN14 := Lib.hid pn
          have S' := Lib.hid sn
          have B' := Lib.hid (below_step B.out fn (fun i hi => by omega))
          have zn14 := B'.out.size
          clear pn sn fn S B
          have S := S'
          have B := B'
          clear S' B'
          have FA := Lib.hid ((Frame.refl (fun _ => False) wn14).andAlloc (.cells #[.int .i64 pt.kind, .int .i64 pt.n, .slice A14 pt.signs.length c14] 71))
          have LT := Lib.hid S.out.o1.lt
          have LT2 := Lib.hid S.out.o2.lt
          have S' := Lib.hid (S.out.free FA.out)
          have B' := Lib.hid (below_step B.out FA.out (fun _ hh => hh.elim))
          clear S B
          have S := S'
          have B := B'
          clear S' B'
          have PB : Hid ((wn14.alloc (.cells #[.int .i64 pt.kind, .int .i64 pt.n, .slice A14 pt.signs.length c14] 71)).heap[wn14.heap.size]? = some (.cells #[.int .i64 pt.kind, .int .i64 pt.n, .slice A14 pt.signs.length c14] 71 (0, 0))) := heap_new_at _ _ rfl
          have PSI := Lib.hid (PN14.out.rd.frame FA.out (fun _ _ hh => hh))
          clear PN14
          go_wp2_with (at_builtin; refine wpList_append_lies _ rfl (.tmp 99) (.tmp 104) 24 rfl 0 71 i0 _ 3 40 Try.underlying24 hi hz0 hz1 hz2 rfl (by decide) _ _ _ (by rfl) (S.out.o1.row.alloc _) ⟨wn14.heap.size + 1, 0, none⟩ 1 1 [.int .i64 1, .int .i64 pt.signs.length, .slice none 0 0] (by rfl) rfl (World.news_of_block (heap_new_at _ _ (by first | rfl | (simp; done) | omega))) (by simp [Value.oneCell']) (by omega) (by unfold maxLen; omega) (by omega) (Nat.zero_le _) (wn14.heap.size + 1 + 1) (by simp) ?_)
          intro gg cap w9 hown hg hat hlt
          obtain ⟨s9, f9⟩ := (S.out.free (Frame.alloc (fun _ => False) _ _)).push1 (⟨1, (pt.signs.length : Int), []⟩ : Pt) rfl hown hg hat (by simp) (⟨none, 0, rfl, ⟨Nat.le_refl _, Nat.zero_le _⟩, fun k hk => absurd hk (Nat.not_lt_zero _)⟩)
          have B9 := Lib.hid (below_step (below_step B.out (Frame.alloc (fun _ => False) _ _) (fun _ hh => hh.elim)) f9 (fun i hi => VB.out i hi))
          have VB9 : Hid (∀ g, (Value.slice (some ⟨gg, 0, none⟩) (acc.length + 1) cap).ownBlock = some g → w.heap.size ≤ g) := fun g hh => by
            have e9 : gg = g := Option.some.inj hh
            rcases hat with e | e
            · exact VB.out g (by rw [← e9]; exact e)
            · omega
          have PB9 := f9.heap ((Frame.alloc (fun _ => False) _ _).heap PB.out (fun hh => hh)) (fun e => by have := LT.out _ e; omega)
          obtain ⟨PB0, PB1, PB2, -, PBl⟩ := blk3 PB9
          have PBH := Lib.hid PB9
          clear PB PB9
          have PSI9 := Lib.hid ((PSI.out.frame (Frame.alloc (fun _ => False) _ _) (fun _ _ hh => hh)).frame f9 (fun x hx e => S.out.o1.far x e hx))
          clear PSI
          have PSI := PSI9
          clear PSI9
          have S9 := Lib.hid s9
          clear s9 f9 hown hg hat hlt S B VB
          have S := S9
          have B := B9
          have VB := VB9
          clear S9 B9 VB9
          go_wp2_with (at_builtin; refine wpList_append_lies _ rfl (.tmp 106) (.tmp 108) 24 rfl 0 71 i0 _ 3 40 Try.underlying24 hi hz0 hz1 hz2 rfl (by decide) _ _ _ (by rfl) (S.out.o2.row.alloc _) ⟨w9.heap.size, 0, none⟩ 1 1 [.int .i64 pt.kind, .int .i64 pt.n, .slice A14 pt.signs.length c14] (by rfl) rfl (World.news_of_block (heap_new_at _ _ (by first | rfl | (simp; done) | omega))) (by simp [Value.oneCell']) (by omega) (by unfold maxLen; omega) (by omega) (Nat.zero_le _) (w9.heap.size + 1) (by simp) ?_)
          intro gg cap w9 hown hg hat hlt
          obtain ⟨s9, f9⟩ := (S.out.free (Frame.alloc (fun _ => False) _ _)).push2 pt rfl hown hg hat (by simp) ((PSI.out.frame (Frame.alloc (fun _ => False) _ _) (fun _ _ hh => hh)))
          have B9 := Lib.hid (below_step (below_step B.out (Frame.alloc (fun _ => False) _ _) (fun _ hh => hh.elim)) f9 (fun i hi => VB2.out i hi))
          have VB9 : Hid (∀ g, (Value.slice (some ⟨gg, 0, none⟩) (acc2.length + 1) cap).ownBlock = some g → w.heap.size ≤ g) := fun g hh => by
            have e9 : gg = g := Option.some.inj hh
            rcases hat with e | e
            · exact VB2.out g (by rw [← e9]; exact e)
            · omega
          have S9 := Lib.hid s9
          clear s9 f9 hown hg hat hlt S B VB2
          have S := S9
          have B := B9
          have VB2 := VB9
          clear S9 B9 VB9
          have HC' : Hid (Pl.XSt (Pl.units ps) (Pl.units qs) (Pl.units (acc ++ [(⟨1, (pt.signs.length : Int), []⟩ : Pt)])) (Pl.units (acc2 ++ [pt])) ((p :: q1)) (Pl.lf s Ns :: r1)) := by
            show Pl.XSt _ _ _ _ _ _
            rw [units_snoc, units_snoc, keep_units, LPT.out, ← EPT.out]
            exact HC1.out.put2 (n := Ns) HNs.out HKs.out EQ0.out HK3.out
          go_wp2_with (fail)
          go_roundg ((Pl.units ((p :: q1))).length + (Pl.units (Pl.lf s Ns :: r1)).length)
          case rel => exact ⟨_, _, acc ++ [(⟨1, (pt.signs.length : Int), []⟩ : Pt)], _, acc2 ++ [pt], (p :: q1), Pl.lf s Ns :: r1, rfl, S.out, HC'.out, ok_snoc HOK.out (keep_ok lpt), ok_snoc HOK2.out OPT.out, by first | omega | (simp; omega), by first | omega | (simp; omega), B.out, by simp at em1 ⊢; omega, by simp at em2 ⊢; omega, VB.out, VB2.out⟩
          case measure => omega
          -- END put0
        -- PART both
        have k0p : (p.kind == 0) = false := by rcases kdp with h | h | h <;> simp [h]
        have knp : (p.kind != 0) = true := by rcases kdp with h | h | h <;> simp [h]
        have k0s : (s.kind == 0) = false := by rcases kds with h | h | h <;> simp [h]
        have kns : (s.kind != 0) = true := by rcases kds with h | h | h <;> simp [h]
        have k2p : (p.kind == 2) = false := by simpa using hkp
        have k2s : (s.kind == 2) = false := by simpa using hks
        obtain ⟨m, hm⟩ : ∃ m : Nat, m = min Np Ns := ⟨_, rfl⟩
        have hle1 : (m : Int) ≤ Pl.size p := by omega
        have hle2 : (m : Int) ≤ Pl.size s := by omega
        have hcp : (Pl.units (p :: q1)).length = m + (Pl.units (Pl.lf p m :: q1)).length := Pl.cut_len okp hle1
        have hcs : (Pl.units (s :: r1)).length = m + (Pl.units (Pl.lf s m :: r1)).length := Pl.cut_len oks hle2
        have hNm : 1 ≤ m ∧ (m : Int) ≤ 200 := by omega
        obtain ⟨pt, ept⟩ : ∃ x, Pl.tk p m = x := ⟨_, rfl⟩
        obtain ⟨st, est⟩ : ∃ x, Pl.tk s m = x := ⟨_, rfl⟩
        have OPT : Hid (Pl.partOk pt = true) := by show _ = _; rw [← ept]; exact Pl.tk_ok okp hle1
        have OST : Hid (Pl.partOk st = true) := by show _ = _; rw [← est]; exact Pl.tk_ok oks hle2
        have KPT : Hid (pt.kind = p.kind) := by show _ = _; rw [← ept, Pl.tk_kind]
        have KST : Hid (st.kind = s.kind) := by show _ = _; rw [← est, Pl.tk_kind]
        have HB := Lib.hid (HC1.out.both hle1 hle2 hkp hks)
        have EPT := Lib.hid ept
        have EST := Lib.hid est
        have HNp := Lib.hid hNp
        have HNs := Lib.hid hNs
        have ONp := Lib.hid okp
        have ONs := Lib.hid oks
        have hpn := (partOk_facts okp).2
        have hsn := (partOk_facts oks).2
        have HM := Lib.hid hm
        clear hm
        have HL1 := Lib.hid hle1
        have HL2 := Lib.hid hle2
        have hb1 : 0 ≤ p.n ∧ p.n ≤ 1000000 ∧ p.signs.length ≤ 1000000 := by obtain ⟨a, b, c, _⟩ := hpn; omega
        have hb2 : 0 ≤ s.n ∧ s.n ≤ 1000000 ∧ s.signs.length ≤ 1000000 := by obtain ⟨a, b, c, _⟩ := hsn; omega
        clear ept est hNp hNs hN2p hN2s szp szs okp oks hpn hsn hle1 hle2 unp uns hkp hks kdp kds HK3
        obtain ⟨pl, epl⟩ : ∃ x, Pl.lf p m = x := ⟨_, rfl⟩
        obtain ⟨sl, esl⟩ : ∃ x, Pl.lf s m = x := ⟨_, rfl⟩
        rw [epl] at hcp HB
        rw [esl] at hcs HB
        have EPL := Lib.hid epl
        have ESL := Lib.hid esl
        clear epl esl
        go_wp2_with (fail)
        refine (S.out.nextX OQ.out EQ.out HQ.out).mono ?_
        rintro e wn15 ⟨pv, rfl, pn, sn, fn⟩
        obtain ⟨A15, c15, rfl⟩ : ∃ A c, pv = .agg #[.int .i64 p.kind, .int .i64 p.n, .slice A p.signs.length c] := by obtain ⟨_, rfl, A, c, rfl, _⟩ := pn; exact ⟨A, c, rfl⟩
        have PN15 := Lib.hid pn
        have S' := Lib.hid sn
        have B' := Lib.hid (below_step B.out fn (fun i hi => by omega))
        have zn15 := B'.out.size
        clear pn sn fn S B
        have S := S'
        have B := B'
        clear S' B'
        go_wp2_with (fail)
        refine (S.out.nextX OQ0.out EQ0.out HQ.out).mono ?_
        rintro e wn16 ⟨pv, rfl, pn, sn, fn⟩
        obtain ⟨A16, c16, rfl⟩ : ∃ A c, pv = .agg #[.int .i64 p.kind, .int .i64 p.n, .slice A p.signs.length c] := by obtain ⟨_, rfl, A, c, rfl, _⟩ := pn; exact ⟨A, c, rfl⟩
        have PN16 := Lib.hid pn
        have S' := Lib.hid sn
        have B' := Lib.hid (below_step B.out fn (fun i hi => by omega))
        have zn16 := B'.out.size
        clear pn sn fn S B
        have S := S'
        have B := B'
        clear S' B'
        go_wp2_with (fail)
        refine (S.out.nextY OR.out ER.out HR.out).mono ?_
        rintro e wn17 ⟨pv, rfl, pn, sn, fn⟩
        obtain ⟨A17, c17, rfl⟩ : ∃ A c, pv = .agg #[.int .i64 s.kind, .int .i64 s.n, .slice A s.signs.length c] := by obtain ⟨_, rfl, A, c, rfl, _⟩ := pn; exact ⟨A, c, rfl⟩
        have PN17 := Lib.hid pn
        have S' := Lib.hid sn
        have B' := Lib.hid (below_step B.out fn (fun i hi => by omega))
        have zn17 := B'.out.size
        clear pn sn fn S B
        have S := S'
        have B := B'
        clear S' B'
        go_wp2_with (fail)
        refine (S.out.nextX OQ0.out EQ0.out HQ.out).mono ?_
        rintro e wn18 ⟨pv, rfl, pn, sn, fn⟩
        obtain ⟨A18, c18, rfl⟩ : ∃ A c, pv = .agg #[.int .i64 p.kind, .int .i64 p.n, .slice A p.signs.length c] := by obtain ⟨_, rfl, A, c, rfl, _⟩ := pn; exact ⟨A, c, rfl⟩
        have PN18 := Lib.hid pn
        have S' := Lib.hid sn
        have B' := Lib.hid (below_step B.out fn (fun i hi => by omega))
        have zn18 := B'.out.size
        clear pn sn fn S B
        have S := S'
        have B := B'
        clear S' B'
        go_wp2_with (fail)
        refine (size_i _ p _ PN18.out.part hb1.1 hb1.2.1 hb1.2.2).mono ?_
        rintro e wzp ⟨he, bz⟩
        rw [← HNp.out] at he
        subst he
        have S' := Lib.hid (S.out.free (Frame.ofBelow bz))
        have B' := Lib.hid (B.out.trans (bz.mono (by omega)))
        have zzp := B'.out.size
        clear S B bz PN18
        have S := S'
        have B := B'
        clear S' B'
        go_wp2_with (fail)
        refine (S.out.nextY OR0.out ER0.out HR.out).mono ?_
        rintro e wn19 ⟨pv, rfl, pn, sn, fn⟩
        obtain ⟨A19, c19, rfl⟩ : ∃ A c, pv = .agg #[.int .i64 s.kind, .int .i64 s.n, .slice A s.signs.length c] := by obtain ⟨_, rfl, A, c, rfl, _⟩ := pn; exact ⟨A, c, rfl⟩
        have PN19 := Lib.hid pn
        have S' := Lib.hid sn
        have B' := Lib.hid (below_step B.out fn (fun i hi => by omega))
        have zn19 := B'.out.size
        clear pn sn fn S B
        have S := S'
        have B := B'
        clear S' B'
        go_wp2_with (fail)
        refine (size_i _ s _ PN19.out.part hb2.1 hb2.2.1 hb2.2.2).mono ?_
        rintro e wzs ⟨he, bz⟩
        rw [← HNs.out] at he
        subst he
        have S' := Lib.hid (S.out.free (Frame.ofBelow bz))
        have B' := Lib.hid (B.out.trans (bz.mono (by omega)))
        have zzs := B'.out.size
        clear S B bz PN19
        have S := S'
        have B := B'
        clear S' B'
        rcases Nat.lt_or_ge Ns Np with hle | hle
        ·
          obtain rfl : m = Ns := by rw [HM.out]; omega
          go_wp2_with (fail)
          refine (S.out.takeX _ ONp.out HL1.out (by simp at em1; omega) EPT.out).mono ?_
          rintro e wn20 ⟨pv, rfl, pn, sn, fn⟩
          obtain ⟨A20, c20, rfl⟩ : ∃ A c, pv = .agg #[.int .i64 pt.kind, .int .i64 pt.n, .slice A pt.signs.length c] := by obtain ⟨_, rfl, A, c, rfl, _⟩ := pn; exact ⟨A, c, rfl⟩
          have PN20 := Lib.hid pn
          have S' := Lib.hid sn
          have B' := Lib.hid (below_step B.out fn (fun i hi => by omega))
          have zn20 := B'.out.size
          clear pn sn fn S B
          have S := S'
          have B := B'
          clear S' B'
          go_wp2_with (fail)
          refine (S.out.takeY _ ONs.out HL2.out (by simp at em2; omega) EST.out).mono ?_
          rintro e wn21 ⟨pv, rfl, pn, sn, fn⟩
          obtain ⟨A21, c21, rfl⟩ : ∃ A c, pv = .agg #[.int .i64 st.kind, .int .i64 st.n, .slice A st.signs.length c] := by obtain ⟨_, rfl, A, c, rfl, _⟩ := pn; exact ⟨A, c, rfl⟩
          have PN21 := Lib.hid pn
          have S' := Lib.hid sn
          have B' := Lib.hid (below_step B.out fn (fun i hi => by omega))
          have zn21 := B'.out.size
          have PP := Lib.hid (PN20.out.next fn S.out.two.ny)
          clear pn sn fn S B
          have S := S'
          have B := B'
          clear S' B'
          clear PN20
          have FA := Lib.hid (((Frame.refl (fun _ => False) wn21).andAlloc (.cells #[.int .i64 pt.kind, .int .i64 pt.n, .slice A20 pt.signs.length c20] 71)).andAlloc (.cells #[.int .i64 st.kind, .int .i64 st.n, .slice A21 st.signs.length c21] 71))
          rw [EPL.out, ESL.out] at S
          have LT := Lib.hid S.out.o1.lt
          have LT2 := Lib.hid S.out.o2.lt
          have S' := Lib.hid (S.out.free FA.out)
          have B' := Lib.hid (below_step B.out FA.out (fun _ hh => hh.elim))
          have PSI := Lib.hid (PP.out.rd.frame FA.out (fun _ _ hh => hh))
          have QSI := Lib.hid (PN21.out.rd.frame FA.out (fun _ _ hh => hh))
          have PB : Hid (((wn21.alloc (.cells #[.int .i64 pt.kind, .int .i64 pt.n, .slice A20 pt.signs.length c20] 71)).alloc (.cells #[.int .i64 st.kind, .int .i64 st.n, .slice A21 st.signs.length c21] 71)).heap[wn21.heap.size]? = some (.cells #[.int .i64 pt.kind, .int .i64 pt.n, .slice A20 pt.signs.length c20] 71 (0, 0))) := by
            show _ = _
            rw [Below.heap_alloc _ _ _ (by simp)]
            exact heap_new_at _ _ rfl
          have QB : Hid (((wn21.alloc (.cells #[.int .i64 pt.kind, .int .i64 pt.n, .slice A20 pt.signs.length c20] 71)).alloc (.cells #[.int .i64 st.kind, .int .i64 st.n, .slice A21 st.signs.length c21] 71)).heap[wn21.heap.size + 1]? = some (.cells #[.int .i64 st.kind, .int .i64 st.n, .slice A21 st.signs.length c21] 71 (0, 0))) := heap_new_at _ _ (by simp)
          clear S B PP PN21
          have S := S'
          have B := B'
          clear S' B'
          by_cases ks1 : s.kind = 1
          · have k1st : (st.kind == 1) = true := by rw [KST.out]; simp [ks1]
            have KS1 := Lib.hid ks1
            clear ks1
            by_cases kp1 : p.kind = 1
            · have k1pt : (pt.kind == 1) = true := by rw [KPT.out]; simp [kp1]
              have KP1 := Lib.hid kp1
              clear kp1
              go_wp2_with (at_builtin; refine wpList_append_lies _ rfl (.tmp 63) (.tmp 65) 24 rfl 0 71 i0 _ 3 40 Try.underlying24 hi hz0 hz1 hz2 rfl (by decide) _ _ _ (by rfl) (S.out.o1.row.alloc _) ⟨wn21.heap.size + 1 + 1, 0, none⟩ 1 1 [.int .i64 pt.kind, .int .i64 pt.n, .slice A20 pt.signs.length c20] (by rfl) rfl (World.news_of_block (heap_new_at _ _ (by first | rfl | (simp; done) | omega))) (by simp [Value.oneCell']) (by omega) (by unfold maxLen; omega) (by omega) (Nat.zero_le _) (wn21.heap.size + 1 + 1 + 1) (by simp) ?_)
              intro gg cap w9 hown hg hat hlt
              obtain ⟨s9, f9⟩ := (S.out.free (Frame.alloc (fun _ => False) _ _)).push1 pt rfl hown hg hat (by simp) ((PSI.out.frame (Frame.alloc (fun _ => False) _ _) (fun _ _ hh => hh)))
              have B9 := Lib.hid (below_step (below_step B.out (Frame.alloc (fun _ => False) _ _) (fun _ hh => hh.elim)) f9 (fun i hi => VB.out i hi))
              have VB9 : Hid (∀ g, (Value.slice (some ⟨gg, 0, none⟩) (acc.length + 1) cap).ownBlock = some g → w.heap.size ≤ g) := fun g hh => by
                have e9 : gg = g := Option.some.inj hh
                rcases hat with e | e
                · exact VB.out g (by rw [← e9]; exact e)
                · omega
              have PB9 := f9.heap ((Frame.alloc (fun _ => False) _ _).heap PB.out (fun hh => hh)) (fun e => by have := LT.out _ e; omega)
              obtain ⟨PB0, PB1, PB2, -, PBl⟩ := blk3 PB9
              have PBH := Lib.hid PB9
              clear PB PB9
              have QB9 := f9.heap ((Frame.alloc (fun _ => False) _ _).heap QB.out (fun hh => hh)) (fun e => by have := LT.out _ e; omega)
              obtain ⟨QB0, QB1, QB2, -, QBl⟩ := blk3 QB9
              have QBH := Lib.hid QB9
              clear QB QB9
              have QSI9 := Lib.hid ((QSI.out.frame (Frame.alloc (fun _ => False) _ _) (fun _ _ hh => hh)).frame f9 (fun x hx e => S.out.o1.far x e hx))
              clear QSI
              have QSI := QSI9
              clear QSI9
              have S9 := Lib.hid s9
              clear s9 f9 hown hg hat hlt S B VB
              have S := S9
              have B := B9
              have VB := VB9
              clear S9 B9 VB9
              go_wp2_with (at_builtin; refine wpList_append_lies _ rfl (.tmp 70) (.tmp 72) 24 rfl 0 71 i0 _ 3 40 Try.underlying24 hi hz0 hz1 hz2 rfl (by decide) _ _ _ (by rfl) (S.out.o2.row.alloc _) ⟨w9.heap.size, 0, none⟩ 1 1 [.int .i64 st.kind, .int .i64 st.n, .slice A21 st.signs.length c21] (by rfl) rfl (World.news_of_block (heap_new_at _ _ (by first | rfl | (simp; done) | omega))) (by simp [Value.oneCell']) (by omega) (by unfold maxLen; omega) (by omega) (Nat.zero_le _) (w9.heap.size + 1) (by simp) ?_)
              intro gg cap w9 hown hg hat hlt
              obtain ⟨s9, f9⟩ := (S.out.free (Frame.alloc (fun _ => False) _ _)).push2 st rfl hown hg hat (by simp) ((QSI.out.frame (Frame.alloc (fun _ => False) _ _) (fun _ _ hh => hh)))
              have B9 := Lib.hid (below_step (below_step B.out (Frame.alloc (fun _ => False) _ _) (fun _ hh => hh.elim)) f9 (fun i hi => VB2.out i hi))
              have VB9 : Hid (∀ g, (Value.slice (some ⟨gg, 0, none⟩) (acc2.length + 1) cap).ownBlock = some g → w.heap.size ≤ g) := fun g hh => by
                have e9 : gg = g := Option.some.inj hh
                rcases hat with e | e
                · exact VB2.out g (by rw [← e9]; exact e)
                · omega
              have S9 := Lib.hid s9
              clear s9 f9 hown hg hat hlt S B VB2
              have S := S9
              have B := B9
              have VB2 := VB9
              clear S9 B9 VB9
              have HC' : Hid (Pl.XSt (Pl.units ps) (Pl.units qs) (Pl.units (acc ++ [pt])) (Pl.units (acc2 ++ [st])) (pl :: q1) (sl :: r1)) := by
                show Pl.XSt _ _ _ _ _ _
                rw [units_snoc, units_snoc, ← EPT.out, ← EST.out]
                have hb := HB.out
                rw [Pl.xOut1, if_pos KS1.out, Pl.xOut2, if_pos KP1.out] at hb
                exact hb
              go_wp2_with (fail)
              go_roundg ((Pl.units (pl :: q1)).length + (Pl.units (sl :: r1)).length)
              case rel => exact ⟨_, _, acc ++ [pt], _, acc2 ++ [st], pl :: q1, sl :: r1, rfl, S.out, HC'.out, ok_snoc HOK.out OPT.out, ok_snoc HOK2.out OST.out, by first | omega | (simp; omega), by first | omega | (simp; omega), B.out, by simp at em1 ⊢; omega, by simp at em2 ⊢; omega, VB.out, VB2.out⟩
              case measure => omega
            · have k1pt : (pt.kind == 1) = false := by rw [KPT.out]; simp [kp1]
              have KP1 := Lib.hid kp1
              clear kp1
              go_wp2_with (at_builtin; refine wpList_append_lies _ rfl (.tmp 63) (.tmp 65) 24 rfl 0 71 i0 _ 3 40 Try.underlying24 hi hz0 hz1 hz2 rfl (by decide) _ _ _ (by rfl) (S.out.o1.row.alloc _) ⟨wn21.heap.size + 1 + 1, 0, none⟩ 1 1 [.int .i64 pt.kind, .int .i64 pt.n, .slice A20 pt.signs.length c20] (by rfl) rfl (World.news_of_block (heap_new_at _ _ (by first | rfl | (simp; done) | omega))) (by simp [Value.oneCell']) (by omega) (by unfold maxLen; omega) (by omega) (Nat.zero_le _) (wn21.heap.size + 1 + 1 + 1) (by simp) ?_)
              intro gg cap w9 hown hg hat hlt
              obtain ⟨s9, f9⟩ := (S.out.free (Frame.alloc (fun _ => False) _ _)).push1 pt rfl hown hg hat (by simp) ((PSI.out.frame (Frame.alloc (fun _ => False) _ _) (fun _ _ hh => hh)))
              have B9 := Lib.hid (below_step (below_step B.out (Frame.alloc (fun _ => False) _ _) (fun _ hh => hh.elim)) f9 (fun i hi => VB.out i hi))
              have VB9 : Hid (∀ g, (Value.slice (some ⟨gg, 0, none⟩) (acc.length + 1) cap).ownBlock = some g → w.heap.size ≤ g) := fun g hh => by
                have e9 : gg = g := Option.some.inj hh
                rcases hat with e | e
                · exact VB.out g (by rw [← e9]; exact e)
                · omega
              have PB9 := f9.heap ((Frame.alloc (fun _ => False) _ _).heap PB.out (fun hh => hh)) (fun e => by have := LT.out _ e; omega)
              obtain ⟨PB0, PB1, PB2, -, PBl⟩ := blk3 PB9
              have PBH := Lib.hid PB9
              clear PB PB9
              have QB9 := f9.heap ((Frame.alloc (fun _ => False) _ _).heap QB.out (fun hh => hh)) (fun e => by have := LT.out _ e; omega)
              obtain ⟨QB0, QB1, QB2, -, QBl⟩ := blk3 QB9
              have QBH := Lib.hid QB9
              clear QB QB9
              have QSI9 := Lib.hid ((QSI.out.frame (Frame.alloc (fun _ => False) _ _) (fun _ _ hh => hh)).frame f9 (fun x hx e => S.out.o1.far x e hx))
              clear QSI
              have QSI := QSI9
              clear QSI9
              have S9 := Lib.hid s9
              clear s9 f9 hown hg hat hlt S B VB
              have S := S9
              have B := B9
              have VB := VB9
              clear S9 B9 VB9
              have HC' : Hid (Pl.XSt (Pl.units ps) (Pl.units qs) (Pl.units (acc ++ [pt])) (Pl.units (acc2)) (pl :: q1) (sl :: r1)) := by
                show Pl.XSt _ _ _ _ _ _
                rw [units_snoc, ← EPT.out]
                have hb := HB.out
                rw [Pl.xOut1, if_pos KS1.out, Pl.xOut2, if_neg KP1.out, List.append_nil] at hb
                exact hb
              go_wp2_with (fail)
              go_roundg ((Pl.units (pl :: q1)).length + (Pl.units (sl :: r1)).length)
              case rel => exact ⟨_, _, acc ++ [pt], _, acc2, pl :: q1, sl :: r1, rfl, S.out, HC'.out, ok_snoc HOK.out OPT.out, HOK2.out, by first | omega | (simp; omega), by first | omega | (simp; omega), B.out, by simp at em1 ⊢; omega, by simp at em2 ⊢; omega, VB.out, VB2.out⟩
              case measure => omega
          · have k1st : (st.kind == 1) = false := by rw [KST.out]; simp [ks1]
            have KS1 := Lib.hid ks1
            clear ks1
            by_cases kp1 : p.kind = 1
            · have k1pt : (pt.kind == 1) = true := by rw [KPT.out]; simp [kp1]
              have KP1 := Lib.hid kp1
              clear kp1
              go_wp2_with (at_builtin; refine wpList_append_lies _ rfl (.tmp 70) (.tmp 72) 24 rfl 0 71 i0 _ 3 40 Try.underlying24 hi hz0 hz1 hz2 rfl (by decide) _ _ _ (by rfl) (S.out.o2.row.alloc _) ⟨wn21.heap.size + 1 + 1, 0, none⟩ 1 1 [.int .i64 st.kind, .int .i64 st.n, .slice A21 st.signs.length c21] (by rfl) rfl (World.news_of_block (heap_new_at _ _ (by first | rfl | (simp; done) | omega))) (by simp [Value.oneCell']) (by omega) (by unfold maxLen; omega) (by omega) (Nat.zero_le _) (wn21.heap.size + 1 + 1 + 1) (by simp) ?_)
              intro gg cap w9 hown hg hat hlt
              obtain ⟨s9, f9⟩ := (S.out.free (Frame.alloc (fun _ => False) _ _)).push2 st rfl hown hg hat (by simp) ((QSI.out.frame (Frame.alloc (fun _ => False) _ _) (fun _ _ hh => hh)))
              have B9 := Lib.hid (below_step (below_step B.out (Frame.alloc (fun _ => False) _ _) (fun _ hh => hh.elim)) f9 (fun i hi => VB2.out i hi))
              have VB9 : Hid (∀ g, (Value.slice (some ⟨gg, 0, none⟩) (acc2.length + 1) cap).ownBlock = some g → w.heap.size ≤ g) := fun g hh => by
                have e9 : gg = g := Option.some.inj hh
                rcases hat with e | e
                · exact VB2.out g (by rw [← e9]; exact e)
                · omega
              have S9 := Lib.hid s9
              clear s9 f9 hown hg hat hlt S B VB2
              have S := S9
              have B := B9
              have VB2 := VB9
              clear S9 B9 VB9
              have HC' : Hid (Pl.XSt (Pl.units ps) (Pl.units qs) (Pl.units (acc)) (Pl.units (acc2 ++ [st])) (pl :: q1) (sl :: r1)) := by
                show Pl.XSt _ _ _ _ _ _
                rw [units_snoc, ← EST.out]
                have hb := HB.out
                rw [Pl.xOut1, if_neg KS1.out, Pl.xOut2, if_pos KP1.out, List.append_nil] at hb
                exact hb
              go_wp2_with (fail)
              go_roundg ((Pl.units (pl :: q1)).length + (Pl.units (sl :: r1)).length)
              case rel => exact ⟨_, _, acc, _, acc2 ++ [st], pl :: q1, sl :: r1, rfl, S.out, HC'.out, HOK.out, ok_snoc HOK2.out OST.out, by first | omega | (simp; omega), by first | omega | (simp; omega), B.out, by simp at em1 ⊢; omega, by simp at em2 ⊢; omega, VB.out, VB2.out⟩
              case measure => omega
            · have k1pt : (pt.kind == 1) = false := by rw [KPT.out]; simp [kp1]
              have KP1 := Lib.hid kp1
              clear kp1
              have HC' : Hid (Pl.XSt (Pl.units ps) (Pl.units qs) (Pl.units (acc)) (Pl.units (acc2)) (pl :: q1) (sl :: r1)) := by
                show Pl.XSt _ _ _ _ _ _
                have hb := HB.out
                rw [Pl.xOut1, if_neg KS1.out, Pl.xOut2, if_neg KP1.out, List.append_nil, List.append_nil] at hb
                exact hb
              go_wp2_with (fail)
              go_roundg ((Pl.units (pl :: q1)).length + (Pl.units (sl :: r1)).length)
              case rel => exact ⟨_, _, acc, _, acc2, pl :: q1, sl :: r1, rfl, S.out, HC'.out, HOK.out, HOK2.out, by first | omega | (simp; omega), by first | omega | (simp; omega), B.out, by simp at em1 ⊢; omega, by simp at em2 ⊢; omega, VB.out, VB2.out⟩
              case measure => omega
        ·
          obtain rfl : m = Np := by rw [HM.out]; omega
          go_wp2_with (fail)
          refine (S.out.takeX _ ONp.out HL1.out (by simp at em1; omega) EPT.out).mono ?_
          rintro e wn22 ⟨pv, rfl, pn, sn, fn⟩
          obtain ⟨A22, c22, rfl⟩ : ∃ A c, pv = .agg #[.int .i64 pt.kind, .int .i64 pt.n, .slice A pt.signs.length c] := by obtain ⟨_, rfl, A, c, rfl, _⟩ := pn; exact ⟨A, c, rfl⟩
          have PN22 := Lib.hid pn
          have S' := Lib.hid sn
          have B' := Lib.hid (below_step B.out fn (fun i hi => by omega))
          have zn22 := B'.out.size
          clear pn sn fn S B
          have S := S'
          have B := B'
          clear S' B'
          go_wp2_with (fail)
          refine (S.out.takeY _ ONs.out HL2.out (by simp at em2; omega) EST.out).mono ?_
          rintro e wn23 ⟨pv, rfl, pn, sn, fn⟩
          obtain ⟨A23, c23, rfl⟩ : ∃ A c, pv = .agg #[.int .i64 st.kind, .int .i64 st.n, .slice A st.signs.length c] := by obtain ⟨_, rfl, A, c, rfl, _⟩ := pn; exact ⟨A, c, rfl⟩
          have PN23 := Lib.hid pn
          have S' := Lib.hid sn
          have B' := Lib.hid (below_step B.out fn (fun i hi => by omega))
          have zn23 := B'.out.size
          have PP := Lib.hid (PN22.out.next fn S.out.two.ny)
          clear pn sn fn S B
          have S := S'
          have B := B'
          clear S' B'
          clear PN22
          have FA := Lib.hid (((Frame.refl (fun _ => False) wn23).andAlloc (.cells #[.int .i64 pt.kind, .int .i64 pt.n, .slice A22 pt.signs.length c22] 71)).andAlloc (.cells #[.int .i64 st.kind, .int .i64 st.n, .slice A23 st.signs.length c23] 71))
          rw [EPL.out, ESL.out] at S
          have LT := Lib.hid S.out.o1.lt
          have LT2 := Lib.hid S.out.o2.lt
          have S' := Lib.hid (S.out.free FA.out)
          have B' := Lib.hid (below_step B.out FA.out (fun _ hh => hh.elim))
          have PSI := Lib.hid (PP.out.rd.frame FA.out (fun _ _ hh => hh))
          have QSI := Lib.hid (PN23.out.rd.frame FA.out (fun _ _ hh => hh))
          have PB : Hid (((wn23.alloc (.cells #[.int .i64 pt.kind, .int .i64 pt.n, .slice A22 pt.signs.length c22] 71)).alloc (.cells #[.int .i64 st.kind, .int .i64 st.n, .slice A23 st.signs.length c23] 71)).heap[wn23.heap.size]? = some (.cells #[.int .i64 pt.kind, .int .i64 pt.n, .slice A22 pt.signs.length c22] 71 (0, 0))) := by
            show _ = _
            rw [Below.heap_alloc _ _ _ (by simp)]
            exact heap_new_at _ _ rfl
          have QB : Hid (((wn23.alloc (.cells #[.int .i64 pt.kind, .int .i64 pt.n, .slice A22 pt.signs.length c22] 71)).alloc (.cells #[.int .i64 st.kind, .int .i64 st.n, .slice A23 st.signs.length c23] 71)).heap[wn23.heap.size + 1]? = some (.cells #[.int .i64 st.kind, .int .i64 st.n, .slice A23 st.signs.length c23] 71 (0, 0))) := heap_new_at _ _ (by simp)
          clear S B PP PN23
          have S := S'
          have B := B'
          clear S' B'
          by_cases ks1 : s.kind = 1
          · have k1st : (st.kind == 1) = true := by rw [KST.out]; simp [ks1]
            have KS1 := Lib.hid ks1
            clear ks1
            by_cases kp1 : p.kind = 1
            · have k1pt : (pt.kind == 1) = true := by rw [KPT.out]; simp [kp1]
              have KP1 := Lib.hid kp1
              clear kp1
              go_wp2_with (at_builtin; refine wpList_append_lies _ rfl (.tmp 63) (.tmp 65) 24 rfl 0 71 i0 _ 3 40 Try.underlying24 hi hz0 hz1 hz2 rfl (by decide) _ _ _ (by rfl) (S.out.o1.row.alloc _) ⟨wn23.heap.size + 1 + 1, 0, none⟩ 1 1 [.int .i64 pt.kind, .int .i64 pt.n, .slice A22 pt.signs.length c22] (by rfl) rfl (World.news_of_block (heap_new_at _ _ (by first | rfl | (simp; done) | omega))) (by simp [Value.oneCell']) (by omega) (by unfold maxLen; omega) (by omega) (Nat.zero_le _) (wn23.heap.size + 1 + 1 + 1) (by simp) ?_)
              intro gg cap w9 hown hg hat hlt
              obtain ⟨s9, f9⟩ := (S.out.free (Frame.alloc (fun _ => False) _ _)).push1 pt rfl hown hg hat (by simp) ((PSI.out.frame (Frame.alloc (fun _ => False) _ _) (fun _ _ hh => hh)))
              have B9 := Lib.hid (below_step (below_step B.out (Frame.alloc (fun _ => False) _ _) (fun _ hh => hh.elim)) f9 (fun i hi => VB.out i hi))
              have VB9 : Hid (∀ g, (Value.slice (some ⟨gg, 0, none⟩) (acc.length + 1) cap).ownBlock = some g → w.heap.size ≤ g) := fun g hh => by
                have e9 : gg = g := Option.some.inj hh
                rcases hat with e | e
                · exact VB.out g (by rw [← e9]; exact e)
                · omega
              have PB9 := f9.heap ((Frame.alloc (fun _ => False) _ _).heap PB.out (fun hh => hh)) (fun e => by have := LT.out _ e; omega)
              obtain ⟨PB0, PB1, PB2, -, PBl⟩ := blk3 PB9
              have PBH := Lib.hid PB9
              clear PB PB9
              have QB9 := f9.heap ((Frame.alloc (fun _ => False) _ _).heap QB.out (fun hh => hh)) (fun e => by have := LT.out _ e; omega)
              obtain ⟨QB0, QB1, QB2, -, QBl⟩ := blk3 QB9
              have QBH := Lib.hid QB9
              clear QB QB9
              have QSI9 := Lib.hid ((QSI.out.frame (Frame.alloc (fun _ => False) _ _) (fun _ _ hh => hh)).frame f9 (fun x hx e => S.out.o1.far x e hx))
              clear QSI
              have QSI := QSI9
              clear QSI9
              have S9 := Lib.hid s9
              clear s9 f9 hown hg hat hlt S B VB
              have S := S9
              have B := B9
              have VB := VB9
              clear S9 B9 VB9
              go_wp2_with (at_builtin; refine wpList_append_lies _ rfl (.tmp 70) (.tmp 72) 24 rfl 0 71 i0 _ 3 40 Try.underlying24 hi hz0 hz1 hz2 rfl (by decide) _ _ _ (by rfl) (S.out.o2.row.alloc _) ⟨w9.heap.size, 0, none⟩ 1 1 [.int .i64 st.kind, .int .i64 st.n, .slice A23 st.signs.length c23] (by rfl) rfl (World.news_of_block (heap_new_at _ _ (by first | rfl | (simp; done) | omega))) (by simp [Value.oneCell']) (by omega) (by unfold maxLen; omega) (by omega) (Nat.zero_le _) (w9.heap.size + 1) (by simp) ?_)
              intro gg cap w9 hown hg hat hlt
              obtain ⟨s9, f9⟩ := (S.out.free (Frame.alloc (fun _ => False) _ _)).push2 st rfl hown hg hat (by simp) ((QSI.out.frame (Frame.alloc (fun _ => False) _ _) (fun _ _ hh => hh)))
              have B9 := Lib.hid (below_step (below_step B.out (Frame.alloc (fun _ => False) _ _) (fun _ hh => hh.elim)) f9 (fun i hi => VB2.out i hi))
              have VB9 : Hid (∀ g, (Value.slice (some ⟨gg, 0, none⟩) (acc2.length + 1) cap).ownBlock = some g → w.heap.size ≤ g) := fun g hh => by
                have e9 : gg = g := Option.some.inj hh
                rcases hat with e | e
                · exact VB2.out g (by rw [← e9]; exact e)
                · omega
              have S9 := Lib.hid s9
              clear s9 f9 hown hg hat hlt S B VB2
              have S := S9
              have B := B9
              have VB2 := VB9
              clear S9 B9 VB9
              have HC' : Hid (Pl.XSt (Pl.units ps) (Pl.units qs) (Pl.units (acc ++ [pt])) (Pl.units (acc2 ++ [st])) (pl :: q1) (sl :: r1)) := by
                show Pl.XSt _ _ _ _ _ _
                rw [units_snoc, units_snoc, ← EPT.out, ← EST.out]
                have hb := HB.out
                rw [Pl.xOut1, if_pos KS1.out, Pl.xOut2, if_pos KP1.out] at hb
                exact hb
              go_wp2_with (fail)
              go_roundg ((Pl.units (pl :: q1)).length + (Pl.units (sl :: r1)).length)
              case rel => exact ⟨_, _, acc ++ [pt], _, acc2 ++ [st], pl :: q1, sl :: r1, rfl, S.out, HC'.out, ok_snoc HOK.out OPT.out, ok_snoc HOK2.out OST.out, by first | omega | (simp; omega), by first | omega | (simp; omega), B.out, by simp at em1 ⊢; omega, by simp at em2 ⊢; omega, VB.out, VB2.out⟩
              case measure => omega
            · have k1pt : (pt.kind == 1) = false := by rw [KPT.out]; simp [kp1]
              have KP1 := Lib.hid kp1
              clear kp1
              go_wp2_with (at_builtin; refine wpList_append_lies _ rfl (.tmp 63) (.tmp 65) 24 rfl 0 71 i0 _ 3 40 Try.underlying24 hi hz0 hz1 hz2 rfl (by decide) _ _ _ (by rfl) (S.out.o1.row.alloc _) ⟨wn23.heap.size + 1 + 1, 0, none⟩ 1 1 [.int .i64 pt.kind, .int .i64 pt.n, .slice A22 pt.signs.length c22] (by rfl) rfl (World.news_of_block (heap_new_at _ _ (by first | rfl | (simp; done) | omega))) (by simp [Value.oneCell']) (by omega) (by unfold maxLen; omega) (by omega) (Nat.zero_le _) (wn23.heap.size + 1 + 1 + 1) (by simp) ?_)
              intro gg cap w9 hown hg hat hlt
              obtain ⟨s9, f9⟩ := (S.out.free (Frame.alloc (fun _ => False) _ _)).push1 pt rfl hown hg hat (by simp) ((PSI.out.frame (Frame.alloc (fun _ => False) _ _) (fun _ _ hh => hh)))
              have B9 := Lib.hid (below_step (below_step B.out (Frame.alloc (fun _ => False) _ _) (fun _ hh => hh.elim)) f9 (fun i hi => VB.out i hi))
              have VB9 : Hid (∀ g, (Value.slice (some ⟨gg, 0, none⟩) (acc.length + 1) cap).ownBlock = some g → w.heap.size ≤ g) := fun g hh => by
                have e9 : gg = g := Option.some.inj hh
                rcases hat with e | e
                · exact VB.out g (by rw [← e9]; exact e)
                · omega
              have PB9 := f9.heap ((Frame.alloc (fun _ => False) _ _).heap PB.out (fun hh => hh)) (fun e => by have := LT.out _ e; omega)
              obtain ⟨PB0, PB1, PB2, -, PBl⟩ := blk3 PB9
              have PBH := Lib.hid PB9
              clear PB PB9
              have QB9 := f9.heap ((Frame.alloc (fun _ => False) _ _).heap QB.out (fun hh => hh)) (fun e => by have := LT.out _ e; omega)
              obtain ⟨QB0, QB1, QB2, -, QBl⟩ := blk3 QB9
              have QBH := Lib.hid QB9
              clear QB QB9
              have QSI9 := Lib.hid ((QSI.out.frame (Frame.alloc (fun _ => False) _ _) (fun _ _ hh => hh)).frame f9 (fun x hx e => S.out.o1.far x e hx))
              clear QSI
              have QSI := QSI9
              clear QSI9
              have S9 := Lib.hid s9
              clear s9 f9 hown hg hat hlt S B VB
              have S := S9
              have B := B9
              have VB := VB9
              clear S9 B9 VB9
              have HC' : Hid (Pl.XSt (Pl.units ps) (Pl.units qs) (Pl.units (acc ++ [pt])) (Pl.units (acc2)) (pl :: q1) (sl :: r1)) := by
                show Pl.XSt _ _ _ _ _ _
                rw [units_snoc, ← EPT.out]
                have hb := HB.out
                rw [Pl.xOut1, if_pos KS1.out, Pl.xOut2, if_neg KP1.out, List.append_nil] at hb
                exact hb
              go_wp2_with (fail)
              go_roundg ((Pl.units (pl :: q1)).length + (Pl.units (sl :: r1)).length)
              case rel => exact ⟨_, _, acc ++ [pt], _, acc2, pl :: q1, sl :: r1, rfl, S.out, HC'.out, ok_snoc HOK.out OPT.out, HOK2.out, by first | omega | (simp; omega), by first | omega | (simp; omega), B.out, by simp at em1 ⊢; omega, by simp at em2 ⊢; omega, VB.out, VB2.out⟩
              case measure => omega
          · have k1st : (st.kind == 1) = false := by rw [KST.out]; simp [ks1]
            have KS1 := Lib.hid ks1
            clear ks1
            by_cases kp1 : p.kind = 1
            · have k1pt : (pt.kind == 1) = true := by rw [KPT.out]; simp [kp1]
              have KP1 := Lib.hid kp1
              clear kp1
              go_wp2_with (at_builtin; refine wpList_append_lies _ rfl (.tmp 70) (.tmp 72) 24 rfl 0 71 i0 _ 3 40 Try.underlying24 hi hz0 hz1 hz2 rfl (by decide) _ _ _ (by rfl) (S.out.o2.row.alloc _) ⟨wn23.heap.size + 1 + 1, 0, none⟩ 1 1 [.int .i64 st.kind, .int .i64 st.n, .slice A23 st.signs.length c23] (by rfl) rfl (World.news_of_block (heap_new_at _ _ (by first | rfl | (simp; done) | omega))) (by simp [Value.oneCell']) (by omega) (by unfold maxLen; omega) (by omega) (Nat.zero_le _) (wn23.heap.size + 1 + 1 + 1) (by simp) ?_)
              intro gg cap w9 hown hg hat hlt
              obtain ⟨s9, f9⟩ := (S.out.free (Frame.alloc (fun _ => False) _ _)).push2 st rfl hown hg hat (by simp) ((QSI.out.frame (Frame.alloc (fun _ => False) _ _) (fun _ _ hh => hh)))
              have B9 := Lib.hid (below_step (below_step B.out (Frame.alloc (fun _ => False) _ _) (fun _ hh => hh.elim)) f9 (fun i hi => VB2.out i hi))
              have VB9 : Hid (∀ g, (Value.slice (some ⟨gg, 0, none⟩) (acc2.length + 1) cap).ownBlock = some g → w.heap.size ≤ g) := fun g hh => by
                have e9 : gg = g := Option.some.inj hh
                rcases hat with e | e
                · exact VB2.out g (by rw [← e9]; exact e)
                · omega
              have S9 := Lib.hid s9
              clear s9 f9 hown hg hat hlt S B VB2
              have S := S9
              have B := B9
              have VB2 := VB9
              clear S9 B9 VB9
              have HC' : Hid (Pl.XSt (Pl.units ps) (Pl.units qs) (Pl.units (acc)) (Pl.units (acc2 ++ [st])) (pl :: q1) (sl :: r1)) := by
                show Pl.XSt _ _ _ _ _ _
                rw [units_snoc, ← EST.out]
                have hb := HB.out
                rw [Pl.xOut1, if_neg KS1.out, Pl.xOut2, if_pos KP1.out, List.append_nil] at hb
                exact hb
              go_wp2_with (fail)
              go_roundg ((Pl.units (pl :: q1)).length + (Pl.units (sl :: r1)).length)
              case rel => exact ⟨_, _, acc, _, acc2 ++ [st], pl :: q1, sl :: r1, rfl, S.out, HC'.out, HOK.out, ok_snoc HOK2.out OST.out, by first | omega | (simp; omega), by first | omega | (simp; omega), B.out, by simp at em1 ⊢; omega, by simp at em2 ⊢; omega, VB.out, VB2.out⟩
              case measure => omega
            · have k1pt : (pt.kind == 1) = false := by rw [KPT.out]; simp [kp1]
              have KP1 := Lib.hid kp1
              clear kp1
              have HC' : Hid (Pl.XSt (Pl.units ps) (Pl.units qs) (Pl.units (acc)) (Pl.units (acc2)) (pl :: q1) (sl :: r1)) := by
                show Pl.XSt _ _ _ _ _ _
                have hb := HB.out
                rw [Pl.xOut1, if_neg KS1.out, Pl.xOut2, if_neg KP1.out, List.append_nil, List.append_nil] at hb
                exact hb
              go_wp2_with (fail)
              go_roundg ((Pl.units (pl :: q1)).length + (Pl.units (sl :: r1)).length)
              case rel => exact ⟨_, _, acc, _, acc2, pl :: q1, sl :: r1, rfl, S.out, HC'.out, HOK.out, HOK2.out, by first | omega | (simp; omega), by first | omega | (simp; omega), B.out, by simp at em1 ⊢; omega, by simp at em2 ⊢; omega, VB.out, VB2.out⟩
              case measure => omega
        -- END both
theorem transform_i (v v' : Value) (ps qs : List Pt) (w : World) (h : SliceParts w.heap.size w v ps) (h' : SliceParts w.heap.size w v' qs) :
    Calls Try.prog 14 #[v, v'] w fun e w' => ∃ u1 s1 u2 s2, e = .returned (.tuple #[u1, u2, .bool (Pl.xfOk ps qs)]) ∧ OwnP w.heap.size w'.heap.size w' u1 (Pl.trans1 ps qs) s1 ∧ OwnP w.heap.size w'.heap.size w' u2 (Pl.trans2 ps qs) s2 ∧ Below w.heap.size w w' :=
  (transform_ix v v' ps qs w h h').mono fun e w' hh => by
    obtain ⟨u1, s1, u2, s2, h1, h2, h3, h4, -⟩ := hh
    exact ⟨u1, s1, u2, s2, h1, h2, h3, h4⟩
end Go.Proofs.Ytlpjbbmjchfolaa
