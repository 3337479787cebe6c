/- Contract of the reference's Compose. Condition: none longer than any slice can be. -/
import Derived.Test.YtlpjbbmjchfolaaCurS
import Derived.Test.YtlpjbbmjchfolaaOpNorm
import Derived.Deep.DeepCutAuto
namespace Go.Proofs.Ytlpjbbmjchfolaa
open Go.RowKit
set_option maxRecDepth 100000
set_option linter.unusedVariables false

theorem own_low {lo lo' hi : Nat} {w : World} {v : Value} {ps : List Pt} {svs : List Value} (h : OwnP lo hi w v ps svs) (hl : lo' ≤ lo) : OwnP lo' hi w v ps svs :=
  ⟨World.ownsRow.base h.row fun b hb => Nat.le_trans hl (h.row.lt b hb).1, h.top, h.len, fun k hk => ⟨World.ownsRow.base (h.each k hk).1 fun b hb => Nat.le_trans hl ((h.each k hk).1.lt b hb).1, (h.each k hk).2⟩, h.apart⟩
theorem frame_lo {lo : Nat} {w w' : World} (h : Below lo w w') : Frame (fun k => lo ≤ k) w w' := ⟨h.os, h.tape, h.output, h.size, fun i _ hs => h.block i (by omega)⟩
/-- The reference's state: two cursors at G, G + 1, a builder at G + 2. -/
structure CS (G : Nat) (ps qs : List Pt) (wr : World) (q r : List Pt) (b : Pl.Bd) : Prop where
  x : CurS G wr G ps q
  y : CurS G wr (G + 1) qs r
  b : SB (G + 2) (G + 2) wr b
theorem CS.hx {G : Nat} {ps qs : List Pt} {w w' : World} {q q' r : List Pt} {b : Pl.Bd} (h : CS G ps qs w q r b) (hx : CurS G w' G ps q') (f : Frame (fun k => k = G) w w') : CS G ps qs w' q' r b :=
  ⟨hx, h.y.frame f (by omega) (fun k hk hh => by omega), by
    obtain ⟨F, vo, vp, svs, hs, hF⟩ := h.b
    exact ⟨F, vo, vp, svs, hs.frame f (fun k hk hh => by have := hF k hk; omega) (by omega), hF⟩⟩
theorem CS.hy {G : Nat} {ps qs : List Pt} {w w' : World} {q r r' : List Pt} {b : Pl.Bd} (h : CS G ps qs w q r b) (hy : CurS G w' (G + 1) qs r') (f : Frame (fun k => k = G + 1) w w') : CS G ps qs w' q r' b :=
  ⟨h.x.frame f (by omega) (fun k hk hh => by omega), hy, by
    obtain ⟨F, vo, vp, svs, hs, hF⟩ := h.b
    exact ⟨F, vo, vp, svs, hs.frame f (fun k hk hh => by have := hF k hk; omega) (by omega), hF⟩⟩
theorem CS.hb {G : Nat} {ps qs : List Pt} {w w' : World} {q r : List Pt} {b b' : Pl.Bd} (h : CS G ps qs w q r b) (hb : SB (G + 2) (G + 2) w' b') (f : Below (G + 2) w w') : CS G ps qs w' q r b' :=
  ⟨h.x.frame (frame_lo f) (by omega) (fun k hk hh => by omega), h.y.frame (frame_lo f) (by omega) (fun k hk hh => by omega), hb⟩
theorem CS.free {G : Nat} {ps qs : List Pt} {w w' : World} {q r : List Pt} {b : Pl.Bd} (h : CS G ps qs w q r b) (f : Frame (fun _ => False) w w') : CS G ps qs w' q r b :=
  ⟨h.x.frame f (fun hh => hh) (fun k hk hh => hh), h.y.frame f (fun hh => hh) (fun k hk hh => hh), by
    obtain ⟨F, vo, vp, svs, hs, hF⟩ := h.b
    exact ⟨F, vo, vp, svs, hs.frame f (fun k hk hh => hh) (fun hh => hh), hF⟩⟩
theorem below_fr {S : Nat → Prop} {w a b : World} (h : Below w.heap.size w a) (f : Frame S a b) (hS : ∀ i, S i → w.heap.size ≤ i) : Below w.heap.size w b := h.trans (f.below hS h.size)
theorem Pl.CSt.skip1 {a b acc : List Pl.U} {q r q0 : List Pt} (h : Pl.CSt a b acc q r) (e : Pl.skip q = q0) : Pl.CSt a b acc q0 r ∧ Pl.skip q0 = q0 ∧ (Pl.units q0).length = (Pl.units q).length := by
  subst e
  exact ⟨⟨Pl.skip_ok h.okq, h.okr, by rw [Pl.units_skip h.okq]; exact h.mid, by rw [Pl.units_skip h.okq]; exact h.all⟩, Pl.skip_idem q, by rw [Pl.units_skip h.okq]⟩
theorem Pl.CSt.skip2 {a b acc : List Pl.U} {q r r0 : List Pt} (h : Pl.CSt a b acc q r) (e : Pl.skip r = r0) : Pl.CSt a b acc q r0 ∧ Pl.skip r0 = r0 ∧ (Pl.units r0).length = (Pl.units r).length := by
  subst e
  exact ⟨⟨h.okq, Pl.skip_ok h.okr, by rw [Pl.units_skip h.okr]; exact h.mid, by rw [Pl.units_skip h.okr]; exact h.all⟩, Pl.skip_idem r, by rw [Pl.units_skip h.okr]⟩
theorem kind_p (B : Nat) (w : World) (g : Nat) (ps q q1 : List Pt) (p : Pt) (h : CurS B w g ps q) (E : Hid (Pl.skip q = p :: q1)) :
    Calls Try.prog 70 #[.pointer (some ⟨g, 0, none⟩)] w fun e w' => e = .returned (.int .i64 p.kind) ∧ CurS B w' g ps (p :: q1) ∧ Frame (fun k => k = g) w w' := by
  have := kind_s B w g ps q h
  rw [E.out] at this
  exact this
theorem kind_0 (B : Nat) (w : World) (g : Nat) (ps q : List Pt) (h : CurS B w g ps q) (E : Hid (Pl.skip q = [])) :
    Calls Try.prog 70 #[.pointer (some ⟨g, 0, none⟩)] w fun e w' => e = .returned (.int .i64 0) ∧ CurS B w' g ps [] ∧ Frame (fun k => k = g) w w' := by
  have := kind_s B w g ps q h
  rw [E.out] at this
  exact this
theorem left_n (B : Nat) (w : World) (g : Nat) (ps r : List Pt) (p : Pt) (N : Nat) (h : CurS B w g ps (p :: r)) (hN : Hid ((N : Int) = Pl.size p)) :
    Calls Try.prog 71 #[.pointer (some ⟨g, 0, none⟩)] w fun e w' => e = .returned (.int .i64 N) ∧ Frame (fun _ => False) w w' :=
  (left_s B w g ps r p h).mono fun _ _ hh => ⟨by rw [hN.out]; exact hh.1, Frame.ofBelow hh.2⟩
theorem min4_n (a b M : Nat) (w : World) (hM : Hid (min a b = M)) : Calls Try.prog 75 #[.int .i64 a, .int .i64 b] w fun e w' => e = .returned (.int .i64 M) ∧ w' = w :=
  (min4_s a b w).mono fun _ _ hh => ⟨by rw [hh.1, ← hM.out]; congr 2; omega, hh.2⟩
/-- So many units more are done. -/
theorem CurS.bump {B : Nat} {w : World} {g : Nat} {ps r : List Pt} {p : Pt} (h : CurS B w g ps (p :: r)) :
    ∃ d : Nat, w.cell? ⟨g, 2, none⟩ = some (.int .i64 d) ∧ w.frozen? ⟨g, 2, none⟩ = false ∧ d ≤ 200 ∧ g < w.heap.size ∧
      ∀ n : Nat, (n : Int) ≤ Pl.size p → Hid (wrap64 ((d : Int) + n) = ((d + n : Nat) : Int)) ∧ CurS B (w.setCell ⟨g, 2, none⟩ (.int .i64 ((d + n : Nat) : Int))) g ps (Pl.lf p n :: r) := by
  obtain ⟨b, off, c, k, d, A2, c2, p0, hb, hlt, hc, hbB, hB, e0, e1, e2, hp, hok, hd, hd2, hc2, hi, hmv⟩ := h.open
  obtain ⟨x0, x1, x2, xf, xl⟩ := curS_cells hb
  refine ⟨d, x2, xf 2, hd2, xl, fun n hn => ⟨?_, hmv _ n hn (curS_done hb _).1 (curS_done hb _).2⟩⟩
  show _ = _
  have h1 := hn
  have h2 := (Pl.size_nat hok).2
  rw [hp, Pl.size_lf hok hd] at h1
  rw [IntWalk.wrap64_in _ (by omega)]
  simp
theorem CS.size {G : Nat} {ps qs : List Pt} {w : World} {q r : List Pt} {b : Pl.Bd} (h : CS G ps qs w q r b) : G + 2 < w.heap.size := h.b.lt
theorem curS_start {B : Nat} {w w' : World} {g : Nat} {A : Option Addr} {c : Nat} {ps : List Pt} (h : SliceParts B w (.slice A ps.length c) ps) (hok : ∀ p ∈ ps, Pl.partOk p = true) (hB : B ≤ g) (f : Frame (fun _ => False) w w') (hBw : B ≤ w.heap.size)
    (hb : w'.heap[g]? = some (.cells #[.slice A ps.length c, .int .i64 0, .int .i64 0] 91 (0, 0))) : CurS B w' g ps ps := by
  obtain ⟨A1, c1, he, hc, hp⟩ := h
  injection he with h1 h2 h3
  subst h1 h3
  refine ⟨A, c, 0, 0, hb, hc, hp.frame f hBw (fun _ _ hh => hh), hB, Nat.zero_le _, by rw [Pl.rem_zero]; rfl, hok, fun hl => ?_, by omega⟩
  exact (Pl.size_nat (hok _ (by simp [List.getD, hl]))).1
theorem CS.start {w4 : World} {A A' : Option Addr} {c c' : Nat} {ps qs : List Pt} (h4 : SliceParts w4.heap.size w4 (.slice A ps.length c) ps) (h4' : SliceParts w4.heap.size w4 (.slice A' qs.length c') qs)
    (hp : ∀ p ∈ ps, Pl.partOk p = true) (hq : ∀ p ∈ qs, Pl.partOk p = true) :
    CS w4.heap.size ps qs (((w4.alloc (.cells #[.slice A ps.length c, .int .i64 0, .int .i64 0] 91)).alloc (.cells #[.slice A' qs.length c', .int .i64 0, .int .i64 0] 91)).alloc (.cells #[.slice none 0 0, .slice none 0 0, .int .i64 0] 94)) ps qs Pl.Bd.init := by
  have f1 : Frame (fun _ => False) w4 (((w4.alloc (.cells #[.slice A ps.length c, .int .i64 0, .int .i64 0] 91)).alloc (.cells #[.slice A' qs.length c', .int .i64 0, .int .i64 0] 91)).alloc (.cells #[.slice none 0 0, .slice none 0 0, .int .i64 0] 94)) := (((Frame.refl _ w4).andAlloc _).andAlloc _).andAlloc _
  refine ⟨curS_start h4 hp (Nat.le_refl _) f1 (Nat.le_refl _) ?_, curS_start h4' hq (by omega) f1 (Nat.le_refl _) ?_, ?_⟩
  · rw [Below.heap_alloc _ _ _ (by simp; omega), Below.heap_alloc _ _ _ (by simp)]
    exact heap_new_at _ _ rfl
  · rw [Below.heap_alloc _ _ _ (by simp)]
    exact heap_new_at _ _ (by simp)
  · have := @SB.new ((w4.alloc (.cells #[.slice A ps.length c, .int .i64 0, .int .i64 0] 91)).alloc (.cells #[.slice A' qs.length c', .int .i64 0, .int .i64 0] 91)) (w4.heap.size + 2)
    simpa using this
set_option maxHeartbeats 40000000 in
set_option maxRecDepth 100000 in
theorem compose_s (v v' : Value) (ps qs : List Pt) (w : World) (h : SliceParts w.heap.size w v ps) (h' : SliceParts w.heap.size w v' qs) :
    Calls Try.prog 31 #[v, v'] w fun e w' => ∃ u svs, e = .returned (.tuple #[u, .bool (Pl.cmpOk ps qs)]) ∧ OwnP w.heap.size w'.heap.size w' u (Pl.compose ps qs) svs ∧ Below w.heap.size w w' := by
  have h0 := Lib.hid h
  have h0' := Lib.hid h'
  obtain ⟨A, c, rfl, -, -⟩ := h
  obtain ⟨A', c', rfl, -, -⟩ := h'
  by_cases ho1 : Pl.opOk ps = true
  rotate_left
  ·
    have HO1 : Hid (Pl.opOk ps = false) := by show _ = _; simpa using ho1
    have HN : Hid (Pl.cmpOk ps qs = false) := by show _ = _; rw [Pl.cmpOk, HO1.out, Bool.false_and, Bool.false_and]
    clear ho1
    have HV : Hid (Pl.compose ps qs = []) := by show _ = _; rw [Pl.compose, if_neg (by rw [HN.out]; decide)]
    go_enter Try.func31, Try.ntmps31
    go_wp2_with (fail)
    refine (opOk_s _ ps _ h0.out).mono ?_
    rintro e w1 ⟨rfl, b1⟩
    rw [HO1.out]
    have h1 := Lib.hid (h0.out.later b1)
    have h1' := Lib.hid (h0'.out.later b1)
    have B1 := Lib.hid b1
    clear b1
    go_wp2_with (fail)
    go_ret2
    exact ⟨_, [], by rw [HN.out]; rfl, by rw [HV.out]; exact OwnP.nil _ _ _, B1.out⟩
  by_cases ho2 : Pl.opOk qs = true
  rotate_left
  ·
    have HO1 := Lib.hid ho1
    have HO2 : Hid (Pl.opOk qs = false) := by show _ = _; simpa using ho2
    have HN : Hid (Pl.cmpOk ps qs = false) := by show _ = _; rw [Pl.cmpOk, HO1.out, HO2.out, Bool.false_and, Bool.and_false, Bool.false_and]
    clear ho1 ho2
    have HV : Hid (Pl.compose ps qs = []) := by show _ = _; rw [Pl.compose, if_neg (by rw [HN.out]; decide)]
    go_enter Try.func31, Try.ntmps31
    go_wp2_with (fail)
    refine (opOk_s _ ps _ h0.out).mono ?_
    rintro e w1 ⟨rfl, b1⟩
    rw [HO1.out]
    have h1 := Lib.hid (h0.out.later b1)
    have h1' := Lib.hid (h0'.out.later b1)
    have B1 := Lib.hid b1
    clear b1
    go_wp2_with (fail)
    refine (opOk_s _ qs _ h1'.out).mono ?_
    rintro e w2 ⟨rfl, b2⟩
    rw [HO2.out]
    have h2 := Lib.hid (h1.out.later b2)
    have h2' := Lib.hid (h1'.out.later b2)
    have B2 := Lib.hid (B1.out.trans (b2.mono B1.out.size))
    clear b2 h1 h1' B1
    go_wp2_with (fail)
    go_ret2
    exact ⟨_, [], by rw [HN.out]; rfl, by rw [HV.out]; exact OwnP.nil _ _ _, B2.out⟩
  by_cases hft : Pl.opTo ps = Pl.opFrom qs
  rotate_left
  ·
    have HO1 := Lib.hid ho1
    have HO2 := Lib.hid ho2
    have HN : Hid (Pl.cmpOk ps qs = false) := by show _ = _; rw [Pl.cmpOk, HO1.out, HO2.out, decide_eq_false hft, Bool.and_false, Bool.and_false, Bool.false_and]
    clear ho1 ho2
    have HV : Hid (Pl.compose ps qs = []) := by show _ = _; rw [Pl.compose, if_neg (by rw [HN.out]; decide)]
    go_enter Try.func31, Try.ntmps31
    go_wp2_with (fail)
    refine (opOk_s _ ps _ h0.out).mono ?_
    rintro e w1 ⟨rfl, b1⟩
    rw [HO1.out]
    have h1 := Lib.hid (h0.out.later b1)
    have h1' := Lib.hid (h0'.out.later b1)
    have B1 := Lib.hid b1
    clear b1
    go_wp2_with (fail)
    refine (opOk_s _ qs _ h1'.out).mono ?_
    rintro e w2 ⟨rfl, b2⟩
    rw [HO2.out]
    have h2 := Lib.hid (h1.out.later b2)
    have h2' := Lib.hid (h1'.out.later b2)
    have B2 := Lib.hid (B1.out.trans (b2.mono B1.out.size))
    clear b2 h1 h1' B1
    go_wp2_with (fail)
    refine (opTo_s _ ps _ h2.out).mono ?_
    rintro e w3 ⟨rfl, b3⟩
    have h3 := Lib.hid (h2.out.later b3)
    have h3' := Lib.hid (h2'.out.later b3)
    have B3 := Lib.hid (B2.out.trans (b3.mono B2.out.size))
    clear b3 h2 h2' B2
    go_wp2_with (fail)
    refine (opFrom_s _ qs _ h3'.out).mono ?_
    rintro e w4 ⟨rfl, b4⟩
    have h4 := Lib.hid (h3.out.later b4)
    have h4' := Lib.hid (h3'.out.later b4)
    have B4 := Lib.hid (B3.out.trans (b4.mono B3.out.size))
    clear b4 h3 h3' B3
    go_wp2_with (fail)
    go_ret2
    exact ⟨_, [], by rw [HN.out]; rfl, by rw [HV.out]; exact OwnP.nil _ _ _, B4.out⟩
  have HO1 := Lib.hid ho1
  have HO2 := Lib.hid ho2
  have HFT := Lib.hid hft
  have HC0 := Lib.hid (Pl.CSt.start ho1 ho2 hft)
  have HP1 := Lib.hid (Pl.partsOk_all (Pl.opOk_units ho1).1).1
  have HP2 := Lib.hid (Pl.partsOk_all (Pl.opOk_units ho2).1).1
  have ul1 := Pl.len_units ho1
  have ul2 := Pl.len_units ho2
  clear ho1 ho2
  go_enter Try.func31, Try.ntmps31
  go_wp2_with (fail)
  refine (opOk_s _ ps _ h0.out).mono ?_
  rintro e w1 ⟨rfl, b1⟩
  rw [HO1.out]
  have h1 := Lib.hid (h0.out.later b1)
  have h1' := Lib.hid (h0'.out.later b1)
  have B1 := Lib.hid b1
  clear b1
  go_wp2_with (fail)
  refine (opOk_s _ qs _ h1'.out).mono ?_
  rintro e w2 ⟨rfl, b2⟩
  rw [HO2.out]
  have h2 := Lib.hid (h1.out.later b2)
  have h2' := Lib.hid (h1'.out.later b2)
  have B2 := Lib.hid (B1.out.trans (b2.mono B1.out.size))
  clear b2 h1 h1' B1
  go_wp2_with (fail)
  refine (opTo_s _ ps _ h2.out).mono ?_
  rintro e w3 ⟨rfl, b3⟩
  have h3 := Lib.hid (h2.out.later b3)
  have h3' := Lib.hid (h2'.out.later b3)
  have B3 := Lib.hid (B2.out.trans (b3.mono B2.out.size))
  clear b3 h2 h2' B2
  go_wp2_with (fail)
  refine (opFrom_s _ qs _ h3'.out).mono ?_
  rintro e w4 ⟨rfl, b4⟩
  have h4 := Lib.hid (h3.out.later b4)
  have h4' := Lib.hid (h3'.out.later b4)
  have B4 := Lib.hid (B3.out.trans (b4.mono B3.out.size))
  clear b4 h3 h3' B3
  go_wp2_with (fail)
  have hw4 := B4.out.size
  have S0 := Lib.hid (CS.start h4.out h4'.out HP1.out HP2.out)
  have B0 := Lib.hid (((B4.out.alloc hw4 (.cells #[.slice A ps.length c, .int .i64 0, .int .i64 0] 91)).alloc (by simp; omega) (.cells #[.slice A' qs.length c', .int .i64 0, .int .i64 0] 91)).alloc (by simp; omega) (.cells #[.slice none 0 0, .slice none 0 0, .int .i64 0] 94))
  clear h4 h4' h0 h0'
  go_loopg [] ((Pl.units ps).length + (Pl.units qs).length) (fun gk wr => ∃ (acc : List Pl.U) (q r : List Pt) (bd : Pl.Bd) (m : Nat), gk = (Pl.units q).length + (Pl.units r).length ∧ m + gk ≤ 800 ∧ Hid (CS w4.heap.size ps qs wr q r bd) ∧ Hid (Pl.CSt (Pl.units ps) (Pl.units qs) acc q r) ∧ Hid (bd = Pl.run Pl.Bd.init acc) ∧ Hid (bd.le (300 * m)) ∧ Hid (Below w.heap.size w wr))
  case atStart => exact ⟨[], ps, qs, _, 0, rfl, by omega, S0.out, HC0.out, rfl, Pl.Bd.le_init, B0.out⟩
  case round =>
    obtain ⟨acc, q, r, bd, m, hgk, hm, S, hc, hrun, hle, B⟩ := hrel
    have hd0 := hle.out.d0
    have hdm := hle.out.dm
    have hdp := hle.out.put
    rcases hq0 : Pl.skip q with _ | ⟨p, q1⟩
    · have EQ := Lib.hid hq0
      obtain ⟨c1, cq, uq⟩ := hc.out.skip1 hq0
      rcases hr0 : Pl.skip r with _ | ⟨s, r1⟩
      · have ER := Lib.hid hr0
        obtain ⟨c2, cr, ur⟩ := c1.skip2 hr0
        have HX : Hid (Pl.flushL bd = Pl.cmpL ps qs) := by show _ = _; rw [hrun.out, c2.stop]; rfl
        clear hq0 hr0 c1 cq uq c2 cr ur
        -- PART z
        go_wp2_with (fail)
        refine (kind_0 _ _ _ _ _ S.out.x EQ).mono ?_
        rintro e wn1 ⟨rfl, cx, fx⟩
        have S' := Lib.hid (S.out.hx cx fx)
        have B' := Lib.hid (below_fr B.out fx (fun i hi => by omega))
        clear cx fx
        clear S B
        have S := S'
        have B := B'
        clear S' B'
        go_wp2_with (fail)
        refine (kind_0 _ _ _ _ _ S.out.y ER).mono ?_
        rintro e wn2 ⟨rfl, cx, fx⟩
        have S' := Lib.hid (S.out.hy cx fx)
        have B' := Lib.hid (below_fr B.out fx (fun i hi => by omega))
        clear cx fx
        clear S B
        have S := S'
        have B := B'
        clear S' B'
        go_wp2_with (fail)
        refine (done_sb _ _ _ bd (300 * m) S.out.b (Nat.le_refl _) (Nat.le_of_lt S.out.size) hle.out (by omega)).mono ?_
        rintro e w5 ⟨v5, svs5, rfl, o5, f5⟩
        rw [HX.out] at o5
        obtain ⟨A5, c5, rfl⟩ := own_shape o5.row
        have O5 := Lib.hid (own_low (lo' := w.heap.size) o5 (by omega))
        have B5 := Lib.hid (B.out.trans (f5.mono (by omega)))
        clear o5 f5
        go_wp2_with (fail)
        refine (opOk_s _ (Pl.cmpL ps qs) _ O5.out.slice).mono ?_
        rintro e w6 ⟨rfl, b6⟩
        by_cases hk : Pl.opOk (Pl.cmpL ps qs) = true
        · have HK := Lib.hid hk
          have HN : Hid (Pl.cmpOk ps qs = true) := by show _ = _; rw [Pl.cmpOk, HO1.out, HO2.out, decide_eq_true HFT.out, HK.out]; rfl
          have HV : Hid (Pl.compose ps qs = Pl.cmpL ps qs) := by show _ = _; rw [Pl.compose, if_pos HN.out]
          rw [HK.out]
          clear hk
          have O6 := Lib.hid ((O5.out.below b6).upto b6.size)
          have B6 := Lib.hid (B5.out.trans (b6.mono B5.out.size))
          go_wp2_with (fail)
          go_ret2
          exact ⟨_, svs5, by rw [HN.out]; rfl, by rw [HV.out]; exact O6.out, B6.out⟩
        · have HK : Hid (Pl.opOk (Pl.cmpL ps qs) = false) := by show _ = _; simpa using hk
          have HN : Hid (Pl.cmpOk ps qs = false) := by show _ = _; rw [Pl.cmpOk, HO1.out, HO2.out, decide_eq_true HFT.out, HK.out]; rfl
          have HV : Hid (Pl.compose ps qs = []) := by show _ = _; rw [Pl.compose, if_neg (by rw [HN.out]; decide)]
          rw [HK.out]
          clear hk
          have B6 := Lib.hid (B5.out.trans (b6.mono B5.out.size))
          go_wp2_with (fail)
          go_ret2
          exact ⟨_, [], by rw [HN.out]; rfl, by rw [HV.out]; exact OwnP.nil _ _ _, B6.out⟩
        -- END z
      · have ER := Lib.hid hr0
        obtain ⟨c2, cr, ur⟩ := c1.skip2 hr0
        have hk2 : s.kind = 2 := by
          by_cases hh : s.kind = 2
          · exact hh
          · exact absurd (c2.noY cr hh) (by simp)
        have E1 : Hid (Pl.skip ([] : List Pt) = []) := rfl
        have oks := c2.okr s (by simp)
        obtain ⟨szs, uns⟩ := Pl.head_len (q := r1) oks (Pl.skip_head ER.out)
        obtain ⟨Ns, hNs⟩ : ∃ n : Nat, (n : Int) = Pl.size s := ⟨(Pl.size s).toNat, by omega⟩
        have hN2s := (Pl.size_nat oks).2
        have HNs := Lib.hid hNs
        have hN3s : 1 ≤ Ns ∧ Ns ≤ 200 := by omega
        obtain ⟨hN4s, hN5s⟩ := hN3s
        clear hNs hN2s
        have ERs := Lib.hid cr
        have HC' := Lib.hid (c2.put (n := Ns) (by rw [HNs.out]; exact Int.le_refl _) hk2 rfl (by simp [Pl.hd]))
        have cl := Pl.cut_len (q := r1) (n := Ns) oks (by rw [HNs.out]; exact Int.le_refl _)
        have k0s : (s.kind != 0) = true := by simp [hk2]
        have k2s : (s.kind == 2) = true := by simp [hk2]
        have HKs := Lib.hid hk2
        have hlt : (s.signs.take Ns).length ≤ 200 := by rw [List.length_take]; omega
        have HRR : Hid (Pl.bPut bd (s.signs.take Ns) = Pl.run Pl.Bd.init (acc ++ Pl.unitsP (Pl.tk s Ns))) := by show _ = _; rw [hrun.out, Pl.tk_2 HKs.out, Pl.run_append, Pl.pus, Pl.run_puts]
        clear hq0 hr0 c1 c2 cq cr hk2 oks
        -- PART a
        go_wp2_with (fail)
        refine (kind_0 _ _ _ _ _ S.out.x EQ).mono ?_
        rintro e wn3 ⟨rfl, cx, fx⟩
        have S' := Lib.hid (S.out.hx cx fx)
        have B' := Lib.hid (below_fr B.out fx (fun i hi => by omega))
        clear cx fx
        clear S B
        have S := S'
        have B := B'
        clear S' B'
        go_wp2_with (fail)
        refine (kind_p _ _ _ _ _ r1 s S.out.y ER).mono ?_
        rintro e wn4 ⟨rfl, cx, fx⟩
        have S' := Lib.hid (S.out.hy cx fx)
        have B' := Lib.hid (below_fr B.out fx (fun i hi => by omega))
        clear cx fx
        clear S B
        have S := S'
        have B := B'
        clear S' B'
        go_wp2_with (fail)
        refine (kind_0 _ _ _ _ _ S.out.x E1).mono ?_
        rintro e wn5 ⟨rfl, cx, fx⟩
        have S' := Lib.hid (S.out.hx cx fx)
        have B' := Lib.hid (below_fr B.out fx (fun i hi => by omega))
        clear cx fx
        clear S B
        have S := S'
        have B := B'
        clear S' B'
        go_wp2_with (fail)
        refine (kind_p _ _ _ _ _ r1 s S.out.y ERs).mono ?_
        rintro e wn6 ⟨rfl, cx, fx⟩
        have S' := Lib.hid (S.out.hy cx fx)
        have B' := Lib.hid (below_fr B.out fx (fun i hi => by omega))
        clear cx fx
        clear S B
        have S := S'
        have B := B'
        clear S' B'
        go_wp2_with (fail)
        refine (left_n _ _ _ _ r1 s Ns S.out.y HNs).mono ?_
        rintro e wn7 ⟨rfl, fx⟩
        have S' := Lib.hid (S.out.free fx)
        have B' := Lib.hid (below_fr B.out fx (fun i hi => hi.elim))
        clear fx
        clear S B
        have S := S'
        have B := B'
        clear S' B'
        go_wp2_with (fail)
        refine (take4_s _ _ _ _ r1 s Ns S.out.y HKs.out (by rw [HNs.out]; exact Int.le_refl _)).mono ?_
        rintro e wn8 ⟨vt, rfl, ht, cx, fx⟩
        have S' := Lib.hid (S.out.hy cx fx)
        have B' := Lib.hid (below_fr B.out fx (fun i hi => by omega))
        have HT := Lib.hid ht
        clear cx fx ht
        clear S B
        have S := S'
        have B := B'
        clear S' B'
        go_wp2_with (fail)
        refine (put_sb _ _ _ bd _ (s.signs.take Ns) S.out.b (HT.out.mono (by have := S.out.size; omega)) (Nat.le_refl _) (Nat.le_of_lt S.out.size) (by omega) (by omega)).mono ?_
        rintro e wn9 ⟨rfl, st, bx⟩
        have S' := Lib.hid (S.out.hb st bx)
        have B' := Lib.hid (below_fr B.out (frame_lo bx) (fun i hi => by omega))
        clear st bx
        clear S B
        have S := S'
        have B := B'
        clear S' B'
        go_wp2_with (fail)
        go_roundg ((Pl.units ([])).length + (Pl.units (Pl.lf s Ns :: r1)).length)
        case rel => exact ⟨_, [], Pl.lf s Ns :: r1, _, m + 1, rfl, by omega, S.out, HC'.out, HRR.out, (Pl.bPut_le (k := 300) hle.out (by omega)).mono (by omega), B.out⟩
        case measure => omega
        -- END a
    · have EQ := Lib.hid hq0
      obtain ⟨c1, cq, uq⟩ := hc.out.skip1 hq0
      have EQp := Lib.hid cq
      have okp := c1.okq p (by simp)
      obtain ⟨szp, unp⟩ := Pl.head_len (q := q1) okp (Pl.skip_head EQ.out)
      obtain ⟨Np, hNp⟩ : ∃ n : Nat, (n : Int) = Pl.size p := ⟨(Pl.size p).toNat, by omega⟩
      have hN2p := (Pl.size_nat okp).2
      have HNp := Lib.hid hNp
      have hN3p : 1 ≤ Np ∧ Np ≤ 200 := by omega
      obtain ⟨hN4p, hN5p⟩ := hN3p
      clear hNp hN2p
      have kdp := (partOk_facts okp).1
      have k0p : (p.kind != 0) = true := by rcases kdp with h | h | h <;> simp [h]
      by_cases hk3 : p.kind = 3
      · have k3p : (p.kind == 3) = true := by simp [hk3]
        have HC' := Lib.hid (c1.drop (n := Np) (by rw [HNp.out]; exact Int.le_refl _) hk3)
        have cl := Pl.cut_len (q := q1) (n := Np) okp (by rw [HNp.out]; exact Int.le_refl _)
        have HRR : Hid (Pl.bDrop bd Np = Pl.run Pl.Bd.init (acc ++ Pl.unitsP (Pl.tk p Np))) := by show _ = _; rw [hrun.out, Pl.tk_3 hk3, Pl.run_append, Pl.ds, Pl.run_drops]
        clear hq0 c1 cq hk3 okp kdp
        -- PART b
        go_wp2_with (fail)
        refine (kind_p _ _ _ _ _ q1 p S.out.x EQ).mono ?_
        rintro e wn10 ⟨rfl, cx, fx⟩
        have S' := Lib.hid (S.out.hx cx fx)
        have B' := Lib.hid (below_fr B.out fx (fun i hi => by omega))
        clear cx fx
        clear S B
        have S := S'
        have B := B'
        clear S' B'
        go_wp2_with (fail)
        refine (kind_p _ _ _ _ _ q1 p S.out.x EQp).mono ?_
        rintro e wn11 ⟨rfl, cx, fx⟩
        have S' := Lib.hid (S.out.hx cx fx)
        have B' := Lib.hid (below_fr B.out fx (fun i hi => by omega))
        clear cx fx
        clear S B
        have S := S'
        have B := B'
        clear S' B'
        go_wp2_with (fail)
        refine (left_n _ _ _ _ q1 p Np S.out.x HNp).mono ?_
        rintro e wn12 ⟨rfl, fx⟩
        have S' := Lib.hid (S.out.free fx)
        have B' := Lib.hid (below_fr B.out fx (fun i hi => hi.elim))
        clear fx
        clear S B
        have S := S'
        have B := B'
        clear S' B'
        go_wp2_with (fail)
        refine (drop_sb _ _ _ bd Np S.out.b (Nat.le_refl _) (Nat.le_of_lt S.out.size) hd0 (by omega) (by omega) (by omega)).mono ?_
        rintro e wn13 ⟨rfl, st, bx⟩
        have S' := Lib.hid (S.out.hb st bx)
        have B' := Lib.hid (below_fr B.out (frame_lo bx) (fun i hi => by omega))
        clear st bx
        clear S B
        have S := S'
        have B := B'
        clear S' B'
        obtain ⟨dx, ex, fx, h2x, lx, mx⟩ := S.out.x.bump
        obtain ⟨Wx, Cx⟩ := mx Np (by rw [HNp.out]; exact Int.le_refl _)
        have S1 := Lib.hid (S.out.hx Cx (Frame.setCell _ _ _ _ rfl))
        have B1 := Lib.hid (below_fr B.out (Frame.setCell (fun k => k = w4.heap.size) _ ⟨w4.heap.size, 2, none⟩ (.int .i64 ((dx + Np : Nat) : Int)) rfl) (fun i hi => by omega))
        clear mx Cx
        go_wp2_with (fail)
        rw [← Int.natCast_add dx Np]
        clear S B ex Wx
        have S := S1
        have B := B1
        go_roundg ((Pl.units (Pl.lf p Np :: q1)).length + (Pl.units (r)).length)
        case rel => exact ⟨_, Pl.lf p Np :: q1, r, _, m + 1, rfl, by omega, S.out, HC'.out, HRR.out, (Pl.bDrop_le (k := 300) hle.out (by omega) (by omega)).mono (by omega), B.out⟩
        case measure => omega
        -- END b
      · have k3p : (p.kind == 3) = false := by simp [hk3]
        rcases hr0 : Pl.skip r with _ | ⟨s, r1⟩
        · obtain ⟨c2, cr, ur⟩ := c1.skip2 hr0
          exact absurd (c2.noX cq hk3) (by simp)
        have ER := Lib.hid hr0
        obtain ⟨c2, cr, ur⟩ := c1.skip2 hr0
        have oks := c2.okr s (by simp)
        obtain ⟨szs, uns⟩ := Pl.head_len (q := r1) oks (Pl.skip_head ER.out)
        obtain ⟨Ns, hNs⟩ : ∃ n : Nat, (n : Int) = Pl.size s := ⟨(Pl.size s).toNat, by omega⟩
        have hN2s := (Pl.size_nat oks).2
        have HNs := Lib.hid hNs
        have hN3s : 1 ≤ Ns ∧ Ns ≤ 200 := by omega
        obtain ⟨hN4s, hN5s⟩ := hN3s
        clear hNs hN2s
        have ERs := Lib.hid cr
        have kds := (partOk_facts oks).1
        by_cases hk2 : s.kind = 2
        · have k2s : (s.kind == 2) = true := by simp [hk2]
          have HC' := Lib.hid (c2.put (n := Ns) (by rw [HNs.out]; exact Int.le_refl _) hk2 cq hk3)
          have cl := Pl.cut_len (q := r1) (n := Ns) oks (by rw [HNs.out]; exact Int.le_refl _)
          have HKs := Lib.hid hk2
          have hlt : (s.signs.take Ns).length ≤ 200 := by rw [List.length_take]; omega
          have HRR : Hid (Pl.bPut bd (s.signs.take Ns) = Pl.run Pl.Bd.init (acc ++ Pl.unitsP (Pl.tk s Ns))) := by show _ = _; rw [hrun.out, Pl.tk_2 HKs.out, Pl.run_append, Pl.pus, Pl.run_puts]
          clear hq0 hr0 c1 c2 cq cr hk2 hk3 oks okp kdp kds
          -- PART c
          go_wp2_with (fail)
          refine (kind_p _ _ _ _ _ q1 p S.out.x EQ).mono ?_
          rintro e wn14 ⟨rfl, cx, fx⟩
          have S' := Lib.hid (S.out.hx cx fx)
          have B' := Lib.hid (below_fr B.out fx (fun i hi => by omega))
          clear cx fx
          clear S B
          have S := S'
          have B := B'
          clear S' B'
          go_wp2_with (fail)
          refine (kind_p _ _ _ _ _ q1 p S.out.x EQp).mono ?_
          rintro e wn15 ⟨rfl, cx, fx⟩
          have S' := Lib.hid (S.out.hx cx fx)
          have B' := Lib.hid (below_fr B.out fx (fun i hi => by omega))
          clear cx fx
          clear S B
          have S := S'
          have B := B'
          clear S' B'
          go_wp2_with (fail)
          refine (kind_p _ _ _ _ _ r1 s S.out.y ER).mono ?_
          rintro e wn16 ⟨rfl, cx, fx⟩
          have S' := Lib.hid (S.out.hy cx fx)
          have B' := Lib.hid (below_fr B.out fx (fun i hi => by omega))
          clear cx fx
          clear S B
          have S := S'
          have B := B'
          clear S' B'
          go_wp2_with (fail)
          refine (left_n _ _ _ _ r1 s Ns S.out.y HNs).mono ?_
          rintro e wn17 ⟨rfl, fx⟩
          have S' := Lib.hid (S.out.free fx)
          have B' := Lib.hid (below_fr B.out fx (fun i hi => hi.elim))
          clear fx
          clear S B
          have S := S'
          have B := B'
          clear S' B'
          go_wp2_with (fail)
          refine (take4_s _ _ _ _ r1 s Ns S.out.y HKs.out (by rw [HNs.out]; exact Int.le_refl _)).mono ?_
          rintro e wn18 ⟨vt, rfl, ht, cx, fx⟩
          have S' := Lib.hid (S.out.hy cx fx)
          have B' := Lib.hid (below_fr B.out fx (fun i hi => by omega))
          have HT := Lib.hid ht
          clear cx fx ht
          clear S B
          have S := S'
          have B := B'
          clear S' B'
          go_wp2_with (fail)
          refine (put_sb _ _ _ bd _ (s.signs.take Ns) S.out.b (HT.out.mono (by have := S.out.size; omega)) (Nat.le_refl _) (Nat.le_of_lt S.out.size) (by omega) (by omega)).mono ?_
          rintro e wn19 ⟨rfl, st, bx⟩
          have S' := Lib.hid (S.out.hb st bx)
          have B' := Lib.hid (below_fr B.out (frame_lo bx) (fun i hi => by omega))
          clear st bx
          clear S B
          have S := S'
          have B := B'
          clear S' B'
          go_wp2_with (fail)
          go_roundg ((Pl.units (p :: q1)).length + (Pl.units (Pl.lf s Ns :: r1)).length)
          case rel => exact ⟨_, p :: q1, Pl.lf s Ns :: r1, _, m + 1, rfl, by omega, S.out, HC'.out, HRR.out, (Pl.bPut_le (k := 300) hle.out (by omega)).mono (by omega), B.out⟩
          case measure => omega
          -- END c
        · have k2s : (s.kind == 2) = false := by simp [hk2]
          obtain ⟨M, hM⟩ : ∃ M, min Np Ns = M := ⟨_, rfl⟩
          have HM := Lib.hid hM
          have hM1 : M ≤ Np ∧ M ≤ Ns ∧ 1 ≤ M := by have := HNp.out; have := HNs.out; omega
          obtain ⟨hM1, hM2, hM3⟩ := hM1
          have MP : Hid ((M : Int) ≤ Pl.size p) := by show _ ≤ _; have := HNp.out; omega
          have MS : Hid ((M : Int) ≤ Pl.size s) := by show _ ≤ _; have := HNs.out; omega
          have hbo := c2.both (n := M) MP.out MS.out hk3 hk2
          have cl := Pl.cut_len (q := q1) (n := M) okp MP.out
          have cl2 := Pl.cut_len (q := r1) (n := M) oks MS.out
          have hpp : p.kind = 1 ∨ p.kind = 2 := by omega
          have hss : s.kind = 1 ∨ s.kind = 3 := by omega
          clear hM hq0 hr0 c1 c2 cq cr hk2 hk3 oks okp kdp kds
          rcases hpp with hp1 | hp1
          · rcases hss with hs1 | hs1
            · have k2p : (p.kind == 2) = false := by simp [hp1]
              have k1s : (s.kind == 1) = true := by simp [hs1]
              rw [Pl.cOut, if_pos hs1] at hbo
              have HC' := Lib.hid hbo
              have HRR : Hid (Pl.bKeep bd M = Pl.run Pl.Bd.init (acc ++ Pl.unitsP (Pl.tk p M))) := by show _ = _; rw [hrun.out, Pl.tk_1 hp1, Pl.run_append, Pl.ks, Pl.run_keeps]
              clear hp1 hs1 hbo
              -- PART m11
              go_wp2_with (fail)
              refine (kind_p _ _ _ _ _ q1 p S.out.x EQ).mono ?_
              rintro e wn20 ⟨rfl, cx, fx⟩
              have S' := Lib.hid (S.out.hx cx fx)
              have B' := Lib.hid (below_fr B.out fx (fun i hi => by omega))
              clear cx fx
              clear S B
              have S := S'
              have B := B'
              clear S' B'
              go_wp2_with (fail)
              refine (kind_p _ _ _ _ _ q1 p S.out.x EQp).mono ?_
              rintro e wn21 ⟨rfl, cx, fx⟩
              have S' := Lib.hid (S.out.hx cx fx)
              have B' := Lib.hid (below_fr B.out fx (fun i hi => by omega))
              clear cx fx
              clear S B
              have S := S'
              have B := B'
              clear S' B'
              go_wp2_with (fail)
              refine (kind_p _ _ _ _ _ r1 s S.out.y ER).mono ?_
              rintro e wn22 ⟨rfl, cx, fx⟩
              have S' := Lib.hid (S.out.hy cx fx)
              have B' := Lib.hid (below_fr B.out fx (fun i hi => by omega))
              clear cx fx
              clear S B
              have S := S'
              have B := B'
              clear S' B'
              go_wp2_with (fail)
              refine (left_n _ _ _ _ q1 p Np S.out.x HNp).mono ?_
              rintro e wn23 ⟨rfl, fx⟩
              have S' := Lib.hid (S.out.free fx)
              have B' := Lib.hid (below_fr B.out fx (fun i hi => hi.elim))
              clear fx
              clear S B
              have S := S'
              have B := B'
              clear S' B'
              go_wp2_with (fail)
              refine (left_n _ _ _ _ r1 s Ns S.out.y HNs).mono ?_
              rintro e wn24 ⟨rfl, fx⟩
              have S' := Lib.hid (S.out.free fx)
              have B' := Lib.hid (below_fr B.out fx (fun i hi => hi.elim))
              clear fx
              clear S B
              have S := S'
              have B := B'
              clear S' B'
              go_wp2_with (fail)
              refine (min4_n Np Ns M _ HM).mono ?_
              rintro e wmin ⟨rfl, rfl⟩
              go_wp2_with (fail)
              refine (kind_p _ _ _ _ _ q1 p S.out.x EQp).mono ?_
              rintro e wn25 ⟨rfl, cx, fx⟩
              have S' := Lib.hid (S.out.hx cx fx)
              have B' := Lib.hid (below_fr B.out fx (fun i hi => by omega))
              clear cx fx
              clear S B
              have S := S'
              have B := B'
              clear S' B'
              go_wp2_with (fail)
              refine (kind_p _ _ _ _ _ r1 s S.out.y ERs).mono ?_
              rintro e wn26 ⟨rfl, cx, fx⟩
              have S' := Lib.hid (S.out.hy cx fx)
              have B' := Lib.hid (below_fr B.out fx (fun i hi => by omega))
              clear cx fx
              clear S B
              have S := S'
              have B := B'
              clear S' B'
              go_wp2_with (fail)
              refine (keep_sb _ _ _ bd M (300 * m) S.out.b (Nat.le_refl _) (Nat.le_of_lt S.out.size) hle.out (by omega) (by omega) (by omega)).mono ?_
              rintro e wn27 ⟨rfl, st, bx⟩
              have S' := Lib.hid (S.out.hb st bx)
              have B' := Lib.hid (below_fr B.out (frame_lo bx) (fun i hi => by omega))
              clear st bx
              clear S B
              have S := S'
              have B := B'
              clear S' B'
              obtain ⟨-, -, fy0, -, ly0, -⟩ := S.out.y.bump
              obtain ⟨dx, ex, fx, h2x, lx, mx⟩ := S.out.x.bump
              obtain ⟨Wx, Cx⟩ := mx M MP.out
              have S1 := Lib.hid (S.out.hx Cx (Frame.setCell _ _ _ _ rfl))
              have B1 := Lib.hid (below_fr B.out (Frame.setCell (fun k => k = w4.heap.size) _ ⟨w4.heap.size, 2, none⟩ (.int .i64 ((dx + M : Nat) : Int)) rfl) (fun i hi => by omega))
              clear mx Cx
              obtain ⟨dy, ey, fy, h2y, ly, my⟩ := S1.out.y.bump
              obtain ⟨Wy, Cy⟩ := my M MS.out
              have S2 := Lib.hid (S1.out.hy Cy (Frame.setCell _ _ _ _ rfl))
              have B2 := Lib.hid (below_fr B1.out (Frame.setCell (fun k => k = w4.heap.size + 1) _ ⟨w4.heap.size + 1, 2, none⟩ (.int .i64 ((dy + M : Nat) : Int)) rfl) (fun i hi => by omega))
              replace ey := ((Frame.setCell (fun k => k = w4.heap.size) _ ⟨w4.heap.size, 2, none⟩ (.int .i64 ((dx + M : Nat) : Int)) rfl).cell (o := 2) ly0 (by omega)).symm.trans ey
              clear fy ly
              clear my Cy
              go_wp2_with (fail)
              rw [← Int.natCast_add dx M, ← Int.natCast_add dy M]
              clear S B ex Wx ey Wy
              have S := S2
              have B := B2
              go_roundg ((Pl.units (Pl.lf p M :: q1)).length + (Pl.units (Pl.lf s M :: r1)).length)
              case rel => exact ⟨_, Pl.lf p M :: q1, Pl.lf s M :: r1, _, m + 1, rfl, by omega, S.out, HC'.out, HRR.out, (Pl.bKeep_le (k := 300) hle.out (by omega) (by omega) (by omega)).mono (by omega), B.out⟩
              case measure => omega
              -- END m11
            · have k2p : (p.kind == 2) = false := by simp [hp1]
              have k1s : (s.kind == 1) = false := by simp [hs1]
              rw [Pl.cOut, if_neg (by rw [hs1]; decide), if_pos hp1] at hbo
              have HC' := Lib.hid hbo
              have HRR : Hid (Pl.bDrop bd M = Pl.run Pl.Bd.init (acc ++ Pl.unitsP (Pl.tk s M))) := by show _ = _; rw [hrun.out, Pl.tk_3 hs1, Pl.run_append, Pl.ds, Pl.run_drops]
              clear hp1 hs1 hbo
              -- PART m13
              go_wp2_with (fail)
              refine (kind_p _ _ _ _ _ q1 p S.out.x EQ).mono ?_
              rintro e wn28 ⟨rfl, cx, fx⟩
              have S' := Lib.hid (S.out.hx cx fx)
              have B' := Lib.hid (below_fr B.out fx (fun i hi => by omega))
              clear cx fx
              clear S B
              have S := S'
              have B := B'
              clear S' B'
              go_wp2_with (fail)
              refine (kind_p _ _ _ _ _ q1 p S.out.x EQp).mono ?_
              rintro e wn29 ⟨rfl, cx, fx⟩
              have S' := Lib.hid (S.out.hx cx fx)
              have B' := Lib.hid (below_fr B.out fx (fun i hi => by omega))
              clear cx fx
              clear S B
              have S := S'
              have B := B'
              clear S' B'
              go_wp2_with (fail)
              refine (kind_p _ _ _ _ _ r1 s S.out.y ER).mono ?_
              rintro e wn30 ⟨rfl, cx, fx⟩
              have S' := Lib.hid (S.out.hy cx fx)
              have B' := Lib.hid (below_fr B.out fx (fun i hi => by omega))
              clear cx fx
              clear S B
              have S := S'
              have B := B'
              clear S' B'
              go_wp2_with (fail)
              refine (left_n _ _ _ _ q1 p Np S.out.x HNp).mono ?_
              rintro e wn31 ⟨rfl, fx⟩
              have S' := Lib.hid (S.out.free fx)
              have B' := Lib.hid (below_fr B.out fx (fun i hi => hi.elim))
              clear fx
              clear S B
              have S := S'
              have B := B'
              clear S' B'
              go_wp2_with (fail)
              refine (left_n _ _ _ _ r1 s Ns S.out.y HNs).mono ?_
              rintro e wn32 ⟨rfl, fx⟩
              have S' := Lib.hid (S.out.free fx)
              have B' := Lib.hid (below_fr B.out fx (fun i hi => hi.elim))
              clear fx
              clear S B
              have S := S'
              have B := B'
              clear S' B'
              go_wp2_with (fail)
              refine (min4_n Np Ns M _ HM).mono ?_
              rintro e wmin ⟨rfl, rfl⟩
              go_wp2_with (fail)
              refine (kind_p _ _ _ _ _ q1 p S.out.x EQp).mono ?_
              rintro e wn33 ⟨rfl, cx, fx⟩
              have S' := Lib.hid (S.out.hx cx fx)
              have B' := Lib.hid (below_fr B.out fx (fun i hi => by omega))
              clear cx fx
              clear S B
              have S := S'
              have B := B'
              clear S' B'
              go_wp2_with (fail)
              refine (kind_p _ _ _ _ _ r1 s S.out.y ERs).mono ?_
              rintro e wn34 ⟨rfl, cx, fx⟩
              have S' := Lib.hid (S.out.hy cx fx)
              have B' := Lib.hid (below_fr B.out fx (fun i hi => by omega))
              clear cx fx
              clear S B
              have S := S'
              have B := B'
              clear S' B'
              go_wp2_with (fail)
              refine (drop_sb _ _ _ bd M S.out.b (Nat.le_refl _) (Nat.le_of_lt S.out.size) hd0 (by omega) (by omega) (by omega)).mono ?_
              rintro e wn35 ⟨rfl, st, bx⟩
              have S' := Lib.hid (S.out.hb st bx)
              have B' := Lib.hid (below_fr B.out (frame_lo bx) (fun i hi => by omega))
              clear st bx
              clear S B
              have S := S'
              have B := B'
              clear S' B'
              obtain ⟨-, -, fy0, -, ly0, -⟩ := S.out.y.bump
              obtain ⟨dx, ex, fx, h2x, lx, mx⟩ := S.out.x.bump
              obtain ⟨Wx, Cx⟩ := mx M MP.out
              have S1 := Lib.hid (S.out.hx Cx (Frame.setCell _ _ _ _ rfl))
              have B1 := Lib.hid (below_fr B.out (Frame.setCell (fun k => k = w4.heap.size) _ ⟨w4.heap.size, 2, none⟩ (.int .i64 ((dx + M : Nat) : Int)) rfl) (fun i hi => by omega))
              clear mx Cx
              obtain ⟨dy, ey, fy, h2y, ly, my⟩ := S1.out.y.bump
              obtain ⟨Wy, Cy⟩ := my M MS.out
              have S2 := Lib.hid (S1.out.hy Cy (Frame.setCell _ _ _ _ rfl))
              have B2 := Lib.hid (below_fr B1.out (Frame.setCell (fun k => k = w4.heap.size + 1) _ ⟨w4.heap.size + 1, 2, none⟩ (.int .i64 ((dy + M : Nat) : Int)) rfl) (fun i hi => by omega))
              replace ey := ((Frame.setCell (fun k => k = w4.heap.size) _ ⟨w4.heap.size, 2, none⟩ (.int .i64 ((dx + M : Nat) : Int)) rfl).cell (o := 2) ly0 (by omega)).symm.trans ey
              clear fy ly
              clear my Cy
              go_wp2_with (fail)
              rw [← Int.natCast_add dx M, ← Int.natCast_add dy M]
              clear S B ex Wx ey Wy
              have S := S2
              have B := B2
              go_roundg ((Pl.units (Pl.lf p M :: q1)).length + (Pl.units (Pl.lf s M :: r1)).length)
              case rel => exact ⟨_, Pl.lf p M :: q1, Pl.lf s M :: r1, _, m + 1, rfl, by omega, S.out, HC'.out, HRR.out, (Pl.bDrop_le (k := 300) hle.out (by omega) (by omega)).mono (by omega), B.out⟩
              case measure => omega
              -- END m13
          · rcases hss with hs1 | hs1
            · have k2p : (p.kind == 2) = true := by simp [hp1]
              have k1s : (s.kind == 1) = true := by simp [hs1]
              rw [Pl.cOut, if_pos hs1] at hbo
              have HC' := Lib.hid hbo
              have HRR : Hid (Pl.bPut bd (p.signs.take M) = Pl.run Pl.Bd.init (acc ++ Pl.unitsP (Pl.tk p M))) := by show _ = _; rw [hrun.out, Pl.tk_2 hp1, Pl.run_append, Pl.pus, Pl.run_puts]
              have HKp := Lib.hid hp1
              have hlt : (p.signs.take M).length ≤ 200 := by rw [List.length_take]; omega
              clear hp1 hs1 hbo
              -- PART m21
              go_wp2_with (fail)
              refine (kind_p _ _ _ _ _ q1 p S.out.x EQ).mono ?_
              rintro e wn36 ⟨rfl, cx, fx⟩
              have S' := Lib.hid (S.out.hx cx fx)
              have B' := Lib.hid (below_fr B.out fx (fun i hi => by omega))
              clear cx fx
              clear S B
              have S := S'
              have B := B'
              clear S' B'
              go_wp2_with (fail)
              refine (kind_p _ _ _ _ _ q1 p S.out.x EQp).mono ?_
              rintro e wn37 ⟨rfl, cx, fx⟩
              have S' := Lib.hid (S.out.hx cx fx)
              have B' := Lib.hid (below_fr B.out fx (fun i hi => by omega))
              clear cx fx
              clear S B
              have S := S'
              have B := B'
              clear S' B'
              go_wp2_with (fail)
              refine (kind_p _ _ _ _ _ r1 s S.out.y ER).mono ?_
              rintro e wn38 ⟨rfl, cx, fx⟩
              have S' := Lib.hid (S.out.hy cx fx)
              have B' := Lib.hid (below_fr B.out fx (fun i hi => by omega))
              clear cx fx
              clear S B
              have S := S'
              have B := B'
              clear S' B'
              go_wp2_with (fail)
              refine (left_n _ _ _ _ q1 p Np S.out.x HNp).mono ?_
              rintro e wn39 ⟨rfl, fx⟩
              have S' := Lib.hid (S.out.free fx)
              have B' := Lib.hid (below_fr B.out fx (fun i hi => hi.elim))
              clear fx
              clear S B
              have S := S'
              have B := B'
              clear S' B'
              go_wp2_with (fail)
              refine (left_n _ _ _ _ r1 s Ns S.out.y HNs).mono ?_
              rintro e wn40 ⟨rfl, fx⟩
              have S' := Lib.hid (S.out.free fx)
              have B' := Lib.hid (below_fr B.out fx (fun i hi => hi.elim))
              clear fx
              clear S B
              have S := S'
              have B := B'
              clear S' B'
              go_wp2_with (fail)
              refine (min4_n Np Ns M _ HM).mono ?_
              rintro e wmin ⟨rfl, rfl⟩
              go_wp2_with (fail)
              refine (kind_p _ _ _ _ _ q1 p S.out.x EQp).mono ?_
              rintro e wn41 ⟨rfl, cx, fx⟩
              have S' := Lib.hid (S.out.hx cx fx)
              have B' := Lib.hid (below_fr B.out fx (fun i hi => by omega))
              clear cx fx
              clear S B
              have S := S'
              have B := B'
              clear S' B'
              go_wp2_with (fail)
              refine (kind_p _ _ _ _ _ r1 s S.out.y ERs).mono ?_
              rintro e wn42 ⟨rfl, cx, fx⟩
              have S' := Lib.hid (S.out.hy cx fx)
              have B' := Lib.hid (below_fr B.out fx (fun i hi => by omega))
              clear cx fx
              clear S B
              have S := S'
              have B := B'
              clear S' B'
              go_wp2_with (fail)
              refine (take4_s _ _ _ _ q1 p M S.out.x HKp.out (MP.out)).mono ?_
              rintro e wn43 ⟨vt, rfl, ht, cx, fx⟩
              have S' := Lib.hid (S.out.hx cx fx)
              have B' := Lib.hid (below_fr B.out fx (fun i hi => by omega))
              have HT := Lib.hid ht
              clear cx fx ht
              clear S B
              have S := S'
              have B := B'
              clear S' B'
              go_wp2_with (fail)
              refine (put_sb _ _ _ bd _ (p.signs.take M) S.out.b (HT.out.mono (by have := S.out.size; omega)) (Nat.le_refl _) (Nat.le_of_lt S.out.size) (by omega) (by omega)).mono ?_
              rintro e wn44 ⟨rfl, st, bx⟩
              have S' := Lib.hid (S.out.hb st bx)
              have B' := Lib.hid (below_fr B.out (frame_lo bx) (fun i hi => by omega))
              clear st bx
              clear S B
              have S := S'
              have B := B'
              clear S' B'
              obtain ⟨dy, ey, fy, h2y, ly, my⟩ := S.out.y.bump
              obtain ⟨Wy, Cy⟩ := my M MS.out
              have S1 := Lib.hid (S.out.hy Cy (Frame.setCell _ _ _ _ rfl))
              have B1 := Lib.hid (below_fr B.out (Frame.setCell (fun k => k = w4.heap.size + 1) _ ⟨w4.heap.size + 1, 2, none⟩ (.int .i64 ((dy + M : Nat) : Int)) rfl) (fun i hi => by omega))
              clear my Cy
              go_wp2_with (fail)
              rw [← Int.natCast_add dy M]
              clear S B ey Wy
              have S := S1
              have B := B1
              go_roundg ((Pl.units (Pl.lf p M :: q1)).length + (Pl.units (Pl.lf s M :: r1)).length)
              case rel => exact ⟨_, Pl.lf p M :: q1, Pl.lf s M :: r1, _, m + 1, rfl, by omega, S.out, HC'.out, HRR.out, (Pl.bPut_le (k := 300) hle.out (by omega)).mono (by omega), B.out⟩
              case measure => omega
              -- END m21
            · have k2p : (p.kind == 2) = true := by simp [hp1]
              have k1s : (s.kind == 1) = false := by simp [hs1]
              rw [Pl.cOut, if_neg (by rw [hs1]; decide), if_neg (by rw [hp1]; decide)] at hbo
              have HC' := Lib.hid hbo
              have HRR : Hid (bd = Pl.run Pl.Bd.init (acc ++ [])) := by show _ = _; rw [hrun.out, List.append_nil]
              have HKp := Lib.hid hp1
              clear hp1 hs1 hbo
              -- PART m23
              go_wp2_with (fail)
              refine (kind_p _ _ _ _ _ q1 p S.out.x EQ).mono ?_
              rintro e wn45 ⟨rfl, cx, fx⟩
              have S' := Lib.hid (S.out.hx cx fx)
              have B' := Lib.hid (below_fr B.out fx (fun i hi => by omega))
              clear cx fx
              clear S B
              have S := S'
              have B := B'
              clear S' B'
              go_wp2_with (fail)
              refine (kind_p _ _ _ _ _ q1 p S.out.x EQp).mono ?_
              rintro e wn46 ⟨rfl, cx, fx⟩
              have S' := Lib.hid (S.out.hx cx fx)
              have B' := Lib.hid (below_fr B.out fx (fun i hi => by omega))
              clear cx fx
              clear S B
              have S := S'
              have B := B'
              clear S' B'
              go_wp2_with (fail)
              refine (kind_p _ _ _ _ _ r1 s S.out.y ER).mono ?_
              rintro e wn47 ⟨rfl, cx, fx⟩
              have S' := Lib.hid (S.out.hy cx fx)
              have B' := Lib.hid (below_fr B.out fx (fun i hi => by omega))
              clear cx fx
              clear S B
              have S := S'
              have B := B'
              clear S' B'
              go_wp2_with (fail)
              refine (left_n _ _ _ _ q1 p Np S.out.x HNp).mono ?_
              rintro e wn48 ⟨rfl, fx⟩
              have S' := Lib.hid (S.out.free fx)
              have B' := Lib.hid (below_fr B.out fx (fun i hi => hi.elim))
              clear fx
              clear S B
              have S := S'
              have B := B'
              clear S' B'
              go_wp2_with (fail)
              refine (left_n _ _ _ _ r1 s Ns S.out.y HNs).mono ?_
              rintro e wn49 ⟨rfl, fx⟩
              have S' := Lib.hid (S.out.free fx)
              have B' := Lib.hid (below_fr B.out fx (fun i hi => hi.elim))
              clear fx
              clear S B
              have S := S'
              have B := B'
              clear S' B'
              go_wp2_with (fail)
              refine (min4_n Np Ns M _ HM).mono ?_
              rintro e wmin ⟨rfl, rfl⟩
              go_wp2_with (fail)
              refine (kind_p _ _ _ _ _ q1 p S.out.x EQp).mono ?_
              rintro e wn50 ⟨rfl, cx, fx⟩
              have S' := Lib.hid (S.out.hx cx fx)
              have B' := Lib.hid (below_fr B.out fx (fun i hi => by omega))
              clear cx fx
              clear S B
              have S := S'
              have B := B'
              clear S' B'
              go_wp2_with (fail)
              refine (kind_p _ _ _ _ _ r1 s S.out.y ERs).mono ?_
              rintro e wn51 ⟨rfl, cx, fx⟩
              have S' := Lib.hid (S.out.hy cx fx)
              have B' := Lib.hid (below_fr B.out fx (fun i hi => by omega))
              clear cx fx
              clear S B
              have S := S'
              have B := B'
              clear S' B'
              obtain ⟨-, -, fy0, -, ly0, -⟩ := S.out.y.bump
              obtain ⟨dx, ex, fx, h2x, lx, mx⟩ := S.out.x.bump
              obtain ⟨Wx, Cx⟩ := mx M MP.out
              have S1 := Lib.hid (S.out.hx Cx (Frame.setCell _ _ _ _ rfl))
              have B1 := Lib.hid (below_fr B.out (Frame.setCell (fun k => k = w4.heap.size) _ ⟨w4.heap.size, 2, none⟩ (.int .i64 ((dx + M : Nat) : Int)) rfl) (fun i hi => by omega))
              clear mx Cx
              obtain ⟨dy, ey, fy, h2y, ly, my⟩ := S1.out.y.bump
              obtain ⟨Wy, Cy⟩ := my M MS.out
              have S2 := Lib.hid (S1.out.hy Cy (Frame.setCell _ _ _ _ rfl))
              have B2 := Lib.hid (below_fr B1.out (Frame.setCell (fun k => k = w4.heap.size + 1) _ ⟨w4.heap.size + 1, 2, none⟩ (.int .i64 ((dy + M : Nat) : Int)) rfl) (fun i hi => by omega))
              replace ey := ((Frame.setCell (fun k => k = w4.heap.size) _ ⟨w4.heap.size, 2, none⟩ (.int .i64 ((dx + M : Nat) : Int)) rfl).cell (o := 2) ly0 (by omega)).symm.trans ey
              clear fy ly
              clear my Cy
              go_wp2_with (fail)
              rw [← Int.natCast_add dx M, ← Int.natCast_add dy M]
              clear S B ex Wx ey Wy
              have S := S2
              have B := B2
              go_roundg ((Pl.units (Pl.lf p M :: q1)).length + (Pl.units (Pl.lf s M :: r1)).length)
              case rel => exact ⟨_, Pl.lf p M :: q1, Pl.lf s M :: r1, _, m + 1, rfl, by omega, S.out, HC'.out, HRR.out, (hle.out).mono (by omega), B.out⟩
              case measure => omega
              -- END m23
end Go.Proofs.Ytlpjbbmjchfolaa
