/- What is left of two operations, side by side. Condition: right parts. -/
import Derived.Test.YtookcfpiegbafaaGreatDoorTake
namespace Go.Proofs.YtookcfpiegbafaaGreatDoor
open Go.RowKit
set_option maxRecDepth 100000
set_option linter.unusedVariables false

theorem PV.shape {F : Nat → Prop} {w : World} {v : Value} {p : Pt} (h : PV F w v p) : ∃ (x y : Int) (A : Option Addr) (l c : Nat), v = .agg #[.int .i64 x, .int .i64 y, .slice A l c] := by
  obtain ⟨sv, rfl, A, c, rfl, _⟩ := h
  exact ⟨_, _, _, _, _, rfl⟩
/-- The end of whole. -/
theorem whole_end {F : Nat → Prop} {g n : Nat} {p : Pt} {q : List Pt} {w w1 w2 : World} {x y z : Value} (lg : g < w.heap.size) (hF : ∀ x, F x → x < w.heap.size) (h1 : Below w.heap.size w w1) (hs : w.heap.size < w1.heap.size)
    (hpv : PV (Plus F w1 w2) w2 (.agg #[x, y, z]) (Pl.tk p n)) (hr : RestAt (Plus F w1 w2) w2 g (Pl.lf p n :: q)) (hf : Frame (fun k => k = g) w1 w2) :
    Took F g p q n w (.returned (.agg #[x, y, z])) (((w2.setCell ⟨w.heap.size, 0, none⟩ x).setCell ⟨w.heap.size, 1, none⟩ y).setCell ⟨w.heap.size, 2, none⟩ z) := by
  have f5 : Frame (fun k => k = w.heap.size) w2 (((w2.setCell ⟨w.heap.size, 0, none⟩ x).setCell ⟨w.heap.size, 1, none⟩ y).setCell ⟨w.heap.size, 2, none⟩ z) :=
    (((Frame.refl (fun k => k = w.heap.size) w2).andSet ⟨w.heap.size, 0, none⟩ x rfl).andSet ⟨w.heap.size, 1, none⟩ y rfl).andSet ⟨w.heap.size, 2, none⟩ z rfl
  have s5 : (((w2.setCell ⟨w.heap.size, 0, none⟩ x).setCell ⟨w.heap.size, 1, none⟩ y).setCell ⟨w.heap.size, 2, none⟩ z).heap.size = w2.heap.size := by simp [World.setCell]
  have hn : ∀ b, Plus F w1 w2 b → ¬ b = w.heap.size := fun b hb e => by
    rcases hb with hb | hb
    · have := hF b hb; omega
    · omega
  have hm : ∀ b, Plus F w1 w2 b → Plus F w (((w2.setCell ⟨w.heap.size, 0, none⟩ x).setCell ⟨w.heap.size, 1, none⟩ y).setCell ⟨w.heap.size, 2, none⟩ z) b := fun b hb => by
    rcases hb with hb | hb
    · exact .inl hb
    · exact .inr ⟨by omega, by rw [s5]; exact hb.2⟩
  obtain ⟨sv, e, hsv⟩ := hpv
  injection e with e
  injection e with e
  simp only [List.cons.injEq, and_true] at e
  obtain ⟨rfl, rfl, rfl⟩ := e
  obtain ⟨v, hc, hrd⟩ := hr
  have fA : Frame (fun k => k = g) w w2 := ((Frame.ofBelow (S := fun _ => False) h1).mono (T := fun k => k = g) (fun _ _ hh => hh.elim)).trans hf (fun _ _ hh => hh)
  exact ⟨_, rfl, ⟨_, rfl, (hsv.frame f5 hn).mono hm⟩, ⟨v, hc.frame f5 (by omega), (hrd.frame f5 hn).mono hm⟩, fA.trans f5 (fun i hi e => by omega)⟩
set_option maxHeartbeats 1000000 in
theorem whole_i (F : Nat → Prop) (g n : Nat) (p : Pt) (q : List Pt) (w : World) (hrest : RestAt F w g (p :: q)) (hg : ¬ F g) (hF : ∀ x, F x → x < w.heap.size) (hok : Pl.partOk p = true) (hn : (n : Int) = Pl.size p) (hl : q.length ≤ 100000) :
    Calls Tryz.prog 43 #[.pointer (some ⟨g, 0, none⟩)] w (Took F g p q n w) := by
  have HR := Lib.hid hrest
  obtain ⟨v, hc, hr⟩ := hrest
  have lg := hc.lt
  have cg := hc.cell
  obtain ⟨A1, c1, rfl, hcap⟩ := hr.shape
  simp only [List.length_cons] at cg hcap
  obtain ⟨-, hc1, b, off, sv, rfl, hb, e0, e1, e2, hs⟩ := hr.head
  have hlen : 0 < q.length + 1 := Nat.succ_pos _
  have hp0 := (partOk_facts hok).2.1
  have hp1 := (partOk_facts hok).2.2.1
  have hp2 := (partOk_facts hok).2.2.2.1
  have HOK := Lib.hid hok
  have HF := Lib.hid hF
  have HG := Lib.hid hg
  obtain ⟨A2, c2, rfl⟩ : ∃ A c, sv = .slice A p.signs.length c := by obtain ⟨A, c, e, _⟩ := hs; exact ⟨A, c, e⟩
  have HS := Lib.hid hs.slice
  have HN := Lib.hid hn
  have hn2 : (n : Int) ≤ 200 := by have := (Pl.size_nat hok).2; omega
  clear hr hc hs hF hg hn
  go_enter Tryz.func43, Tryz.ntmps43
  go_wp2_with (fail)
  have ba : Below w.heap.size w (w.alloc (.cells #[.int .i64 0, .int .i64 0, .slice none 0 0] 47)) := (Below.refl _ _).alloc (Nat.le_refl _) _
  refine (size_i _ p _ ⟨_, rfl, (HS.out.below ba).mono (by simp)⟩ hp0 (by omega) (by omega)).mono ?_
  rintro e w1 ⟨he, b1⟩
  rw [← HN.out] at he
  subst he
  have z1 : w1.heap[w.heap.size]? = some (.cells #[.int .i64 0, .int .i64 0, .slice none 0 0] 47 (0, 0)) := (b1.block w.heap.size (by simp)).trans (heap_new_at _ _ rfl)
  have hs1 := lt_of_block z1
  have bb1 := Lib.hid (ba.trans (b1.mono (by simp)))
  have hr1 : Hid (RestAt F w1 g (p :: q)) := by
    have hf : Frame (fun _ => False) w w1 := Frame.ofBelow bb1.out
    obtain ⟨v, hc, hr⟩ := HR.out
    exact ⟨v, hc.frame hf (fun hh => hh), hr.frame hf (fun _ _ hh => hh)⟩
  have Z1 := Lib.hid z1
  have hsz : w.heap.size ≤ w1.heap.size := bb1.out.size
  clear b1 ba z1 cg e0 e1 e2
  go_wp2_with (fail)
  refine (take_i F g n p q _ hr1.out HG.out (fun x hx => Nat.lt_of_lt_of_le (HF.out x hx) hsz) HOK.out (by rw [HN.out]; exact Int.le_refl _) hl).mono ?_
  rintro e w2 ⟨pv, rfl, hpv, hr2, hf2⟩
  obtain ⟨x, y, A9, l9, c9, rfl⟩ := hpv.shape
  have HPV := Lib.hid hpv
  obtain ⟨r0, r1, r2, rf, rl⟩ := blk3 (hf2.heap Z1.out (by omega))
  have rf0 := rf 0
  have rf1 := rf 1
  have rf2 := rf 2
  have HR2 := Lib.hid hr2
  have HF2 := Lib.hid hf2
  clear hpv hr2 hf2 rf
  go_wp2_with (fail)
  exact bodyPost_ret (v := .agg #[.int .i64 x, .int .i64 y, .slice A9 l9 c9]) (by simp [results, Tryz.results43, go_sem, r0, r1, r2]) rfl (whole_end lg HF.out bb1.out hs1 HPV.out HR2.out HF2.out)
structure Two (F : Nat → Prop) (w : World) (gx gy : Nat) (q r : List Pt) : Prop where
  x : RestAt F w gx q
  y : RestAt F w gy r
  nx : ¬ F gx
  ny : ¬ F gy
  ne : gx ≠ gy
  top : ∀ b, F b → b < w.heap.size

theorem RestAt.frame {F S : Nat → Prop} {w w' : World} {g : Nat} {q : List Pt} (h : RestAt F w g q) (hf : Frame S w w') (hg : ¬ S g) (hs : ∀ b, F b → ¬ S b) : RestAt F w' g q := by
  obtain ⟨v, hc, hr⟩ := h
  exact ⟨v, hc.frame hf hg, hr.frame hf hs⟩
theorem RestAt.mono {F T : Nat → Prop} {w : World} {g : Nat} {q : List Pt} (h : RestAt F w g q) (hT : ∀ b, F b → T b) : RestAt T w g q := by
  obtain ⟨v, hc, hr⟩ := h
  exact ⟨v, hc, hr.mono hT⟩
theorem RestAt.lt {F : Nat → Prop} {w : World} {g : Nat} {q : List Pt} (h : RestAt F w g q) : g < w.heap.size := by
  obtain ⟨v, hc, hr⟩ := h
  exact hc.lt
theorem Two.frame {F S : Nat → Prop} {w w' : World} {gx gy : Nat} {q r : List Pt} (h : Two F w gx gy q r) (hf : Frame S w w') (hx : ¬ S gx) (hy : ¬ S gy) (hs : ∀ b, F b → ¬ S b) : Two F w' gx gy q r :=
  ⟨h.x.frame hf hx hs, h.y.frame hf hy hs, h.nx, h.ny, h.ne, fun b hb => Nat.lt_of_lt_of_le (h.top b hb) hf.size⟩
theorem PV.mono {F T : Nat → Prop} {w : World} {v : Value} {p : Pt} (h : PV F w v p) (hT : ∀ b, F b → T b) : PV T w v p := by
  obtain ⟨sv, hv, hr⟩ := h
  exact ⟨sv, hv, hr.mono hT⟩

theorem Two.nextX {F : Nat → Prop} {w : World} {gx gy : Nat} {q r : List Pt} (h : Two F w gx gy q r) (hok : Pl.AllOk q) :
    Calls Tryz.prog 42 #[.pointer (some ⟨gx, 0, none⟩)] w fun e w' => ∃ pv, e = .returned pv ∧ PV F w' pv (Pl.hd (Pl.skip q)) ∧ Two F w' gx gy (Pl.skip q) r ∧ Frame (fun k => k = gx) w w' := by
  refine (next_i F gx q w h.x h.nx h.top hok).mono ?_
  rintro e w' ⟨pv, rfl, h1, h2, h3⟩
  exact ⟨pv, rfl, h1, ⟨h2, h.y.frame h3 (fun e => h.ne e.symm) (fun b hb e => h.nx (e ▸ hb)), h.nx, h.ny, h.ne, fun b hb => Nat.lt_of_lt_of_le (h.top b hb) h3.size⟩, h3⟩
theorem Two.nextY {F : Nat → Prop} {w : World} {gx gy : Nat} {q r : List Pt} (h : Two F w gx gy q r) (hok : Pl.AllOk r) :
    Calls Tryz.prog 42 #[.pointer (some ⟨gy, 0, none⟩)] w fun e w' => ∃ pv, e = .returned pv ∧ PV F w' pv (Pl.hd (Pl.skip r)) ∧ Two F w' gx gy q (Pl.skip r) ∧ Frame (fun k => k = gy) w w' := by
  refine (next_i F gy r w h.y h.ny h.top hok).mono ?_
  rintro e w' ⟨pv, rfl, h1, h2, h3⟩
  exact ⟨pv, rfl, h1, ⟨h.x.frame h3 h.ne (fun b hb e => h.ny (e ▸ hb)), h2, h.nx, h.ny, h.ne, fun b hb => Nat.lt_of_lt_of_le (h.top b hb) h3.size⟩, h3⟩
theorem below_step {w a b : World} {S : Nat → Prop} (h : Below w.heap.size w a) (f : Frame S a b) (hS : ∀ i, S i → w.heap.size ≤ i) : Below w.heap.size w b := h.trans (f.below hS h.size)
theorem Plus.lt {F : Nat → Prop} {w w' : World} (h : ∀ b, F b → b < w.heap.size) (hs : w.heap.size ≤ w'.heap.size) : ∀ b, Plus F w w' b → b < w'.heap.size := fun b hb => by
  rcases hb with hb | hb
  · exact Nat.lt_of_lt_of_le (h b hb) hs
  · exact hb.2
theorem Two.afterX {F : Nat → Prop} {w w' : World} {gx gy : Nat} {q q' r : List Pt} (h : Two F w gx gy q r) (h2 : RestAt (Plus F w w') w' gx q') (h3 : Frame (fun k => k = gx) w w') : Two (Plus F w w') w' gx gy q' r := by
  have l1 := h.x.lt
  have l2 := h.y.lt
  exact ⟨h2, (h.y.frame h3 (fun e => h.ne e.symm) (fun b hb e => h.nx (e ▸ hb))).mono fun b hb => .inl hb, plus_not h.nx l1, plus_not h.ny l2, h.ne, Plus.lt h.top h3.size⟩
theorem Two.afterY {F : Nat → Prop} {w w' : World} {gx gy : Nat} {q r r' : List Pt} (h : Two F w gx gy q r) (h2 : RestAt (Plus F w w') w' gy r') (h3 : Frame (fun k => k = gy) w w') : Two (Plus F w w') w' gx gy q r' := by
  have l1 := h.x.lt
  have l2 := h.y.lt
  exact ⟨(h.x.frame h3 h.ne (fun b hb e => h.ny (e ▸ hb))).mono fun b hb => .inl hb, h2, plus_not h.nx l1, plus_not h.ny l2, h.ne, Plus.lt h.top h3.size⟩
theorem Two.takeX {F : Nat → Prop} {w : World} {gx gy : Nat} {p : Pt} {q r : List Pt} (h : Two F w gx gy (p :: q) r) (n : Nat) (hok : Pl.partOk p = true) (hn : (n : Int) ≤ Pl.size p) (hl : q.length ≤ 100000) :
    Calls Tryz.prog 45 #[.pointer (some ⟨gx, 0, none⟩), .int .i64 n] w fun e w' => ∃ pv, e = .returned pv ∧ PV (Plus F w w') w' pv (Pl.tk p n) ∧ Two (Plus F w w') w' gx gy (Pl.lf p n :: q) r ∧ Frame (fun k => k = gx) w w' := by
  refine (take_i F gx n p q w h.x h.nx h.top hok hn hl).mono ?_
  rintro e w' ⟨pv, rfl, h1, h2, h3⟩
  exact ⟨pv, rfl, h1, h.afterX h2 h3, h3⟩
theorem Two.takeY {F : Nat → Prop} {w : World} {gx gy : Nat} {p : Pt} {q r : List Pt} (h : Two F w gx gy q (p :: r)) (n : Nat) (hok : Pl.partOk p = true) (hn : (n : Int) ≤ Pl.size p) (hl : r.length ≤ 100000) :
    Calls Tryz.prog 45 #[.pointer (some ⟨gy, 0, none⟩), .int .i64 n] w fun e w' => ∃ pv, e = .returned pv ∧ PV (Plus F w w') w' pv (Pl.tk p n) ∧ Two (Plus F w w') w' gx gy q (Pl.lf p n :: r) ∧ Frame (fun k => k = gy) w w' := by
  refine (take_i F gy n p r w h.y h.ny h.top hok hn hl).mono ?_
  rintro e w' ⟨pv, rfl, h1, h2, h3⟩
  exact ⟨pv, rfl, h1, h.afterY h2 h3, h3⟩
theorem Two.wholeX {F : Nat → Prop} {w : World} {gx gy : Nat} {p : Pt} {q r : List Pt} (h : Two F w gx gy (p :: q) r) (n : Nat) (hok : Pl.partOk p = true) (hn : (n : Int) = Pl.size p) (hl : q.length ≤ 100000) :
    Calls Tryz.prog 43 #[.pointer (some ⟨gx, 0, none⟩)] w fun e w' => ∃ pv, e = .returned pv ∧ PV (Plus F w w') w' pv (Pl.tk p n) ∧ Two (Plus F w w') w' gx gy (Pl.lf p n :: q) r ∧ Frame (fun k => k = gx) w w' := by
  refine (whole_i F gx n p q w h.x h.nx h.top hok hn hl).mono ?_
  rintro e w' ⟨pv, rfl, h1, h2, h3⟩
  exact ⟨pv, rfl, h1, h.afterX h2 h3, h3⟩
theorem Two.wholeY {F : Nat → Prop} {w : World} {gx gy : Nat} {p : Pt} {q r : List Pt} (h : Two F w gx gy q (p :: r)) (n : Nat) (hok : Pl.partOk p = true) (hn : (n : Int) = Pl.size p) (hl : r.length ≤ 100000) :
    Calls Tryz.prog 43 #[.pointer (some ⟨gy, 0, none⟩)] w fun e w' => ∃ pv, e = .returned pv ∧ PV (Plus F w w') w' pv (Pl.tk p n) ∧ Two (Plus F w w') w' gx gy q (Pl.lf p n :: r) ∧ Frame (fun k => k = gy) w w' := by
  refine (whole_i F gy n p r w h.y h.ny h.top hok hn hl).mono ?_
  rintro e w' ⟨pv, rfl, h1, h2, h3⟩
  exact ⟨pv, rfl, h1, h.afterY h2 h3, h3⟩

/-- What is left of two operations, and two growing rows of parts. -/
structure St (F : Nat → Prop) (w : World) (gx gy : Nat) (q r : List Pt) (v1 : Value) (p1 : List Pt) (s1 : List Value) (v2 : Value) (p2 : List Pt) (s2 : List Value) : Prop where
  two : Two F w gx gy q r
  o1 : OutAt F w v1 p1 s1
  o2 : OutAt F w v2 p2 s2
  n1 : ∀ g, v1.ownBlock = some g → g ≠ gx ∧ g ≠ gy ∧ v2.ownBlock ≠ some g
  n2 : ∀ g, v2.ownBlock = some g → g ≠ gx ∧ g ≠ gy

section
variable {F : Nat → Prop} {w : World} {gx gy : Nat} {q r : List Pt} {v1 : Value} {p1 : List Pt} {s1 : List Value} {v2 : Value} {p2 : List Pt} {s2 : List Value}
theorem St.frame {S : Nat → Prop} {w' : World} (h : St F w gx gy q r v1 p1 s1 v2 p2 s2) (hf : Frame S w w') (hx : ¬ S gx) (hy : ¬ S gy) (hs : ∀ b, F b → ¬ S b) (h1 : ∀ g, v1.ownBlock = some g → ¬ S g) (h2 : ∀ g, v2.ownBlock = some g → ¬ S g) : St F w' gx gy q r v1 p1 s1 v2 p2 s2 :=
  ⟨h.two.frame hf hx hy hs, h.o1.frame hf hs h1, h.o2.frame hf hs h2, h.n1, h.n2⟩
theorem St.free {w' : World} (h : St F w gx gy q r v1 p1 s1 v2 p2 s2) (hf : Frame (fun _ => False) w w') : St F w' gx gy q r v1 p1 s1 v2 p2 s2 :=
  h.frame hf (fun hh => hh) (fun hh => hh) (fun _ _ hh => hh) (fun _ _ hh => hh) (fun _ _ hh => hh)
theorem St.outX {w' : World} {q' : List Pt} (h : St F w gx gy q r v1 p1 s1 v2 p2 s2) (t : Two F w' gx gy q' r) (f : Frame (fun k => k = gx) w w') : St F w' gx gy q' r v1 p1 s1 v2 p2 s2 :=
  ⟨t, h.o1.frame f (fun b hb e => h.two.nx (e ▸ hb)) (fun g hg => (h.n1 g hg).1), h.o2.frame f (fun b hb e => h.two.nx (e ▸ hb)) (fun g hg => (h.n2 g hg).1), h.n1, h.n2⟩
theorem St.outY {w' : World} {r' : List Pt} (h : St F w gx gy q r v1 p1 s1 v2 p2 s2) (t : Two F w' gx gy q r') (f : Frame (fun k => k = gy) w w') : St F w' gx gy q r' v1 p1 s1 v2 p2 s2 :=
  ⟨t, h.o1.frame f (fun b hb e => h.two.ny (e ▸ hb)) (fun g hg => (h.n1 g hg).2.1), h.o2.frame f (fun b hb e => h.two.ny (e ▸ hb)) (fun g hg => (h.n2 g hg).2), h.n1, h.n2⟩
theorem OutAt.plus {w' : World} (h : OutAt F w' v1 p1 s1) (hl : ∀ g, v1.ownBlock = some g → g < w.heap.size) : OutAt (Plus F w w') w' v1 p1 s1 :=
  h.mono (fun _ hg => .inl hg) fun g hg => plus_not (h.far g hg) (hl g hg)
theorem St.outX2 {w' : World} {q' : List Pt} (h : St F w gx gy q r v1 p1 s1 v2 p2 s2) (t : Two (Plus F w w') w' gx gy q' r) (f : Frame (fun k => k = gx) w w') : St (Plus F w w') w' gx gy q' r v1 p1 s1 v2 p2 s2 :=
  ⟨t, (h.o1.frame f (fun b hb e => h.two.nx (e ▸ hb)) (fun g hg => (h.n1 g hg).1)).plus h.o1.lt, (h.o2.frame f (fun b hb e => h.two.nx (e ▸ hb)) (fun g hg => (h.n2 g hg).1)).plus h.o2.lt, h.n1, h.n2⟩
theorem St.outY2 {w' : World} {r' : List Pt} (h : St F w gx gy q r v1 p1 s1 v2 p2 s2) (t : Two (Plus F w w') w' gx gy q r') (f : Frame (fun k => k = gy) w w') : St (Plus F w w') w' gx gy q r' v1 p1 s1 v2 p2 s2 :=
  ⟨t, (h.o1.frame f (fun b hb e => h.two.ny (e ▸ hb)) (fun g hg => (h.n1 g hg).2.1)).plus h.o1.lt, (h.o2.frame f (fun b hb e => h.two.ny (e ▸ hb)) (fun g hg => (h.n2 g hg).2)).plus h.o2.lt, h.n1, h.n2⟩
/-- One part more in the first row. -/
theorem St.push1 {w3 : World} (h : St F w gx gy q r v1 p1 s1 v2 p2 s2) (p : Pt) {sv : Value} {g cap n K : Nat} (hn : p1.length = n)
    (hown : w3.ownsRow 0 47 3 (.slice (some ⟨g, 0, none⟩) (n + 1) cap) (n + 1) (cellsP p1 s1 ++ [.int .i64 p.kind, .int .i64 p.n, sv])) (hg : w.grownBy w3 v1.ownBlock) (hat : v1.ownBlock = some g ∨ g = K) (hK : K = w.heap.size)
    (hs : RdI F w sv p.signs) :
    St F w3 gx gy q r (.slice (some ⟨g, 0, none⟩) (n + 1) cap) (p1 ++ [p]) (s1 ++ [sv]) v2 p2 s2 ∧ Frame (fun k => v1.ownBlock = some k) w w3 := by
  obtain ⟨a, b, c⟩ := h.o1.push p hn hown hg hat hK hs h.two.top
  have l1 := h.two.x.lt
  have l2 := h.two.y.lt
  refine ⟨⟨h.two.frame b (fun e => (h.n1 gx e).1 rfl) (fun e => (h.n1 gy e).2.1 rfl) (fun x hx e => h.o1.far x e hx), a, h.o2.frame b (fun x hx e => h.o1.far x e hx) (fun x hx e => (h.n1 x e).2.2 hx), fun x hx => ?_, h.n2⟩, b⟩
  have : g = x := by simpa [Value.ownBlock] using hx
  subst this
  rcases hat with e | e
  · exact h.n1 g e
  · subst e hK
    exact ⟨by omega, by omega, fun e => by have := h.o2.lt _ e; omega⟩
/-- And in the second. -/
theorem St.push2 {w3 : World} (h : St F w gx gy q r v1 p1 s1 v2 p2 s2) (p : Pt) {sv : Value} {g cap n K : Nat} (hn : p2.length = n)
    (hown : w3.ownsRow 0 47 3 (.slice (some ⟨g, 0, none⟩) (n + 1) cap) (n + 1) (cellsP p2 s2 ++ [.int .i64 p.kind, .int .i64 p.n, sv])) (hg : w.grownBy w3 v2.ownBlock) (hat : v2.ownBlock = some g ∨ g = K) (hK : K = w.heap.size)
    (hs : RdI F w sv p.signs) :
    St F w3 gx gy q r v1 p1 s1 (.slice (some ⟨g, 0, none⟩) (n + 1) cap) (p2 ++ [p]) (s2 ++ [sv]) ∧ Frame (fun k => v2.ownBlock = some k) w w3 := by
  obtain ⟨a, b, c⟩ := h.o2.push p hn hown hg hat hK hs h.two.top
  have l1 := h.two.x.lt
  have l2 := h.two.y.lt
  refine ⟨⟨h.two.frame b (fun e => (h.n2 gx e).1 rfl) (fun e => (h.n2 gy e).2 rfl) (fun x hx e => h.o2.far x e hx), h.o1.frame b (fun x hx e => h.o2.far x e hx) (fun x hx e => (h.n1 x hx).2.2 e), a, fun x hx => ⟨(h.n1 x hx).1, (h.n1 x hx).2.1, fun e => ?_⟩, fun x hx => ?_⟩, b⟩
  · have : g = x := by simpa [Value.ownBlock] using e
    subst this
    rcases hat with e' | e'
    · exact (h.n1 g hx).2.2 e'
    · have := h.o1.lt _ hx; omega
  · have : g = x := by simpa [Value.ownBlock] using hx
    subst this
    rcases hat with e | e
    · exact h.n2 g e
    · subst e hK
      exact ⟨by omega, by omega⟩
theorem St.nextX (h : St F w gx gy q r v1 p1 s1 v2 p2 s2) (hok : Pl.AllOk q) {q0 : List Pt} {p0 : Pt} (e0 : Pl.skip q = q0) (ep : Pl.hd q0 = p0) :
    Calls Tryz.prog 42 #[.pointer (some ⟨gx, 0, none⟩)] w fun e w' => ∃ pv, e = .returned pv ∧ PV F w' pv p0 ∧ St F w' gx gy q0 r v1 p1 s1 v2 p2 s2 ∧ Frame (fun k => k = gx) w w' := by
  subst e0 ep
  exact (h.two.nextX hok).mono fun _ _ ⟨pv, a, b, c, d⟩ => ⟨pv, a, b, h.outX c d, d⟩
theorem St.nextY (h : St F w gx gy q r v1 p1 s1 v2 p2 s2) (hok : Pl.AllOk r) {r0 : List Pt} {p0 : Pt} (e0 : Pl.skip r = r0) (ep : Pl.hd r0 = p0) :
    Calls Tryz.prog 42 #[.pointer (some ⟨gy, 0, none⟩)] w fun e w' => ∃ pv, e = .returned pv ∧ PV F w' pv p0 ∧ St F w' gx gy q r0 v1 p1 s1 v2 p2 s2 ∧ Frame (fun k => k = gy) w w' := by
  subst e0 ep
  exact (h.two.nextY hok).mono fun _ _ ⟨pv, a, b, c, d⟩ => ⟨pv, a, b, h.outY c d, d⟩
theorem St.takeX {p : Pt} (h : St F w gx gy (p :: q) r v1 p1 s1 v2 p2 s2) (n : Nat) (hok : Pl.partOk p = true) (hn : (n : Int) ≤ Pl.size p) (hl : q.length ≤ 100000) {pt : Pt} (et : Pl.tk p n = pt) :
    Calls Tryz.prog 45 #[.pointer (some ⟨gx, 0, none⟩), .int .i64 n] w fun e w' => ∃ pv, e = .returned pv ∧ PV (Plus F w w') w' pv pt ∧ St (Plus F w w') w' gx gy (Pl.lf p n :: q) r v1 p1 s1 v2 p2 s2 ∧ Frame (fun k => k = gx) w w' := by
  subst et
  exact (h.two.takeX n hok hn hl).mono fun _ _ ⟨pv, a, b, c, d⟩ => ⟨pv, a, b, h.outX2 c d, d⟩
theorem St.takeY {p : Pt} (h : St F w gx gy q (p :: r) v1 p1 s1 v2 p2 s2) (n : Nat) (hok : Pl.partOk p = true) (hn : (n : Int) ≤ Pl.size p) (hl : r.length ≤ 100000) {pt : Pt} (et : Pl.tk p n = pt) :
    Calls Tryz.prog 45 #[.pointer (some ⟨gy, 0, none⟩), .int .i64 n] w fun e w' => ∃ pv, e = .returned pv ∧ PV (Plus F w w') w' pv pt ∧ St (Plus F w w') w' gx gy q (Pl.lf p n :: r) v1 p1 s1 v2 p2 s2 ∧ Frame (fun k => k = gy) w w' := by
  subst et
  exact (h.two.takeY n hok hn hl).mono fun _ _ ⟨pv, a, b, c, d⟩ => ⟨pv, a, b, h.outY2 c d, d⟩
theorem St.wholeX {p : Pt} (h : St F w gx gy (p :: q) r v1 p1 s1 v2 p2 s2) (n : Nat) (hok : Pl.partOk p = true) (hn : (n : Int) = Pl.size p) (hl : q.length ≤ 100000) {pt : Pt} (et : Pl.tk p n = pt) :
    Calls Tryz.prog 43 #[.pointer (some ⟨gx, 0, none⟩)] w fun e w' => ∃ pv, e = .returned pv ∧ PV (Plus F w w') w' pv pt ∧ St (Plus F w w') w' gx gy (Pl.lf p n :: q) r v1 p1 s1 v2 p2 s2 ∧ Frame (fun k => k = gx) w w' := by
  subst et
  exact (h.two.wholeX n hok hn hl).mono fun _ _ ⟨pv, a, b, c, d⟩ => ⟨pv, a, b, h.outX2 c d, d⟩
theorem St.wholeY {p : Pt} (h : St F w gx gy q (p :: r) v1 p1 s1 v2 p2 s2) (n : Nat) (hok : Pl.partOk p = true) (hn : (n : Int) = Pl.size p) (hl : r.length ≤ 100000) {pt : Pt} (et : Pl.tk p n = pt) :
    Calls Tryz.prog 43 #[.pointer (some ⟨gy, 0, none⟩)] w fun e w' => ∃ pv, e = .returned pv ∧ PV (Plus F w w') w' pv pt ∧ St (Plus F w w') w' gx gy q (Pl.lf p n :: r) v1 p1 s1 v2 p2 s2 ∧ Frame (fun k => k = gy) w w' := by
  subst et
  exact (h.two.wholeY n hok hn hl).mono fun _ _ ⟨pv, a, b, c, d⟩ => ⟨pv, a, b, h.outY2 c d, d⟩
end
end Go.Proofs.YtookcfpiegbafaaGreatDoor
