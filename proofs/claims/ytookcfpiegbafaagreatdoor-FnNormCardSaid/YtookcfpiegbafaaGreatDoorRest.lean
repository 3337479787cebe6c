/- What is left of an operation: contracts of next. Condition: right parts. -/
import Derived.Test.YtookcfpiegbafaaGreatDoorGB
import Derived.Test.YtookcfpiegbafaaGreatDoorGA
import Derived.Test.YtookcfpiegbafaaGreatDoorNormJ
import Derived.Deep.LoopGhost
import Derived.Deep.DeepCutAuto
namespace Go.Proofs.YtookcfpiegbafaaGreatDoor
open Go.RowKit
set_option maxRecDepth 100000

/-- The value of a part whose characters are read in F. -/
def PV (F : Nat → Prop) (w : World) (pv : Value) (p : Pt) : Prop := ∃ sv, pv = .agg #[.int .i64 p.kind, .int .i64 p.n, sv] ∧ RdI F w sv p.signs
theorem PV.frame {F S : Nat → Prop} {w w' : World} {v : Value} {p : Pt} (h : PV F w v p) (hf : Frame S w w') (hs : ∀ g, F g → ¬ S g) : PV F w' v p := by
  obtain ⟨sv, hv, hr⟩ := h
  exact ⟨sv, hv, hr.frame hf hs⟩
theorem PV.part {F : Nat → Prop} {w : World} {v : Value} {p : Pt} (h : PV F w v p) : PartV w.heap.size w v p := by
  obtain ⟨sv, hv, hr⟩ := h
  exact ⟨sv, hv, hr.slice⟩
/-- What is left of an operation lies at block g. -/
def RestAt (F : Nat → Prop) (w : World) (g : Nat) (q : List Pt) : Prop := ∃ v, Cell1 w g 61 v ∧ RdP F w v q
/-- Where next ends. -/
def Nexted (F : Nat → Prop) (g : Nat) (q : List Pt) (w : World) (e : Ending) (w' : World) : Prop :=
  ∃ pv, e = .returned pv ∧ PV F w' pv (Pl.hd (Pl.skip q)) ∧ RestAt F w' g (Pl.skip q) ∧ Frame (fun k => k = g) w w'
theorem RdP.head {F : Nat → Prop} {w : World} {A : Option Addr} {p : Pt} {q : List Pt} {n c : Nat} (h : RdP F w (.slice A n c) (p :: q)) :
    n = q.length + 1 ∧ (q.length + 1 ≤ c ∧ c ≤ maxLen) ∧ ∃ b off sv, A = some ⟨b, off, none⟩ ∧ (F b ∧ b < w.heap.size) ∧ w.cell? ⟨b, off, none⟩ = some (.int .i64 p.kind) ∧ w.cell? ⟨b, off + 1, none⟩ = some (.int .i64 p.n) ∧ w.cell? ⟨b, off + 2, none⟩ = some sv ∧ RdI F w sv p.signs := by
  obtain ⟨A1, c1, he, hc, hi⟩ := h
  injection he with h1 h2 h3
  subst h1 h3
  obtain ⟨b, off, sv, hA, hb, c0, c1, c2, hs⟩ := hi 0 (by simp)
  exact ⟨by simpa using h2, by simpa using hc, b, off, sv, hA, hb, by simpa using c0, by simpa using c1, by simpa using c2, hs⟩
theorem RdP.tail {F : Nat → Prop} {w : World} {A : Option Addr} {p : Pt} {q : List Pt} {n c : Nat} (h : RdP F w (.slice A n c) (p :: q)) :
    RdP F w (.slice (if c = 1 then A else A.map (·.add 3)) q.length (c - 1)) q := by
  obtain ⟨A1, c1, he, hc, hi⟩ := h
  injection he with h1 h2 h3
  subst h1 h3
  simp only [List.length_cons] at hc
  refine ⟨_, _, rfl, ⟨by omega, by omega⟩, fun k hk => ?_⟩
  obtain ⟨b, off, sv, rfl, hb, c0, c1, c2, hs⟩ := hi (k + 1) (by simp; omega)
  rw [if_neg (by omega)]
  simp only [List.getD_cons_succ] at c0 c1 c2 hs
  refine ⟨b, off + 3, sv, by simp [Addr.add_lit], hb, ?_, ?_, ?_, hs⟩
  · rw [show off + 3 + k * 3 = off + (k + 1) * 3 by omega]; exact c0
  · rw [show off + 3 + k * 3 + 1 = off + (k + 1) * 3 + 1 by omega]; exact c1
  · rw [show off + 3 + k * 3 + 2 = off + (k + 1) * 3 + 2 by omega]; exact c2
theorem skip_zero {p : Pt} {q : List Pt} (h : Pl.size p = 0) : Pl.skip (p :: q) = Pl.skip q := by rw [Pl.skip, List.dropWhile_cons, if_pos (by simpa using h)]; rfl
theorem skip_some {p : Pt} {q : List Pt} (h : Pl.size p ≠ 0) : Pl.skip (p :: q) = p :: q := by rw [Pl.skip, List.dropWhile_cons, if_neg (by simpa using h)]
theorem RdP.shape {F : Nat → Prop} {w : World} {v : Value} {ps : List Pt} (h : RdP F w v ps) : ∃ A c, v = .slice A ps.length c ∧ (ps.length ≤ c ∧ c ≤ maxLen) := by
  obtain ⟨A, c, hv, hc, _⟩ := h
  exact ⟨A, c, hv, hc⟩

/-- Three cells of a new block are written. -/
theorem frame_res {w wr : World} {g H : Nat} (hf : Frame (fun k => k = g) w wr) (hH : w.heap.size ≤ H) (x y z : Value) :
    Frame (fun k => k = g) w (((wr.setCell ⟨H, 0, none⟩ x).setCell ⟨H, 1, none⟩ y).setCell ⟨H, 2, none⟩ z) ∧ Frame (fun k => k = H) wr (((wr.setCell ⟨H, 0, none⟩ x).setCell ⟨H, 1, none⟩ y).setCell ⟨H, 2, none⟩ z) := by
  have h : Frame (fun k => k = H) wr (((wr.setCell ⟨H, 0, none⟩ x).setCell ⟨H, 1, none⟩ y).setCell ⟨H, 2, none⟩ z) :=
    ((Frame.setCell (fun k => k = H) wr ⟨H, 0, none⟩ x rfl).trans (Frame.setCell (fun k => k = H) _ ⟨H, 1, none⟩ y rfl) fun _ _ h => h).trans (Frame.setCell (fun k => k = H) _ ⟨H, 2, none⟩ z rfl) fun _ _ h => h
  exact ⟨hf.trans h fun k hk hh => by omega, h⟩
set_option maxHeartbeats 4000000 in
theorem next_i (F : Nat → Prop) (g : Nat) (ps : List Pt) (w : World) (hrest : RestAt F w g ps) (hg : ¬ F g) (hF : ∀ x, F x → x < w.heap.size) (hok : ∀ p ∈ ps, Pl.partOk p = true) :
    Calls Tryz.prog 42 #[.pointer (some ⟨g, 0, none⟩)] w (Nexted F g ps w) := by
  obtain ⟨v, h, hr⟩ := hrest
  have lg := h.lt
  have H0 : Hid (Cell1 (w.alloc (.cells #[.int .i64 0, .int .i64 0, .slice none 0 0] 47)) g 61 v) := h.frame (Frame.alloc (fun _ => False) w _) (fun hh => hh)
  have R0 := Lib.hid (hr.frame (Frame.alloc (fun _ => False) w (.cells #[.int .i64 0, .int .i64 0, .slice none 0 0] 47)) (fun _ _ hh => hh))
  have Z0 : Hid ((w.alloc (.cells #[.int .i64 0, .int .i64 0, .slice none 0 0] 47)).heap[w.heap.size]? = some (.cells #[.int .i64 0, .int .i64 0, .slice none 0 0] 47 (0, 0))) := heap_new_at _ _ rfl
  have F0 := Lib.hid (Frame.alloc (fun k => k = g) w (.cells #[.int .i64 0, .int .i64 0, .slice none 0 0] 47))
  have HOK := Lib.hid hok
  have HF := Lib.hid hF
  clear h hr hok hF
  go_enter Tryz.func42, Tryz.ntmps42
  go_wp2_with (fail)
  go_loopg [] ps.length (fun n wr => ∃ (q : List Pt) (v' : Value), n = q.length ∧ Hid (Pl.skip ps = Pl.skip q) ∧ Hid (∀ p ∈ q, Pl.partOk p = true) ∧ Hid (Cell1 wr g 61 v') ∧ Hid (RdP F wr v' q) ∧ Hid (Frame (fun k => k = g) w wr) ∧ Hid (wr.heap[w.heap.size]? = some (.cells #[.int .i64 0, .int .i64 0, .slice none 0 0] 47 (0, 0))))
  case atStart => exact ⟨ps, v, rfl, rfl, HOK.out, H0.out, R0.out, F0.out, Z0.out⟩
  case round =>
    obtain ⟨q, v', hn, hsk, hq, hc, hr, hf, hz⟩ := hrel
    have HN := Lib.hid hn
    clear hn
    obtain ⟨z0, z1, z2, zf, zl⟩ := blk3 hz.out
    have zf0 := zf 0
    have zf1 := zf 1
    have zf2 := zf 2
    have cg := hc.out.cell
    have fg := hc.out.free
    clear zf
    cases q with
    | nil =>
      obtain ⟨A1, c1, rfl, -⟩ := hr.out.shape
      simp only [List.length_nil] at cg
      go_wp2_with (fail)
      obtain ⟨f1, f2⟩ := frame_res hf.out (Nat.le_refl _) (.int .i64 0) (.int .i64 0) (.slice none 0 0)
      refine bodyPost_ret (v := .agg #[.int .i64 0, .int .i64 0, .slice none 0 0]) (by simp [results, Tryz.results42, go_sem, z0, z1, z2]) rfl ⟨_, rfl, ?_, ?_, f1⟩
      · rw [hsk.out]
        exact ⟨_, rfl, none, 0, rfl, ⟨Nat.le_refl _, Nat.zero_le _⟩, fun k hk => absurd hk (Nat.not_lt_zero _)⟩
      · rw [hsk.out]
        exact ⟨_, hc.out.frame f2 (by omega), hr.out.frame f2 (fun x hx hh => by have := HF.out x hx; omega)⟩
    | cons p q =>
      obtain ⟨A1, c1, rfl, -⟩ := hr.out.shape
      obtain ⟨-, hc1, b, off, sv, rfl, hb, e0, e1, e2, hs⟩ := hr.out.head
      simp only [List.length_cons] at cg
      have HP := Lib.hid (Pl.partOk_cases (hq.out p (by simp)))
      obtain ⟨-, p0, p1, p2, -, -, -⟩ := partOk_facts (hq.out p (by simp))
      obtain ⟨A2, c2, rfl, -⟩ := (show ∃ A c, sv = .slice A p.signs.length c ∧ True from by obtain ⟨A, c, e, _⟩ := hs; exact ⟨A, c, e, trivial⟩)
      have HS := Lib.hid hs
      have hlen : 0 < q.length + 1 := Nat.succ_pos _
      clear hs
      by_cases hz0 : Pl.size p = 0
      · have HSK := Lib.hid (skip_zero (q := q) hz0)
        have HZ0 := Lib.hid hz0
        have k0 : (Pl.size p == 0) = true := by simp [hz0]
        clear hz0
        have HT := Lib.hid hr.out.tail
        by_cases hcc : c1 = 1
        · have ht : Hid (RdP F wr (.slice (some ⟨b, off, none⟩) q.length 0) q) := by
            have := HT.out
            rw [if_pos hcc, show c1 - 1 = 0 by omega] at this
            exact this
          go_wp2_with (fail)
          refine (size_i _ p _ ⟨_, rfl, HS.out.slice⟩ p0 (by omega) (by omega)).mono ?_
          rintro e w2 ⟨rfl, b2⟩
          have fb : Frame (fun _ => False) wr w2 := Frame.ofBelow b2
          have cc := hc.out.frame fb (fun hh => hh)
          have cg2 := cc.cell
          have fg2 := cc.free
          have CC := Lib.hid cc
          have HT2 := Lib.hid (ht.out.frame fb (fun _ _ hh => hh))
          have HZ2 := Lib.hid (fb.heap hz.out (fun hh => hh))
          have FB := Lib.hid (hf.out.trans fb (fun _ _ hh => hh.elim))
          have BAD := Lib.hid b2.size
          clear cc fb b2 cg fg z0 z1 z2 zf0 zf1 zf2 e0 e1 e2
          go_wp2
          go_roundg q.length
          case rel =>
            refine ⟨q, _, rfl, hsk.out.trans HSK.out, fun x hx => hq.out x (by simp [hx]), CC.out.set _, HT2.out.frame (Frame.setCell (fun k => k = g) _ _ _ rfl) (fun x hx hh => hg (by rw [← hh]; exact hx)), FB.out.trans (Frame.setCell (fun k => k = g) _ _ _ rfl) (fun _ _ hh => hh), (Frame.setCell (fun k => k = g) _ _ _ rfl).heap HZ2.out (by omega)⟩
          case measure => rw [HN.out]; simp
        · have ht : Hid (RdP F wr (.slice (some ⟨b, off + 3, none⟩) q.length (c1 - 1)) q) := by
            have := HT.out
            rw [if_neg hcc] at this
            show RdP _ _ _ _
            simpa [Addr.add_lit] using this
          go_wp2_with (fail)
          refine (size_i _ p _ ⟨_, rfl, HS.out.slice⟩ p0 (by omega) (by omega)).mono ?_
          rintro e w2 ⟨rfl, b2⟩
          have fb : Frame (fun _ => False) wr w2 := Frame.ofBelow b2
          have cc := hc.out.frame fb (fun hh => hh)
          have cg2 := cc.cell
          have fg2 := cc.free
          have CC := Lib.hid cc
          have HT2 := Lib.hid (ht.out.frame fb (fun _ _ hh => hh))
          have HZ2 := Lib.hid (fb.heap hz.out (fun hh => hh))
          have FB := Lib.hid (hf.out.trans fb (fun _ _ hh => hh.elim))
          have BAD := Lib.hid b2.size
          clear cc fb b2 cg fg z0 z1 z2 zf0 zf1 zf2 e0 e1 e2
          go_wp2
          go_roundg q.length
          case rel =>
            refine ⟨q, _, rfl, hsk.out.trans HSK.out, fun x hx => hq.out x (by simp [hx]), CC.out.set _, HT2.out.frame (Frame.setCell (fun k => k = g) _ _ _ rfl) (fun x hx hh => hg (by rw [← hh]; exact hx)), FB.out.trans (Frame.setCell (fun k => k = g) _ _ _ rfl) (fun _ _ hh => hh), (Frame.setCell (fun k => k = g) _ _ _ rfl).heap HZ2.out (by omega)⟩
          case measure => rw [HN.out]; simp
      · have HSK := Lib.hid (skip_some (q := q) hz0)
        have k0 : (Pl.size p == 0) = false := by simp [hz0]
        clear hz0
        go_wp2_with (fail)
        refine (size_i _ p _ ⟨_, rfl, HS.out.slice⟩ p0 (by omega) (by omega)).mono ?_
        rintro e w2 ⟨rfl, b2⟩
        have fb : Frame (fun _ => False) wr w2 := Frame.ofBelow b2
        have cc := hc.out.frame fb (fun hh => hh)
        have cg2 := cc.cell
        have bz := fb.heap hz.out (fun hh => hh)
        obtain ⟨z0', z1', z2', zf', zl'⟩ := blk3 bz
        have zf0' := zf' 0
        have zf1' := zf' 1
        have zf2' := zf' 2
        have e0' := (fb.cell (o := off) hb.2 (fun hh => hh)).trans e0
        have e1' := (fb.cell (o := off + 1) hb.2 (fun hh => hh)).trans e1
        have e2' := (fb.cell (o := off + 2) hb.2 (fun hh => hh)).trans e2
        have CC := Lib.hid cc
        have HR2 := Lib.hid (hr.out.frame fb (fun _ _ hh => hh))
        have HS2 := Lib.hid (HS.out.frame fb (fun _ _ hh => hh))
        have FB := Lib.hid (hf.out.trans fb (fun _ _ hh => hh.elim))
        clear cc fb b2 cg fg z0 z1 z2 zf0 zf1 zf2 e0 e1 e2 bz zf'
        go_wp2
        obtain ⟨f1, f2⟩ := frame_res FB.out (Nat.le_refl _) (.int .i64 p.kind) (.int .i64 p.n) (.slice A2 p.signs.length c2)
        refine bodyPost_ret (v := .agg #[.int .i64 p.kind, .int .i64 p.n, .slice A2 p.signs.length c2]) (by simp [results, Tryz.results42, go_sem, z0', z1', z2']) rfl ⟨_, rfl, ?_, ?_, f1⟩
        · rw [hsk.out, HSK.out]
          exact ⟨_, rfl, HS2.out.frame f2 (fun x hx hh => by have := HF.out x hx; omega)⟩
        · rw [hsk.out, HSK.out]
          exact ⟨_, CC.out.frame f2 (by omega), HR2.out.frame f2 (fun x hx hh => by have := HF.out x hx; omega)⟩
end Go.Proofs.YtookcfpiegbafaaGreatDoor
