/- The reference's walk through the parts of an operation: contracts. Condition: right parts. -/
import Derived.Test.YtlpjbbmjchfolaaStep
import Derived.Test.YtlpjbbmjchfolaaRest
import Derived.Test.YtlpjbbmjchfolaaNormT
import Derived.Deep.LoopGhost
import Derived.Deep.RegionHeld3
import Derived.Deep.DeepCutAuto
import Derived.IntWalk
namespace Go.Proofs.Ytlpjbbmjchfolaa
open Go.RowKit
set_option maxRecDepth 100000

namespace Pl
/-- What is left of the parts at a place, so many units of the part there being done. -/
def rem (ps : List Pt) (k d : Nat) : List Pt :=
  match ps.drop k with
  | [] => []
  | p :: l => lf p d :: l
theorem rem_lt {ps : List Pt} {k : Nat} (h : k < ps.length) (d : Nat) : rem ps k d = lf (ps.getD k ⟨0, 0, []⟩) d :: ps.drop (k + 1) := by
  rw [rem, List.drop_eq_getElem_cons h]
  simp [List.getD, h]
theorem rem_end {ps : List Pt} {k : Nat} (h : ps.length ≤ k) (d : Nat) : rem ps k d = [] := by
  rw [rem, List.drop_eq_nil_of_le h]
theorem lf_zero (p : Pt) : lf p 0 = p := by unfold lf; split <;> simp
theorem lf_lf (p : Pt) (a b : Nat) : lf (lf p a) b = lf p (a + b) := by
  by_cases h : p.kind = 2
  · simp [lf, h]
  · simp [lf, h]; omega
theorem rem_zero (ps : List Pt) (k : Nat) : rem ps k 0 = ps.drop k := by
  rw [rem]
  split
  · rename_i h; rw [h]
  · rename_i p l h; rw [h, lf_zero]
theorem size_lf {p : Pt} {n : Nat} (h : partOk p = true) (hn : (n : Int) ≤ size p) : size (lf p n) = size p - n := by
  unfold size at hn ⊢
  rcases partOk_cases h with ⟨h1, h2, h3, h4⟩ | ⟨h1, h2, h3, h4⟩ | ⟨h1, h2, h3, h4⟩
  · simp [lf, h1, h4]
  · simp [lf, h1, h4]
  · simp [lf, h1, h2]; omega
end Pl

/-- The reference's cursor lies at block g: it walks through ps, which lie below B; q is what is left. -/
def CurS (B : Nat) (w : World) (g : Nat) (ps q : List Pt) : Prop :=
  ∃ A c, ∃ k d : Nat, w.heap[g]? = some (.cells #[.slice A ps.length c, .int .i64 k, .int .i64 d] 91 (0, 0)) ∧ (ps.length ≤ c ∧ c ≤ maxLen) ∧ PartsAt B w A ps ∧ B ≤ g ∧ k ≤ ps.length ∧ q = Pl.rem ps k d ∧
    (∀ p ∈ ps, Pl.partOk p = true) ∧ (k < ps.length → (d : Int) ≤ Pl.size (ps.getD k ⟨0, 0, []⟩)) ∧ d ≤ 200
theorem PartsAt.frame {B : Nat} {S : Nat → Prop} {w w' : World} {A : Option Addr} {ps : List Pt} (h : PartsAt B w A ps) (hf : Frame S w w') (hB : B ≤ w.heap.size) (hs : ∀ g, g < B → ¬ S g) : PartsAt B w' A ps :=
  h.below ⟨hf.os, hf.tape, hf.output, hf.size, fun k hk => hf.block k (by omega) (hs k hk)⟩
theorem CurS.lt {B : Nat} {w : World} {g : Nat} {ps q : List Pt} (h : CurS B w g ps q) : g < w.heap.size ∧ B ≤ g := by
  obtain ⟨A, c, k, d, hb, _, _, hB, _⟩ := h
  exact ⟨lt_of_block hb, hB⟩
theorem CurS.frame {B : Nat} {S : Nat → Prop} {w w' : World} {g : Nat} {ps q : List Pt} (h : CurS B w g ps q) (hf : Frame S w w') (hg : ¬ S g) (hs : ∀ k, k < B → ¬ S k) : CurS B w' g ps q := by
  obtain ⟨l1, l2⟩ := h.lt
  obtain ⟨A, c, k, d, hb, hc, hp, hB, hk, hq⟩ := h
  exact ⟨A, c, k, d, hf.heap hb hg, hc, hp.frame hf (by omega) hs, hB, hk, hq⟩
theorem CurS.okq {B : Nat} {w : World} {g : Nat} {ps q : List Pt} (h : CurS B w g ps q) : Pl.AllOk q := by
  obtain ⟨A, c, k, d, hb, hc, hp, hB, hk, rfl, hok, hd, _⟩ := h
  intro x hx
  rcases Nat.lt_or_ge k ps.length with hlt | hge
  · rw [Pl.rem_lt hlt] at hx
    rcases List.mem_cons.1 hx with rfl | hx
    · exact Pl.lf_ok (hok _ (by simp [List.getD, hlt])) (hd hlt)
    · exact hok x (List.drop_subset _ _ hx)
  · rw [Pl.rem_end hge] at hx
    cases hx

theorem size4_s (k n : Int) (A : Option Addr) (c : Nat) (p : Pt) (w : World) (hk : p.kind = k) (hn : p.n = n) (hok : Pl.partOk p = true) :
    Calls Try.prog 95 #[.agg #[.int .i64 k, .int .i64 n, .slice A p.signs.length c]] w fun e w' => e = .returned (.int .i64 (Pl.size p)) ∧ Below w.heap.size w w' := by
  subst hk hn
  by_cases hk : p.kind = 2
  · have k2 : (p.kind == 2) = true := by simp [hk]
    rw [Pl.size_2 hok hk]
    go_enter Try.func95, Try.ntmps95
    go_wp2
    go_ret
    exact ⟨rfl, (Below.refl _ _).alloc (Nat.le_refl _) _⟩
  · have k2 : (p.kind == 2) = false := by simp [hk]
    rw [Pl.size_13 hok hk]
    go_enter Try.func95, Try.ntmps95
    go_wp2
    go_ret
    exact ⟨rfl, (Below.refl _ _).alloc (Nat.le_refl _) _⟩
theorem min4_s (a b : Int) (w : World) : Calls Try.prog 75 #[.int .i64 a, .int .i64 b] w fun e w' => e = .returned (.int .i64 (min a b)) ∧ w' = w := by
  by_cases h : a < b
  · have e : Hid (min a b = a) := Int.min_eq_left (by omega)
    go_enter Try.func75, Try.ntmps75
    go_wp2
    go_ret
    exact ⟨by rw [e.out]; rfl, rfl⟩
  · have e : Hid (min a b = b) := Int.min_eq_right (by omega)
    go_enter Try.func75, Try.ntmps75
    go_wp2
    go_ret
    exact ⟨by rw [e.out]; rfl, rfl⟩
theorem cut_slice4 {B : Nat} {w : World} {A : Option Addr} {ts : List Int} {c lo m : Nat} (h : IntsAt B w A ts) (hc : ts.length ≤ c ∧ c ≤ maxLen) (hm : lo + m ≤ ts.length) :
    SliceInts B w (.slice (if c = lo then A else A.map (·.add lo)) m (c - lo)) ((ts.drop lo).take m) := by
  have hl : ((ts.drop lo).take m).length = m := by simp; omega
  refine ⟨_, _, by rw [hl], ⟨by rw [hl]; omega, by omega⟩, fun k hk => ?_⟩
  rw [hl] at hk
  obtain ⟨b, off, rfl, hb, hcell⟩ := h (lo + k) (by omega)
  rw [if_neg (by omega)]
  refine ⟨b, off + lo, by simp [Addr.add_lit], hb, ?_⟩
  rw [Nat.add_assoc, hcell]
  simp [List.getD, show k < m by omega]
theorem frame_drewN (S : Nat → Prop) (w : World) (n : Nat) : Frame S w (w.drewN n) := ⟨rfl, rfl, rfl, Nat.le_refl _, fun _ _ _ => rfl⟩
theorem frame_dd {S : Nat → Prop} {w w6 : World} (h : Frame S w w6) (a b : Nat) : Frame S w ((w6.drewN a).drewN b) := (h.trans (frame_drewN S _ _) (fun _ _ hh => hh)).trans (frame_drewN S _ _) (fun _ _ hh => hh)
theorem curS_cells {w : World} {g k : Nat} {A : Option Addr} {n c : Nat} {d : Int} (h : w.heap[g]? = some (.cells #[.slice A n c, .int .i64 k, .int .i64 d] 91 (0, 0))) :
    w.cell? ⟨g, 0, none⟩ = some (.slice A n c) ∧ w.cell? ⟨g, 1, none⟩ = some (.int .i64 k) ∧ w.cell? ⟨g, 2, none⟩ = some (.int .i64 d) ∧ (∀ j, w.frozen? ⟨g, j, none⟩ = false) ∧ g < w.heap.size := blk3 h
theorem curS_move {w : World} {g k d : Nat} {A : Option Addr} {n c : Nat} (h : w.heap[g]? = some (.cells #[.slice A n c, .int .i64 k, .int .i64 d] 91 (0, 0))) (k' d' : Nat) :
    ((w.setCell ⟨g, 1, none⟩ (.int .i64 k')).setCell ⟨g, 2, none⟩ (.int .i64 d')).heap[g]? = some (.cells #[.slice A n c, .int .i64 k', .int .i64 d'] 91 (0, 0)) ∧
    Frame (fun k => k = g) w ((w.setCell ⟨g, 1, none⟩ (.int .i64 k')).setCell ⟨g, 2, none⟩ (.int .i64 d')) := by
  have e1 := heap_setCell_same w g 1 _ _ (.int .i64 k') h
  have e2 := heap_setCell_same _ g 2 _ _ (.int .i64 d') e1
  exact ⟨by rw [e2]; rfl, (Frame.setCell (fun k => k = g) _ _ _ rfl).trans (Frame.setCell (fun k => k = g) _ _ _ rfl) (fun _ _ hh => hh)⟩
abbrev Kx (w5 : World) (g b off : Nat) (x0 x1 x2 y0 y1 y2 : Value) (w' : World) : Prop :=
  w'.cell? { block := g, off := 0 } = some x0 ∧ w'.cell? { block := g, off := 1 } = some x1 ∧ w'.cell? { block := g, off := 2 } = some x2 ∧
  w'.cell? { block := b, off := off } = some y0 ∧ w'.cell? { block := b, off := off + 1 } = some y1 ∧ w'.cell? { block := b, off := off + 2 } = some y2 ∧ Below w5.heap.size w5 w'
theorem Kx_step {w5 wr w6 : World} {g b off : Nat} {x0 x1 x2 y0 y1 y2 : Value} (hb : Below wr.heap.size wr w6) (h : Kx w5 g b off x0 x1 x2 y0 y1 y2 wr) : Kx w5 g b off x0 x1 x2 y0 y1 y2 w6 := by
  obtain ⟨h0, h1, h2, k0, k1, k2, B⟩ := h
  have K : ∀ {p : Addr} {v : Value}, wr.cell? p = some v → w6.cell? p = some v := fun {p v} hh => (hb.cell (World.block_lt_of_cell? _ _ hh)).trans hh
  exact ⟨K h0, K h1, K h2, K k0, K k1, K k2, B.trans (hb.mono B.size)⟩
set_option maxHeartbeats 4000000 in
theorem kind_s (B : Nat) (w : World) (g : Nat) (ps q : List Pt) (h : CurS B w g ps q) :
    Calls Try.prog 70 #[.pointer (some ⟨g, 0, none⟩)] w fun e w' => e = .returned (.int .i64 (Pl.hd (Pl.skip q)).kind) ∧ CurS B w' g ps (Pl.skip q) ∧ Frame (fun k => k = g) w w' := by
  have H := Lib.hid h
  clear h
  go_enter Try.func70, Try.ntmps70
  go_wp2_with (fail)
  go_loopg [] ps.length (fun n wr => ∃ (A : Option Addr) (c k d : Nat), ps.length ≤ n + k ∧ k ≤ ps.length ∧ Hid (wr.heap[g]? = some (.cells #[.slice A ps.length c, .int .i64 k, .int .i64 d] 91 (0, 0))) ∧ (ps.length ≤ c ∧ c ≤ maxLen) ∧ Hid (PartsAt B wr A ps) ∧ B ≤ g ∧ Hid (Pl.skip q = Pl.skip (Pl.rem ps k d)) ∧ Hid (∀ p ∈ ps, Pl.partOk p = true) ∧ Hid (k < ps.length → (d : Int) ≤ Pl.size (ps.getD k ⟨0, 0, []⟩)) ∧ d ≤ 200 ∧ Hid (Frame (fun k => k = g) w wr))
  case atStart =>
    obtain ⟨A, c, k, d, hb, hc, hp, hB, hk, hq, hok, hd, hd2⟩ := H.out
    exact ⟨A, c, k, d, by omega, hk, hb, hc, hp, hB, by rw [hq]; rfl, hok, hd, hd2, Frame.refl _ _⟩
  case round =>
    obtain ⟨A, c, k, d, hn, hk, hb, hc, hp, hB, hq, hok, hd, hd2, hf⟩ := hrel
    obtain ⟨x0, x1, x2, xf, xl⟩ := curS_cells hb.out
    by_cases hlt : k < ps.length
    · obtain ⟨b, off, sv, rfl, hbB, e0, e1, e2, hs⟩ := hp.out k hlt
      have HRL := Lib.hid (Pl.rem_lt hlt d)
      have HD := Lib.hid (hd.out hlt)
      have HPK := Lib.hid (hok.out (ps.getD k ⟨0, 0, []⟩) (by simp [List.getD, hlt]))
      generalize ps.getD k ⟨0, 0, []⟩ = p at e0 e1 hs HRL HD HPK
      obtain ⟨A2, c2, rfl, -, -⟩ := hs
      by_cases hz : (d : Int) = Pl.size p
      · have k0 : ((d : Int) == Pl.size p) = true := by simp [hz]
        have HZ := Lib.hid hz
        clear hz
        go_wp2_with (fail)
        go_region_held3 (fun w' => Kx wr g b (off + k * 3) (.slice (some ⟨b, off, none⟩) ps.length c) (.int .i64 k) (.int .i64 d) (.int .i64 p.kind) (.int .i64 p.n) (.slice A2 p.signs.length c2) w')
          (first
            | assumption
            | exact ⟨x0, x1, x2, e0, e1, e2, (Below.refl _ _).drew⟩
            | exact Kx_step b6 (by assumption))
          (first
            | (go_at_call 95; refine (size4_s _ _ _ _ p _ rfl rfl HPK.out).mono ?_; rintro e w6 ⟨rfl, b6⟩))
        rename_i hz
        have hb8 := hz.2.2.2.2.2.2
        have fb : Frame (fun _ => False) wr w6 := Frame.ofBelow hb8
        have hb6 := fb.heap hb.out (fun hh => hh)
        have HP6 := Lib.hid (hp.out.frame fb (by omega) (fun _ _ hh => hh))
        have HF6 := Lib.hid (hf.out.trans fb (fun _ _ hh => hh.elim))
        obtain ⟨y0, y1, y2, yf, yl⟩ := curS_cells hb6
        have HB6 := Lib.hid hb6
        have yf1 := yf 1
        have yf2 := yf 2
        clear hz hb8 fb hb6 b6 x0 x1 x2 xf xl e0 e1 e2 yf
        go_wp2_with (fail)
        have s1 : Hid (wrap64 ((k : Int) + 1) = ((k + 1 : Nat) : Int)) := by show _ = _; rw [IntWalk.wrap64_in _ (by unfold maxLen at hc; omega)]; simp
        go_roundg (gk - 1)
        case rel =>
          rw [s1.out]
          obtain ⟨m1, m2⟩ := curS_move HB6.out (k + 1) 0
          refine ⟨_, _, k + 1, 0, by omega, by omega, m1, hc, HP6.out.frame m2 (by omega) (fun x hx hh => by omega), hB, ?_, hok.out, fun hl => ?_, by omega, HF6.out.trans m2 (fun _ _ hh => hh)⟩
          · show _ = _
            rw [hq.out, HRL.out, skip_zero (by rw [Pl.size_lf HPK.out HD.out, HZ.out]; omega), Pl.rem_zero]
          · show _ ≤ _
            have := (Pl.size_nat (hok.out (ps.getD (k + 1) ⟨0, 0, []⟩) (by simp [List.getD, hl]))).1
            omega
        case measure => omega
      · have k0 : ((d : Int) == Pl.size p) = false := by simp [hz]
        have HZ : Hid (Pl.size (Pl.lf p d) ≠ 0) := by show _ ≠ _; rw [Pl.size_lf HPK.out HD.out]; omega
        clear hz
        go_wp2_with (fail)
        go_region_held3 (fun w' => Kx wr g b (off + k * 3) (.slice (some ⟨b, off, none⟩) ps.length c) (.int .i64 k) (.int .i64 d) (.int .i64 p.kind) (.int .i64 p.n) (.slice A2 p.signs.length c2) w')
          (first
            | assumption
            | exact ⟨x0, x1, x2, e0, e1, e2, (Below.refl _ _).drew⟩
            | exact Kx_step b6 (by assumption))
          (first
            | (go_at_call 95; refine (size4_s _ _ _ _ p _ rfl rfl HPK.out).mono ?_; rintro e w6 ⟨rfl, b6⟩))
        rename_i hz
        obtain ⟨-, -, -, z0, z1, z2, hb8⟩ := hz
        have fb : Frame (fun _ => False) wr w6 := Frame.ofBelow hb8
        have hb6 := fb.heap hb.out (fun hh => hh)
        have HP6 := Lib.hid (hp.out.frame fb (by omega) (fun _ _ hh => hh))
        have HF6 := Lib.hid (hf.out.trans fb (fun _ _ hh => hh.elim))
        obtain ⟨y0, y1, y2, yf, yl⟩ := curS_cells hb6
        have HB6 := Lib.hid hb6
        clear hb8 fb hb6 b6 x0 x1 x2 xf xl e0 e1 e2 yf
        have k3 : ((k : Int) == (ps.length : Int)) = false := by simp; omega
        go_wp2_with (fail)
        go_quiet (fail)
        go_wp2_with (fail)
        go_quiet (fail)
        go_wp2_with (fail)
        go_ret
        have HL : Pl.skip q = Pl.lf p d :: ps.drop (k + 1) := by rw [hq.out, HRL.out, skip_some HZ.out]
        refine ⟨by rw [HL]; simp [Pl.hd, Pl.lf_kind], ?_, frame_dd HF6.out _ _⟩
        rw [HL, ← HRL.out]
        exact ⟨_, _, k, d, (frame_dd (Frame.refl (fun _ => False) _) _ _).heap HB6.out (fun hh => hh), hc, HP6.out.frame (frame_dd (Frame.refl (fun _ => False) _) _ _) (by omega) (fun _ _ hh => hh), hB, hk, rfl, hok.out, hd.out, hd2⟩
    · have hl : k = ps.length := by omega
      subst hl
      clear hlt hk
      go_wp2_with (fail)
      go_quiet (fail)
      go_wp2_with (fail)
      go_quiet (fail)
      go_wp2_with (fail)
      go_ret
      have HR := Pl.rem_end (Nat.le_refl ps.length) d
      have HL : Pl.skip q = [] := by rw [hq.out, HR]; rfl
      refine ⟨by rw [HL]; rfl, ?_, frame_dd hf.out _ _⟩
      rw [HL, ← HR]
      exact ⟨_, _, _, d, (frame_dd (Frame.refl (fun _ => False) _) _ _).heap hb.out (fun hh => hh), hc, hp.out.frame (frame_dd (Frame.refl (fun _ => False) _) _ _) (by omega) (fun _ _ hh => hh), hB, Nat.le_refl _, rfl, hok.out, hd.out, hd2⟩

/-- The cursor stands at a part that isn't done. -/
theorem CurS.open {B : Nat} {w : World} {g : Nat} {ps r : List Pt} {p : Pt} (h : CurS B w g ps (p :: r)) :
    ∃ (b off c k d : Nat) (A2 : Option Addr) (c2 : Nat) (p0 : Pt), w.heap[g]? = some (.cells #[.slice (some ⟨b, off, none⟩) ps.length c, .int .i64 k, .int .i64 d] 91 (0, 0)) ∧ k < ps.length ∧ (ps.length ≤ c ∧ c ≤ maxLen) ∧ b < B ∧ B ≤ g ∧
      w.cell? ⟨b, off + k * 3, none⟩ = some (.int .i64 p0.kind) ∧ w.cell? ⟨b, off + k * 3 + 1, none⟩ = some (.int .i64 p0.n) ∧ w.cell? ⟨b, off + k * 3 + 2, none⟩ = some (.slice A2 p0.signs.length c2) ∧
      p = Pl.lf p0 d ∧ Pl.partOk p0 = true ∧ (d : Int) ≤ Pl.size p0 ∧ d ≤ 200 ∧ (p0.signs.length ≤ c2 ∧ c2 ≤ maxLen) ∧ IntsAt B w A2 p0.signs ∧
      (∀ (w' : World) (n : Nat), (n : Int) ≤ Pl.size p → w'.heap[g]? = some (.cells #[.slice (some ⟨b, off, none⟩) ps.length c, .int .i64 k, .int .i64 ((d + n : Nat) : Int)] 91 (0, 0)) → Frame (fun k => k = g) w w' → CurS B w' g ps (Pl.lf p n :: r)) := by
  obtain ⟨hlt', hBg⟩ := h.lt
  obtain ⟨A, c, k, d, hb, hc, hp, hB, hk, hq, hok, hd, hd2⟩ := h
  rcases Nat.lt_or_ge k ps.length with hlt | hge
  · obtain ⟨b, off, sv, rfl, hbB, e0, e1, e2, hs⟩ := hp k hlt
    obtain ⟨A2, c2, rfl, hc2, hi⟩ := hs
    have hq' := hq
    rw [Pl.rem_lt hlt] at hq'
    injection hq' with hp1 hr1
    have hok0 := hok _ (show ps.getD k ⟨0, 0, []⟩ ∈ ps by simp [List.getD, hlt])
    refine ⟨b, off, c, k, d, A2, c2, _, hb, hlt, hc, hbB, hB, e0, e1, e2, hp1, hok0, hd hlt, hd2, hc2, hi, fun w' n hn hb' hf => ?_⟩
    rw [hp1, Pl.size_lf hok0 (hd hlt)] at hn
    refine ⟨_, c, k, d + n, hb', hc, hp.frame hf (by omega) (fun x hx hh => by omega), hB, hk, ?_, hok, fun _ => by omega, ?_⟩
    · rw [Pl.rem_lt hlt, hp1, hr1, Pl.lf_lf]
    · have := (Pl.size_nat hok0).2; omega
  · rw [Pl.rem_end hge] at hq
    cases hq
theorem curS_done {w : World} {g k : Nat} {d : Int} {A : Option Addr} {n c : Nat} (h : w.heap[g]? = some (.cells #[.slice A n c, .int .i64 k, .int .i64 d] 91 (0, 0))) (d' : Int) :
    (w.setCell ⟨g, 2, none⟩ (.int .i64 d')).heap[g]? = some (.cells #[.slice A n c, .int .i64 k, .int .i64 d'] 91 (0, 0)) ∧ Frame (fun k => k = g) w (w.setCell ⟨g, 2, none⟩ (.int .i64 d')) :=
  ⟨by rw [heap_setCell_same w g 2 _ _ (.int .i64 d') h]; rfl, Frame.setCell (fun k => k = g) _ _ _ rfl⟩
set_option maxHeartbeats 4000000 in
theorem left_s (B : Nat) (w : World) (g : Nat) (ps r : List Pt) (p : Pt) (h : CurS B w g ps (p :: r)) :
    Calls Try.prog 71 #[.pointer (some ⟨g, 0, none⟩)] w fun e w' => e = .returned (.int .i64 (Pl.size p)) ∧ Below w.heap.size w w' := by
  obtain ⟨b, off, c, k, d, A2, c2, p0, hb, hlt, hc, hbB, hB, e0, e1, e2, hp, hok, hd, hd2, hc2, hi, -⟩ := h.open
  have HS : Hid (Pl.size p = Pl.size p0 - d) := by show _ = _; rw [hp, Pl.size_lf hok hd]
  obtain ⟨x0, x1, x2, xf, xl⟩ := curS_cells hb
  have HPK := Lib.hid hok
  have hn := (Pl.size_nat hok).2
  clear hb hp hok hi h
  go_enter Try.func71, Try.ntmps71
  go_wp2_with (fail)
  go_region_held3 (fun w' => Kx w g b (off + k * 3) (.slice (some ⟨b, off, none⟩) ps.length c) (.int .i64 k) (.int .i64 d) (.int .i64 p0.kind) (.int .i64 p0.n) (.slice A2 p0.signs.length c2) w')
    (first
      | assumption
      | exact ⟨x0, x1, x2, e0, e1, e2, (Below.refl _ _).drew⟩
      | exact Kx_step b6 (by assumption))
    (first
      | (go_at_call 95; refine (size4_s _ _ _ _ p0 _ rfl rfl HPK.out).mono ?_; rintro e w6 ⟨rfl, b6⟩))
  rename_i hz
  have hb8 := hz.2.2.2.2.2.2
  clear hz
  go_wp2_with (fail)
  go_ret
  exact ⟨by rw [HS.out]; exact congrArg (fun x => Ending.returned (.int .i64 x)) (IntWalk.i64_in _ (by omega)), hb8⟩
set_option maxHeartbeats 4000000 in
theorem take4_s (B : Nat) (w : World) (g : Nat) (ps r : List Pt) (p : Pt) (n : Nat) (h : CurS B w g ps (p :: r)) (hk : p.kind = 2) (hn : (n : Int) ≤ Pl.size p) :
    Calls Try.prog 74 #[.pointer (some ⟨g, 0, none⟩), .int .i64 n] w fun e w' => ∃ v, e = .returned v ∧ SliceInts B w' v (p.signs.take n) ∧ CurS B w' g ps (Pl.lf p n :: r) ∧ Frame (fun k => k = g) w w' := by
  obtain ⟨b, off, c, k, d, A2, c2, p0, hb, hlt, hc, hbB, hB, e0, e1, e2, hp, hok, hd, hd2, hc2, hi, hmv⟩ := h.open
  obtain ⟨x0, x1, x2, xf, xl⟩ := curS_cells hb
  have xf2 := xf 2
  have HPS : Hid (p.signs = p0.signs.drop d) := by
    show _ = _
    rw [hp, Pl.lf_kind] at hk
    rw [hp]; simp [Pl.lf, hk]
  have hm : d + n ≤ p0.signs.length := by
    have h1 := hn
    rw [hp, Pl.size_lf hok hd] at h1
    rw [hp, Pl.lf_kind] at hk
    rw [Pl.size_2 hok hk] at h1
    omega
  obtain ⟨e, he⟩ : ∃ e : Nat, d + n = e := ⟨_, rfl⟩
  have HM := Lib.hid hmv
  have HN := Lib.hid hn
  have HE := Lib.hid he
  have HB := Lib.hid hb
  have hcut := Lib.hid (cut_slice4 (m := n) hi hc2 hm)
  have y0 : (0 : Int) ≤ (d : Int) ∧ (d : Int) ≤ (e : Int) ∧ (e : Int) ≤ (c2 : Int) := by omega
  obtain ⟨y1, y2, y3⟩ := y0
  have hn2 : e ≤ 200 := by have := partOk_facts hok; have h9 := (Pl.size_nat hok).2; rw [hp, Pl.lf_kind] at hk; rw [Pl.size_2 hok hk] at h9; omega
  have s2 : Hid (wrap64 ((d : Int) + n) = ((d + n : Nat) : Int)) := by show _ = _; rw [IntWalk.wrap64_in _ (by omega)]; simp
  have s1 : IntKind.i64.wrap ((d : Int) + n) = (e : Int) := by rw [IntWalk.i64_in _ (by omega)]; omega
  clear xf hmv he hb hi hok hd hp hk hn hn2 h hm
  go_enter Try.func74, Try.ntmps74
  by_cases hcd : c2 = d
  · have SL : Hid (SliceInts B w (.slice A2 (e - d) 0) (p.signs.take n)) := by
      show SliceInts _ _ _ _
      have := hcut.out
      rw [HPS.out, show e - d = n by have := HE.out; omega]
      rw [if_pos hcd] at this
      rw [hcd, Nat.sub_self] at this
      exact this
    clear hcut
    go_wp2_with (fail)
    go_quiet (fail)
    clear s1
    go_wp2_with (fail)
    rw [s2.out]
    go_ret
    obtain ⟨m1, m2⟩ := curS_done ((frame_drewN (fun _ => False) w nq).heap HB.out (fun hh => hh)) ((d + n : Nat) : Int)
    have m3 := (frame_drewN (fun k => k = g) w nq).trans m2 (fun _ _ hh => hh)
    exact ⟨_, rfl, SL.out.below (m3.below (fun x hx => by omega) (by omega)), HM.out _ n HN.out m1 m3, m3⟩
  · have SL : Hid (SliceInts B w (.slice (A2.map (·.add d)) (e - d) (c2 - d)) (p.signs.take n)) := by
      show SliceInts _ _ _ _
      have := hcut.out
      rw [HPS.out, show e - d = n by have := HE.out; omega]
      rw [if_neg hcd] at this
      exact this
    clear hcut
    go_wp2_with (fail)
    go_quiet (fail)
    clear s1
    go_wp2_with (fail)
    rw [s2.out]
    go_ret
    obtain ⟨m1, m2⟩ := curS_done ((frame_drewN (fun _ => False) w nq).heap HB.out (fun hh => hh)) ((d + n : Nat) : Int)
    have m3 := (frame_drewN (fun k => k = g) w nq).trans m2 (fun _ _ hh => hh)
    exact ⟨_, rfl, SL.out.below (m3.below (fun x hx => by omega) (by omega)), HM.out _ n HN.out m1 m3, m3⟩
end Go.Proofs.Ytlpjbbmjchfolaa
