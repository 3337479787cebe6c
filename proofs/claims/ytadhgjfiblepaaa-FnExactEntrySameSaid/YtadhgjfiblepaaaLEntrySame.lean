/- The law FnExactEntrySame returns true for every argument and leaves memory as it was. Condition: none. -/
import Derived.Test.YtadhgjfiblepaaaRowEntry
import Derived.Deep.RegionHeld3
namespace Go.Proofs.Ytadhgjfiblepaaa.fnExactEntrySame
open Go.ChangeShapes Go.WideShapes Go.ChangeAt Go.RowKit
set_option linter.unusedVariables false

/-- Three cells of a block. -/
abbrev Box (g : Nat) (k n sv : Value) (w : World) : Prop := w.cell? { block := g, off := 0 } = some k ∧ w.cell? { block := g, off := 1 } = some n ∧ w.cell? { block := g, off := 2 } = some sv
theorem cell_later {B : Nat} {w w' : World} {a : Addr} {v : Value} (b : Below B w w') (h : w.cell? a = some v) (hb : a.block < B) : w'.cell? a = some v :=
  (b.cell hb).trans h
theorem box_later {w w' : World} {g : Nat} {k n sv : Value} (h : Box g k n sv w) (b : Below w.heap.size w w') : Box g k n sv w' :=
  ⟨cell_later b h.1 (World.block_lt_of_cell? _ _ h.1), cell_later b h.2.1 (World.block_lt_of_cell? _ _ h.2.1), cell_later b h.2.2 (World.block_lt_of_cell? _ _ h.2.2)⟩
theorem box_new {w wk : World} {k n sv : Value} {t : Nat} (b : Below (w.heap.size + 1) (w.alloc (.cells #[k, n, sv] t)) wk) : Box w.heap.size k n sv wk := by
  obtain ⟨x0, x1, x2, -, -⟩ := blk3 (w := wk) (g := w.heap.size) (t := t) ((b.block _ (by omega)).trans (heap_new_at _ _ rfl))
  exact ⟨x0, x1, x2⟩
theorem box_new0 {w : World} {k n sv : Value} {t : Nat} : Box w.heap.size k n sv (w.alloc (.cells #[k, n, sv] t)) := box_new (Below.refl _ _)
abbrev Sx (w5 : World) (g g' : Nat) (k n sv k' n' sv' : Value) (w' : World) : Prop :=
  w'.cell? { block := g, off := 0 } = some k ∧ w'.cell? { block := g, off := 1 } = some n ∧ w'.cell? { block := g, off := 2 } = some sv ∧
  w'.cell? { block := g', off := 0 } = some k' ∧ w'.cell? { block := g', off := 1 } = some n' ∧ w'.cell? { block := g', off := 2 } = some sv' ∧ Below w5.heap.size w5 w'
theorem Sx_step {w5 wr w6 : World} {g g' : Nat} {k n sv k' n' sv' : Value} (b : Below wr.heap.size wr w6) (h : Sx w5 g g' k n sv k' n' sv' wr) : Sx w5 g g' k n sv k' n' sv' w6 := by
  obtain ⟨x0, x1, x2, y0, y1, y2, B⟩ := h
  obtain ⟨a0, a1, a2⟩ := box_later ⟨x0, x1, x2⟩ b
  obtain ⟨b0, b1, b2⟩ := box_later ⟨y0, y1, y2⟩ b
  exact ⟨a0, a1, a2, b0, b1, b2, B.trans (b.mono B.size)⟩
theorem Sx_later {w5 wr : World} {g g' : Nat} {k n sv k' n' sv' v : Value} {xs : List Pt} (h : Sx w5 g g' k n sv k' n' sv' wr) (s : SliceParts w5.heap.size w5 v xs) : SliceParts wr.heap.size wr v xs := s.later h.2.2.2.2.2.2

theorem _root_.Go.Proofs.Ytadhgjfiblepaaa.EntryV.later {w w' : World} {v : Value} {x : Int × Int × List Pt} (h : EntryV w.heap.size w v x) (b : Below w.heap.size w w') : EntryV w'.heap.size w' v x := by
  obtain ⟨sv, e, hs⟩ := h
  exact ⟨sv, e, hs.later b⟩
theorem sz_neg (v : Value) (x : Int × Int × List Pt) (left : Int) (w : World) (h : EntryV w.heap.size w v x) (h0 : 0 ≤ left) (h1 : left ≤ 1048576) (hn : Hid (Pl.szS x.2.2 left < 0)) :
    Calls Try.prog 19 #[v, .int .i64 left] w fun e w' => e = .returned (.int .i64 (-1)) ∧ Below w.heap.size w w' :=
  (szEntry_l v x left w h h0 h1).mono fun _ _ hh => ⟨hh.1.trans (by rw [if_pos hn.out]), hh.2⟩
theorem sz_pos (v : Value) (x : Int × Int × List Pt) (left : Int) (w : World) (h : EntryV w.heap.size w v x) (h0 : 0 ≤ left) (h1 : left ≤ 1048576) (hn : Hid (0 ≤ Pl.szS x.2.2 left)) :
    Calls Try.prog 19 #[v, .int .i64 left] w fun e w' => e = .returned (.int .i64 (Pl.szS x.2.2 left)) ∧ Below w.heap.size w w' :=
  (szEntry_l v x left w h h0 h1).mono fun _ _ hh => ⟨hh.1.trans (by rw [if_neg (by have := hn.out; omega)]), hh.2⟩

theorem toE {w5 wr : World} {g g' : Nat} {k n sv k' n' sv' : Value} {v : Value} {c d : Int} {ps : List Pt} (h : Sx w5 g g' k n sv k' n' sv' wr) (s : Hid (SliceParts w5.heap.size w5 v ps)) (hl : ps.length ≤ 1048576) (hp : Hid (∀ p ∈ ps, p.signs.length ≤ 4194304)) :
    Calls Try.prog 21 #[.agg #[.int .i64 c, .int .i64 d, v]] wr fun e w' => ∃ v', e = .returned v' ∧ EntryV w'.heap.size w' v' (c, d, ps) ∧ Below wr.heap.size wr w' :=
  toEntry_l _ (c, d, ps) _ ⟨_, rfl, Sx_later h s.out⟩ (Nat.le_trans hl (by omega)) hp.out

theorem eqE {w5 wr : World} {g g' : Nat} {k n sv k' n' sv' : Value} {v v' : Value} {c d : Int} {ps : List Pt} (h : Sx w5 g g' k n sv k' n' sv' wr) (s : Hid (SliceParts w5.heap.size w5 v ps)) (e : EntryV wr.heap.size wr v' (c, d, ps)) :
    Calls Try.prog 23 #[.agg #[.int .i64 c, .int .i64 d, v], v'] wr fun e w' => e = .returned (.bool true) ∧ Below wr.heap.size wr w' :=
  eqEntry_b _ _ (c, d, ps) _ ⟨_, rfl, Sx_later h s.out⟩ e

set_option maxHeartbeats 8000000 in
set_option maxRecDepth 100000 in
theorem walk (w : World) (v0 : Value) (x : Int × Int × List Pt) (r0 : EntryV w.heap.size w v0 x) (v1 : Value) (y : Int × Int × List Pt) (r1 : EntryV w.heap.size w v1 y) :
    Calls Try.prog 4 #[v0, v1] w fun e w' => e = .returned (.bool true) ∧ Below w.heap.size w w' := by
  obtain ⟨c, n, ps⟩ := x
  obtain ⟨c', n', qs⟩ := y
  obtain ⟨sv, rfl, hs⟩ := r0
  obtain ⟨sv', rfl, hs'⟩ := r1
  have s0 := Lib.hid hs
  have s1 := Lib.hid hs'
  obtain ⟨A, k, rfl, -, -⟩ := hs
  obtain ⟨A', k', rfl, -, -⟩ := hs'
  dsimp only at s0 s1
  have hW : ∀ (a b : Obj), Below w.heap.size w ((w.alloc a).alloc b) := fun a b => ((Below.refl _ _).alloc (Nat.le_refl _) a).alloc (by simp) b
  have HW := Lib.hid hW
  clear hW
  have g0 := szS_le (ps := ps) (left := 1048576) (by omega)
  by_cases q0 : Pl.szS ps 1048576 < 0
  · go_enter Try.func4, Try.ntmps4
    go_wp2_with (fail)
    refine (sz_neg _ (c, n, ps) 1048576 _ ⟨_, rfl, s0.out.later (HW.out _ _)⟩ (by omega) (by omega) (Lib.hid q0)).mono ?_
    rintro e w1 ⟨rfl, b1⟩
    go_wp2_with (fail)
    go_ret
    exact ⟨rfl, (HW.out _ _).trans (b1.mono (by simp; omega))⟩
  have q0' : 0 ≤ Pl.szS ps 1048576 := by omega
  obtain ⟨bl0, bs0⟩ := szS_nat (ps := ps) (left := 1048576) (by omega) (by omega) q0'
  have Bs0 := Lib.hid bs0
  clear bs0
  have g1 := szS_le (ps := qs) (left := Pl.szS ps 1048576) (by omega)
  by_cases q1 : Pl.szS qs (Pl.szS ps 1048576) < 0
  · go_enter Try.func4, Try.ntmps4
    go_wp2_with (fail)
    refine (sz_pos _ (c, n, ps) 1048576 _ ⟨_, rfl, s0.out.later (HW.out _ _)⟩ (by omega) (by omega) (Lib.hid q0')).mono ?_
    rintro e w1 ⟨rfl, b1⟩
    have HB := Lib.hid ((HW.out _ _).trans (b1.mono (by simp; omega)))
    obtain ⟨y0, y1, y2⟩ := box_later box_new0 b1
    clear b1
    simp only [World.size_alloc] at y0 y1 y2
    go_wp2_with (fail)
    refine (sz_neg _ (c', n', qs) _ _ ⟨_, rfl, s1.out.later HB.out⟩ (by assumption) (by omega) (Lib.hid q1)).mono ?_
    rintro e w2 ⟨rfl, b2⟩
    go_wp2_with (fail)
    go_ret
    exact ⟨rfl, HB.out.trans (b2.mono HB.out.size)⟩
  have q1' : 0 ≤ Pl.szS qs (Pl.szS ps 1048576) := by omega
  obtain ⟨bl1, bs1⟩ := szS_nat (ps := qs) (left := Pl.szS ps 1048576) (by omega) (by omega) q1'
  have Bs1 := Lib.hid bs1
  clear bs1
  go_enter Try.func4, Try.ntmps4
  go_wp2_with (fail)
  refine (sz_pos _ (c, n, ps) 1048576 _ ⟨_, rfl, s0.out.later (HW.out _ _)⟩ (by omega) (by omega) (Lib.hid q0')).mono ?_
  rintro e w1 ⟨rfl, b1⟩
  have HB := Lib.hid ((HW.out _ _).trans (b1.mono (by simp; omega)))
  have BA := Lib.hid (box_later (box_later (w := w.alloc _) box_new0 ((Below.refl _ _).alloc (Nat.le_refl _) _)) b1)
  obtain ⟨y0, y1, y2⟩ := box_later box_new0 b1
  clear b1
  simp only [World.size_alloc] at y0 y1 y2
  go_wp2_with (fail)
  refine (sz_pos _ (c', n', qs) _ _ ⟨_, rfl, s1.out.later HB.out⟩ (by assumption) (by omega) (Lib.hid q1')).mono ?_
  rintro e w2 ⟨rfl, b2⟩
  replace HB := Lib.hid (HB.out.trans (b2.mono HB.out.size))
  replace BA := Lib.hid (box_later BA.out b2)
  have BB := Lib.hid (box_later ⟨y0, y1, y2⟩ b2)
  clear y0 y1 y2 b2
  obtain ⟨x0, x1, x2⟩ := BA.out
  obtain ⟨y0, y1, y2⟩ := BB.out
  have oa := Lib.hid (s0.out.later HB.out)
  have ob := Lib.hid (s1.out.later HB.out)
  have P0 : Hid (∀ p ∈ ps, p.signs.length ≤ 4194304) := fun p hp => Nat.le_trans (Bs0.out p hp) (by omega)
  have P1 : Hid (∀ p ∈ qs, p.signs.length ≤ 4194304) := fun p hp => Nat.le_trans (Bs1.out p hp) (by omega)
  go_wp2_with (fail)
  go_region_held3 (fun w' => Sx w2 w.heap.size (w.heap.size + 1) (.int .i64 c) (.int .i64 n) (.slice A ps.length k) (.int .i64 c') (.int .i64 n') (.slice A' qs.length k') w')
    (first
      | assumption
      | exact ⟨x0, x1, x2, y0, y1, y2, (Below.refl _ _).drew⟩
      | exact Sx_step b6 (by assumption))
    (first
      | (go_at_call_of 21 (Value.agg #[.int .i64 c, .int .i64 n, .slice A ps.length k]); refine (toE (by assumption) oa bl0 P0).mono ?_; rintro e w6 ⟨v6, rfl, e6, b6⟩)
      | (go_at_call_of 21 (Value.agg #[.int .i64 c', .int .i64 n', .slice A' qs.length k']); refine (toE (by assumption) ob bl1 P1).mono ?_; rintro e w7 ⟨v7, rfl, e7, b6⟩; replace e6 := e6.later b6)
      | (go_at_call 20; refine (entrySame_s _ _ (c, n, ps) (c', n', qs) _ e6 e7).mono ?_; rintro e w8 ⟨rfl, b6⟩))
  rename_i hz
  have hb8 := hz.2.2.2.2.2.2
  replace oa := Lib.hid (oa.out.later hb8)
  replace ob := Lib.hid (ob.out.later hb8)
  replace HB := Lib.hid (HB.out.trans (hb8.mono HB.out.size))
  replace BA := Lib.hid (box_later BA.out hb8)
  replace BB := Lib.hid (box_later BB.out hb8)
  clear e6 e7 hz hb8 b6 x0 x1 x2 y0 y1 y2
  obtain ⟨x0, x1, x2⟩ := BA.out
  obtain ⟨y0, y1, y2⟩ := BB.out
  go_wp2_with (fail)
  refine (toEntry_l _ (c, n, ps) _ ⟨_, rfl, oa.out⟩ (by dsimp only; omega) P0.out).mono ?_
  rintro e w9 ⟨v9, rfl, ⟨t9, rfl, h9⟩, b9⟩
  dsimp only at h9
  have E9 := Lib.hid h9
  obtain ⟨A9, k9, rfl, -, -⟩ := h9
  replace oa := Lib.hid (oa.out.later b9)
  replace ob := Lib.hid (ob.out.later b9)
  replace HB := Lib.hid (HB.out.trans (b9.mono HB.out.size))
  replace BA := Lib.hid (box_later BA.out b9)
  replace BB := Lib.hid (box_later BB.out b9)
  clear b9 x0 x1 x2 y0 y1 y2
  obtain ⟨x0, x1, x2⟩ := BA.out
  obtain ⟨y0, y1, y2⟩ := BB.out
  have l0 := World.block_lt_of_cell? _ _ x0
  have l1 := World.block_lt_of_cell? _ _ y0
  dsimp only at l0 l1
  have hA : ∀ o : Obj, Below w9.heap.size w9 (w9.alloc o) := fun o => (Below.refl _ _).alloc (Nat.le_refl _) o
  have HA := Lib.hid hA
  clear hA
  go_wp2_with (fail)
  refine (toEntry_l _ (c', n', qs) _ ⟨_, rfl, ob.out.later (HA.out _)⟩ (by dsimp only; omega) P1.out).mono ?_
  rintro e w10 ⟨v10, rfl, ⟨t10, rfl, h10⟩, b10⟩
  dsimp only at h10
  have E10 := Lib.hid h10
  obtain ⟨A10, k10, rfl, -, -⟩ := h10
  have b10' := (HA.out _).trans (b10.mono (by simp))
  simp only [World.size_alloc] at b10
  have BX := Lib.hid (box_new b10)
  replace E9 := Lib.hid (E9.out.later b10')
  replace oa := Lib.hid (oa.out.later b10')
  replace ob := Lib.hid (ob.out.later b10')
  replace HB := Lib.hid (HB.out.trans (b10'.mono HB.out.size))
  replace BA := Lib.hid (box_later BA.out b10')
  replace BB := Lib.hid (box_later BB.out b10')
  clear b10 b10' x0 x1 x2 y0 y1 y2 l0 l1 HA
  obtain ⟨x0, x1, x2⟩ := BX.out
  have l0 := World.block_lt_of_cell? _ _ x0
  dsimp only at l0
  have hA : ∀ o : Obj, Below w10.heap.size w10 (w10.alloc o) := fun o => (Below.refl _ _).alloc (Nat.le_refl _) o
  have HA := Lib.hid hA
  clear hA
  go_wp2_with (fail)
  refine (entrySame_i _ _ (c, n, ps) (c', n', qs) _ ⟨_, rfl, E9.out.later (HA.out _)⟩ ⟨_, rfl, E10.out.later (HA.out _)⟩).mono ?_
  rintro e w11 ⟨rfl, b11⟩
  have b11' := (HA.out _).trans (b11.mono (by simp))
  simp only [World.size_alloc] at b11
  have BY := Lib.hid (box_new b11)
  replace E9 := Lib.hid (E9.out.later b11')
  replace E10 := Lib.hid (E10.out.later b11')
  replace oa := Lib.hid (oa.out.later b11')
  replace ob := Lib.hid (ob.out.later b11')
  replace HB := Lib.hid (HB.out.trans (b11'.mono HB.out.size))
  replace BA := Lib.hid (box_later BA.out b11')
  replace BB := Lib.hid (box_later BB.out b11')
  replace BX := Lib.hid (box_later BX.out b11')
  clear b11 b11' x0 x1 x2 l0 HA b6
  obtain ⟨x0, x1, x2⟩ := BX.out
  obtain ⟨y0, y1, y2⟩ := BA.out
  go_wp2_with (fail)
  go_region_held3 (fun w' => Sx w11 w9.heap.size w.heap.size (.int .i64 c) (.int .i64 n) (.slice A9 ps.length k9) (.int .i64 c) (.int .i64 n) (.slice A ps.length k) w')
    (first
      | assumption
      | exact ⟨x0, x1, x2, y0, y1, y2, (Below.refl _ _).drew⟩
      | exact Sx_step b6 (by assumption))
    (first
      | (go_at_call_of 21 (Value.agg #[.int .i64 c, .int .i64 n, .slice A ps.length k]); refine (toE (by assumption) oa bl0 P0).mono ?_; rintro e w6 ⟨v6, rfl, e6, b6⟩)
      | (go_at_call 23; refine (eqE (by assumption) E9 e6).mono ?_; rintro e w8 ⟨rfl, b6⟩))
  rename_i hz
  have hb8 := hz.2.2.2.2.2.2
  replace E10 := Lib.hid (E10.out.later hb8)
  replace ob := Lib.hid (ob.out.later hb8)
  replace HB := Lib.hid (HB.out.trans (hb8.mono HB.out.size))
  replace BB := Lib.hid (box_later BB.out hb8)
  replace BY := Lib.hid (box_later BY.out hb8)
  clear hz hb8 b6 e6 x0 x1 x2 y0 y1 y2 E9 oa BA BX
  obtain ⟨x0, x1, x2⟩ := BY.out
  obtain ⟨y0, y1, y2⟩ := BB.out
  rename World => wq
  go_wp2_with (fail)
  go_region_held3 (fun w' => Sx wq w10.heap.size (w.heap.size + 1) (.int .i64 c') (.int .i64 n') (.slice A10 qs.length k10) (.int .i64 c') (.int .i64 n') (.slice A' qs.length k') w')
    (first
      | assumption
      | exact ⟨x0, x1, x2, y0, y1, y2, (Below.refl _ _).drew⟩
      | exact Sx_step b6 (by assumption))
    (first
      | (go_at_call_of 21 (Value.agg #[.int .i64 c', .int .i64 n', .slice A' qs.length k']); refine (toE (by assumption) ob bl1 P1).mono ?_; rintro e w6 ⟨v6, rfl, e6, b6⟩)
      | (go_at_call 23; refine (eqE (by assumption) E10 e6).mono ?_; rintro e w8 ⟨rfl, b6⟩))
  rename_i hz
  go_wp2_with (fail)
  go_ret
  exact ⟨rfl, HB.out.trans (hz.2.2.2.2.2.2.mono HB.out.size)⟩
set_option maxRecDepth 100000 in
theorem lifted (os : Os) (started : os.Started) (H : Type) (enc : TypeId × Value → H) :
    ReturnsInHanded {} Try.checked os 4 .any (Rows.fnExactEntrySameSpec.pre6 enc Try.prog Try.f4 Rows.fnExactEntrySameRow.domain false) (Rows.fnExactEntrySameSpec.post enc Try.prog Try.f4 false true false false) := by
  refine returnsInHanded_of_change (C := Try.checked) ownNone started (by kernel_rfl) Try.func4
    (ChangeSpec.witness6 (enc := enc) (C := Try.checked) false ⟨#[], #[.agg #[.int .i64 0, .int .i64 0, .slice none 0 0], .agg #[.int .i64 0, .int .i64 0, .slice none 0 0]], []⟩ 8 (by kernel_rfl) (by kernel_rfl) (by kernel_rfl) (by kernel_rfl)) ?_
  intro W base args ds gs before hval0 hW hcnd _
  have hval : ∀ (j : Nat) t v, Try.f4.params[j]? = some t → args[j]? = some v → Value.okWide Try.prog W .any base t v := hval0
  have hW' := hW
  obtain ⟨p, q, hA0, hV, rfl, hfz, hnd⟩ := hW
  have hA : DataW.TrodAll enc Try.prog W 0 (fun _ => true) true Try.f4.params.toList args.toList ds p := hA0
  rw [Try.params4] at hA hval
  obtain ⟨v0, vs0, d0, ds0, p0, q0, hargs, rfl, rfl, h0, r0⟩ := trodAll_cons hA
  obtain ⟨v1, vs1, d1, ds1, p1, q1, rfl, rfl, rfl, h1, r1⟩ := trodAll_cons r0
  obtain ⟨rfl, rfl, rfl⟩ := trodAll_nil r1
  obtain rfl : args = #[v0, v1] := by cases args; simp_all
  obtain ⟨rfl, rfl⟩ := trodVars_none hV
  obtain ⟨a0, s0⟩ := open_entry (hval 0 29 v0 rfl rfl) h0 (fun x hx => hW'.lt x (by simp [hx]))
  obtain ⟨a1, s1⟩ := open_entry (hval 1 29 v1 rfl rfl) h1 (fun x hx => hW'.lt x (by simp [hx]))
  clear hA0 hval0
  refine (walk W v0 a0 s0 v1 a1 s1).mono fun e W' ⟨he, hb⟩ => ?_
  subst he
  exact ⟨_, rfl, law_post hW' rfl hb (by kernel_rfl) (by kernel_rfl) rfl⟩

theorem over : Rows.fnExactEntrySameRow.holds Try.pinned (OpenSpec.ofChange Rows.fnExactEntrySameSpec) :=
  OpenClaim.holds_of_wide 4 Try.f4 rfl rfl rfl rfl rfl rfl rfl ⟨rfl, rfl, rfl, rfl, rfl⟩ rfl rfl rfl rfl rfl (by kernel_rfl) Try.func4 (by kernel_rfl)
    (of_decide_eq_true (by kernel_rfl)) (by unfold Func.isWrapper; first | (rw [if_pos (by decide +kernel)]; kernel_rfl) | (rw [if_neg (by decide +kernel)]; exact ⟨rfl, rfl⟩))
    (fun os started H enc _ => lifted os started H enc)

/-- The given statement. -/
theorem proved : Rows.FnExactEntrySameSaid :=
  over
end Go.Proofs.Ytadhgjfiblepaaa.fnExactEntrySame
