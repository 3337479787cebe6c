/- Documents: the laws' helpers szDoc, toDoc, eqDoc and HeadRev of both. Condition: at most 2^20 are counted. -/
import Derived.Test.YtadhgjfiblepaaaDocTo2
import Derived.Deep.RegionHeld3
namespace Go.Proofs.Ytadhgjfiblepaaa
open Go.RowKit
set_option maxRecDepth 100000
set_option linter.unusedVariables false

structure Dc where
  name : ByteArray
  frm : Int
  text : List Int
  list : List Et
  seen : List Se
/-- v is a document that reads as d, in blocks below B. -/
def DocV (B : Nat) (w : World) (v : Value) (d : Dc) : Prop := ∃ tv lv sv, v = .agg #[.string d.name, .int .i64 d.frm, tv, lv, sv] ∧ SliceInts B w tv d.text ∧ SliceEntries B w lv d.list ∧ SliceSeen B w sv d.seen ∧ d.name.size ≤ maxLen
theorem DocV.later {w w' : World} {v : Value} {d : Dc} (h : DocV w.heap.size w v d) (hb : Below w.heap.size w w') : DocV w'.heap.size w' v d := by
  obtain ⟨tv, lv, sv, e, h1, h2, h3, h4⟩ := h
  exact ⟨tv, lv, sv, e, h1.later hb, h2.later hb, h3.later hb, h4⟩
theorem DocV.shape {B : Nat} {w : World} {v : Value} {d : Dc} (h : DocV B w v d) : ∃ A c A' c' A'' c'', v = .agg #[.string d.name, .int .i64 d.frm, .slice A d.text.length c, .slice A' d.list.length c', .slice A'' d.seen.length c''] := by
  obtain ⟨tv, lv, sv, e, ⟨A, c, rfl, -⟩, ⟨A', c', rfl, -⟩, ⟨A'', c'', rfl, -⟩, h4⟩ := h
  exact ⟨_, _, _, _, _, _, e⟩
theorem blk5 {w : World} {g : Nat} {a b x y z : Value} {t : TypeId} (h : w.heap[g]? = some (.cells #[a, b, x, y, z] t (0, 0))) :
    w.cell? ⟨g, 0, none⟩ = some a ∧ w.cell? ⟨g, 1, none⟩ = some b ∧ w.cell? ⟨g, 2, none⟩ = some x ∧ w.cell? ⟨g, 3, none⟩ = some y ∧ w.cell? ⟨g, 4, none⟩ = some z ∧ (∀ j, w.frozen? ⟨g, j, none⟩ = false) ∧ g < w.heap.size := by
  refine ⟨?_, ?_, ?_, ?_, ?_, ?_, lt_of_block h⟩
  · rw [cell_of_row w g 0 _ t (0, 0) h]; rfl
  · rw [cell_of_row w g 1 _ t (0, 0) h]; rfl
  · rw [cell_of_row w g 2 _ t (0, 0) h]; rfl
  · rw [cell_of_row w g 3 _ t (0, 0) h]; rfl
  · rw [cell_of_row w g 4 _ t (0, 0) h]; rfl
  · intro j
    simp [World.frozen?, h]
/-- Five cells of a block. -/
abbrev Box5 (g : Nat) (a b x y z : Value) (w : World) : Prop := w.cell? { block := g, off := 0 } = some a ∧ w.cell? { block := g, off := 1 } = some b ∧ w.cell? { block := g, off := 2 } = some x ∧ w.cell? { block := g, off := 3 } = some y ∧ w.cell? { block := g, off := 4 } = some z
theorem cell_on {w w' : World} {a : Addr} {v : Value} (b : Below w.heap.size w w') (h : w.cell? a = some v) : w'.cell? a = some v := (b.cell (World.block_lt_of_cell? _ _ h)).trans h
theorem Box5.later {w w' : World} {g : Nat} {a b x y z : Value} (h : Box5 g a b x y z w) (k : Below w.heap.size w w') : Box5 g a b x y z w' :=
  ⟨cell_on k h.1, cell_on k h.2.1, cell_on k h.2.2.1, cell_on k h.2.2.2.1, cell_on k h.2.2.2.2⟩
theorem Box5.new {w : World} {a b x y z : Value} {t : Nat} : Box5 w.heap.size a b x y z (w.alloc (.cells #[a, b, x, y, z] t)) := by
  obtain ⟨x0, x1, x2, x3, x4, -, -⟩ := blk5 (w := w.alloc (.cells #[a, b, x, y, z] t)) (g := w.heap.size) (t := t) (heap_new_at _ _ rfl)
  exact ⟨x0, x1, x2, x3, x4⟩
theorem headRev_i (v : Value) (d : Dc) (w : World) (h : DocV w.heap.size w v d) :
    Calls Try.prog 39 #[v] w fun e w' => e = .returned (.int .i64 (wrap64 (d.frm + d.list.length))) ∧ Below w.heap.size w w' := by
  obtain ⟨A, c, A', c', A'', c'', rfl⟩ := h.shape
  go_enter Try.func39, Try.ntmps39
  go_wp2_with (fail)
  go_ret
  exact ⟨rfl, (Below.refl _ _).alloc (Nat.le_refl _) _⟩
theorem headRev_s (v : Value) (d : Dc) (w : World) (h : DocV w.heap.size w v d) :
    Calls Try.prog 37 #[v] w fun e w' => e = .returned (.int .i64 (wrap64 (d.frm + d.list.length))) ∧ Below w.heap.size w w' := by
  obtain ⟨A, c, A', c', A'', c'', rfl⟩ := h.shape
  go_enter Try.func37, Try.ntmps37
  go_wp2_with (fail)
  go_ret
  exact ⟨rfl, (Below.refl _ _).alloc (Nat.le_refl _) _⟩
set_option maxHeartbeats 2000000 in
theorem eqDoc_b (v v' : Value) (d : Dc) (w : World) (h : DocV w.heap.size w v d) (h' : DocV w.heap.size w v' d) :
    Calls Try.prog 40 #[v, v'] w fun e w' => e = .returned (.bool true) ∧ Below w.heap.size w w' := by
  obtain ⟨tv, lv, sv, rfl, h1, h2, h3, hn⟩ := h
  obtain ⟨tv', lv', sv', rfl, h1', h2', h3', -⟩ := h'
  have H1 := Lib.hid h1
  have H2 := Lib.hid h2
  have H3 := Lib.hid h3
  have H1' := Lib.hid h1'
  have H2' := Lib.hid h2'
  have H3' := Lib.hid h3'
  obtain ⟨A, c, rfl, -, -⟩ := h1
  obtain ⟨A2, c2, rfl, -, -⟩ := h2
  obtain ⟨A3, c3, rfl, -, -⟩ := h3
  obtain ⟨A', c', rfl, -, -⟩ := h1'
  obtain ⟨A2', c2', rfl, -, -⟩ := h2'
  obtain ⟨A3', c3', rfl, -, -⟩ := h3'
  have hW : ∀ (a b : Obj), Below w.heap.size w ((w.alloc a).alloc b) := fun a b => ((Below.refl _ _).alloc (Nat.le_refl _) a).alloc (by simp) b
  have HW := Lib.hid hW
  clear hW
  go_enter Try.func40, Try.ntmps40
  go_wp2_with (fail)
  refine (eqIntS_b _ _ _ d.text d.text _ (H1.out.later (HW.out _ _)) (H1'.out.later (HW.out _ _)) H1.out.len).mono ?_
  rintro e w1 ⟨rfl, b1⟩
  have B1 := Lib.hid ((HW.out _ _).trans (b1.mono (by simp; omega)))
  have X1 := Lib.hid (Box5.later (Box5.later (w := w.alloc _) Box5.new ((Below.refl _ _).alloc (Nat.le_refl _) _)) b1)
  have Y1 := Box5.later Box5.new b1
  simp only [World.size_alloc] at Y1
  have Y1 := Lib.hid Y1
  clear b1
  obtain ⟨x0, x1, x2, x3, x4⟩ := X1.out
  obtain ⟨y0, y1, y2, y3, y4⟩ := Y1.out
  go_wp2_with (fail)
  refine (eqEntryS_b _ _ d.list _ (H2.out.later B1.out) (H2'.out.later B1.out)).mono ?_
  rintro e w2 ⟨rfl, b2⟩
  have B2 := Lib.hid (B1.out.trans (b2.mono B1.out.size))
  have X2 := Lib.hid (X1.out.later b2)
  have Y2 := Lib.hid (Y1.out.later b2)
  clear b2 x0 x1 x2 x3 x4 y0 y1 y2 y3 y4
  obtain ⟨x0, x1, x2, x3, x4⟩ := X2.out
  obtain ⟨y0, y1, y2, y3, y4⟩ := Y2.out
  go_wp2_with (fail)
  refine (eqSeenS_b _ _ d.seen _ (H3.out.later B2.out) (H3'.out.later B2.out)).mono ?_
  rintro e w3 ⟨rfl, b3⟩
  have B3 := Lib.hid (B2.out.trans (b3.mono B2.out.size))
  clear b3 x0 x1 x2 x3 x4 y0 y1 y2 y3 y4
  go_wp2_with (fail)
  go_ret
  exact ⟨rfl, B3.out⟩
set_option maxHeartbeats 2000000 in
theorem toDoc_l (v : Value) (d : Dc) (w : World) (h : DocV w.heap.size w v d) (hx : d.text.length ≤ 4194304) (hl : d.list.length ≤ 4194304) (hs : ∀ o ∈ d.list, o.2.2.length ≤ 1048576 ∧ ∀ p ∈ o.2.2, p.signs.length ≤ 1048576) (hn : d.seen.length ≤ 4194304) :
    Calls Try.prog 38 #[v] w fun e w' => ∃ v', e = .returned v' ∧ DocV w'.heap.size w' v' d ∧ Below w.heap.size w w' := by
  obtain ⟨tv, lv, sv, rfl, h1, h2, h3, hnm⟩ := h
  have H1 := Lib.hid h1
  have H2 := Lib.hid h2
  have H3 := Lib.hid h3
  have HS := Lib.hid hs
  obtain ⟨A, c, rfl, -, -⟩ := h1
  obtain ⟨A2, c2, rfl, -, -⟩ := h2
  obtain ⟨A3, c3, rfl, -, -⟩ := h3
  clear hs
  have hW : ∀ (a b c : Obj), Below w.heap.size w (((w.alloc a).alloc b).alloc c) := fun a b c => (((Below.refl _ _).alloc (Nat.le_refl _) a).alloc (by simp) b).alloc (by simp; omega) c
  have HW := Lib.hid hW
  clear hW
  go_enter Try.func38, Try.ntmps38
  go_wp2_with (fail)
  refine (toIntS_l _ d.text _ (H1.out.later (HW.out _ _ _)) hx).mono ?_
  rintro e w1 ⟨v1, rfl, o1, b1⟩
  have hb := (HW.out _ _ _).trans (b1.mono (by simp; omega))
  have hx1 : ∃ a b x y z, w1.heap[w.heap.size + 1]? = some (.cells #[a, b, x, y, z] 49 (0, 0)) := ⟨_, _, _, _, _, (b1.block _ (by simp)).trans (by
    rw [Below.heap_alloc _ _ _ (by simp)]; exact heap_new_at _ _ (by simp))⟩
  have hy1 : w1.heap[w.heap.size + 2]? = some (.cells #[.string d.name, .int .i64 d.frm, .slice none 0 0, .slice none 0 0, .slice none 0 0] 49 (0, 0)) := (b1.block _ (by simp)).trans (heap_new_at _ _ (by simp))
  have hz1 : w1.heap[w.heap.size]? = some (.cells #[.string d.name, .int .i64 d.frm, .slice A d.text.length c, .slice A2 d.list.length c2, .slice A3 d.seen.length c3] 43 (0, 0)) := (b1.block _ (by simp; omega)).trans (by
    rw [Below.heap_alloc _ _ _ (by simp; omega), Below.heap_alloc _ _ _ (by simp)]; exact heap_new_at _ _ rfl)
  simp only [World.size_alloc] at o1
  obtain ⟨A1, c1, rfl, -, -⟩ := o1.slice
  have O1 := Lib.hid o1
  have B1 := Lib.hid hb
  have HX := Lib.hid hx1
  have HY := Lib.hid hy1
  have HZ := Lib.hid hz1
  have s1 : w.heap.size + 3 ≤ w1.heap.size := by have := b1.size; simpa using this
  clear o1 b1 hb hx1
  obtain ⟨y0, y1, y2, y3, y4, yf, yl⟩ := blk5 hy1
  obtain ⟨z0, z1, z2, z3, z4, zf, zl⟩ := blk5 hz1
  clear hy1 hz1 y0 y1 y3 y4 yl z0 z1 z2 z4 zf zl
  go_wp2_with (fail)
  have hb2 : Below w.heap.size w (w1.setCell ⟨w.heap.size + 2, 2, none⟩ (.slice A1 d.text.length c1)) := B1.out.setCell (by dsimp only; omega) _
  have e2 : (w1.setCell ⟨w.heap.size + 2, 2, none⟩ (.slice A1 d.text.length c1)).heap.size = w1.heap.size := by simp [World.setCell]
  refine (toEntryS_l _ d.list _ (H2.out.later hb2) hl HS.out).mono ?_
  rintro e w2 ⟨A4, c4, rfl, o2, b2⟩
  have hw2 : Within w.heap.size (w.heap.size + 3) w1 (w1.setCell ⟨w.heap.size + 2, 2, none⟩ (.slice A1 d.text.length c1)) := (Within.refl _ _ _).set (by omega) (by omega) _ _
  have t2 := (O1.out.within hw2 (.inr (Nat.le_refl _))).below b2
  have hx2 : ∃ a b x y z, w2.heap[w.heap.size + 1]? = some (.cells #[a, b, x, y, z] 49 (0, 0)) := by
    obtain ⟨a, b, x, y, z, hh⟩ := HX.out
    exact ⟨a, b, x, y, z, (b2.block _ (by rw [e2]; omega)).trans ((Below.heap_setCell _ _ _ _ (by show w.heap.size + 1 ≠ w.heap.size + 2; omega)).trans hh)⟩
  have hy2 : w2.heap[w.heap.size + 2]? = some (.cells #[.string d.name, .int .i64 d.frm, .slice A1 d.text.length c1, .slice none 0 0, .slice none 0 0] 49 (0, 0)) := (b2.block _ (by rw [e2]; omega)).trans (by rw [heap_setCell_same w1 (w.heap.size + 2) 2 _ _ _ HY.out]; rfl)
  have hz2 : w2.heap[w.heap.size]? = some (.cells #[.string d.name, .int .i64 d.frm, .slice A d.text.length c, .slice A2 d.list.length c2, .slice A3 d.seen.length c3] 43 (0, 0)) :=
    (b2.block _ (by rw [e2]; omega)).trans ((Below.heap_setCell _ _ _ _ (by show w.heap.size ≠ w.heap.size + 2; omega)).trans HZ.out)
  rw [e2] at o2
  have s2 : w1.heap.size ≤ w2.heap.size := by have := b2.size; rw [e2] at this; exact this
  have B2 := Lib.hid (hb2.trans (b2.mono hb2.size))
  have O2 := Lib.hid o2
  have T2 := Lib.hid t2
  clear HX HY HZ O1 B1 y2 yf z3 hb2 e2 hw2 t2 b2 o2
  have HX := Lib.hid hx2
  have HY := Lib.hid hy2
  have HZ := Lib.hid hz2
  clear hx2
  obtain ⟨y0, y1, y2, y3, y4, yf, yl⟩ := blk5 hy2
  obtain ⟨z0, z1, z2, z3, z4, zf, zl⟩ := blk5 hz2
  clear hy2 hz2 y0 y1 y2 y4 yl z0 z1 z2 z3 zf zl
  go_wp2_with (fail)
  have hb3 : Below w.heap.size w (w2.setCell ⟨w.heap.size + 2, 3, none⟩ (.slice A4 d.list.length c4)) := B2.out.setCell (by dsimp only; omega) _
  have e3 : (w2.setCell ⟨w.heap.size + 2, 3, none⟩ (.slice A4 d.list.length c4)).heap.size = w2.heap.size := by simp [World.setCell]
  refine (toSeenS_l _ d.seen _ (H3.out.later hb3) hn).mono ?_
  rintro e w3 ⟨A5, c5, rfl, o3, b3⟩
  have hw3 : Within w.heap.size (w.heap.size + 3) w2 (w2.setCell ⟨w.heap.size + 2, 3, none⟩ (.slice A4 d.list.length c4)) := (Within.refl _ _ _).set (by omega) (by omega) _ _
  have t3 := (T2.out.within hw3 (.inr (Nat.le_refl _))).below b3
  have l3 := (O2.out.within hw3 (.inr (by omega))).below b3 (by rw [e3]; exact Nat.le_refl _)
  have hx3 : ∃ a b x y z, w3.heap[w.heap.size + 1]? = some (.cells #[a, b, x, y, z] 49 (0, 0)) := by
    obtain ⟨a, b, x, y, z, hh⟩ := HX.out
    exact ⟨a, b, x, y, z, (b3.block _ (by rw [e3]; omega)).trans ((Below.heap_setCell _ _ _ _ (by show w.heap.size + 1 ≠ w.heap.size + 2; omega)).trans hh)⟩
  have hy3 : w3.heap[w.heap.size + 2]? = some (.cells #[.string d.name, .int .i64 d.frm, .slice A1 d.text.length c1, .slice A4 d.list.length c4, .slice none 0 0] 49 (0, 0)) := (b3.block _ (by rw [e3]; omega)).trans (by rw [heap_setCell_same w2 (w.heap.size + 2) 3 _ _ _ HY.out]; rfl)
  rw [e3] at o3
  have s3 : w2.heap.size ≤ w3.heap.size := by have := b3.size; rw [e3] at this; exact this
  have B3 := Lib.hid (hb3.trans (b3.mono hb3.size))
  have O3 := Lib.hid o3
  have T3 := Lib.hid t3
  have L3 := Lib.hid l3
  clear HX HY HZ O2 T2 B2 y3 yf z4 hb3 e3 hw3 t3 l3 b3 o3
  have FIN : Hid (∀ W' : World, Within w.heap.size (w.heap.size + 3) w3 W' → ∃ v', Ending.returned (.agg #[.string d.name, .int .i64 d.frm, .slice A1 d.text.length c1, .slice A4 d.list.length c4, .slice A5 d.seen.length c5]) = .returned v' ∧ DocV W'.heap.size W' v' d ∧ Below w.heap.size w W') := fun W' hw =>
    ⟨_, rfl, ⟨_, _, _, rfl, (T3.out.within hw (.inr (Nat.le_refl _))).slice, (L3.out.within hw (.inr (by omega))).slice (by rw [hw.size]; exact s3), (O3.out.within hw (.inr (by omega))).slice (by rw [hw.size]; exact Nat.le_refl _), hnm⟩, B3.out.trans (hw.below (Nat.le_refl _))⟩
  clear T3 L3 O3 B3
  obtain ⟨xa, xb, xx, xy, xz, hx3⟩ := hx3
  obtain ⟨x0, x1, x2, x3, x4, xf, xl⟩ := blk5 hx3
  obtain ⟨y0, y1, y2, y3, y4, yf, yl⟩ := blk5 hy3
  clear hx3 hy3 H1 H2 H3 HS HW
  go_wp2_with (fail)
  refine bodyPost_ret (v := .agg #[.string d.name, .int .i64 d.frm, .slice A1 d.text.length c1, .slice A4 d.list.length c4, .slice A5 d.seen.length c5]) (by simp [results, Try.results38, go_sem, x0, x1, x2, x3, x4]) rfl (FIN.out _ ?_)
  repeat (first | exact Within.refl _ _ _ | refine Within.set ?_ (by omega) (by omega) _ _)
end Go.Proofs.Ytadhgjfiblepaaa
