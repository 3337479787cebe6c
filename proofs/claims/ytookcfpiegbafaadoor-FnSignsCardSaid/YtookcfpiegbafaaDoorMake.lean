/- Contracts of what makes texts, numbers and operations out of bytes. Condition: none. -/
import Derived.Test.YtookcfpiegbafaaDoorDraw
import Derived.Test.YtookcfpiegbafaaDoorNormJ
namespace Go.Proofs.YtookcfpiegbafaaDoor
open Go.RowKit
set_option maxRecDepth 100000

theorem CurAt.add {B : Nat} {w : World} {g n : Nat} (h : CurAt B w g n) : ∃ A c i hh, (w.heap[g]? = some (.cells #[.slice A n c, .int .i64 i, .int .i64 hh] 69 (0, 0))) ∧ ∀ u : Int, CurAt B (w.setCell ⟨g, 2, none⟩ (.int .i64 u)) g n ∧ Frame (fun k => k = g) w (w.setCell ⟨g, 2, none⟩ (.int .i64 u)) := by
  have hlow := h.low
  obtain ⟨A, c, i, hh, hb, hc, hy, h0, h1⟩ := h.blk
  refine ⟨A, c, i, hh, hb, fun u => ?_⟩
  have f1 := Frame.setCell (fun k => k = g) w ⟨g, 2, none⟩ (.int .i64 u) rfl
  exact ⟨CurAt.turn hlow (lt_of_block hb) f1 hc hy (set3_2 hb _) ⟨h0, h1⟩, f1⟩
theorem rdP_shape {F : Nat → Prop} {w : World} {v : Value} {ps : List Pt} (h : RdP F w v ps) : ∃ A c, v = .slice A ps.length c ∧ (ps.length ≤ c ∧ c ≤ maxLen) := by
  obtain ⟨A, c, hv, hc, _⟩ := h
  exact ⟨A, c, hv, hc⟩
theorem frame_from {g : Nat} {w w1 w2 : World} (h : Below w.heap.size w w1) (hf : Frame (fun k => k = g) w1 w2) (hg : w.heap.size ≤ g) : Below w.heap.size w w2 :=
  h.trans (hf.below (fun i hi => by omega) h.size)
theorem makeText_s (v : Value) (n : Nat) (k : Int) (w : World) (h : SliceBytes w.heap.size w v n) :
    Calls Tryd.prog 35 #[v, .int .i64 k] w fun e w' => ∃ u xs, e = .returned u ∧ OwnI w.heap.size w'.heap.size w' u xs ∧ xs.length ≤ 12 ∧ Pl.signsOk xs = true ∧ Below w.heap.size w w' := by
  have H := Lib.hid h
  obtain ⟨A, c, rfl, -, -⟩ := h
  go_enter Tryd.func35, Tryd.ntmps35
  go_wp2_with (fail)
  refine (new_s _ n _ H.out).mono ?_
  rintro e w1 ⟨g, rfl, hg, c1, b1⟩
  obtain ⟨A1, k1, i1, h1, hb, hset⟩ := c1.add
  obtain ⟨z0, z1, z2, zf, zl⟩ := blk3 hb
  have zf2 := zf 2
  have HSET := Lib.hid hset
  have B1 := Lib.hid b1
  clear c1 b1 hset hb zf
  go_wp2_with (fail)
  obtain ⟨c2, f2⟩ := HSET.out (wrap64 (h1 + k))
  refine (signs_s _ g n _ _ c2 (by omega) (by omega)).mono ?_
  rintro e w2 ⟨u, xs, rfl, o2, l2, k2, c3, f3⟩
  obtain ⟨A7, c7, rfl⟩ := own_shape o2.1
  have B2 := Lib.hid (B1.out.trans ((f2.trans f3 fun _ _ hh => hh).below (fun i hi => by omega) B1.out.size))
  have sz : w.heap.size ≤ (w1.setCell ⟨g, 2, none⟩ (.int .i64 (wrap64 (h1 + k)))).heap.size := Nat.le_trans B1.out.size f2.size
  have O2 : Hid (OwnI w.heap.size w2.heap.size w2 (.slice A7 xs.length c7) xs) := ⟨World.ownsRow.base o2.1 fun b hb => Nat.le_trans sz (o2.1.lt b hb).1, o2.2⟩
  have K2 := Lib.hid k2
  clear o2 k2 c3 f3 c2 f2
  go_wp2_with (fail)
  go_ret
  exact ⟨_, xs, rfl, O2.out, by omega, K2.out, B2.out⟩
theorem makeNum_s (v : Value) (n : Nat) (m : Int) (w : World) (h : SliceBytes w.heap.size w v n) :
    Calls Tryd.prog 38 #[v, .int .i64 m] w fun e w' => ∃ x, e = .returned (.int .i64 x) ∧ ((m ≤ 0 → x = 0) ∧ (0 < m → 0 ≤ x ∧ x < m)) ∧ Below w.heap.size w w' := by
  have H := Lib.hid h
  obtain ⟨A, c, rfl, -, -⟩ := h
  go_enter Tryd.func38, Tryd.ntmps38
  go_wp2_with (fail)
  refine (new_s _ n _ H.out).mono ?_
  rintro e w1 ⟨g, rfl, hg, c1, b1⟩
  obtain ⟨A1, k1, i1, h1, hb, hset⟩ := c1.add
  obtain ⟨z0, z1, z2, zf, zl⟩ := blk3 hb
  have zf2 := zf 2
  have HSET := Lib.hid hset
  have B1 := Lib.hid b1
  clear c1 b1 hset hb zf
  go_wp2_with (fail)
  obtain ⟨c2, f2⟩ := HSET.out (wrap64 (h1 + 777))
  refine (below_s _ g n _ _ c2).mono ?_
  rintro e w2 ⟨x, rfl, hx, c3, f3⟩
  have HX := Lib.hid hx
  have B2 := Lib.hid (B1.out.trans ((f2.trans f3 fun _ _ hh => hh).below (fun i hi => by omega) B1.out.size))
  clear hx c3 f3 c2 f2
  go_wp2_with (fail)
  go_ret
  exact ⟨_, rfl, HX.out, B2.out⟩
end Go.Proofs.YtookcfpiegbafaaDoor
