/- Contracts of what makes texts, numbers and operations out of bytes. Condition: none. -/
import Derived.Test.YtookcfpiegbafaaGreatDoorDraw
import Derived.Test.YtookcfpiegbafaaGreatDoorNormJ
namespace Go.Proofs.YtookcfpiegbafaaGreatDoor
open Go.RowKit
set_option maxRecDepth 100000

theorem CurAt.add {B : Nat} {w : World} {g n : Nat} (h : CurAt B w g n) : ∃ A c i hh, (w.heap[g]? = some (.cells #[.slice A n c, .int .i64 i, .int .i64 hh] 71 (0, 0))) ∧ ∀ u : Int, CurAt B (w.setCell ⟨g, 2, none⟩ (.int .i64 u)) g n ∧ Frame (fun k => k = g) w (w.setCell ⟨g, 2, none⟩ (.int .i64 u)) := by
  have hlow := h.low
  obtain ⟨A, c, i, hh, hb, hc, hy, h0, h1⟩ := h.blk
  refine ⟨A, c, i, hh, hb, fun u => ?_⟩
  have f1 := Frame.setCell (fun k => k = g) w ⟨g, 2, none⟩ (.int .i64 u) rfl
  exact ⟨CurAt.turn hlow (lt_of_block hb) f1 hc hy (set3_2 hb _) ⟨h0, h1⟩, f1⟩
theorem rdP_shape {F : Nat → Prop} {w : World} {v : Value} {ps : List Pt} (h : RdP F w v ps) : ∃ A c, v = .slice A ps.length c ∧ (ps.length ≤ c ∧ c ≤ maxLen) := by
  obtain ⟨A, c, hv, hc, _⟩ := h
  exact ⟨A, c, hv, hc⟩
theorem frame_from {g : Nat} {w w1 w2 : World} (h : Below w.heap.size w w1) (hf : Frame (fun k => k = g) w1 w2) (hg : w.heap.size ≤ g) : Below w.heap.size w w2 :=
  h.trans (hf.below (fun i hi => by omega) h.size)
theorem makeOps_s (v : Value) (n : Nat) (w : World) (h : SliceBytes w.heap.size w v n) :
    Calls Tryz.prog 10 #[v] w fun e w' => ∃ u a b xs ps qs, e = .returned (.tuple #[u, a, b]) ∧ SliceInts w'.heap.size w' u xs ∧ SliceParts w'.heap.size w' a ps ∧ SliceParts w'.heap.size w' b qs ∧
      (xs.length ≤ 10 ∧ Pl.signsOk xs = true) ∧ (Pl.opOk ps = true ∧ Pl.opFrom ps = xs.length ∧ Pl.opTo ps ≤ xs.length + 12) ∧ (Pl.opOk qs = true ∧ Pl.opFrom qs = xs.length ∧ Pl.opTo qs ≤ xs.length + 12) ∧ Below w.heap.size w w' := by
  have H := Lib.hid h
  obtain ⟨A, c, rfl, -, -⟩ := h
  go_enter Tryz.func10, Tryz.ntmps10
  go_wp2_with (fail)
  refine (new_s _ n _ H.out).mono ?_
  rintro e w1 ⟨g, rfl, hg, c1, b1⟩
  have C1 := Lib.hid c1
  have B1 := Lib.hid b1
  clear c1 b1
  go_wp2_with (fail)
  refine (signs_s _ g n _ _ C1.out (by omega) (by omega)).mono ?_
  rintro e w2 ⟨u, xs, rfl, o2, l2, k2, c2, f2⟩
  obtain ⟨A7, c7, rfl⟩ := own_shape o2.1
  have O2 := Lib.hid (o2.rd (F := fun b => b < w2.heap.size ∧ b ≠ g) (fun b hb1 hb2 => ⟨hb2, by have := C1.out.lt; omega⟩))
  have K2 := Lib.hid k2
  have C2 := Lib.hid c2
  have B2 := Lib.hid (B1.out.trans (f2.below (fun i hi => by omega) B1.out.size))
  clear o2 k2 c2 f2
  go_wp2_with (fail)
  refine (draw_s _ g n _ _ C2.out (by omega) (by omega)).mono ?_
  rintro e w3 ⟨a, ps, rfl, o3, k3, c3, f3⟩
  obtain ⟨A8, c8, rfl, -⟩ := rdP_shape o3
  have O23 := Lib.hid (O2.out.frame f3 (fun b hb e => hb.2 e))
  have O3 := Lib.hid (o3.mono (T := fun b => b ≠ g) (fun b hb => by have := C2.out.lt; show b ≠ g; omega))
  have C3 := Lib.hid c3
  have K3 := Lib.hid k3
  have B3 := Lib.hid (B2.out.trans (f3.below (fun i hi => by omega) B2.out.size))
  clear o3 k3 c3 f3
  go_wp2_with (fail)
  refine (draw_s _ g n _ _ C3.out (by omega) (by omega)).mono ?_
  rintro e w4 ⟨b, qs, rfl, o4, k4, c4, f4⟩
  obtain ⟨A9, c9, rfl, -⟩ := rdP_shape o4
  have O24 := Lib.hid (O23.out.frame f4 (fun b hb e => hb.2 e)).slice
  have O34 := Lib.hid (O3.out.frame f4 (fun b hb e => hb e)).slice
  have O4 := Lib.hid o4.slice
  have K4 := Lib.hid k4
  have B4 := Lib.hid (B3.out.trans (f4.below (fun i hi => by omega) B3.out.size))
  clear o4 k4 c4 f4
  go_wp2_with (fail)
  go_ret3
  exact ⟨_, _, _, xs, ps, qs, rfl, O24.out, O34.out, O4.out, ⟨by omega, K2.out⟩, K3.out, K4.out, B4.out⟩
end Go.Proofs.YtookcfpiegbafaaGreatDoor
