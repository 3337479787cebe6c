/- The law FnExactHeadRev returns true for every argument and leaves memory as it was. Condition: none. -/
import Derived.Test.YtadhgjfiblepaaaDocSz
import Derived.Deep.RegionHeld3
import Derived.ChangeMaps5
namespace Go.Proofs.Ytadhgjfiblepaaa.fnExactHeadRev
open Go.ChangeShapes Go.WideShapes Go.ChangeAt Go.RowKit
set_option maxRecDepth 100000
set_option linter.unusedVariables false

section
variable {H : Type} {enc : TypeId × Value → H}
/-- A document that came in by value. -/
theorem open_doc {W : World} {r : Reach} {b0 : Nat} {v : Value} {d : DataW H} {ps : List MemPlace} (hval : Value.okWide Try.prog W r b0 43 v)
    (h : DataW.Trod enc Try.prog W 0 (fun _ => true) true 43 v d ps) (hlt : ∀ x ∈ ps, x.block < W.heap.size) : ∃ p, DocV W.heap.size W v p := by
  obtain ⟨cs, rfl, hsz⟩ := okWide_struct Try.underlying43 hval
  obtain ⟨fuel, hf0⟩ := h
  obtain ⟨xs, n, _, hy, hlen, hxl, hf⟩ := DataW.trod_struct Try.underlying43 hf0
  have hC : Try.prog.cellsOf 43 = 5 := by kernel_rfl
  have h1 : Try.prog.cellsOf 9 = 1 := by kernel_rfl
  have h2 : Try.prog.cellsOf 3 = 1 := by kernel_rfl
  have h3 : Try.prog.cellsOf 39 = 1 := by kernel_rfl
  have h4 : Try.prog.cellsOf 40 = 1 := by kernel_rfl
  have h5 : Try.prog.cellsOf 41 = 1 := by kernel_rfl
  rw [hC] at hlen
  obtain ⟨l⟩ := cs
  simp only [Value.cells] at hlen hf
  match l, hlen, xs, hxl with
  | [c0, c1, c2, c3, c4], _, [y0, y1, y2, y3, y4], _ =>
    have f0 : DataW.trod enc Try.prog W 0 (fun _ => true) true n 9 (([c0, c1, c2, c3, c4].drop 0).take (Try.prog.cellsOf 9)) = some y0 := hf 0 _ rfl
    have f1 : DataW.trod enc Try.prog W 0 (fun _ => true) true n 3 (([c0, c1, c2, c3, c4].drop 1).take (Try.prog.cellsOf 3)) = some y1 := hf 1 _ rfl
    have f2 : DataW.trod enc Try.prog W 0 (fun _ => true) true n 39 (([c0, c1, c2, c3, c4].drop 2).take (Try.prog.cellsOf 39)) = some y2 := hf 2 _ rfl
    have f3 : DataW.trod enc Try.prog W 0 (fun _ => true) true n 40 (([c0, c1, c2, c3, c4].drop 3).take (Try.prog.cellsOf 40)) = some y3 := hf 3 _ rfl
    have f4 : DataW.trod enc Try.prog W 0 (fun _ => true) true n 41 (([c0, c1, c2, c3, c4].drop 4).take (Try.prog.cellsOf 41)) = some y4 := hf 4 _ rfl
    rw [h1] at f0
    rw [h2] at f1
    rw [h3] at f2
    rw [h4] at f3
    rw [h5] at f4
    simp at f0 f1 f2 f3 f4
    obtain ⟨s, e0, _, hs⟩ := DataW.trod_string Try.underlying9 f0
    obtain ⟨a1, e1, _, _⟩ := DataW.trod_int Try.underlying3 f1
    have hps : ps = _ := congrArg Prod.snd hy
    obtain ⟨v2, xs2, e2, hs2⟩ := open_intCells f2 (fun x hx => hlt x (by rw [hps]; simp [hx]))
    obtain ⟨v3, xs3, e3, hs3⟩ := open_entrySCells f3 (fun x hx => hlt x (by rw [hps]; simp [hx]))
    obtain ⟨v4, xs4, e4, hs4⟩ := open_seenSCells f4 (fun x hx => hlt x (by rw [hps]; simp [hx]))
    simp at e0 e1 e2 e3 e4
    subst e0 e1 e2 e3 e4
    exact ⟨⟨s, a1, xs2, xs3, xs4⟩, _, _, _, rfl, hs2, hs3, hs4, hs⟩
end
abbrev Sx (w5 : World) (g g' : Nat) (a b c d e a' b' c' d' e' : Value) (w' : World) : Prop :=
  w'.cell? { block := g, off := 0 } = some a ∧ w'.cell? { block := g, off := 1 } = some b ∧ w'.cell? { block := g, off := 2 } = some c ∧ w'.cell? { block := g, off := 3 } = some d ∧ w'.cell? { block := g, off := 4 } = some e ∧
  w'.cell? { block := g', off := 0 } = some a' ∧ w'.cell? { block := g', off := 1 } = some b' ∧ w'.cell? { block := g', off := 2 } = some c' ∧ w'.cell? { block := g', off := 3 } = some d' ∧ w'.cell? { block := g', off := 4 } = some e' ∧ Below w5.heap.size w5 w'
theorem Sx_step {w5 wr w6 : World} {g g' : Nat} {a b c d e a' b' c' d' e' : Value} (k : Below wr.heap.size wr w6) (h : Sx w5 g g' a b c d e a' b' c' d' e' wr) : Sx w5 g g' a b c d e a' b' c' d' e' w6 := by
  obtain ⟨x0, x1, x2, x3, x4, y0, y1, y2, y3, y4, B⟩ := h
  exact ⟨cell_on k x0, cell_on k x1, cell_on k x2, cell_on k x3, cell_on k x4, cell_on k y0, cell_on k y1, cell_on k y2, cell_on k y3, cell_on k y4, B.trans (k.mono B.size)⟩
theorem Sx_at {w5 wr : World} {g g' : Nat} {a b c d e a' b' c' d' e' v : Value} {x : Dc} (h : Sx w5 g g' a b c d e a' b' c' d' e' wr) (s : DocV w5.heap.size w5 v x) : DocV wr.heap.size wr v x := s.later h.2.2.2.2.2.2.2.2.2.2
theorem toD {w : World} {v : Value} {d : Dc} (h : DocV w.heap.size w v d) (hf : Hid d.few) : Calls Try.prog 38 #[v] w fun e w' => ∃ v', e = .returned v' ∧ DocV w'.heap.size w' v' d ∧ Below w.heap.size w w' :=
  toDoc_l v d w h (Nat.le_trans hf.out.1 (by omega)) (Nat.le_trans hf.out.2.1 (by omega)) hf.out.2.2.1 (Nat.le_trans hf.out.2.2.2 (by omega))
theorem hr_s (v : Value) (d : Dc) (R : Int) (w : World) (h : DocV w.heap.size w v d) (hR : Hid (wrap64 (d.frm + d.list.length) = R)) : Calls Try.prog 37 #[v] w fun e w' => e = .returned (.int .i64 R) ∧ Below w.heap.size w w' :=
  (headRev_s v d w h).mono fun _ _ hh => ⟨by rw [← hR.out]; exact hh.1, hh.2⟩
theorem hr_i (v : Value) (d : Dc) (R : Int) (w : World) (h : DocV w.heap.size w v d) (hR : Hid (wrap64 (d.frm + d.list.length) = R)) : Calls Try.prog 39 #[v] w fun e w' => e = .returned (.int .i64 R) ∧ Below w.heap.size w w' :=
  (headRev_i v d w h).mono fun _ _ hh => ⟨by rw [← hR.out]; exact hh.1, hh.2⟩

set_option maxHeartbeats 8000000 in
set_option maxRecDepth 100000 in
theorem walk (w : World) (v0 : Value) (x : Dc) (r0 : DocV w.heap.size w v0 x) :
    Calls Try.prog 11 #[v0] w fun e w' => e = .returned (.bool true) ∧ Below w.heap.size w w' := by
  obtain ⟨R, hR⟩ : ∃ R, wrap64 (x.frm + x.list.length) = R := ⟨_, rfl⟩
  have HR := Lib.hid hR
  clear hR
  have s0 := Lib.hid r0
  obtain ⟨A, c, A2, c2, A3, c3, rfl⟩ := r0.shape
  clear r0
  have hW : ∀ (a : Obj), Below w.heap.size w (w.alloc a) := fun a => (Below.refl _ _).alloc (Nat.le_refl _) a
  have HW := Lib.hid hW
  clear hW
  go_enter Try.func11, Try.ntmps11
  go_wp2_with (fail)
  refine (szDoc_l _ x _ (s0.out.later (HW.out _))).mono ?_
  rintro e w1 ⟨r, rfl, b1, hr⟩
  have X1 := Lib.hid (Box5.later Box5.new b1)
  have B1 := Lib.hid ((HW.out _).trans (b1.mono (by simp)))
  obtain ⟨x0, x1, x2, x3, x4⟩ := X1.out
  clear b1
  rcases hr with hr | ⟨hr, hf⟩
  · go_wp2_with (fail)
    go_ret
    exact ⟨rfl, B1.out⟩
  have HF := Lib.hid hf
  clear hf
  have D1 := Lib.hid (s0.out.later B1.out)
  go_wp2_with (fail)
  refine (toD D1.out HF).mono ?_
  rintro e w2 ⟨v2, rfl, d2, b2⟩
  have B2 := Lib.hid (B1.out.trans (b2.mono B1.out.size))
  have X2 := Lib.hid (X1.out.later b2)
  obtain ⟨A4, c4, A5, c5, A6, c6, rfl⟩ := d2.shape
  have E2 := Lib.hid d2
  clear d2 b2 x0 x1 x2 x3 x4
  obtain ⟨x0, x1, x2, x3, x4⟩ := X2.out
  go_wp2_with (fail)
  refine (hr_s _ x R _ E2.out HR).mono ?_
  rintro e w3 ⟨rfl, b3⟩
  have B3 := Lib.hid (B2.out.trans (b3.mono B2.out.size))
  have X3 := Lib.hid (X2.out.later b3)
  clear b3 x0 x1 x2 x3 x4 E2
  obtain ⟨x0, x1, x2, x3, x4⟩ := X3.out
  have D3 := Lib.hid (s0.out.later B3.out)
  go_wp2_with (fail)
  refine (toD D3.out HF).mono ?_
  rintro e w4 ⟨v4, rfl, d4, b4⟩
  have B4 := Lib.hid (B3.out.trans (b4.mono B3.out.size))
  have X4 := Lib.hid (X3.out.later b4)
  obtain ⟨A7, c7, A8, c8, A9, c9, rfl⟩ := d4.shape
  have E4 := Lib.hid d4
  have l4 := World.block_lt_of_cell? _ _ X4.out.1
  dsimp only at l4
  clear d4 b4 x0 x1 x2 x3 x4
  obtain ⟨x0, x1, x2, x3, x4⟩ := X4.out
  have hA : ∀ o : Obj, Below w4.heap.size w4 (w4.alloc o) := fun o => (Below.refl _ _).alloc (Nat.le_refl _) o
  have HA := Lib.hid hA
  clear hA
  go_wp2_with (fail)
  refine (hr_i _ x R _ (E4.out.later (HA.out _)) HR).mono ?_
  rintro e w5 ⟨rfl, b5⟩
  have Y5 := Lib.hid (Box5.later Box5.new b5)
  have b5' := (HA.out _).trans (b5.mono (by simp))
  have B5 := Lib.hid (B4.out.trans (b5'.mono B4.out.size))
  have X5 := Lib.hid (X4.out.later b5')
  have E5 := Lib.hid (E4.out.later b5')
  have D5 := Lib.hid (s0.out.later B5.out)
  clear b5 b5' HA x0 x1 x2 x3 x4 l4 E4 D1 D3
  obtain ⟨x0, x1, x2, x3, x4⟩ := X5.out
  obtain ⟨y0, y1, y2, y3, y4⟩ := Y5.out
  go_wp2_with (fail)
  go_region_held3 (fun w' => Sx w5 w4.heap.size w.heap.size (.string x.name) (.int .i64 x.frm) (.slice A7 x.text.length c7) (.slice A8 x.list.length c8) (.slice A9 x.seen.length c9) (.string x.name) (.int .i64 x.frm) (.slice A x.text.length c) (.slice A2 x.list.length c2) (.slice A3 x.seen.length c3) w')
    (first
      | assumption
      | exact ⟨y0, y1, y2, y3, y4, x0, x1, x2, x3, x4, (Below.refl _ _).drew⟩
      | exact Sx_step b6 (by assumption))
    (first
      | (go_at_call 38; refine (toD (Sx_at (by assumption) D5.out) HF).mono ?_; rintro e w6 ⟨v6, rfl, e6, b6⟩)
      | (go_at_call 40; refine (eqDoc_b _ _ x _ (Sx_at (by assumption) E5.out) e6).mono ?_; rintro e w8 ⟨rfl, b6⟩))
  rename_i hz
  go_wp2_with (fail)
  go_ret
  exact ⟨rfl, B5.out.trans (hz.2.2.2.2.2.2.2.2.2.2.mono B5.out.size)⟩
set_option maxRecDepth 100000 in
theorem lifted (os : Os) (started : os.Started) (H : Type) (enc : TypeId × Value → H) :
    ReturnsInHanded {} Try.checked os 11 .any (Rows.fnExactHeadRevSpec.pre6 enc Try.prog Try.f11 Rows.fnExactHeadRevRow.domain false) (Rows.fnExactHeadRevSpec.post enc Try.prog Try.f11 false true false false) := by
  refine returnsInHanded_of_change (C := Try.checked) ownNone started (by kernel_rfl) Try.func11
    (ChangeSpec.witness6 (enc := enc) (C := Try.checked) false ⟨#[], #[.agg #[.string ⟨#[]⟩, .int .i64 0, .slice none 0 0, .slice none 0 0, .slice none 0 0]], []⟩ 8 (by kernel_rfl) (by kernel_rfl) (by kernel_rfl) (by kernel_rfl)) ?_
  intro W base args ds gs before hval0 hW hcnd _
  have hval : ∀ (j : Nat) t v, Try.f11.params[j]? = some t → args[j]? = some v → Value.okWide Try.prog W .any base t v := hval0
  have hW' := hW
  obtain ⟨p, q, hA0, hV, rfl, hfz, hnd⟩ := hW
  have hA : DataW.TrodAll enc Try.prog W 0 (fun _ => true) true Try.f11.params.toList args.toList ds p := hA0
  rw [Try.params11] at hA hval
  obtain ⟨v0, vs0, d0, ds0, p0, q0, hargs, rfl, rfl, h0, r0⟩ := trodAll_cons hA
  obtain ⟨rfl, rfl, rfl⟩ := trodAll_nil r0
  obtain rfl : args = #[v0] := by cases args; simp_all
  obtain ⟨rfl, rfl⟩ := trodVars_none hV
  obtain ⟨a0, s0⟩ := open_doc (hval 0 43 v0 rfl rfl) h0 (fun x hx => hW'.lt x (by simp [hx]))
  clear hA0 hval0
  refine (walk W v0 a0 s0).mono fun e W' ⟨he, hb⟩ => ?_
  subst he
  exact ⟨_, rfl, law_post hW' rfl hb (by kernel_rfl) (by kernel_rfl) rfl⟩

theorem over : Rows.fnExactHeadRevRow.holds Try.pinned (OpenSpec.ofChange Rows.fnExactHeadRevSpec) :=
  OpenClaim.holds_of_wide 11 Try.f11 rfl rfl rfl rfl rfl rfl rfl ⟨rfl, rfl, rfl, rfl, rfl⟩ rfl rfl rfl rfl rfl (by kernel_rfl) Try.func11 (by kernel_rfl)
    (of_decide_eq_true (by kernel_rfl)) (by unfold Func.isWrapper; first | (rw [if_pos (by decide +kernel)]; kernel_rfl) | (rw [if_neg (by decide +kernel)]; exact ⟨rfl, rfl⟩))
    (fun os started H enc _ => lifted os started H enc)

/-- The given statement. -/
theorem proved : Rows.FnExactHeadRevSaid :=
  over
end Go.Proofs.Ytadhgjfiblepaaa.fnExactHeadRev
