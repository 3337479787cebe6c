/- The law FnExactPartOk returns true for every argument and leaves memory as it was. Condition: none. -/
import Derived.Test.YtnojokoabeiegaaRow
import Derived.Test.YtnojokoabeiegaaEqParts
import Derived.Test.YtnojokoabeiegaaParts
import Derived.Deep.RegionHeld3
namespace Go.Proofs.Ytnojokoabeiegaa.fnExactPartOk
open Go.ChangeShapes Go.WideShapes Go.ChangeAt Go.RowKit
set_option linter.unusedVariables false

theorem cellsAt {w wk : World} {k n sv : Value} {t : Nat} (b : Below (w.heap.size + 1) (w.alloc (.cells #[k, n, sv] t)) wk) :
    wk.cell? { block := w.heap.size, off := 0 } = some k ∧ wk.cell? { block := w.heap.size, off := 1 } = some n ∧ wk.cell? { block := w.heap.size, off := 2 } = some sv := by
  obtain ⟨x0, x1, x2, -, -⟩ := blk3 (w := wk) (g := w.heap.size) (t := t) ((b.block _ (by omega)).trans (heap_new_at _ _ rfl))
  exact ⟨x0, x1, x2⟩

abbrev Sx (w5 : World) (g g' : Nat) (k n sv sv' : Value) (w' : World) : Prop :=
  w'.cell? { block := g, off := 0 } = some k ∧ w'.cell? { block := g, off := 1 } = some n ∧ w'.cell? { block := g, off := 2 } = some sv ∧
  w'.cell? { block := g', off := 0 } = some k ∧ w'.cell? { block := g', off := 1 } = some n ∧ w'.cell? { block := g', off := 2 } = some sv' ∧ Below w5.heap.size w5 w'
theorem cell_later {B : Nat} {w w' : World} {a : Addr} {v : Value} (b : Below B w w') (h : w.cell? a = some v) (hb : a.block < B) : w'.cell? a = some v :=
  (b.cell hb).trans h
theorem Sx_step {w5 wr w6 : World} {g g' : Nat} {k n sv sv' : Value} (b : Below wr.heap.size wr w6) (h : Sx w5 g g' k n sv sv' wr) : Sx w5 g g' k n sv sv' w6 := by
  obtain ⟨x0, x1, x2, y0, y1, y2, B⟩ := h
  exact ⟨cell_later b x0 (World.block_lt_of_cell? _ _ x0), cell_later b x1 (World.block_lt_of_cell? _ _ x1), cell_later b x2 (World.block_lt_of_cell? _ _ x2),
    cell_later b y0 (World.block_lt_of_cell? _ _ y0), cell_later b y1 (World.block_lt_of_cell? _ _ y1), cell_later b y2 (World.block_lt_of_cell? _ _ y2), B.trans (b.mono B.size)⟩
theorem Sx_later {w5 wr : World} {g g' : Nat} {k n sv sv' v : Value} {xs : List Int} (h : Sx w5 g g' k n sv sv' wr) (s : SliceInts w5.heap.size w5 v xs) : SliceInts wr.heap.size wr v xs := s.later h.2.2.2.2.2.2

set_option maxHeartbeats 8000000 in
set_option maxRecDepth 100000 in
theorem walk (w : World) (v0 : Value) (p : Pt) (r0 : PartV w.heap.size w v0 p) : Calls Try.prog 11 #[v0] w fun e w' => e = .returned (.bool true) ∧ Below w.heap.size w w' := by
  obtain ⟨sv, rfl, hs⟩ := r0
  have hs0 := Lib.hid hs
  have hl := hs.len
  obtain ⟨A, c, rfl, -, -⟩ := hs
  have hW : ∀ (a : Obj), Below w.heap.size w (w.alloc a) := fun a => (Below.refl _ _).alloc (Nat.le_refl _) a
  have HW := Lib.hid hW
  clear hW
  by_cases hq : (1048576 : Int) < p.signs.length
  · go_enter Try.func11, Try.ntmps11
    go_wp2_with (fail)
    refine (szPart_l _ _ p 1048576 _ ⟨_, rfl, hs0.out.later (HW.out _)⟩ (by omega) (by omega)).mono ?_
    rw [if_pos (by omega)]
    rintro e w1 ⟨rfl, b1⟩
    have z1 := b1.size
    simp only [World.size_alloc] at z1
    go_wp2_with (fail)
    go_ret
    exact ⟨rfl, (HW.out _).trans (b1.mono (by simp))⟩
  · go_enter Try.func11, Try.ntmps11
    go_wp2_with (fail)
    refine (szPart_l _ _ p 1048576 _ ⟨_, rfl, hs0.out.later (HW.out _)⟩ (by omega) (by omega)).mono ?_
    rw [if_neg (by omega)]
    rintro e w1 ⟨rfl, b1⟩
    have z1 := b1.size
    have HK := b1
    simp only [World.size_alloc] at HK z1
    have HB := Lib.hid ((HW.out _).trans (b1.mono (by simp)))
    obtain ⟨x0, x1, x2⟩ := cellsAt HK
    clear b1
    replace HK := Lib.hid HK
    go_wp2_with (fail)
    refine (toPart_l _ p _ ⟨_, rfl, (hs0.out.later HB.out).mono (by omega)⟩ (by omega)).mono ?_
    rintro e w2 ⟨s, rfl, os, b2⟩
    have z2 := b2.size
    replace HK := Lib.hid (HK.out.trans (b2.mono (by omega)))
    replace HB := Lib.hid (HB.out.trans (b2.mono (by omega)))
    clear x0 x1 x2
    obtain ⟨x0, x1, x2⟩ := cellsAt HK.out
    go_wp2_with (fail)
    refine (partOk_s _ p _ ⟨_, rfl, os.slice⟩).mono ?_
    rintro e w3 ⟨rfl, b3⟩
    have z3 := b3.size
    replace HK := Lib.hid (HK.out.trans (b3.mono (by omega)))
    replace HB := Lib.hid (HB.out.trans (b3.mono (by omega)))
    clear x0 x1 x2
    obtain ⟨x0, x1, x2⟩ := cellsAt HK.out
    clear os b2 b3
    go_wp2_with (fail)
    refine (toPart_l _ p _ ⟨_, rfl, (hs0.out.later HB.out).mono (by omega)⟩ (by omega)).mono ?_
    rintro e w4 ⟨x, rfl, ox, b4⟩
    have z4 := b4.size
    replace HK := Lib.hid (HK.out.trans (b4.mono (by omega)))
    replace HB := Lib.hid (HB.out.trans (b4.mono (by omega)))
    clear x0 x1 x2
    obtain ⟨x0, x1, x2⟩ := cellsAt HK.out
    have hox := Lib.hid ox
    obtain ⟨Ax, cx, rfl, -, -⟩ := ox.slice
    clear ox
    go_wp2_with (fail)
    have hA : ∀ o : Obj, Below w4.heap.size w4 (w4.alloc o) := fun o => (Below.refl _ _).alloc (Nat.le_refl _) o
    have HA := Lib.hid hA
    clear hA
    refine (partOk_i _ p _ ⟨_, rfl, hox.out.slice.later (HA.out _)⟩).mono ?_
    rintro e w5 ⟨rfl, b5⟩
    have z5 := b5.size
    have HX := b5
    simp only [World.size_alloc] at HX z5
    obtain ⟨y0, y1, y2⟩ := cellsAt HX
    have hb5 := (HA.out _).trans (b5.mono (by simp))
    replace HX := Lib.hid HX
    replace HK := Lib.hid (HK.out.trans (hb5.mono (by omega)))
    replace HB := Lib.hid (HB.out.trans (hb5.mono (by omega)))
    have ox := Lib.hid (hox.out.slice.later hb5)
    clear x0 x1 x2 b5 hb5 hox
    obtain ⟨x0, x1, x2⟩ := cellsAt HK.out
    have oa := Lib.hid (hs0.out.later HB.out)
    clear HX HK z1 z2 z3 z4 z5 HA b4
    go_wp2_with (fail)
    go_region_held3 (fun w' => Sx w5 w.heap.size w4.heap.size (.int .i64 p.kind) (.int .i64 p.n) (.slice A p.signs.length c) (.slice Ax p.signs.length cx) w')
      (first
        | assumption
        | exact ⟨x0, x1, x2, y0, y1, y2, (Below.refl _ _).drew⟩
        | exact Sx_step b6 (by assumption))
      (first
        | (go_at_call 33; refine (toPart_l _ p _ ⟨_, rfl, Sx_later (by assumption) oa.out⟩ (by omega)).mono ?_; rintro e w6 ⟨t, rfl, ot, b6⟩)
        | (go_at_call 35; refine (eqPart_b _ _ p _ ⟨_, rfl, Sx_later (by assumption) ox.out⟩ ⟨_, rfl, ot.slice⟩).mono ?_; rintro e w7 ⟨rfl, b6⟩))
    rename_i hz
    go_wp2_with (fail)
    go_ret
    exact ⟨rfl, HB.out.trans (hz.2.2.2.2.2.2.mono (by have := HB.out.size; omega))⟩
set_option maxRecDepth 100000 in
theorem lifted (os : Os) (started : os.Started) (H : Type) (enc : TypeId × Value → H) :
    ReturnsInHanded {} Try.checked os 11 .any (Rows.fnExactPartOkSpec.pre6 enc Try.prog Try.f11 Rows.fnExactPartOkRow.domain false) (Rows.fnExactPartOkSpec.post enc Try.prog Try.f11 false true false false) := by
  refine returnsInHanded_of_change (C := Try.checked) ownNone started (by kernel_rfl) Try.func11
    (ChangeSpec.witness6 (enc := enc) (C := Try.checked) false ⟨#[], #[.agg #[.int .i64 0, .int .i64 0, .slice none 0 0]], []⟩ 8 (by kernel_rfl) (by kernel_rfl) (by kernel_rfl) (by kernel_rfl)) ?_
  intro W base args ds gs before hval0 hW hcnd _
  have hval : ∀ (j : Nat) t v, Try.f11.params[j]? = some t → args[j]? = some v → Value.okWide Try.prog W .any base t v := hval0
  have hW' := hW
  obtain ⟨p, q, hA0, hV, rfl, hfz, hnd⟩ := hW
  have hA : DataW.TrodAll enc Try.prog W 0 (fun _ => true) true Try.f11.params.toList args.toList ds p := hA0
  rw [Try.params11] at hA hval
  obtain ⟨v0, vs0, d0, ds0, p0, q0, hargs, rfl, rfl, h0, r0⟩ := trodAll_cons hA
  obtain ⟨rfl, rfl, rfl⟩ := trodAll_nil r0
  obtain rfl : args = #[v0] := by cases args; simp_all
  obtain ⟨rfl, rfl⟩ := trodVars_none hV
  obtain ⟨a0, s0⟩ := open_part (hval 0 32 v0 rfl rfl) h0 (fun x hx => hW'.lt x (by simp [hx]))
  clear hA0 hval0
  refine (walk W v0 a0 s0).mono fun e W' ⟨he, hb⟩ => ?_
  subst he
  exact ⟨_, rfl, law_post hW' rfl hb (by kernel_rfl) (by kernel_rfl) rfl⟩

theorem over : Rows.fnExactPartOkRow.holds Try.pinned (OpenSpec.ofChange Rows.fnExactPartOkSpec) :=
  OpenClaim.holds_of_wide 11 Try.f11 rfl rfl rfl rfl rfl rfl rfl ⟨rfl, rfl, rfl, rfl, rfl⟩ rfl rfl rfl rfl rfl (by kernel_rfl) Try.func11 (by kernel_rfl)
    (of_decide_eq_true (by kernel_rfl)) (by unfold Func.isWrapper; first | (rw [if_pos (by decide +kernel)]; kernel_rfl) | (rw [if_neg (by decide +kernel)]; exact ⟨rfl, rfl⟩))
    (fun os started H enc _ => lifted os started H enc)

/-- The given statement. -/
theorem proved : Rows.FnExactPartOkSaid :=
  over
end Go.Proofs.Ytnojokoabeiegaa.fnExactPartOk
