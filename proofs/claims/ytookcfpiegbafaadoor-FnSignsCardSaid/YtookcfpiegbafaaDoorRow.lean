/- How the arguments of a law are opened, and how its row is closed behind a walk that leaves all that was there as it was. No condition. -/
import Derived.Test.YtookcfpiegbafaaDoorRows
import Derived.Test.YtookcfpiegbafaaDoorMem
import Derived.WalkKit
import Derived.ProofKit
import Derived.OpenShut
import Derived.Carry
import Derived.Deep.Slices
namespace Go.Proofs.YtookcfpiegbafaaDoor
open Go.ChangeShapes Go.WideShapes Go.ChangeAt Go.RowKit
set_option maxRecDepth 100000

theorem laidOut : laidOutB Tryd.prog = true := by kernel_rfl
theorem ownNone : ownKnob Tryd.prog.godebug = none := by kernel_rfl

section
variable {H : Type} {enc : TypeId × Value → H}

theorem trodAll_below {P : Program} (hl : laidOutB P = true) {W W' : World} (hb : Below W.heap.size W W') (ts : List TypeId) : ∀ (vs : List Value) (ds : List (DataW H)) (ps : List MemPlace),
    (ts.all fun t => P.readableRec t && decide (t < P.types.size)) = true → DataW.TrodAll enc P W 0 (fun _ => true) true ts vs ds ps → (∀ x ∈ ps, x.block < W.heap.size) →
    DataW.TrodAll enc P W' 0 (fun b => decide (b < W.heap.size)) true ts vs ds ps := by
  induction ts with
  | nil =>
    intro vs ds ps _ h _
    match vs, ds, h with
    | [], [], h => exact h
    | _ :: _, _, h => exact h.elim
    | [], _ :: _, h => exact h.elim
  | cons t ts ih =>
    intro vs ds ps hr h hlt
    match vs, ds, h with
    | [], _, h => exact h.elim
    | _ :: _, [], h => exact h.elim
    | v :: vs, d :: ds, h =>
      obtain ⟨p, q, h0, h1, rfl⟩ := h
      rw [List.all_cons, Bool.and_eq_true, Bool.and_eq_true, decide_eq_true_eq] at hr
      exact ⟨p, q, Below.trod hl hr.1.1 hr.1.2 h0 hb (fun x hx => hlt x (List.mem_append_left _ hx)),
        ih vs ds q hr.2 h1 (fun x hx => hlt x (List.mem_append_right _ hx)), rfl⟩

/-- The row's last step: the law returned true and left what was there as it was. -/
theorem law_post {f : Func} {s : ChangeSpec} {W W' : World} {args : Array Value} {ds gs : List (DataW H)} {before : List MemPlace}
    (hW : DataW.Whole enc Tryd.prog f.params.toList s.vars false W args.toList ds gs before) (hv : s.vars = []) (hb : Below W.heap.size W W')
    (hr : (f.params.toList.all fun t => Tryd.prog.readableRec t && decide (t < Tryd.prog.types.size)) = true) (hres : f.resultTypes = #[4])
    (hs : s.fn H (ds ++ gs) = { results := [.lit (.bool true)], args := ds }) : s.post enc Tryd.prog f false true false false W args (.bool true) W' := by
  have hW' := hW
  obtain ⟨p, q, hA, hV, rfl, hfz, hnd⟩ := hW
  rw [hv] at hV
  obtain ⟨rfl, rfl⟩ := trodVars_none hV
  refine ⟨ds, [], p ++ [], [], p, [], hW', ?_, ?_, ?_, hb.frame _, fun h => by cases h⟩
  · rw [hs, hres]
    exact trodAll_mk1 (shut_bool Tryd.underlying4 _)
  · rw [hs]
    refine trodAll_below laidOut hb _ _ _ _ hr hA (fun x hx => hW'.lt x (List.mem_append_left _ hx))
  · rw [hs, hv]
    exact rfl

/-- The cells of a slice of ints that came in. -/
theorem open_intCells {W : World} {fuel : Nat} {cs : List Value} {y : DataW H × List MemPlace} (h : DataW.trod enc Tryd.prog W 0 (fun _ => true) true fuel 31 cs = some y)
    (hlt : ∀ x ∈ y.2, x.block < W.heap.size) : ∃ v xs, cs = [v] ∧ SliceInts W.heap.size W v xs := by
  rcases open_ints Tryd.underlying31 Tryd.underlying3 (by kernel_rfl) h with ⟨hcs, hx⟩ | ⟨a, len, cap, zs, hcs, _, hl, hm, hz, hx, hcell, hwz⟩
  · exact ⟨_, [], hcs, none, 0, rfl, ⟨Nat.le_refl _, Nat.zero_le _⟩, fun k hk => absurd hk (Nat.not_lt_zero _)⟩
  · simp only [if_true] at hz
    have hlz : (zs.take len).length = len := by rw [List.length_take]; omega
    refine ⟨_, zs.take len, hcs, some a, cap, by rw [hlz], ⟨by omega, hm⟩, fun k hk => ?_⟩
    have hkz : k < zs.length := by omega
    obtain ⟨b, off, spot⟩ := a
    have hspot : spot = none := by simpa [Addr.add] using World.cell?_spot (hcell 0 (by omega))
    subst hspot
    have hc := hcell k hkz
    rw [add_plain] at hc
    refine ⟨b, off, rfl, ?_, ?_⟩
    · exact hlt (.cell b off) (by rw [hx]; exact MemPlace.mem_row.2 ⟨0, by omega, by simp⟩)
    · rw [hc]
      have hkl : k < len := by omega
      simp [List.getD, hkl]

/-- A slice of ints that came in. -/
theorem open_intS {W : World} {r : Reach} {b0 : Nat} {v : Value} {d : DataW H} {ps : List MemPlace} (hval : Value.okWide Tryd.prog W r b0 31 v)
    (h : DataW.Trod enc Tryd.prog W 0 (fun _ => true) true 31 v d ps) (hlt : ∀ x ∈ ps, x.block < W.heap.size) : ∃ xs, SliceInts W.heap.size W v xs ∧ xs.length ≤ maxLen := by
  obtain ⟨a0, len, cap, rfl⟩ := okWide_slice Tryd.underlying31 hval
  obtain ⟨fuel, hf⟩ := h
  obtain ⟨v', xs, hcs, hs⟩ := open_intCells hf hlt
  simp [Value.cells] at hcs
  subst hcs
  exact ⟨xs, hs, hs.len⟩

/-- The three cells of a part that came in. -/
theorem open_partCells {W : World} {fuel : Nat} {cs : List Value} {y : DataW H × List MemPlace} (h : DataW.trod enc Tryd.prog W 0 (fun _ => true) true fuel 59 cs = some y)
    (hlt : ∀ x ∈ y.2, x.block < W.heap.size) : ∃ p sv, cs = [.int .i64 (Pt.kind p), .int .i64 p.n, sv] ∧ SliceInts W.heap.size W sv p.signs := by
  obtain ⟨xs, n, _, hy, hlen, hxl, hf⟩ := DataW.trod_struct Tryd.underlying59 h
  have hC : Tryd.prog.cellsOf 59 = 3 := by kernel_rfl
  have h1 : Tryd.prog.cellsOf 3 = 1 := by kernel_rfl
  have h2 : Tryd.prog.cellsOf 31 = 1 := by kernel_rfl
  rw [hC] at hlen
  match cs, hlen, xs, hxl with
  | [c0, c1, c2], _, [y0, y1, y2], _ =>
    have f0 : DataW.trod enc Tryd.prog W 0 (fun _ => true) true n 3 (([c0, c1, c2].drop 0).take (Tryd.prog.cellsOf 3)) = some y0 := hf 0 _ rfl
    have f1 : DataW.trod enc Tryd.prog W 0 (fun _ => true) true n 3 (([c0, c1, c2].drop 1).take (Tryd.prog.cellsOf 3)) = some y1 := hf 1 _ rfl
    have f2 : DataW.trod enc Tryd.prog W 0 (fun _ => true) true n 31 (([c0, c1, c2].drop 2).take (Tryd.prog.cellsOf 31)) = some y2 := hf 2 _ rfl
    rw [h1] at f0 f1
    rw [h2] at f2
    simp at f0 f1 f2
    obtain ⟨a0, e0, _, _⟩ := DataW.trod_int Tryd.underlying3 f0
    obtain ⟨a1, e1, _, _⟩ := DataW.trod_int Tryd.underlying3 f1
    obtain ⟨v, zs, e2, hs⟩ := open_intCells f2 (fun x hx => hlt x (by rw [hy]; simp [hx]))
    simp at e0 e1 e2
    subst e0 e1 e2
    exact ⟨⟨a0, a1, zs⟩, _, rfl, hs⟩

/-- A part that came in by value. -/
theorem open_part {W : World} {r : Reach} {b0 : Nat} {v : Value} {d : DataW H} {ps : List MemPlace} (hval : Value.okWide Tryd.prog W r b0 59 v)
    (h : DataW.Trod enc Tryd.prog W 0 (fun _ => true) true 59 v d ps) (hlt : ∀ x ∈ ps, x.block < W.heap.size) : ∃ p, PartV W.heap.size W v p := by
  obtain ⟨cs, rfl, hsz⟩ := okWide_struct Tryd.underlying59 hval
  obtain ⟨fuel, hf⟩ := h
  obtain ⟨p, sv, hcs, hs⟩ := open_partCells hf hlt
  obtain ⟨l⟩ := cs
  simp [Value.cells] at hcs
  subst hcs
  exact ⟨p, sv, rfl, hs⟩

/-- The cell of a slice of parts that came in. -/
theorem open_partSCells {W : World} {fuel : Nat} {cs : List Value} {y : DataW H × List MemPlace} (h : DataW.trod enc Tryd.prog W 0 (fun _ => true) true fuel 36 cs = some y)
    (hlt : ∀ x ∈ y.2, x.block < W.heap.size) : ∃ v ps, cs = [v] ∧ SliceParts W.heap.size W v ps := by
  have hC : Tryd.prog.cellsOf 59 = 3 := by kernel_rfl
  rcases Go.Deep.open_slice Tryd.underlying36 h with ⟨hcs, hx⟩ | ⟨a, len, cap, m, n, D, Pl, hcs, _, hl, hm, hmm, hx, hi⟩
  · exact ⟨_, [], hcs, none, 0, rfl, ⟨Nat.le_refl _, Nat.zero_le _⟩, fun k hk => absurd hk (Nat.not_lt_zero _)⟩
  · simp only [if_true] at hmm
    rw [hC] at hi hx
    have each : ∀ k, k < len → ∃ q : Pt × Value, W.cell? (a.add (k * 3)) = some (.int .i64 q.1.kind) ∧ W.cell? (a.add (k * 3 + 1)) = some (.int .i64 q.1.n) ∧ W.cell? (a.add (k * 3 + 2)) = some q.2 ∧ SliceInts W.heap.size W q.2 q.1.signs := by
      intro k hk
      obtain ⟨cs', hc, ht⟩ := hi k (by omega)
      obtain ⟨p, sv, hcs', hs⟩ := open_partCells ht (fun x hx' => hlt x (by
        rw [hx]
        exact List.mem_append_right _ (List.mem_flatMap.2 ⟨k, List.mem_range.2 (by omega), hx'⟩)))
      obtain ⟨_, _, hat⟩ := World.cells?_some hc
      subst hcs'
      have a0 := hat 0 (by omega)
      have a1 := hat 1 (by omega)
      have a2 := hat 2 (by omega)
      rw [Go.Deep.add_add] at a0 a1 a2
      exact ⟨(p, sv), a0, a1, a2, hs⟩
    have : ∃ f : Nat → Pt × Value, ∀ k, k < len → W.cell? (a.add (k * 3)) = some (.int .i64 (f k).1.kind) ∧ W.cell? (a.add (k * 3 + 1)) = some (.int .i64 (f k).1.n) ∧ W.cell? (a.add (k * 3 + 2)) = some (f k).2 ∧ SliceInts W.heap.size W (f k).2 (f k).1.signs := by
      classical
      refine ⟨fun k => if hk : k < len then Classical.choose (each k hk) else (⟨0, 0, []⟩, undef), fun k hk => ?_⟩
      simp only [dif_pos hk]
      exact Classical.choose_spec (each k hk)
    obtain ⟨f, hf⟩ := this
    have hlen : ((List.range len).map fun k => (f k).1).length = len := by simp
    refine ⟨_, (List.range len).map fun k => (f k).1, hcs, some a, cap, by rw [hlen], ⟨by omega, hm⟩, fun k hk => ?_⟩
    rw [hlen] at hk
    obtain ⟨c0, c1, c2, hs⟩ := hf k hk
    have hg : ((List.range len).map fun k => (f k).1).getD k ⟨0, 0, []⟩ = (f k).1 := by simp [List.getD, hk]
    obtain ⟨b, off, spot⟩ := a
    have hspot : spot = none := by
      have := (hf 0 (by omega)).1
      simpa [Addr.add] using World.cell?_spot this
    subst hspot
    rw [add_plain] at c0 c1 c2
    rw [hg]
    exact ⟨b, off, (f k).2, rfl, hlt (.cell b off) (by rw [hx]; exact List.mem_append_left _ (MemPlace.mem_row.2 ⟨0, by omega, by simp⟩)), c0, by rw [Nat.add_assoc]; exact c1, by rw [Nat.add_assoc]; exact c2, hs⟩

/-- A slice of parts that came in. -/
theorem open_partS {W : World} {r : Reach} {b0 : Nat} {v : Value} {d : DataW H} {ps : List MemPlace} (hval : Value.okWide Tryd.prog W r b0 36 v)
    (h : DataW.Trod enc Tryd.prog W 0 (fun _ => true) true 36 v d ps) (hlt : ∀ x ∈ ps, x.block < W.heap.size) : ∃ qs, SliceParts W.heap.size W v qs ∧ qs.length ≤ maxLen := by
  obtain ⟨a0, len, cap, rfl⟩ := okWide_slice Tryd.underlying36 hval
  obtain ⟨fuel, hf⟩ := h
  obtain ⟨v', qs, hcs, hs⟩ := open_partSCells hf hlt
  simp [Value.cells] at hcs
  subst hcs
  exact ⟨qs, hs, hs.len⟩
end
end Go.Proofs.YtookcfpiegbafaaDoor
