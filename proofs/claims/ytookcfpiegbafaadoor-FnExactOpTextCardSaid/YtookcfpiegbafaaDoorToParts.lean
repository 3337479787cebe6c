/- Contracts of the laws' copies of parts: toPart, toPartS. Condition: none longer than 4194304. -/
import Derived.Test.YtookcfpiegbafaaDoorSizes
namespace Go.Proofs.YtookcfpiegbafaaDoor
open Go.RowKit
set_option maxRecDepth 100000

theorem OwnI.down {lo lo' hi hi' : Nat} {w : World} {v : Value} {xs : List Int} (h : OwnI lo hi w v xs) (h1 : lo' ≤ lo) (h2 : hi ≤ hi') : OwnI lo' hi' w v xs := by
  refine ⟨⟨h.1.1, ?_⟩, fun g hg => by have := h.2 g hg; omega⟩
  rcases h.1.2 with hn | ⟨g, cap, cur, rfl, hb, r⟩
  · exact .inl hn
  · exact .inr ⟨g, cap, cur, rfl, by omega, r⟩

set_option maxHeartbeats 800000 in
theorem toPart_l (v : Value) (p : Pt) (w : World) (h : PartV w.heap.size w v p) (hl : p.signs.length ≤ 4194304) :
    Calls Tryd.prog 55 #[v] w fun e w' => ∃ sv, e = .returned (.agg #[.int .i64 p.kind, .int .i64 p.n, sv]) ∧ OwnI w.heap.size w'.heap.size w' sv p.signs ∧ Below w.heap.size w w' := by
  obtain ⟨sv, rfl, hs⟩ := h
  have hs0 := hs
  obtain ⟨A, c, rfl, -, -⟩ := hs
  have hW : ∀ (a b c : Obj), Below w.heap.size w (((w.alloc a).alloc b).alloc c) := fun a b c => (((Below.refl _ _).alloc (Nat.le_refl _) a).alloc (by simp) b).alloc (by simp; omega) c
  go_enter Tryd.func55, Tryd.ntmps55
  go_wp2_with (fail)
  refine (toIntS_l _ p.signs _ (hs0.later (hW _ _ _)) hl).mono ?_
  rintro e w1 ⟨v1, rfl, o1, b1⟩
  have hb := (hW _ _ _).trans (b1.mono (by simp; omega))
  obtain ⟨x0, x1, x2, x3, x4⟩ := blk3 (w := w1) (g := w.heap.size + 1) (t := 62) ((b1.block _ (by simp)).trans (by
    rw [Below.heap_alloc _ _ _ (by simp)]; exact heap_new_at _ _ (by simp)))
  obtain ⟨y0, y1, y2, y3, y4⟩ := blk3 (w := w1) (g := w.heap.size + 2) (t := 62) ((b1.block _ (by simp)).trans (heap_new_at _ _ (by simp)))
  have ho : OwnI (w.heap.size + 3) w1.heap.size w1 v1 p.signs := o1.down (by simp) (Nat.le_refl _)
  obtain ⟨A1, c1, rfl, -, -⟩ := ho.slice
  clear o1 b1 hW hs0
  go_wp2_with (fail)
  refine bodyPost_ret (v := .agg #[.int .i64 p.kind, .int .i64 p.n, .slice A1 p.signs.length c1]) (by simp [results, Tryd.results55, go_sem, x0, x1, x2]) rfl ⟨_, rfl, ?_, ?_⟩
  · refine (ho.within (lo' := w.heap.size) (hi' := w.heap.size + 3) ?_ (.inr (Nat.le_refl _))).down (by omega) ?_
    · repeat (first | exact Within.refl _ _ _ | refine Within.set ?_ (by omega) (by omega) _ _)
    · simp [World.setCell]
  · repeat (first | exact hb | refine Below.setCell ?_ (by dsimp only; omega) _)

theorem partInfo : (Tryd.prog.info? 62).map (fun i => (i.zero, i.size, i.bytes)) = some (some (.agg #[.int .i64 0, .int .i64 0, .slice none 0 0]), 3, 40) := by kernel_rfl

/-- What a loop that copies parts has written after k rounds. -/
def partP (ps : List Pt) (svs : List Value) : List Value := cellsP (ps.take svs.length) svs ++ (List.replicate (ps.length - svs.length) [Value.int .i64 0, .int .i64 0, .slice none 0 0]).flatten
theorem partP_step (ps : List Pt) (svs : List Value) (sv : Value) (h : svs.length < ps.length) :
    (((partP ps svs).set (svs.length * 3) (.int .i64 (ps.getD svs.length ⟨0, 0, []⟩).kind)).set (svs.length * 3 + 1) (.int .i64 (ps.getD svs.length ⟨0, 0, []⟩).n)).set (svs.length * 3 + 2) sv = partP ps (svs ++ [sv]) := by
  have e : ps.length - svs.length = (ps.length - (svs.length + 1)) + 1 := by omega
  have ht : (ps.take svs.length).length = svs.length := by rw [List.length_take]; omega
  have hl := cellsP_length (ps.take svs.length) svs ht.symm
  rw [ht] at hl
  have hc : cellsP (ps.take (svs.length + 1)) (svs ++ [sv]) = cellsP (ps.take svs.length) svs ++ [.int .i64 (ps.getD svs.length ⟨0, 0, []⟩).kind, .int .i64 (ps.getD svs.length ⟨0, 0, []⟩).n, sv] := by
    rw [List.take_succ_eq_append_getElem h, cellsP_append _ _ _ _ ht.symm]
    simp [cellsP, List.getD, h]
  simp only [partP, List.length_append, List.length_cons, List.length_nil]
  rw [hc, e, List.replicate_succ, List.flatten_cons]
  rw [List.set_append_right _ _ (by omega), List.set_append_right _ _ (by omega), List.set_append_right _ _ (by omega), hl]
  simp
theorem partP_full (ps : List Pt) (svs : List Value) (h : svs.length = ps.length) : partP ps svs = cellsP ps svs := by
  simp [partP, h]
structure Copying (B : Nat) (w wr : World) (ps : List Pt) (svs : List Value) : Prop where
  row : wr.ownsRow B 62 3 (.slice (some ⟨B, 0, none⟩) ps.length ps.length) ps.length (partP ps svs)
  le : svs.length ≤ ps.length
  each : ∀ j, j < svs.length → OwnI (B + 1) wr.heap.size wr (svs.getD j undef) (ps.getD j ⟨0, 0, []⟩).signs
  apart : ∀ i j, i < j → j < svs.length → (svs.getD i undef).ownBlock = none ∨ (svs.getD i undef).ownBlock ≠ (svs.getD j undef).ownBlock
  old : Below B w wr
  size : B < wr.heap.size

theorem Copying.step {B : Nat} {w wr w1 : World} {ps : List Pt} {svs : List Value} {sv : Value} (h : Copying B w wr ps svs) (hk : svs.length < ps.length)
    (o1 : OwnI wr.heap.size w1.heap.size w1 sv (ps.getD svs.length ⟨0, 0, []⟩).signs) (b1 : Below wr.heap.size wr w1) :
    Copying B w (((w1.setCell ⟨B, svs.length * 3, none⟩ (.int .i64 (ps.getD svs.length ⟨0, 0, []⟩).kind)).setCell ⟨B, svs.length * 3 + 1, none⟩ (.int .i64 (ps.getD svs.length ⟨0, 0, []⟩).n)).setCell ⟨B, svs.length * 3 + 2, none⟩ sv) ps (svs ++ [sv]) := by
  have hB := h.size
  have hr1 := World.ownsRow.below h.row b1
  have hr2 := (hr1.stored (svs.length * 3) (.int .i64 (ps.getD svs.length ⟨0, 0, []⟩).kind)).1
  have hr3 := (hr2.stored (svs.length * 3 + 1) (.int .i64 (ps.getD svs.length ⟨0, 0, []⟩).n)).1
  have hr4 := (hr3.stored (svs.length * 3 + 2) sv).1
  rw [partP_step ps svs sv hk] at hr4
  have hw : Within B (B + 1) w1 (((w1.setCell ⟨B, svs.length * 3, none⟩ (.int .i64 (ps.getD svs.length ⟨0, 0, []⟩).kind)).setCell ⟨B, svs.length * 3 + 1, none⟩ (.int .i64 (ps.getD svs.length ⟨0, 0, []⟩).n)).setCell ⟨B, svs.length * 3 + 2, none⟩ sv) :=
    (((Within.refl _ _ _).set (Nat.le_refl _) (by omega) _ _).set (Nat.le_refl _) (by omega) _ _).set (Nat.le_refl _) (by omega) _ _
  have hs := b1.size
  refine ⟨hr4, by simp; omega, fun j hj => ?_, fun i j hij hj => ?_, (h.old.trans (b1.mono (by omega))).trans (hw.below (Nat.le_refl _)), by rw [hw.size]; omega⟩
  · rw [hw.size]
    by_cases hjk : j < svs.length
    · have e : (svs ++ [sv]).getD j undef = svs.getD j undef := by simp [List.getD, List.getElem?_append_left hjk]
      rw [e]
      exact (((h.each j hjk).below b1).within hw (.inr (by omega))).down (Nat.le_refl _) hs
    · have hj' : j = svs.length := by simp at hj; omega
      subst hj'
      have e : (svs ++ [sv]).getD svs.length undef = sv := by simp [List.getD]
      rw [e]
      exact (o1.within hw (.inr (by omega))).down (by omega) (Nat.le_refl _)
  · have hi : i < svs.length := by simp at hj; omega
    have ei : (svs ++ [sv]).getD i undef = svs.getD i undef := by simp [List.getD, List.getElem?_append_left hi]
    by_cases hjk : j < svs.length
    · have e : (svs ++ [sv]).getD j undef = svs.getD j undef := by simp [List.getD, List.getElem?_append_left hjk]
      rw [ei, e]
      exact h.apart i j hij hjk
    · have hj' : j = svs.length := by simp at hj; omega
      subst hj'
      have e : (svs ++ [sv]).getD svs.length undef = sv := by simp [List.getD]
      rw [ei, e]
      cases hg : (svs.getD i undef).ownBlock with
      | none => exact .inl rfl
      | some g =>
        refine .inr fun e2 => ?_
        have h1 := (h.each i hi).2 g hg
        have h2 := (o1.1.lt g e2.symm).1
        omega

theorem madeParts (n : Nat) : (madeCells #[Value.int .i64 0, .int .i64 0, .slice none 0 0] (n * 3)).toList = (List.replicate n [Value.int .i64 0, .int .i64 0, .slice none 0 0]).flatten := by
  have h : ∀ k, (madeCells #[Value.int .i64 0, .int .i64 0, .slice none 0 0] k).toList = (List.range k).map fun j => (#[Value.int .i64 0, .int .i64 0, .slice none 0 0] : Array Value)[j % 3]! := fun k => by
    simp [madeCells, List.range]
  rw [h]
  induction n with
  | zero => simp
  | succ n ih =>
    rw [show (n + 1) * 3 = n * 3 + 1 + 1 + 1 by omega, List.range_succ, List.range_succ, List.range_succ, List.replicate_succ', List.flatten_append, ← ih]
    have e0 : n * 3 % 3 = 0 := by omega
    have e1 : (n * 3 + 1) % 3 = 1 := by omega
    have e2 : (n * 3 + 1 + 1) % 3 = 2 := by omega
    simp [e0, e1, e2]

theorem getElem?_of_lt {l : List Value} {j : Nat} (h : j < l.length) : ∃ u, l[j]? = some u := ⟨l[j], List.getElem?_eq_getElem h⟩

set_option maxHeartbeats 1000000 in
theorem toPartS_l (v : Value) (ps : List Pt) (w : World) (h : SliceParts w.heap.size w v ps) (hl : ps.length ≤ 4194304) (hs : ∀ p ∈ ps, p.signs.length ≤ 4194304) :
    Calls Tryd.prog 28 #[v] w fun e w' => ∃ v svs, e = .returned v ∧ OwnP w.heap.size w'.heap.size w' v ps svs ∧ Below w.heap.size w w' := by
  obtain ⟨i0, hi, hz0, hz1, hz2⟩ := info_parts partInfo
  obtain ⟨A, c, rfl, -, h⟩ := h
  have HSg : Hid (∀ p ∈ ps, p.signs.length ≤ 4194304) := hs
  clear hs
  go_enter Tryd.func28, Tryd.ntmps28
  go_wp2_with (at_make; refine wpList_make_full _ rfl (.tmp 6) (.tmp 6) 39 (by rfl) w.heap.size 62 i0 _ 3 Tryd.underlying39 hi hz0 hz1 .i64 .i64 _ _ ps.length (by rfl) (by rfl) rfl rfl (by rw [hz2]; omega) (by unfold maxLen; omega) (Nat.le_refl _) ?_)
  intro w1 hown hg
  have hb1 : Below w.heap.size w w1 := (Below.refl _ _).grown hg (Nat.le_refl _) (by simp)
  have h1 := h.below hb1
  clear hi hz0 hz1 hz2 hg h
  obtain ⟨B, hB⟩ : ∃ B, B = w.heap.size := ⟨_, rfl⟩
  have HB := Lib.hid hB
  have hc : Copying B w w1 ps [] := by
    subst hB
    refine ⟨?_, Nat.zero_le _, fun j hj => absurd hj (Nat.not_lt_zero _), fun i j _ hj => absurd hj (Nat.not_lt_zero _), hb1, (hown.lt _ rfl).2⟩
    have hown2 : w1.ownsRow w.heap.size 62 3 (.slice (some ⟨w.heap.size, 0, none⟩) ps.length ps.length) ps.length (madeCells #[Value.int .i64 0, .int .i64 0, .slice none 0 0] (ps.length * 3)).toList := hown
    rw [madeParts] at hown2
    simpa [partP, cellsP] using hown2
  rw [← hB] at h1
  simp only [← hB]
  clear hB hown hb1
  go_wp2
  go_loopw [4] (fun i wr => ∃ svs : List Value, i = .int .i64 svs.length ∧ Copying B w wr ps svs ∧ PartsAt B wr A ps) (fun i _ => ps.length - (intOf i).toNat)
  case atStart => exact ⟨[], rfl, hc, h1⟩
  case round =>
    clear hc h1
    obtain ⟨svs, rfl, hc, hr⟩ := hrel
    have hle := hc.le
    by_cases hlt : svs.length < ps.length
    · obtain ⟨b, off, sv, rfl, hbB, c0, c1, c2, hs⟩ := hr svs.length hlt
      have hsz := hc.size
      have hsg : (ps.getD svs.length ⟨0, 0, []⟩).signs.length ≤ 4194304 := HSg.out _ (by simp [List.getD, hlt])
      have hC := Lib.hid hc
      have Hr := Lib.hid hr
      have hst := fun sv w1 => Lib.hid (hc.step (w1 := w1) (sv := sv) hlt)
      have hpl := cellsP_length ps
      have hrow := Lib.hid hc.row
      clear hc hr hpl
      generalize ps.getD svs.length ⟨0, 0, []⟩ = p at c0 c1 hs hsg hst
      have Hst := Lib.hid hst
      clear hst
      go_wp2_with (fail)
      refine (toPart_l _ p _ ⟨sv, rfl, hs.mono (by omega)⟩ hsg).mono ?_
      rintro e w1 ⟨v1, rfl, o1, b1⟩
      obtain ⟨A1, c1', rfl, -, -⟩ := o1.slice
      have hr1 := World.ownsRow.below hrow.out b1
      have hlen : (partP ps svs).length = ps.length * 3 := hr1.1
      obtain ⟨u0, e0⟩ := getElem?_of_lt (l := partP ps svs) (j := svs.length * 3) (by omega)
      obtain ⟨u1, e1⟩ := getElem?_of_lt (l := partP ps svs) (j := svs.length * 3 + 1) (by omega)
      obtain ⟨u2, e2⟩ := getElem?_of_lt (l := partP ps svs) (j := svs.length * 3 + 2) (by omega)
      have d0 := (hr1.cellAt (svs.length * 3) (by omega)).trans e0
      have d1 := (hr1.cellAt (svs.length * 3 + 1) (by omega)).trans e1
      have d2 := (hr1.cellAt (svs.length * 3 + 2) (by omega)).trans e2
      have hfz := hr1.frozenAt
      have Hnew := Lib.hid ((Hst.out _ w1).out o1 b1)
      have Hb1 := Lib.hid b1
      clear o1 b1 hr1 hlen e0 e1 e2 c0 c1 c2 hs
      go_wp2
      go_roundw
      case rel => exact ⟨svs ++ [_], by simp, Hnew.out, Hr.out.below (((((Hb1.out.mono (by omega)).setCell (by simp) _).setCell (by simp) _).setCell (by simp) _))⟩
      case measure => simp [intOf]; omega
    · have e : svs.length = ps.length := by omega
      have hrow := hc.row
      rw [partP_full ps svs e] at hrow
      have HP : OwnP B wr.heap.size wr (.slice (some ⟨B, 0, none⟩) ps.length ps.length) ps svs :=
        ⟨hrow, fun g hg => (hrow.lt g hg).2, e, fun k hk => (hc.each k (by omega)).down (by omega) (Nat.le_refl _), fun i j hij hj => hc.apart i j hij (by omega)⟩
      have hold := hc.old
      have HE := Lib.hid e
      clear hc hrow hr e hle
      have hge : ps.length ≤ svs.length := by rw [HE.out]; exact Nat.le_refl _
      go_wp2
      go_ret
      obtain rfl := HB.out
      exact ⟨_, svs, rfl, HP, hold⟩
end Go.Proofs.YtookcfpiegbafaaDoor
