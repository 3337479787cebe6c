/- Documents: the laws' copies of entries and of Seen: toEntryS, toSeenS. Condition: at most 4194304 are copied. -/
import Derived.Test.YtadhgjfiblepaaaDoc
namespace Go.Proofs.Ytadhgjfiblepaaa
open Go.RowKit
set_option maxRecDepth 100000

theorem cell_within {lo hi : Nat} {w w' : World} (h : Within lo hi w w') {b o : Nat} (hb : ¬ (lo ≤ b ∧ b < hi)) : w'.cell? ⟨b, o, none⟩ = w.cell? ⟨b, o, none⟩ := World.cell?_of_block (w := w) (h.block b hb)
theorem ownP_wide {lo lo' hi hi' : Nat} {w : World} {v : Value} {ps : List Pt} {svs : List Value} (h : OwnP lo hi w v ps svs) (h1 : lo' ≤ lo) (h2 : hi ≤ hi') : OwnP lo' hi' w v ps svs := by
  refine ⟨⟨h.row.1, ?_⟩, fun g hg => by have := h.top g hg; omega, h.len, fun k hk => (h.each k hk).down h1 h2, h.apart⟩
  rcases h.row.2 with hn | ⟨g, cap, cur, rfl, hb, r⟩
  · exact .inl hn
  · exact .inr ⟨g, cap, cur, rfl, by omega, r⟩
/-- Entries that lie in blocks from lo up to hi. -/
def OwnE (lo hi : Nat) (w : World) (v : Value) (es : List Et) : Prop :=
  ∃ A c, v = .slice A es.length c ∧ (es.length ≤ c ∧ c ≤ maxLen) ∧ ∀ k, k < es.length → ∃ b off sv ss, A = some ⟨b, off, none⟩ ∧ lo ≤ b ∧ b < hi ∧ w.cell? ⟨b, off + k * 3, none⟩ = some (.int .i64 (es.getD k (0, 0, [])).1) ∧
    w.cell? ⟨b, off + k * 3 + 1, none⟩ = some (.int .i64 (es.getD k (0, 0, [])).2.1) ∧ w.cell? ⟨b, off + k * 3 + 2, none⟩ = some sv ∧ OwnP lo hi w sv (es.getD k (0, 0, [])).2.2 ss
theorem OwnE.within {lo hi lo' hi' : Nat} {w w' : World} {v : Value} {es : List Et} (h : OwnE lo hi w v es) (hw : Within lo' hi' w w') (hd : hi ≤ lo' ∨ hi' ≤ lo) : OwnE lo hi w' v es := by
  obtain ⟨A, c, hv, hc, hi⟩ := h
  refine ⟨A, c, hv, hc, fun k hk => ?_⟩
  obtain ⟨b, off, sv, ss, hA, h1, h2, c0, c1, c2, hs⟩ := hi k hk
  exact ⟨b, off, sv, ss, hA, h1, h2, (cell_within hw (by omega)).trans c0, (cell_within hw (by omega)).trans c1, (cell_within hw (by omega)).trans c2, hs.within hw hd⟩
theorem OwnE.below {lo hi : Nat} {w w' : World} {v : Value} {es : List Et} (h : OwnE lo hi w v es) (hb : Below w.heap.size w w') (hh : hi ≤ w.heap.size) : OwnE lo hi w' v es := by
  obtain ⟨A, c, hv, hc, hi⟩ := h
  refine ⟨A, c, hv, hc, fun k hk => ?_⟩
  obtain ⟨b, off, sv, ss, hA, h1, h2, c0, c1, c2, hs⟩ := hi k hk
  have hlt : b < w.heap.size := by omega
  exact ⟨b, off, sv, ss, hA, h1, h2, (hb.cell hlt).trans c0, (hb.cell hlt).trans c1, (hb.cell hlt).trans c2, hs.below hb⟩
theorem OwnE.slice {lo hi : Nat} {w : World} {v : Value} {es : List Et} (h : OwnE lo hi w v es) (hh : hi ≤ w.heap.size) : SliceEntries w.heap.size w v es := by
  obtain ⟨A, c, hv, hc, hi⟩ := h
  refine ⟨A, c, hv, hc, fun k hk => ?_⟩
  obtain ⟨b, off, sv, ss, hA, h1, h2, c0, c1, c2, hs⟩ := hi k hk
  exact ⟨b, off, sv, hA, by omega, c0, c1, c2, hs.slice⟩
/-- Seen that lie in blocks from lo up to hi. -/
def OwnS (lo hi : Nat) (w : World) (v : Value) (es : List Se) : Prop :=
  ∃ A c, v = .slice A es.length c ∧ (es.length ≤ c ∧ c ≤ maxLen) ∧ ∀ k, k < es.length → ∃ b off, A = some ⟨b, off, none⟩ ∧ lo ≤ b ∧ b < hi ∧ w.cell? ⟨b, off + k * 3, none⟩ = some (.int .i64 (es.getD k (0, 0, 0)).1) ∧
    w.cell? ⟨b, off + k * 3 + 1, none⟩ = some (.int .i64 (es.getD k (0, 0, 0)).2.1) ∧ w.cell? ⟨b, off + k * 3 + 2, none⟩ = some (.int .i64 (es.getD k (0, 0, 0)).2.2)
theorem OwnS.within {lo hi lo' hi' : Nat} {w w' : World} {v : Value} {es : List Se} (h : OwnS lo hi w v es) (hw : Within lo' hi' w w') (hd : hi ≤ lo' ∨ hi' ≤ lo) : OwnS lo hi w' v es := by
  obtain ⟨A, c, hv, hc, hi⟩ := h
  refine ⟨A, c, hv, hc, fun k hk => ?_⟩
  obtain ⟨b, off, hA, h1, h2, c0, c1, c2⟩ := hi k hk
  exact ⟨b, off, hA, h1, h2, (cell_within hw (by omega)).trans c0, (cell_within hw (by omega)).trans c1, (cell_within hw (by omega)).trans c2⟩
theorem OwnS.below {lo hi : Nat} {w w' : World} {v : Value} {es : List Se} (h : OwnS lo hi w v es) (hb : Below w.heap.size w w') (hh : hi ≤ w.heap.size) : OwnS lo hi w' v es := by
  obtain ⟨A, c, hv, hc, hi⟩ := h
  refine ⟨A, c, hv, hc, fun k hk => ?_⟩
  obtain ⟨b, off, hA, h1, h2, c0, c1, c2⟩ := hi k hk
  have hlt : b < w.heap.size := by omega
  exact ⟨b, off, hA, h1, h2, (hb.cell hlt).trans c0, (hb.cell hlt).trans c1, (hb.cell hlt).trans c2⟩
theorem OwnS.slice {lo hi : Nat} {w : World} {v : Value} {es : List Se} (h : OwnS lo hi w v es) (hh : hi ≤ w.heap.size) : SliceSeen w.heap.size w v es := by
  obtain ⟨A, c, hv, hc, hi⟩ := h
  refine ⟨A, c, hv, hc, fun k hk => ?_⟩
  obtain ⟨b, off, hA, h1, h2, c0, c1, c2⟩ := hi k hk
  exact ⟨b, off, hA, by omega, c0, c1, c2⟩

/-- The two numbers of an entry, as those of a part. -/
def hdE (e : Et) : Pt := ⟨e.1, e.2.1, []⟩
theorem hdE_at (es : List Et) {k : Nat} (h : k < es.length) : (es.map hdE).getD k ⟨0, 0, []⟩ = hdE (es.getD k (0, 0, [])) := by simp [List.getD, h]
structure CopyingE (B : Nat) (w wr : World) (es : List Et) (svs : List Value) : Prop where
  row : wr.ownsRow B 33 3 (.slice (some ⟨B, 0, none⟩) es.length es.length) es.length (partP (es.map hdE) svs)
  le : svs.length ≤ es.length
  each : ∀ j, j < svs.length → ∃ ss, OwnP (B + 1) wr.heap.size wr (svs.getD j undef) (es.getD j (0, 0, [])).2.2 ss
  old : Below B w wr
  size : B < wr.heap.size
theorem CopyingE.step {B : Nat} {w wr w1 : World} {es : List Et} {svs ss : List Value} {sv : Value} (h : CopyingE B w wr es svs) (hk : svs.length < es.length)
    (o1 : OwnP wr.heap.size w1.heap.size w1 sv (es.getD svs.length (0, 0, [])).2.2 ss) (b1 : Below wr.heap.size wr w1) :
    CopyingE B w (((w1.setCell ⟨B, svs.length * 3, none⟩ (.int .i64 (es.getD svs.length (0, 0, [])).1)).setCell ⟨B, svs.length * 3 + 1, none⟩ (.int .i64 (es.getD svs.length (0, 0, [])).2.1)).setCell ⟨B, svs.length * 3 + 2, none⟩ sv) es (svs ++ [sv]) := by
  have hB := h.size
  have hr1 := World.ownsRow.below h.row b1
  have hr2 := (hr1.stored (svs.length * 3) (.int .i64 (es.getD svs.length (0, 0, [])).1)).1
  have hr3 := (hr2.stored (svs.length * 3 + 1) (.int .i64 (es.getD svs.length (0, 0, [])).2.1)).1
  have hr4 := (hr3.stored (svs.length * 3 + 2) sv).1
  have hst : (((partP (es.map hdE) svs).set (svs.length * 3) (.int .i64 (es.getD svs.length (0, 0, [])).1)).set (svs.length * 3 + 1) (.int .i64 (es.getD svs.length (0, 0, [])).2.1)).set (svs.length * 3 + 2) sv = partP (es.map hdE) (svs ++ [sv]) := by
    have := partP_step (es.map hdE) svs sv (by simpa using hk)
    rw [hdE_at es hk] at this
    exact this
  rw [hst] at hr4
  have hw : Within B (B + 1) w1 (((w1.setCell ⟨B, svs.length * 3, none⟩ (.int .i64 (es.getD svs.length (0, 0, [])).1)).setCell ⟨B, svs.length * 3 + 1, none⟩ (.int .i64 (es.getD svs.length (0, 0, [])).2.1)).setCell ⟨B, svs.length * 3 + 2, none⟩ sv) :=
    (((Within.refl _ _ _).set (Nat.le_refl _) (by omega) _ _).set (Nat.le_refl _) (by omega) _ _).set (Nat.le_refl _) (by omega) _ _
  have hs := b1.size
  refine ⟨hr4, by simp; omega, fun j hj => ?_, (h.old.trans (b1.mono (by omega))).trans (hw.below (Nat.le_refl _)), by rw [hw.size]; omega⟩
  rw [hw.size]
  by_cases hjk : j < svs.length
  · have e : (svs ++ [sv]).getD j undef = svs.getD j undef := by simp [List.getD, List.getElem?_append_left hjk]
    rw [e]
    obtain ⟨s2, h2⟩ := h.each j hjk
    exact ⟨s2, ownP_wide ((h2.below b1).within hw (.inr (by omega))) (Nat.le_refl _) hs⟩
  · have hj' : j = svs.length := by simp at hj; omega
    subst hj'
    have e : (svs ++ [sv]).getD svs.length undef = sv := by simp [List.getD]
    rw [e]
    exact ⟨ss, ownP_wide (o1.within hw (.inr (by omega))) (by omega) (Nat.le_refl _)⟩

set_option maxHeartbeats 2000000 in
theorem toEntry_o (v : Value) (x : Et) (w : World) (h : EntryV w.heap.size w v x) (hl : x.2.2.length ≤ 4194304) (hp : ∀ p ∈ x.2.2, p.signs.length ≤ 4194304) :
    Calls Try.prog 21 #[v] w fun e w' => ∃ A c svs, e = .returned (.agg #[.int .i64 x.1, .int .i64 x.2.1, .slice A x.2.2.length c]) ∧ OwnP w.heap.size w'.heap.size w' (.slice A x.2.2.length c) x.2.2 svs ∧ Below w.heap.size w w' := by
  obtain ⟨c, n, ps⟩ := x
  obtain ⟨sv, rfl, hs⟩ := h
  have hW : ∀ (a b c : Obj), Below w.heap.size w (((w.alloc a).alloc b).alloc c) := fun a b c => (((Below.refl _ _).alloc (Nat.le_refl _) a).alloc (by simp) b).alloc (by simp; omega) c
  have HW := Lib.hid hW
  clear hW
  have HP := Lib.hid hp
  clear hp
  have s0 := Lib.hid hs
  obtain ⟨A, k, rfl, -, -⟩ := hs
  dsimp only at s0 hl HP ⊢
  go_enter Try.func21, Try.ntmps21
  go_wp2_with (fail)
  refine (toPartS_l _ ps _ (s0.out.later (HW.out _ _ _)) hl HP.out).mono ?_
  rintro e w1 ⟨v1, svs, rfl, o1, b1⟩
  have hb := (HW.out _ _ _).trans (b1.mono (by simp; omega))
  obtain ⟨x0, x1, x2, x3, x4⟩ := blk3 (w := w1) (g := w.heap.size + 1) (t := 33) ((b1.block _ (by simp)).trans (by
    rw [Below.heap_alloc _ _ _ (by simp)]; exact heap_new_at _ _ (by simp)))
  obtain ⟨y0, y1, y2, y3, y4⟩ := blk3 (w := w1) (g := w.heap.size + 2) (t := 33) ((b1.block _ (by simp)).trans (heap_new_at _ _ (by simp)))
  simp only [World.size_alloc] at o1
  obtain ⟨A1, c1, rfl, -, -⟩ := o1.slice
  have O1 := Lib.hid o1
  have HBb := Lib.hid hb
  clear o1 b1 s0 hb
  go_wp2_with (fail)
  refine bodyPost_ret (v := .agg #[.int .i64 c, .int .i64 n, .slice A1 ps.length c1]) (by simp [results, Try.results21, go_sem, x0, x1, x2]) rfl ⟨_, _, svs, rfl, ?_, ?_⟩
  · refine ownP_wide (O1.out.within (lo' := w.heap.size) (hi' := w.heap.size + 3) ?_ (.inr (by omega))) (by omega) (by simp [World.setCell])
    repeat (first | exact Within.refl _ _ _ | refine Within.set ?_ (by omega) (by omega) _ _)
  · repeat (first | exact HBb.out | refine Below.setCell ?_ (by dsimp only; omega) _)
theorem entryInfo : (Try.prog.info? 33).map (fun i => (i.zero, i.size, i.bytes)) = some (some (.agg #[.int .i64 0, .int .i64 0, .slice none 0 0]), 3, 40) := by kernel_rfl
theorem seenInfo : (Try.prog.info? 88).map (fun i => (i.zero, i.size, i.bytes)) = some (some (.agg #[.int .i64 0, .int .i64 0, .int .i64 0]), 3, 24) := by kernel_rfl

set_option maxHeartbeats 1000000 in
theorem toEntryS_l (v : Value) (es : List Et) (w : World) (h : SliceEntries w.heap.size w v es) (hl : es.length ≤ 4194304) (hs : ∀ o ∈ es, o.2.2.length ≤ 1048576 ∧ ∀ p ∈ o.2.2, p.signs.length ≤ 1048576) :
    Calls Try.prog 68 #[v] w fun e w' => ∃ A c, e = .returned (.slice A es.length c) ∧ OwnE w.heap.size w'.heap.size w' (.slice A es.length c) es ∧ Below w.heap.size w w' := by
  obtain ⟨i0, hi, hz0, hz1, hz2⟩ := info_parts entryInfo
  obtain ⟨A, c, rfl, -, h⟩ := h
  have HSg : Hid (∀ o ∈ es, o.2.2.length ≤ 1048576 ∧ ∀ p ∈ o.2.2, p.signs.length ≤ 1048576) := hs
  clear hs
  go_enter Try.func68, Try.ntmps68
  go_wp2_with (at_make; refine wpList_make_full _ rfl (.tmp 6) (.tmp 6) 46 (by rfl) w.heap.size 33 i0 _ 3 Try.underlying46 hi hz0 hz1 .i64 .i64 _ _ es.length (by rfl) (by rfl) rfl rfl (by rw [hz2]; omega) (by unfold maxLen; omega) (Nat.le_refl _) ?_)
  intro w1 hown hg
  have hb1 : Below w.heap.size w w1 := (Below.refl _ _).grown hg (Nat.le_refl _) (by simp)
  have h1 := h.below hb1
  clear hi hz0 hz1 hz2 hg h
  obtain ⟨B, hB⟩ : ∃ B, B = w.heap.size := ⟨_, rfl⟩
  have HB := Lib.hid hB
  have hc : CopyingE B w w1 es [] := by
    subst hB
    refine ⟨?_, Nat.zero_le _, fun j hj => absurd hj (Nat.not_lt_zero _), hb1, (hown.lt _ rfl).2⟩
    have hown2 : w1.ownsRow w.heap.size 33 3 (.slice (some ⟨w.heap.size, 0, none⟩) es.length es.length) es.length (madeCells #[Value.int .i64 0, .int .i64 0, .slice none 0 0] (es.length * 3)).toList := hown
    rw [madeParts] at hown2
    simpa [partP, cellsP] using hown2
  rw [← hB] at h1
  simp only [← hB]
  clear hB hown hb1
  go_wp2_with (fail)
  go_loopw [4] (fun i wr => ∃ svs : List Value, i = .int .i64 svs.length ∧ CopyingE B w wr es svs ∧ EntriesAt B wr A es) (fun i _ => es.length - (intOf i).toNat)
  case atStart => exact ⟨[], rfl, hc, h1⟩
  case round =>
    clear hc h1
    obtain ⟨svs, rfl, hc, hr⟩ := hrel
    have hle := hc.le
    by_cases hlt : svs.length < es.length
    · obtain ⟨b, off, sv, rfl, hbB, c0, c1, c2, hs⟩ := hr svs.length hlt
      have hsz := hc.size
      have hsg := HSg.out (es.getD svs.length (0, 0, [])) (by simp [List.getD, hlt])
      obtain ⟨hsg1, hsg2⟩ := hsg
      have Hsg := Lib.hid hsg2
      have Hr := Lib.hid hr
      have hst := fun sv ss w1 => Lib.hid (hc.step (w1 := w1) (sv := sv) (ss := ss) hlt)
      have hrow := Lib.hid hc.row
      clear hc hr hsg2
      generalize es.getD svs.length (0, 0, []) = p at c0 c1 c2 hs hsg1 Hsg hst
      have Hst := Lib.hid hst
      clear hst
      go_wp2_with (fail)
      refine (toEntry_o _ p _ ⟨sv, rfl, hs.mono (by omega)⟩ (by omega) (fun p hp => Nat.le_trans (Hsg.out p hp) (by omega))).mono ?_
      rintro e w1 ⟨A1, c1', ss, rfl, o1, b1⟩
      have hr1 := World.ownsRow.below hrow.out b1
      have hlen : (partP (es.map hdE) svs).length = es.length * 3 := hr1.1
      obtain ⟨u0, e0⟩ := getElem?_of_lt (l := partP (es.map hdE) svs) (j := svs.length * 3) (by omega)
      obtain ⟨u1, e1⟩ := getElem?_of_lt (l := partP (es.map hdE) svs) (j := svs.length * 3 + 1) (by omega)
      obtain ⟨u2, e2⟩ := getElem?_of_lt (l := partP (es.map hdE) svs) (j := svs.length * 3 + 2) (by omega)
      have d0 := (hr1.cellAt (svs.length * 3) (by omega)).trans e0
      have d1 := (hr1.cellAt (svs.length * 3 + 1) (by omega)).trans e1
      have d2 := (hr1.cellAt (svs.length * 3 + 2) (by omega)).trans e2
      have hfz := hr1.frozenAt
      have Hnew := Lib.hid ((Hst.out _ ss w1).out o1 b1)
      have Hb1 := Lib.hid b1
      clear o1 b1 hr1 hlen e0 e1 e2 c0 c1 c2 hs
      go_wp2_with (fail)
      go_roundw
      case rel => exact ⟨svs ++ [_], by simp, Hnew.out, Hr.out.below (((((Hb1.out.mono (by omega)).setCell (by simp) _).setCell (by simp) _).setCell (by simp) _))⟩
      case measure => simp [intOf]; omega
    · have e : svs.length = es.length := by omega
      have hrow := hc.row
      rw [partP_full (es.map hdE) svs (by simpa using e)] at hrow
      have HP : OwnE B wr.heap.size wr (.slice (some ⟨B, 0, none⟩) es.length es.length) es := by
        refine ⟨_, _, rfl, ⟨Nat.le_refl _, by unfold maxLen; omega⟩, fun k hk => ?_⟩
        obtain ⟨a0, a1, a2⟩ := cellsP_at (es.map hdE) svs k (by simpa using e) (by simpa using hk)
        rw [hdE_at es hk] at a0 a1
        obtain ⟨ss, hs⟩ := hc.each k (by omega)
        exact ⟨B, 0, _, ss, rfl, Nat.le_refl _, (hrow.lt _ rfl).2, by rw [Nat.zero_add]; exact (hrow.cellAt (k * 3) (by omega)).trans a0, by rw [Nat.zero_add]; exact (hrow.cellAt (k * 3 + 1) (by omega)).trans a1, by rw [Nat.zero_add]; exact (hrow.cellAt (k * 3 + 2) (by omega)).trans a2, ownP_wide hs (by omega) (Nat.le_refl _)⟩
      have hold := hc.old
      have HE := Lib.hid e
      have HPP := Lib.hid HP
      clear hc hrow hr e hle HP
      have hge : es.length ≤ svs.length := by rw [HE.out]; exact Nat.le_refl _
      go_wp2_with (fail)
      go_ret
      obtain rfl := HB.out
      exact ⟨_, _, rfl, HPP.out, hold⟩
end Go.Proofs.Ytadhgjfiblepaaa
