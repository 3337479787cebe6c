/- Documents: how much a document holds (szDoc), and how one that came in is opened. Condition: none. -/
import Derived.Test.YtadhgjfiblepaaaDocLaw
import Derived.Test.YtadhgjfiblepaaaRowEntry
namespace Go.Proofs.Ytadhgjfiblepaaa
open Go.ChangeShapes Go.WideShapes Go.ChangeAt Go.RowKit
set_option maxRecDepth 100000
set_option linter.unusedVariables false

/-- What may be copied. -/
def Dc.few (d : Dc) : Prop := d.text.length ≤ 1048576 ∧ d.list.length ≤ 1048576 ∧ (∀ o ∈ d.list, o.2.2.length ≤ 1048576 ∧ ∀ p ∈ o.2.2, p.signs.length ≤ 1048576) ∧ d.seen.length ≤ 1048576
set_option maxHeartbeats 2000000 in
theorem szDoc_l (v : Value) (d : Dc) (w : World) (h : DocV w.heap.size w v d) :
    Calls Try.prog 36 #[v, .int .i64 1048576] w fun e w' => ∃ r : Int, e = .returned (.int .i64 r) ∧ Below w.heap.size w w' ∧ (r < 0 ∨ 0 ≤ r ∧ d.few) := by
  obtain ⟨tv, lv, sv, rfl, h1, h2, h3, hn⟩ := h
  have H1 := Lib.hid h1
  have H2 := Lib.hid h2
  have l1 := h1.len
  have l3 := h3.len
  have l3' := Lib.hid l3
  have l2 := h2.len
  obtain ⟨A, c, rfl, -, -⟩ := h1
  obtain ⟨A2, c2, rfl, -, -⟩ := h2
  obtain ⟨A3, c3, rfl, -, -⟩ := h3
  unfold maxLen at hn l1 l2 l3
  have hW : ∀ (a : Obj), Below w.heap.size w (w.alloc a) := fun a => (Below.refl _ _).alloc (Nat.le_refl _) a
  have HW := Lib.hid hW
  clear hW
  by_cases n1 : (1048576 : Int) < d.name.size
  · go_enter Try.func36, Try.ntmps36
    go_wp2_with (fail)
    go_ret
    exact ⟨-1, rfl, HW.out _, .inl (by omega)⟩
  have n1' : (d.name.size : Int) ≤ 1048576 := by omega
  obtain ⟨q1, hq1⟩ : ∃ q : Int, 1048576 - (d.name.size : Int) = q := ⟨_, rfl⟩
  by_cases n2 : q1 < d.text.length
  · have N2 := Lib.hid n2
    have Q1 := Lib.hid hq1
    clear hq1 n2
    go_enter Try.func36, Try.ntmps36
    go_wp2_with (fail)
    refine (szIntS_l _ _ d.text.length (1048576 - (d.name.size : Int)) _ (by omega) (by omega) (by unfold maxLen; omega)).mono ?_
    rintro e w1 ⟨rfl, rfl⟩
    rw [if_pos (by have := Q1.out; have := N2.out; omega)]
    go_wp2_with (fail)
    go_ret
    exact ⟨-1, rfl, HW.out _, .inl (by omega)⟩
  have n2' : (d.text.length : Int) ≤ q1 := by omega
  obtain ⟨q2, hq2⟩ : ∃ q : Int, q1 - (d.text.length : Int) = q := ⟨_, rfl⟩
  have HQ2 : Hid (1048576 - (d.name.size : Int) - (d.text.length : Int) = q2) := by show _ = _; omega
  have b2 : 0 ≤ q2 ∧ q2 ≤ 1048576 := by omega
  obtain ⟨b20, b21⟩ := b2
  have NN : Hid (¬ (1048576 - (d.name.size : Int) < d.text.length)) := by show ¬ _; omega
  obtain ⟨q3, hq3⟩ : ∃ q : Int, Pl.szSS (d.list.map (·.2.2)) q2 = q := ⟨_, rfl⟩
  have HQ3 := Lib.hid hq3
  have hle := szSS_le (ps := d.list.map (·.2.2)) (left := q2) b20
  rw [hq3] at hle
  have HF : Hid (0 ≤ q3 → d.list.length ≤ 1048576 ∧ ∀ o ∈ d.list, o.2.2.length ≤ 1048576 ∧ ∀ p ∈ o.2.2, p.signs.length ≤ 1048576) := fun h0 => by
    obtain ⟨a, b⟩ := szSS_nat (ps := d.list.map (·.2.2)) (left := q2) b20 b21 (by rw [hq3]; exact h0)
    exact ⟨by simpa using a, fun o ho => b _ (List.mem_map.2 ⟨o, ho, rfl⟩)⟩
  have B1 : (d.text.length : Int) ≤ 1048576 := by omega
  clear hq3 hq2 hq1 n2 n1
  by_cases n3 : q3 < 0
  · go_enter Try.func36, Try.ntmps36
    go_wp2_with (fail)
    refine (szIntS_l _ _ d.text.length (1048576 - (d.name.size : Int)) _ (by omega) (by omega) (by unfold maxLen; omega)).mono ?_
    rintro e w1 ⟨rfl, rfl⟩
    rw [if_neg (by have := NN.out; omega), HQ2.out]
    go_wp2_with (fail)
    refine (szEntryS_l _ d.list q2 _ (H2.out.later (HW.out _)) b20 b21).mono ?_
    rintro e w1 ⟨rfl, b1⟩
    rw [HQ3.out]
    go_wp2_with (fail)
    go_ret
    exact ⟨-1, rfl, (HW.out _).trans (b1.mono (by simp)), .inl (by omega)⟩
  have n3' : 0 ≤ q3 := by omega
  clear n3
  by_cases n4 : q3 < d.seen.length
  · have N4 := Lib.hid n4
    go_enter Try.func36, Try.ntmps36
    go_wp2_with (fail)
    refine (szIntS_l _ _ d.text.length (1048576 - (d.name.size : Int)) _ (by omega) (by omega) (by unfold maxLen; omega)).mono ?_
    rintro e w1 ⟨rfl, rfl⟩
    rw [if_neg (by have := NN.out; omega), HQ2.out]
    go_wp2_with (fail)
    refine (szEntryS_l _ d.list q2 _ (H2.out.later (HW.out _)) b20 b21).mono ?_
    rintro e w1 ⟨rfl, b1⟩
    rw [HQ3.out]
    have X1 := Lib.hid (Box5.later Box5.new b1)
    obtain ⟨x0, x1, x2, x3, x4⟩ := X1.out
    have HB := Lib.hid ((HW.out _).trans (b1.mono (by simp)))
    clear b1
    go_wp2_with (fail)
    refine (szSeenS_l _ _ d.seen.length q3 _ (by omega) (by omega) l3'.out).mono ?_
    rintro e w2 ⟨rfl, rfl⟩
    rw [if_pos N4.out]
    go_wp2_with (fail)
    go_ret
    exact ⟨-1, rfl, HB.out, .inl (by omega)⟩
  have N4 := Lib.hid n4
  obtain ⟨q4, hq4⟩ : ∃ q : Int, q3 - (d.seen.length : Int) = q := ⟨_, rfl⟩
  have HQ4 := Lib.hid hq4
  have b4 : 0 ≤ q4 := by omega
  have b5 : (d.seen.length : Int) ≤ 1048576 := by omega
  clear n4 hq4
  go_enter Try.func36, Try.ntmps36
  go_wp2_with (fail)
  refine (szIntS_l _ _ d.text.length (1048576 - (d.name.size : Int)) _ (by omega) (by omega) (by unfold maxLen; omega)).mono ?_
  rintro e w1 ⟨rfl, rfl⟩
  rw [if_neg (by have := NN.out; omega), HQ2.out]
  go_wp2_with (fail)
  refine (szEntryS_l _ d.list q2 _ (H2.out.later (HW.out _)) b20 b21).mono ?_
  rintro e w1 ⟨rfl, b1⟩
  rw [HQ3.out]
  have X1 := Lib.hid (Box5.later Box5.new b1)
  obtain ⟨x0, x1, x2, x3, x4⟩ := X1.out
  have HB := Lib.hid ((HW.out _).trans (b1.mono (by simp)))
  clear b1
  go_wp2_with (fail)
  refine (szSeenS_l _ _ d.seen.length q3 _ (by omega) (by omega) l3'.out).mono ?_
  rintro e w2 ⟨rfl, rfl⟩
  rw [if_neg (by have := N4.out; omega), HQ4.out]
  go_wp2_with (fail)
  go_ret
  exact ⟨q4, rfl, HB.out, .inr ⟨b4, by omega, (HF.out n3').1, (HF.out n3').2, by omega⟩⟩
section
variable {H : Type} {enc : TypeId × Value → H}
/-- The cell of a slice of entries that came in. -/
theorem open_entrySCells {W : World} {fuel : Nat} {cs : List Value} {y : DataW H × List MemPlace} (h : DataW.trod enc Try.prog W 0 (fun _ => true) true fuel 40 cs = some y)
    (hlt : ∀ x ∈ y.2, x.block < W.heap.size) : ∃ v es, cs = [v] ∧ SliceEntries W.heap.size W v es := by
  have hC : Try.prog.cellsOf 29 = 3 := by kernel_rfl
  rcases Go.Deep.open_slice Try.underlying40 h with ⟨hcs, hx⟩ | ⟨a, len, cap, m, n, D, Pl, hcs, _, hl, hm, hmm, hx, hi⟩
  · exact ⟨_, [], hcs, none, 0, rfl, ⟨Nat.le_refl _, Nat.zero_le _⟩, fun k hk => absurd hk (Nat.not_lt_zero _)⟩
  · simp only [if_true] at hmm
    rw [hC] at hi hx
    have each : ∀ k, k < len → ∃ q : Et × Value, W.cell? (a.add (k * 3)) = some (.int .i64 q.1.1) ∧ W.cell? (a.add (k * 3 + 1)) = some (.int .i64 q.1.2.1) ∧ W.cell? (a.add (k * 3 + 2)) = some q.2 ∧ SliceParts W.heap.size W q.2 q.1.2.2 := by
      intro k hk
      obtain ⟨cs', hc, ht⟩ := hi k (by omega)
      obtain ⟨c, nn, sv, ps, hcs', hs⟩ := open_entryCells ht (fun x hx' => hlt x (by
        rw [hx]
        exact List.mem_append_right _ (List.mem_flatMap.2 ⟨k, List.mem_range.2 (by omega), hx'⟩)))
      obtain ⟨_, _, hat⟩ := World.cells?_some hc
      subst hcs'
      have a0 := hat 0 (by omega)
      have a1 := hat 1 (by omega)
      have a2 := hat 2 (by omega)
      rw [Go.Deep.add_add] at a0 a1 a2
      exact ⟨((c, nn, ps), sv), a0, a1, a2, hs⟩
    have : ∃ f : Nat → Et × Value, ∀ k, k < len → W.cell? (a.add (k * 3)) = some (.int .i64 (f k).1.1) ∧ W.cell? (a.add (k * 3 + 1)) = some (.int .i64 (f k).1.2.1) ∧ W.cell? (a.add (k * 3 + 2)) = some (f k).2 ∧ SliceParts W.heap.size W (f k).2 (f k).1.2.2 := by
      classical
      refine ⟨fun k => if hk : k < len then Classical.choose (each k hk) else ((0, 0, []), undef), fun k hk => ?_⟩
      simp only [dif_pos hk]
      exact Classical.choose_spec (each k hk)
    obtain ⟨f, hf⟩ := this
    have hlen : ((List.range len).map fun k => (f k).1).length = len := by simp
    refine ⟨_, (List.range len).map fun k => (f k).1, hcs, some a, cap, by rw [hlen], ⟨by omega, hm⟩, fun k hk => ?_⟩
    rw [hlen] at hk
    obtain ⟨c0, c1, c2, hs⟩ := hf k hk
    have hg : ((List.range len).map fun k => (f k).1).getD k (0, 0, []) = (f k).1 := by simp [List.getD, hk]
    obtain ⟨b, off, spot⟩ := a
    have hspot : spot = none := by
      have := (hf 0 (by omega)).1
      simpa [Addr.add] using World.cell?_spot this
    subst hspot
    rw [add_plain] at c0 c1 c2
    rw [hg]
    exact ⟨b, off, (f k).2, rfl, hlt (.cell b off) (by rw [hx]; exact List.mem_append_left _ (MemPlace.mem_row.2 ⟨0, by omega, by simp⟩)), c0, by rw [Nat.add_assoc]; exact c1, by rw [Nat.add_assoc]; exact c2, hs⟩
/-- The three cells of a Seen that came in. -/
theorem open_seenCells {W : World} {fuel : Nat} {cs : List Value} {y : DataW H × List MemPlace} (h : DataW.trod enc Try.prog W 0 (fun _ => true) true fuel 90 cs = some y) :
    ∃ s : Se, cs = [.int .i64 s.1, .int .i64 s.2.1, .int .i64 s.2.2] := by
  obtain ⟨xs, n, _, hy, hlen, hxl, hf⟩ := DataW.trod_struct Try.underlying90 h
  have hC : Try.prog.cellsOf 90 = 3 := by kernel_rfl
  have h1 : Try.prog.cellsOf 3 = 1 := by kernel_rfl
  rw [hC] at hlen
  match cs, hlen, xs, hxl with
  | [c0, c1, c2], _, [y0, y1, y2], _ =>
    have f0 : DataW.trod enc Try.prog W 0 (fun _ => true) true n 3 (([c0, c1, c2].drop 0).take (Try.prog.cellsOf 3)) = some y0 := hf 0 _ rfl
    have f1 : DataW.trod enc Try.prog W 0 (fun _ => true) true n 3 (([c0, c1, c2].drop 1).take (Try.prog.cellsOf 3)) = some y1 := hf 1 _ rfl
    have f2 : DataW.trod enc Try.prog W 0 (fun _ => true) true n 3 (([c0, c1, c2].drop 2).take (Try.prog.cellsOf 3)) = some y2 := hf 2 _ rfl
    rw [h1] at f0 f1 f2
    simp at f0 f1 f2
    obtain ⟨a0, e0, _, _⟩ := DataW.trod_int Try.underlying3 f0
    obtain ⟨a1, e1, _, _⟩ := DataW.trod_int Try.underlying3 f1
    obtain ⟨a2, e2, _, _⟩ := DataW.trod_int Try.underlying3 f2
    simp at e0 e1 e2
    subst e0 e1 e2
    exact ⟨(a0, a1, a2), rfl⟩
/-- The cell of a slice of Seen that came in. -/
theorem open_seenSCells {W : World} {fuel : Nat} {cs : List Value} {y : DataW H × List MemPlace} (h : DataW.trod enc Try.prog W 0 (fun _ => true) true fuel 41 cs = some y)
    (hlt : ∀ x ∈ y.2, x.block < W.heap.size) : ∃ v es, cs = [v] ∧ SliceSeen W.heap.size W v es := by
  have hC : Try.prog.cellsOf 90 = 3 := by kernel_rfl
  rcases Go.Deep.open_slice Try.underlying41 h with ⟨hcs, hx⟩ | ⟨a, len, cap, m, n, D, Pl, hcs, _, hl, hm, hmm, hx, hi⟩
  · exact ⟨_, [], hcs, none, 0, rfl, ⟨Nat.le_refl _, Nat.zero_le _⟩, fun k hk => absurd hk (Nat.not_lt_zero _)⟩
  · simp only [if_true] at hmm
    rw [hC] at hi hx
    have each : ∀ k, k < len → ∃ q : Se, W.cell? (a.add (k * 3)) = some (.int .i64 q.1) ∧ W.cell? (a.add (k * 3 + 1)) = some (.int .i64 q.2.1) ∧ W.cell? (a.add (k * 3 + 2)) = some (.int .i64 q.2.2) := by
      intro k hk
      obtain ⟨cs', hc, ht⟩ := hi k (by omega)
      obtain ⟨s, hcs'⟩ := open_seenCells ht
      obtain ⟨_, _, hat⟩ := World.cells?_some hc
      subst hcs'
      have a0 := hat 0 (by omega)
      have a1 := hat 1 (by omega)
      have a2 := hat 2 (by omega)
      rw [Go.Deep.add_add] at a0 a1 a2
      exact ⟨s, a0, a1, a2⟩
    have : ∃ f : Nat → Se, ∀ k, k < len → W.cell? (a.add (k * 3)) = some (.int .i64 (f k).1) ∧ W.cell? (a.add (k * 3 + 1)) = some (.int .i64 (f k).2.1) ∧ W.cell? (a.add (k * 3 + 2)) = some (.int .i64 (f k).2.2) := by
      classical
      refine ⟨fun k => if hk : k < len then Classical.choose (each k hk) else (0, 0, 0), fun k hk => ?_⟩
      simp only [dif_pos hk]
      exact Classical.choose_spec (each k hk)
    obtain ⟨f, hf⟩ := this
    have hlen : ((List.range len).map f).length = len := by simp
    refine ⟨_, (List.range len).map f, hcs, some a, cap, by rw [hlen], ⟨by omega, hm⟩, fun k hk => ?_⟩
    rw [hlen] at hk
    obtain ⟨c0, c1, c2⟩ := hf k hk
    have hg : ((List.range len).map f).getD k (0, 0, 0) = f k := by simp [List.getD, hk]
    obtain ⟨b, off, spot⟩ := a
    have hspot : spot = none := by
      have := (hf 0 (by omega)).1
      simpa [Addr.add] using World.cell?_spot this
    subst hspot
    rw [add_plain] at c0 c1 c2
    rw [hg]
    exact ⟨b, off, rfl, hlt (.cell b off) (by rw [hx]; exact List.mem_append_left _ (MemPlace.mem_row.2 ⟨0, by omega, by simp⟩)), c0, by rw [Nat.add_assoc]; exact c1, by rw [Nat.add_assoc]; exact c2⟩
end
end Go.Proofs.Ytadhgjfiblepaaa
