/- How a slice of operations that came in is opened. No condition. -/
import Derived.Test.YtlpjbbmjchfolaaRow
import Derived.Test.YtlpjbbmjchfolaaPartss
namespace Go.Proofs.Ytlpjbbmjchfolaa
open Go.ChangeShapes Go.WideShapes Go.ChangeAt Go.RowKit
set_option maxRecDepth 100000
section
variable {H : Type} {enc : TypeId × Value → H}
/-- A slice of operations that came in. -/
theorem open_partSS {W : World} {r : Reach} {b0 : Nat} {v : Value} {d : DataW H} {ps : List MemPlace} (hval : Value.okWide Try.prog W r b0 55 v)
    (h : DataW.Trod enc Try.prog W 0 (fun _ => true) true 55 v d ps) (hlt : ∀ x ∈ ps, x.block < W.heap.size) : ∃ os, SliceOps W.heap.size W v os ∧ os.length ≤ maxLen := by
  obtain ⟨a0, len, cap, rfl⟩ := okWide_slice Try.underlying55 hval
  obtain ⟨fuel, hf⟩ := h
  have hC : Try.prog.cellsOf 50 = 1 := by kernel_rfl
  rcases Go.Deep.open_slice Try.underlying55 hf with ⟨hcs, hx⟩ | ⟨a, len', cap', m, n, D, Pl, hcs, _, hl, hm, hmm, hx, hi⟩
  · simp [Value.cells] at hcs
    obtain ⟨rfl, rfl, rfl⟩ := hcs
    exact ⟨[], ⟨none, 0, rfl, ⟨Nat.le_refl _, Nat.zero_le _⟩, fun k hk => absurd hk (Nat.not_lt_zero _)⟩, Nat.zero_le _⟩
  · simp only [if_true] at hmm
    rw [hC] at hi hx
    have hps := congrArg Prod.snd hx
    dsimp only at hps
    simp [Value.cells] at hcs
    obtain ⟨rfl, rfl, rfl⟩ := hcs
    have each : ∀ k, k < len → ∃ q : List Pt × Value, W.cell? (a.add k) = some q.2 ∧ SliceParts W.heap.size W q.2 q.1 := by
      intro k hk
      obtain ⟨cs', hc, ht⟩ := hi k (by omega)
      obtain ⟨v', qs, hcs', hs⟩ := open_partSCells ht (fun x hx' => hlt x (by
        rw [hps]
        exact List.mem_append_right _ (List.mem_flatMap.2 ⟨k, List.mem_range.2 (by omega), hx'⟩)))
      obtain ⟨_, _, hat⟩ := World.cells?_some hc
      subst hcs'
      have a0 := hat 0 (by omega)
      rw [Go.Deep.add_add] at a0
      exact ⟨(qs, v'), by simpa using a0, hs⟩
    have : ∃ f : Nat → List Pt × Value, ∀ k, k < len → W.cell? (a.add k) = some (f k).2 ∧ SliceParts W.heap.size W (f k).2 (f k).1 := by
      classical
      refine ⟨fun k => if hk : k < len then Classical.choose (each k hk) else ([], undef), fun k hk => ?_⟩
      simp only [dif_pos hk]
      exact Classical.choose_spec (each k hk)
    obtain ⟨f, hf⟩ := this
    have hlen : ((List.range len).map fun k => (f k).1).length = len := by simp
    refine ⟨(List.range len).map fun k => (f k).1, ⟨some a, cap, by rw [hlen], ⟨by omega, hm⟩, fun k hk => ?_⟩, by omega⟩
    rw [hlen] at hk
    obtain ⟨c0, hs⟩ := hf k hk
    have hg : ((List.range len).map fun k => (f k).1).getD k [] = (f k).1 := by simp [List.getD, hk]
    obtain ⟨b, off, spot⟩ := a
    have hspot : spot = none := by
      have := (hf 0 (by omega)).1
      simpa [Addr.add] using World.cell?_spot this
    subst hspot
    rw [add_plain] at c0
    rw [hg]
    exact ⟨b, off, (f k).2, rfl, hlt (.cell b off) (by rw [hps]; exact List.mem_append_left _ (MemPlace.mem_row.2 ⟨0, by omega, by simp⟩)), c0, hs⟩
end
end Go.Proofs.Ytlpjbbmjchfolaa
