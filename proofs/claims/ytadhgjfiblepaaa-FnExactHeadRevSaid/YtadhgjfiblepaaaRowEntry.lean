/- How an entry that came in by value is opened. No condition. -/
import Derived.Test.YtadhgjfiblepaaaRow
import Derived.Test.YtadhgjfiblepaaaEntry
namespace Go.Proofs.Ytadhgjfiblepaaa
open Go.ChangeShapes Go.WideShapes Go.ChangeAt Go.RowKit
set_option maxRecDepth 100000
section
variable {H : Type} {enc : TypeId × Value → H}
/-- The three cells of an entry that came in. -/
theorem open_entryCells {W : World} {fuel : Nat} {cs : List Value} {y : DataW H × List MemPlace} (h : DataW.trod enc Try.prog W 0 (fun _ => true) true fuel 29 cs = some y)
    (hlt : ∀ x ∈ y.2, x.block < W.heap.size) : ∃ c n sv ps, cs = [.int .i64 c, .int .i64 n, sv] ∧ SliceParts W.heap.size W sv ps := by
  obtain ⟨xs, n, _, hy, hlen, hxl, hf⟩ := DataW.trod_struct Try.underlying29 h
  have hC : Try.prog.cellsOf 29 = 3 := by kernel_rfl
  have h1 : Try.prog.cellsOf 3 = 1 := by kernel_rfl
  have h2 : Try.prog.cellsOf 22 = 1 := by kernel_rfl
  rw [hC] at hlen
  match cs, hlen, xs, hxl with
  | [c0, c1, c2], _, [y0, y1, y2], _ =>
    have f0 : DataW.trod enc Try.prog W 0 (fun _ => true) true n 3 (([c0, c1, c2].drop 0).take (Try.prog.cellsOf 3)) = some y0 := hf 0 _ rfl
    have f1 : DataW.trod enc Try.prog W 0 (fun _ => true) true n 3 (([c0, c1, c2].drop 1).take (Try.prog.cellsOf 3)) = some y1 := hf 1 _ rfl
    have f2 : DataW.trod enc Try.prog W 0 (fun _ => true) true n 22 (([c0, c1, c2].drop 2).take (Try.prog.cellsOf 22)) = some y2 := hf 2 _ rfl
    rw [h1] at f0 f1
    rw [h2] at f2
    simp at f0 f1 f2
    obtain ⟨a0, e0, _, _⟩ := DataW.trod_int Try.underlying3 f0
    obtain ⟨a1, e1, _, _⟩ := DataW.trod_int Try.underlying3 f1
    obtain ⟨v, zs, e2, hs⟩ := open_partSCells f2 (fun x hx => hlt x (by rw [hy]; simp [hx]))
    simp at e0 e1 e2
    subst e0 e1 e2
    exact ⟨a0, a1, _, zs, rfl, hs⟩

/-- An entry that came in by value. -/
theorem open_entry {W : World} {r : Reach} {b0 : Nat} {v : Value} {d : DataW H} {ps : List MemPlace} (hval : Value.okWide Try.prog W r b0 29 v)
    (h : DataW.Trod enc Try.prog W 0 (fun _ => true) true 29 v d ps) (hlt : ∀ x ∈ ps, x.block < W.heap.size) : ∃ p, EntryV W.heap.size W v p := by
  obtain ⟨cs, rfl, hsz⟩ := okWide_struct Try.underlying29 hval
  obtain ⟨fuel, hf⟩ := h
  obtain ⟨c, n, sv, qs, hcs, hs⟩ := open_entryCells hf hlt
  obtain ⟨l⟩ := cs
  simp [Value.cells] at hcs
  subst hcs
  exact ⟨(c, n, qs), sv, rfl, hs⟩
end
end Go.Proofs.Ytadhgjfiblepaaa
