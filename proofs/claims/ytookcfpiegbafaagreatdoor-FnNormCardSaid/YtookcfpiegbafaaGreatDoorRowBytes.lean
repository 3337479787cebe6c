/- A slice of bytes that came in. No condition. -/
import Derived.Test.YtookcfpiegbafaaGreatDoorRow
import Derived.Test.YtookcfpiegbafaaGreatDoorGen
namespace Go.Proofs.YtookcfpiegbafaaGreatDoor
open Go.ChangeShapes Go.WideShapes Go.ChangeAt Go.RowKit
set_option maxRecDepth 100000

theorem SliceBytes.below {B : Nat} {w w' : World} {v : Value} {n : Nat} (h : SliceBytes B w v n) (hb : Below B w w') : SliceBytes B w' v n := by
  obtain ⟨A, c, hv, hc, hi⟩ := h
  refine ⟨A, c, hv, hc, fun k hk => ?_⟩
  obtain ⟨b, off, x, hA, hlt, hcell, hx⟩ := hi k hk
  exact ⟨b, off, x, hA, hlt, (hb.cell (p := ⟨b, off + k, none⟩) hlt).trans hcell, hx⟩
theorem SliceBytes.mono {B B' : Nat} {w : World} {v : Value} {n : Nat} (h : SliceBytes B w v n) (hb : B ≤ B') : SliceBytes B' w v n := by
  obtain ⟨A, c, hv, hc, hi⟩ := h
  refine ⟨A, c, hv, hc, fun k hk => ?_⟩
  obtain ⟨b, off, x, hA, hlt, hcell, hx⟩ := hi k hk
  exact ⟨b, off, x, hA, by omega, hcell, hx⟩
section
variable {H : Type} {enc : TypeId × Value → H}
/-- A slice of bytes that came in. -/
theorem open_byteS {W : World} {r : Reach} {b0 : Nat} {v : Value} {d : DataW H} {ps : List MemPlace} (hval : Value.okWide Tryz.prog W r b0 28 v)
    (h : DataW.Trod enc Tryz.prog W 0 (fun _ => true) true 28 v d ps) (hlt : ∀ x ∈ ps, x.block < W.heap.size) : ∃ n, SliceBytes W.heap.size W v n ∧ n ≤ maxLen := by
  obtain ⟨a0, len, cap, rfl⟩ := okWide_slice Tryz.underlying28 hval
  obtain ⟨fuel, hf⟩ := h
  rcases open_ints Tryz.underlying28 Tryz.underlying5 (by kernel_rfl) hf with ⟨hcs, hx⟩ | ⟨a, len', cap', zs, hcs, _, hl, hm, hz, hx, hcell, hwz⟩
  · simp [Value.cells] at hcs
    obtain ⟨rfl, rfl, rfl⟩ := hcs
    exact ⟨0, ⟨none, 0, rfl, ⟨Nat.le_refl _, Nat.zero_le _⟩, fun k hk => absurd hk (Nat.not_lt_zero _)⟩, Nat.zero_le _⟩
  · simp [Value.cells] at hcs
    obtain ⟨rfl, rfl, rfl⟩ := hcs
    simp only [if_true] at hz
    have hps : ps = MemPlace.row a zs.length := (Prod.mk.inj hx).2
    refine ⟨len, ⟨some a, cap, rfl, ⟨hl, hm⟩, fun k hk => ?_⟩, by omega⟩
    have hkz : k < zs.length := by omega
    obtain ⟨b, off, spot⟩ := a
    have hspot : spot = none := by simpa [Addr.add] using World.cell?_spot (hcell 0 (by omega))
    subst hspot
    have hc := hcell k hkz
    rw [add_plain] at hc
    have hw := hwz (zs.getD k 0) (by simp [List.getD, hkz])
    simp [Lit.wf, IntKind.min, IntKind.max, IntKind.bits, IntKind.signed] at hw
    have e0 : zs.getD k 0 = zs[k]?.getD 0 := by simp [List.getD]
    exact ⟨b, off, _, rfl, hlt (.cell b off) (by rw [hps]; exact MemPlace.mem_row.2 ⟨0, by omega, by simp⟩), hc, by omega, by omega⟩
end
end Go.Proofs.YtookcfpiegbafaaGreatDoor
