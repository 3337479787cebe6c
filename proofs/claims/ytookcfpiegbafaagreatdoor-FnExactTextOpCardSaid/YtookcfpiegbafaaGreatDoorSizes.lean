/- Contracts of the laws' counts: szPart, szPartS. Condition: at most 2^20 are counted. -/
import Derived.Test.YtookcfpiegbafaaGreatDoorToInts
namespace Go.Proofs.YtookcfpiegbafaaGreatDoor
open Go.RowKit
set_option maxRecDepth 100000

/-- What szPartS leaves of 'left' behind the first parts. -/
def Pl.sz : List Pt → Int → Int
  | [], left => left
  | p :: ps, left => if left < p.signs.length then -1 else Pl.sz ps (left - p.signs.length)
def Pl.szS (ps : List Pt) (left : Int) : Int := if left < ps.length then -1 else Pl.sz ps (left - ps.length)

theorem sz_bd : ∀ (ps : List Pt) (left : Int), 0 ≤ left → Pl.sz ps left ≤ left ∧ (0 ≤ Pl.sz ps left → ∀ p ∈ ps, (p.signs.length : Int) ≤ left)
  | [], left, _ => ⟨Int.le_refl _, fun _ p hp => by simp at hp⟩
  | p :: ps, left, _ => by
    rw [Pl.sz]
    split
    · exact ⟨by omega, fun h => by omega⟩
    · have := sz_bd ps (left - p.signs.length) (by omega)
      refine ⟨by omega, fun h0 q hq => ?_⟩
      rcases List.mem_cons.1 hq with rfl | hq
      · omega
      · have := this.2 h0 q hq
        omega
theorem szS_bd {ps : List Pt} {left : Int} (_h : 0 ≤ left) (h0 : 0 ≤ Pl.szS ps left) : (ps.length : Int) ≤ left ∧ ∀ p ∈ ps, (p.signs.length : Int) ≤ left := by
  unfold Pl.szS at h0
  split at h0
  · omega
  · have := sz_bd ps (left - ps.length) (by omega)
    exact ⟨by omega, fun p hp => by have := this.2 h0 p hp; omega⟩
theorem szS_le {ps : List Pt} {left : Int} (_h : 0 ≤ left) : Pl.szS ps left ≤ left := by
  unfold Pl.szS
  split
  · omega
  · have := sz_bd ps (left - ps.length) (by omega)
    omega
theorem szS_nat {ps : List Pt} {left : Int} (h : 0 ≤ left) (h1 : left ≤ 1048576) (h0 : 0 ≤ Pl.szS ps left) : ps.length ≤ 1048576 ∧ ∀ p ∈ ps, p.signs.length ≤ 1048576 := by
  have := szS_bd h h0
  exact ⟨by omega, fun p hp => by have := this.2 p hp; omega⟩

theorem sz_step {ps : List Pt} {k : Nat} (h : k < ps.length) (left : Int) (hlt : ¬ left < (ps.getD k ⟨0, 0, []⟩).signs.length) : Pl.sz (ps.drop k) left = Pl.sz (ps.drop (k + 1)) (left - (ps.getD k ⟨0, 0, []⟩).signs.length) := by
  rw [List.drop_eq_getElem_cons h, Pl.sz]
  simp [List.getD, h] at hlt ⊢
  omega
theorem sz_stop {ps : List Pt} {k : Nat} (h : k < ps.length) (left : Int) (hlt : left < (ps.getD k ⟨0, 0, []⟩).signs.length) : Pl.sz (ps.drop k) left = -1 := by
  rw [List.drop_eq_getElem_cons h, Pl.sz]
  simp [List.getD, h] at hlt ⊢
  omega

end Go.Proofs.YtookcfpiegbafaaGreatDoor
