/- Contracts of OpSame: two lists of parts held against each other. Condition: none longer than any slice can be. -/
import Derived.Test.YtookcfpiegbafaaDoorParts
import Derived.StillTailTactics
namespace Go.Proofs.YtookcfpiegbafaaDoor
open Go.RowKit
set_option maxRecDepth 100000

def Pl.same (p q : Pt) : Bool := decide (p.kind = q.kind) && (decide (p.n = q.n) && decide (p.signs = q.signs))
def Pl.sameS : List Pt → List Pt → Bool
  | [], [] => true
  | p :: ps, q :: qs => Pl.same p q && Pl.sameS ps qs
  | _, _ => false
theorem sameS_len : ∀ {ps qs : List Pt}, Pl.sameS ps qs = true → ps.length = qs.length
  | [], [], _ => rfl
  | [], _ :: _, h => by simp [Pl.sameS] at h
  | _ :: _, [], h => by simp [Pl.sameS] at h
  | p :: ps, q :: qs, h => by
    simp only [Pl.sameS, Bool.and_eq_true] at h
    simp [sameS_len h.2]
theorem sameS_take : ∀ {ps qs : List Pt} {k : Nat}, k < ps.length → k < qs.length → Pl.sameS (ps.take (k + 1)) (qs.take (k + 1)) = (Pl.sameS (ps.take k) (qs.take k) && Pl.same (ps.getD k ⟨0, 0, []⟩) (qs.getD k ⟨0, 0, []⟩))
  | [], _, _, h, _ => absurd h (Nat.not_lt_zero _)
  | _ :: _, [], _, _, h => absurd h (Nat.not_lt_zero _)
  | p :: ps, q :: qs, 0, _, _ => by simp [Pl.sameS]
  | p :: ps, q :: qs, k + 1, h, h' => by
    have := @sameS_take ps qs k (by simpa using h) (by simpa using h')
    simp only [List.take_succ_cons, Pl.sameS, this, List.getD_cons_succ]
    rw [Bool.and_assoc]
theorem sameS_at : ∀ {ps qs : List Pt} {k : Nat}, k < ps.length → k < qs.length → Pl.same (ps.getD k ⟨0, 0, []⟩) (qs.getD k ⟨0, 0, []⟩) = false → Pl.sameS ps qs = false
  | [], _, _, h, _, _ => absurd h (Nat.not_lt_zero _)
  | _ :: _, [], _, _, h, _ => absurd h (Nat.not_lt_zero _)
  | p :: ps, q :: qs, 0, _, _, h => by simp only [List.getD_cons_zero] at h; simp [Pl.sameS, h]
  | p :: ps, q :: qs, k + 1, h, h', hs => by
    have := @sameS_at ps qs k (by simpa using h) (by simpa using h') (by simpa using hs)
    simp [Pl.sameS, this]
theorem same_k {p q : Pt} (h : p.kind ≠ q.kind) : Pl.same p q = false := by simp [Pl.same, h]
theorem same_n {p q : Pt} (h : p.n ≠ q.n) : Pl.same p q = false := by simp [Pl.same, h]
theorem same_s {p q : Pt} (h : p.kind = q.kind) (h2 : p.n = q.n) : Pl.same p q = decide (p.signs = q.signs) := by simp [Pl.same, h, h2]

end Go.Proofs.YtookcfpiegbafaaDoor
