/- Contracts of IsNorm and normalOr. Condition: none longer than any slice can be. -/
import Derived.Test.YtookcfpiegbafaaDoorOpNorm
import Derived.Test.YtookcfpiegbafaaDoorMarks
namespace Go.Proofs.YtookcfpiegbafaaDoor
open Go.RowKit
set_option maxRecDepth 100000

theorem same_eq {p q : Pt} : Pl.same p q = true ↔ p = q := by
  obtain ⟨a, b, c⟩ := p
  obtain ⟨d, e, f⟩ := q
  simp [Pl.same]
theorem sameS_eq : ∀ {ps qs : List Pt}, Pl.sameS ps qs = true ↔ ps = qs
  | [], [] => by simp [Pl.sameS]
  | [], _ :: _ => by simp [Pl.sameS]
  | _ :: _, [] => by simp [Pl.sameS]
  | p :: ps, q :: qs => by simp [Pl.sameS, same_eq, sameS_eq (ps := ps) (qs := qs)]
theorem sameS_comm (ps qs : List Pt) : Pl.sameS ps qs = Pl.sameS qs ps := by
  rw [Bool.eq_iff_iff, sameS_eq, sameS_eq]
  exact eq_comm
theorem isNorm_eq (o : List Pt) : Pl.isNorm o = (Pl.opOk o && Pl.sameS o (Pl.opNorm o)) := by
  rw [Bool.eq_iff_iff, Pl.isNorm, Bool.and_eq_true, Bool.and_eq_true, sameS_eq]
  constructor
  · rintro ⟨h, e⟩; exact ⟨h, by rw [opNorm_yes h]; exact (of_decide_eq_true e).symm⟩
  · rintro ⟨h, e⟩; exact ⟨h, decide_eq_true (by rw [opNorm_yes h] at e; exact e.symm)⟩
theorem opOk_small {o : List Pt} {k : Int} (h : Pl.opOk o = true) (h0 : 0 ≤ k) (h1 : k ≤ 70368744177664) : Pl.small o k := by
  have hp := opOk_partsOk h
  have hl := partsOk_len hp
  exact ⟨h0, by omega, fun p hm => by have := (fine_of hp p hm).2.2.2; omega, h1⟩
theorem opNorm_small (o : List Pt) (k : Int) (h0 : 0 ≤ k) (h1 : k ≤ 70368744177664) : Pl.small (Pl.opNorm o) k := by
  rw [Pl.opNorm]
  split
  · exact opOk_small (Pl.opOk_norm (by assumption)) h0 h1
  · exact ⟨h0, by simp, by simp, h1⟩

end Go.Proofs.YtookcfpiegbafaaDoor
