/- What composition and transformation give may be marked. No program in sight. No condition. -/
import Derived.Test.YtlpjbbmjchfolaaIsNorm
import Derived.Test.YtlpjbbmjchfolaaStep
namespace Go.Proofs.Ytlpjbbmjchfolaa

theorem small_nil (k : Int) (h0 : 0 ≤ k) (h1 : k ≤ 70368744177664) : Pl.small [] k := ⟨h0, by simp, by simp, h1⟩
theorem compose_small (a b : List Pt) (k : Int) (h0 : 0 ≤ k) (h1 : k ≤ 70368744177664) : Pl.small (Pl.compose a b) k := by
  rw [Pl.compose]
  split
  · rename_i h
    simp only [Pl.cmpOk, Bool.and_eq_true] at h
    exact opOk_small h.2 h0 h1
  · exact small_nil k h0 h1
theorem trans1_small (a b : List Pt) (k : Int) (h0 : 0 ≤ k) (h1 : k ≤ 70368744177664) : Pl.small (Pl.trans1 a b) k := by
  rw [Pl.trans1]
  split
  · rename_i h
    simp only [Pl.xfOk, Bool.and_eq_true] at h
    exact opOk_small h.2.1 h0 h1
  · exact small_nil k h0 h1
theorem trans2_small (a b : List Pt) (k : Int) (h0 : 0 ≤ k) (h1 : k ≤ 70368744177664) : Pl.small (Pl.trans2 a b) k := by
  rw [Pl.trans2]
  split
  · rename_i h
    simp only [Pl.xfOk, Bool.and_eq_true] at h
    exact opOk_small h.2.2 h0 h1
  · exact small_nil k h0 h1
end Go.Proofs.Ytlpjbbmjchfolaa
