/- The plain law of composition and transformation, run by run. No program in sight. No condition. -/
import Derived.Test.YtlpjbbmjchfolaaAlg
namespace Go.Proofs.Ytlpjbbmjchfolaa.Pl

abbrev ks (n : Nat) : List U := List.replicate n none
abbrev ds (n : Nat) : List U := List.replicate n (some none)
abbrev pus (l : List Int) : List U := l.map fun c => some (some c)

/-- Units that do not begin with a drop. -/
def NoD (a : List U) : Prop := a = [] ∨ (∃ x, a = none :: x) ∨ ∃ c x, a = some (some c) :: x
/-- Units that do not begin with a put. -/
def NoP (a : List U) : Prop := a = [] ∨ (∃ x, a = none :: x) ∨ ∃ x, a = some none :: x

theorem cmp_nil : cmp [] [] = [] := by simp [cmp]
theorem cmp_ds (n : Nat) (a b : List U) : cmp (ds n ++ a) b = ds n ++ cmp a b := by
  induction n with
  | zero => simp
  | succ n ih => simp [ds, List.replicate_succ, cmp] at ih ⊢; exact ih
theorem cmp_pus (l : List Int) (a b : List U) (h : NoD a) : cmp a (pus l ++ b) = pus l ++ cmp a b := by
  induction l with
  | nil => simp
  | cons c l ih =>
    rcases h with rfl | ⟨x, rfl⟩ | ⟨d, x, rfl⟩
    all_goals
      simp only [List.map_cons, List.cons_append, cmp] at ih ⊢
      rw [ih]
theorem cmp_kk (n : Nat) (a b : List U) : cmp (ks n ++ a) (ks n ++ b) = ks n ++ cmp a b := by
  induction n with
  | zero => simp
  | succ n ih => simp [ks, List.replicate_succ, cmp] at ih ⊢; exact ih
theorem cmp_kd (n : Nat) (a b : List U) : cmp (ks n ++ a) (ds n ++ b) = ds n ++ cmp a b := by
  induction n with
  | zero => simp
  | succ n ih => simp [ks, ds, List.replicate_succ, cmp] at ih ⊢; exact ih
theorem cmp_pk (l : List Int) (a b : List U) : cmp (pus l ++ a) (ks l.length ++ b) = pus l ++ cmp a b := by
  induction l with
  | nil => simp
  | cons c l ih => simp [ks, List.replicate_succ, cmp] at ih ⊢; exact ih
theorem cmp_pd (l : List Int) (a b : List U) : cmp (pus l ++ a) (ds l.length ++ b) = cmp a b := by
  induction l with
  | nil => simp
  | cons c l ih => simp [ds, List.replicate_succ, cmp] at ih ⊢; exact ih

theorem xf_nil : xf [] [] = ([], []) := by simp [xf]
theorem xf_pus (l : List Int) (a b : List U) : xf (pus l ++ a) b = (pus l ++ (xf a b).1, ks l.length ++ (xf a b).2) := by
  induction l with
  | nil => simp
  | cons c l ih => simp [ks, List.replicate_succ, xf] at ih ⊢; simp [ih]
theorem xf_pus2 (l : List Int) (a b : List U) (h : NoP a) : xf a (pus l ++ b) = (ks l.length ++ (xf a b).1, pus l ++ (xf a b).2) := by
  induction l with
  | nil => simp
  | cons c l ih =>
    rcases h with rfl | ⟨x, rfl⟩ | ⟨x, rfl⟩
    all_goals
      simp [ks, List.replicate_succ, xf] at ih ⊢
      simp [ih]
theorem xf_kk (n : Nat) (a b : List U) : xf (ks n ++ a) (ks n ++ b) = (ks n ++ (xf a b).1, ks n ++ (xf a b).2) := by
  induction n with
  | zero => simp
  | succ n ih => simp [ks, List.replicate_succ, xf] at ih ⊢; simp [ih]
theorem xf_dk (n : Nat) (a b : List U) : xf (ds n ++ a) (ks n ++ b) = (ds n ++ (xf a b).1, (xf a b).2) := by
  induction n with
  | zero => simp
  | succ n ih => simp [ks, ds, List.replicate_succ, xf] at ih ⊢; simp [ih]
theorem xf_kd (n : Nat) (a b : List U) : xf (ks n ++ a) (ds n ++ b) = ((xf a b).1, ds n ++ (xf a b).2) := by
  induction n with
  | zero => simp
  | succ n ih => simp [ks, ds, List.replicate_succ, xf] at ih ⊢; simp [ih]
theorem xf_dd (n : Nat) (a b : List U) : xf (ds n ++ a) (ds n ++ b) = xf a b := by
  induction n with
  | zero => simp
  | succ n ih => simp [ds, List.replicate_succ, xf] at ih ⊢; exact ih

/-- The size of a part, and the parts without those at the head that have none. -/
def skip (o : List Pt) : List Pt := o.dropWhile fun p => decide (size p = 0)
theorem units_skip {o : List Pt} (h : ∀ p ∈ o, partOk p = true) : units (skip o) = units o := by
  induction o with
  | nil => rfl
  | cons p o ih =>
    rw [skip, List.dropWhile_cons]
    split
    · rename_i hs
      have e : unitsP p = [] := by
        have hs' : size p = 0 := by simpa using hs
        unfold size at hs'
        rcases partOk_cases (h p (by simp)) with ⟨h1, h2, h3, h4⟩ | ⟨h1, h2, h3, h4⟩ | ⟨h1, h2, h3, h4⟩
        · rw [h4] at hs'; simp at hs'; simp [unitsP, h1, hs']
        · rw [h4] at hs'; simp at hs'; simp [unitsP, h1, hs']
        · have : p.signs = [] := List.eq_nil_of_length_eq_zero (by omega)
          simp [unitsP, h1, this]
      rw [units_cons, e, List.nil_append]
      exact ih fun q hq => h q (by simp [hq])
    · rfl
theorem skip_ok {o : List Pt} (h : ∀ p ∈ o, partOk p = true) : ∀ p ∈ skip o, partOk p = true := fun p hp => h p ((List.dropWhile_sublist _).subset hp)
theorem skip_head {o : List Pt} {p : Pt} {q : List Pt} (h : skip o = p :: q) : size p ≠ 0 := by
  have := List.head?_dropWhile_not (fun p => decide (size p = 0)) o
  rw [show o.dropWhile (fun p => decide (size p = 0)) = p :: q from h] at this
  simpa using this
end Go.Proofs.Ytlpjbbmjchfolaa.Pl
