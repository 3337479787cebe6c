/- The plain functions of composition and transformation of operations, and their laws. No program in sight. No condition. -/
import Derived.Test.YtookcfpiegbafaaGreatDoorNorm2
namespace Go.Proofs.YtookcfpiegbafaaGreatDoor.Pl

theorem okU_cmp (a b : List U) : okU a → okU b → okU (cmp a b) := by
  induction a, b using cmp.induct with
  | case1 a b ih => intro h k c hc; rw [cmp] at hc; exact ih (fun c hc => h c (by simp [hc])) k c (by simpa using hc)
  | case2 => intro _ _ c hc; simp [cmp] at hc
  | case3 b ih => intro h k c hc; rw [cmp] at hc; exact ih h (fun c hc => k c (by simp [hc])) c hc
  | case4 b ih => intro h k c hc; rw [cmp] at hc; exact ih h (fun c hc => k c (by simp [hc])) c hc
  | case5 d b ih => intro h k c hc; rw [cmp] at hc; rcases List.mem_cons.1 hc with e | hc
                    · exact k c (by rw [e]; simp)
                    · exact ih h (fun c hc => k c (by simp [hc])) c hc
  | case6 a ih => intro h k c hc; rw [cmp] at hc; exact ih (fun c hc => h c (by simp [hc])) k c hc
  | case7 a d b ih => intro h k c hc; rw [cmp] at hc; rcases List.mem_cons.1 hc with e | hc
                      · exact k c (by rw [e]; simp)
                      · exact ih h (fun c hc => k c (by simp [hc])) c hc
  | case8 a b ih => intro h k c hc; rw [cmp] at hc; exact ih (fun c hc => h c (by simp [hc])) (fun c hc => k c (by simp [hc])) c (by simpa using hc)
  | case9 a b ih => intro h k c hc; rw [cmp] at hc; exact ih (fun c hc => h c (by simp [hc])) (fun c hc => k c (by simp [hc])) c (by simpa using hc)
  | case10 d a ih => intro h k c hc; rw [cmp] at hc; exact ih (fun c hc => h c (by simp [hc])) k c hc
  | case11 e a d b ih => intro h k c hc; rw [cmp] at hc; rcases List.mem_cons.1 hc with e | hc
                         · exact k c (by rw [e]; simp)
                         · exact ih h (fun c hc => k c (by simp [hc])) c hc
  | case12 d a b ih => intro h k c hc; rw [cmp] at hc; rcases List.mem_cons.1 hc with e | hc
                       · exact h c (by rw [e]; simp)
                       · exact ih (fun c hc => h c (by simp [hc])) (fun c hc => k c (by simp [hc])) c hc
  | case13 d a b ih => intro h k c hc; rw [cmp] at hc; exact ih (fun c hc => h c (by simp [hc])) (fun c hc => k c (by simp [hc])) c hc
theorem okU_xf (a b : List U) : okU a → okU b → okU (xf a b).1 ∧ okU (xf a b).2 := by
  induction a, b using xf.induct with
  | case1 d a b ih =>
    intro h k
    obtain ⟨i1, i2⟩ := ih (fun c hc => h c (by simp [hc])) k
    rw [xf]
    refine ⟨fun c hc => ?_, fun c hc => i2 c (by simpa using hc)⟩
    rcases List.mem_cons.1 hc with e | hc
    · exact h c (by rw [e]; simp)
    · exact i1 c hc
  | case2 d b ih =>
    intro h k
    obtain ⟨i1, i2⟩ := ih h (fun c hc => k c (by simp [hc]))
    rw [xf]
    refine ⟨fun c hc => i1 c (by simpa using hc), fun c hc => ?_⟩
    rcases List.mem_cons.1 hc with e | hc
    · exact k c (by rw [e]; simp)
    · exact i2 c hc
  | case3 a d b ih =>
    intro h k
    obtain ⟨i1, i2⟩ := ih h (fun c hc => k c (by simp [hc]))
    rw [xf]
    refine ⟨fun c hc => i1 c (by simpa using hc), fun c hc => ?_⟩
    rcases List.mem_cons.1 hc with e | hc
    · exact k c (by rw [e]; simp)
    · exact i2 c hc
  | case4 a d b ih =>
    intro h k
    obtain ⟨i1, i2⟩ := ih h (fun c hc => k c (by simp [hc]))
    rw [xf]
    refine ⟨fun c hc => i1 c (by simpa using hc), fun c hc => ?_⟩
    rcases List.mem_cons.1 hc with e | hc
    · exact k c (by rw [e]; simp)
    · exact i2 c hc
  | case5 a b ih =>
    intro h k
    obtain ⟨i1, i2⟩ := ih (fun c hc => h c (by simp [hc])) (fun c hc => k c (by simp [hc]))
    rw [xf]
    exact ⟨fun c hc => i1 c (by simpa using hc), fun c hc => i2 c (by simpa using hc)⟩
  | case6 a b ih =>
    intro h k
    obtain ⟨i1, i2⟩ := ih (fun c hc => h c (by simp [hc])) (fun c hc => k c (by simp [hc]))
    rw [xf]
    exact ⟨fun c hc => i1 c (by simpa using hc), fun c hc => i2 c (by simpa using hc)⟩
  | case7 a b ih =>
    intro h k
    obtain ⟨i1, i2⟩ := ih (fun c hc => h c (by simp [hc])) (fun c hc => k c (by simp [hc]))
    rw [xf]
    exact ⟨fun c hc => i1 c (by simpa using hc), fun c hc => i2 c (by simpa using hc)⟩
  | case8 a b ih =>
    intro h k
    rw [xf]
    exact ih (fun c hc => h c (by simp [hc])) (fun c hc => k c (by simp [hc]))
  | case9 a b h1 h2 h3 h4 h5 h6 h7 h8 =>
    intro h k
    rcases a with _ | ⟨_ | _ | c, a⟩ <;> rcases b with _ | ⟨_ | _ | d, b⟩
    all_goals first
      | exact (h1 _ _ rfl).elim | exact (h2 _ _ rfl rfl).elim | exact (h3 _ _ _ rfl rfl).elim | exact (h4 _ _ _ rfl rfl).elim | exact (h5 _ _ rfl rfl).elim | exact (h6 _ _ rfl rfl).elim
      | exact (h7 _ _ rfl rfl).elim | exact (h8 _ _ rfl rfl).elim | (simp [xf, okU]; done)

/-- Composition of operations; none: it fails. -/
def cmpL (a b : List Pt) : List Pt := grp (cmp (units a) (units b))
def cmpOk (a b : List Pt) : Bool := (opOk a && (opOk b && decide (opTo a = opFrom b))) && opOk (cmpL a b)
def compose (a b : List Pt) : List Pt := if cmpOk a b = true then cmpL a b else []
/-- Transformation. -/
def xf1 (a b : List Pt) : List Pt := grp (xf (units a) (units b)).1
def xf2 (a b : List Pt) : List Pt := grp (xf (units a) (units b)).2
def xfOk (a b : List Pt) : Bool := (opOk a && (opOk b && decide (opFrom a = opFrom b))) && (opOk (xf1 a b) && opOk (xf2 a b))
def trans1 (a b : List Pt) : List Pt := if xfOk a b = true then xf1 a b else []
def trans2 (a b : List Pt) : List Pt := if xfOk a b = true then xf2 a b else []
instance : DecidableEq Pt := fun a b => decidable_of_iff (a.kind = b.kind ∧ a.n = b.n ∧ a.signs = b.signs) (by
  obtain ⟨a1, a2, a3⟩ := a
  obtain ⟨b1, b2, b3⟩ := b
  simp)
/-- A right operation in its normal form. -/
def isNorm (o : List Pt) : Bool := opOk o && decide (norm o = o)
def opNorm (o : List Pt) : List Pt := if opOk o = true then norm o else []

theorem opOk_units_eq {a b : List Pt} (ha : opOk a = true) (hb : opOk b = true) (h : opTo a = opFrom b) : to_ (units a) = from_ (units b) := by
  obtain ⟨_, _, a2, _, _⟩ := opOk_units ha
  obtain ⟨_, b1, _, _, _⟩ := opOk_units hb
  omega
theorem isNorm_grp {us : List U} (h : opOk (grp us) = true) : isNorm (grp us) = true := by
  rw [isNorm, h, norm_grp_self]
  simp
end Go.Proofs.YtookcfpiegbafaaGreatDoor.Pl
