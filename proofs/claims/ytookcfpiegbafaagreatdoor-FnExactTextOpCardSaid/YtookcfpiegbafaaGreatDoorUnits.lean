/- The plain law of operations, unit by unit: composition is associative, two operations led past one another meet. No program in sight. No condition. -/
import Derived.Test.YtookcfpiegbafaaGreatDoorPlain
namespace Go.Proofs.YtookcfpiegbafaaGreatDoor.Pl

/-- A unit of an operation: 'none' keeps one character, 'some none' drops one, 'some (some c)' puts c. -/
abbrev U := Option (Option Int)

/-- Two lists of units that differ by where drops stand among puts: the least such relation. -/
def Sw (a b : List U) : Prop :=
  ∀ R : List U → List U → Prop, (∀ x, R x x) → (∀ x y, R x y → R y x) → (∀ x y z, R x y → R y z → R x z) →
    (∀ x y c, R (x ++ some none :: some (some c) :: y) (x ++ some (some c) :: some none :: y)) → R a b

theorem Sw.refl (a : List U) : Sw a a := fun _ r _ _ _ => r a
theorem Sw.symm {a b : List U} (h : Sw a b) : Sw b a := fun R r s t g => s _ _ (h R r s t g)
theorem Sw.trans {a b c : List U} (h : Sw a b) (k : Sw b c) : Sw a c := fun R r s t g => t _ _ _ (h R r s t g) (k R r s t g)
theorem Sw.swap (x y : List U) (c : Int) : Sw (x ++ some none :: some (some c) :: y) (x ++ some (some c) :: some none :: y) := fun _ _ _ _ g => g x y c
/-- The relation's own induction. -/
theorem Sw.ind {a b : List U} (h : Sw a b) (R : List U → List U → Prop) (r : ∀ x, R x x) (s : ∀ x y, R x y → R y x) (t : ∀ x y z, R x y → R y z → R x z)
    (g : ∀ x y c, R (x ++ some none :: some (some c) :: y) (x ++ some (some c) :: some none :: y)) : R a b := h R r s t g
theorem Sw.cons (u : U) {a b : List U} (h : Sw a b) : Sw (u :: a) (u :: b) :=
  h.ind (fun x y => Sw (u :: x) (u :: y)) (fun _ => .refl _) (fun _ _ => .symm) (fun _ _ _ => .trans) fun x y c => Sw.swap (u :: x) y c
theorem Sw.left (l : List U) {a b : List U} (h : Sw a b) : Sw (l ++ a) (l ++ b) := by
  induction l with
  | nil => exact h
  | cons u l ih => exact ih.cons u
theorem Sw.right (l : List U) {a b : List U} (h : Sw a b) : Sw (a ++ l) (b ++ l) :=
  h.ind (fun x y => Sw (x ++ l) (y ++ l)) (fun _ => .refl _) (fun _ _ => .symm) (fun _ _ _ => .trans) fun x y c => by
    simpa using Sw.swap x (y ++ l) c

/-- The effect on a text. -/
def app : List U → List Int → List Int
  | [], _ => []
  | none :: u, t => t.take 1 ++ app u (t.drop 1)
  | some none :: u, t => app u (t.drop 1)
  | some (some c) :: u, t => c :: app u t
def from_ : List U → Nat
  | [] => 0
  | none :: u => from_ u + 1
  | some none :: u => from_ u + 1
  | some (some _) :: u => from_ u
def to_ : List U → Nat
  | [] => 0
  | none :: u => to_ u + 1
  | some none :: u => to_ u
  | some (some _) :: u => to_ u + 1

theorem from_append (a b : List U) : from_ (a ++ b) = from_ a + from_ b := by
  induction a with
  | nil => simp [from_]
  | cons u a ih => rcases u with _ | _ | c <;> simp [from_, ih] <;> omega
theorem to_append (a b : List U) : to_ (a ++ b) = to_ a + to_ b := by
  induction a with
  | nil => simp [to_]
  | cons u a ih => rcases u with _ | _ | c <;> simp [to_, ih] <;> omega
theorem app_append (a b : List U) (t : List Int) : app (a ++ b) t = app a t ++ app b (t.drop (from_ a)) := by
  induction a generalizing t with
  | nil => simp [app, from_]
  | cons u a ih => rcases u with _ | _ | c <;> simp [app, from_, ih]
theorem app_length (a : List U) (t : List Int) (h : t.length = from_ a) : (app a t).length = to_ a := by
  induction a generalizing t with
  | nil => simp [app, to_]
  | cons u a ih =>
    rcases u with _ | _ | c
    · simp only [from_] at h
      have := ih (t.drop 1) (by rw [List.length_drop]; omega)
      rw [app, to_, List.length_append, this, List.length_take]
      omega
    · simp only [from_] at h
      rw [app, to_]
      exact ih (t.drop 1) (by rw [List.length_drop]; omega)
    · simp only [from_] at h
      rw [app, to_, List.length_cons, ih t h]
theorem Sw.app {a b : List U} (h : Sw a b) (t : List Int) : app a t = app b t :=
  h.ind (fun x y => Pl.app x t = Pl.app y t) (fun _ => rfl) (fun _ _ => Eq.symm) (fun _ _ _ => Eq.trans) fun x y c => by
    simp [app_append, Pl.app]
theorem Sw.from_ {a b : List U} (h : Sw a b) : from_ a = from_ b :=
  h.ind (fun x y => Pl.from_ x = Pl.from_ y) (fun _ => rfl) (fun _ _ => Eq.symm) (fun _ _ _ => Eq.trans) fun x y c => by
    simp [from_append, Pl.from_]
theorem Sw.to_ {a b : List U} (h : Sw a b) : to_ a = to_ b :=
  h.ind (fun x y => Pl.to_ x = Pl.to_ y) (fun _ => rfl) (fun _ _ => Eq.symm) (fun _ _ _ => Eq.trans) fun x y c => by
    simp [to_append, Pl.to_]

/-- Composition. -/
def cmp : List U → List U → List U
  | some none :: a, b => some none :: cmp a b
  | [], [] => []
  | [], none :: b => cmp [] b
  | [], some none :: b => cmp [] b
  | [], some (some c) :: b => some (some c) :: cmp [] b
  | none :: a, [] => cmp a []
  | none :: a, some (some c) :: b => some (some c) :: cmp (none :: a) b
  | none :: a, none :: b => none :: cmp a b
  | none :: a, some none :: b => some none :: cmp a b
  | some (some _) :: a, [] => cmp a []
  | some (some d) :: a, some (some c) :: b => some (some c) :: cmp (some (some d) :: a) b
  | some (some d) :: a, none :: b => some (some d) :: cmp a b
  | some (some _) :: a, some none :: b => cmp a b
termination_by a b => a.length + b.length

/-- Two operations led past one another. -/
def xf : List U → List U → List U × List U
  | some (some c) :: a, b => (some (some c) :: (xf a b).1, none :: (xf a b).2)
  | [], some (some c) :: b => (none :: (xf [] b).1, some (some c) :: (xf [] b).2)
  | none :: a, some (some c) :: b => (none :: (xf (none :: a) b).1, some (some c) :: (xf (none :: a) b).2)
  | some none :: a, some (some c) :: b => (none :: (xf (some none :: a) b).1, some (some c) :: (xf (some none :: a) b).2)
  | none :: a, none :: b => (none :: (xf a b).1, none :: (xf a b).2)
  | some none :: a, none :: b => (some none :: (xf a b).1, (xf a b).2)
  | none :: a, some none :: b => ((xf a b).1, some none :: (xf a b).2)
  | some none :: a, some none :: b => xf a b
  | _, _ => ([], [])
termination_by a b => a.length + b.length


theorem app_cmp (a b : List U) : ∀ t : List Int, t.length = from_ a → to_ a = from_ b → app (cmp a b) t = app b (app a t) := by
  induction a, b using cmp.induct with
  | case1 a b ih =>
    intro t h1 h2
    simp only [from_] at h1
    simp only [to_] at h2
    rw [cmp, app, app]
    exact ih (t.drop 1) (by rw [List.length_drop]; omega) h2
  | case2 => intro t _ _; simp [cmp, app]
  | case3 b ih => intro t _ h2; simp [to_, from_] at h2
  | case4 b ih => intro t _ h2; simp [to_, from_] at h2
  | case5 c b ih =>
    intro t h1 h2
    rw [cmp, app, app, ih t h1 (by simpa [from_] using h2)]
    simp [app]
  | case6 a ih => intro t _ h2; simp [to_, from_] at h2
  | case7 a c b ih =>
    intro t h1 h2
    have := ih t h1 (by simpa [from_] using h2)
    simp [cmp, app] at this ⊢
    exact this
  | case8 a b ih =>
    intro t h1 h2
    simp only [from_] at h1 h2
    simp only [to_] at h2
    match t, h1 with
    | x :: t, h1 =>
      have := ih t (by simpa using h1) (by omega)
      simp [cmp, app, this]
  | case9 a b ih =>
    intro t h1 h2
    simp only [from_] at h1 h2
    simp only [to_] at h2
    match t, h1 with
    | x :: t, h1 =>
      have := ih t (by simpa using h1) (by omega)
      simp [cmp, app, this]
  | case10 d a ih => intro t _ h2; simp [to_, from_] at h2
  | case11 d a c b ih =>
    intro t h1 h2
    rw [cmp, app, app.eq_4, ih t h1 (by simpa [from_] using h2)]
  | case12 d a b ih =>
    intro t h1 h2
    simp only [from_] at h1 h2
    simp only [to_] at h2
    simp [cmp, app, ih t h1 (by omega)]
  | case13 d a b ih =>
    intro t h1 h2
    simp only [from_] at h1 h2
    simp only [to_] at h2
    simp [cmp, app, ih t h1 (by omega)]

theorem fromTo_cmp (a b : List U) (h : to_ a = from_ b) : from_ (cmp a b) = from_ a ∧ to_ (cmp a b) = to_ b := by
  induction a, b using cmp.induct with
  | case1 a b ih => simp only [to_] at h; simp [cmp, from_, to_, ih h]
  | case2 => simp [cmp, from_, to_]
  | case3 b ih => simp [to_, from_] at h
  | case4 b ih => simp [to_, from_] at h
  | case5 c b ih => simp only [from_] at h; simp [cmp, from_, to_, ih h]
  | case6 a ih => simp [to_, from_] at h
  | case7 a c b ih => simp only [from_] at h; have := ih h; simp [cmp, from_, to_, this]
  | case8 a b ih => simp only [from_, to_] at h; simp [cmp, from_, to_, ih (by omega)]
  | case9 a b ih => simp only [from_, to_] at h; simp [cmp, from_, to_, ih (by omega)]
  | case10 d a ih => simp [to_, from_] at h
  | case11 d a c b ih => simp only [from_] at h; have := ih h; simp [cmp, from_, to_, this]
  | case12 d a b ih => simp only [from_, to_] at h; simp [cmp, from_, to_, ih (by omega)]
  | case13 d a b ih => simp only [from_, to_] at h; simp [cmp, from_, to_, ih (by omega)]

/-- Two operations led past one another meet. -/
theorem app_xf (a b : List U) : ∀ t : List Int, t.length = from_ a → from_ a = from_ b → app (xf a b).2 (app a t) = app (xf a b).1 (app b t) := by
  induction a, b using xf.induct with
  | case1 c a b ih => intro t h1 h2; simp only [from_] at h1 h2; simp [xf, app, ih t h1 h2]
  | case2 c b ih => intro t h1 h2; simp only [from_] at h1 h2; have := ih t h1 (by simpa [from_] using h2); simp [xf, app] at this ⊢; exact this
  | case3 a c b ih => intro t h1 h2; have := ih t h1 (by simpa [from_] using h2); simp [xf, app] at this ⊢; exact this
  | case4 a c b ih => intro t h1 h2; have := ih t h1 (by simpa [from_] using h2); simp [xf, app] at this ⊢; exact this
  | case5 a b ih =>
    intro t h1 h2
    simp only [from_] at h1 h2
    match t, h1 with
    | x :: t, h1 =>
      have := ih t (by simpa using h1) (by omega)
      simp [xf, app, this]
  | case6 a b ih =>
    intro t h1 h2
    simp only [from_] at h1 h2
    match t, h1 with
    | x :: t, h1 =>
      have := ih t (by simpa using h1) (by omega)
      simp [xf, app, this]
  | case7 a b ih =>
    intro t h1 h2
    simp only [from_] at h1 h2
    match t, h1 with
    | x :: t, h1 =>
      have := ih t (by simpa using h1) (by omega)
      simp [xf, app, this]
  | case8 a b ih =>
    intro t h1 h2
    simp only [from_] at h1 h2
    match t, h1 with
    | x :: t, h1 =>
      have := ih t (by simpa using h1) (by omega)
      simp [xf, app, this]
  | case9 a b h1 h2 h3 h4 h5 h6 h7 h8 =>
    intro t e1 e2
    rcases a with _ | ⟨_ | _ | c, a⟩ <;> rcases b with _ | ⟨_ | _ | d, b⟩
    all_goals first
      | (simp [from_] at e2; done)
      | exact (h1 _ _ rfl).elim | exact (h2 _ _ rfl rfl).elim | exact (h3 _ _ _ rfl rfl).elim | exact (h4 _ _ _ rfl rfl).elim | exact (h5 _ _ rfl rfl).elim | exact (h6 _ _ rfl rfl).elim
      | exact (h7 _ _ rfl rfl).elim | exact (h8 _ _ rfl rfl).elim | (simp [xf, app]; done)


theorem fromTo_xf (a b : List U) (h : from_ a = from_ b) : from_ (xf a b).1 = to_ b ∧ from_ (xf a b).2 = to_ a ∧ to_ (xf a b).1 = to_ (xf a b).2 ∧ to_ (xf a b).1 + from_ a ≤ to_ a + to_ b + from_ a := by
  induction a, b using xf.induct with
  | case1 c a b ih => simp only [from_] at h; have := ih h; simp [xf, from_, to_, this]; omega
  | case2 c b ih => have := ih (by simpa [from_] using h); simp [xf, from_, to_] at this ⊢; omega
  | case3 a c b ih => have := ih (by simpa [from_] using h); simp [xf, from_, to_] at this ⊢; omega
  | case4 a c b ih => have := ih (by simpa [from_] using h); simp [xf, from_, to_] at this ⊢; omega
  | case5 a b ih => simp only [from_] at h; have := ih (by omega); simp only [xf, from_, to_]; omega
  | case6 a b ih => simp only [from_] at h; have := ih (by omega); simp only [xf, from_, to_]; omega
  | case7 a b ih => simp only [from_] at h; have := ih (by omega); simp only [xf, from_, to_]; omega
  | case8 a b ih => simp only [from_] at h; have := ih (by omega); simp only [xf, from_, to_]; omega
  | case9 a b h1 h2 h3 h4 h5 h6 h7 h8 =>
    rcases a with _ | ⟨_ | _ | c, a⟩ <;> rcases b with _ | ⟨_ | _ | d, b⟩
    all_goals first
      | (simp [from_] at h; done)
      | exact (h1 _ _ rfl).elim | exact (h2 _ _ rfl rfl).elim | exact (h3 _ _ _ rfl rfl).elim | exact (h4 _ _ _ rfl rfl).elim | exact (h5 _ _ rfl rfl).elim | exact (h6 _ _ rfl rfl).elim
      | exact (h7 _ _ rfl rfl).elim | exact (h8 _ _ rfl rfl).elim | (simp [xf, from_, to_]; done)

/-- Composition is associative. -/
theorem cmp_assoc (a b c : List U) (h1 : to_ a = from_ b) (h2 : to_ b = from_ c) : cmp (cmp a b) c = cmp a (cmp b c) := by
  match a, b, c with
  | some none :: a, b, c => rw [cmp, cmp, cmp, cmp_assoc a b c (by simpa [to_] using h1) h2]
  | [], [], [] => simp [cmp]
  | [], [], none :: c => simp [from_, to_] at h2
  | [], [], some none :: c => simp [from_, to_] at h2
  | [], [], some (some x) :: c =>
    have := cmp_assoc [] [] c rfl (by simpa [from_] using h2)
    simp only [cmp] at this ⊢
    rw [← this]
  | [], none :: b, c => simp [from_, to_] at h1
  | [], some none :: b, c => simp [from_, to_] at h1
  | none :: a, [], c => simp [from_, to_] at h1
  | some (some y) :: a, [], c => simp [from_, to_] at h1
  | [], some (some x) :: b, [] => simp [from_, to_] at h2
  | none :: a, some (some x) :: b, [] => simp [from_, to_] at h2
  | some (some y) :: a, some (some x) :: b, [] => simp [from_, to_] at h2
  | none :: a, none :: b, [] => simp [from_, to_] at h2
  | some (some y) :: a, none :: b, [] => simp [from_, to_] at h2
  | [], some (some y) :: b, some (some x) :: c =>
    have := cmp_assoc [] (some (some y) :: b) c (by simpa using h1) (by simpa [from_] using h2)
    simp only [cmp] at this ⊢
    rw [this]
  | [], some (some y) :: b, none :: c =>
    have := cmp_assoc [] b c (by simpa [from_] using h1) (by simpa [from_, to_] using h2)
    simp only [cmp] at this ⊢
    rw [this]
  | [], some (some y) :: b, some none :: c =>
    have := cmp_assoc [] b c (by simpa [from_] using h1) (by simpa [from_, to_] using h2)
    simp only [cmp] at this ⊢
    rw [this]
  | none :: a, some none :: b, c =>
    have := cmp_assoc a b c (by simpa [from_, to_] using h1) (by simpa [from_, to_] using h2)
    simp only [cmp] at this ⊢
    rw [this]
  | some (some y) :: a, some none :: b, c =>
    have := cmp_assoc a b c (by simpa [from_, to_] using h1) (by simpa [from_, to_] using h2)
    simp only [cmp] at this ⊢
    rw [this]
  | none :: a, none :: b, some (some x) :: c =>
    have := cmp_assoc (none :: a) (none :: b) c h1 (by simpa [from_] using h2)
    simp only [cmp] at this ⊢
    rw [this]
  | none :: a, some (some y) :: b, some (some x) :: c =>
    have := cmp_assoc (none :: a) (some (some y) :: b) c h1 (by simpa [from_] using h2)
    simp only [cmp] at this ⊢
    rw [this]
  | some (some z) :: a, none :: b, some (some x) :: c =>
    have := cmp_assoc (some (some z) :: a) (none :: b) c h1 (by simpa [from_] using h2)
    simp only [cmp] at this ⊢
    rw [this]
  | some (some z) :: a, some (some y) :: b, some (some x) :: c =>
    have := cmp_assoc (some (some z) :: a) (some (some y) :: b) c h1 (by simpa [from_] using h2)
    simp only [cmp] at this ⊢
    rw [this]
  | none :: a, none :: b, none :: c =>
    have := cmp_assoc a b c (by simpa [from_, to_] using h1) (by simpa [from_, to_] using h2)
    simp only [cmp] at this ⊢
    rw [this]
  | none :: a, none :: b, some none :: c =>
    have := cmp_assoc a b c (by simpa [from_, to_] using h1) (by simpa [from_, to_] using h2)
    simp only [cmp] at this ⊢
    rw [this]
  | some (some z) :: a, none :: b, none :: c =>
    have := cmp_assoc a b c (by simpa [from_, to_] using h1) (by simpa [from_, to_] using h2)
    simp only [cmp] at this ⊢
    rw [this]
  | some (some z) :: a, none :: b, some none :: c =>
    have := cmp_assoc a b c (by simpa [from_, to_] using h1) (by simpa [from_, to_] using h2)
    simp only [cmp] at this ⊢
    rw [this]
  | none :: a, some (some y) :: b, none :: c =>
    have := cmp_assoc (none :: a) b c (by simpa [from_] using h1) (by simpa [from_, to_] using h2)
    simp only [cmp] at this ⊢
    rw [this]
  | none :: a, some (some y) :: b, some none :: c =>
    have := cmp_assoc (none :: a) b c (by simpa [from_] using h1) (by simpa [from_, to_] using h2)
    simp only [cmp] at this ⊢
    rw [this]
  | some (some z) :: a, some (some y) :: b, none :: c =>
    have := cmp_assoc (some (some z) :: a) b c (by simpa [from_] using h1) (by simpa [from_, to_] using h2)
    simp only [cmp] at this ⊢
    rw [this]
  | some (some z) :: a, some (some y) :: b, some none :: c =>
    have := cmp_assoc (some (some z) :: a) b c (by simpa [from_] using h1) (by simpa [from_, to_] using h2)
    simp only [cmp] at this ⊢
    rw [this]
termination_by a.length + b.length + c.length

/-- A put may be taken ahead of what drops. -/
theorem cmp_put (c : Int) : ∀ (a b : List U), Sw (cmp a (some (some c) :: b)) (some (some c) :: cmp a b)
  | some none :: a, b => by
    rw [cmp, cmp]
    exact ((cmp_put c a b).cons _).trans (Sw.swap [] _ c)
  | [], b => by rw [cmp]; exact Sw.refl _
  | none :: a, b => by rw [cmp]; exact Sw.refl _
  | some (some d) :: a, b => by rw [cmp]; exact Sw.refl _

theorem Sw.cmp_right (a : List U) {b b' : List U} (h : Sw b b') : Sw (cmp a b) (cmp a b') := by
  refine h.ind (fun x y => ∀ a, Sw (cmp a x) (cmp a y)) (fun _ _ => .refl _) (fun _ _ h a => (h a).symm) (fun _ _ _ h k a => (h a).trans (k a)) ?_ a
  intro x y c
  induction x with
  | nil =>
    intro a
    induction a with
    | nil => simp only [List.nil_append, cmp]; exact Sw.refl _
    | cons u a ih =>
      rcases u with _ | _ | d
      · simp only [List.nil_append, cmp]
        exact ((cmp_put c a y).cons _).trans (Sw.swap [] _ c)
      · simp only [List.nil_append, cmp] at ih ⊢
        exact ih.cons _
      · simp only [List.nil_append, cmp]
        exact cmp_put c a y
  | cons v x ihx =>
    intro a
    induction a with
    | nil =>
      rcases v with _ | _ | d
      · simp only [List.cons_append, cmp]; exact ihx []
      · simp only [List.cons_append, cmp]; exact ihx []
      · simp only [List.cons_append, cmp]; exact (ihx []).cons _
    | cons u a ih =>
      rcases u with _ | _ | e
      · rcases v with _ | _ | d
        · simp only [List.cons_append, cmp]; exact (ihx a).cons _
        · simp only [List.cons_append, cmp]; exact (ihx a).cons _
        · simp only [List.cons_append, cmp]; exact (ihx (none :: a)).cons _
      · simp only [List.cons_append, cmp] at ih ⊢; exact ih.cons _
      · rcases v with _ | _ | d
        · simp only [List.cons_append, cmp]; exact (ihx a).cons _
        · simp only [List.cons_append, cmp]; exact ihx a
        · simp only [List.cons_append, cmp]; exact (ihx (some (some e) :: a)).cons _

theorem cmp_swap_head (y : List U) (c : Int) : ∀ b : List U, Sw (cmp (some none :: some (some c) :: y) b) (cmp (some (some c) :: some none :: y) b)
  | [] => by simp only [cmp]; exact Sw.refl _
  | none :: b => by simp only [cmp]; exact Sw.swap [] _ c
  | some none :: b => by simp only [cmp]; exact Sw.refl _
  | some (some d) :: b => by
    have ih := cmp_swap_head y c b
    simp only [cmp] at ih ⊢
    exact (Sw.swap [] _ d).trans (ih.cons _)

theorem Sw.cmp_left {a a' : List U} (h : Sw a a') (b : List U) : Sw (cmp a b) (cmp a' b) := by
  refine h.ind (fun x y => ∀ b, Sw (cmp x b) (cmp y b)) (fun _ _ => .refl _) (fun _ _ h a => (h a).symm) (fun _ _ _ h k a => (h a).trans (k a)) ?_ b
  intro x y c
  induction x with
  | nil => exact fun b => cmp_swap_head y c b
  | cons v x ihx =>
    intro b
    rcases v with _ | _ | d
    · induction b with
      | nil => simp only [List.cons_append, cmp]; exact ihx []
      | cons u b ih =>
        rcases u with _ | _ | e
        · simp only [List.cons_append, cmp]; exact (ihx b).cons _
        · simp only [List.cons_append, cmp]; exact (ihx b).cons _
        · simp only [List.cons_append, cmp] at ih ⊢; exact ih.cons _
    · simp only [List.cons_append, cmp]; exact (ihx b).cons _
    · induction b with
      | nil => simp only [List.cons_append, cmp]; exact ihx []
      | cons u b ih =>
        rcases u with _ | _ | e
        · simp only [List.cons_append, cmp]; exact (ihx b).cons _
        · simp only [List.cons_append, cmp]; exact ihx b
        · simp only [List.cons_append, cmp] at ih ⊢; exact ih.cons _

end Go.Proofs.YtookcfpiegbafaaGreatDoor.Pl
