/- Several texts in one; each begins with its own note. No condition but those told there. -/
import Derived.Below
import Derived.Lib.SplitLaws
/- The plain functions on lists that the program's functions compute, and the small facts on them. No condition. -/
namespace Go.Proofs.YtookcfpiegbafaaGreatDoor

/-- A part of an operation: its kind, its number, its characters. -/
structure Pt where
  kind : Int
  n : Int
  signs : List Int

namespace Pl

def signOk (n : Int) : Bool := (decide (0 ≤ n) && decide (n ≤ 1114111)) && !(decide (55296 ≤ n) && decide (n ≤ 57343))
def signsOk (l : List Int) : Bool := l.all signOk
def textOk (t : List Int) : Bool := decide (t.length ≤ 200) && signsOk t
def partOk (p : Pt) : Bool :=
  if p.kind = 1 ∨ p.kind = 3 then (decide (0 ≤ p.n) && decide (p.n ≤ 200)) && p.signs.isEmpty
  else if p.kind = 2 then decide (p.n = 0) && (decide (p.signs.length ≤ 200) && signsOk p.signs) else false
def partsOk (o : List Pt) : Bool := o.all partOk && decide (o.length ≤ 600)
def size (p : Pt) : Int := p.n + p.signs.length
def keepsP (p : Pt) : Int := if p.kind = 1 then p.n else 0
def putsP (p : Pt) : Int := if p.kind = 2 then p.signs.length else 0
def dropsP (p : Pt) : Int := if p.kind = 1 then 0 else if p.kind = 2 then 0 else p.n
def keeps (o : List Pt) : Int := (o.map keepsP).sum
def puts (o : List Pt) : Int := (o.map putsP).sum
def drops (o : List Pt) : Int := (o.map dropsP).sum
def opFrom (o : List Pt) : Int := if partsOk o = true then keeps o + drops o else 0
def opTo (o : List Pt) : Int := if partsOk o = true then keeps o + puts o else 0
def opOk (o : List Pt) : Bool := partsOk o && (decide (opFrom o ≤ 200) && decide (opTo o ≤ 200))
def opPuts (o : List Pt) : Int := if opOk o = true then puts o else 0
def opDrops (o : List Pt) : Int := if opOk o = true then drops o else 0
def keeping (n : Int) : List Pt := if 1 ≤ n ∧ n ≤ 200 then [⟨1, n, []⟩] else []
def partCount (o : List Pt) (k : Int) : Int := (o.map fun p => if p.kind = k then 1 else 0).sum

end Pl
end Go.Proofs.YtookcfpiegbafaaGreatDoor

/- The plain law of operations, unit by unit: composition is associative, two operations led past one another meet. No program in sight. No condition. -/
namespace Go.Proofs.YtookcfpiegbafaaGreatDoor.Pl

/-- A unit of an operation: 'none' keeps one character, 'some none' drops one, 'some (some c)' puts c. -/
abbrev U := Option (Option Int)

/-- Two lists of units that differ by where drops stand among puts: the least such relation. -/
def Sw (a b : List U) : Prop :=
  ∀ R : List U → List U → Prop, (∀ x, R x x) → (∀ x y, R x y → R y x) → (∀ x y z, R x y → R y z → R x z) →
    (∀ x y c, R (x ++ some none :: some (some c) :: y) (x ++ some (some c) :: some none :: y)) → R a b

theorem Sw.refl (a : List U) : Sw a a := fun _ r _ _ _ => r a
theorem Sw.symm {a b : List U} (h : Sw a b) : Sw b a := fun R r s t g => s _ _ (h R r s t g)
theorem Sw.trans {a b c : List U} (h : Sw a b) (k : Sw b c) : Sw a c := fun R r s t g => t _ _ _ (h R r s t g) (k R r s t g)
theorem Sw.swap (x y : List U) (c : Int) : Sw (x ++ some none :: some (some c) :: y) (x ++ some (some c) :: some none :: y) := fun _ _ _ _ g => g x y c
/-- The relation's own induction. -/
theorem Sw.ind {a b : List U} (h : Sw a b) (R : List U → List U → Prop) (r : ∀ x, R x x) (s : ∀ x y, R x y → R y x) (t : ∀ x y z, R x y → R y z → R x z)
    (g : ∀ x y c, R (x ++ some none :: some (some c) :: y) (x ++ some (some c) :: some none :: y)) : R a b := h R r s t g
theorem Sw.cons (u : U) {a b : List U} (h : Sw a b) : Sw (u :: a) (u :: b) :=
  h.ind (fun x y => Sw (u :: x) (u :: y)) (fun _ => .refl _) (fun _ _ => .symm) (fun _ _ _ => .trans) fun x y c => Sw.swap (u :: x) y c
theorem Sw.left (l : List U) {a b : List U} (h : Sw a b) : Sw (l ++ a) (l ++ b) := by
  induction l with
  | nil => exact h
  | cons u l ih => exact ih.cons u
theorem Sw.right (l : List U) {a b : List U} (h : Sw a b) : Sw (a ++ l) (b ++ l) :=
  h.ind (fun x y => Sw (x ++ l) (y ++ l)) (fun _ => .refl _) (fun _ _ => .symm) (fun _ _ _ => .trans) fun x y c => by
    simpa using Sw.swap x (y ++ l) c

/-- The effect on a text. -/
def app : List U → List Int → List Int
  | [], _ => []
  | none :: u, t => t.take 1 ++ app u (t.drop 1)
  | some none :: u, t => app u (t.drop 1)
  | some (some c) :: u, t => c :: app u t
def from_ : List U → Nat
  | [] => 0
  | none :: u => from_ u + 1
  | some none :: u => from_ u + 1
  | some (some _) :: u => from_ u
def to_ : List U → Nat
  | [] => 0
  | none :: u => to_ u + 1
  | some none :: u => to_ u
  | some (some _) :: u => to_ u + 1

theorem from_append (a b : List U) : from_ (a ++ b) = from_ a + from_ b := by
  induction a with
  | nil => simp [from_]
  | cons u a ih => rcases u with _ | _ | c <;> simp [from_, ih] <;> omega
theorem to_append (a b : List U) : to_ (a ++ b) = to_ a + to_ b := by
  induction a with
  | nil => simp [to_]
  | cons u a ih => rcases u with _ | _ | c <;> simp [to_, ih] <;> omega
theorem app_append (a b : List U) (t : List Int) : app (a ++ b) t = app a t ++ app b (t.drop (from_ a)) := by
  induction a generalizing t with
  | nil => simp [app, from_]
  | cons u a ih => rcases u with _ | _ | c <;> simp [app, from_, ih]
theorem app_length (a : List U) (t : List Int) (h : t.length = from_ a) : (app a t).length = to_ a := by
  induction a generalizing t with
  | nil => simp [app, to_]
  | cons u a ih =>
    rcases u with _ | _ | c
    · simp only [from_] at h
      have := ih (t.drop 1) (by rw [List.length_drop]; omega)
      rw [app, to_, List.length_append, this, List.length_take]
      omega
    · simp only [from_] at h
      rw [app, to_]
      exact ih (t.drop 1) (by rw [List.length_drop]; omega)
    · simp only [from_] at h
      rw [app, to_, List.length_cons, ih t h]
theorem Sw.app {a b : List U} (h : Sw a b) (t : List Int) : app a t = app b t :=
  h.ind (fun x y => Pl.app x t = Pl.app y t) (fun _ => rfl) (fun _ _ => Eq.symm) (fun _ _ _ => Eq.trans) fun x y c => by
    simp [app_append, Pl.app]
theorem Sw.from_ {a b : List U} (h : Sw a b) : from_ a = from_ b :=
  h.ind (fun x y => Pl.from_ x = Pl.from_ y) (fun _ => rfl) (fun _ _ => Eq.symm) (fun _ _ _ => Eq.trans) fun x y c => by
    simp [from_append, Pl.from_]
theorem Sw.to_ {a b : List U} (h : Sw a b) : to_ a = to_ b :=
  h.ind (fun x y => Pl.to_ x = Pl.to_ y) (fun _ => rfl) (fun _ _ => Eq.symm) (fun _ _ _ => Eq.trans) fun x y c => by
    simp [to_append, Pl.to_]

/-- Composition. -/
def cmp : List U → List U → List U
  | some none :: a, b => some none :: cmp a b
  | [], [] => []
  | [], none :: b => cmp [] b
  | [], some none :: b => cmp [] b
  | [], some (some c) :: b => some (some c) :: cmp [] b
  | none :: a, [] => cmp a []
  | none :: a, some (some c) :: b => some (some c) :: cmp (none :: a) b
  | none :: a, none :: b => none :: cmp a b
  | none :: a, some none :: b => some none :: cmp a b
  | some (some _) :: a, [] => cmp a []
  | some (some d) :: a, some (some c) :: b => some (some c) :: cmp (some (some d) :: a) b
  | some (some d) :: a, none :: b => some (some d) :: cmp a b
  | some (some _) :: a, some none :: b => cmp a b
termination_by a b => a.length + b.length

/-- Two operations led past one another. -/
def xf : List U → List U → List U × List U
  | some (some c) :: a, b => (some (some c) :: (xf a b).1, none :: (xf a b).2)
  | [], some (some c) :: b => (none :: (xf [] b).1, some (some c) :: (xf [] b).2)
  | none :: a, some (some c) :: b => (none :: (xf (none :: a) b).1, some (some c) :: (xf (none :: a) b).2)
  | some none :: a, some (some c) :: b => (none :: (xf (some none :: a) b).1, some (some c) :: (xf (some none :: a) b).2)
  | none :: a, none :: b => (none :: (xf a b).1, none :: (xf a b).2)
  | some none :: a, none :: b => (some none :: (xf a b).1, (xf a b).2)
  | none :: a, some none :: b => ((xf a b).1, some none :: (xf a b).2)
  | some none :: a, some none :: b => xf a b
  | _, _ => ([], [])
termination_by a b => a.length + b.length


theorem app_cmp (a b : List U) : ∀ t : List Int, t.length = from_ a → to_ a = from_ b → app (cmp a b) t = app b (app a t) := by
  induction a, b using cmp.induct with
  | case1 a b ih =>
    intro t h1 h2
    simp only [from_] at h1
    simp only [to_] at h2
    rw [cmp, app, app]
    exact ih (t.drop 1) (by rw [List.length_drop]; omega) h2
  | case2 => intro t _ _; simp [cmp, app]
  | case3 b ih => intro t _ h2; simp [to_, from_] at h2
  | case4 b ih => intro t _ h2; simp [to_, from_] at h2
  | case5 c b ih =>
    intro t h1 h2
    rw [cmp, app, app, ih t h1 (by simpa [from_] using h2)]
    simp [app]
  | case6 a ih => intro t _ h2; simp [to_, from_] at h2
  | case7 a c b ih =>
    intro t h1 h2
    have := ih t h1 (by simpa [from_] using h2)
    simp [cmp, app] at this ⊢
    exact this
  | case8 a b ih =>
    intro t h1 h2
    simp only [from_] at h1 h2
    simp only [to_] at h2
    match t, h1 with
    | x :: t, h1 =>
      have := ih t (by simpa using h1) (by omega)
      simp [cmp, app, this]
  | case9 a b ih =>
    intro t h1 h2
    simp only [from_] at h1 h2
    simp only [to_] at h2
    match t, h1 with
    | x :: t, h1 =>
      have := ih t (by simpa using h1) (by omega)
      simp [cmp, app, this]
  | case10 d a ih => intro t _ h2; simp [to_, from_] at h2
  | case11 d a c b ih =>
    intro t h1 h2
    rw [cmp, app, app.eq_4, ih t h1 (by simpa [from_] using h2)]
  | case12 d a b ih =>
    intro t h1 h2
    simp only [from_] at h1 h2
    simp only [to_] at h2
    simp [cmp, app, ih t h1 (by omega)]
  | case13 d a b ih =>
    intro t h1 h2
    simp only [from_] at h1 h2
    simp only [to_] at h2
    simp [cmp, app, ih t h1 (by omega)]

theorem fromTo_cmp (a b : List U) (h : to_ a = from_ b) : from_ (cmp a b) = from_ a ∧ to_ (cmp a b) = to_ b := by
  induction a, b using cmp.induct with
  | case1 a b ih => simp only [to_] at h; simp [cmp, from_, to_, ih h]
  | case2 => simp [cmp, from_, to_]
  | case3 b ih => simp [to_, from_] at h
  | case4 b ih => simp [to_, from_] at h
  | case5 c b ih => simp only [from_] at h; simp [cmp, from_, to_, ih h]
  | case6 a ih => simp [to_, from_] at h
  | case7 a c b ih => simp only [from_] at h; have := ih h; simp [cmp, from_, to_, this]
  | case8 a b ih => simp only [from_, to_] at h; simp [cmp, from_, to_, ih (by omega)]
  | case9 a b ih => simp only [from_, to_] at h; simp [cmp, from_, to_, ih (by omega)]
  | case10 d a ih => simp [to_, from_] at h
  | case11 d a c b ih => simp only [from_] at h; have := ih h; simp [cmp, from_, to_, this]
  | case12 d a b ih => simp only [from_, to_] at h; simp [cmp, from_, to_, ih (by omega)]
  | case13 d a b ih => simp only [from_, to_] at h; simp [cmp, from_, to_, ih (by omega)]

/-- Two operations led past one another meet. -/
theorem app_xf (a b : List U) : ∀ t : List Int, t.length = from_ a → from_ a = from_ b → app (xf a b).2 (app a t) = app (xf a b).1 (app b t) := by
  induction a, b using xf.induct with
  | case1 c a b ih => intro t h1 h2; simp only [from_] at h1 h2; simp [xf, app, ih t h1 h2]
  | case2 c b ih => intro t h1 h2; simp only [from_] at h1 h2; have := ih t h1 (by simpa [from_] using h2); simp [xf, app] at this ⊢; exact this
  | case3 a c b ih => intro t h1 h2; have := ih t h1 (by simpa [from_] using h2); simp [xf, app] at this ⊢; exact this
  | case4 a c b ih => intro t h1 h2; have := ih t h1 (by simpa [from_] using h2); simp [xf, app] at this ⊢; exact this
  | case5 a b ih =>
    intro t h1 h2
    simp only [from_] at h1 h2
    match t, h1 with
    | x :: t, h1 =>
      have := ih t (by simpa using h1) (by omega)
      simp [xf, app, this]
  | case6 a b ih =>
    intro t h1 h2
    simp only [from_] at h1 h2
    match t, h1 with
    | x :: t, h1 =>
      have := ih t (by simpa using h1) (by omega)
      simp [xf, app, this]
  | case7 a b ih =>
    intro t h1 h2
    simp only [from_] at h1 h2
    match t, h1 with
    | x :: t, h1 =>
      have := ih t (by simpa using h1) (by omega)
      simp [xf, app, this]
  | case8 a b ih =>
    intro t h1 h2
    simp only [from_] at h1 h2
    match t, h1 with
    | x :: t, h1 =>
      have := ih t (by simpa using h1) (by omega)
      simp [xf, app, this]
  | case9 a b h1 h2 h3 h4 h5 h6 h7 h8 =>
    intro t e1 e2
    rcases a with _ | ⟨_ | _ | c, a⟩ <;> rcases b with _ | ⟨_ | _ | d, b⟩
    all_goals first
      | (simp [from_] at e2; done)
      | exact (h1 _ _ rfl).elim | exact (h2 _ _ rfl rfl).elim | exact (h3 _ _ _ rfl rfl).elim | exact (h4 _ _ _ rfl rfl).elim | exact (h5 _ _ rfl rfl).elim | exact (h6 _ _ rfl rfl).elim
      | exact (h7 _ _ rfl rfl).elim | exact (h8 _ _ rfl rfl).elim | (simp [xf, app]; done)


theorem fromTo_xf (a b : List U) (h : from_ a = from_ b) : from_ (xf a b).1 = to_ b ∧ from_ (xf a b).2 = to_ a ∧ to_ (xf a b).1 = to_ (xf a b).2 ∧ to_ (xf a b).1 + from_ a ≤ to_ a + to_ b + from_ a := by
  induction a, b using xf.induct with
  | case1 c a b ih => simp only [from_] at h; have := ih h; simp [xf, from_, to_, this]; omega
  | case2 c b ih => have := ih (by simpa [from_] using h); simp [xf, from_, to_] at this ⊢; omega
  | case3 a c b ih => have := ih (by simpa [from_] using h); simp [xf, from_, to_] at this ⊢; omega
  | case4 a c b ih => have := ih (by simpa [from_] using h); simp [xf, from_, to_] at this ⊢; omega
  | case5 a b ih => simp only [from_] at h; have := ih (by omega); simp only [xf, from_, to_]; omega
  | case6 a b ih => simp only [from_] at h; have := ih (by omega); simp only [xf, from_, to_]; omega
  | case7 a b ih => simp only [from_] at h; have := ih (by omega); simp only [xf, from_, to_]; omega
  | case8 a b ih => simp only [from_] at h; have := ih (by omega); simp only [xf, from_, to_]; omega
  | case9 a b h1 h2 h3 h4 h5 h6 h7 h8 =>
    rcases a with _ | ⟨_ | _ | c, a⟩ <;> rcases b with _ | ⟨_ | _ | d, b⟩
    all_goals first
      | (simp [from_] at h; done)
      | exact (h1 _ _ rfl).elim | exact (h2 _ _ rfl rfl).elim | exact (h3 _ _ _ rfl rfl).elim | exact (h4 _ _ _ rfl rfl).elim | exact (h5 _ _ rfl rfl).elim | exact (h6 _ _ rfl rfl).elim
      | exact (h7 _ _ rfl rfl).elim | exact (h8 _ _ rfl rfl).elim | (simp [xf, from_, to_]; done)

/-- Composition is associative. -/
theorem cmp_assoc (a b c : List U) (h1 : to_ a = from_ b) (h2 : to_ b = from_ c) : cmp (cmp a b) c = cmp a (cmp b c) := by
  match a, b, c with
  | some none :: a, b, c => rw [cmp, cmp, cmp, cmp_assoc a b c (by simpa [to_] using h1) h2]
  | [], [], [] => simp [cmp]
  | [], [], none :: c => simp [from_, to_] at h2
  | [], [], some none :: c => simp [from_, to_] at h2
  | [], [], some (some x) :: c =>
    have := cmp_assoc [] [] c rfl (by simpa [from_] using h2)
    simp only [cmp] at this ⊢
    rw [← this]
  | [], none :: b, c => simp [from_, to_] at h1
  | [], some none :: b, c => simp [from_, to_] at h1
  | none :: a, [], c => simp [from_, to_] at h1
  | some (some y) :: a, [], c => simp [from_, to_] at h1
  | [], some (some x) :: b, [] => simp [from_, to_] at h2
  | none :: a, some (some x) :: b, [] => simp [from_, to_] at h2
  | some (some y) :: a, some (some x) :: b, [] => simp [from_, to_] at h2
  | none :: a, none :: b, [] => simp [from_, to_] at h2
  | some (some y) :: a, none :: b, [] => simp [from_, to_] at h2
  | [], some (some y) :: b, some (some x) :: c =>
    have := cmp_assoc [] (some (some y) :: b) c (by simpa using h1) (by simpa [from_] using h2)
    simp only [cmp] at this ⊢
    rw [this]
  | [], some (some y) :: b, none :: c =>
    have := cmp_assoc [] b c (by simpa [from_] using h1) (by simpa [from_, to_] using h2)
    simp only [cmp] at this ⊢
    rw [this]
  | [], some (some y) :: b, some none :: c =>
    have := cmp_assoc [] b c (by simpa [from_] using h1) (by simpa [from_, to_] using h2)
    simp only [cmp] at this ⊢
    rw [this]
  | none :: a, some none :: b, c =>
    have := cmp_assoc a b c (by simpa [from_, to_] using h1) (by simpa [from_, to_] using h2)
    simp only [cmp] at this ⊢
    rw [this]
  | some (some y) :: a, some none :: b, c =>
    have := cmp_assoc a b c (by simpa [from_, to_] using h1) (by simpa [from_, to_] using h2)
    simp only [cmp] at this ⊢
    rw [this]
  | none :: a, none :: b, some (some x) :: c =>
    have := cmp_assoc (none :: a) (none :: b) c h1 (by simpa [from_] using h2)
    simp only [cmp] at this ⊢
    rw [this]
  | none :: a, some (some y) :: b, some (some x) :: c =>
    have := cmp_assoc (none :: a) (some (some y) :: b) c h1 (by simpa [from_] using h2)
    simp only [cmp] at this ⊢
    rw [this]
  | some (some z) :: a, none :: b, some (some x) :: c =>
    have := cmp_assoc (some (some z) :: a) (none :: b) c h1 (by simpa [from_] using h2)
    simp only [cmp] at this ⊢
    rw [this]
  | some (some z) :: a, some (some y) :: b, some (some x) :: c =>
    have := cmp_assoc (some (some z) :: a) (some (some y) :: b) c h1 (by simpa [from_] using h2)
    simp only [cmp] at this ⊢
    rw [this]
  | none :: a, none :: b, none :: c =>
    have := cmp_assoc a b c (by simpa [from_, to_] using h1) (by simpa [from_, to_] using h2)
    simp only [cmp] at this ⊢
    rw [this]
  | none :: a, none :: b, some none :: c =>
    have := cmp_assoc a b c (by simpa [from_, to_] using h1) (by simpa [from_, to_] using h2)
    simp only [cmp] at this ⊢
    rw [this]
  | some (some z) :: a, none :: b, none :: c =>
    have := cmp_assoc a b c (by simpa [from_, to_] using h1) (by simpa [from_, to_] using h2)
    simp only [cmp] at this ⊢
    rw [this]
  | some (some z) :: a, none :: b, some none :: c =>
    have := cmp_assoc a b c (by simpa [from_, to_] using h1) (by simpa [from_, to_] using h2)
    simp only [cmp] at this ⊢
    rw [this]
  | none :: a, some (some y) :: b, none :: c =>
    have := cmp_assoc (none :: a) b c (by simpa [from_] using h1) (by simpa [from_, to_] using h2)
    simp only [cmp] at this ⊢
    rw [this]
  | none :: a, some (some y) :: b, some none :: c =>
    have := cmp_assoc (none :: a) b c (by simpa [from_] using h1) (by simpa [from_, to_] using h2)
    simp only [cmp] at this ⊢
    rw [this]
  | some (some z) :: a, some (some y) :: b, none :: c =>
    have := cmp_assoc (some (some z) :: a) b c (by simpa [from_] using h1) (by simpa [from_, to_] using h2)
    simp only [cmp] at this ⊢
    rw [this]
  | some (some z) :: a, some (some y) :: b, some none :: c =>
    have := cmp_assoc (some (some z) :: a) b c (by simpa [from_] using h1) (by simpa [from_, to_] using h2)
    simp only [cmp] at this ⊢
    rw [this]
termination_by a.length + b.length + c.length

/-- A put may be taken ahead of what drops. -/
theorem cmp_put (c : Int) : ∀ (a b : List U), Sw (cmp a (some (some c) :: b)) (some (some c) :: cmp a b)
  | some none :: a, b => by
    rw [cmp, cmp]
    exact ((cmp_put c a b).cons _).trans (Sw.swap [] _ c)
  | [], b => by rw [cmp]; exact Sw.refl _
  | none :: a, b => by rw [cmp]; exact Sw.refl _
  | some (some d) :: a, b => by rw [cmp]; exact Sw.refl _

theorem Sw.cmp_right (a : List U) {b b' : List U} (h : Sw b b') : Sw (cmp a b) (cmp a b') := by
  refine h.ind (fun x y => ∀ a, Sw (cmp a x) (cmp a y)) (fun _ _ => .refl _) (fun _ _ h a => (h a).symm) (fun _ _ _ h k a => (h a).trans (k a)) ?_ a
  intro x y c
  induction x with
  | nil =>
    intro a
    induction a with
    | nil => simp only [List.nil_append, cmp]; exact Sw.refl _
    | cons u a ih =>
      rcases u with _ | _ | d
      · simp only [List.nil_append, cmp]
        exact ((cmp_put c a y).cons _).trans (Sw.swap [] _ c)
      · simp only [List.nil_append, cmp] at ih ⊢
        exact ih.cons _
      · simp only [List.nil_append, cmp]
        exact cmp_put c a y
  | cons v x ihx =>
    intro a
    induction a with
    | nil =>
      rcases v with _ | _ | d
      · simp only [List.cons_append, cmp]; exact ihx []
      · simp only [List.cons_append, cmp]; exact ihx []
      · simp only [List.cons_append, cmp]; exact (ihx []).cons _
    | cons u a ih =>
      rcases u with _ | _ | e
      · rcases v with _ | _ | d
        · simp only [List.cons_append, cmp]; exact (ihx a).cons _
        · simp only [List.cons_append, cmp]; exact (ihx a).cons _
        · simp only [List.cons_append, cmp]; exact (ihx (none :: a)).cons _
      · simp only [List.cons_append, cmp] at ih ⊢; exact ih.cons _
      · rcases v with _ | _ | d
        · simp only [List.cons_append, cmp]; exact (ihx a).cons _
        · simp only [List.cons_append, cmp]; exact ihx a
        · simp only [List.cons_append, cmp]; exact (ihx (some (some e) :: a)).cons _

theorem cmp_swap_head (y : List U) (c : Int) : ∀ b : List U, Sw (cmp (some none :: some (some c) :: y) b) (cmp (some (some c) :: some none :: y) b)
  | [] => by simp only [cmp]; exact Sw.refl _
  | none :: b => by simp only [cmp]; exact Sw.swap [] _ c
  | some none :: b => by simp only [cmp]; exact Sw.refl _
  | some (some d) :: b => by
    have ih := cmp_swap_head y c b
    simp only [cmp] at ih ⊢
    exact (Sw.swap [] _ d).trans (ih.cons _)

theorem Sw.cmp_left {a a' : List U} (h : Sw a a') (b : List U) : Sw (cmp a b) (cmp a' b) := by
  refine h.ind (fun x y => ∀ b, Sw (cmp x b) (cmp y b)) (fun _ _ => .refl _) (fun _ _ h a => (h a).symm) (fun _ _ _ h k a => (h a).trans (k a)) ?_ b
  intro x y c
  induction x with
  | nil => exact fun b => cmp_swap_head y c b
  | cons v x ihx =>
    intro b
    rcases v with _ | _ | d
    · induction b with
      | nil => simp only [List.cons_append, cmp]; exact ihx []
      | cons u b ih =>
        rcases u with _ | _ | e
        · simp only [List.cons_append, cmp]; exact (ihx b).cons _
        · simp only [List.cons_append, cmp]; exact (ihx b).cons _
        · simp only [List.cons_append, cmp] at ih ⊢; exact ih.cons _
    · simp only [List.cons_append, cmp]; exact (ihx b).cons _
    · induction b with
      | nil => simp only [List.cons_append, cmp]; exact ihx []
      | cons u b ih =>
        rcases u with _ | _ | e
        · simp only [List.cons_append, cmp]; exact (ihx b).cons _
        · simp only [List.cons_append, cmp]; exact ihx b
        · simp only [List.cons_append, cmp] at ih ⊢; exact ih.cons _

end Go.Proofs.YtookcfpiegbafaaGreatDoor.Pl

/- The plain law of the normal form: what the builder of parts makes of units. No program in sight. No condition. -/
namespace Go.Proofs.YtookcfpiegbafaaGreatDoor.Pl

/-- The units of a part. -/
def unitsP (p : Pt) : List U :=
  if p.kind = 1 then List.replicate p.n.toNat none else if p.kind = 2 then p.signs.map fun c => some (some c) else List.replicate p.n.toNat (some none)
def units (o : List Pt) : List U := o.flatMap unitsP
theorem units_append (a b : List Pt) : units (a ++ b) = units a ++ units b := by simp [units]
theorem units_cons (p : Pt) (o : List Pt) : units (p :: o) = unitsP p ++ units o := by simp [units]

/-- A builder: the parts so far, the characters and the number of drops that wait. -/
structure Bd where
  list : List Pt
  put : List Int
  drop : Int

def Bd.init : Bd := ⟨[], [], 0⟩
def flushL (b : Bd) : List Pt := b.list ++ ((if b.put = [] then [] else [⟨2, 0, b.put⟩]) ++ (if 0 < b.drop then [⟨3, b.drop, []⟩] else []))
def flush (b : Bd) : Bd := ⟨flushL b, [], 0⟩
def addKeep (l : List Pt) (n : Int) : List Pt :=
  match l.getLast? with
  | some p => if p.kind = 1 then l.dropLast ++ [⟨1, p.n + n, p.signs⟩] else l ++ [⟨1, n, []⟩]
  | none => [⟨1, n, []⟩]
def bKeep (b : Bd) (n : Int) : Bd := if n = 0 then b else ⟨addKeep (flushL b) n, [], 0⟩
def bPut (b : Bd) (l : List Int) : Bd := ⟨b.list, b.put ++ l, b.drop⟩
def bDrop (b : Bd) (n : Int) : Bd := ⟨b.list, b.put, b.drop + n⟩
def bPart (b : Bd) (p : Pt) : Bd := if p.kind = 1 then bKeep b p.n else if p.kind = 2 then bPut b p.signs else bDrop b p.n
def bU (b : Bd) : U → Bd
  | none => bKeep b 1
  | some none => bDrop b 1
  | some (some c) => bPut b [c]
def run (b : Bd) (us : List U) : Bd := us.foldl bU b
/-- The normal form of units. -/
def grp (us : List U) : List Pt := flushL (run Bd.init us)
/-- The normal form of parts. -/
def norm (o : List Pt) : List Pt := flushL (o.foldl bPart Bd.init)

theorem run_append (b : Bd) (x y : List U) : run b (x ++ y) = run (run b x) y := by simp [run]
theorem Sw.run {a b : List U} (h : Sw a b) (s : Bd) : run s a = run s b :=
  h.ind (fun x y => ∀ s, Pl.run s x = Pl.run s y) (fun _ _ => rfl) (fun _ _ h s => (h s).symm) (fun _ _ _ h k s => (h s).trans (k s)) (fun x y c s => by
    rw [run_append, run_append]
    rfl) s
theorem Sw.grp {a b : List U} (h : Sw a b) : grp a = grp b := by rw [Pl.grp, Pl.grp, h.run]

theorem addKeep_last (l : List Pt) (p : Pt) (n : Int) : addKeep (l ++ [p]) n = if p.kind = 1 then l ++ [⟨1, p.n + n, p.signs⟩] else l ++ [p] ++ [⟨1, n, []⟩] := by
  simp [addKeep]
theorem addKeep_snoc (l : List Pt) (n m : Int) : addKeep (addKeep l n) m = addKeep l (n + m) := by
  unfold addKeep
  rcases List.eq_nil_or_concat l with rfl | ⟨l, p, rfl⟩
  · simp
  · by_cases h : p.kind = 1
    · simp [h, Int.add_assoc]
    · simp [h]
theorem flushL_clean (l : List Pt) : flushL ⟨l, [], 0⟩ = l := by simp [flushL]
theorem bKeep_two (b : Bd) (n m : Int) (hn : 0 < n) (hm : 0 < m) : bKeep (bKeep b n) m = bKeep b (n + m) := by
  simp only [bKeep]
  rw [if_neg (by omega), if_neg (by omega), if_neg (by omega), flushL_clean, addKeep_snoc]
theorem run_keeps (b : Bd) (n : Nat) : run b (List.replicate n none) = bKeep b n := by
  induction n with
  | zero => simp [run, bKeep]
  | succ n ih =>
    rw [List.replicate_succ', run_append, ih]
    show bKeep (bKeep b n) 1 = _
    by_cases h : n = 0
    · subst h; simp [bKeep]
    · rw [bKeep_two _ _ _ (by omega) (by omega)]; rfl
theorem run_drops (b : Bd) (n : Nat) : run b (List.replicate n (some none)) = bDrop b n := by
  induction n with
  | zero => simp [run, bDrop]
  | succ n ih =>
    rw [List.replicate_succ', run_append, ih]
    show bDrop (bDrop b n) 1 = _
    simp [bDrop, Int.add_assoc]
theorem run_puts (b : Bd) (l : List Int) : run b (l.map fun c => some (some c)) = bPut b l := by
  induction l generalizing b with
  | nil => simp [run, bPut]
  | cons c l ih =>
    show run (bPut b [c]) (l.map fun c => some (some c)) = _
    rw [ih]
    simp [bPut]
theorem run_part (b : Bd) (p : Pt) (h : 0 ≤ p.n) : run b (unitsP p) = bPart b p := by
  unfold unitsP bPart
  split
  · rw [run_keeps]; congr 1; omega
  · split
    · exact run_puts _ _
    · rw [run_drops]; congr 1; omega
theorem run_parts (o : List Pt) : ∀ b : Bd, (∀ p ∈ o, 0 ≤ p.n) → run b (units o) = o.foldl bPart b := by
  induction o with
  | nil => intro b _; rfl
  | cons p o ih =>
    intro b h
    rw [units_cons, run_append, run_part b p (h p (by simp)), ih _ (fun q hq => h q (by simp [hq]))]
    rfl
theorem norm_grp {o : List Pt} (h : ∀ p ∈ o, 0 ≤ p.n) : norm o = grp (units o) := by rw [norm, grp, run_parts o _ h]

/-- What a builder stands for. -/
def su (b : Bd) : List U := units b.list ++ (b.put.map (fun c => some (some c)) ++ List.replicate b.drop.toNat (some none))
/-- A builder's parts are right ones. -/
def Bd.ok (b : Bd) : Prop := 0 ≤ b.drop ∧ ∀ p ∈ b.list, 0 ≤ p.n

theorem units_flushL (b : Bd) : units (flushL b) = su b := by
  rw [flushL, units_append, units_append, su]
  congr 1
  by_cases h : b.put = []
  · by_cases h2 : 0 < b.drop
    · simp [h, h2, units, unitsP]
    · simp [h, h2, units]; omega
  · by_cases h2 : 0 < b.drop
    · simp [h, h2, units, unitsP]
    · simp [h, h2, units, unitsP]; omega
theorem flushL_ok {b : Bd} (h : b.ok) : ∀ p ∈ flushL b, 0 ≤ p.n := by
  intro p hp
  rw [flushL, List.mem_append, List.mem_append] at hp
  rcases hp with hp | hp | hp
  · exact h.2 p hp
  · split at hp <;> simp at hp
    subst hp
    exact Int.le_refl 0
  · split at hp <;> simp at hp
    subst hp
    show 0 ≤ b.drop
    omega
theorem units_addKeep {l : List Pt} (h : ∀ p ∈ l, 0 ≤ p.n) : units (addKeep l 1) = units l ++ [none] ∧ ∀ p ∈ addKeep l 1, 0 ≤ p.n := by
  rcases List.eq_nil_or_concat l with rfl | ⟨l, p, rfl⟩
  · simp [addKeep, units, unitsP]
  · rw [List.concat_eq_append] at h ⊢
    have hp : 0 ≤ p.n := h p (by simp)
    rw [addKeep_last]
    by_cases hk : p.kind = 1
    · rw [if_pos hk]
      refine ⟨?_, ?_⟩
      · rw [units_append, units_append, List.append_assoc]
        congr 1
        simp only [units, List.flatMap_cons, List.flatMap_nil, List.append_nil, unitsP, hk, if_true]
        rw [show (p.n + 1).toNat = p.n.toNat + 1 by omega, List.replicate_succ']
      · intro q hq
        rcases List.mem_append.1 hq with hq | hq
        · exact h q (by simp [hq])
        · simp at hq; subst hq; show 0 ≤ p.n + 1; omega
    · rw [if_neg hk]
      refine ⟨?_, ?_⟩
      · rw [units_append]; simp [units, unitsP]
      · intro q hq
        rcases List.mem_append.1 hq with hq | hq
        · exact h q hq
        · simp at hq; subst hq; show (0 : Int) ≤ 1; omega
theorem sw_move (n : Nat) (c : Int) : Sw (List.replicate n (some none) ++ [some (some c)]) ([some (some c)] ++ List.replicate n (some none)) := by
  induction n with
  | zero => exact Sw.refl _
  | succ n ih =>
    rw [List.replicate_succ]
    exact (ih.cons _).trans (Sw.swap [] _ c)
theorem su_step {b : Bd} (h : b.ok) (u : U) : Sw (su (bU b u)) (su b ++ [u]) ∧ (bU b u).ok := by
  rcases u with _ | _ | c
  · obtain ⟨e, ho⟩ := units_addKeep (flushL_ok h)
    refine ⟨?_, ?_⟩
    · show Sw (su (bKeep b 1)) _
      rw [bKeep, if_neg (by decide), su]
      simp only [List.map_nil, Int.toNat_zero, List.replicate_zero, List.append_nil]
      rw [e, units_flushL]
      exact Sw.refl _
    · show (bKeep b 1).ok
      rw [bKeep, if_neg (by decide)]
      exact ⟨Int.le_refl 0, ho⟩
  · refine ⟨?_, ⟨by have := h.1; show 0 ≤ b.drop + 1; omega, h.2⟩⟩
    show Sw (su (bDrop b 1)) _
    have := h.1
    rw [bDrop, su, su, show (b.drop + 1).toNat = b.drop.toNat + 1 by omega, List.replicate_succ']
    simp only [List.append_assoc]
    exact Sw.refl _
  · refine ⟨?_, ⟨h.1, h.2⟩⟩
    show Sw (su (bPut b [c])) _
    rw [bPut, su, su, List.map_append]
    simp only [List.append_assoc]
    exact Sw.left _ (Sw.left _ (sw_move _ c).symm)
theorem su_run (us : List U) : ∀ {b : Bd}, b.ok → Sw (su (run b us)) (su b ++ us) ∧ (run b us).ok := by
  induction us with
  | nil => intro b h; exact ⟨by simp [run]; exact Sw.refl _, h⟩
  | cons u us ih =>
    intro b h
    obtain ⟨h1, h2⟩ := su_step h u
    obtain ⟨h3, h4⟩ := ih h2
    refine ⟨h3.trans ?_, h4⟩
    have := h1.right us
    simpa using this
theorem init_ok : Bd.init.ok := ⟨Int.le_refl 0, fun p hp => by simp [Bd.init] at hp⟩
/-- The normal form is the units, but for the order of drops and puts. -/
theorem units_grp (us : List U) : Sw (units (grp us)) us := by
  obtain ⟨h1, _⟩ := su_run us init_ok
  rw [grp, units_flushL]
  simpa [su, Bd.init, units] using h1
theorem grp_ok (us : List U) : ∀ p ∈ grp us, 0 ≤ p.n := flushL_ok (su_run us init_ok).2
theorem norm_grp_self (us : List U) : norm (grp us) = grp us := by
  rw [norm_grp (grp_ok us)]
  exact (units_grp us).grp
theorem norm_norm {o : List Pt} (h : ∀ p ∈ o, 0 ≤ p.n) : norm (norm o) = norm o := by
  rw [norm_grp h, norm_grp_self]
end Go.Proofs.YtookcfpiegbafaaGreatDoor.Pl

/- The plain law of the normal form and of right operations: sizes, effect. No program in sight. No condition. -/
namespace Go.Proofs.YtookcfpiegbafaaGreatDoor.Pl

/-- A part of a normal form. -/
def GoodP (p : Pt) : Prop := (p.kind = 1 ∧ 1 ≤ p.n ∧ p.signs = []) ∨ (p.kind = 3 ∧ 1 ≤ p.n ∧ p.signs = []) ∨ (p.kind = 2 ∧ p.n = 0 ∧ p.signs ≠ [])
def Good (l : List Pt) : Prop := ∀ p ∈ l, GoodP p
theorem Good.append {a b : List Pt} (h : Good a) (k : Good b) : Good (a ++ b) := fun p hp => by
  rcases List.mem_append.1 hp with hp | hp
  · exact h p hp
  · exact k p hp
def Bd.good (b : Bd) : Prop := 0 ≤ b.drop ∧ Good b.list
theorem good_flushL {b : Bd} (h : b.good) : Good (flushL b) := by
  refine h.2.append (Good.append ?_ ?_)
  · split
    · intro p hp; simp at hp
    · intro p hp; simp at hp; subst hp; exact .inr (.inr ⟨rfl, rfl, by assumption⟩)
  · split
    · intro p hp; simp at hp; subst hp; exact .inr (.inl ⟨rfl, by show 1 ≤ b.drop; omega, rfl⟩)
    · intro p hp; simp at hp
theorem good_addKeep {l : List Pt} (h : Good l) {n : Int} (hn : 1 ≤ n) : Good (addKeep l n) := by
  rcases List.eq_nil_or_concat l with rfl | ⟨l, p, rfl⟩
  · intro p hp; simp [addKeep] at hp; subst hp; exact .inl ⟨rfl, hn, rfl⟩
  · rw [List.concat_eq_append] at h ⊢
    have hl : Good l := fun q hq => h q (by simp [hq])
    rw [addKeep_last]
    split
    · rename_i hk
      refine hl.append fun q hq => ?_
      simp at hq; subst hq
      rcases h p (by simp) with ⟨_, h1, h2⟩ | ⟨h0, _⟩ | ⟨h0, _⟩
      · exact .inl ⟨rfl, by show 1 ≤ p.n + n; omega, h2⟩
      · omega
      · omega
    · refine h.append fun q hq => ?_
      simp at hq; subst hq
      exact .inl ⟨rfl, hn, rfl⟩
theorem good_bU {b : Bd} (h : b.good) (u : U) : (bU b u).good := by
  rcases u with _ | _ | c
  · show (bKeep b 1).good
    rw [bKeep, if_neg (by decide)]
    exact ⟨Int.le_refl 0, good_addKeep (good_flushL h) (Int.le_refl 1)⟩
  · have := h.1
    exact ⟨by show 0 ≤ b.drop + 1; omega, h.2⟩
  · exact ⟨h.1, h.2⟩
theorem good_run (us : List U) : ∀ {b : Bd}, b.good → (run b us).good := by
  induction us with
  | nil => intro b h; exact h
  | cons u us ih => intro b h; exact ih (good_bU h u)
theorem good_grp (us : List U) : Good (grp us) := good_flushL (good_run us ⟨Int.le_refl 0, fun p hp => by simp [Bd.init] at hp⟩)

/-- Membership is the same of lists that differ by the order of drops and puts. -/
theorem Sw.mem {a b : List U} (h : Sw a b) (u : U) : u ∈ a ↔ u ∈ b :=
  h.ind (fun x y => u ∈ x ↔ u ∈ y) (fun _ => Iff.rfl) (fun _ _ => Iff.symm) (fun _ _ _ => Iff.trans) fun x y c => by
    simp only [List.mem_append, List.mem_cons]
    constructor <;> (rintro (h | h | h | h) <;> simp [h])
theorem Sw.count {a b : List U} (h : Sw a b) (p : U → Bool) : a.countP p = b.countP p :=
  h.ind (fun x y => x.countP p = y.countP p) (fun _ => rfl) (fun _ _ => Eq.symm) (fun _ _ _ => Eq.trans) fun x y c => by
    simp only [List.countP_append, List.countP_cons]
    omega

theorem from_keeps (n : Nat) : from_ (List.replicate n none) = n := by
  induction n with
  | zero => rfl
  | succ n ih => simp [List.replicate_succ, from_, ih]
theorem from_drops (n : Nat) : from_ (List.replicate n (some none)) = n := by
  induction n with
  | zero => rfl
  | succ n ih => simp [List.replicate_succ, from_, ih]
theorem from_puts (l : List Int) : from_ (l.map fun c => some (some c)) = 0 := by
  induction l with
  | nil => rfl
  | cons c l ih => simp [from_, ih]
theorem to_keeps (n : Nat) : to_ (List.replicate n none) = n := by
  induction n with
  | zero => rfl
  | succ n ih => simp [List.replicate_succ, to_, ih]
theorem to_drops (n : Nat) : to_ (List.replicate n (some none)) = 0 := by
  induction n with
  | zero => rfl
  | succ n ih => simp [List.replicate_succ, to_, ih]
theorem to_puts (l : List Int) : to_ (l.map fun c => some (some c)) = l.length := by
  induction l with
  | nil => rfl
  | cons c l ih => simp [to_, ih]

theorem partOk_cases {p : Pt} (h : partOk p = true) : (p.kind = 1 ∧ 0 ≤ p.n ∧ p.n ≤ 200 ∧ p.signs = []) ∨ (p.kind = 3 ∧ 0 ≤ p.n ∧ p.n ≤ 200 ∧ p.signs = []) ∨ (p.kind = 2 ∧ p.n = 0 ∧ p.signs.length ≤ 200 ∧ signsOk p.signs = true) := by
  unfold partOk at h
  split at h
  · rename_i hk
    simp at h
    rcases hk with hk | hk
    · exact .inl ⟨hk, h.1.1, h.1.2, h.2⟩
    · exact .inr (.inl ⟨hk, h.1.1, h.1.2, h.2⟩)
  · split at h
    · rename_i hk
      simp at h
      exact .inr (.inr ⟨hk, h.1, h.2.1, h.2.2⟩)
    · cases h
theorem partOk_of {p : Pt} (h : (p.kind = 1 ∧ 0 ≤ p.n ∧ p.n ≤ 200 ∧ p.signs = []) ∨ (p.kind = 3 ∧ 0 ≤ p.n ∧ p.n ≤ 200 ∧ p.signs = []) ∨ (p.kind = 2 ∧ p.n = 0 ∧ p.signs.length ≤ 200 ∧ signsOk p.signs = true)) : partOk p = true := by
  rcases h with ⟨h1, h2, h3, h4⟩ | ⟨h1, h2, h3, h4⟩ | ⟨h1, h2, h3, h4⟩
  · simp [partOk, h1, h2, h3, h4]
  · simp [partOk, h1, h2, h3, h4]
  · simp [partOk, h1, h2, h3, h4]
theorem partsOk_all {o : List Pt} (h : partsOk o = true) : (∀ p ∈ o, partOk p = true) ∧ o.length ≤ 600 := by
  unfold partsOk at h
  simpa using h
theorem partsOk_of {o : List Pt} (h : ∀ p ∈ o, partOk p = true) (hl : o.length ≤ 600) : partsOk o = true := by
  unfold partsOk
  simpa using ⟨h, hl⟩
theorem okPart_units {p : Pt} (h : partOk p = true) : (from_ (unitsP p) : Int) = keepsP p + dropsP p ∧ (to_ (unitsP p) : Int) = keepsP p + putsP p := by
  rcases partOk_cases h with ⟨h1, h2, h3, h4⟩ | ⟨h1, h2, h3, h4⟩ | ⟨h1, h2, h3, h4⟩
  · simp [unitsP, keepsP, dropsP, putsP, h1, from_keeps, to_keeps]; omega
  · simp [unitsP, keepsP, dropsP, putsP, h1, from_drops, to_drops]; omega
  · simp [unitsP, keepsP, dropsP, putsP, h1, from_puts, to_puts]
theorem okParts_units {o : List Pt} (h : ∀ p ∈ o, partOk p = true) : (from_ (units o) : Int) = keeps o + drops o ∧ (to_ (units o) : Int) = keeps o + puts o := by
  induction o with
  | nil => exact ⟨rfl, rfl⟩
  | cons p o ih =>
    have h1 := okPart_units (h p (by simp))
    have h2 := ih fun q hq => h q (by simp [hq])
    rw [units_cons, from_append, to_append]
    simp only [keeps, drops, puts, List.map_cons, List.sum_cons] at h2 ⊢
    omega
theorem ok_n {p : Pt} (h : partOk p = true) : 0 ≤ p.n := by
  rcases partOk_cases h with ⟨h1, h2, h3, h4⟩ | ⟨h1, h2, h3, h4⟩ | ⟨h1, h2, h3, h4⟩ <;> omega

/-- A right operation, by its units. -/
theorem opOk_units {o : List Pt} (h : opOk o = true) : partsOk o = true ∧ (from_ (units o) : Int) = opFrom o ∧ (to_ (units o) : Int) = opTo o ∧ from_ (units o) ≤ 200 ∧ to_ (units o) ≤ 200 := by
  unfold opOk at h
  simp only [Bool.and_eq_true, decide_eq_true_eq] at h
  obtain ⟨h1, h2, h3⟩ := h
  obtain ⟨a, b⟩ := okParts_units (partsOk_all h1).1
  have e1 : opFrom o = keeps o + drops o := by rw [opFrom, if_pos h1]
  have e2 : opTo o = keeps o + puts o := by rw [opTo, if_pos h1]
  exact ⟨h1, by rw [e1]; exact a, by rw [e2]; exact b, by omega, by omega⟩
theorem opOk_of {o : List Pt} (h1 : partsOk o = true) (h2 : from_ (units o) ≤ 200) (h3 : to_ (units o) ≤ 200) : opOk o = true := by
  obtain ⟨a, b⟩ := okParts_units (partsOk_all h1).1
  have e1 : opFrom o = keeps o + drops o := by rw [opFrom, if_pos h1]
  have e2 : opTo o = keeps o + puts o := by rw [opTo, if_pos h1]
  unfold opOk
  simp only [Bool.and_eq_true, decide_eq_true_eq]
  exact ⟨h1, by rw [e1, ← a]; omega, by rw [e2, ← b]; omega⟩
/-- All characters that units put are right ones. -/
def okU (us : List U) : Prop := ∀ c, some (some c) ∈ us → signOk c = true
theorem okU.append {a b : List U} (h : okU a) (k : okU b) : okU (a ++ b) := fun c hc => by
  rcases List.mem_append.1 hc with hc | hc
  · exact h c hc
  · exact k c hc
theorem okU_parts {o : List Pt} (h : ∀ p ∈ o, partOk p = true) : okU (units o) := by
  intro c hc
  simp only [units, List.mem_flatMap] at hc
  obtain ⟨p, hp, hc⟩ := hc
  rcases partOk_cases (h p hp) with ⟨h1, h2, h3, h4⟩ | ⟨h1, h2, h3, h4⟩ | ⟨h1, h2, h3, h4⟩
  · simp [unitsP, h1] at hc
  · simp [unitsP, h1] at hc
  · simp [unitsP, h1] at hc
    unfold signsOk at h4
    exact List.all_eq_true.1 h4 c hc
theorem goodP_units {p : Pt} (h : GoodP p) : 1 ≤ from_ (unitsP p) + to_ (unitsP p) := by
  rcases h with ⟨h1, h2, h3⟩ | ⟨h1, h2, h3⟩ | ⟨h1, h2, h3⟩
  · simp [unitsP, h1, from_keeps, to_keeps]; omega
  · simp [unitsP, h1, from_drops, to_drops]; omega
  · have : p.signs.length ≠ 0 := by simpa using h3
    simp [unitsP, h1, from_puts, to_puts]; omega
theorem good_len {l : List Pt} (h : Good l) : l.length ≤ from_ (units l) + to_ (units l) := by
  induction l with
  | nil => simp
  | cons p l ih =>
    have h1 := goodP_units (h p (by simp))
    have h2 := ih fun q hq => h q (by simp [hq])
    rw [units_cons, from_append, to_append, List.length_cons]
    omega
theorem unitsP_le {l : List Pt} {p : Pt} (h : p ∈ l) : from_ (unitsP p) ≤ from_ (units l) ∧ to_ (unitsP p) ≤ to_ (units l) ∧ ∀ u ∈ unitsP p, u ∈ units l := by
  obtain ⟨a, b, rfl⟩ := List.append_of_mem h
  rw [units_append, units_cons]
  simp only [from_append, to_append, List.mem_append]
  exact ⟨by omega, by omega, fun u hu => .inr (.inl hu)⟩
theorem good_partOk {l : List Pt} (h : Good l) (hu : okU (units l)) (h1 : from_ (units l) ≤ 200) (h2 : to_ (units l) ≤ 200) : ∀ p ∈ l, partOk p = true := by
  intro p hp
  obtain ⟨f1, f2, f3⟩ := unitsP_le hp
  rcases h p hp with ⟨g1, g2, g3⟩ | ⟨g1, g2, g3⟩ | ⟨g1, g2, g3⟩
  · have : from_ (unitsP p) = p.n.toNat := by simp [unitsP, g1, from_keeps]
    exact partOk_of (.inl ⟨g1, by omega, by omega, g3⟩)
  · have : from_ (unitsP p) = p.n.toNat := by simp [unitsP, g1, from_drops]
    exact partOk_of (.inr (.inl ⟨g1, by omega, by omega, g3⟩))
  · have : to_ (unitsP p) = p.signs.length := by simp [unitsP, g1, to_puts]
    refine partOk_of (.inr (.inr ⟨g1, g2, by omega, ?_⟩))
    unfold signsOk
    refine List.all_eq_true.2 fun c hc => hu c (f3 _ ?_)
    simp [unitsP, g1]
    exact hc
theorem good_opOk {l : List Pt} (h : Good l) (hu : okU (units l)) (h1 : from_ (units l) ≤ 200) (h2 : to_ (units l) ≤ 200) : opOk l = true :=
  opOk_of (partsOk_of (good_partOk h hu h1 h2) (by have := good_len h; omega)) h1 h2
/-- When units make a right operation. -/
theorem opOk_grp {us : List U} (hu : okU us) : opOk (grp us) = (decide (from_ us ≤ 200) && decide (to_ us ≤ 200)) := by
  have hs := units_grp us
  have e1 := hs.from_
  have e2 := hs.to_
  by_cases h : from_ us ≤ 200 ∧ to_ us ≤ 200
  · rw [good_opOk (good_grp us) (fun c hc => hu c ((hs.mem _).1 hc)) (by omega) (by omega)]
    simp [h.1, h.2]
  · have : opOk (grp us) = false := by
      rw [Bool.eq_false_iff]
      intro hh
      obtain ⟨_, _, _, h1, h2⟩ := opOk_units hh
      omega
    rw [this]
    symm
    simp only [Bool.and_eq_false_iff, decide_eq_false_iff_not]
    omega
theorem ok_norm {o : List Pt} (h : opOk o = true) : norm o = grp (units o) := norm_grp fun p hp => ok_n ((partsOk_all (opOk_units h).1).1 p hp)
theorem ok_okU {o : List Pt} (h : opOk o = true) : okU (units o) := okU_parts (partsOk_all (opOk_units h).1).1
/-- The normal form of a right operation is one, on the same texts. -/
theorem opOk_norm {o : List Pt} (h : opOk o = true) : opOk (norm o) = true := by
  obtain ⟨_, _, _, h1, h2⟩ := opOk_units h
  rw [ok_norm h, opOk_grp (ok_okU h)]
  simp [h1, h2]
theorem opFrom_norm {o : List Pt} (h : opOk o = true) : opFrom (norm o) = opFrom o ∧ opTo (norm o) = opTo o := by
  obtain ⟨_, a1, a2, _, _⟩ := opOk_units h
  obtain ⟨_, b1, b2, _, _⟩ := opOk_units (opOk_norm h)
  have hs := units_grp (units o)
  rw [← ok_norm h] at hs
  have e1 := hs.from_
  have e2 := hs.to_
  omega

theorem app_keeps (n : Nat) (us : List U) (t : List Int) : app (List.replicate n none ++ us) t = t.take n ++ app us (t.drop n) := by
  induction n generalizing t with
  | zero => simp
  | succ n ih =>
    rw [List.replicate_succ, List.cons_append, app, ih]
    cases t with
    | nil => simp
    | cons x t => simp
theorem app_drops (n : Nat) (us : List U) (t : List Int) : app (List.replicate n (some none) ++ us) t = app us (t.drop n) := by
  induction n generalizing t with
  | zero => simp
  | succ n ih =>
    rw [List.replicate_succ, List.cons_append, app, ih]
    simp
theorem app_puts (l : List Int) (us : List U) (t : List Int) : app ((l.map fun c => some (some c)) ++ us) t = l ++ app us t := by
  induction l with
  | nil => simp
  | cons c l ih => simp [app, ih]
theorem app_unitsP (p : Pt) (us : List U) (t : List Int) : app (unitsP p ++ us) t = if p.kind = 1 then t.take p.n.toNat ++ app us (t.drop p.n.toNat) else if p.kind = 2 then p.signs ++ app us t else app us (t.drop p.n.toNat) := by
  rw [unitsP]
  split
  · exact app_keeps _ _ _
  · split
    · exact app_puts _ _ _
    · exact app_drops _ _ _
end Go.Proofs.YtookcfpiegbafaaGreatDoor.Pl

/- The plain functions of composition and transformation of operations, and their laws. No program in sight. No condition. -/
namespace Go.Proofs.YtookcfpiegbafaaGreatDoor.Pl

theorem okU_cmp (a b : List U) : okU a → okU b → okU (cmp a b) := by
  induction a, b using cmp.induct with
  | case1 a b ih => intro h k c hc; rw [cmp] at hc; exact ih (fun c hc => h c (by simp [hc])) k c (by simpa using hc)
  | case2 => intro _ _ c hc; simp [cmp] at hc
  | case3 b ih => intro h k c hc; rw [cmp] at hc; exact ih h (fun c hc => k c (by simp [hc])) c hc
  | case4 b ih => intro h k c hc; rw [cmp] at hc; exact ih h (fun c hc => k c (by simp [hc])) c hc
  | case5 d b ih => intro h k c hc; rw [cmp] at hc; rcases List.mem_cons.1 hc with e | hc
                    · exact k c (by rw [e]; simp)
                    · exact ih h (fun c hc => k c (by simp [hc])) c hc
  | case6 a ih => intro h k c hc; rw [cmp] at hc; exact ih (fun c hc => h c (by simp [hc])) k c hc
  | case7 a d b ih => intro h k c hc; rw [cmp] at hc; rcases List.mem_cons.1 hc with e | hc
                      · exact k c (by rw [e]; simp)
                      · exact ih h (fun c hc => k c (by simp [hc])) c hc
  | case8 a b ih => intro h k c hc; rw [cmp] at hc; exact ih (fun c hc => h c (by simp [hc])) (fun c hc => k c (by simp [hc])) c (by simpa using hc)
  | case9 a b ih => intro h k c hc; rw [cmp] at hc; exact ih (fun c hc => h c (by simp [hc])) (fun c hc => k c (by simp [hc])) c (by simpa using hc)
  | case10 d a ih => intro h k c hc; rw [cmp] at hc; exact ih (fun c hc => h c (by simp [hc])) k c hc
  | case11 e a d b ih => intro h k c hc; rw [cmp] at hc; rcases List.mem_cons.1 hc with e | hc
                         · exact k c (by rw [e]; simp)
                         · exact ih h (fun c hc => k c (by simp [hc])) c hc
  | case12 d a b ih => intro h k c hc; rw [cmp] at hc; rcases List.mem_cons.1 hc with e | hc
                       · exact h c (by rw [e]; simp)
                       · exact ih (fun c hc => h c (by simp [hc])) (fun c hc => k c (by simp [hc])) c hc
  | case13 d a b ih => intro h k c hc; rw [cmp] at hc; exact ih (fun c hc => h c (by simp [hc])) (fun c hc => k c (by simp [hc])) c hc
theorem okU_xf (a b : List U) : okU a → okU b → okU (xf a b).1 ∧ okU (xf a b).2 := by
  induction a, b using xf.induct with
  | case1 d a b ih =>
    intro h k
    obtain ⟨i1, i2⟩ := ih (fun c hc => h c (by simp [hc])) k
    rw [xf]
    refine ⟨fun c hc => ?_, fun c hc => i2 c (by simpa using hc)⟩
    rcases List.mem_cons.1 hc with e | hc
    · exact h c (by rw [e]; simp)
    · exact i1 c hc
  | case2 d b ih =>
    intro h k
    obtain ⟨i1, i2⟩ := ih h (fun c hc => k c (by simp [hc]))
    rw [xf]
    refine ⟨fun c hc => i1 c (by simpa using hc), fun c hc => ?_⟩
    rcases List.mem_cons.1 hc with e | hc
    · exact k c (by rw [e]; simp)
    · exact i2 c hc
  | case3 a d b ih =>
    intro h k
    obtain ⟨i1, i2⟩ := ih h (fun c hc => k c (by simp [hc]))
    rw [xf]
    refine ⟨fun c hc => i1 c (by simpa using hc), fun c hc => ?_⟩
    rcases List.mem_cons.1 hc with e | hc
    · exact k c (by rw [e]; simp)
    · exact i2 c hc
  | case4 a d b ih =>
    intro h k
    obtain ⟨i1, i2⟩ := ih h (fun c hc => k c (by simp [hc]))
    rw [xf]
    refine ⟨fun c hc => i1 c (by simpa using hc), fun c hc => ?_⟩
    rcases List.mem_cons.1 hc with e | hc
    · exact k c (by rw [e]; simp)
    · exact i2 c hc
  | case5 a b ih =>
    intro h k
    obtain ⟨i1, i2⟩ := ih (fun c hc => h c (by simp [hc])) (fun c hc => k c (by simp [hc]))
    rw [xf]
    exact ⟨fun c hc => i1 c (by simpa using hc), fun c hc => i2 c (by simpa using hc)⟩
  | case6 a b ih =>
    intro h k
    obtain ⟨i1, i2⟩ := ih (fun c hc => h c (by simp [hc])) (fun c hc => k c (by simp [hc]))
    rw [xf]
    exact ⟨fun c hc => i1 c (by simpa using hc), fun c hc => i2 c (by simpa using hc)⟩
  | case7 a b ih =>
    intro h k
    obtain ⟨i1, i2⟩ := ih (fun c hc => h c (by simp [hc])) (fun c hc => k c (by simp [hc]))
    rw [xf]
    exact ⟨fun c hc => i1 c (by simpa using hc), fun c hc => i2 c (by simpa using hc)⟩
  | case8 a b ih =>
    intro h k
    rw [xf]
    exact ih (fun c hc => h c (by simp [hc])) (fun c hc => k c (by simp [hc]))
  | case9 a b h1 h2 h3 h4 h5 h6 h7 h8 =>
    intro h k
    rcases a with _ | ⟨_ | _ | c, a⟩ <;> rcases b with _ | ⟨_ | _ | d, b⟩
    all_goals first
      | exact (h1 _ _ rfl).elim | exact (h2 _ _ rfl rfl).elim | exact (h3 _ _ _ rfl rfl).elim | exact (h4 _ _ _ rfl rfl).elim | exact (h5 _ _ rfl rfl).elim | exact (h6 _ _ rfl rfl).elim
      | exact (h7 _ _ rfl rfl).elim | exact (h8 _ _ rfl rfl).elim | (simp [xf, okU]; done)

/-- Composition of operations; none: it fails. -/
def cmpL (a b : List Pt) : List Pt := grp (cmp (units a) (units b))
def cmpOk (a b : List Pt) : Bool := (opOk a && (opOk b && decide (opTo a = opFrom b))) && opOk (cmpL a b)
def compose (a b : List Pt) : List Pt := if cmpOk a b = true then cmpL a b else []
/-- Transformation. -/
def xf1 (a b : List Pt) : List Pt := grp (xf (units a) (units b)).1
def xf2 (a b : List Pt) : List Pt := grp (xf (units a) (units b)).2
def xfOk (a b : List Pt) : Bool := (opOk a && (opOk b && decide (opFrom a = opFrom b))) && (opOk (xf1 a b) && opOk (xf2 a b))
def trans1 (a b : List Pt) : List Pt := if xfOk a b = true then xf1 a b else []
def trans2 (a b : List Pt) : List Pt := if xfOk a b = true then xf2 a b else []
instance : DecidableEq Pt := fun a b => decidable_of_iff (a.kind = b.kind ∧ a.n = b.n ∧ a.signs = b.signs) (by
  obtain ⟨a1, a2, a3⟩ := a
  obtain ⟨b1, b2, b3⟩ := b
  simp)
/-- A right operation in its normal form. -/
def isNorm (o : List Pt) : Bool := opOk o && decide (norm o = o)
def opNorm (o : List Pt) : List Pt := if opOk o = true then norm o else []

theorem opOk_units_eq {a b : List Pt} (ha : opOk a = true) (hb : opOk b = true) (h : opTo a = opFrom b) : to_ (units a) = from_ (units b) := by
  obtain ⟨_, _, a2, _, _⟩ := opOk_units ha
  obtain ⟨_, b1, _, _, _⟩ := opOk_units hb
  omega
theorem isNorm_grp {us : List U} (h : opOk (grp us) = true) : isNorm (grp us) = true := by
  rw [isNorm, h, norm_grp_self]
  simp
end Go.Proofs.YtookcfpiegbafaaGreatDoor.Pl

/- Plain law of strings: a list of bytes cut at one byte, and the pieces joined again. No condition. -/
namespace Go.Proofs.YtookcfpiegbafaaGreatDoor
namespace Pl
/-- l cut at every c; pre stands ahead of the first piece. -/
def splA (c : UInt8) (pre : List UInt8) : List UInt8 → List (List UInt8)
  | [] => [pre]
  | b :: l => if b = c then pre :: splA c [] l else splA c (pre ++ [b]) l
def spl (c : UInt8) (l : List UInt8) : List (List UInt8) := splA c [] l
theorem splA_ne (c : UInt8) (pre l : List UInt8) : splA c pre l ≠ [] := by
  induction l generalizing pre with
  | nil => simp [splA]
  | cons b l ih => rw [splA]; split <;> simp [ih]
theorem splA_pre (c : UInt8) (p q l : List UInt8) : ∃ x r, splA c q l = x :: r ∧ splA c (p ++ q) l = (p ++ x) :: r := by
  induction l generalizing q with
  | nil => exact ⟨q, [], rfl, rfl⟩
  | cons b l ih =>
    rw [splA, splA]
    split
    · exact ⟨q, _, rfl, rfl⟩
    · rw [List.append_assoc]; exact ih (q ++ [b])
theorem splA_one (c : UInt8) (b : UInt8) (l : List UInt8) (x : List UInt8) (r : List (List UInt8)) (h : splA c [] l = x :: r) : splA c [b] l = (b :: x) :: r := by
  obtain ⟨x', r', h1, h2⟩ := splA_pre c [b] [] l
  rw [h] at h1
  injection h1 with h1 h3
  subst h1 h3
  simpa using h2
theorem splA_length (c : UInt8) (pre l : List UInt8) : (splA c pre l).length ≤ l.length + 1 := by
  induction l generalizing pre with
  | nil => simp [splA]
  | cons b l ih =>
    rw [splA]
    split
    · have := ih []; simp; omega
    · have := ih (pre ++ [b]); simp; omega
theorem spl_length (c : UInt8) (l : List UInt8) : (spl c l).length ≤ l.length + 1 := splA_length c [] l
theorem spl_ne (c : UInt8) (l : List UInt8) : spl c l ≠ [] := splA_ne c [] l
theorem spl_pos (c : UInt8) (l : List UInt8) : 0 < (spl c l).length := List.length_pos_iff.2 (spl_ne c l)
/-- The library's cutting at one byte is this one. -/
theorem splitK_one (c : UInt8) : ∀ l : List UInt8, Lib.splitK [c] 0 (Lib.count l [c]) l = spl c l
  | [] => by
    have : Lib.count [] [c] = 0 := by rw [Lib.count_one]; rfl
    rw [this]; rfl
  | b :: l => by
    have ih := splitK_one c l
    by_cases h : b = c
    · subst h
      have hix : Lib.index (b :: l) [b] = 0 := by rw [Lib.index]; simp [List.isPrefixOf]
      rw [Lib.count_cons_eq, Nat.add_comm, Lib.splitK, hix, if_neg (by decide), spl, splA, if_pos rfl]
      unfold spl at ih
      simpa using ih
    · have hp : ([c] : List UInt8).isPrefixOf (b :: l) = false := by simp [List.isPrefixOf, Ne.symm h]
      have hix : Lib.index (b :: l) [c] = if Lib.index l [c] == -1 then -1 else Lib.index l [c] + 1 := by rw [Lib.index, hp]; simp
      rw [Lib.count_cons_ne b c l h, spl, splA, if_neg h, List.nil_append]
      unfold spl at ih
      cases hk : Lib.count l [c] with
      | zero =>
        rw [hk, Lib.splitK] at ih
        rw [Lib.splitK, splA_one c b l _ _ ih.symm]
      | succ k =>
        have hm : Lib.index l [c] ≠ -1 := fun e => by rw [Lib.count_miss e] at hk; omega
        have hge := Lib.index_ge l [c]
        obtain ⟨j, hj⟩ : ∃ j : Nat, Lib.index l [c] = j := ⟨(Lib.index l [c]).toNat, by omega⟩
        rw [hk, Lib.splitK, if_neg (fun e => hm (beq_iff_eq.1 e)), hj] at ih
        rw [Lib.splitK, hix, if_neg (fun e => hm (beq_iff_eq.1 e)), hj, if_neg (by simp; omega), splA_one c b l _ _ ih.symm]
        have e1 : ((j : Int) + 1).toNat = j + 1 := by omega
        have e2 : ((j : Int)).toNat = j := by omega
        rw [e1, e2]
        simp
/-- Pieces joined by one byte. -/
def join (c : UInt8) : List (List UInt8) → List UInt8
  | [] => []
  | [x] => x
  | x :: y :: r => x ++ c :: join c (y :: r)
theorem join_cons {c : UInt8} {x : List UInt8} {r : List (List UInt8)} (h : r ≠ []) : join c (x :: r) = x ++ c :: join c r := by
  cases r with
  | nil => exact absurd rfl h
  | cons y r => rfl
theorem join_splA (c : UInt8) (pre l : List UInt8) : join c (splA c pre l) = pre ++ l := by
  induction l generalizing pre with
  | nil => simp [splA, join]
  | cons b l ih =>
    rw [splA]
    split
    · rename_i h
      subst h
      rw [join_cons (splA_ne _ _ _), ih]; rfl
    · rw [ih]; simp
theorem join_spl (c : UInt8) (l : List UInt8) : join c (spl c l) = l := join_splA c [] l
theorem splA_word (c : UInt8) (w pre : List UInt8) (h : c ∉ w) : splA c pre w = [pre ++ w] := by
  induction w generalizing pre with
  | nil => simp [splA]
  | cons b w ih =>
    rw [splA, if_neg (fun e => h (by simp [e])), ih _ (fun e => h (by simp [e]))]
    simp
theorem splA_word_c (c : UInt8) (w pre r : List UInt8) (h : c ∉ w) : splA c pre (w ++ c :: r) = (pre ++ w) :: splA c [] r := by
  induction w generalizing pre with
  | nil => simp [splA]
  | cons b w ih =>
    rw [List.cons_append, splA, if_neg (fun e => h (by simp [e])), ih _ (fun e => h (by simp [e]))]
    simp
theorem spl_join (c : UInt8) : ∀ ws : List (List UInt8), ws ≠ [] → (∀ w ∈ ws, c ∉ w) → spl c (join c ws) = ws
  | [], h, _ => absurd rfl h
  | [x], _, hw => by
    rw [spl, join, splA_word c x [] (hw x (by simp))]; rfl
  | x :: y :: r, _, hw => by
    have ih := spl_join c (y :: r) (by simp) (fun w h => hw w (by simp [h]))
    rw [spl, join_cons (by simp), splA_word_c c x [] _ (hw x (by simp))]
    unfold spl at ih
    rw [ih]; rfl
/-- One step of a loop that cuts: at a c, and elsewhere. -/
theorem splA_at {c : UInt8} {s : List UInt8} {from_ i : Nat} (hi : i < s.length) (he : s[i] = c) :
    splA c ((s.drop from_).take (i - from_)) (s.drop i) = (s.drop from_).take (i - from_) :: splA c [] (s.drop (i + 1)) := by
  rw [List.drop_eq_getElem_cons hi, splA, if_pos he]
theorem splA_on {c : UInt8} {s : List UInt8} {from_ i : Nat} (hi : i < s.length) (hf : from_ ≤ i) (he : s[i] ≠ c) :
    splA c ((s.drop from_).take (i - from_)) (s.drop i) = splA c ((s.drop from_).take (i + 1 - from_)) (s.drop (i + 1)) := by
  rw [List.drop_eq_getElem_cons hi, splA, if_neg he]
  congr 1
  rw [show i + 1 - from_ = (i - from_) + 1 by omega, List.take_add_one]
  congr 1
  rw [List.getElem?_drop, show from_ + (i - from_) = i by omega, List.getElem?_eq_getElem hi]
  rfl
theorem splA_end {c : UInt8} {s : List UInt8} {from_ : Nat} : splA c ((s.drop from_).take (s.length - from_)) (s.drop s.length) = [s.drop from_] := by
  rw [List.drop_length, splA, List.take_of_length_le (by simp)]
end Pl
end Go.Proofs.YtookcfpiegbafaaGreatDoor

/- The plain law of composition and transformation, run by run. No program in sight. No condition. -/
namespace Go.Proofs.YtookcfpiegbafaaGreatDoor.Pl

abbrev ks (n : Nat) : List U := List.replicate n none
abbrev ds (n : Nat) : List U := List.replicate n (some none)
abbrev pus (l : List Int) : List U := l.map fun c => some (some c)

/-- Units that do not begin with a drop. -/
def NoD (a : List U) : Prop := a = [] ∨ (∃ x, a = none :: x) ∨ ∃ c x, a = some (some c) :: x
/-- Units that do not begin with a put. -/
def NoP (a : List U) : Prop := a = [] ∨ (∃ x, a = none :: x) ∨ ∃ x, a = some none :: x

theorem cmp_nil : cmp [] [] = [] := by simp [cmp]
theorem cmp_ds (n : Nat) (a b : List U) : cmp (ds n ++ a) b = ds n ++ cmp a b := by
  induction n with
  | zero => simp
  | succ n ih => simp [ds, List.replicate_succ, cmp] at ih ⊢; exact ih
theorem cmp_pus (l : List Int) (a b : List U) (h : NoD a) : cmp a (pus l ++ b) = pus l ++ cmp a b := by
  induction l with
  | nil => simp
  | cons c l ih =>
    rcases h with rfl | ⟨x, rfl⟩ | ⟨d, x, rfl⟩
    all_goals
      simp only [List.map_cons, List.cons_append, cmp] at ih ⊢
      rw [ih]
theorem cmp_kk (n : Nat) (a b : List U) : cmp (ks n ++ a) (ks n ++ b) = ks n ++ cmp a b := by
  induction n with
  | zero => simp
  | succ n ih => simp [ks, List.replicate_succ, cmp] at ih ⊢; exact ih
theorem cmp_kd (n : Nat) (a b : List U) : cmp (ks n ++ a) (ds n ++ b) = ds n ++ cmp a b := by
  induction n with
  | zero => simp
  | succ n ih => simp [ks, ds, List.replicate_succ, cmp] at ih ⊢; exact ih
theorem cmp_pk (l : List Int) (a b : List U) : cmp (pus l ++ a) (ks l.length ++ b) = pus l ++ cmp a b := by
  induction l with
  | nil => simp
  | cons c l ih => simp [ks, List.replicate_succ, cmp] at ih ⊢; exact ih
theorem cmp_pd (l : List Int) (a b : List U) : cmp (pus l ++ a) (ds l.length ++ b) = cmp a b := by
  induction l with
  | nil => simp
  | cons c l ih => simp [ds, List.replicate_succ, cmp] at ih ⊢; exact ih

theorem xf_nil : xf [] [] = ([], []) := by simp [xf]
theorem xf_pus (l : List Int) (a b : List U) : xf (pus l ++ a) b = (pus l ++ (xf a b).1, ks l.length ++ (xf a b).2) := by
  induction l with
  | nil => simp
  | cons c l ih => simp [ks, List.replicate_succ, xf] at ih ⊢; simp [ih]
theorem xf_pus2 (l : List Int) (a b : List U) (h : NoP a) : xf a (pus l ++ b) = (ks l.length ++ (xf a b).1, pus l ++ (xf a b).2) := by
  induction l with
  | nil => simp
  | cons c l ih =>
    rcases h with rfl | ⟨x, rfl⟩ | ⟨x, rfl⟩
    all_goals
      simp [ks, List.replicate_succ, xf] at ih ⊢
      simp [ih]
theorem xf_kk (n : Nat) (a b : List U) : xf (ks n ++ a) (ks n ++ b) = (ks n ++ (xf a b).1, ks n ++ (xf a b).2) := by
  induction n with
  | zero => simp
  | succ n ih => simp [ks, List.replicate_succ, xf] at ih ⊢; simp [ih]
theorem xf_dk (n : Nat) (a b : List U) : xf (ds n ++ a) (ks n ++ b) = (ds n ++ (xf a b).1, (xf a b).2) := by
  induction n with
  | zero => simp
  | succ n ih => simp [ks, ds, List.replicate_succ, xf] at ih ⊢; simp [ih]
theorem xf_kd (n : Nat) (a b : List U) : xf (ks n ++ a) (ds n ++ b) = ((xf a b).1, ds n ++ (xf a b).2) := by
  induction n with
  | zero => simp
  | succ n ih => simp [ks, ds, List.replicate_succ, xf] at ih ⊢; simp [ih]
theorem xf_dd (n : Nat) (a b : List U) : xf (ds n ++ a) (ds n ++ b) = xf a b := by
  induction n with
  | zero => simp
  | succ n ih => simp [ds, List.replicate_succ, xf] at ih ⊢; exact ih

/-- The size of a part, and the parts without those at the head that have none. -/
def skip (o : List Pt) : List Pt := o.dropWhile fun p => decide (size p = 0)
theorem units_skip {o : List Pt} (h : ∀ p ∈ o, partOk p = true) : units (skip o) = units o := by
  induction o with
  | nil => rfl
  | cons p o ih =>
    rw [skip, List.dropWhile_cons]
    split
    · rename_i hs
      have e : unitsP p = [] := by
        have hs' : size p = 0 := by simpa using hs
        unfold size at hs'
        rcases partOk_cases (h p (by simp)) with ⟨h1, h2, h3, h4⟩ | ⟨h1, h2, h3, h4⟩ | ⟨h1, h2, h3, h4⟩
        · rw [h4] at hs'; simp at hs'; simp [unitsP, h1, hs']
        · rw [h4] at hs'; simp at hs'; simp [unitsP, h1, hs']
        · have : p.signs = [] := List.eq_nil_of_length_eq_zero (by omega)
          simp [unitsP, h1, this]
      rw [units_cons, e, List.nil_append]
      exact ih fun q hq => h q (by simp [hq])
    · rfl
theorem skip_ok {o : List Pt} (h : ∀ p ∈ o, partOk p = true) : ∀ p ∈ skip o, partOk p = true := fun p hp => h p ((List.dropWhile_sublist _).subset hp)
theorem skip_head {o : List Pt} {p : Pt} {q : List Pt} (h : skip o = p :: q) : size p ≠ 0 := by
  have := List.head?_dropWhile_not (fun p => decide (size p = 0)) o
  rw [show o.dropWhile (fun p => decide (size p = 0)) = p :: q from h] at this
  simpa using this
end Go.Proofs.YtookcfpiegbafaaGreatDoor.Pl

/- The plain law of one round of composition and of transformation. No program in sight. No condition. -/
namespace Go.Proofs.YtookcfpiegbafaaGreatDoor.Pl

/-- The first part; its kind is 0 at the end. -/
def hd (q : List Pt) : Pt := q.headD ⟨0, 0, []⟩
/-- What is taken off a part, and what is left of it. -/
def tk (p : Pt) (n : Nat) : Pt := if p.kind = 2 then ⟨p.kind, p.n, p.signs.take n⟩ else ⟨p.kind, n, p.signs⟩
def lf (p : Pt) (n : Nat) : Pt := if p.kind = 2 then ⟨p.kind, p.n, p.signs.drop n⟩ else ⟨p.kind, p.n - n, p.signs⟩

abbrev AllOk (q : List Pt) : Prop := ∀ p ∈ q, partOk p = true

theorem tk_ok {p : Pt} {n : Nat} (h : partOk p = true) (hn : (n : Int) ≤ size p) : partOk (tk p n) = true := by
  unfold size at hn
  rcases partOk_cases h with ⟨h1, h2, h3, h4⟩ | ⟨h1, h2, h3, h4⟩ | ⟨h1, h2, h3, h4⟩
  · rw [h4] at hn; simp at hn
    refine partOk_of (.inl ?_); simp [tk, h1, h4]; omega
  · rw [h4] at hn; simp at hn
    refine partOk_of (.inr (.inl ?_)); simp [tk, h1, h4]; omega
  · refine partOk_of (.inr (.inr ?_))
    simp only [tk, h1, if_true, h2]
    refine ⟨trivial, trivial, by rw [List.length_take]; omega, ?_⟩
    unfold signsOk at h4 ⊢
    exact List.all_eq_true.2 fun x hx => List.all_eq_true.1 h4 x (List.take_subset _ _ hx)
theorem lf_ok {p : Pt} {n : Nat} (h : partOk p = true) (hn : (n : Int) ≤ size p) : partOk (lf p n) = true := by
  unfold size at hn
  rcases partOk_cases h with ⟨h1, h2, h3, h4⟩ | ⟨h1, h2, h3, h4⟩ | ⟨h1, h2, h3, h4⟩
  · rw [h4] at hn; simp at hn
    refine partOk_of (.inl ?_); simp [lf, h1, h4]; omega
  · rw [h4] at hn; simp at hn
    refine partOk_of (.inr (.inl ?_)); simp [lf, h1, h4]; omega
  · refine partOk_of (.inr (.inr ?_))
    simp only [lf, h1, if_true, h2]
    refine ⟨trivial, trivial, by rw [List.length_drop]; omega, ?_⟩
    unfold signsOk at h4 ⊢
    exact List.all_eq_true.2 fun x hx => List.all_eq_true.1 h4 x (List.drop_subset _ _ hx)
theorem size_nat {p : Pt} (h : partOk p = true) : 0 ≤ size p ∧ size p ≤ 200 := by
  unfold size
  rcases partOk_cases h with ⟨h1, h2, h3, h4⟩ | ⟨h1, h2, h3, h4⟩ | ⟨h1, h2, h3, h4⟩
  · rw [h4]; simp; omega
  · rw [h4]; simp; omega
  · omega
theorem unitsP_len {p : Pt} (h : partOk p = true) : ((unitsP p).length : Int) = size p := by
  unfold size unitsP
  rcases partOk_cases h with ⟨h1, h2, h3, h4⟩ | ⟨h1, h2, h3, h4⟩ | ⟨h1, h2, h3, h4⟩
  · simp [h1, h4]; omega
  · simp [h1, h4]; omega
  · simp [h1, h2]
theorem size_2 {p : Pt} (h : partOk p = true) (k : p.kind = 2) : size p = p.signs.length := by
  unfold size
  rcases partOk_cases h with ⟨h1, h2, h3, h4⟩ | ⟨h1, h2, h3, h4⟩ | ⟨h1, h2, h3, h4⟩ <;> omega
theorem size_13 {p : Pt} (h : partOk p = true) (k : p.kind ≠ 2) : size p = p.n := by
  unfold size
  rcases partOk_cases h with ⟨h1, h2, h3, h4⟩ | ⟨h1, h2, h3, h4⟩ | ⟨h1, h2, h3, h4⟩
  · simp [h4]
  · simp [h4]
  · omega
/-- The units of a part, by its kind. -/
theorem unitsP_1 {p : Pt} (k : p.kind = 1) : unitsP p = ks p.n.toNat := by simp [unitsP, k]
theorem unitsP_2 {p : Pt} (k : p.kind = 2) : unitsP p = pus p.signs := by simp [unitsP, k]
theorem unitsP_3 {p : Pt} (k : p.kind = 3) : unitsP p = ds p.n.toNat := by simp [unitsP, k]
theorem tk_kind (p : Pt) (n : Nat) : (tk p n).kind = p.kind := by unfold tk; split <;> rfl
theorem lf_kind (p : Pt) (n : Nat) : (lf p n).kind = p.kind := by unfold lf; split <;> rfl
theorem tk_1 {p : Pt} (k : p.kind = 1) (n : Nat) : unitsP (tk p n) = ks n := by rw [unitsP_1 (by rw [tk_kind]; exact k)]; simp [tk, k]
theorem tk_3 {p : Pt} (k : p.kind = 3) (n : Nat) : unitsP (tk p n) = ds n := by rw [unitsP_3 (by rw [tk_kind]; exact k)]; simp [tk, k]
theorem tk_2 {p : Pt} (k : p.kind = 2) (n : Nat) : unitsP (tk p n) = pus (p.signs.take n) := by rw [unitsP_2 (by rw [tk_kind]; exact k)]; simp [tk, k]
theorem unitsP_cut {p : Pt} {n : Nat} (h : partOk p = true) (hn : (n : Int) ≤ size p) : unitsP p = unitsP (tk p n) ++ unitsP (lf p n) := by
  unfold size at hn
  rcases partOk_cases h with ⟨h1, h2, h3, h4⟩ | ⟨h1, h2, h3, h4⟩ | ⟨h1, h2, h3, h4⟩
  · rw [h4] at hn; simp at hn
    rw [tk_1 h1, unitsP_1 h1, unitsP_1 (by rw [lf_kind]; exact h1), ks, ks, ks, List.replicate_append_replicate]
    congr 1; simp [lf, h1]; omega
  · rw [h4] at hn; simp at hn
    rw [tk_3 h1, unitsP_3 h1, unitsP_3 (by rw [lf_kind]; exact h1), ds, ds, ds, List.replicate_append_replicate]
    congr 1; simp [lf, h1]; omega
  · rw [tk_2 h1, unitsP_2 h1, unitsP_2 (by rw [lf_kind]; exact h1), pus, pus, pus, ← List.map_append]
    congr 1; simp [lf, h1]
theorem units_cut {p : Pt} {q : List Pt} {n : Nat} (h : partOk p = true) (hn : (n : Int) ≤ size p) : units (p :: q) = unitsP (tk p n) ++ units (lf p n :: q) := by
  rw [units_cons, units_cons, unitsP_cut h hn, List.append_assoc]
theorem cut_len {p : Pt} {q : List Pt} {n : Nat} (h : partOk p = true) (hn : (n : Int) ≤ size p) : (units (p :: q)).length = n + (units (lf p n :: q)).length := by
  rw [units_cut h hn, List.length_append]
  have := unitsP_len (tk_ok h hn)
  have e : size (tk p n) = n := by
    unfold size at hn ⊢
    rcases partOk_cases h with ⟨h1, h2, h3, h4⟩ | ⟨h1, h2, h3, h4⟩ | ⟨h1, h2, h3, h4⟩
    · simp [tk, h1, h4]
    · simp [tk, h1, h4]
    · simp [tk, h1, h2]; omega
  omega
theorem head_len {p : Pt} {q : List Pt} (h : partOk p = true) (hs : size p ≠ 0) : 1 ≤ size p ∧ 1 ≤ (units (p :: q)).length := by
  have h1 := unitsP_len h
  have h2 := size_nat h
  rw [units_cons, List.length_append]
  omega
theorem noD_of {q : List Pt} (h : AllOk q) (hs : skip q = q) (hk : (hd q).kind ≠ 3) : NoD (units q) := by
  cases q with
  | nil => exact .inl rfl
  | cons p q =>
    have hz := skip_head hs
    have hp := h p (by simp)
    have hk' : p.kind ≠ 3 := hk
    unfold size at hz
    rcases partOk_cases hp with ⟨h1, h2, h3, h4⟩ | ⟨h1, _⟩ | ⟨h1, h2, h3, h4⟩
    · rw [h4] at hz; simp at hz
      obtain ⟨m, hm⟩ : ∃ m, p.n.toNat = m + 1 := ⟨p.n.toNat - 1, by omega⟩
      exact .inr (.inl ⟨ks m ++ units q, by rw [units_cons, unitsP_1 h1, hm, ks, List.replicate_succ]; rfl⟩)
    · exact absurd h1 hk'
    · rw [h2] at hz
      obtain ⟨c, l, hl⟩ : ∃ c l, p.signs = c :: l := by
        rcases hx : p.signs with _ | ⟨c, l⟩
        · rw [hx] at hz; simp at hz
        · exact ⟨c, l, rfl⟩
      exact .inr (.inr ⟨c, pus l ++ units q, by rw [units_cons, unitsP_2 h1, hl]; rfl⟩)
theorem noP_of {q : List Pt} (h : AllOk q) (hs : skip q = q) (hk : (hd q).kind ≠ 2) : NoP (units q) := by
  cases q with
  | nil => exact .inl rfl
  | cons p q =>
    have hz := skip_head hs
    have hp := h p (by simp)
    have hk' : p.kind ≠ 2 := hk
    unfold size at hz
    rcases partOk_cases hp with ⟨h1, h2, h3, h4⟩ | ⟨h1, h2, h3, h4⟩ | ⟨h1, _⟩
    · rw [h4] at hz; simp at hz
      obtain ⟨m, hm⟩ : ∃ m, p.n.toNat = m + 1 := ⟨p.n.toNat - 1, by omega⟩
      exact .inr (.inl ⟨ks m ++ units q, by rw [units_cons, unitsP_1 h1, hm, ks, List.replicate_succ]; rfl⟩)
    · rw [h4] at hz; simp at hz
      obtain ⟨m, hm⟩ : ∃ m, p.n.toNat = m + 1 := ⟨p.n.toNat - 1, by omega⟩
      exact .inr (.inr ⟨ds m ++ units q, by rw [units_cons, unitsP_3 h1, hm, ds, List.replicate_succ]; rfl⟩)
    · exact absurd h1 hk'

theorem from_units1 {p : Pt} {q : List Pt} (h : partOk p = true) (hs : size p ≠ 0) (hk : p.kind ≠ 2) : 1 ≤ from_ (units (p :: q)) := by
  have := (noP_of (q := [p]) (fun x hx => by simp at hx; subst hx; exact h) (by simp [skip, hs]) hk)
  rw [units_cons, from_append]
  have e : units [p] = unitsP p := by simp [units]
  rw [e] at this
  rcases this with h1 | ⟨x, h1⟩ | ⟨x, h1⟩
  · have := unitsP_len h
    rw [h1] at this
    simp at this
    omega
  · rw [h1, from_]; omega
  · rw [h1, from_]; omega
theorem to_units1 {p : Pt} {q : List Pt} (h : partOk p = true) (hs : size p ≠ 0) (hk : p.kind ≠ 3) : 1 ≤ to_ (units (p :: q)) := by
  have := (noD_of (q := [p]) (fun x hx => by simp at hx; subst hx; exact h) (by simp [skip, hs]) hk)
  rw [units_cons, to_append]
  have e : units [p] = unitsP p := by simp [units]
  rw [e] at this
  rcases this with h1 | ⟨x, h1⟩ | ⟨c, x, h1⟩
  · have := unitsP_len h
    rw [h1] at this
    simp at this
    omega
  · rw [h1, to_]; omega
  · rw [h1, to_]; omega

/-- The state of a round of composition: what is left of both, behind the units so far. -/
structure CSt (a b : List U) (acc : List U) (q r : List Pt) : Prop where
  okq : AllOk q
  okr : AllOk r
  mid : to_ (units q) = from_ (units r)
  all : acc ++ cmp (units q) (units r) = cmp a b
/-- And of transformation. -/
structure XSt (a b : List U) (x y : List U) (q r : List Pt) : Prop where
  okq : AllOk q
  okr : AllOk r
  mid : from_ (units q) = from_ (units r)
  all1 : x ++ (xf (units q) (units r)).1 = (xf a b).1
  all2 : y ++ (xf (units q) (units r)).2 = (xf a b).2

theorem allOk_lf {p : Pt} {q : List Pt} {n : Nat} (h : AllOk (p :: q)) (hn : (n : Int) ≤ size p) : AllOk (lf p n :: q) := fun x hx => by
  rcases List.mem_cons.1 hx with rfl | hx
  · exact lf_ok (h p (by simp)) hn
  · exact h x (by simp [hx])
theorem CSt.skips {a b acc : List U} {q r : List Pt} (h : CSt a b acc q r) : CSt a b acc (skip q) (skip r) :=
  ⟨skip_ok h.okq, skip_ok h.okr, by rw [units_skip h.okq, units_skip h.okr]; exact h.mid, by rw [units_skip h.okq, units_skip h.okr]; exact h.all⟩
theorem XSt.skips {a b x y : List U} {q r : List Pt} (h : XSt a b x y q r) : XSt a b x y (skip q) (skip r) :=
  ⟨skip_ok h.okq, skip_ok h.okr, by rw [units_skip h.okq, units_skip h.okr]; exact h.mid, by rw [units_skip h.okq, units_skip h.okr]; exact h.all1, by rw [units_skip h.okq, units_skip h.okr]; exact h.all2⟩
theorem from_ks (n : Nat) : from_ (ks n) = n := from_keeps n
theorem to_ks (n : Nat) : to_ (ks n) = n := to_keeps n
theorem from_ds (n : Nat) : from_ (ds n) = n := from_drops n
theorem to_ds (n : Nat) : to_ (ds n) = 0 := to_drops n
theorem from_pus (l : List Int) : from_ (pus l) = 0 := from_puts l
theorem to_pus (l : List Int) : to_ (pus l) = l.length := to_puts l

theorem CSt.drop {a b acc : List U} {p : Pt} {q r : List Pt} {n : Nat} (h : CSt a b acc (p :: q) r) (hn : (n : Int) ≤ size p) (k : p.kind = 3) :
    CSt a b (acc ++ unitsP (tk p n)) (lf p n :: q) r := by
  have hp := h.okq p (by simp)
  have e := units_cut (q := q) hp hn
  have m := h.mid
  have al := h.all
  rw [e, tk_3 k] at m al
  rw [to_append, to_ds] at m
  rw [cmp_ds] at al
  exact ⟨allOk_lf h.okq hn, h.okr, by omega, by rw [tk_3 k, List.append_assoc]; exact al⟩
theorem CSt.put {a b acc : List U} {p : Pt} {q r : List Pt} {n : Nat} (h : CSt a b acc q (p :: r)) (hn : (n : Int) ≤ size p) (k : p.kind = 2) (hq : skip q = q) (hk : (hd q).kind ≠ 3) :
    CSt a b (acc ++ unitsP (tk p n)) q (lf p n :: r) := by
  have hp := h.okr p (by simp)
  have e := units_cut (q := r) hp hn
  have m := h.mid
  have al := h.all
  rw [e, tk_2 k] at m al
  rw [from_append, from_pus] at m
  rw [cmp_pus _ _ _ (noD_of h.okq hq hk)] at al
  exact ⟨h.okq, allOk_lf h.okr hn, by omega, by rw [tk_2 k, List.append_assoc]; exact al⟩
/-- What the common round of composition tells. -/
def cOut (p s : Pt) (n : Nat) : List U := if s.kind = 1 then unitsP (tk p n) else if p.kind = 1 then unitsP (tk s n) else []
theorem CSt.both {a b acc : List U} {p s : Pt} {q r : List Pt} {n : Nat} (h : CSt a b acc (p :: q) (s :: r)) (hn : (n : Int) ≤ size p) (hm : (n : Int) ≤ size s) (k : p.kind ≠ 3) (k' : s.kind ≠ 2) :
    CSt a b (acc ++ cOut p s n) (lf p n :: q) (lf s n :: r) := by
  have hp := h.okq p (by simp)
  have hs := h.okr s (by simp)
  have e := units_cut (q := q) hp hn
  have e' := units_cut (q := r) hs hm
  have m := h.mid
  have al := h.all
  have kp : p.kind = 1 ∨ p.kind = 2 := by rcases partOk_cases hp with ⟨h1, _⟩ | ⟨h1, _⟩ | ⟨h1, _⟩ <;> omega
  have ks' : s.kind = 1 ∨ s.kind = 3 := by rcases partOk_cases hs with ⟨h1, _⟩ | ⟨h1, _⟩ | ⟨h1, _⟩ <;> omega
  have sl : p.kind = 2 → (p.signs.take n).length = n := fun hk => by
    unfold size at hn
    rcases partOk_cases hp with ⟨h1, _⟩ | ⟨h1, _⟩ | ⟨h1, h2, h3, h4⟩
    · omega
    · omega
    · rw [List.length_take]; omega
  rw [e, e'] at m al
  refine ⟨allOk_lf h.okq hn, allOk_lf h.okr hm, ?_, ?_⟩
  · rw [to_append, from_append] at m
    rcases kp with kp | kp <;> rcases ks' with k2 | k2
    · rw [tk_1 kp, tk_1 k2, to_ks, from_ks] at m; omega
    · rw [tk_1 kp, tk_3 k2, to_ks, from_ds] at m; omega
    · rw [tk_2 kp, tk_1 k2, to_pus, from_ks, sl kp] at m; omega
    · rw [tk_2 kp, tk_3 k2, to_pus, from_ds, sl kp] at m; omega
  · rw [List.append_assoc]
    rw [← al]
    congr 1
    unfold cOut
    rcases kp with kp | kp <;> rcases ks' with k2 | k2
    · rw [if_pos k2, tk_1 kp, tk_1 k2, cmp_kk]
    · rw [if_neg (by omega), if_pos kp, tk_1 kp, tk_3 k2, cmp_kd]
    · rw [if_pos k2, tk_2 kp, tk_1 k2]
      have := cmp_pk (p.signs.take n) (units (lf p n :: q)) (units (lf s n :: r))
      rw [sl kp] at this
      exact this.symm
    · rw [if_neg (by omega), if_neg (by omega), tk_2 kp, tk_3 k2]
      have := cmp_pd (p.signs.take n) (units (lf p n :: q)) (units (lf s n :: r))
      rw [sl kp] at this
      exact this.symm
theorem CSt.stop {a b acc : List U} (h : CSt a b acc [] []) : acc = cmp a b := by
  have := h.all
  rw [show units [] = [] from rfl, cmp_nil, List.append_nil] at this
  exact this
theorem CSt.noY {a b acc : List U} {r : List Pt} (h : CSt a b acc [] r) (hr : skip r = r) (hk : (hd r).kind ≠ 2) : r = [] := by
  cases r with
  | nil => rfl
  | cons s r =>
    have := from_units1 (q := r) (h.okr s (by simp)) (skip_head hr) hk
    have := h.mid
    rw [show units [] = [] from rfl, to_] at this
    omega
theorem CSt.noX {a b acc : List U} {q : List Pt} (h : CSt a b acc q []) (hq : skip q = q) (hk : (hd q).kind ≠ 3) : q = [] := by
  cases q with
  | nil => rfl
  | cons s q =>
    have := to_units1 (q := q) (h.okq s (by simp)) (skip_head hq) hk
    have := h.mid
    rw [show units [] = [] from rfl, from_] at this
    omega

theorem XSt.put1 {a b x y : List U} {p : Pt} {q r : List Pt} {n : Nat} (h : XSt a b x y (p :: q) r) (hn : (n : Int) = size p) (k : p.kind = 2) :
    XSt a b (x ++ unitsP (tk p n)) (y ++ ks n) (lf p n :: q) r := by
  have hp := h.okq p (by simp)
  have hn' : (n : Int) ≤ size p := by omega
  have e := units_cut (q := q) hp hn'
  have m := h.mid
  have a1 := h.all1
  have a2 := h.all2
  have sl : (p.signs.take n).length = n := by
    unfold size at hn
    rcases partOk_cases hp with ⟨h1, _⟩ | ⟨h1, _⟩ | ⟨h1, h2, h3, h4⟩
    · omega
    · omega
    · rw [List.length_take]; omega
  rw [e, tk_2 k] at m a1 a2
  rw [from_append, from_pus] at m
  rw [xf_pus] at a1 a2
  rw [sl] at a2
  exact ⟨allOk_lf h.okq hn', h.okr, by omega, by rw [tk_2 k, List.append_assoc]; exact a1, by rw [List.append_assoc]; exact a2⟩
theorem XSt.put2 {a b x y : List U} {p : Pt} {q r : List Pt} {n : Nat} (h : XSt a b x y q (p :: r)) (hn : (n : Int) = size p) (k : p.kind = 2) (hq : skip q = q) (hk : (hd q).kind ≠ 2) :
    XSt a b (x ++ ks n) (y ++ unitsP (tk p n)) q (lf p n :: r) := by
  have hp := h.okr p (by simp)
  have hn' : (n : Int) ≤ size p := by omega
  have e := units_cut (q := r) hp hn'
  have m := h.mid
  have a1 := h.all1
  have a2 := h.all2
  have sl : (p.signs.take n).length = n := by
    unfold size at hn
    rcases partOk_cases hp with ⟨h1, _⟩ | ⟨h1, _⟩ | ⟨h1, h2, h3, h4⟩
    · omega
    · omega
    · rw [List.length_take]; omega
  rw [e, tk_2 k] at m a1 a2
  rw [from_append, from_pus] at m
  rw [xf_pus2 _ _ _ (noP_of h.okq hq hk)] at a1 a2
  rw [sl] at a1
  exact ⟨h.okq, allOk_lf h.okr hn', by omega, by rw [List.append_assoc]; exact a1, by rw [tk_2 k, List.append_assoc]; exact a2⟩
def xOut1 (p s : Pt) (n : Nat) : List U := if s.kind = 1 then unitsP (tk p n) else []
def xOut2 (p s : Pt) (n : Nat) : List U := if p.kind = 1 then unitsP (tk s n) else []
theorem XSt.both {a b x y : List U} {p s : Pt} {q r : List Pt} {n : Nat} (h : XSt a b x y (p :: q) (s :: r)) (hn : (n : Int) ≤ size p) (hm : (n : Int) ≤ size s) (k : p.kind ≠ 2) (k' : s.kind ≠ 2) :
    XSt a b (x ++ xOut1 p s n) (y ++ xOut2 p s n) (lf p n :: q) (lf s n :: r) := by
  have hp := h.okq p (by simp)
  have hs := h.okr s (by simp)
  have e := units_cut (q := q) hp hn
  have e' := units_cut (q := r) hs hm
  have m := h.mid
  have a1 := h.all1
  have a2 := h.all2
  have kp : p.kind = 1 ∨ p.kind = 3 := by rcases partOk_cases hp with ⟨h1, _⟩ | ⟨h1, _⟩ | ⟨h1, _⟩ <;> omega
  have ks' : s.kind = 1 ∨ s.kind = 3 := by rcases partOk_cases hs with ⟨h1, _⟩ | ⟨h1, _⟩ | ⟨h1, _⟩ <;> omega
  rw [e, e'] at m a1 a2
  rw [from_append, from_append] at m
  refine ⟨allOk_lf h.okq hn, allOk_lf h.okr hm, ?_, ?_, ?_⟩
  · rcases kp with kp | kp <;> rcases ks' with k2 | k2
    · rw [tk_1 kp, tk_1 k2, from_ks] at m; omega
    · rw [tk_1 kp, tk_3 k2, from_ks, from_ds] at m; omega
    · rw [tk_3 kp, tk_1 k2, from_ds, from_ks] at m; omega
    · rw [tk_3 kp, tk_3 k2, from_ds] at m; omega
  · rw [List.append_assoc, ← a1]
    congr 1
    unfold xOut1
    rcases kp with kp | kp <;> rcases ks' with k2 | k2
    · rw [if_pos k2, tk_1 kp, tk_1 k2, xf_kk]
    · rw [if_neg (by omega), tk_1 kp, tk_3 k2, xf_kd]; rfl
    · rw [if_pos k2, tk_3 kp, tk_1 k2, xf_dk]
    · rw [if_neg (by omega), tk_3 kp, tk_3 k2, xf_dd]; rfl
  · rw [List.append_assoc, ← a2]
    congr 1
    unfold xOut2
    rcases kp with kp | kp <;> rcases ks' with k2 | k2
    · rw [if_pos kp, tk_1 kp, tk_1 k2, xf_kk]
    · rw [if_pos kp, tk_1 kp, tk_3 k2, xf_kd]
    · rw [if_neg (by omega), tk_3 kp, tk_1 k2, xf_dk]; rfl
    · rw [if_neg (by omega), tk_3 kp, tk_3 k2, xf_dd]; rfl
theorem XSt.stop {a b x y : List U} (h : XSt a b x y [] []) : x = (xf a b).1 ∧ y = (xf a b).2 := by
  have a1 := h.all1
  have a2 := h.all2
  rw [show units [] = [] from rfl, xf_nil, List.append_nil] at a1 a2
  exact ⟨a1, a2⟩
theorem XSt.noY {a b x y : List U} {r : List Pt} (h : XSt a b x y [] r) (hr : skip r = r) (hk : (hd r).kind ≠ 2) : r = [] := by
  cases r with
  | nil => rfl
  | cons s r =>
    have := from_units1 (q := r) (h.okr s (by simp)) (skip_head hr) hk
    have := h.mid
    rw [show units [] = [] from rfl, from_] at this
    omega
theorem XSt.noX {a b x y : List U} {q : List Pt} (h : XSt a b x y q []) (hq : skip q = q) (hk : (hd q).kind ≠ 2) : q = [] := by
  cases q with
  | nil => rfl
  | cons s q =>
    have := from_units1 (q := q) (h.okq s (by simp)) (skip_head hq) hk
    have := h.mid
    rw [show units [] = [] from rfl, from_] at this
    omega
theorem CSt.start {a b : List Pt} (ha : opOk a = true) (hb : opOk b = true) (h : opTo a = opFrom b) : CSt (units a) (units b) [] a b :=
  ⟨(partsOk_all (opOk_units ha).1).1, (partsOk_all (opOk_units hb).1).1, opOk_units_eq ha hb h, rfl⟩
theorem XSt.start {a b : List Pt} (ha : opOk a = true) (hb : opOk b = true) (h : opFrom a = opFrom b) : XSt (units a) (units b) [] [] a b := by
  obtain ⟨_, a1, _, _, _⟩ := opOk_units ha
  obtain ⟨_, b1, _, _, _⟩ := opOk_units hb
  exact ⟨(partsOk_all (opOk_units ha).1).1, (partsOk_all (opOk_units hb).1).1, by omega, rfl, rfl⟩
theorem len_units {a : List Pt} (ha : opOk a = true) : (units a).length ≤ 400 := by
  obtain ⟨_, _, _, a1, a2⟩ := opOk_units ha
  have : ∀ us : List U, us.length ≤ from_ us + to_ us := fun us => by
    induction us with
    | nil => simp [from_]
    | cons u us ih => rcases u with _ | _ | c <;> simp [from_, to_] <;> omega
  have := this (units a)
  omega
theorem skip_idem (q : List Pt) : skip (skip q) = skip q := by
  unfold skip
  induction q with
  | nil => rfl
  | cons p q ih =>
    rw [List.dropWhile_cons]
    split
    · exact ih
    · rename_i h
      rw [List.dropWhile_cons, if_neg h]
end Go.Proofs.YtookcfpiegbafaaGreatDoor.Pl
