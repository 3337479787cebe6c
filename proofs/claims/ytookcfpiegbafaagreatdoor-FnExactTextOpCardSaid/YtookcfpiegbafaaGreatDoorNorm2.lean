/- The plain law of the normal form and of right operations: sizes, effect. No program in sight. No condition. -/
import Derived.Test.YtookcfpiegbafaaGreatDoorNorm
namespace Go.Proofs.YtookcfpiegbafaaGreatDoor.Pl

/-- A part of a normal form. -/
def GoodP (p : Pt) : Prop := (p.kind = 1 ∧ 1 ≤ p.n ∧ p.signs = []) ∨ (p.kind = 3 ∧ 1 ≤ p.n ∧ p.signs = []) ∨ (p.kind = 2 ∧ p.n = 0 ∧ p.signs ≠ [])
def Good (l : List Pt) : Prop := ∀ p ∈ l, GoodP p
theorem Good.append {a b : List Pt} (h : Good a) (k : Good b) : Good (a ++ b) := fun p hp => by
  rcases List.mem_append.1 hp with hp | hp
  · exact h p hp
  · exact k p hp
def Bd.good (b : Bd) : Prop := 0 ≤ b.drop ∧ Good b.list
theorem good_flushL {b : Bd} (h : b.good) : Good (flushL b) := by
  refine h.2.append (Good.append ?_ ?_)
  · split
    · intro p hp; simp at hp
    · intro p hp; simp at hp; subst hp; exact .inr (.inr ⟨rfl, rfl, by assumption⟩)
  · split
    · intro p hp; simp at hp; subst hp; exact .inr (.inl ⟨rfl, by show 1 ≤ b.drop; omega, rfl⟩)
    · intro p hp; simp at hp
theorem good_addKeep {l : List Pt} (h : Good l) {n : Int} (hn : 1 ≤ n) : Good (addKeep l n) := by
  rcases List.eq_nil_or_concat l with rfl | ⟨l, p, rfl⟩
  · intro p hp; simp [addKeep] at hp; subst hp; exact .inl ⟨rfl, hn, rfl⟩
  · rw [List.concat_eq_append] at h ⊢
    have hl : Good l := fun q hq => h q (by simp [hq])
    rw [addKeep_last]
    split
    · rename_i hk
      refine hl.append fun q hq => ?_
      simp at hq; subst hq
      rcases h p (by simp) with ⟨_, h1, h2⟩ | ⟨h0, _⟩ | ⟨h0, _⟩
      · exact .inl ⟨rfl, by show 1 ≤ p.n + n; omega, h2⟩
      · omega
      · omega
    · refine h.append fun q hq => ?_
      simp at hq; subst hq
      exact .inl ⟨rfl, hn, rfl⟩
theorem good_bU {b : Bd} (h : b.good) (u : U) : (bU b u).good := by
  rcases u with _ | _ | c
  · show (bKeep b 1).good
    rw [bKeep, if_neg (by decide)]
    exact ⟨Int.le_refl 0, good_addKeep (good_flushL h) (Int.le_refl 1)⟩
  · have := h.1
    exact ⟨by show 0 ≤ b.drop + 1; omega, h.2⟩
  · exact ⟨h.1, h.2⟩
theorem good_run (us : List U) : ∀ {b : Bd}, b.good → (run b us).good := by
  induction us with
  | nil => intro b h; exact h
  | cons u us ih => intro b h; exact ih (good_bU h u)
theorem good_grp (us : List U) : Good (grp us) := good_flushL (good_run us ⟨Int.le_refl 0, fun p hp => by simp [Bd.init] at hp⟩)

/-- Membership is the same of lists that differ by the order of drops and puts. -/
theorem Sw.mem {a b : List U} (h : Sw a b) (u : U) : u ∈ a ↔ u ∈ b :=
  h.ind (fun x y => u ∈ x ↔ u ∈ y) (fun _ => Iff.rfl) (fun _ _ => Iff.symm) (fun _ _ _ => Iff.trans) fun x y c => by
    simp only [List.mem_append, List.mem_cons]
    constructor <;> (rintro (h | h | h | h) <;> simp [h])
theorem Sw.count {a b : List U} (h : Sw a b) (p : U → Bool) : a.countP p = b.countP p :=
  h.ind (fun x y => x.countP p = y.countP p) (fun _ => rfl) (fun _ _ => Eq.symm) (fun _ _ _ => Eq.trans) fun x y c => by
    simp only [List.countP_append, List.countP_cons]
    omega

theorem from_keeps (n : Nat) : from_ (List.replicate n none) = n := by
  induction n with
  | zero => rfl
  | succ n ih => simp [List.replicate_succ, from_, ih]
theorem from_drops (n : Nat) : from_ (List.replicate n (some none)) = n := by
  induction n with
  | zero => rfl
  | succ n ih => simp [List.replicate_succ, from_, ih]
theorem from_puts (l : List Int) : from_ (l.map fun c => some (some c)) = 0 := by
  induction l with
  | nil => rfl
  | cons c l ih => simp [from_, ih]
theorem to_keeps (n : Nat) : to_ (List.replicate n none) = n := by
  induction n with
  | zero => rfl
  | succ n ih => simp [List.replicate_succ, to_, ih]
theorem to_drops (n : Nat) : to_ (List.replicate n (some none)) = 0 := by
  induction n with
  | zero => rfl
  | succ n ih => simp [List.replicate_succ, to_, ih]
theorem to_puts (l : List Int) : to_ (l.map fun c => some (some c)) = l.length := by
  induction l with
  | nil => rfl
  | cons c l ih => simp [to_, ih]

theorem partOk_cases {p : Pt} (h : partOk p = true) : (p.kind = 1 ∧ 0 ≤ p.n ∧ p.n ≤ 200 ∧ p.signs = []) ∨ (p.kind = 3 ∧ 0 ≤ p.n ∧ p.n ≤ 200 ∧ p.signs = []) ∨ (p.kind = 2 ∧ p.n = 0 ∧ p.signs.length ≤ 200 ∧ signsOk p.signs = true) := by
  unfold partOk at h
  split at h
  · rename_i hk
    simp at h
    rcases hk with hk | hk
    · exact .inl ⟨hk, h.1.1, h.1.2, h.2⟩
    · exact .inr (.inl ⟨hk, h.1.1, h.1.2, h.2⟩)
  · split at h
    · rename_i hk
      simp at h
      exact .inr (.inr ⟨hk, h.1, h.2.1, h.2.2⟩)
    · cases h
theorem partOk_of {p : Pt} (h : (p.kind = 1 ∧ 0 ≤ p.n ∧ p.n ≤ 200 ∧ p.signs = []) ∨ (p.kind = 3 ∧ 0 ≤ p.n ∧ p.n ≤ 200 ∧ p.signs = []) ∨ (p.kind = 2 ∧ p.n = 0 ∧ p.signs.length ≤ 200 ∧ signsOk p.signs = true)) : partOk p = true := by
  rcases h with ⟨h1, h2, h3, h4⟩ | ⟨h1, h2, h3, h4⟩ | ⟨h1, h2, h3, h4⟩
  · simp [partOk, h1, h2, h3, h4]
  · simp [partOk, h1, h2, h3, h4]
  · simp [partOk, h1, h2, h3, h4]
theorem partsOk_all {o : List Pt} (h : partsOk o = true) : (∀ p ∈ o, partOk p = true) ∧ o.length ≤ 600 := by
  unfold partsOk at h
  simpa using h
theorem partsOk_of {o : List Pt} (h : ∀ p ∈ o, partOk p = true) (hl : o.length ≤ 600) : partsOk o = true := by
  unfold partsOk
  simpa using ⟨h, hl⟩
theorem okPart_units {p : Pt} (h : partOk p = true) : (from_ (unitsP p) : Int) = keepsP p + dropsP p ∧ (to_ (unitsP p) : Int) = keepsP p + putsP p := by
  rcases partOk_cases h with ⟨h1, h2, h3, h4⟩ | ⟨h1, h2, h3, h4⟩ | ⟨h1, h2, h3, h4⟩
  · simp [unitsP, keepsP, dropsP, putsP, h1, from_keeps, to_keeps]; omega
  · simp [unitsP, keepsP, dropsP, putsP, h1, from_drops, to_drops]; omega
  · simp [unitsP, keepsP, dropsP, putsP, h1, from_puts, to_puts]
theorem okParts_units {o : List Pt} (h : ∀ p ∈ o, partOk p = true) : (from_ (units o) : Int) = keeps o + drops o ∧ (to_ (units o) : Int) = keeps o + puts o := by
  induction o with
  | nil => exact ⟨rfl, rfl⟩
  | cons p o ih =>
    have h1 := okPart_units (h p (by simp))
    have h2 := ih fun q hq => h q (by simp [hq])
    rw [units_cons, from_append, to_append]
    simp only [keeps, drops, puts, List.map_cons, List.sum_cons] at h2 ⊢
    omega
theorem ok_n {p : Pt} (h : partOk p = true) : 0 ≤ p.n := by
  rcases partOk_cases h with ⟨h1, h2, h3, h4⟩ | ⟨h1, h2, h3, h4⟩ | ⟨h1, h2, h3, h4⟩ <;> omega

/-- A right operation, by its units. -/
theorem opOk_units {o : List Pt} (h : opOk o = true) : partsOk o = true ∧ (from_ (units o) : Int) = opFrom o ∧ (to_ (units o) : Int) = opTo o ∧ from_ (units o) ≤ 200 ∧ to_ (units o) ≤ 200 := by
  unfold opOk at h
  simp only [Bool.and_eq_true, decide_eq_true_eq] at h
  obtain ⟨h1, h2, h3⟩ := h
  obtain ⟨a, b⟩ := okParts_units (partsOk_all h1).1
  have e1 : opFrom o = keeps o + drops o := by rw [opFrom, if_pos h1]
  have e2 : opTo o = keeps o + puts o := by rw [opTo, if_pos h1]
  exact ⟨h1, by rw [e1]; exact a, by rw [e2]; exact b, by omega, by omega⟩
theorem opOk_of {o : List Pt} (h1 : partsOk o = true) (h2 : from_ (units o) ≤ 200) (h3 : to_ (units o) ≤ 200) : opOk o = true := by
  obtain ⟨a, b⟩ := okParts_units (partsOk_all h1).1
  have e1 : opFrom o = keeps o + drops o := by rw [opFrom, if_pos h1]
  have e2 : opTo o = keeps o + puts o := by rw [opTo, if_pos h1]
  unfold opOk
  simp only [Bool.and_eq_true, decide_eq_true_eq]
  exact ⟨h1, by rw [e1, ← a]; omega, by rw [e2, ← b]; omega⟩
/-- All characters that units put are right ones. -/
def okU (us : List U) : Prop := ∀ c, some (some c) ∈ us → signOk c = true
theorem okU.append {a b : List U} (h : okU a) (k : okU b) : okU (a ++ b) := fun c hc => by
  rcases List.mem_append.1 hc with hc | hc
  · exact h c hc
  · exact k c hc
theorem okU_parts {o : List Pt} (h : ∀ p ∈ o, partOk p = true) : okU (units o) := by
  intro c hc
  simp only [units, List.mem_flatMap] at hc
  obtain ⟨p, hp, hc⟩ := hc
  rcases partOk_cases (h p hp) with ⟨h1, h2, h3, h4⟩ | ⟨h1, h2, h3, h4⟩ | ⟨h1, h2, h3, h4⟩
  · simp [unitsP, h1] at hc
  · simp [unitsP, h1] at hc
  · simp [unitsP, h1] at hc
    unfold signsOk at h4
    exact List.all_eq_true.1 h4 c hc
theorem goodP_units {p : Pt} (h : GoodP p) : 1 ≤ from_ (unitsP p) + to_ (unitsP p) := by
  rcases h with ⟨h1, h2, h3⟩ | ⟨h1, h2, h3⟩ | ⟨h1, h2, h3⟩
  · simp [unitsP, h1, from_keeps, to_keeps]; omega
  · simp [unitsP, h1, from_drops, to_drops]; omega
  · have : p.signs.length ≠ 0 := by simpa using h3
    simp [unitsP, h1, from_puts, to_puts]; omega
theorem good_len {l : List Pt} (h : Good l) : l.length ≤ from_ (units l) + to_ (units l) := by
  induction l with
  | nil => simp
  | cons p l ih =>
    have h1 := goodP_units (h p (by simp))
    have h2 := ih fun q hq => h q (by simp [hq])
    rw [units_cons, from_append, to_append, List.length_cons]
    omega
theorem unitsP_le {l : List Pt} {p : Pt} (h : p ∈ l) : from_ (unitsP p) ≤ from_ (units l) ∧ to_ (unitsP p) ≤ to_ (units l) ∧ ∀ u ∈ unitsP p, u ∈ units l := by
  obtain ⟨a, b, rfl⟩ := List.append_of_mem h
  rw [units_append, units_cons]
  simp only [from_append, to_append, List.mem_append]
  exact ⟨by omega, by omega, fun u hu => .inr (.inl hu)⟩
theorem good_partOk {l : List Pt} (h : Good l) (hu : okU (units l)) (h1 : from_ (units l) ≤ 200) (h2 : to_ (units l) ≤ 200) : ∀ p ∈ l, partOk p = true := by
  intro p hp
  obtain ⟨f1, f2, f3⟩ := unitsP_le hp
  rcases h p hp with ⟨g1, g2, g3⟩ | ⟨g1, g2, g3⟩ | ⟨g1, g2, g3⟩
  · have : from_ (unitsP p) = p.n.toNat := by simp [unitsP, g1, from_keeps]
    exact partOk_of (.inl ⟨g1, by omega, by omega, g3⟩)
  · have : from_ (unitsP p) = p.n.toNat := by simp [unitsP, g1, from_drops]
    exact partOk_of (.inr (.inl ⟨g1, by omega, by omega, g3⟩))
  · have : to_ (unitsP p) = p.signs.length := by simp [unitsP, g1, to_puts]
    refine partOk_of (.inr (.inr ⟨g1, g2, by omega, ?_⟩))
    unfold signsOk
    refine List.all_eq_true.2 fun c hc => hu c (f3 _ ?_)
    simp [unitsP, g1]
    exact hc
theorem good_opOk {l : List Pt} (h : Good l) (hu : okU (units l)) (h1 : from_ (units l) ≤ 200) (h2 : to_ (units l) ≤ 200) : opOk l = true :=
  opOk_of (partsOk_of (good_partOk h hu h1 h2) (by have := good_len h; omega)) h1 h2
/-- When units make a right operation. -/
theorem opOk_grp {us : List U} (hu : okU us) : opOk (grp us) = (decide (from_ us ≤ 200) && decide (to_ us ≤ 200)) := by
  have hs := units_grp us
  have e1 := hs.from_
  have e2 := hs.to_
  by_cases h : from_ us ≤ 200 ∧ to_ us ≤ 200
  · rw [good_opOk (good_grp us) (fun c hc => hu c ((hs.mem _).1 hc)) (by omega) (by omega)]
    simp [h.1, h.2]
  · have : opOk (grp us) = false := by
      rw [Bool.eq_false_iff]
      intro hh
      obtain ⟨_, _, _, h1, h2⟩ := opOk_units hh
      omega
    rw [this]
    symm
    simp only [Bool.and_eq_false_iff, decide_eq_false_iff_not]
    omega
theorem ok_norm {o : List Pt} (h : opOk o = true) : norm o = grp (units o) := norm_grp fun p hp => ok_n ((partsOk_all (opOk_units h).1).1 p hp)
theorem ok_okU {o : List Pt} (h : opOk o = true) : okU (units o) := okU_parts (partsOk_all (opOk_units h).1).1
/-- The normal form of a right operation is one, on the same texts. -/
theorem opOk_norm {o : List Pt} (h : opOk o = true) : opOk (norm o) = true := by
  obtain ⟨_, _, _, h1, h2⟩ := opOk_units h
  rw [ok_norm h, opOk_grp (ok_okU h)]
  simp [h1, h2]
theorem opFrom_norm {o : List Pt} (h : opOk o = true) : opFrom (norm o) = opFrom o ∧ opTo (norm o) = opTo o := by
  obtain ⟨_, a1, a2, _, _⟩ := opOk_units h
  obtain ⟨_, b1, b2, _, _⟩ := opOk_units (opOk_norm h)
  have hs := units_grp (units o)
  rw [← ok_norm h] at hs
  have e1 := hs.from_
  have e2 := hs.to_
  omega

theorem app_keeps (n : Nat) (us : List U) (t : List Int) : app (List.replicate n none ++ us) t = t.take n ++ app us (t.drop n) := by
  induction n generalizing t with
  | zero => simp
  | succ n ih =>
    rw [List.replicate_succ, List.cons_append, app, ih]
    cases t with
    | nil => simp
    | cons x t => simp
theorem app_drops (n : Nat) (us : List U) (t : List Int) : app (List.replicate n (some none) ++ us) t = app us (t.drop n) := by
  induction n generalizing t with
  | zero => simp
  | succ n ih =>
    rw [List.replicate_succ, List.cons_append, app, ih]
    simp
theorem app_puts (l : List Int) (us : List U) (t : List Int) : app ((l.map fun c => some (some c)) ++ us) t = l ++ app us t := by
  induction l with
  | nil => simp
  | cons c l ih => simp [app, ih]
theorem app_unitsP (p : Pt) (us : List U) (t : List Int) : app (unitsP p ++ us) t = if p.kind = 1 then t.take p.n.toNat ++ app us (t.drop p.n.toNat) else if p.kind = 2 then p.signs ++ app us t else app us (t.drop p.n.toNat) := by
  rw [unitsP]
  split
  · exact app_keeps _ _ _
  · split
    · exact app_puts _ _ _
    · exact app_drops _ _ _
end Go.Proofs.YtookcfpiegbafaaGreatDoor.Pl
