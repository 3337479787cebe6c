/- The plain law of the normal form: what the builder of parts makes of units. No program in sight. No condition. -/
import Derived.Test.YtookcfpiegbafaaGreatDoorUnits
namespace Go.Proofs.YtookcfpiegbafaaGreatDoor.Pl

/-- The units of a part. -/
def unitsP (p : Pt) : List U :=
  if p.kind = 1 then List.replicate p.n.toNat none else if p.kind = 2 then p.signs.map fun c => some (some c) else List.replicate p.n.toNat (some none)
def units (o : List Pt) : List U := o.flatMap unitsP
theorem units_append (a b : List Pt) : units (a ++ b) = units a ++ units b := by simp [units]
theorem units_cons (p : Pt) (o : List Pt) : units (p :: o) = unitsP p ++ units o := by simp [units]

/-- A builder: the parts so far, the characters and the number of drops that wait. -/
structure Bd where
  list : List Pt
  put : List Int
  drop : Int

def Bd.init : Bd := ⟨[], [], 0⟩
def flushL (b : Bd) : List Pt := b.list ++ ((if b.put = [] then [] else [⟨2, 0, b.put⟩]) ++ (if 0 < b.drop then [⟨3, b.drop, []⟩] else []))
def flush (b : Bd) : Bd := ⟨flushL b, [], 0⟩
def addKeep (l : List Pt) (n : Int) : List Pt :=
  match l.getLast? with
  | some p => if p.kind = 1 then l.dropLast ++ [⟨1, p.n + n, p.signs⟩] else l ++ [⟨1, n, []⟩]
  | none => [⟨1, n, []⟩]
def bKeep (b : Bd) (n : Int) : Bd := if n = 0 then b else ⟨addKeep (flushL b) n, [], 0⟩
def bPut (b : Bd) (l : List Int) : Bd := ⟨b.list, b.put ++ l, b.drop⟩
def bDrop (b : Bd) (n : Int) : Bd := ⟨b.list, b.put, b.drop + n⟩
def bPart (b : Bd) (p : Pt) : Bd := if p.kind = 1 then bKeep b p.n else if p.kind = 2 then bPut b p.signs else bDrop b p.n
def bU (b : Bd) : U → Bd
  | none => bKeep b 1
  | some none => bDrop b 1
  | some (some c) => bPut b [c]
def run (b : Bd) (us : List U) : Bd := us.foldl bU b
/-- The normal form of units. -/
def grp (us : List U) : List Pt := flushL (run Bd.init us)
/-- The normal form of parts. -/
def norm (o : List Pt) : List Pt := flushL (o.foldl bPart Bd.init)

theorem run_append (b : Bd) (x y : List U) : run b (x ++ y) = run (run b x) y := by simp [run]
theorem Sw.run {a b : List U} (h : Sw a b) (s : Bd) : run s a = run s b :=
  h.ind (fun x y => ∀ s, Pl.run s x = Pl.run s y) (fun _ _ => rfl) (fun _ _ h s => (h s).symm) (fun _ _ _ h k s => (h s).trans (k s)) (fun x y c s => by
    rw [run_append, run_append]
    rfl) s
theorem Sw.grp {a b : List U} (h : Sw a b) : grp a = grp b := by rw [Pl.grp, Pl.grp, h.run]

theorem addKeep_last (l : List Pt) (p : Pt) (n : Int) : addKeep (l ++ [p]) n = if p.kind = 1 then l ++ [⟨1, p.n + n, p.signs⟩] else l ++ [p] ++ [⟨1, n, []⟩] := by
  simp [addKeep]
theorem addKeep_snoc (l : List Pt) (n m : Int) : addKeep (addKeep l n) m = addKeep l (n + m) := by
  unfold addKeep
  rcases List.eq_nil_or_concat l with rfl | ⟨l, p, rfl⟩
  · simp
  · by_cases h : p.kind = 1
    · simp [h, Int.add_assoc]
    · simp [h]
theorem flushL_clean (l : List Pt) : flushL ⟨l, [], 0⟩ = l := by simp [flushL]
theorem bKeep_two (b : Bd) (n m : Int) (hn : 0 < n) (hm : 0 < m) : bKeep (bKeep b n) m = bKeep b (n + m) := by
  simp only [bKeep]
  rw [if_neg (by omega), if_neg (by omega), if_neg (by omega), flushL_clean, addKeep_snoc]
theorem run_keeps (b : Bd) (n : Nat) : run b (List.replicate n none) = bKeep b n := by
  induction n with
  | zero => simp [run, bKeep]
  | succ n ih =>
    rw [List.replicate_succ', run_append, ih]
    show bKeep (bKeep b n) 1 = _
    by_cases h : n = 0
    · subst h; simp [bKeep]
    · rw [bKeep_two _ _ _ (by omega) (by omega)]; rfl
theorem run_drops (b : Bd) (n : Nat) : run b (List.replicate n (some none)) = bDrop b n := by
  induction n with
  | zero => simp [run, bDrop]
  | succ n ih =>
    rw [List.replicate_succ', run_append, ih]
    show bDrop (bDrop b n) 1 = _
    simp [bDrop, Int.add_assoc]
theorem run_puts (b : Bd) (l : List Int) : run b (l.map fun c => some (some c)) = bPut b l := by
  induction l generalizing b with
  | nil => simp [run, bPut]
  | cons c l ih =>
    show run (bPut b [c]) (l.map fun c => some (some c)) = _
    rw [ih]
    simp [bPut]
theorem run_part (b : Bd) (p : Pt) (h : 0 ≤ p.n) : run b (unitsP p) = bPart b p := by
  unfold unitsP bPart
  split
  · rw [run_keeps]; congr 1; omega
  · split
    · exact run_puts _ _
    · rw [run_drops]; congr 1; omega
theorem run_parts (o : List Pt) : ∀ b : Bd, (∀ p ∈ o, 0 ≤ p.n) → run b (units o) = o.foldl bPart b := by
  induction o with
  | nil => intro b _; rfl
  | cons p o ih =>
    intro b h
    rw [units_cons, run_append, run_part b p (h p (by simp)), ih _ (fun q hq => h q (by simp [hq]))]
    rfl
theorem norm_grp {o : List Pt} (h : ∀ p ∈ o, 0 ≤ p.n) : norm o = grp (units o) := by rw [norm, grp, run_parts o _ h]

/-- What a builder stands for. -/
def su (b : Bd) : List U := units b.list ++ (b.put.map (fun c => some (some c)) ++ List.replicate b.drop.toNat (some none))
/-- A builder's parts are right ones. -/
def Bd.ok (b : Bd) : Prop := 0 ≤ b.drop ∧ ∀ p ∈ b.list, 0 ≤ p.n

theorem units_flushL (b : Bd) : units (flushL b) = su b := by
  rw [flushL, units_append, units_append, su]
  congr 1
  by_cases h : b.put = []
  · by_cases h2 : 0 < b.drop
    · simp [h, h2, units, unitsP]
    · simp [h, h2, units]; omega
  · by_cases h2 : 0 < b.drop
    · simp [h, h2, units, unitsP]
    · simp [h, h2, units, unitsP]; omega
theorem flushL_ok {b : Bd} (h : b.ok) : ∀ p ∈ flushL b, 0 ≤ p.n := by
  intro p hp
  rw [flushL, List.mem_append, List.mem_append] at hp
  rcases hp with hp | hp | hp
  · exact h.2 p hp
  · split at hp <;> simp at hp
    subst hp
    exact Int.le_refl 0
  · split at hp <;> simp at hp
    subst hp
    show 0 ≤ b.drop
    omega
theorem units_addKeep {l : List Pt} (h : ∀ p ∈ l, 0 ≤ p.n) : units (addKeep l 1) = units l ++ [none] ∧ ∀ p ∈ addKeep l 1, 0 ≤ p.n := by
  rcases List.eq_nil_or_concat l with rfl | ⟨l, p, rfl⟩
  · simp [addKeep, units, unitsP]
  · rw [List.concat_eq_append] at h ⊢
    have hp : 0 ≤ p.n := h p (by simp)
    rw [addKeep_last]
    by_cases hk : p.kind = 1
    · rw [if_pos hk]
      refine ⟨?_, ?_⟩
      · rw [units_append, units_append, List.append_assoc]
        congr 1
        simp only [units, List.flatMap_cons, List.flatMap_nil, List.append_nil, unitsP, hk, if_true]
        rw [show (p.n + 1).toNat = p.n.toNat + 1 by omega, List.replicate_succ']
      · intro q hq
        rcases List.mem_append.1 hq with hq | hq
        · exact h q (by simp [hq])
        · simp at hq; subst hq; show 0 ≤ p.n + 1; omega
    · rw [if_neg hk]
      refine ⟨?_, ?_⟩
      · rw [units_append]; simp [units, unitsP]
      · intro q hq
        rcases List.mem_append.1 hq with hq | hq
        · exact h q hq
        · simp at hq; subst hq; show (0 : Int) ≤ 1; omega
theorem sw_move (n : Nat) (c : Int) : Sw (List.replicate n (some none) ++ [some (some c)]) ([some (some c)] ++ List.replicate n (some none)) := by
  induction n with
  | zero => exact Sw.refl _
  | succ n ih =>
    rw [List.replicate_succ]
    exact (ih.cons _).trans (Sw.swap [] _ c)
theorem su_step {b : Bd} (h : b.ok) (u : U) : Sw (su (bU b u)) (su b ++ [u]) ∧ (bU b u).ok := by
  rcases u with _ | _ | c
  · obtain ⟨e, ho⟩ := units_addKeep (flushL_ok h)
    refine ⟨?_, ?_⟩
    · show Sw (su (bKeep b 1)) _
      rw [bKeep, if_neg (by decide), su]
      simp only [List.map_nil, Int.toNat_zero, List.replicate_zero, List.append_nil]
      rw [e, units_flushL]
      exact Sw.refl _
    · show (bKeep b 1).ok
      rw [bKeep, if_neg (by decide)]
      exact ⟨Int.le_refl 0, ho⟩
  · refine ⟨?_, ⟨by have := h.1; show 0 ≤ b.drop + 1; omega, h.2⟩⟩
    show Sw (su (bDrop b 1)) _
    have := h.1
    rw [bDrop, su, su, show (b.drop + 1).toNat = b.drop.toNat + 1 by omega, List.replicate_succ']
    simp only [List.append_assoc]
    exact Sw.refl _
  · refine ⟨?_, ⟨h.1, h.2⟩⟩
    show Sw (su (bPut b [c])) _
    rw [bPut, su, su, List.map_append]
    simp only [List.append_assoc]
    exact Sw.left _ (Sw.left _ (sw_move _ c).symm)
theorem su_run (us : List U) : ∀ {b : Bd}, b.ok → Sw (su (run b us)) (su b ++ us) ∧ (run b us).ok := by
  induction us with
  | nil => intro b h; exact ⟨by simp [run]; exact Sw.refl _, h⟩
  | cons u us ih =>
    intro b h
    obtain ⟨h1, h2⟩ := su_step h u
    obtain ⟨h3, h4⟩ := ih h2
    refine ⟨h3.trans ?_, h4⟩
    have := h1.right us
    simpa using this
theorem init_ok : Bd.init.ok := ⟨Int.le_refl 0, fun p hp => by simp [Bd.init] at hp⟩
/-- The normal form is the units, but for the order of drops and puts. -/
theorem units_grp (us : List U) : Sw (units (grp us)) us := by
  obtain ⟨h1, _⟩ := su_run us init_ok
  rw [grp, units_flushL]
  simpa [su, Bd.init, units] using h1
theorem grp_ok (us : List U) : ∀ p ∈ grp us, 0 ≤ p.n := flushL_ok (su_run us init_ok).2
theorem norm_grp_self (us : List U) : norm (grp us) = grp us := by
  rw [norm_grp (grp_ok us)]
  exact (units_grp us).grp
theorem norm_norm {o : List Pt} (h : ∀ p ∈ o, 0 ≤ p.n) : norm (norm o) = norm o := by
  rw [norm_grp h, norm_grp_self]
end Go.Proofs.YtookcfpiegbafaaGreatDoor.Pl
