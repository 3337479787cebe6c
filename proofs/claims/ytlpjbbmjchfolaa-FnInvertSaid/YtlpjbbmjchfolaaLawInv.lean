/- The plain law of taking back. No program in sight. No condition. -/
import Derived.Test.YtlpjbbmjchfolaaLaw
import Derived.Test.YtlpjbbmjchfolaaInvert
import Derived.Test.YtlpjbbmjchfolaaSame
namespace Go.Proofs.Ytlpjbbmjchfolaa
namespace Pl
/-- The units that take units back. -/
def iu : List U → List Int → List U
  | [], _ => []
  | none :: u, t => none :: iu u (t.drop 1)
  | some none :: u, t => (match t with | [] => [] | c :: _ => [some (some c)]) ++ iu u (t.drop 1)
  | some (some _) :: u, t => some none :: iu u t
theorem iu_append (a b : List U) : ∀ t : List Int, iu (a ++ b) t = iu a t ++ iu b (t.drop (from_ a)) := by
  induction a with
  | nil => intro t; simp [iu, from_]
  | cons u a ih => intro t; rcases u with _ | _ | c <;> simp [iu, from_, ih]
theorem iu_keeps (n : Nat) (t : List Int) : iu (List.replicate n none) t = List.replicate n none := by
  induction n generalizing t with
  | zero => rfl
  | succ n ih => rw [List.replicate_succ, iu, ih]
theorem iu_puts (l : List Int) (t : List Int) : iu (l.map fun c => some (some c)) t = List.replicate l.length (some none) := by
  induction l with
  | nil => rfl
  | cons c l ih => simp only [List.map_cons, iu, ih, List.length_cons, List.replicate_succ]
theorem iu_drops (n : Nat) : ∀ t : List Int, n ≤ t.length → iu (List.replicate n (some none)) t = (t.take n).map fun c => some (some c) := by
  induction n with
  | zero => intro t _; rfl
  | succ n ih =>
    intro t h
    cases t with
    | nil => simp at h
    | cons c t => simp only [List.replicate_succ, iu, List.drop_succ_cons, List.drop_zero, List.take_succ_cons, List.map_cons, ih t (by simpa using h)]; rfl
/-- Units that are taken back and units in another order. -/
theorem sw_iu {a b : List U} (h : Sw a b) (t : List Int) (hl : from_ a ≤ t.length) : Sw (iu a t) (iu b t) :=
  (h.ind (fun x y => from_ x = from_ y ∧ ∀ t : List Int, from_ x ≤ t.length → Sw (iu x t) (iu y t)) (fun x => ⟨rfl, fun _ _ => Sw.refl _⟩) (fun x y k => ⟨k.1.symm, fun t ht => (k.2 t (by rw [k.1]; exact ht)).symm⟩)
    (fun x y z k l => ⟨k.1.trans l.1, fun t ht => (k.2 t ht).trans (l.2 t (by rw [← k.1]; exact ht))⟩) fun x y c => ⟨by simp [from_append, from_], fun t ht => by
      rw [iu_append, iu_append]
      refine Sw.left _ ?_
      simp only [iu]
      rw [from_append] at ht
      have h0 : 0 < (t.drop (from_ x)).length := by simp [from_] at ht ⊢; omega
      cases hd : t.drop (from_ x) with
      | nil => rw [hd] at h0; simp at h0
      | cons d l => simpa using (Sw.swap [] (iu y l) d).symm⟩).2 t hl
/-- What was done is taken back. -/
theorem app_iu (us : List U) : ∀ t : List Int, t.length = from_ us → app (iu us t) (app us t) = t ∧ from_ (iu us t) = to_ us ∧ to_ (iu us t) = from_ us := by
  induction us with
  | nil => intro t h; simp [from_] at h; subst h; exact ⟨rfl, rfl, rfl⟩
  | cons u us ih =>
    intro t h
    rcases u with _ | _ | c
    · cases t with
      | nil => simp [from_] at h
      | cons d t =>
        obtain ⟨a, b, e⟩ := ih t (by simpa [from_] using h)
        simp [iu, app, from_, to_, a, b, e]
    · cases t with
      | nil => simp [from_] at h
      | cons d t =>
        obtain ⟨a, b, e⟩ := ih t (by simpa [from_] using h)
        simp [iu, app, from_, to_, a, b, e]
    · obtain ⟨a, b, e⟩ := ih t (by simpa [from_] using h)
      simp [iu, app, from_, to_, a, b, e]
/-- And what is taken back is done again. -/
theorem iu_iu (us : List U) : ∀ t : List Int, t.length = from_ us → iu (iu us t) (app us t) = us := by
  induction us with
  | nil => intro t _; rfl
  | cons u us ih =>
    intro t h
    rcases u with _ | _ | c
    · cases t with
      | nil => simp [from_] at h
      | cons d t => simp [iu, app, ih t (by simpa [from_] using h)]
    · cases t with
      | nil => simp [from_] at h
      | cons d t => simp [iu, app, ih t (by simpa [from_] using h)]
    · simp [iu, app, ih t (by simpa [from_] using h)]
theorem units_invL (o : List Pt) : ∀ t : List Int, (∀ p ∈ o, partOk p = true) → from_ (units o) ≤ t.length → units (invL o t) = iu (units o) t := by
  induction o with
  | nil => intro t _ _; rfl
  | cons p o ih =>
    intro t h hl
    have hl' := hl
    rw [units_cons, from_append] at hl'
    have io := fun t' => ih t' fun q hq => h q (by simp [hq])
    rw [invL, units_cons, iu_append]
    rcases partOk_cases (h p (by simp)) with ⟨k, n0, n1, e⟩ | ⟨k, n0, n1, e⟩ | ⟨k, e, n1, s⟩
    · rw [if_pos k]
      have hu : unitsP p = List.replicate p.n.toNat none := by rw [unitsP, if_pos k]
      rw [hu] at hl' ⊢
      rw [from_keeps] at hl' ⊢
      rw [units_cons, hu, io _ (by rw [List.length_drop]; omega), show iu (List.replicate p.n.toNat none) t = List.replicate p.n.toNat none from iu_keeps _ t]
    · rw [if_neg (by omega), if_neg (by omega)]
      have hu : unitsP p = List.replicate p.n.toNat (some none) := by rw [unitsP, if_neg (by omega), if_neg (by omega)]
      rw [hu] at hl' ⊢
      rw [from_drops] at hl' ⊢
      rw [units_cons, io _ (by rw [List.length_drop]; omega), iu_drops _ _ (by omega)]
      rfl
    · rw [if_neg (by omega), if_pos k]
      have hu : unitsP p = p.signs.map fun c => some (some c) := by rw [unitsP, if_neg (by omega), if_pos k]
      rw [hu] at hl' ⊢
      rw [from_puts] at hl' ⊢
      rw [units_cons, io _ (by omega), iu_puts]
      simp [unitsP]
theorem inv_grp {o : List Pt} {t : List Int} (h : fits o t = true) : invert o t = grp (units (invert o t)) := by
  have hok := inv_opOk h
  have e : invert o t = norm (invL (norm o) t) := by rw [invert, if_pos h]
  rw [e, ok_norm hok]
  exact ((units_grp _).grp).symm
/-- Taking back. -/
theorem Op.invert {o : List Pt} {n m : Nat} (h : Op o n m) {t : List Int} (ht : Tx t n) :
    Op (Pl.invert o t) m n ∧ Sw (units (Pl.invert o t)) (iu (units o) t) ∧ app (units (Pl.invert o t)) (app (units o) t) = t ∧ Pl.invert (Pl.invert o t) (app (units o) t) = Pl.norm o ∧ fits o t = true := by
  obtain ⟨hf, _, hp⟩ := h.apply ht
  obtain ⟨hn, _⟩ := h.norm
  have hfr : from_ (units o) = t.length := by rw [h.fr, ht.len]
  obtain ⟨a1, a2, a3⟩ := app_iu (units o) t hfr.symm
  have go : ∀ {o : List Pt} {n m : Nat} {t : List Int}, Op o n m → Tx t n → fits o t = true → Op (Pl.invert o t) m n ∧ Sw (units (Pl.invert o t)) (iu (units o) t) := by
    intro o n m t h ht hf
    obtain ⟨hn, _⟩ := h.norm
    have hfr : from_ (units o) = t.length := by rw [h.fr, ht.len]
    obtain ⟨a1, a2, a3⟩ := app_iu (units o) t hfr.symm
    have e0 : Pl.invert o t = Pl.norm (invL (Pl.norm o) t) := by rw [Pl.invert, if_pos hf]
    have ho := inv_opOk hf
    have e1 : units (invL (Pl.norm o) t) = iu (units (Pl.norm o)) t := units_invL _ _ hn.parts (by rw [hn.fr, ht.len]; exact Nat.le_refl _)
    have s1 : Sw (units (Pl.norm o)) (units o) := by rw [ok_norm h.ok]; exact units_grp _
    have s2 := sw_iu s1 t (by rw [hn.fr, ht.len]; exact Nat.le_refl _)
    have op1 : Op (invL (Pl.norm o) t) m n := ⟨ho, by rw [e1, s2.from_, a2, h.to], by rw [e1, s2.to_, a3, h.fr]⟩
    refine ⟨by rw [e0]; exact op1.norm.1, ?_⟩
    rw [e0, ok_norm ho]
    exact (units_grp _).trans (by rw [e1]; exact s2)
  obtain ⟨g1, g2⟩ := go h ht hf
  refine ⟨g1, g2, by rw [g2.app]; exact a1, ?_, hf⟩
  obtain ⟨k1, _, _⟩ := g1.apply hp
  obtain ⟨j1, j2⟩ := go g1 hp k1
  -- the units of the second taking back
  have s3 : Sw (units (Pl.invert (Pl.invert o t) (app (units o) t))) (units o) := by
    refine j2.trans ?_
    have := sw_iu g2 (app (units o) t) (by rw [g1.fr, hp.len]; exact Nat.le_refl _)
    rw [iu_iu _ _ hfr.symm] at this
    exact this
  have e2 := inv_grp k1
  rw [e2, s3.grp, ok_norm h.ok]
end Pl
end Go.Proofs.Ytlpjbbmjchfolaa
