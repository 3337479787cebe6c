/- The plain law of what operations do to a text. No program in sight. No condition. -/
import Derived.Test.YtookcfpiegbafaaGreatDoorApply
import Derived.Test.YtookcfpiegbafaaGreatDoorGA
namespace Go.Proofs.YtookcfpiegbafaaGreatDoor
namespace Pl

theorem applyL_app (o : List Pt) : ∀ t : List Int, applyL o t = app (units o) t := by
  induction o with
  | nil => intro t; simp [applyL, units, app]
  | cons p o ih =>
    intro t
    rw [applyL, units_cons, app_unitsP, ih, ih]
/-- A right text of so many characters. -/
structure Tx (t : List Int) (n : Nat) : Prop where
  ok : signsOk t = true
  len : t.length = n
/-- A right operation from so many characters to so many. -/
structure Op (o : List Pt) (n m : Nat) : Prop where
  ok : opOk o = true
  fr : from_ (units o) = n
  to : to_ (units o) = m
theorem Op.of {o : List Pt} (h : opOk o = true) : Op o (from_ (units o)) (to_ (units o)) := ⟨h, rfl, rfl⟩
theorem Op.opFrom {o : List Pt} {n m : Nat} (h : Op o n m) : opFrom o = n ∧ opTo o = m := by
  obtain ⟨_, a, b, _, _⟩ := opOk_units h.ok
  have := h.fr
  have := h.to
  omega
theorem Op.le {o : List Pt} {n m : Nat} (h : Op o n m) : n ≤ 200 ∧ m ≤ 200 := by
  obtain ⟨_, _, _, a, b⟩ := opOk_units h.ok
  have := h.fr
  have := h.to
  omega
theorem Op.parts {o : List Pt} {n m : Nat} (h : Op o n m) : ∀ p ∈ o, partOk p = true := (partsOk_all (opOk_units h.ok).1).1
theorem Op.okU {o : List Pt} {n m : Nat} (h : Op o n m) : okU (units o) := okU_parts h.parts
theorem Op.mk' {o : List Pt} {n : Int} (h : opOk o = true) (hf : Pl.opFrom o = n) {k : Nat} (hk : n = k) : Op o k (to_ (units o)) := by
  obtain ⟨_, a, b, _, _⟩ := opOk_units h
  exact ⟨h, by omega, rfl⟩
theorem okU_app (us : List U) : ∀ t : List Int, okU us → signsOk t = true → signsOk (app us t) = true := by
  induction us with
  | nil => intro t _ _; simp [app, signsOk]
  | cons u us ih =>
    intro t hu ht
    have hu' : Pl.okU us := fun c hc => hu c (by simp [hc])
    have hd : signsOk (t.drop 1) = true := by
      unfold signsOk at ht ⊢
      exact List.all_eq_true.2 fun x hx => List.all_eq_true.1 ht x (List.drop_subset _ _ hx)
    rcases u with _ | _ | c
    · rw [app]
      have := ih (t.drop 1) hu' hd
      unfold signsOk at this ht ⊢
      rw [List.all_append, this, Bool.and_true]
      exact List.all_eq_true.2 fun x hx => List.all_eq_true.1 ht x (List.take_subset _ _ hx)
    · rw [app]; exact ih _ hu' hd
    · rw [app]
      have := ih t hu' ht
      unfold signsOk at this ⊢
      rw [List.all_cons, this, Bool.and_true]
      exact hu c (by simp)
theorem Tx.textOk {t : List Int} {n : Nat} (h : Tx t n) (hn : n ≤ 200) : textOk t = true := by
  unfold Pl.textOk
  rw [h.ok, Bool.and_true]
  have := h.len
  simp
  omega
/-- What an operation makes of a text. -/
theorem Op.apply {o : List Pt} {n m : Nat} {t : List Int} (h : Op o n m) (ht : Tx t n) : fits o t = true ∧ Pl.apply o t = app (units o) t ∧ Tx (app (units o) t) m := by
  have hf : fits o t = true := by
    unfold fits
    rw [h.ok, ht.textOk h.le.1, h.opFrom.1, ht.len]
    simp
  refine ⟨hf, by rw [Pl.apply, if_pos hf, applyL_app], okU_app _ _ h.okU ht.ok, ?_⟩
  rw [app_length _ _ (by rw [ht.len, h.fr]), h.to]
theorem Op.norm {o : List Pt} {n m : Nat} (h : Op o n m) : Op (Pl.norm o) n m ∧ ∀ t, app (units (Pl.norm o)) t = app (units o) t := by
  have e := ok_norm h.ok
  have sw := units_grp (units o)
  refine ⟨⟨opOk_norm h.ok, ?_, ?_⟩, fun t => ?_⟩
  · rw [e, sw.from_, h.fr]
  · rw [e, sw.to_, h.to]
  · rw [e, sw.app]
/-- A group of units is a right operation, in its normal form. -/
theorem Op.grp {us : List U} {n m : Nat} (hu : Pl.okU us) (h1 : from_ us = n) (h2 : to_ us = m) (hn : n ≤ 200) (hm : m ≤ 200) : Op (Pl.grp us) n m ∧ isNorm (Pl.grp us) = true ∧ ∀ t, app (units (Pl.grp us)) t = app us t := by
  have sw := units_grp us
  have ho : opOk (Pl.grp us) = true := by rw [opOk_grp hu]; simp; omega
  exact ⟨⟨ho, by rw [sw.from_, h1], by rw [sw.to_, h2]⟩, isNorm_grp ho, fun t => sw.app t⟩
/-- Composition. -/
theorem Op.compose {a b : List Pt} {n m k : Nat} (ha : Op a n m) (hb : Op b m k) : cmpOk a b = true ∧ Pl.compose a b = cmpL a b ∧ Op (cmpL a b) n k ∧ isNorm (cmpL a b) = true ∧ ∀ t, app (units (cmpL a b)) t = app (cmp (units a) (units b)) t := by
  obtain ⟨f, t⟩ := fromTo_cmp (units a) (units b) (by rw [ha.to, hb.fr])
  obtain ⟨g1, g2, g3⟩ := Op.grp (okU_cmp _ _ ha.okU hb.okU) (by rw [f, ha.fr]) (by rw [t, hb.to]) ha.le.1 hb.le.2
  have hc : cmpOk a b = true := by
    unfold cmpOk
    rw [ha.ok, hb.ok, ha.opFrom.2, hb.opFrom.1]
    simp
    exact g1.ok
  exact ⟨hc, by rw [Pl.compose, if_pos hc], g1, g2, g3⟩
theorem Op.composeApp {a b : List Pt} {n m k : Nat} (ha : Op a n m) (hb : Op b m k) {t : List Int} (ht : Tx t n) : app (units (cmpL a b)) t = app (units b) (app (units a) t) := by
  rw [(ha.compose hb).2.2.2.2 t, app_cmp _ _ _ (by rw [ht.len, ha.fr]) (by rw [ha.to, hb.fr])]
/-- Transformation. -/
theorem Op.trans {a b : List Pt} {n m k : Nat} (ha : Op a n m) (hb : Op b n k) (hs : m + k ≤ 200) : xfOk a b = true ∧ trans1 a b = xf1 a b ∧ trans2 a b = xf2 a b ∧
    ∃ j, j ≤ m + k ∧ Op (xf1 a b) k j ∧ Op (xf2 a b) m j ∧ isNorm (xf1 a b) = true ∧ isNorm (xf2 a b) = true ∧ ∀ t, Tx t n → app (units (xf2 a b)) (app (units a) t) = app (units (xf1 a b)) (app (units b) t) := by
  obtain ⟨f1, f2, f3, f4⟩ := fromTo_xf (units a) (units b) (by rw [ha.fr, hb.fr])
  obtain ⟨o1, o2⟩ := okU_xf _ _ ha.okU hb.okU
  have h1 := ha.fr
  have h2 := ha.to
  have h3 := hb.to
  obtain ⟨g1, g2, g3⟩ := Op.grp (n := k) (m := to_ (xf (units a) (units b)).1) o1 (by omega) rfl (by omega) (by omega)
  obtain ⟨k1, k2, k3⟩ := Op.grp (n := m) (m := to_ (xf (units a) (units b)).1) o2 (by omega) (by omega) (by omega) (by omega)
  have hc : xfOk a b = true := by
    unfold xfOk
    rw [ha.ok, hb.ok, ha.opFrom.1, hb.opFrom.1]
    simp
    exact ⟨g1.ok, k1.ok⟩
  refine ⟨hc, by rw [trans1, if_pos hc], by rw [trans2, if_pos hc], _, by omega, g1, k1, g2, k2, fun t ht => ?_⟩
  rw [show units (xf2 a b) = units (Pl.grp (xf (units a) (units b)).2) from rfl, show units (xf1 a b) = units (Pl.grp (xf (units a) (units b)).1) from rfl, k3, g3]
  exact app_xf _ _ _ (by rw [ht.len, ha.fr]) (by rw [ha.fr, hb.fr])
end Pl
end Go.Proofs.YtookcfpiegbafaaGreatDoor
