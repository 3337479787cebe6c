/- The plain law of many operations that are put together. No program in sight. No condition. -/
import Derived.Test.YtlpjbbmjchfolaaLaw
import Derived.Test.YtlpjbbmjchfolaaMakeList
import Derived.Test.YtlpjbbmjchfolaaComposeAll
import Derived.Test.YtlpjbbmjchfolaaApplyAll
namespace Go.Proofs.Ytlpjbbmjchfolaa
namespace Pl
def appL : List (List Pt) → List Int → List Int
  | [], t => t
  | o :: l, t => appL l (app (units o) t)
theorem keeping_op {n : Nat} (h : n ≤ 8) : Op (keeping n) n n ∧ isNorm (keeping n) = true ∧ ∀ t : List Int, t.length = n → app (units (keeping n)) t = t := by
  have hd : ∀ k : Fin 9, opOk (keeping ((k : Nat) : Int)) = true ∧ isNorm (keeping ((k : Nat) : Int)) = true := by decide +kernel
  obtain ⟨h1, h2⟩ := hd ⟨n, by omega⟩
  have hu : units (keeping n) = List.replicate n none := by
    unfold keeping
    split
    · simp [units, unitsP]
    · obtain rfl : n = 0 := by omega
      rfl
  refine ⟨⟨h1, by rw [hu]; exact from_keeps n, by rw [hu]; exact to_keeps n⟩, h2, fun t ht => ?_⟩
  rw [hu]
  have := app_keeps n [] t
  rw [List.append_nil] at this
  rw [this, app, List.append_nil, List.take_of_length_le (by omega)]
theorem cap_law {os : List (List Pt)} : ∀ {N k M : Nat} {c : List Pt}, Op c N k → isNorm c = true → Chain k os M →
    capOk os c = true ∧ Op (capL os c) N M ∧ isNorm (capL os c) = true ∧ ∀ t, Tx t N → app (units (capL os c)) t = appL os (app (units c) t) := by
  induction os with
  | nil =>
    intro N k M c hc hn h
    simp only [Chain] at h
    subst h
    exact ⟨rfl, hc, hn, fun _ _ => rfl⟩
  | cons o os ih =>
    intro N k M c hc hn h
    obtain ⟨j, ho, hj⟩ := h
    obtain ⟨a1, a2, a3, a4, a5⟩ := hc.compose ho
    obtain ⟨b1, b2, b3, b4⟩ := ih a3 a4 hj
    refine ⟨by rw [capOk, a1, a2, b1]; rfl, by rw [capL, a2]; exact b2, by rw [capL, a2]; exact b3, fun t ht => ?_⟩
    rw [capL, a2, b4 t ht, hc.composeApp ho ht, appL]
theorem all_law {os : List (List Pt)} : ∀ {k M : Nat} {t : List Int}, Chain k os M → Tx t k → allOk os t = true ∧ allL os t = appL os t ∧ Tx (appL os t) M := by
  induction os with
  | nil =>
    intro k M t h ht
    simp only [Chain] at h
    subst h
    exact ⟨rfl, rfl, ht⟩
  | cons o os ih =>
    intro k M t h ht
    obtain ⟨j, ho, hj⟩ := h
    obtain ⟨a1, a2, a3⟩ := ho.apply ht
    obtain ⟨b1, b2, b3⟩ := ih hj a3
    refine ⟨by rw [allOk, a1, a2, b1]; rfl, by rw [allL, a2, b2, appL], by rw [appL]; exact b3⟩
/-- Many operations are one. -/
theorem Chain.law {os : List (List Pt)} {M : Nat} {t : List Int} (h : Chain t.length os M) (hs : signsOk t = true) (hl : t.length ≤ 8) :
    composeAllOk os t.length = true ∧ Op (composeAll os t.length) t.length M ∧ isNorm (composeAll os t.length) = true ∧ applyAllOk os t = true ∧ applyAll os t = appL os t ∧
    fits (composeAll os t.length) t = true ∧ apply (composeAll os t.length) t = appL os t ∧ (appL os t).length ≤ 200 := by
  have ht : Tx t t.length := ⟨hs, rfl⟩
  obtain ⟨k1, k2, k3⟩ := keeping_op hl
  obtain ⟨a1, a2, a3, a4⟩ := cap_law k1 k2 h
  obtain ⟨b1, b2, b3⟩ := all_law h ht
  have c1 : composeAllOk os t.length = true := by
    rw [composeAllOk, a1]
    simp
    omega
  have c2 : composeAll os t.length = capL os (keeping t.length) := by rw [composeAll, if_pos c1]
  have d1 : applyAllOk os t = true := by rw [applyAllOk, b1, ht.textOk (by omega)]; rfl
  have d2 : applyAll os t = appL os t := by rw [applyAll, if_pos d1, b2]
  obtain ⟨e1, e2, e3⟩ := a2.apply ht
  rw [a4 t ht, k3 t rfl] at e2 e3
  exact ⟨c1, by rw [c2]; exact a2, by rw [c2]; exact a3, d1, d2, by rw [c2]; exact e1, by rw [c2]; exact e2, by have := e3.len; have := a2.le.2; omega⟩
/-- Whichever are put together first. -/
theorem three {a b c : List Pt} {n m k j : Nat} (ha : Op a n m) (hb : Op b m k) (hc : Op c k j) :
    cmpOk a b = true ∧ cmpOk (cmpL a b) c = true ∧ cmpOk b c = true ∧ cmpOk a (cmpL b c) = true ∧ compose a b = cmpL a b ∧ compose b c = cmpL b c ∧
    compose (cmpL a b) c = compose a (cmpL b c) := by
  obtain ⟨x1, x2, x3, _⟩ := ha.compose hb
  obtain ⟨y1, y2, y3, _⟩ := hb.compose hc
  obtain ⟨z1, z2, _⟩ := x3.compose hc
  obtain ⟨w1, w2, _⟩ := ha.compose y3
  refine ⟨x1, z1, y1, w1, x2, y2, ?_⟩
  rw [z2, w2]
  have s1 : Sw (units (cmpL a b)) (cmp (units a) (units b)) := units_grp _
  have s2 : Sw (units (cmpL b c)) (cmp (units b) (units c)) := units_grp _
  have e1 : cmpL (cmpL a b) c = Pl.grp (cmp (cmp (units a) (units b)) (units c)) := (s1.cmp_left (units c)).grp
  have e2 : cmpL a (cmpL b c) = Pl.grp (cmp (units a) (cmp (units b) (units c))) := (Sw.cmp_right (units a) s2).grp
  rw [e1, e2, cmp_assoc _ _ _ (by rw [ha.to, hb.fr]) (by rw [hb.to, hc.fr])]
end Pl
end Go.Proofs.Ytlpjbbmjchfolaa
