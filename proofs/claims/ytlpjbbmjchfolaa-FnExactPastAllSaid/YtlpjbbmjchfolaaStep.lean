/- The plain law of one round of composition and of transformation. No program in sight. No condition. -/
import Derived.Test.YtlpjbbmjchfolaaChunk
namespace Go.Proofs.Ytlpjbbmjchfolaa.Pl

/-- The first part; its kind is 0 at the end. -/
def hd (q : List Pt) : Pt := q.headD ⟨0, 0, []⟩
/-- What is taken off a part, and what is left of it. -/
def tk (p : Pt) (n : Nat) : Pt := if p.kind = 2 then ⟨p.kind, p.n, p.signs.take n⟩ else ⟨p.kind, n, p.signs⟩
def lf (p : Pt) (n : Nat) : Pt := if p.kind = 2 then ⟨p.kind, p.n, p.signs.drop n⟩ else ⟨p.kind, p.n - n, p.signs⟩

abbrev AllOk (q : List Pt) : Prop := ∀ p ∈ q, partOk p = true

theorem tk_ok {p : Pt} {n : Nat} (h : partOk p = true) (hn : (n : Int) ≤ size p) : partOk (tk p n) = true := by
  unfold size at hn
  rcases partOk_cases h with ⟨h1, h2, h3, h4⟩ | ⟨h1, h2, h3, h4⟩ | ⟨h1, h2, h3, h4⟩
  · rw [h4] at hn; simp at hn
    refine partOk_of (.inl ?_); simp [tk, h1, h4]; omega
  · rw [h4] at hn; simp at hn
    refine partOk_of (.inr (.inl ?_)); simp [tk, h1, h4]; omega
  · refine partOk_of (.inr (.inr ?_))
    simp only [tk, h1, if_true, h2]
    refine ⟨trivial, trivial, by rw [List.length_take]; omega, ?_⟩
    unfold signsOk at h4 ⊢
    exact List.all_eq_true.2 fun x hx => List.all_eq_true.1 h4 x (List.take_subset _ _ hx)
theorem lf_ok {p : Pt} {n : Nat} (h : partOk p = true) (hn : (n : Int) ≤ size p) : partOk (lf p n) = true := by
  unfold size at hn
  rcases partOk_cases h with ⟨h1, h2, h3, h4⟩ | ⟨h1, h2, h3, h4⟩ | ⟨h1, h2, h3, h4⟩
  · rw [h4] at hn; simp at hn
    refine partOk_of (.inl ?_); simp [lf, h1, h4]; omega
  · rw [h4] at hn; simp at hn
    refine partOk_of (.inr (.inl ?_)); simp [lf, h1, h4]; omega
  · refine partOk_of (.inr (.inr ?_))
    simp only [lf, h1, if_true, h2]
    refine ⟨trivial, trivial, by rw [List.length_drop]; omega, ?_⟩
    unfold signsOk at h4 ⊢
    exact List.all_eq_true.2 fun x hx => List.all_eq_true.1 h4 x (List.drop_subset _ _ hx)
theorem size_nat {p : Pt} (h : partOk p = true) : 0 ≤ size p ∧ size p ≤ 200 := by
  unfold size
  rcases partOk_cases h with ⟨h1, h2, h3, h4⟩ | ⟨h1, h2, h3, h4⟩ | ⟨h1, h2, h3, h4⟩
  · rw [h4]; simp; omega
  · rw [h4]; simp; omega
  · omega
theorem unitsP_len {p : Pt} (h : partOk p = true) : ((unitsP p).length : Int) = size p := by
  unfold size unitsP
  rcases partOk_cases h with ⟨h1, h2, h3, h4⟩ | ⟨h1, h2, h3, h4⟩ | ⟨h1, h2, h3, h4⟩
  · simp [h1, h4]; omega
  · simp [h1, h4]; omega
  · simp [h1, h2]
theorem size_2 {p : Pt} (h : partOk p = true) (k : p.kind = 2) : size p = p.signs.length := by
  unfold size
  rcases partOk_cases h with ⟨h1, h2, h3, h4⟩ | ⟨h1, h2, h3, h4⟩ | ⟨h1, h2, h3, h4⟩ <;> omega
theorem size_13 {p : Pt} (h : partOk p = true) (k : p.kind ≠ 2) : size p = p.n := by
  unfold size
  rcases partOk_cases h with ⟨h1, h2, h3, h4⟩ | ⟨h1, h2, h3, h4⟩ | ⟨h1, h2, h3, h4⟩
  · simp [h4]
  · simp [h4]
  · omega
/-- The units of a part, by its kind. -/
theorem unitsP_1 {p : Pt} (k : p.kind = 1) : unitsP p = ks p.n.toNat := by simp [unitsP, k]
theorem unitsP_2 {p : Pt} (k : p.kind = 2) : unitsP p = pus p.signs := by simp [unitsP, k]
theorem unitsP_3 {p : Pt} (k : p.kind = 3) : unitsP p = ds p.n.toNat := by simp [unitsP, k]
theorem tk_kind (p : Pt) (n : Nat) : (tk p n).kind = p.kind := by unfold tk; split <;> rfl
theorem lf_kind (p : Pt) (n : Nat) : (lf p n).kind = p.kind := by unfold lf; split <;> rfl
theorem tk_1 {p : Pt} (k : p.kind = 1) (n : Nat) : unitsP (tk p n) = ks n := by rw [unitsP_1 (by rw [tk_kind]; exact k)]; simp [tk, k]
theorem tk_3 {p : Pt} (k : p.kind = 3) (n : Nat) : unitsP (tk p n) = ds n := by rw [unitsP_3 (by rw [tk_kind]; exact k)]; simp [tk, k]
theorem tk_2 {p : Pt} (k : p.kind = 2) (n : Nat) : unitsP (tk p n) = pus (p.signs.take n) := by rw [unitsP_2 (by rw [tk_kind]; exact k)]; simp [tk, k]
theorem unitsP_cut {p : Pt} {n : Nat} (h : partOk p = true) (hn : (n : Int) ≤ size p) : unitsP p = unitsP (tk p n) ++ unitsP (lf p n) := by
  unfold size at hn
  rcases partOk_cases h with ⟨h1, h2, h3, h4⟩ | ⟨h1, h2, h3, h4⟩ | ⟨h1, h2, h3, h4⟩
  · rw [h4] at hn; simp at hn
    rw [tk_1 h1, unitsP_1 h1, unitsP_1 (by rw [lf_kind]; exact h1), ks, ks, ks, List.replicate_append_replicate]
    congr 1; simp [lf, h1]; omega
  · rw [h4] at hn; simp at hn
    rw [tk_3 h1, unitsP_3 h1, unitsP_3 (by rw [lf_kind]; exact h1), ds, ds, ds, List.replicate_append_replicate]
    congr 1; simp [lf, h1]; omega
  · rw [tk_2 h1, unitsP_2 h1, unitsP_2 (by rw [lf_kind]; exact h1), pus, pus, pus, ← List.map_append]
    congr 1; simp [lf, h1]
theorem units_cut {p : Pt} {q : List Pt} {n : Nat} (h : partOk p = true) (hn : (n : Int) ≤ size p) : units (p :: q) = unitsP (tk p n) ++ units (lf p n :: q) := by
  rw [units_cons, units_cons, unitsP_cut h hn, List.append_assoc]
theorem cut_len {p : Pt} {q : List Pt} {n : Nat} (h : partOk p = true) (hn : (n : Int) ≤ size p) : (units (p :: q)).length = n + (units (lf p n :: q)).length := by
  rw [units_cut h hn, List.length_append]
  have := unitsP_len (tk_ok h hn)
  have e : size (tk p n) = n := by
    unfold size at hn ⊢
    rcases partOk_cases h with ⟨h1, h2, h3, h4⟩ | ⟨h1, h2, h3, h4⟩ | ⟨h1, h2, h3, h4⟩
    · simp [tk, h1, h4]
    · simp [tk, h1, h4]
    · simp [tk, h1, h2]; omega
  omega
theorem head_len {p : Pt} {q : List Pt} (h : partOk p = true) (hs : size p ≠ 0) : 1 ≤ size p ∧ 1 ≤ (units (p :: q)).length := by
  have h1 := unitsP_len h
  have h2 := size_nat h
  rw [units_cons, List.length_append]
  omega
theorem noD_of {q : List Pt} (h : AllOk q) (hs : skip q = q) (hk : (hd q).kind ≠ 3) : NoD (units q) := by
  cases q with
  | nil => exact .inl rfl
  | cons p q =>
    have hz := skip_head hs
    have hp := h p (by simp)
    have hk' : p.kind ≠ 3 := hk
    unfold size at hz
    rcases partOk_cases hp with ⟨h1, h2, h3, h4⟩ | ⟨h1, _⟩ | ⟨h1, h2, h3, h4⟩
    · rw [h4] at hz; simp at hz
      obtain ⟨m, hm⟩ : ∃ m, p.n.toNat = m + 1 := ⟨p.n.toNat - 1, by omega⟩
      exact .inr (.inl ⟨ks m ++ units q, by rw [units_cons, unitsP_1 h1, hm, ks, List.replicate_succ]; rfl⟩)
    · exact absurd h1 hk'
    · rw [h2] at hz
      obtain ⟨c, l, hl⟩ : ∃ c l, p.signs = c :: l := by
        rcases hx : p.signs with _ | ⟨c, l⟩
        · rw [hx] at hz; simp at hz
        · exact ⟨c, l, rfl⟩
      exact .inr (.inr ⟨c, pus l ++ units q, by rw [units_cons, unitsP_2 h1, hl]; rfl⟩)
theorem noP_of {q : List Pt} (h : AllOk q) (hs : skip q = q) (hk : (hd q).kind ≠ 2) : NoP (units q) := by
  cases q with
  | nil => exact .inl rfl
  | cons p q =>
    have hz := skip_head hs
    have hp := h p (by simp)
    have hk' : p.kind ≠ 2 := hk
    unfold size at hz
    rcases partOk_cases hp with ⟨h1, h2, h3, h4⟩ | ⟨h1, h2, h3, h4⟩ | ⟨h1, _⟩
    · rw [h4] at hz; simp at hz
      obtain ⟨m, hm⟩ : ∃ m, p.n.toNat = m + 1 := ⟨p.n.toNat - 1, by omega⟩
      exact .inr (.inl ⟨ks m ++ units q, by rw [units_cons, unitsP_1 h1, hm, ks, List.replicate_succ]; rfl⟩)
    · rw [h4] at hz; simp at hz
      obtain ⟨m, hm⟩ : ∃ m, p.n.toNat = m + 1 := ⟨p.n.toNat - 1, by omega⟩
      exact .inr (.inr ⟨ds m ++ units q, by rw [units_cons, unitsP_3 h1, hm, ds, List.replicate_succ]; rfl⟩)
    · exact absurd h1 hk'

theorem from_units1 {p : Pt} {q : List Pt} (h : partOk p = true) (hs : size p ≠ 0) (hk : p.kind ≠ 2) : 1 ≤ from_ (units (p :: q)) := by
  have := (noP_of (q := [p]) (fun x hx => by simp at hx; subst hx; exact h) (by simp [skip, hs]) hk)
  rw [units_cons, from_append]
  have e : units [p] = unitsP p := by simp [units]
  rw [e] at this
  rcases this with h1 | ⟨x, h1⟩ | ⟨x, h1⟩
  · have := unitsP_len h
    rw [h1] at this
    simp at this
    omega
  · rw [h1, from_]; omega
  · rw [h1, from_]; omega
theorem to_units1 {p : Pt} {q : List Pt} (h : partOk p = true) (hs : size p ≠ 0) (hk : p.kind ≠ 3) : 1 ≤ to_ (units (p :: q)) := by
  have := (noD_of (q := [p]) (fun x hx => by simp at hx; subst hx; exact h) (by simp [skip, hs]) hk)
  rw [units_cons, to_append]
  have e : units [p] = unitsP p := by simp [units]
  rw [e] at this
  rcases this with h1 | ⟨x, h1⟩ | ⟨c, x, h1⟩
  · have := unitsP_len h
    rw [h1] at this
    simp at this
    omega
  · rw [h1, to_]; omega
  · rw [h1, to_]; omega

/-- The state of a round of composition: what is left of both, behind the units so far. -/
structure CSt (a b : List U) (acc : List U) (q r : List Pt) : Prop where
  okq : AllOk q
  okr : AllOk r
  mid : to_ (units q) = from_ (units r)
  all : acc ++ cmp (units q) (units r) = cmp a b
/-- And of transformation. -/
structure XSt (a b : List U) (x y : List U) (q r : List Pt) : Prop where
  okq : AllOk q
  okr : AllOk r
  mid : from_ (units q) = from_ (units r)
  all1 : x ++ (xf (units q) (units r)).1 = (xf a b).1
  all2 : y ++ (xf (units q) (units r)).2 = (xf a b).2

theorem allOk_lf {p : Pt} {q : List Pt} {n : Nat} (h : AllOk (p :: q)) (hn : (n : Int) ≤ size p) : AllOk (lf p n :: q) := fun x hx => by
  rcases List.mem_cons.1 hx with rfl | hx
  · exact lf_ok (h p (by simp)) hn
  · exact h x (by simp [hx])
theorem CSt.skips {a b acc : List U} {q r : List Pt} (h : CSt a b acc q r) : CSt a b acc (skip q) (skip r) :=
  ⟨skip_ok h.okq, skip_ok h.okr, by rw [units_skip h.okq, units_skip h.okr]; exact h.mid, by rw [units_skip h.okq, units_skip h.okr]; exact h.all⟩
theorem XSt.skips {a b x y : List U} {q r : List Pt} (h : XSt a b x y q r) : XSt a b x y (skip q) (skip r) :=
  ⟨skip_ok h.okq, skip_ok h.okr, by rw [units_skip h.okq, units_skip h.okr]; exact h.mid, by rw [units_skip h.okq, units_skip h.okr]; exact h.all1, by rw [units_skip h.okq, units_skip h.okr]; exact h.all2⟩
theorem from_ks (n : Nat) : from_ (ks n) = n := from_keeps n
theorem to_ks (n : Nat) : to_ (ks n) = n := to_keeps n
theorem from_ds (n : Nat) : from_ (ds n) = n := from_drops n
theorem to_ds (n : Nat) : to_ (ds n) = 0 := to_drops n
theorem from_pus (l : List Int) : from_ (pus l) = 0 := from_puts l
theorem to_pus (l : List Int) : to_ (pus l) = l.length := to_puts l

theorem CSt.drop {a b acc : List U} {p : Pt} {q r : List Pt} {n : Nat} (h : CSt a b acc (p :: q) r) (hn : (n : Int) ≤ size p) (k : p.kind = 3) :
    CSt a b (acc ++ unitsP (tk p n)) (lf p n :: q) r := by
  have hp := h.okq p (by simp)
  have e := units_cut (q := q) hp hn
  have m := h.mid
  have al := h.all
  rw [e, tk_3 k] at m al
  rw [to_append, to_ds] at m
  rw [cmp_ds] at al
  exact ⟨allOk_lf h.okq hn, h.okr, by omega, by rw [tk_3 k, List.append_assoc]; exact al⟩
theorem CSt.put {a b acc : List U} {p : Pt} {q r : List Pt} {n : Nat} (h : CSt a b acc q (p :: r)) (hn : (n : Int) ≤ size p) (k : p.kind = 2) (hq : skip q = q) (hk : (hd q).kind ≠ 3) :
    CSt a b (acc ++ unitsP (tk p n)) q (lf p n :: r) := by
  have hp := h.okr p (by simp)
  have e := units_cut (q := r) hp hn
  have m := h.mid
  have al := h.all
  rw [e, tk_2 k] at m al
  rw [from_append, from_pus] at m
  rw [cmp_pus _ _ _ (noD_of h.okq hq hk)] at al
  exact ⟨h.okq, allOk_lf h.okr hn, by omega, by rw [tk_2 k, List.append_assoc]; exact al⟩
/-- What the common round of composition tells. -/
def cOut (p s : Pt) (n : Nat) : List U := if s.kind = 1 then unitsP (tk p n) else if p.kind = 1 then unitsP (tk s n) else []
theorem CSt.both {a b acc : List U} {p s : Pt} {q r : List Pt} {n : Nat} (h : CSt a b acc (p :: q) (s :: r)) (hn : (n : Int) ≤ size p) (hm : (n : Int) ≤ size s) (k : p.kind ≠ 3) (k' : s.kind ≠ 2) :
    CSt a b (acc ++ cOut p s n) (lf p n :: q) (lf s n :: r) := by
  have hp := h.okq p (by simp)
  have hs := h.okr s (by simp)
  have e := units_cut (q := q) hp hn
  have e' := units_cut (q := r) hs hm
  have m := h.mid
  have al := h.all
  have kp : p.kind = 1 ∨ p.kind = 2 := by rcases partOk_cases hp with ⟨h1, _⟩ | ⟨h1, _⟩ | ⟨h1, _⟩ <;> omega
  have ks' : s.kind = 1 ∨ s.kind = 3 := by rcases partOk_cases hs with ⟨h1, _⟩ | ⟨h1, _⟩ | ⟨h1, _⟩ <;> omega
  have sl : p.kind = 2 → (p.signs.take n).length = n := fun hk => by
    unfold size at hn
    rcases partOk_cases hp with ⟨h1, _⟩ | ⟨h1, _⟩ | ⟨h1, h2, h3, h4⟩
    · omega
    · omega
    · rw [List.length_take]; omega
  rw [e, e'] at m al
  refine ⟨allOk_lf h.okq hn, allOk_lf h.okr hm, ?_, ?_⟩
  · rw [to_append, from_append] at m
    rcases kp with kp | kp <;> rcases ks' with k2 | k2
    · rw [tk_1 kp, tk_1 k2, to_ks, from_ks] at m; omega
    · rw [tk_1 kp, tk_3 k2, to_ks, from_ds] at m; omega
    · rw [tk_2 kp, tk_1 k2, to_pus, from_ks, sl kp] at m; omega
    · rw [tk_2 kp, tk_3 k2, to_pus, from_ds, sl kp] at m; omega
  · rw [List.append_assoc]
    rw [← al]
    congr 1
    unfold cOut
    rcases kp with kp | kp <;> rcases ks' with k2 | k2
    · rw [if_pos k2, tk_1 kp, tk_1 k2, cmp_kk]
    · rw [if_neg (by omega), if_pos kp, tk_1 kp, tk_3 k2, cmp_kd]
    · rw [if_pos k2, tk_2 kp, tk_1 k2]
      have := cmp_pk (p.signs.take n) (units (lf p n :: q)) (units (lf s n :: r))
      rw [sl kp] at this
      exact this.symm
    · rw [if_neg (by omega), if_neg (by omega), tk_2 kp, tk_3 k2]
      have := cmp_pd (p.signs.take n) (units (lf p n :: q)) (units (lf s n :: r))
      rw [sl kp] at this
      exact this.symm
theorem CSt.stop {a b acc : List U} (h : CSt a b acc [] []) : acc = cmp a b := by
  have := h.all
  rw [show units [] = [] from rfl, cmp_nil, List.append_nil] at this
  exact this
theorem CSt.noY {a b acc : List U} {r : List Pt} (h : CSt a b acc [] r) (hr : skip r = r) (hk : (hd r).kind ≠ 2) : r = [] := by
  cases r with
  | nil => rfl
  | cons s r =>
    have := from_units1 (q := r) (h.okr s (by simp)) (skip_head hr) hk
    have := h.mid
    rw [show units [] = [] from rfl, to_] at this
    omega
theorem CSt.noX {a b acc : List U} {q : List Pt} (h : CSt a b acc q []) (hq : skip q = q) (hk : (hd q).kind ≠ 3) : q = [] := by
  cases q with
  | nil => rfl
  | cons s q =>
    have := to_units1 (q := q) (h.okq s (by simp)) (skip_head hq) hk
    have := h.mid
    rw [show units [] = [] from rfl, from_] at this
    omega

theorem XSt.put1 {a b x y : List U} {p : Pt} {q r : List Pt} {n : Nat} (h : XSt a b x y (p :: q) r) (hn : (n : Int) = size p) (k : p.kind = 2) :
    XSt a b (x ++ unitsP (tk p n)) (y ++ ks n) (lf p n :: q) r := by
  have hp := h.okq p (by simp)
  have hn' : (n : Int) ≤ size p := by omega
  have e := units_cut (q := q) hp hn'
  have m := h.mid
  have a1 := h.all1
  have a2 := h.all2
  have sl : (p.signs.take n).length = n := by
    unfold size at hn
    rcases partOk_cases hp with ⟨h1, _⟩ | ⟨h1, _⟩ | ⟨h1, h2, h3, h4⟩
    · omega
    · omega
    · rw [List.length_take]; omega
  rw [e, tk_2 k] at m a1 a2
  rw [from_append, from_pus] at m
  rw [xf_pus] at a1 a2
  rw [sl] at a2
  exact ⟨allOk_lf h.okq hn', h.okr, by omega, by rw [tk_2 k, List.append_assoc]; exact a1, by rw [List.append_assoc]; exact a2⟩
theorem XSt.put2 {a b x y : List U} {p : Pt} {q r : List Pt} {n : Nat} (h : XSt a b x y q (p :: r)) (hn : (n : Int) = size p) (k : p.kind = 2) (hq : skip q = q) (hk : (hd q).kind ≠ 2) :
    XSt a b (x ++ ks n) (y ++ unitsP (tk p n)) q (lf p n :: r) := by
  have hp := h.okr p (by simp)
  have hn' : (n : Int) ≤ size p := by omega
  have e := units_cut (q := r) hp hn'
  have m := h.mid
  have a1 := h.all1
  have a2 := h.all2
  have sl : (p.signs.take n).length = n := by
    unfold size at hn
    rcases partOk_cases hp with ⟨h1, _⟩ | ⟨h1, _⟩ | ⟨h1, h2, h3, h4⟩
    · omega
    · omega
    · rw [List.length_take]; omega
  rw [e, tk_2 k] at m a1 a2
  rw [from_append, from_pus] at m
  rw [xf_pus2 _ _ _ (noP_of h.okq hq hk)] at a1 a2
  rw [sl] at a1
  exact ⟨h.okq, allOk_lf h.okr hn', by omega, by rw [List.append_assoc]; exact a1, by rw [tk_2 k, List.append_assoc]; exact a2⟩
def xOut1 (p s : Pt) (n : Nat) : List U := if s.kind = 1 then unitsP (tk p n) else []
def xOut2 (p s : Pt) (n : Nat) : List U := if p.kind = 1 then unitsP (tk s n) else []
theorem XSt.both {a b x y : List U} {p s : Pt} {q r : List Pt} {n : Nat} (h : XSt a b x y (p :: q) (s :: r)) (hn : (n : Int) ≤ size p) (hm : (n : Int) ≤ size s) (k : p.kind ≠ 2) (k' : s.kind ≠ 2) :
    XSt a b (x ++ xOut1 p s n) (y ++ xOut2 p s n) (lf p n :: q) (lf s n :: r) := by
  have hp := h.okq p (by simp)
  have hs := h.okr s (by simp)
  have e := units_cut (q := q) hp hn
  have e' := units_cut (q := r) hs hm
  have m := h.mid
  have a1 := h.all1
  have a2 := h.all2
  have kp : p.kind = 1 ∨ p.kind = 3 := by rcases partOk_cases hp with ⟨h1, _⟩ | ⟨h1, _⟩ | ⟨h1, _⟩ <;> omega
  have ks' : s.kind = 1 ∨ s.kind = 3 := by rcases partOk_cases hs with ⟨h1, _⟩ | ⟨h1, _⟩ | ⟨h1, _⟩ <;> omega
  rw [e, e'] at m a1 a2
  rw [from_append, from_append] at m
  refine ⟨allOk_lf h.okq hn, allOk_lf h.okr hm, ?_, ?_, ?_⟩
  · rcases kp with kp | kp <;> rcases ks' with k2 | k2
    · rw [tk_1 kp, tk_1 k2, from_ks] at m; omega
    · rw [tk_1 kp, tk_3 k2, from_ks, from_ds] at m; omega
    · rw [tk_3 kp, tk_1 k2, from_ds, from_ks] at m; omega
    · rw [tk_3 kp, tk_3 k2, from_ds] at m; omega
  · rw [List.append_assoc, ← a1]
    congr 1
    unfold xOut1
    rcases kp with kp | kp <;> rcases ks' with k2 | k2
    · rw [if_pos k2, tk_1 kp, tk_1 k2, xf_kk]
    · rw [if_neg (by omega), tk_1 kp, tk_3 k2, xf_kd]; rfl
    · rw [if_pos k2, tk_3 kp, tk_1 k2, xf_dk]
    · rw [if_neg (by omega), tk_3 kp, tk_3 k2, xf_dd]; rfl
  · rw [List.append_assoc, ← a2]
    congr 1
    unfold xOut2
    rcases kp with kp | kp <;> rcases ks' with k2 | k2
    · rw [if_pos kp, tk_1 kp, tk_1 k2, xf_kk]
    · rw [if_pos kp, tk_1 kp, tk_3 k2, xf_kd]
    · rw [if_neg (by omega), tk_3 kp, tk_1 k2, xf_dk]; rfl
    · rw [if_neg (by omega), tk_3 kp, tk_3 k2, xf_dd]; rfl
theorem XSt.stop {a b x y : List U} (h : XSt a b x y [] []) : x = (xf a b).1 ∧ y = (xf a b).2 := by
  have a1 := h.all1
  have a2 := h.all2
  rw [show units [] = [] from rfl, xf_nil, List.append_nil] at a1 a2
  exact ⟨a1, a2⟩
theorem XSt.noY {a b x y : List U} {r : List Pt} (h : XSt a b x y [] r) (hr : skip r = r) (hk : (hd r).kind ≠ 2) : r = [] := by
  cases r with
  | nil => rfl
  | cons s r =>
    have := from_units1 (q := r) (h.okr s (by simp)) (skip_head hr) hk
    have := h.mid
    rw [show units [] = [] from rfl, from_] at this
    omega
theorem XSt.noX {a b x y : List U} {q : List Pt} (h : XSt a b x y q []) (hq : skip q = q) (hk : (hd q).kind ≠ 2) : q = [] := by
  cases q with
  | nil => rfl
  | cons s q =>
    have := from_units1 (q := q) (h.okq s (by simp)) (skip_head hq) hk
    have := h.mid
    rw [show units [] = [] from rfl, from_] at this
    omega
theorem CSt.start {a b : List Pt} (ha : opOk a = true) (hb : opOk b = true) (h : opTo a = opFrom b) : CSt (units a) (units b) [] a b :=
  ⟨(partsOk_all (opOk_units ha).1).1, (partsOk_all (opOk_units hb).1).1, opOk_units_eq ha hb h, rfl⟩
theorem XSt.start {a b : List Pt} (ha : opOk a = true) (hb : opOk b = true) (h : opFrom a = opFrom b) : XSt (units a) (units b) [] [] a b := by
  obtain ⟨_, a1, _, _, _⟩ := opOk_units ha
  obtain ⟨_, b1, _, _, _⟩ := opOk_units hb
  exact ⟨(partsOk_all (opOk_units ha).1).1, (partsOk_all (opOk_units hb).1).1, by omega, rfl, rfl⟩
theorem len_units {a : List Pt} (ha : opOk a = true) : (units a).length ≤ 400 := by
  obtain ⟨_, _, _, a1, a2⟩ := opOk_units ha
  have : ∀ us : List U, us.length ≤ from_ us + to_ us := fun us => by
    induction us with
    | nil => simp [from_]
    | cons u us ih => rcases u with _ | _ | c <;> simp [from_, to_] <;> omega
  have := this (units a)
  omega
theorem skip_idem (q : List Pt) : skip (skip q) = skip q := by
  unfold skip
  induction q with
  | nil => rfl
  | cons p q ih =>
    rw [List.dropWhile_cons]
    split
    · exact ih
    · rename_i h
      rw [List.dropWhile_cons, if_neg h]
end Go.Proofs.Ytlpjbbmjchfolaa.Pl
