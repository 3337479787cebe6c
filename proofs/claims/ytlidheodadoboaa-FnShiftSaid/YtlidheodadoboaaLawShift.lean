/- The plain law of places: they move with the text, keep their order, and stay within it. No program in sight. No condition. -/
import Derived.Test.YtlidheodadoboaaLaw
import Derived.Test.YtlidheodadoboaaBack
import Derived.Test.YtlidheodadoboaaKeeping
namespace Go.Proofs.Ytlidheodadoboaa
namespace Pl
/-- A part that is right. -/
abbrev Ok (l : List Pt) : Prop := ∀ p ∈ l, partOk p = true
def toL (l : List Pt) : Int := keeps l + puts l
def fromL (l : List Pt) : Int := keeps l + drops l
theorem toL_cons (p : Pt) (l : List Pt) : toL (p :: l) = (keepsP p + putsP p) + toL l := by simp [toL, keeps, puts]; omega
theorem fromL_cons (p : Pt) (l : List Pt) : fromL (p :: l) = (keepsP p + dropsP p) + fromL l := by simp [fromL, keeps, drops]; omega
theorem part3 {p : Pt} (h : partOk p = true) : (p.kind = 1 ∧ 0 ≤ p.n ∧ keepsP p = p.n ∧ putsP p = 0 ∧ dropsP p = 0) ∨ (p.kind = 2 ∧ keepsP p = 0 ∧ putsP p = p.signs.length ∧ dropsP p = 0) ∨ (p.kind = 3 ∧ 0 ≤ p.n ∧ keepsP p = 0 ∧ putsP p = 0 ∧ dropsP p = p.n) := by
  rcases partOk_cases h with ⟨a, b, _⟩ | ⟨a, b, _⟩ | ⟨a, _⟩
  · exact .inl ⟨a, b, by simp [keepsP, a], by simp [putsP, a], by simp [dropsP, a]⟩
  · exact .inr (.inr ⟨a, b, by simp [keepsP, a], by simp [putsP, a], by simp [dropsP, a]⟩)
  · exact .inr (.inl ⟨a, by simp [keepsP, a], by simp [putsP, a], by simp [dropsP, a]⟩)
theorem toL_nat {l : List Pt} (h : Ok l) : 0 ≤ toL l := by
  induction l with
  | nil => simp [toL, keeps, puts]
  | cons p l ih =>
    have := ih fun q hq => h q (by simp [hq])
    rw [toL_cons]
    rcases part3 (h p (by simp)) with ⟨_, a, b, c, _⟩ | ⟨_, b, c, _⟩ | ⟨_, a, b, c, _⟩ <;> omega
theorem shiftL_bd {l : List Pt} (h : Ok l) : ∀ (a i j : Int) (f : Bool), i ≤ a → j ≤ shiftL l a i j f ∧ shiftL l a i j f ≤ j + toL l := by
  induction l with
  | nil => intro a i j f _; simp [shiftL, toL, keeps, puts]
  | cons p l ih =>
    intro a i j f hi
    have ih' := ih fun q hq => h q (by simp [hq])
    have hn := toL_nat (l := l) fun q hq => h q (by simp [hq])
    rw [shiftL, toL_cons]
    rcases part3 (h p (by simp)) with ⟨k, n0, b, c, _⟩ | ⟨k, b, c, _⟩ | ⟨k, n0, b, c, _⟩
    · rw [if_pos k]
      split
      · omega
      · have := ih' a (i + p.n) (j + p.n) f (by omega); omega
    · rw [if_neg (by omega), if_pos k]
      split
      · omega
      · have := ih' a i (j + p.signs.length) f hi; omega
    · rw [if_neg (by omega), if_neg (by omega)]
      split
      · omega
      · have := ih' a (i + p.n) j f (by omega); omega
theorem shiftL_flag {l : List Pt} (h : Ok l) : ∀ (a i j : Int), i ≤ a → shiftL l a i j false ≤ shiftL l a i j true := by
  induction l with
  | nil => intro a i j _; simp [shiftL]
  | cons p l ih =>
    intro a i j hi
    have hl : Ok l := fun q hq => h q (by simp [hq])
    rw [shiftL, shiftL]
    rcases part3 (h p (by simp)) with ⟨k, n0, b, c, _⟩ | ⟨k, b, c, _⟩ | ⟨k, n0, b, c, _⟩
    · simp only [if_pos k]
      split
      · omega
      · exact ih hl a (i + p.n) (j + p.n) (by omega)
    · have k1 : ¬ p.kind = 1 := by omega
      simp only [if_neg k1, if_pos k]
      rw [if_neg (show ¬ (a = i ∧ true = false) by simp)]
      split
      · have := (shiftL_bd hl a i (j + p.signs.length) true hi).1; omega
      · exact ih hl a i _ hi
    · have k1 : ¬ p.kind = 1 := by omega
      have k2 : ¬ p.kind = 2 := by omega
      simp only [if_neg k1, if_neg k2]
      split
      · omega
      · exact ih hl a (i + p.n) j (by omega)
theorem shiftL_mono {l : List Pt} (h : Ok l) : ∀ (a b i j : Int), i ≤ a → a ≤ b → shiftL l a i j false ≤ shiftL l b i j false := by
  induction l with
  | nil => intro a b i j _ _; simp [shiftL]
  | cons p l ih =>
    intro a b i j hi hab
    have hl : Ok l := fun q hq => h q (by simp [hq])
    rw [shiftL, shiftL]
    rcases part3 (h p (by simp)) with ⟨k, n0, _⟩ | ⟨k, _⟩ | ⟨k, n0, _⟩
    · simp only [if_pos k]
      by_cases h1 : a < i + p.n
      · rw [if_pos h1]
        split
        · omega
        · have := (shiftL_bd hl b (i + p.n) (j + p.n) false (by omega)).1; omega
      · rw [if_neg h1, if_neg (by omega)]
        exact ih hl a b _ _ (by omega) hab
    · have k1 : ¬ p.kind = 1 := by omega
      simp only [if_neg k1, if_pos k]
      by_cases h1 : a = i
      · rw [if_pos ⟨h1, trivial⟩]
        split
        · omega
        · have := (shiftL_bd hl b i (j + p.signs.length) false (by omega)).1; omega
      · rw [if_neg (fun e => h1 e.1), if_neg (fun e => by have := e.1; omega)]
        exact ih hl a b _ _ hi hab
    · have k1 : ¬ p.kind = 1 := by omega
      have k2 : ¬ p.kind = 2 := by omega
      simp only [if_neg k1, if_neg k2]
      by_cases h1 : a < i + p.n
      · rw [if_pos h1]
        split
        · omega
        · have := (shiftL_bd hl b (i + p.n) j false (by omega)).1; omega
      · rw [if_neg h1, if_neg (by omega)]
        exact ih hl a b _ _ (by omega) hab
theorem fromL_nat {l : List Pt} (h : Ok l) : 0 ≤ fromL l := by
  induction l with
  | nil => simp [fromL, keeps, drops]
  | cons p l ih =>
    have := ih fun q hq => h q (by simp [hq])
    rw [fromL_cons]
    rcases part3 (h p (by simp)) with ⟨_, a, b, _, c⟩ | ⟨_, b, _, c⟩ | ⟨_, a, b, _, c⟩ <;> omega
theorem shiftL_end {l : List Pt} (h : Ok l) : ∀ (i j : Int), shiftL l (i + fromL l) i j true = j + toL l := by
  induction l with
  | nil => intro i j; simp [shiftL, toL, keeps, puts]
  | cons p l ih =>
    intro i j
    have hl : Ok l := fun q hq => h q (by simp [hq])
    have hn := fromL_nat hl
    rw [shiftL, toL_cons, fromL_cons]
    rcases part3 (h p (by simp)) with ⟨k, n0, b, c, d⟩ | ⟨k, b, c, d⟩ | ⟨k, n0, b, c, d⟩
    · rw [if_pos k, if_neg (by omega), b, c, d]
      have := ih hl (i + p.n) (j + p.n)
      rw [show i + (p.n + 0 + fromL l) = i + p.n + fromL l by omega, this]
      omega
    · rw [if_neg (by omega), if_pos k, if_neg (by simp), b, c, d]
      have := ih hl i (j + p.signs.length)
      rw [show i + (0 + 0 + fromL l) = i + fromL l by omega, this]
      omega
    · rw [if_neg (by omega), if_neg (by omega), if_neg (by omega), b, c, d]
      have := ih hl (i + p.n) j
      rw [show i + (0 + p.n + fromL l) = i + p.n + fromL l by omega, this]
      omega
/-- A right operation's normal form: its sums. -/
theorem Op.sums {o : List Pt} {n m : Nat} (h : Op o n m) : Ok (Pl.norm o) ∧ fromL (Pl.norm o) = n ∧ toL (Pl.norm o) = m ∧ opNorm o = Pl.norm o := by
  obtain ⟨n1, _⟩ := h.norm
  obtain ⟨a, b⟩ := okParts_units n1.parts
  exact ⟨n1.parts, by rw [fromL, ← a, n1.fr], by rw [toL, ← b, n1.to], opNorm_yes h.ok⟩
theorem Op.shift {o : List Pt} {n m : Nat} (h : Op o n m) {a : Nat} (ha : a ≤ n) : shiftOk o a = true ∧ ∀ f, Pl.shift o a f = shiftL (Pl.norm o) a 0 0 f := by
  have hk : shiftOk o a = true := by
    rw [shiftOk, h.ok, h.opFrom.1]
    simp
    omega
  exact ⟨hk, fun f => by rw [Pl.shift, if_pos hk, h.sums.2.2.2]⟩
theorem Op.shift_bd {o : List Pt} {n m : Nat} (h : Op o n m) {a : Nat} (ha : a ≤ n) : 0 ≤ Pl.shift o a false ∧ Pl.shift o a false ≤ Pl.shift o a true ∧ Pl.shift o a true ≤ m := by
  obtain ⟨s1, s2, s3, _⟩ := h.sums
  rw [(h.shift ha).2, (h.shift ha).2]
  have b1 := (shiftL_bd s1 a 0 0 false (by omega)).1
  have b2 := (shiftL_bd s1 a 0 0 true (by omega)).2
  have b3 := shiftL_flag s1 a 0 0 (by omega)
  omega
theorem Op.shift_mono {o : List Pt} {n m : Nat} (h : Op o n m) {a b : Nat} (hab : a ≤ b) (hb : b ≤ n) : Pl.shift o a false ≤ Pl.shift o b false := by
  rw [(h.shift (by omega : a ≤ n)).2, (h.shift hb).2]
  exact shiftL_mono h.sums.1 a b 0 0 (by omega) (by omega)
theorem Op.shift_end {o : List Pt} {n m : Nat} (h : Op o n m) : Pl.shift o n true = m := by
  obtain ⟨s1, s2, s3, _⟩ := h.sums
  rw [(h.shift (Nat.le_refl n)).2]
  have := shiftL_end s1 0 0
  rw [s2] at this
  rw [show (n : Int) = 0 + (n : Int) by omega, this]
  omega
theorem backL_at (o : List Pt) (a : Int) (k : Nat) (hk : Pl.shift o k false ≤ a) : ∀ K : Nat, k ≤ K → (k : Int) ≤ backL o a K ∧ Pl.shift o (backL o a K) false ≤ a ∧ backL o a K ≤ K := by
  intro K
  induction K with
  | zero =>
    intro h
    obtain rfl : k = 0 := by omega
    rw [backL]
    exact ⟨Int.le_refl _, hk, Int.le_refl _⟩
  | succ K ih =>
    intro h
    rw [backL]
    split
    · rename_i hs
      exact ⟨by omega, hs, Int.le_refl _⟩
    · rename_i hs
      have hkK : k ≤ K := by
        rcases Nat.lt_or_ge K k with hlt | hge
        · obtain rfl : k = K + 1 := by omega
          exact absurd hk hs
        · exact hge
      obtain ⟨a1, a2, a3⟩ := ih hkK
      exact ⟨a1, a2, by omega⟩
theorem Op.back {o : List Pt} {n m : Nat} (h : Op o n m) {a : Nat} (ha : a ≤ n) : backOk o (Pl.shift o a false) = true ∧ (a : Int) ≤ Pl.back o (Pl.shift o a false) ∧ Pl.back o (Pl.shift o a false) ≤ n ∧ Pl.shift o (Pl.back o (Pl.shift o a false)) false ≤ Pl.shift o a false := by
  obtain ⟨b0, b1, b2⟩ := h.shift_bd ha
  have hk : backOk o (Pl.shift o a false) = true := by
    rw [backOk, h.ok, h.opFrom.2]
    simp
    omega
  have e : Pl.back o (Pl.shift o a false) = backL o (Pl.shift o a false) n := by rw [Pl.back, if_pos hk, h.opFrom.1]; simp
  obtain ⟨c1, c2, c3⟩ := backL_at o (Pl.shift o a false) a (Int.le_refl _) n ha
  rw [e]
  exact ⟨hk, c1, c3, c2⟩
theorem shift_keeping {n : Nat} (h : n ≤ 10) : shiftOk (keeping n) ((n : Int) / 2) = true ∧ Pl.shift (keeping n) ((n : Int) / 2) false = (n : Int) / 2 := by
  have : ∀ k : Fin 11, shiftOk (keeping ((k : Nat) : Int)) (((k : Nat) : Int) / 2) = true ∧ Pl.shift (keeping ((k : Nat) : Int)) (((k : Nat) : Int) / 2) false = ((k : Nat) : Int) / 2 := by decide +kernel
  exact this ⟨n, by omega⟩
/-- The units that put. -/
def isPut : U → Bool
  | some (some _) => true
  | _ => false
theorem puts_units {l : List Pt} (h : Ok l) : ((units l).countP isPut : Int) = puts l := by
  induction l with
  | nil => simp [units, puts]
  | cons p l ih =>
    have := ih fun q hq => h q (by simp [hq])
    have e : puts (p :: l) = putsP p + puts l := by simp [puts]
    rw [units_cons, List.countP_append, e]
    have e2 : ((unitsP p).countP isPut : Int) = putsP p := by
      rcases part3 (h p (by simp)) with ⟨k, n0, b, c, _⟩ | ⟨k, b, c, _⟩ | ⟨k, n0, b, c, _⟩
      · rw [c]; simp [unitsP, k, isPut]
      · rw [c]; simp [unitsP, k, List.countP_map, Function.comp_def, isPut]
      · rw [c]; simp [unitsP, k, isPut]
    omega
theorem Op.puts_norm {o : List Pt} {n m : Nat} (h : Op o n m) : puts (Pl.norm o) = opPuts o := by
  obtain ⟨n1, _⟩ := h.norm
  have e := ok_norm h.ok
  rw [opPuts, if_pos h.ok, ← puts_units h.parts, ← puts_units n1.parts, e, (units_grp (units o)).count]
theorem puts_nat2 (l : List Pt) : 0 ≤ puts l := by
  induction l with
  | nil => simp [puts]
  | cons p l ih =>
    have : 0 ≤ putsP p := by unfold putsP; split <;> omega
    have e : puts (p :: l) = putsP p + puts l := by simp [puts]
    omega
/-- One pair of the spans. -/
theorem span_pair {l : List Pt} (h : Ok l) : ∀ j : Int, spanL l j = [] ∧ puts l = 0 ∨ ∃ a b l', spanL l j = a :: b :: spanL l' b ∧ Ok l' ∧ puts l = (b - a) + puts l' ∧ j ≤ a ∧ a ≤ b ∧ b + toL l' ≤ j + toL l := by
  induction l with
  | nil => intro j; exact .inl ⟨rfl, by simp [puts]⟩
  | cons p l ih =>
    intro j
    have hl : Ok l := fun q hq => h q (by simp [hq])
    have e : puts (p :: l) = putsP p + puts l := by simp [puts]
    rw [spanL, toL_cons]
    rcases part3 (h p (by simp)) with ⟨k, n0, b, c, _⟩ | ⟨k, b, c, _⟩ | ⟨k, n0, b, c, _⟩
    · rw [if_pos k]
      rcases ih hl (j + p.n) with ⟨a1, a2⟩ | ⟨x, y, l', a1, a2, a3, a4, a5, a6⟩
      · exact .inl ⟨a1, by omega⟩
      · exact .inr ⟨x, y, l', a1, a2, by omega, by omega, a5, by omega⟩
    · rw [if_neg (by omega), if_pos k]
      exact .inr ⟨j, j + p.signs.length, l, rfl, hl, by omega, Int.le_refl _, by omega, by omega⟩
    · rw [if_neg (by omega), if_neg (by omega)]
      rcases ih hl j with ⟨a1, a2⟩ | ⟨x, y, l', a1, a2, a3, a4, a5, a6⟩
      · exact .inl ⟨a1, by omega⟩
      · exact .inr ⟨x, y, l', a1, a2, by omega, a4, a5, by omega⟩
end Pl
end Go.Proofs.Ytlidheodadoboaa
