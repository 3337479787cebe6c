/- Plain law of the reference's decoder: the sign at a place, taken byte by byte. No program in sight. No condition. -/
import Derived.Test.YtofbcccpailbhaaDoorSignsPl
namespace Go.Proofs.YtofbcccpailbhaaDoor.Pl
open Go.Lib (decodeN)
set_option maxRecDepth 100000

/-- The byte that lies j places behind place p. -/
def cb (s : ByteArray) (p j : Nat) : Nat := (s.get! (p + j)).toNat
def getAt (s : ByteArray) (p : Nat) : Nat × Nat := getN (s.size - p) (cb s p 0) (cb s p 1) (cb s p 2) (cb s p 3)
/-- The number when j more bytes have been taken. -/
def nAt (s : ByteArray) (p n0 : Nat) : Nat → Int
  | 0 => n0
  | j + 1 => nAt s p n0 j * 64 + cb s p (j + 1) - 128
theorem nAt_0 (s : ByteArray) (p n0 : Nat) : nAt s p n0 0 = n0 := rfl
theorem nAt_1 (s : ByteArray) (p n0 : Nat) : nAt s p n0 1 = (n0 : Int) * 64 + cb s p 1 - 128 := rfl
theorem nAt_2 (s : ByteArray) (p n0 : Nat) : nAt s p n0 2 = ((n0 : Int) * 64 + cb s p 1 - 128) * 64 + cb s p 2 - 128 := rfl
theorem nAt_3 (s : ByteArray) (p n0 : Nat) : nAt s p n0 3 = (((n0 : Int) * 64 + cb s p 1 - 128) * 64 + cb s p 2 - 128) * 64 + cb s p 3 - 128 := rfl
def Lead (b0 σ n0 : Nat) : Prop := (192 ≤ b0 ∧ b0 ≤ 223 ∧ σ = 2 ∧ n0 = b0 - 192) ∨ (224 ≤ b0 ∧ b0 ≤ 239 ∧ σ = 3 ∧ n0 = b0 - 224) ∨ (240 ≤ b0 ∧ b0 ≤ 247 ∧ σ = 4 ∧ n0 = b0 - 240)
def con (s : ByteArray) (p j : Nat) : Prop := 128 ≤ cb s p j ∧ cb s p j ≤ 191
theorem cb_lt (s : ByteArray) (p j : Nat) : cb s p j < 256 := (s.get! (p + j)).toNat_lt
theorem cons_one {s : ByteArray} {p : Nat} (h : ∀ j, 1 ≤ j → j < 2 → con s p j) : con s p 1 := h 1 (by omega) (by omega)
set_option maxRecDepth 100000 in
theorem nAt_bound {s : ByteArray} {p n0 k : Nat} (hk : k ≤ 3) (hn : n0 < 32) (h : ∀ j, 1 ≤ j → j < k + 1 → con s p j) : 0 ≤ nAt s p n0 k ∧ nAt s p n0 k ≤ 8388607 := by
  match k, hk with
  | 0, _ => rw [nAt_0]; omega
  | 1, _ => have h1 := h 1 (by omega) (by omega); unfold con at h1; rw [nAt_1]; omega
  | 2, _ => have h1 := h 1 (by omega) (by omega); have h2 := h 2 (by omega) (by omega); unfold con at h1 h2; rw [nAt_2]; omega
  | 3, _ => have h1 := h 1 (by omega) (by omega); have h2 := h 2 (by omega) (by omega); have h3 := h 3 (by omega) (by omega); unfold con at h1 h2 h3; rw [nAt_3]; omega
theorem getAt_ascii {s : ByteArray} {p : Nat} (h : cb s p 0 < 128) : getAt s p = (cb s p 0, 1) := getN_ascii h
theorem getAt_none {s : ByteArray} {p : Nat} (h : (128 ≤ cb s p 0 ∧ cb s p 0 < 192) ∨ 247 < cb s p 0) : getAt s p = (0, 0) := getN_none h (cb_lt s p 0)
set_option maxRecDepth 100000 in
theorem getAt_short {s : ByteArray} {p σ n0 : Nat} (h : Lead (cb s p 0) σ n0) (hp : ¬ p + σ ≤ s.size) : getAt s p = (0, 0) := by
  unfold getAt
  rcases h with ⟨h0, h1, rfl, rfl⟩ | ⟨h0, h1, rfl, rfl⟩ | ⟨h0, h1, rfl, rfl⟩
  · rw [getN_two h0 h1, if_neg (by omega)]
  · rw [getN_three h0 h1, if_neg (by omega)]
  · rw [getN_four h0 h1, if_neg (by omega)]
set_option maxRecDepth 100000 in
theorem getAt_con {s : ByteArray} {p σ n0 j : Nat} (h : Lead (cb s p 0) σ n0) (hj : 1 ≤ j) (hj' : j < σ) (hc : ¬ con s p j) : getAt s p = (0, 0) := by
  unfold getAt
  unfold con at hc
  rcases h with ⟨h0, h1, rfl, rfl⟩ | ⟨h0, h1, rfl, rfl⟩ | ⟨h0, h1, rfl, rfl⟩
  · obtain rfl : j = 1 := by omega
    rw [getN_two h0 h1, if_neg (by omega)]
  · rcases (show j = 1 ∨ j = 2 by omega) with rfl | rfl <;> rw [getN_three h0 h1, if_neg (by omega)]
  · rcases (show j = 1 ∨ j = 2 ∨ j = 3 by omega) with rfl | rfl | rfl <;> rw [getN_four h0 h1, if_neg (by omega)]
theorem put_le {n : Nat} : (put_ n = 1 ∧ n < 128) ∨ (put_ n = 2 ∧ 128 ≤ n ∧ n < 2048) ∨ (put_ n = 3 ∧ 2048 ≤ n ∧ n < 65536) ∨ (put_ n = 4 ∧ 65536 ≤ n) := by
  unfold put_
  repeat' split
  all_goals omega
set_option maxRecDepth 100000 in
/-- All of the sign's bytes are there: what the decoder says. -/
theorem getAt_end {s : ByteArray} {p σ n0 : Nat} (h : Lead (cb s p 0) σ n0) (hp : p + σ ≤ s.size) (hc : ∀ j, 1 ≤ j → j < σ → con s p j) :
    getAt s p = if signOk (nAt s p n0 (σ - 1)) = true ∧ put_ (nAt s p n0 (σ - 1)).toNat = σ then ((nAt s p n0 (σ - 1)).toNat, σ) else (0, 0) := by
  unfold getAt
  rcases h with ⟨h0, h1, rfl, rfl⟩ | ⟨h0, h1, rfl, rfl⟩ | ⟨h0, h1, rfl, rfl⟩
  · have c1 := hc 1 (by omega) (by omega)
    unfold con at c1
    rw [getN_two h0 h1]
    generalize hN : nAt s p (cb s p 0 - 192) (2 - 1) = N
    have e : N = (((cb s p 0 - 192) * 64 + (cb s p 1 - 128) : Nat) : Int) := by rw [← hN]; show nAt s p _ 1 = _; rw [nAt_1]; omega
    have hb : (cb s p 0 - 192) * 64 + (cb s p 1 - 128) ≤ 2047 := by omega
    generalize (cb s p 0 - 192) * 64 + (cb s p 1 - 128) = m at e hb ⊢
    clear hN
    subst e
    have hu := @put_le m
    have hn : (m : Int).toNat = m := rfl
    rw [hn]
    by_cases hg : 128 ≤ m
    · rw [if_pos (by omega), if_pos ⟨(signOk_iff _).2 (by omega), by omega⟩]
    · rw [if_neg (by omega), if_neg (fun hh => by have := (signOk_iff _).1 hh.1; omega)]
  · have c1 := hc 1 (by omega) (by omega)
    have c2 := hc 2 (by omega) (by omega)
    unfold con at c1 c2
    rw [getN_three h0 h1]
    generalize hN : nAt s p (cb s p 0 - 224) (3 - 1) = N
    have e : N = ((((cb s p 0 - 224) * 64 + (cb s p 1 - 128)) * 64 + (cb s p 2 - 128) : Nat) : Int) := by rw [← hN]; show nAt s p _ 2 = _; rw [nAt_2]; omega
    have hb : ((cb s p 0 - 224) * 64 + (cb s p 1 - 128)) * 64 + (cb s p 2 - 128) ≤ 65535 := by omega
    generalize ((cb s p 0 - 224) * 64 + (cb s p 1 - 128)) * 64 + (cb s p 2 - 128) = m at e hb ⊢
    clear hN
    subst e
    have hu := @put_le m
    have hn : (m : Int).toNat = m := rfl
    rw [hn]
    by_cases hg : 2048 ≤ m ∧ ¬ (55296 ≤ m ∧ m ≤ 57343)
    · rw [if_pos (by omega), if_pos ⟨(signOk_iff _).2 (by omega), by omega⟩]
    · rw [if_neg (by omega), if_neg (fun hh => by have := (signOk_iff _).1 hh.1; omega)]
  · have c1 := hc 1 (by omega) (by omega)
    have c2 := hc 2 (by omega) (by omega)
    have c3 := hc 3 (by omega) (by omega)
    unfold con at c1 c2 c3
    rw [getN_four h0 h1]
    generalize hN : nAt s p (cb s p 0 - 240) (4 - 1) = N
    have e : N = (((((cb s p 0 - 240) * 64 + (cb s p 1 - 128)) * 64 + (cb s p 2 - 128)) * 64 + (cb s p 3 - 128) : Nat) : Int) := by rw [← hN]; show nAt s p _ 3 = _; rw [nAt_3]; omega
    have hb : (((cb s p 0 - 240) * 64 + (cb s p 1 - 128)) * 64 + (cb s p 2 - 128)) * 64 + (cb s p 3 - 128) ≤ 2097151 := by omega
    generalize (((cb s p 0 - 240) * 64 + (cb s p 1 - 128)) * 64 + (cb s p 2 - 128)) * 64 + (cb s p 3 - 128) = m at e hb ⊢
    clear hN
    subst e
    have hu := @put_le m
    have hn : (m : Int).toNat = m := rfl
    rw [hn]
    by_cases hg : 65536 ≤ m ∧ m ≤ 1114111
    · rw [if_pos (by omega), if_pos ⟨(signOk_iff _).2 (by omega), by omega⟩]
    · rw [if_neg (by omega), if_neg (fun hh => by have := (signOk_iff _).1 hh.1; omega)]
/-- It's the library's decoder, but for the place of the mark 'none'. -/
theorem getAt_decode (s : ByteArray) (p : Nat) : getAt s p = if (decodeN (s.size - p) (cb s p 0) (cb s p 1) (cb s p 2) (cb s p 3)).1 = 65533 ∧ (decodeN (s.size - p) (cb s p 0) (cb s p 1) (cb s p 2) (cb s p 3)).2 = 1 then (0, 0) else decodeN (s.size - p) (cb s p 0) (cb s p 1) (cb s p 2) (cb s p 3) := rfl
end Go.Proofs.YtofbcccpailbhaaDoor.Pl
