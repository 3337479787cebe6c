/- Plain law of Signs: the characters that bytes spell. No program in sight. No condition. -/
import Derived.Test.YtofbcccpailbhaaDoorBytes
import Derived.Lib.ValidLaws
namespace Go.Proofs.YtofbcccpailbhaaDoor.Pl
open Go.Lib (decodeN decodeL validD)
set_option maxRecDepth 100000

def sgF : Nat → List UInt8 → List Int
  | 0, _ => []
  | n + 1, l => if l = [] then [] else ((decodeL l).1 : Int) :: sgF n (l.drop (decodeL l).2)
/-- The characters, one by one. -/
def sg (l : List UInt8) : List Int := sgF l.length l
def signsV (l : List UInt8) : List Int := if validD l = true then sg l else []
theorem sgF_nil : ∀ n, sgF n [] = []
  | 0 => rfl
  | _ + 1 => by simp [sgF]
theorem sgF_fuel : ∀ (n m : Nat) (l : List UInt8), l.length ≤ n → l.length ≤ m → sgF n l = sgF m l
  | 0, m, l, hn, _ => by
    have : l = [] := List.eq_nil_of_length_eq_zero (by omega)
    subst this
    rw [sgF_nil, sgF_nil]
  | n + 1, 0, l, _, hm => by
    have : l = [] := List.eq_nil_of_length_eq_zero (by omega)
    subst this
    rw [sgF_nil, sgF_nil]
  | n + 1, m + 1, l, hn, hm => by
    unfold sgF
    by_cases hne : l = []
    · simp [hne]
    · have hw := Lib.decodeL_width l
      have hl : 0 < l.length := List.length_pos_iff.2 hne
      rw [if_neg hne, if_neg hne, sgF_fuel n m (l.drop (decodeL l).2) (by rw [List.length_drop]; omega) (by rw [List.length_drop]; omega)]
theorem sg_nil : sg [] = [] := rfl
theorem sg_step (l : List UInt8) (hne : l ≠ []) : sg l = ((decodeL l).1 : Int) :: sg (l.drop (decodeL l).2) := by
  have hl : 0 < l.length := List.length_pos_iff.2 hne
  have hw := Lib.decodeL_width l
  obtain ⟨n, hn⟩ : ∃ n, l.length = n + 1 := ⟨l.length - 1, by omega⟩
  unfold sg
  rw [hn]
  show (if l = [] then [] else _) = _
  rw [if_neg hne, sgF_fuel n (l.drop (decodeL l).2).length _ (by rw [List.length_drop]; omega) (Nat.le_refl _)]
theorem sgF_length : ∀ (n : Nat) (l : List UInt8), (sgF n l).length ≤ n
  | 0, _ => Nat.le_refl _
  | n + 1, l => by
    unfold sgF
    split
    · simp
    · have := sgF_length n (l.drop (decodeL l).2); simp; omega
theorem sg_length (l : List UInt8) : (sg l).length ≤ l.length := sgF_length _ l
theorem signsV_length (l : List UInt8) : (signsV l).length ≤ l.length := by
  unfold signsV
  split
  · exact sg_length l
  · simp
/-- At place p of l. -/
theorem sg_at {l : List UInt8} {p : Nat} (h : p < l.length) : sg (l.drop p) = ((decodeL (l.drop p)).1 : Int) :: sg (l.drop (p + (decodeL (l.drop p)).2)) := by
  have hne : l.drop p ≠ [] := by intro e; have := congrArg List.length e; rw [List.length_drop, List.length_nil] at this; omega
  rw [sg_step _ hne, List.drop_drop]
theorem valid_at {l : List UInt8} {p : Nat} (h : p < l.length) : validD (l.drop p) = if (decodeL (l.drop p)).1 = 65533 ∧ (decodeL (l.drop p)).2 = 1 then false else validD (l.drop (p + (decodeL (l.drop p)).2)) := by
  have hne : l.drop p ≠ [] := by intro e; have := congrArg List.length e; rw [List.length_drop, List.length_nil] at this; omega
  rw [Lib.validD_step _ hne, List.drop_drop]

/-- What the reference's decoder gives: the sign and its width; none: 0 and 0. -/
def getN (n b0 b1 b2 b3 : Nat) : Nat × Nat := if (decodeN n b0 b1 b2 b3).1 = 65533 ∧ (decodeN n b0 b1 b2 b3).2 = 1 then (0, 0) else decodeN n b0 b1 b2 b3
theorem getN_ascii {n b0 b1 b2 b3 : Nat} (h : b0 < 128) : getN n b0 b1 b2 b3 = (b0, 1) := by
  have e : decodeN n b0 b1 b2 b3 = (b0, 1) := by unfold decodeN; rw [if_pos h]
  rw [getN, e, if_neg (by show ¬ (b0 = 65533 ∧ _); omega)]
theorem getN_bad {n b0 b1 b2 b3 : Nat} (h : decodeN n b0 b1 b2 b3 = (65533, 1)) : getN n b0 b1 b2 b3 = (0, 0) := by rw [getN, h]; rfl
theorem getN_good {n b0 b1 b2 b3 r k : Nat} (h : decodeN n b0 b1 b2 b3 = (r, k)) (hk : 2 ≤ k) : getN n b0 b1 b2 b3 = (r, k) := by
  rw [getN, h, if_neg (by show ¬ (_ ∧ k = 1); omega)]
/-- The length of a character's bytes. -/
def put_ (n : Nat) : Nat := if n < 128 then 1 else if n < 2048 then 2 else if n < 65536 then 3 else 4
theorem encodeRune_length {n : Nat} (h : n ≤ 1114111) (hs : ¬ (55296 ≤ n ∧ n ≤ 57343)) : (Lib.runeCells n).length = put_ n := by
  unfold put_ Lib.runeCells
  by_cases h1 : n < 128
  · rw [if_pos h1, Lib.encodeRuneZ_one (by omega) (by omega)]; rfl
  · rw [if_neg h1]
    by_cases h2 : n < 2048
    · rw [if_pos h2, Lib.encodeRuneZ_two (by omega) (by omega)]; rfl
    · rw [if_neg h2]
      by_cases h3 : n < 65536
      · rw [if_pos h3, Lib.encodeRuneZ_three (by omega)]; rfl
      · rw [if_neg h3, Lib.encodeRuneZ_four (by omega) (by omega)]; rfl
set_option maxRecDepth 100000 in
set_option maxHeartbeats 4000000 in
theorem getN_two {n b0 b1 b2 b3 : Nat} (h0 : 192 ≤ b0) (h1 : b0 ≤ 223) : getN n b0 b1 b2 b3 = if 1 < n ∧ (128 ≤ b1 ∧ b1 ≤ 191) ∧ 128 ≤ (b0 - 192) * 64 + (b1 - 128) then ((b0 - 192) * 64 + (b1 - 128), 2) else (0, 0) := by
  unfold getN decodeN
  repeat' split
  all_goals first | rfl | (exfalso; omega) | (apply Prod.ext <;> simp only <;> omega) | simp_all
set_option maxRecDepth 100000 in
set_option maxHeartbeats 4000000 in
theorem getN_three {n b0 b1 b2 b3 : Nat} (h0 : 224 ≤ b0) (h1 : b0 ≤ 239) : getN n b0 b1 b2 b3 = if 2 < n ∧ (128 ≤ b1 ∧ b1 ≤ 191) ∧ (128 ≤ b2 ∧ b2 ≤ 191) ∧ 2048 ≤ ((b0 - 224) * 64 + (b1 - 128)) * 64 + (b2 - 128) ∧ ¬ (55296 ≤ ((b0 - 224) * 64 + (b1 - 128)) * 64 + (b2 - 128) ∧ ((b0 - 224) * 64 + (b1 - 128)) * 64 + (b2 - 128) ≤ 57343) then (((b0 - 224) * 64 + (b1 - 128)) * 64 + (b2 - 128), 3) else (0, 0) := by
  unfold getN decodeN
  repeat' split
  all_goals first | rfl | (exfalso; omega) | (apply Prod.ext <;> simp only <;> omega) | simp_all
set_option maxRecDepth 100000 in
set_option maxHeartbeats 4000000 in
theorem getN_four {n b0 b1 b2 b3 : Nat} (h0 : 240 ≤ b0) (h1 : b0 ≤ 247) : getN n b0 b1 b2 b3 = if 3 < n ∧ (128 ≤ b1 ∧ b1 ≤ 191) ∧ (128 ≤ b2 ∧ b2 ≤ 191) ∧ (128 ≤ b3 ∧ b3 ≤ 191) ∧ 65536 ≤ (((b0 - 240) * 64 + (b1 - 128)) * 64 + (b2 - 128)) * 64 + (b3 - 128) ∧ (((b0 - 240) * 64 + (b1 - 128)) * 64 + (b2 - 128)) * 64 + (b3 - 128) ≤ 1114111 then ((((b0 - 240) * 64 + (b1 - 128)) * 64 + (b2 - 128)) * 64 + (b3 - 128), 4) else (0, 0) := by
  unfold getN decodeN
  repeat' split
  all_goals first | rfl | (exfalso; omega) | (apply Prod.ext <;> simp only <;> omega) | simp_all
theorem getN_none {n b0 b1 b2 b3 : Nat} (h : (128 ≤ b0 ∧ b0 < 192) ∨ 247 < b0) (h8 : b0 < 256) : getN n b0 b1 b2 b3 = (0, 0) := by
  apply getN_bad
  unfold decodeN
  rw [if_neg (by omega), if_neg (by omega), if_neg (by omega), if_neg (by omega)]
end Go.Proofs.YtofbcccpailbhaaDoor.Pl
