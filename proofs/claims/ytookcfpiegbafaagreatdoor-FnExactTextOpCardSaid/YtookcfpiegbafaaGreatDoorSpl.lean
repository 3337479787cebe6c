/- Plain law of strings: a list of bytes cut at one byte, and the pieces joined again. No condition. -/
import Derived.Test.YtookcfpiegbafaaGreatDoorPlain
import Derived.Lib.SplitLaws
namespace Go.Proofs.YtookcfpiegbafaaGreatDoor
namespace Pl
/-- l cut at every c; pre stands ahead of the first piece. -/
def splA (c : UInt8) (pre : List UInt8) : List UInt8 → List (List UInt8)
  | [] => [pre]
  | b :: l => if b = c then pre :: splA c [] l else splA c (pre ++ [b]) l
def spl (c : UInt8) (l : List UInt8) : List (List UInt8) := splA c [] l
theorem splA_ne (c : UInt8) (pre l : List UInt8) : splA c pre l ≠ [] := by
  induction l generalizing pre with
  | nil => simp [splA]
  | cons b l ih => rw [splA]; split <;> simp [ih]
theorem splA_pre (c : UInt8) (p q l : List UInt8) : ∃ x r, splA c q l = x :: r ∧ splA c (p ++ q) l = (p ++ x) :: r := by
  induction l generalizing q with
  | nil => exact ⟨q, [], rfl, rfl⟩
  | cons b l ih =>
    rw [splA, splA]
    split
    · exact ⟨q, _, rfl, rfl⟩
    · rw [List.append_assoc]; exact ih (q ++ [b])
theorem splA_one (c : UInt8) (b : UInt8) (l : List UInt8) (x : List UInt8) (r : List (List UInt8)) (h : splA c [] l = x :: r) : splA c [b] l = (b :: x) :: r := by
  obtain ⟨x', r', h1, h2⟩ := splA_pre c [b] [] l
  rw [h] at h1
  injection h1 with h1 h3
  subst h1 h3
  simpa using h2
theorem splA_length (c : UInt8) (pre l : List UInt8) : (splA c pre l).length ≤ l.length + 1 := by
  induction l generalizing pre with
  | nil => simp [splA]
  | cons b l ih =>
    rw [splA]
    split
    · have := ih []; simp; omega
    · have := ih (pre ++ [b]); simp; omega
theorem spl_length (c : UInt8) (l : List UInt8) : (spl c l).length ≤ l.length + 1 := splA_length c [] l
theorem spl_ne (c : UInt8) (l : List UInt8) : spl c l ≠ [] := splA_ne c [] l
theorem spl_pos (c : UInt8) (l : List UInt8) : 0 < (spl c l).length := List.length_pos_iff.2 (spl_ne c l)
/-- The library's cutting at one byte is this one. -/
theorem splitK_one (c : UInt8) : ∀ l : List UInt8, Lib.splitK [c] 0 (Lib.count l [c]) l = spl c l
  | [] => by
    have : Lib.count [] [c] = 0 := by rw [Lib.count_one]; rfl
    rw [this]; rfl
  | b :: l => by
    have ih := splitK_one c l
    by_cases h : b = c
    · subst h
      have hix : Lib.index (b :: l) [b] = 0 := by rw [Lib.index]; simp [List.isPrefixOf]
      rw [Lib.count_cons_eq, Nat.add_comm, Lib.splitK, hix, if_neg (by decide), spl, splA, if_pos rfl]
      unfold spl at ih
      simpa using ih
    · have hp : ([c] : List UInt8).isPrefixOf (b :: l) = false := by simp [List.isPrefixOf, Ne.symm h]
      have hix : Lib.index (b :: l) [c] = if Lib.index l [c] == -1 then -1 else Lib.index l [c] + 1 := by rw [Lib.index, hp]; simp
      rw [Lib.count_cons_ne b c l h, spl, splA, if_neg h, List.nil_append]
      unfold spl at ih
      cases hk : Lib.count l [c] with
      | zero =>
        rw [hk, Lib.splitK] at ih
        rw [Lib.splitK, splA_one c b l _ _ ih.symm]
      | succ k =>
        have hm : Lib.index l [c] ≠ -1 := fun e => by rw [Lib.count_miss e] at hk; omega
        have hge := Lib.index_ge l [c]
        obtain ⟨j, hj⟩ : ∃ j : Nat, Lib.index l [c] = j := ⟨(Lib.index l [c]).toNat, by omega⟩
        rw [hk, Lib.splitK, if_neg (fun e => hm (beq_iff_eq.1 e)), hj] at ih
        rw [Lib.splitK, hix, if_neg (fun e => hm (beq_iff_eq.1 e)), hj, if_neg (by simp; omega), splA_one c b l _ _ ih.symm]
        have e1 : ((j : Int) + 1).toNat = j + 1 := by omega
        have e2 : ((j : Int)).toNat = j := by omega
        rw [e1, e2]
        simp
/-- Pieces joined by one byte. -/
def join (c : UInt8) : List (List UInt8) → List UInt8
  | [] => []
  | [x] => x
  | x :: y :: r => x ++ c :: join c (y :: r)
theorem join_cons {c : UInt8} {x : List UInt8} {r : List (List UInt8)} (h : r ≠ []) : join c (x :: r) = x ++ c :: join c r := by
  cases r with
  | nil => exact absurd rfl h
  | cons y r => rfl
theorem join_splA (c : UInt8) (pre l : List UInt8) : join c (splA c pre l) = pre ++ l := by
  induction l generalizing pre with
  | nil => simp [splA, join]
  | cons b l ih =>
    rw [splA]
    split
    · rename_i h
      subst h
      rw [join_cons (splA_ne _ _ _), ih]; rfl
    · rw [ih]; simp
theorem join_spl (c : UInt8) (l : List UInt8) : join c (spl c l) = l := join_splA c [] l
theorem splA_word (c : UInt8) (w pre : List UInt8) (h : c ∉ w) : splA c pre w = [pre ++ w] := by
  induction w generalizing pre with
  | nil => simp [splA]
  | cons b w ih =>
    rw [splA, if_neg (fun e => h (by simp [e])), ih _ (fun e => h (by simp [e]))]
    simp
theorem splA_word_c (c : UInt8) (w pre r : List UInt8) (h : c ∉ w) : splA c pre (w ++ c :: r) = (pre ++ w) :: splA c [] r := by
  induction w generalizing pre with
  | nil => simp [splA]
  | cons b w ih =>
    rw [List.cons_append, splA, if_neg (fun e => h (by simp [e])), ih _ (fun e => h (by simp [e]))]
    simp
theorem spl_join (c : UInt8) : ∀ ws : List (List UInt8), ws ≠ [] → (∀ w ∈ ws, c ∉ w) → spl c (join c ws) = ws
  | [], h, _ => absurd rfl h
  | [x], _, hw => by
    rw [spl, join, splA_word c x [] (hw x (by simp))]; rfl
  | x :: y :: r, _, hw => by
    have ih := spl_join c (y :: r) (by simp) (fun w h => hw w (by simp [h]))
    rw [spl, join_cons (by simp), splA_word_c c x [] _ (hw x (by simp))]
    unfold spl at ih
    rw [ih]; rfl
/-- One step of a loop that cuts: at a c, and elsewhere. -/
theorem splA_at {c : UInt8} {s : List UInt8} {from_ i : Nat} (hi : i < s.length) (he : s[i] = c) :
    splA c ((s.drop from_).take (i - from_)) (s.drop i) = (s.drop from_).take (i - from_) :: splA c [] (s.drop (i + 1)) := by
  rw [List.drop_eq_getElem_cons hi, splA, if_pos he]
theorem splA_on {c : UInt8} {s : List UInt8} {from_ i : Nat} (hi : i < s.length) (hf : from_ ≤ i) (he : s[i] ≠ c) :
    splA c ((s.drop from_).take (i - from_)) (s.drop i) = splA c ((s.drop from_).take (i + 1 - from_)) (s.drop (i + 1)) := by
  rw [List.drop_eq_getElem_cons hi, splA, if_neg he]
  congr 1
  rw [show i + 1 - from_ = (i - from_) + 1 by omega, List.take_add_one]
  congr 1
  rw [List.getElem?_drop, show from_ + (i - from_) = i by omega, List.getElem?_eq_getElem hi]
  rfl
theorem splA_end {c : UInt8} {s : List UInt8} {from_ : Nat} : splA c ((s.drop from_).take (s.length - from_)) (s.drop s.length) = [s.drop from_] := by
  rw [List.drop_length, splA, List.take_of_length_le (by simp)]
end Pl
end Go.Proofs.YtookcfpiegbafaaGreatDoor
