/- Plain law: what SignText writes, TextSign reads; Show and Bytes are equally long. No program in sight. No condition. -/
import Derived.Test.YtookcfpiegbafaaDoorSignsRound
import Derived.Test.YtookcfpiegbafaaDoorTextSign
import Derived.Test.YtookcfpiegbafaaDoorShow
namespace Go.Proofs.YtookcfpiegbafaaDoor.Pl

theorem numText_dec {n : Int} (h0 : 0 ≤ n) (h1 : n ≤ 1000000000) : numText n = Lib.decDigits n.toNat := by rw [numText, if_pos ⟨h0, h1⟩]
theorem tnOk_num {n : Int} (h0 : 0 ≤ n) (h1 : n ≤ 1000000000) : tnOk (numText n) = true ∧ tn (numText n) = n := by
  rw [numText_dec h0 h1]
  have h := tnOk_dec (n := n.toNat) (by omega)
  exact ⟨h, by rw [tn_yes h, dval_dec]; omega⟩
theorem num_isD {n : Int} : ∀ c ∈ numText n, isD c := by
  intro c hc
  unfold numText at hc
  split at hc
  · exact dec_isD _ c hc
  · cases hc
theorem num_no {n : Int} {c : UInt8} (h : c.toNat < 48) : c ∉ numText n := fun hc => by
  have := num_isD c hc
  unfold isD at this
  omega
theorem spl_dotted {xs : List Int} (h : xs ≠ []) : spl 46 (dotted xs) = xs.map numText :=
  spl_join 46 _ (by simpa using h) (fun w hw => by
    obtain ⟨n, _, rfl⟩ := List.mem_map.1 hw
    exact num_no (by decide))
theorem rd_dotted {xs : List Int} (h : xs ≠ []) (hr : ∀ x ∈ xs, 0 ≤ x ∧ x ≤ 1000000000) : rdOk (dotted xs) = true ∧ rd (dotted xs) = xs := by
  have h1 : rdOk (dotted xs) = true := by
    rw [rdOk, spl_dotted h, List.all_map, List.all_eq_true]
    intro x hx
    exact (tnOk_num (hr x hx).1 (hr x hx).2).1
  refine ⟨h1, ?_⟩
  rw [rd, if_pos h1, spl_dotted h, List.map_map]
  have h2 : ∀ x ∈ xs, (tn ∘ numText) x = x := fun x hx => (tnOk_num (hr x hx).1 (hr x hx).2).2
  rw [List.map_congr_left h2, List.map_id']
theorem dotted_not_dash {xs : List Int} (hr : ∀ x ∈ xs, 0 ≤ x ∧ x ≤ 1000000000) : dotted xs ≠ [45] := by
  intro e
  by_cases h : xs = []
  · subst h; cases e
  · have h1 := spl_dotted h
    rw [e] at h1
    have h2 : spl 46 [45] = [[45]] := by decide
    rw [h2] at h1
    cases xs with
    | nil => exact h rfl
    | cons x r =>
      rw [List.map_cons] at h1
      injection h1 with h1 _
      exact num_no (n := x) (c := 45) (by decide) (by rw [← h1]; simp)
theorem sign_range {xs : List Int} (h : signsOk xs = true) : ∀ x ∈ xs, 0 ≤ x ∧ x ≤ 1000000000 := fun x hx => by
  have := (signOk_iff x).1 (List.all_eq_true.1 h x hx)
  omega
theorem signText_round {xs : List Int} (h : signsOk xs = true) : textSignOk (signText xs) = true ∧ textSign (signText xs) = xs := by
  rw [signText, if_pos h]
  by_cases h0 : xs = []
  · subst h0; exact ⟨rfl, rfl⟩
  · rw [if_neg h0]
    obtain ⟨h1, h2⟩ := rd_dotted h0 (sign_range h)
    have hd := dotted_not_dash (sign_range h)
    have h3 : textSignOk (dotted xs) = true := by rw [textSignOk, h1, h2, h]; simp
    exact ⟨h3, by rw [textSign, if_neg hd, if_pos h3, h2]⟩
theorem hide_ok {c : Int} (h : signOk c = true) : signOk (hide c) = true ∧ (Lib.encodeRune (hide c)).length = (Lib.encodeRune c).length := by
  have hc := (signOk_iff c).1 h
  unfold hide
  split
  · refine ⟨by decide, ?_⟩
    rw [Lib.encodeRune, Lib.encodeRune, Lib.encodeRuneZ_one (by decide) (by decide), Lib.encodeRuneZ_one (r := c) (by omega) (by omega)]
    rfl
  · exact ⟨h, rfl⟩
theorem shown_length {xs : List Int} (h : signsOk xs = true) : (shown xs).length = (bytes xs).length := by
  have hm : signsOk (xs.map hide) = true := by
    rw [signsOk, List.all_map, List.all_eq_true]
    intro x hx
    exact (hide_ok (List.all_eq_true.1 h x hx)).1
  rw [shown, if_pos h, bytes, if_pos hm, bytes, if_pos h]
  clear hm
  induction xs with
  | nil => rfl
  | cons x r ih =>
    rw [signsOk, List.all_cons, Bool.and_eq_true] at h
    have := ih h.2
    simp only [enc, List.map_cons, List.flatMap_cons, List.length_append] at this ⊢
    rw [(hide_ok h.1).2, this]
theorem enc_length (xs : List Int) : (bytes xs).length ≤ 4 * xs.length := by
  unfold bytes
  split
  · induction xs with
    | nil => simp [enc]
    | cons x r ih =>
      rename_i h
      rw [signsOk, List.all_cons, Bool.and_eq_true] at h
      have := ih h.2
      have h4 := (Lib.encodeRuneZ_length x).2
      simp only [enc, List.flatMap_cons, List.length_append, List.length_cons, Lib.encodeRune, List.length_map] at this ⊢
      omega
  · simp
end Go.Proofs.YtookcfpiegbafaaDoor.Pl
