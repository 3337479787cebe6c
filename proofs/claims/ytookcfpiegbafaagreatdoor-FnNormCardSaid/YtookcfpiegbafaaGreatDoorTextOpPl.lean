/- Plain law of TextOp: what OpText writes, TextOp reads, and the two ways of reading agree. No program in sight. No condition. -/
import Derived.Test.YtookcfpiegbafaaGreatDoorOpTextPl
import Derived.Test.YtookcfpiegbafaaGreatDoorTextSign
namespace Go.Proofs.YtookcfpiegbafaaGreatDoor.Pl

theorem numText_dec {n : Int} (h0 : 0 ≤ n) (h1 : n ≤ 1000000000) : numText n = Lib.decDigits n.toNat := by rw [numText, if_pos ⟨h0, h1⟩]
theorem tnOk_num {n : Int} (h0 : 0 ≤ n) (h1 : n ≤ 1000000000) : tnOk (numText n) = true ∧ tn (numText n) = n := by
  rw [numText_dec h0 h1]
  have h := tnOk_dec (n := n.toNat) (by omega)
  exact ⟨h, by rw [tn_yes h, dval_dec]; omega⟩
theorem num_isD {n : Int} : ∀ c ∈ numText n, isD c := by
  intro c hc
  unfold numText at hc
  split at hc
  · exact dec_isD _ c hc
  · cases hc
theorem num_no {n : Int} {c : UInt8} (h : c.toNat < 48) : c ∉ numText n := fun hc => by
  have := num_isD c hc
  unfold isD at this
  omega
theorem num_ne {n : Int} (h0 : 0 ≤ n) (h1 : n ≤ 1000000000) : numText n ≠ [] := by rw [numText_dec h0 h1]; exact dec_ne _
theorem spl_dotted {xs : List Int} (h : xs ≠ []) : spl 46 (dotted xs) = xs.map numText :=
  spl_join 46 _ (by simpa using h) (fun w hw => by
    obtain ⟨n, _, rfl⟩ := List.mem_map.1 hw
    exact num_no (by decide))
theorem rd_dotted {xs : List Int} (h : xs ≠ []) (hr : ∀ x ∈ xs, 0 ≤ x ∧ x ≤ 1000000000) : rdOk (dotted xs) = true ∧ rd (dotted xs) = xs := by
  have h1 : rdOk (dotted xs) = true := by
    rw [rdOk, spl_dotted h, List.all_map, List.all_eq_true]
    intro x hx
    exact (tnOk_num (hr x hx).1 (hr x hx).2).1
  refine ⟨h1, ?_⟩
  rw [rd, if_pos h1, spl_dotted h, List.map_map]
  have h2 : ∀ x ∈ xs, (tn ∘ numText) x = x := fun x hx => (tnOk_num (hr x hx).1 (hr x hx).2).2
  rw [List.map_congr_left h2, List.map_id']
theorem dotted_not_dash {xs : List Int} : dotted xs ≠ [45] := by
  intro e
  by_cases h : xs = []
  · subst h; cases e
  · have h1 := spl_dotted h
    rw [e] at h1
    have h2 : spl 46 [45] = [[45]] := by decide
    rw [h2] at h1
    cases xs with
    | nil => exact h rfl
    | cons x r =>
      rw [List.map_cons] at h1
      injection h1 with h1 _
      exact num_no (n := x) (c := 45) (by decide) (by rw [← h1]; simp)
theorem sign_range {xs : List Int} (h : signsOk xs = true) : ∀ x ∈ xs, 0 ≤ x ∧ x ≤ 1000000000 := fun x hx => by
  have := List.all_eq_true.1 h x hx
  simp only [signOk, Bool.and_eq_true, decide_eq_true_eq] at this
  omega
theorem join_mem {c d : UInt8} : ∀ {xs : List (List UInt8)}, c ∈ join d xs → c = d ∨ ∃ x ∈ xs, c ∈ x
  | [], h => by cases h
  | [x], h => .inr ⟨x, by simp, h⟩
  | x :: y :: r, h => by
    rw [join, List.mem_append, List.mem_cons] at h
    rcases h with h | h | h
    · exact .inr ⟨x, by simp, h⟩
    · exact .inl h
    · rcases join_mem h with h | ⟨z, hz, hc⟩
      · exact .inl h
      · exact .inr ⟨z, by simp [hz], hc⟩
theorem dotted_no {xs : List Int} {c : UInt8} (h : c.toNat < 46) : c ∉ dotted xs := fun hc => by
  rcases join_mem hc with e | ⟨x, hx, hcx⟩
  · subst e; revert h; decide
  · obtain ⟨n, _, rfl⟩ := List.mem_map.1 hx
    exact num_no (by omega) hcx
theorem word_no {p : Pt} : (32 : UInt8) ∉ word p := by
  unfold word
  intro hc
  split at hc
  · rcases List.mem_cons.1 hc with e | e
    · revert e; decide
    · exact num_no (by decide) e
  · split at hc
    · rcases List.mem_cons.1 hc with e | e
      · revert e; decide
      · exact num_no (by decide) e
    · rcases List.mem_cons.1 hc with e | e
      · revert e; decide
      · exact dotted_no (by decide) e
theorem spl_words {ns : List Pt} (h : ns ≠ []) : spl 32 (wordsT ns) = ns.map word :=
  spl_join 32 _ (by simpa using h) (fun w hw => by
    obtain ⟨p, _, rfl⟩ := List.mem_map.1 hw
    exact word_no)

/-- The program's reading of a word. -/
def wOk (x : List UInt8) : Bool := !decide (x = []) && rdOk x.tail
def wPt (x : List UInt8) : Pt := if x.headD 0 = 107 then ⟨1, (rd x.tail).getD 0 0, []⟩ else if x.headD 0 = 100 then ⟨3, (rd x.tail).getD 0 0, []⟩ else ⟨2, 0, rd x.tail⟩
/-- The reference's reading of a word. -/
def sOk (x : List UInt8) : Bool := decide (2 ≤ x.length) && (if x.headD 0 = 112 then textSignOk x.tail else tnOk x.tail)
def sPt (x : List UInt8) : Pt := if x.headD 0 = 112 then ⟨2, 0, textSign x.tail⟩ else if x.headD 0 = 107 then ⟨1, tn x.tail, []⟩ else if x.headD 0 = 100 then ⟨3, tn x.tail, []⟩ else ⟨0, tn x.tail, []⟩
/-- What TextOp answers. -/
def toOk (l : List UInt8) : Bool := decide (l = [45]) || ((spl 32 l).all wOk && (opOk ((spl 32 l).map wPt) && decide (opText ((spl 32 l).map wPt) = l)))
def textOp (l : List UInt8) : List Pt := if l = [45] then [] else if toOk l = true then opNorm ((spl 32 l).map wPt) else []

/-- The words of a part of a normal form read back. -/
theorem word_back {p : Pt} (h : Shp p) (hn : 0 ≤ p.n ∧ p.n ≤ 1000000000) (hs : signsOk p.signs = true) : (wOk (word p) = true ∧ wPt (word p) = p) ∧ (sOk (word p) = true ∧ sPt (word p) = p) := by
  obtain ⟨k, n, sg⟩ := p
  have one : dotted [n] = numText n := rfl
  rcases h with ⟨h1, h2, h3⟩ | ⟨h1, h2, h3⟩ | ⟨h1, h2, h3⟩
  · simp only at h1 h2 h3 hn
    subst h1 h3
    obtain ⟨r1, r2⟩ := rd_dotted (xs := [n]) (by simp) (fun x hx => by simp at hx; subst hx; exact hn)
    rw [one] at r1 r2
    obtain ⟨t1, t2⟩ := tnOk_num hn.1 hn.2
    have hw : word ⟨1, n, []⟩ = 107 :: numText n := rfl
    have hl := List.length_pos_iff.2 (num_ne hn.1 hn.2)
    rw [hw]
    refine ⟨⟨?_, ?_⟩, ?_, ?_⟩
    · simp [wOk, r1]
    · simp [wPt, r2]
    · simp [sOk, t1]; omega
    · simp [sPt, t2]
  · simp only at h1 h2 h3 hn hs
    subst h1 h2
    obtain ⟨r1, r2⟩ := rd_dotted h3 (sign_range hs)
    have hw : word ⟨2, 0, sg⟩ = 112 :: dotted sg := rfl
    have hd : dotted sg ≠ [45] := dotted_not_dash
    have k1 : textSignOk (dotted sg) = true := by rw [textSignOk, r1, r2, hs]; simp
    have k2 : textSign (dotted sg) = sg := by rw [textSign, if_neg hd, if_pos k1, r2]
    have hne : dotted sg ≠ [] := fun e => by
      have := spl_dotted h3
      rw [e] at this
      have e2 : spl 46 [] = [[]] := rfl
      rw [e2] at this
      cases sg with
      | nil => exact h3 rfl
      | cons x r =>
        rw [List.map_cons] at this
        injection this with this _
        exact num_ne (sign_range hs x (by simp)).1 (sign_range hs x (by simp)).2 this.symm
    have hl := List.length_pos_iff.2 hne
    rw [hw]
    refine ⟨⟨?_, ?_⟩, ?_, ?_⟩
    · simp [wOk, r1]
    · simp [wPt, r2]
    · simp [sOk, k1]; omega
    · simp [sPt, k2]
  · simp only at h1 h2 h3 hn
    subst h1 h3
    obtain ⟨r1, r2⟩ := rd_dotted (xs := [n]) (by simp) (fun x hx => by simp at hx; subst hx; exact hn)
    rw [one] at r1 r2
    obtain ⟨t1, t2⟩ := tnOk_num hn.1 hn.2
    have hw : word ⟨3, n, []⟩ = 100 :: numText n := rfl
    have hl := List.length_pos_iff.2 (num_ne hn.1 hn.2)
    rw [hw]
    refine ⟨⟨?_, ?_⟩, ?_, ?_⟩
    · simp [wOk, r1]
    · simp [wPt, r2]
    · simp [sOk, t1]; omega
    · simp [sPt, t2]
theorem words_back {ns : List Pt} (hs : ∀ p ∈ ns, Shp p) (hok : opOk ns = true) :
    ((ns.map word).all wOk = true ∧ (ns.map word).map wPt = ns) ∧ ((ns.map word).all sOk = true ∧ (ns.map word).map sPt = ns) := by
  have hb : ∀ p ∈ ns, (wOk (word p) = true ∧ wPt (word p) = p) ∧ (sOk (word p) = true ∧ sPt (word p) = p) := fun p hp => by
    obtain ⟨_, a, b, _, _, _, c⟩ := partOk_facts (partOk_mem (opOk_partsOk hok) p hp)
    exact word_back (hs p hp) ⟨a, by omega⟩ c
  refine ⟨⟨?_, ?_⟩, ?_, ?_⟩
  · rw [List.all_map, List.all_eq_true]; exact fun p hp => (hb p hp).1.1
  · rw [List.map_map, List.map_congr_left (f := wPt ∘ word) (g := id) (fun p hp => (hb p hp).1.2), List.map_id]
  · rw [List.all_map, List.all_eq_true]; exact fun p hp => (hb p hp).2.1
  · rw [List.map_map, List.map_congr_left (f := sPt ∘ word) (g := id) (fun p hp => (hb p hp).2.2), List.map_id]
theorem opNorm_isNorm {o : List Pt} (h : opOk o = true) : isNorm (opNorm o) = true ∧ opNorm (opNorm o) = opNorm o := by
  have hp : ∀ p ∈ o, 0 ≤ p.n := fun p hp => (fine_of (opOk_partsOk h) p hp).2.1
  have h1 := opNorm_ok o
  have h2 : norm (opNorm o) = opNorm o := by rw [opNorm_yes h, norm_norm hp]
  refine ⟨by rw [isNorm, h1, h2]; simp, by rw [opNorm_yes h1, h2]⟩
theorem isNorm_opNorm {o : List Pt} (h : isNorm o = true) : opOk o = true ∧ opNorm o = o := by
  rw [isNorm, Bool.and_eq_true] at h
  exact ⟨h.1, by rw [opNorm_yes h.1]; exact of_decide_eq_true h.2⟩
/-- The two ways of reading agree. -/
theorem read_same {l : List UInt8} (hz : l ≠ [45]) :
    ((spl 32 l).all sOk && (isNorm ((spl 32 l).map sPt) && decide (opText ((spl 32 l).map sPt) = l))) = toOk l ∧ (toOk l = true → (spl 32 l).map sPt = textOp l) := by
  have main : toOk l = true → (spl 32 l).all sOk = true ∧ isNorm ((spl 32 l).map sPt) = true ∧ opText ((spl 32 l).map sPt) = l ∧ (spl 32 l).map sPt = textOp l := by
    intro h
    have h' := h
    rw [toOk, decide_eq_false hz, Bool.false_or, Bool.and_eq_true, Bool.and_eq_true] at h
    obtain ⟨_, ho, ht⟩ := h
    have ht := of_decide_eq_true ht
    have hto : textOp l = opNorm ((spl 32 l).map wPt) := by rw [textOp, if_neg hz, if_pos h']
    generalize (spl 32 l).map wPt = o at ho ht hto
    obtain ⟨n1, n2⟩ := opNorm_isNorm ho
    have hn : opNorm o ≠ [] := fun e => by
      rw [opText, if_pos ho, if_pos e] at ht
      exact hz ht.symm
    rw [opText, if_pos ho, if_neg hn] at ht
    have hw := spl_words hn
    rw [ht] at hw
    obtain ⟨_, s1, s2⟩ := words_back (opNorm_shp o) (opNorm_ok o)
    rw [hw, s2]
    exact ⟨s1, n1, by rw [opText, if_pos (opNorm_ok o), n2, if_neg hn, ht], hto.symm⟩
  refine ⟨?_, fun h => (main h).2.2.2⟩
  cases hc : toOk l with
  | true =>
    obtain ⟨a, b, c, _⟩ := main hc
    rw [a, b, decide_eq_true c]; rfl
  | false =>
    rw [Bool.eq_false_iff]
    intro hh
    rw [Bool.and_eq_true, Bool.and_eq_true] at hh
    obtain ⟨_, hi, ht⟩ := hh
    have ht := of_decide_eq_true ht
    generalize (spl 32 l).map sPt = o at hi ht
    obtain ⟨ho, hn⟩ := isNorm_opNorm hi
    have hs : ∀ p ∈ o, Shp p := by have := opNorm_shp o; rw [hn] at this; exact this
    have hne : o ≠ [] := fun e => by
      rw [opText, if_pos ho, hn, if_pos e] at ht
      exact hz ht.symm
    have hto := ht
    rw [opText, if_pos ho, hn, if_neg hne] at ht
    have hw := spl_words hne
    rw [ht] at hw
    obtain ⟨⟨s1, s2⟩, _⟩ := words_back hs ho
    have : toOk l = true := by rw [toOk, hw, s1, s2, ho, decide_eq_true hto]; simp
    rw [hc] at this
    cases this
/-- What OpText writes, TextOp reads. -/
theorem textOp_round {o : List Pt} (h : opOk o = true) : toOk (opText o) = true ∧ textOp (opText o) = opNorm o := by
  obtain ⟨n1, n2⟩ := opNorm_isNorm h
  by_cases hn : opNorm o = []
  · have e : opText o = [45] := by rw [opText, if_pos h, if_pos hn]
    rw [e, hn]
    exact ⟨rfl, rfl⟩
  · have e : opText o = wordsT (opNorm o) := by rw [opText, if_pos h, if_neg hn]
    have hz : opText o ≠ [45] := by
      intro h45
      have hw := spl_words hn
      rw [← e, h45] at hw
      have h2 : spl 32 [45] = [[45]] := by decide
      rw [h2] at hw
      cases hq : opNorm o with
      | nil => exact hn hq
      | cons p r =>
        rw [hq, List.map_cons] at hw
        injection hw with hw _
        unfold word at hw
        split at hw
        · injection hw with hw _; revert hw; decide
        · split at hw
          · injection hw with hw _; revert hw; decide
          · injection hw with hw _; revert hw; decide
    have hw := spl_words hn
    rw [← e] at hw
    obtain ⟨⟨s1, s2⟩, _⟩ := words_back (opNorm_shp o) (opNorm_ok o)
    have ht : opText (opNorm o) = opText o := by rw [e, opText, if_pos (opNorm_ok o), n2, if_neg hn]
    have h1 : toOk (opText o) = true := by rw [toOk, hw, s1, s2, opNorm_ok o, decide_eq_true ht]; simp
    exact ⟨h1, by rw [textOp, if_neg hz, if_pos h1, hw, s2, n2]⟩
end Go.Proofs.YtookcfpiegbafaaGreatDoor.Pl
