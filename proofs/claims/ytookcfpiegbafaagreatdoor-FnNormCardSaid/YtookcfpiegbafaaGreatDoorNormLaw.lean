/- Plain law of FnNorm: an operation and its normal form do the same. No program in sight. No condition. -/
import Derived.Test.YtookcfpiegbafaaGreatDoorLaw
import Derived.Test.YtookcfpiegbafaaGreatDoorTextOpPl
namespace Go.Proofs.YtookcfpiegbafaaGreatDoor.Pl

theorem keeping_ten {n : Nat} (h : n ≤ 10) : opOk (keeping n) = true ∧ units (keeping n) = List.replicate n none := by
  have hd : ∀ k : Fin 11, opOk (keeping ((k : Nat) : Int)) = true := by decide +kernel
  refine ⟨hd ⟨n, by omega⟩, ?_⟩
  unfold keeping
  split
  · simp [units, unitsP]
  · obtain rfl : n = 0 := by omega
    rfl
/-- Keeping all, then the operation: the operation. -/
theorem cmp_keeps : ∀ (us : List U) (n : Nat), from_ us = n → cmp (List.replicate n none) us = us
  | [], n, h => by
    have h0 : n = 0 := by simpa [from_] using h.symm
    subst h0
    simp [cmp]
  | none :: u, n, h => by
    obtain ⟨m, rfl⟩ : ∃ m, n = m + 1 := ⟨from_ u, h.symm⟩
    have := cmp_keeps u m (by simpa [from_] using h)
    rw [List.replicate_succ, cmp, this]
  | some none :: u, n, h => by
    obtain ⟨m, rfl⟩ : ∃ m, n = m + 1 := ⟨from_ u, h.symm⟩
    have := cmp_keeps u m (by simpa [from_] using h)
    rw [List.replicate_succ, cmp, this]
  | some (some c) :: u, n, h => by
    have := cmp_keeps u n (by simpa [from_] using h)
    cases n with
    | zero =>
      rw [List.replicate_zero] at this ⊢
      rw [cmp, this]
    | succ m =>
      rw [List.replicate_succ] at this ⊢
      rw [cmp, this]
/-- All that the law asks. -/
theorem norm_law {o : List Pt} {t : List Int} (ho : opOk o = true) (hf : opFrom o = t.length) (hs : signsOk t = true) (hn : t.length ≤ 10) :
    (fits o t = true ∧ fits (opNorm o) t = true ∧ Pl.apply (opNorm o) t = Pl.apply o t) ∧ (isNorm (opNorm o) = true ∧ opNorm (opNorm o) = opNorm o) ∧
    (cmpOk (keeping t.length) o = true ∧ Pl.compose (keeping t.length) o = opNorm o) ∧ opTo o = (Pl.apply o t).length ∧ (t.length : Int) + opPuts o - opDrops o = (Pl.apply o t).length := by
  have op := Op.mk' ho hf rfl
  generalize hm : to_ (units o) = m at op
  have ht : Tx t t.length := ⟨hs, rfl⟩
  obtain ⟨a1, a2, a3⟩ := op.apply ht
  obtain ⟨n1, n2⟩ := op.norm
  obtain ⟨b1, b2, -⟩ := n1.apply ht
  have hon : opNorm o = norm o := opNorm_yes ho
  obtain ⟨k1, k2⟩ := keeping_ten (n := t.length) hn
  have hk : Op (keeping t.length) t.length t.length := ⟨k1, by rw [k2]; exact from_keeps _, by rw [k2]; exact to_keeps _⟩
  obtain ⟨c1, c2, -⟩ := hk.compose op
  have hto := op.opFrom.2
  have hlen : (Pl.apply o t).length = m := by rw [a2]; exact a3.len
  have hp := op.parts
  obtain ⟨u1, u2⟩ := okParts_units hp
  have hpo := (opOk_units ho).1
  have e1 : opPuts o = puts o := by rw [opPuts, if_pos ho]
  have e2 : opDrops o = drops o := by rw [opDrops, if_pos ho]
  have hfr := op.fr
  refine ⟨⟨a1, by rw [hon]; exact b1, by rw [hon, b2, a2, n2]⟩, opNorm_isNorm ho, ⟨c1, ?_⟩, by rw [hlen, hto], ?_⟩
  · rw [c2, cmpL, k2, cmp_keeps _ _ op.fr, hon, ok_norm ho]
  · rw [hlen, e1, e2]; omega
theorem opText_length {o : List Pt} {n : Nat} (ho : opOk o = true) (hf : opFrom o = n) (hn : n ≤ 10) (hm : opTo o ≤ n + 12) : (opText o).length ≤ 100000 := by
  have op := Op.mk' ho hf rfl
  generalize hm' : to_ (units o) = m at op
  obtain ⟨n1, -⟩ := op.norm
  have hto := op.opFrom.2
  have hg := good_len (good_grp (units o))
  rw [← ok_norm ho, n1.fr, n1.to] at hg
  have hw := wordsT_length (ns := norm o) (fun p hp => (fine_of (opOk_partsOk n1.ok) p hp).2.2.2)
  rw [opText, if_pos ho, opNorm_yes ho]
  split
  · simp
  · omega
end Go.Proofs.YtookcfpiegbafaaGreatDoor.Pl
