/- Contract of the reference's ComposeAll, and both for every number. Condition: none longer than any slice can be. -/
import Derived.Test.YtlpjbbmjchfolaaComposeAll
import Derived.Test.YtlpjbbmjchfolaaComposeS
import Derived.Test.YtlpjbbmjchfolaaSmall
namespace Go.Proofs.Ytlpjbbmjchfolaa
open Go.RowKit
set_option maxRecDepth 100000
set_option linter.unusedVariables false

set_option maxHeartbeats 4000000 in
set_option maxRecDepth 100000 in
theorem composeAll_sy (v : Value) (os : List (List Pt)) (n : Int) (w : World) (h : SliceOps w.heap.size w v os) (hn0 : 0 ≤ n) (hn1 : n ≤ 200) :
    Calls Try.prog 38 #[v, .int .i64 n] w fun e w' => ∃ u svs, e = .returned (.tuple #[u, .bool (Pl.composeAllOk os n)]) ∧ OwnP w.heap.size w'.heap.size w' u (Pl.composeAll os n) svs ∧ Below w.heap.size w w' := by
  have hol := h.len
  unfold maxLen at hol
  have h0 := Lib.hid h
  obtain ⟨A, c, rfl, -, ho⟩ := h
  have HO := Lib.hid ho
  clear ho
  have HR : Hid ((decide (0 ≤ n) && decide (n ≤ 200)) = true) := by show _ = _; simp; omega
  go_enter Try.func38, Try.ntmps38
  go_wp2_with (fail)
  refine (l01In_yes (n := n) (lo := 0) (hi := 200) ⟨hn0, hn1⟩ _).mono ?_
  rintro e w1 ⟨rfl, rfl⟩
  go_wp2_with (fail)
  refine (keeping_s n _).mono ?_
  rintro e w1 ⟨u1, s1, rfl, o1, b1⟩
  obtain ⟨A1, c1, rfl⟩ := own_shape o1.row
  have O1 := Lib.hid o1
  have B1 := Lib.hid b1
  clear o1 b1
  go_wp2_with (fail)
  go_loopw [6, 18] (fun u i wr => ∃ (k : Nat) (cur : List Pt) (cvs : List Value), k ≤ os.length ∧ i = .int .i64 k ∧ Hid (OwnP w.heap.size wr.heap.size wr u cur cvs) ∧ Hid (Pl.capOk os (Pl.keeping n) = Pl.capOk (os.drop k) cur) ∧ Hid (Pl.capL os (Pl.keeping n) = Pl.capL (os.drop k) cur) ∧ Hid (Below w.heap.size w wr) ∧ w.heap.size ≤ wr.heap.size) (fun _ i _ => os.length - (intOf i).toNat)
  case atStart => exact ⟨0, _, _, Nat.zero_le _, rfl, O1.out, by show _ = _; simp, by show _ = _; simp, B1.out, B1.out.size⟩
  case round =>
    clear O1 B1
    obtain ⟨k, cur, cvs, hk, rfl, hown, hok, hall, hb, hsz⟩ := hrel
    by_cases hlk : k < os.length
    · obtain ⟨b, off, sv, rfl, hbB, c0, hs⟩ := HO.out k hlk
      have c0' := (hb.out.cell (p := ⟨b, off + k, none⟩) hbB).trans c0
      have S0 := Lib.hid ((hs.below hb.out).mono hsz)
      have HA := Lib.hid (capOk_step hlk cur)
      have HL := Lib.hid (capL_step hlk cur)
      generalize os.getD k [] = o at c0 c0' S0 HA HL hs
      obtain ⟨A2, c2, rfl, -, -⟩ := hs
      clear c0
      obtain ⟨A3, c3, rfl⟩ := own_shape hown.out.row
      by_cases hf : Pl.cmpOk cur o = true
      · have HF := Lib.hid hf
        clear hf
        go_wp2_with (fail)
        refine (compose_s _ _ cur o _ hown.out.slice S0.out).mono ?_
        rintro e w2 ⟨u2, s2, rfl, o2, b2⟩
        rw [HF.out]
        obtain ⟨A4, c4, rfl⟩ := own_shape o2.row
        have O2 := Lib.hid (ownP_lower (lo' := w.heap.size) o2 hsz)
        have B2 := Lib.hid (hb.out.trans (b2.mono hsz))
        have sz2 := b2.size
        clear o2 b2
        go_wp2_with (fail)
        go_roundw
        case rel => exact ⟨k + 1, _, _, by omega, by go_num, O2.out, by show _ = _; rw [hok.out, HA.out, HF.out, Bool.true_and], by show _ = _; rw [hall.out, HL.out], B2.out, by omega⟩
        case measure => simp [intOf]; omega
      · have HF : Hid (Pl.cmpOk cur o = false) := by show _ = _; simpa using hf
        have HN : Hid (Pl.composeAllOk os n = false) := by show _ = _; rw [Pl.composeAllOk, hok.out, HA.out, HF.out, Bool.false_and, Bool.and_false]
        have HV : Hid (Pl.composeAll os n = []) := by show _ = _; rw [Pl.composeAll, if_neg (by rw [HN.out]; decide)]
        clear hf
        go_wp2_with (fail)
        refine (compose_s _ _ cur o _ hown.out.slice S0.out).mono ?_
        rintro e w2 ⟨u2, s2, rfl, o2, b2⟩
        rw [HF.out]
        obtain ⟨A4, c4, rfl⟩ := own_shape o2.row
        have B2 := Lib.hid (hb.out.trans (b2.mono hsz))
        clear o2 b2
        go_wp2_with (fail)
        go_ret2
        exact ⟨_, [], by rw [HN.out]; rfl, by rw [HV.out]; exact OwnP.nil _ _ _, B2.out⟩
    · have hd : os.drop k = [] := List.drop_eq_nil_of_le (by omega)
      have HK1 : Hid (Pl.capOk os (Pl.keeping n) = true) := by show _ = _; rw [hok.out, hd]; rfl
      have HK2 : Hid (Pl.capL os (Pl.keeping n) = cur) := by show _ = _; rw [hall.out, hd]; rfl
      clear hd
      obtain ⟨A3, c3, rfl⟩ := own_shape hown.out.row
      have HN : Hid (Pl.composeAllOk os n = true) := by show _ = _; rw [Pl.composeAllOk, HR.out, HK1.out]; rfl
      have HV : Hid (Pl.composeAll os n = cur) := by show _ = _; rw [Pl.composeAll, if_pos HN.out, HK2.out]
      go_wp2_with (fail)
      go_ret2
      exact ⟨_, _, by rw [HN.out]; rfl, by rw [HV.out]; exact hown.out, hb.out⟩
theorem composeAll_ix (v : Value) (os : List (List Pt)) (n : Int) (w : World) (h : SliceOps w.heap.size w v os) :
    Calls Try.prog 22 #[v, .int .i64 n] w fun e w' => ∃ u svs, e = .returned (.tuple #[u, .bool (Pl.composeAllOk os n)]) ∧ OwnP w.heap.size w'.heap.size w' u (Pl.composeAll os n) svs ∧ Below w.heap.size w w' := by
  by_cases hn : 0 ≤ n ∧ n ≤ 200
  · exact composeAll_i v os n w h hn.1 hn.2
  · have HH := Lib.hid hn
    have HN : Hid (Pl.composeAllOk os n = false) := by
      show _ = _
      rw [Pl.composeAllOk]
      have : (decide (0 ≤ n) && decide (n ≤ 200)) = false := by simp; omega
      rw [this, Bool.false_and]
    have HV : Hid (Pl.composeAll os n = []) := by show _ = _; rw [Pl.composeAll, if_neg (by rw [HN.out]; decide)]
    obtain ⟨A, c, rfl, -, -⟩ := h
    clear hn
    go_enter Try.func22, Try.ntmps22
    go_wp2_with (fail)
    refine (within_no HH.out _).mono ?_
    rintro e w1 ⟨rfl, rfl⟩
    go_wp2_with (fail)
    go_ret2
    exact ⟨_, [], by rw [HN.out]; rfl, by rw [HV.out]; exact OwnP.nil _ _ _, Below.refl _ _⟩
theorem composeAll_sx (v : Value) (os : List (List Pt)) (n : Int) (w : World) (h : SliceOps w.heap.size w v os) :
    Calls Try.prog 38 #[v, .int .i64 n] w fun e w' => ∃ u svs, e = .returned (.tuple #[u, .bool (Pl.composeAllOk os n)]) ∧ OwnP w.heap.size w'.heap.size w' u (Pl.composeAll os n) svs ∧ Below w.heap.size w w' := by
  by_cases hn : 0 ≤ n ∧ n ≤ 200
  · exact composeAll_sy v os n w h hn.1 hn.2
  · have HH := Lib.hid hn
    have HN : Hid (Pl.composeAllOk os n = false) := by
      show _ = _
      rw [Pl.composeAllOk]
      have : (decide (0 ≤ n) && decide (n ≤ 200)) = false := by simp; omega
      rw [this, Bool.false_and]
    have HV : Hid (Pl.composeAll os n = []) := by show _ = _; rw [Pl.composeAll, if_neg (by rw [HN.out]; decide)]
    obtain ⟨A, c, rfl, -, -⟩ := h
    clear hn
    go_enter Try.func38, Try.ntmps38
    go_wp2_with (fail)
    refine (l01In_no HH.out _).mono ?_
    rintro e w1 ⟨rfl, rfl⟩
    go_wp2_with (fail)
    go_ret2
    exact ⟨_, [], by rw [HN.out]; rfl, by rw [HV.out]; exact OwnP.nil _ _ _, Below.refl _ _⟩
theorem capL_small : ∀ (l : List (List Pt)) (c : List Pt) (k : Int), 0 ≤ k → k ≤ 70368744177664 → Pl.small c k → Pl.small (Pl.capL l c) k
  | [], _, _, _, _, h => h
  | o :: l, c, k, h0, h1, _ => capL_small l _ k h0 h1 (compose_small c o k h0 h1)
theorem keeping_sm (n k : Int) (h0 : 0 ≤ k) (h1 : k ≤ 70368744177664) : Pl.small (Pl.keeping n) k := keeping_small n k h0 h1
theorem composeAll_small (l : List (List Pt)) (n k : Int) (h0 : 0 ≤ k) (h1 : k ≤ 70368744177664) : Pl.small (Pl.composeAll l n) k := by
  rw [Pl.composeAll]
  split
  · exact capL_small _ _ _ h0 h1 (keeping_sm n k h0 h1)
  · exact small_nil k h0 h1
end Go.Proofs.Ytlpjbbmjchfolaa
