/- Contract of impl.ComposeAll. Condition: none longer than any slice can be. -/
import Derived.Test.YtlpjbbmjchfolaaCompose
import Derived.Test.YtlpjbbmjchfolaaKeeping
import Derived.Test.YtlpjbbmjchfolaaApplyAll
import Derived.Test.YtlpjbbmjchfolaaSign
namespace Go.Proofs.Ytlpjbbmjchfolaa
open Go.RowKit
set_option maxRecDepth 100000
set_option linter.unusedVariables false

namespace Pl
def capOk : List (List Pt) → List Pt → Bool
  | [], _ => true
  | o :: l, c => cmpOk c o && capOk l (compose c o)
def capL : List (List Pt) → List Pt → List Pt
  | [], c => c
  | o :: l, c => capL l (compose c o)
def composeAllOk (l : List (List Pt)) (n : Int) : Bool := (decide (0 ≤ n) && decide (n ≤ 200)) && capOk l (keeping n)
def composeAll (l : List (List Pt)) (n : Int) : List Pt := if composeAllOk l n = true then capL l (keeping n) else []
end Pl
theorem capOk_step {l : List (List Pt)} {k : Nat} (h : k < l.length) (c : List Pt) : Pl.capOk (l.drop k) c = (Pl.cmpOk c (l.getD k []) && Pl.capOk (l.drop (k + 1)) (Pl.compose c (l.getD k []))) := by
  rw [List.drop_eq_getElem_cons h, Pl.capOk]
  simp [List.getD, h]
theorem capL_step {l : List (List Pt)} {k : Nat} (h : k < l.length) (c : List Pt) : Pl.capL (l.drop k) c = Pl.capL (l.drop (k + 1)) (Pl.compose c (l.getD k [])) := by
  rw [List.drop_eq_getElem_cons h, Pl.capL]
  simp [List.getD, h]

set_option maxHeartbeats 4000000 in
set_option maxRecDepth 100000 in
theorem composeAll_i (v : Value) (os : List (List Pt)) (n : Int) (w : World) (h : SliceOps w.heap.size w v os) (hn0 : 0 ≤ n) (hn1 : n ≤ 200) :
    Calls Try.prog 22 #[v, .int .i64 n] w fun e w' => ∃ u svs, e = .returned (.tuple #[u, .bool (Pl.composeAllOk os n)]) ∧ OwnP w.heap.size w'.heap.size w' u (Pl.composeAll os n) svs ∧ Below w.heap.size w w' := by
  have hol := h.len
  unfold maxLen at hol
  have h0 := Lib.hid h
  obtain ⟨A, c, rfl, -, ho⟩ := h
  have HO := Lib.hid ho
  clear ho
  have HR : Hid ((decide (0 ≤ n) && decide (n ≤ 200)) = true) := by show _ = _; simp; omega
  go_enter Try.func22, Try.ntmps22
  go_wp2_with (fail)
  refine (within_yes (n := n) (lo := 0) (hi := 200) ⟨hn0, hn1⟩ _).mono ?_
  rintro e w1 ⟨rfl, rfl⟩
  go_wp2_with (fail)
  refine (keeping_i n _).mono ?_
  rintro e w1 ⟨u1, s1, rfl, o1, b1⟩
  obtain ⟨A1, c1, rfl⟩ := own_shape o1.row
  have O1 := Lib.hid o1
  have B1 := Lib.hid b1
  clear o1 b1
  go_wp2_with (fail)
  go_loopw [6, 18] (fun u i wr => ∃ (k : Nat) (cur : List Pt) (cvs : List Value), k ≤ os.length ∧ i = .int .i64 k ∧ Hid (OwnP w.heap.size wr.heap.size wr u cur cvs) ∧ Hid (Pl.capOk os (Pl.keeping n) = Pl.capOk (os.drop k) cur) ∧ Hid (Pl.capL os (Pl.keeping n) = Pl.capL (os.drop k) cur) ∧ Hid (Below w.heap.size w wr) ∧ w.heap.size ≤ wr.heap.size) (fun _ i _ => os.length - (intOf i).toNat)
  case atStart => exact ⟨0, _, _, Nat.zero_le _, rfl, O1.out, by show _ = _; simp, by show _ = _; simp, B1.out, B1.out.size⟩
  case round =>
    clear O1 B1
    obtain ⟨k, cur, cvs, hk, rfl, hown, hok, hall, hb, hsz⟩ := hrel
    by_cases hlk : k < os.length
    · obtain ⟨b, off, sv, rfl, hbB, c0, hs⟩ := HO.out k hlk
      have c0' := (hb.out.cell (p := ⟨b, off + k, none⟩) hbB).trans c0
      have S0 := Lib.hid ((hs.below hb.out).mono hsz)
      have HA := Lib.hid (capOk_step hlk cur)
      have HL := Lib.hid (capL_step hlk cur)
      generalize os.getD k [] = o at c0 c0' S0 HA HL hs
      obtain ⟨A2, c2, rfl, -, -⟩ := hs
      clear c0
      obtain ⟨A3, c3, rfl⟩ := own_shape hown.out.row
      by_cases hf : Pl.cmpOk cur o = true
      · have HF := Lib.hid hf
        clear hf
        go_wp2_with (fail)
        refine (compose_i _ _ cur o _ hown.out.slice S0.out).mono ?_
        rintro e w2 ⟨u2, s2, rfl, o2, b2⟩
        rw [HF.out]
        obtain ⟨A4, c4, rfl⟩ := own_shape o2.row
        have O2 := Lib.hid (ownP_lower (lo' := w.heap.size) o2 hsz)
        have B2 := Lib.hid (hb.out.trans (b2.mono hsz))
        have sz2 := b2.size
        clear o2 b2
        go_wp2_with (fail)
        go_roundw
        case rel => exact ⟨k + 1, _, _, by omega, by go_num, O2.out, by show _ = _; rw [hok.out, HA.out, HF.out, Bool.true_and], by show _ = _; rw [hall.out, HL.out], B2.out, by omega⟩
        case measure => simp [intOf]; omega
      · have HF : Hid (Pl.cmpOk cur o = false) := by show _ = _; simpa using hf
        have HN : Hid (Pl.composeAllOk os n = false) := by show _ = _; rw [Pl.composeAllOk, hok.out, HA.out, HF.out, Bool.false_and, Bool.and_false]
        have HV : Hid (Pl.composeAll os n = []) := by show _ = _; rw [Pl.composeAll, if_neg (by rw [HN.out]; decide)]
        clear hf
        go_wp2_with (fail)
        refine (compose_i _ _ cur o _ hown.out.slice S0.out).mono ?_
        rintro e w2 ⟨u2, s2, rfl, o2, b2⟩
        rw [HF.out]
        obtain ⟨A4, c4, rfl⟩ := own_shape o2.row
        have B2 := Lib.hid (hb.out.trans (b2.mono hsz))
        clear o2 b2
        go_wp2_with (fail)
        go_ret2
        exact ⟨_, [], by rw [HN.out]; rfl, by rw [HV.out]; exact OwnP.nil _ _ _, B2.out⟩
    · have hd : os.drop k = [] := List.drop_eq_nil_of_le (by omega)
      have HK1 : Hid (Pl.capOk os (Pl.keeping n) = true) := by show _ = _; rw [hok.out, hd]; rfl
      have HK2 : Hid (Pl.capL os (Pl.keeping n) = cur) := by show _ = _; rw [hall.out, hd]; rfl
      clear hd
      obtain ⟨A3, c3, rfl⟩ := own_shape hown.out.row
      have HN : Hid (Pl.composeAllOk os n = true) := by show _ = _; rw [Pl.composeAllOk, HR.out, HK1.out]; rfl
      have HV : Hid (Pl.composeAll os n = cur) := by show _ = _; rw [Pl.composeAll, if_pos HN.out, HK2.out]
      go_wp2_with (fail)
      go_ret2
      exact ⟨_, _, by rw [HN.out]; rfl, by rw [HV.out]; exact hown.out, hb.out⟩
end Go.Proofs.Ytlpjbbmjchfolaa
