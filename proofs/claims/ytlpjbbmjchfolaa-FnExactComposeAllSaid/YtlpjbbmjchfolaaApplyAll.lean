/- Contracts of ApplyAll. Condition: a text of at most 4194304 characters. -/
import Derived.Test.YtlpjbbmjchfolaaApply
import Derived.Test.YtlpjbbmjchfolaaPartss
import Derived.Test.YtlpjbbmjchfolaaCopyInts
namespace Go.Proofs.Ytlpjbbmjchfolaa
open Go.RowKit
set_option maxRecDepth 100000

namespace Pl
def allOk : List (List Pt) → List Int → Bool
  | [], _ => true
  | o :: l, t => fits o t && allOk l (apply o t)
def allL : List (List Pt) → List Int → List Int
  | [], t => t
  | o :: l, t => allL l (apply o t)
def applyAllOk (l : List (List Pt)) (t : List Int) : Bool := textOk t && allOk l t
def applyAll (l : List (List Pt)) (t : List Int) : List Int := if applyAllOk l t = true then allL l t else []
theorem allL_len : ∀ (l : List (List Pt)) (t : List Int), t.length ≤ 120000 → (allL l t).length ≤ 120000
  | [], _, h => h
  | o :: l, t, _ => allL_len l (apply o t) (apply_len o t)
theorem applyAll_len (l : List (List Pt)) (t : List Int) : (applyAll l t).length ≤ 120000 := by
  unfold applyAll
  split
  · rename_i h
    unfold applyAllOk textOk at h
    simp only [Bool.and_eq_true, decide_eq_true_eq] at h
    exact allL_len l t (by omega)
  · simp
end Pl
theorem allOk_step {l : List (List Pt)} {k : Nat} (h : k < l.length) (t : List Int) : Pl.allOk (l.drop k) t = (Pl.fits (l.getD k []) t && Pl.allOk (l.drop (k + 1)) (Pl.apply (l.getD k []) t)) := by
  rw [List.drop_eq_getElem_cons h, Pl.allOk]
  simp [List.getD, h]
theorem allL_step {l : List (List Pt)} {k : Nat} (h : k < l.length) (t : List Int) : Pl.allL (l.drop k) t = Pl.allL (l.drop (k + 1)) (Pl.apply (l.getD k []) t) := by
  rw [List.drop_eq_getElem_cons h, Pl.allL]
  simp [List.getD, h]
theorem ownI_lower {lo lo' hi : Nat} {w : World} {v : Value} {xs : List Int} (h : OwnI lo hi w v xs) (hl : lo' ≤ lo) : OwnI lo' hi w v xs := by
  refine ⟨⟨h.1.1, ?_⟩, h.2⟩
  rcases h.1.2 with hn | ⟨g, cap, cur, hv, hb, r⟩
  · exact .inl hn
  · exact .inr ⟨g, cap, cur, hv, Nat.le_trans hl hb, r⟩
theorem own_shapeI {base n : Nat} {w : World} {v : Value} {xs : List Value} {e size : Nat} (h : w.ownsRow base e size v n xs) : ∃ A c, v = .slice A n c := by
  rcases h.2 with ⟨rfl, rfl⟩ | ⟨g, cap, cur, rfl, _⟩
  · exact ⟨_, _, rfl⟩
  · exact ⟨_, _, rfl⟩

set_option maxHeartbeats 4000000 in
set_option maxRecDepth 100000 in
theorem applyAll_i (v v' : Value) (os : List (List Pt)) (ts : List Int) (w : World) (h : SliceOps w.heap.size w v os) (h' : SliceInts w.heap.size w v' ts) (hl : ts.length ≤ 4194304) :
    Calls Try.prog 21 #[v, v'] w fun e w' => ∃ u, e = .returned (.tuple #[u, .bool (Pl.applyAllOk os ts)]) ∧ OwnI w.heap.size w'.heap.size w' u (Pl.applyAll os ts) ∧ Below w.heap.size w w' := by
  have hol := h.len
  unfold maxLen at hol
  have h0 := Lib.hid h
  have h0' := Lib.hid h'
  obtain ⟨A, c, rfl, -, ho⟩ := h
  obtain ⟨A', c', rfl, -, hs'⟩ := h'
  have HO := Lib.hid ho
  have HS' := Lib.hid hs'
  clear ho hs'
  by_cases ht : Pl.textOk ts = true
  rotate_left
  · have HT : Hid (Pl.textOk ts = false) := by show _ = _; simpa using ht
    have HN : Hid (Pl.applyAllOk os ts = false) := by show _ = _; rw [Pl.applyAllOk, HT.out, Bool.false_and]
    have HV : Hid (Pl.applyAll os ts = []) := by show _ = _; rw [Pl.applyAll, if_neg (by rw [HN.out]; decide)]
    clear ht
    go_enter Try.func21, Try.ntmps21
    go_wp2_with (fail)
    refine (textOk_i _ _ ts _ h0'.out (by unfold maxLen; omega)).mono ?_
    rintro e w1 ⟨rfl, rfl⟩
    rw [HT.out]
    go_wp2_with (fail)
    go_ret2
    exact ⟨_, by rw [HN.out]; rfl, by rw [HV.out]; exact ⟨World.ownsRow_nil _ _ _ _, fun g hg => by simp [Value.ownBlock] at hg⟩, Below.refl _ _⟩
  have HT := Lib.hid ht
  clear ht
  go_enter Try.func21, Try.ntmps21
  go_wp2_with (fail)
  refine (textOk_i _ _ ts _ h0'.out (by unfold maxLen; omega)).mono ?_
  rintro e w1 ⟨rfl, rfl⟩
  rw [HT.out]
  go_wp2_with (fail)
  refine (copyInts_i _ ts _ h0'.out hl).mono ?_
  rintro e w1 ⟨u1, rfl, o1, b1⟩
  obtain ⟨A1, c1, rfl⟩ := own_shapeI o1.1
  have O1 := Lib.hid o1
  have B1 := Lib.hid b1
  clear o1 b1
  go_wp2_with (fail)
  go_loopw [6, 18] (fun u i wr => ∃ (k : Nat) (cur : List Int), k ≤ os.length ∧ i = .int .i64 k ∧ Hid (OwnI w.heap.size wr.heap.size wr u cur) ∧ Hid (Pl.allOk os ts = Pl.allOk (os.drop k) cur) ∧ Hid (Pl.allL os ts = Pl.allL (os.drop k) cur) ∧ Hid (Below w.heap.size w wr) ∧ w.heap.size ≤ wr.heap.size) (fun _ i _ => os.length - (intOf i).toNat)
  case atStart => exact ⟨0, ts, Nat.zero_le _, rfl, O1.out, by show _ = _; simp, by show _ = _; simp, B1.out, B1.out.size⟩
  case round =>
    clear O1 B1
    obtain ⟨k, cur, hk, rfl, hown, hok, hall, hb, hsz⟩ := hrel
    by_cases hlk : k < os.length
    · obtain ⟨b, off, sv, rfl, hbB, c0, hs⟩ := HO.out k hlk
      have c0' := (hb.out.cell (p := ⟨b, off + k, none⟩) hbB).trans c0
      have S0 := Lib.hid ((hs.below hb.out).mono hsz)
      have HA := Lib.hid (allOk_step hlk cur)
      have HL := Lib.hid (allL_step hlk cur)
      generalize os.getD k [] = o at c0 c0' S0 HA HL hs
      obtain ⟨A2, c2, rfl, -, -⟩ := hs
      clear c0
      obtain ⟨A3, c3, rfl⟩ := own_shapeI hown.out.1
      by_cases hf : Pl.fits o cur = true
      · have HF := Lib.hid hf
        clear hf
        go_wp2_with (fail)
        refine (apply_i _ _ o cur _ S0.out hown.out.slice).mono ?_
        rintro e w2 ⟨u2, rfl, o2, b2⟩
        rw [HF.out]
        obtain ⟨A4, c4, rfl⟩ := own_shapeI o2.1
        have O2 := Lib.hid (ownI_lower (lo' := w.heap.size) o2 hsz)
        have B2 := Lib.hid (hb.out.trans (b2.mono hsz))
        have sz2 := b2.size
        clear o2 b2
        go_wp2_with (fail)
        go_roundw
        case rel => exact ⟨k + 1, _, by omega, by go_num, O2.out, by show _ = _; rw [hok.out, HA.out, HF.out, Bool.true_and], by show _ = _; rw [hall.out, HL.out], B2.out, by omega⟩
        case measure => simp [intOf]; omega
      · have HF : Hid (Pl.fits o cur = false) := by show _ = _; simpa using hf
        have HN : Hid (Pl.applyAllOk os ts = false) := by show _ = _; rw [Pl.applyAllOk, hok.out, HA.out, HF.out, Bool.false_and, Bool.and_false]
        have HV : Hid (Pl.applyAll os ts = []) := by show _ = _; rw [Pl.applyAll, if_neg (by rw [HN.out]; decide)]
        clear hf
        go_wp2_with (fail)
        refine (apply_i _ _ o cur _ S0.out hown.out.slice).mono ?_
        rintro e w2 ⟨u2, rfl, o2, b2⟩
        rw [HF.out]
        obtain ⟨A4, c4, rfl⟩ := own_shapeI o2.1
        have B2 := Lib.hid (hb.out.trans (b2.mono hsz))
        clear o2 b2
        go_wp2_with (fail)
        go_ret2
        exact ⟨_, by rw [HN.out]; rfl, by rw [HV.out]; exact ⟨World.ownsRow_nil _ _ _ _, fun g hg => by simp [Value.ownBlock] at hg⟩, B2.out⟩
    · have hd : os.drop k = [] := List.drop_eq_nil_of_le (by omega)
      have HK1 : Hid (Pl.allOk os ts = true) := by show _ = _; rw [hok.out, hd]; rfl
      have HK2 : Hid (Pl.allL os ts = cur) := by show _ = _; rw [hall.out, hd]; rfl
      clear hd
      obtain ⟨A3, c3, rfl⟩ := own_shapeI hown.out.1
      have HN : Hid (Pl.applyAllOk os ts = true) := by show _ = _; rw [Pl.applyAllOk, HT.out, HK1.out]; rfl
      have HV : Hid (Pl.applyAll os ts = cur) := by show _ = _; rw [Pl.applyAll, if_pos HN.out, HK2.out]
      go_wp2_with (fail)
      go_ret2
      exact ⟨_, by rw [HN.out]; rfl, by rw [HV.out]; exact hown.out, hb.out⟩
end Go.Proofs.Ytlpjbbmjchfolaa
