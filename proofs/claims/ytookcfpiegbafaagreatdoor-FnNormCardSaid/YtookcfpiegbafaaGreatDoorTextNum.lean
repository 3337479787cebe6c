/- Contracts of TextNum: the number that a numeral spells. Condition: the library's tables and errors read as their initialisers lay them. -/
import Derived.Test.YtookcfpiegbafaaGreatDoorNumText
import Derived.Test.YtookcfpiegbafaaGreatDoorSh2
import Derived.IntWalk
namespace Go.Proofs.YtookcfpiegbafaaGreatDoor
open Go.RowKit
set_option maxRecDepth 100000

/-- The two errors of strconv hold some error each. -/
abbrev Errs (w : World) : Prop := (∃ tp p, w.var? Tryz.prog "strconv.ErrSyntax" = some #[.iface tp p]) ∧ ∃ tp p, w.var? Tryz.prog "strconv.ErrRange" = some #[.iface tp p]
theorem var_later {n : String} {g : Nat} (hg : Tryz.prog.globalNamed n = some g) {w w' : World} {x : Array Value} (h : w.var? Tryz.prog n = some x) (hb : Below w.heap.size w w') : w'.var? Tryz.prog n = some x := by
  unfold World.var? at h ⊢
  rw [hg] at h ⊢
  simp only [Option.bind_some] at h ⊢
  have hlt : g < w.heap.size := by
    rcases Nat.lt_or_ge g w.heap.size with h1 | h1
    · exact h1
    · rw [Array.getElem?_eq_none h1] at h
      cases h
  rw [hb.block g hlt]
  exact h
theorem Errs.later {w w' : World} (h : Errs w) (hb : Below w.heap.size w w') : Errs w' := by
  obtain ⟨⟨a, b, h1⟩, c, d, h2⟩ := h
  exact ⟨⟨a, b, var_later (g := 1) (by kernel_rfl) h1 hb⟩, c, d, var_later (g := 2) (by kernel_rfl) h2 hb⟩
namespace Pl
def dfold (a : Nat) (l : List UInt8) : Nat := l.foldl (fun a c => a * 10 + (c.toNat - 48)) a
def dval (l : List UInt8) : Nat := dfold 0 l
def isD (c : UInt8) : Prop := 48 ≤ c.toNat ∧ c.toNat ≤ 57
def tnOk (l : List UInt8) : Bool := decide (dval l ≤ 1000000000) && decide (Lib.decDigits (dval l) = l)
def tn (l : List UInt8) : Int := if tnOk l = true then dval l else 0
theorem ofNat_digit {d : Nat} (h : d < 10) : (UInt8.ofNat (48 + d)).toNat = 48 + d := by simp; omega
theorem dval_dec (n : Nat) : dval (Lib.decDigits n) = n := by
  induction n using Nat.strongRecOn with
  | _ n ih =>
    rw [Lib.decDigits]
    split
    · rename_i h
      show 0 * 10 + ((UInt8.ofNat (48 + n)).toNat - 48) = n
      rw [ofNat_digit h]; omega
    · rename_i h
      have := ih (n / 10) (by omega)
      unfold dval dfold at this ⊢
      rw [List.foldl_append, this]
      show n / 10 * 10 + ((UInt8.ofNat (48 + n % 10)).toNat - 48) = n
      rw [ofNat_digit (by omega)]; omega
theorem dec_isD (n : Nat) : ∀ c ∈ Lib.decDigits n, isD c := by
  induction n using Nat.strongRecOn with
  | _ n ih =>
    intro c hc
    rw [Lib.decDigits] at hc
    split at hc
    · rename_i h
      simp only [List.mem_cons, List.not_mem_nil, or_false] at hc
      subst hc
      unfold isD
      rw [ofNat_digit h]; omega
    · rename_i h
      rcases List.mem_append.1 hc with hc | hc
      · exact ih _ (by omega) c hc
      · simp only [List.mem_cons, List.not_mem_nil, or_false] at hc
        subst hc
        unfold isD
        rw [ofNat_digit (by omega)]; omega
theorem dec_len : ∀ (k n : Nat), n < 10 ^ (k + 1) → (Lib.decDigits n).length ≤ k + 1
  | 0, n, h => by rw [Lib.decDigits_one (by omega)]; simp
  | k + 1, n, h => by
    rw [Lib.decDigits]
    split
    · simp
    · rw [List.length_append]
      have := dec_len k (n / 10) (by rw [Nat.pow_succ] at h; omega)
      simp; omega
theorem dec_ne (n : Nat) : Lib.decDigits n ≠ [] := by
  rw [Lib.decDigits]
  split <;> simp
theorem dfold_le : ∀ (l : List UInt8) (a : Nat), a ≤ dfold a l
  | [], a => Nat.le_refl _
  | c :: l, a => by
    have := dfold_le l (a * 10 + (c.toNat - 48))
    unfold dfold at this ⊢
    rw [List.foldl_cons]; omega
theorem parse_digits : ∀ (l : List UInt8) (a : Nat), (∀ c ∈ l, isD c) → dfold a l ≤ 1000000000000 → Lib.parseUint10 a l = .ok (dfold a l)
  | [], a, _, _ => rfl
  | c :: l, a, h, hb => by
    have hc := h c (by simp)
    unfold isD at hc
    have h1 : dfold a (c :: l) = dfold (a * 10 + (c.toNat - 48)) l := rfl
    rw [h1] at hb ⊢
    have h2 := dfold_le l (a * 10 + (c.toNat - 48))
    rw [Lib.parseUint10, if_pos hc, if_neg (by omega), if_neg (by omega)]
    exact parse_digits l _ (fun x hx => h x (by simp [hx])) hb
theorem tnOk_iff {l : List UInt8} : tnOk l = true ↔ dval l ≤ 1000000000 ∧ Lib.decDigits (dval l) = l := by simp [tnOk]
theorem tnOk_dec {n : Nat} (h : n ≤ 1000000000) : tnOk (Lib.decDigits n) = true := by rw [tnOk_iff, dval_dec]; exact ⟨h, rfl⟩
theorem tn_yes {l : List UInt8} (h : tnOk l = true) : tn l = dval l := by rw [tn, if_pos h]
theorem tn_no {l : List UInt8} (h : tnOk l = false) : tn l = 0 := by rw [tn, if_neg (by rw [h]; decide)]
theorem atoi_yes {l : List UInt8} (h : tnOk l = true) : Lib.atoiAll l = .ok (dval l : Int) := by
  obtain ⟨h1, h2⟩ := tnOk_iff.1 h
  have hd := dec_isD (dval l)
  rw [h2] at hd
  have hp := parse_digits l 0 hd (by show dval l ≤ _; omega)
  have hp' : Lib.parseUint10 0 l = .ok (dval l) := hp
  match l, hd, hp', h2 with
  | [], _, _, h2 => exact absurd h2 (dec_ne _)
  | c :: r, hd, hp', _ =>
    have hc := hd c (by simp)
    unfold isD at hc
    have hm : Lib.parseMag (c :: r) = .ok (dval (c :: r)) := by rw [Lib.parseMag, if_neg (by simp)]; exact hp'
    unfold Lib.atoiAll
    simp only
    rw [if_neg (by omega), hm]
    simp only
    rw [if_neg (by omega), if_neg (by omega), if_neg (by omega)]
theorem numText_nat {n : Nat} (h : n ≤ 1000000000) : numText (n : Int) = Lib.decDigits n := by rw [numText, if_pos (by omega)]; simp
/-- What Atoi gave, written again. -/
theorem back_iff {l : List UInt8} {v : Int} (hl : l ≠ []) (ha : Lib.atoiAll l = .ok v) : numText v = l ↔ tnOk l = true := by
  constructor
  · intro h
    unfold numText at h
    split at h
    · rename_i hv
      rw [← h]
      exact tnOk_dec (by omega)
    · exact absurd h.symm hl
  · intro h
    have h2 := atoi_yes h
    rw [ha] at h2
    injection h2 with h2
    subst h2
    obtain ⟨h3, h4⟩ := tnOk_iff.1 h
    rw [numText_nat h3, h4]
theorem back_val {l : List UInt8} {v : Int} (h : tnOk l = true) (ha : Lib.atoiAll l = .ok v) : v = dval l := by
  rw [atoi_yes h] at ha
  injection ha with ha
  exact ha.symm
theorem tnOk_nil : tnOk [] = false := by
  have h : tnOk [] ≠ true := fun h => dec_ne _ (tnOk_iff.1 h).2
  simpa using h
theorem tnOk_long {l : List UInt8} (h : 10 < l.length) : tnOk l = false := by
  have h' : tnOk l ≠ true := fun e => by
    obtain ⟨h1, h2⟩ := tnOk_iff.1 e
    have := dec_len 9 (dval l) (by omega)
    rw [h2] at this
    omega
  simpa using h'
theorem tnOk_bad {l : List UInt8} {c : UInt8} (hc : c ∈ l) (h : ¬ isD c) : tnOk l = false := by
  have h' : tnOk l ≠ true := fun e => by
    obtain ⟨h1, h2⟩ := tnOk_iff.1 e
    exact h (dec_isD (dval l) c (by rw [h2]; exact hc))
  simpa using h'
/-- What the digits spell, written again. -/
theorem again_iff {l : List UInt8} (hl : l ≠ []) : numText (dval l : Int) = l ↔ tnOk l = true := by
  constructor
  · intro h
    unfold numText at h
    split at h
    · rename_i hv
      rw [tnOk_iff]
      exact ⟨by omega, by simpa using h⟩
    · exact absurd h.symm hl
  · intro h
    obtain ⟨h3, h4⟩ := tnOk_iff.1 h
    rw [numText_nat h3, h4]
end Pl
theorem str_eq (t s : ByteArray) {l : List UInt8} (ht : t = ⟨l.toArray⟩) : (t.toList == s.toList) = decide (l = s.data.toList) := by
  subst ht
  rw [ByteArray.toList_eq, ByteArray.toList_eq]
  by_cases h : l = s.data.toList
  · simp [h]
  · simp [h]
theorem str_empty {s : ByteArray} (h : s.data.toList ≠ []) : s.toList.isEmpty = false := by
  rw [ByteArray.toList_eq]
  simpa using h
set_option maxHeartbeats 1000000 in
theorem textNum_i (s : ByteArray) (w : World) (hs : s.size ≤ 1048576) (hT : Tab10 w) (hE : Errs w) :
    Calls Tryz.prog 61 #[.string s] w fun e w' => e = .returned (.tuple #[.int .i64 (Pl.tn s.data.toList), .bool (Pl.tnOk s.data.toList)]) ∧ Below w.heap.size w w' := by
  have HT := Lib.hid hT
  have HE := Lib.hid hE
  clear hT hE
  rcases ha : Lib.atoiAll s.data.toList with v | _ | _
  · have HA := Lib.hid ha
    have hne : s.data.toList ≠ [] := fun e => by rw [e] at ha; cases ha
    have he := str_empty hne
    have HB0 := Lib.hid (Pl.back_iff hne ha)
    by_cases ho : Pl.tnOk s.data.toList = true
    · have HO := Lib.hid ho
      have HV := Lib.hid (Pl.back_val ho ha)
      obtain ⟨t, ht⟩ : ∃ t : ByteArray, t = ⟨(Pl.numText v).toArray⟩ := ⟨_, rfl⟩
      have HTT := Lib.hid ht
      have hq : (t.toList == s.toList) = true := by rw [str_eq t s ht]; exact decide_eq_true (HB0.out.2 ho)
      clear ho ht ha hne
      go_enter Tryz.func61, Tryz.ntmps61
      go_wp2_with (fail)
      refine (Tryz.strconv_Atoi_ok s (by omega) v HA.out _).mono ?_
      rintro e w1 ⟨rfl, hw⟩
      have HB : Hid (Below w.heap.size w w1) := by
        show Below _ _ _
        rcases hw with rfl | ⟨t, rfl⟩
        · exact Below.refl _ _
        · exact Joins.below_bytesWorld _ _ _ _ (Nat.le_refl _)
      clear hw
      go_wp2_with (fail)
      refine (numText_i v _ (HT.out.later HB.out)).mono ?_
      rintro e w2 ⟨rfl, b2⟩
      rw [← HTT.out]
      have HB2 := Lib.hid (HB.out.trans (b2.mono HB.out.size))
      clear b2
      go_wp2_with (fail)
      go_ret2
      exact ⟨by rw [HO.out, Pl.tn_yes HO.out, HV.out]; rfl, HB2.out⟩
    · have HO : Hid (Pl.tnOk s.data.toList = false) := by show _ = _; simpa using ho
      obtain ⟨t, ht⟩ : ∃ t : ByteArray, t = ⟨(Pl.numText v).toArray⟩ := ⟨_, rfl⟩
      have HTT := Lib.hid ht
      have hq : (t.toList == s.toList) = false := by rw [str_eq t s ht]; exact decide_eq_false fun e => ho (HB0.out.1 e)
      clear ho ht ha hne
      go_enter Tryz.func61, Tryz.ntmps61
      go_wp2_with (fail)
      refine (Tryz.strconv_Atoi_ok s (by omega) v HA.out _).mono ?_
      rintro e w1 ⟨rfl, hw⟩
      have HB : Hid (Below w.heap.size w w1) := by
        show Below _ _ _
        rcases hw with rfl | ⟨t, rfl⟩
        · exact Below.refl _ _
        · exact Joins.below_bytesWorld _ _ _ _ (Nat.le_refl _)
      clear hw
      go_wp2_with (fail)
      refine (numText_i v _ (HT.out.later HB.out)).mono ?_
      rintro e w2 ⟨rfl, b2⟩
      rw [← HTT.out]
      have HB2 := Lib.hid (HB.out.trans (b2.mono HB.out.size))
      clear b2
      go_wp2_with (fail)
      go_ret2
      exact ⟨by rw [HO.out, Pl.tn_no HO.out]; rfl, HB2.out⟩
  all_goals
    have HO : Hid (Pl.tnOk s.data.toList = false) := by
      show _ = _
      have : Pl.tnOk s.data.toList ≠ true := fun e => by rw [Pl.atoi_yes e] at ha; cases ha
      simpa using this
    have HA := Lib.hid ha
    clear ha
  · obtain ⟨tp, p, hv⟩ := HE.out.1
    have HV := Lib.hid hv
    clear hv
    go_enter Tryz.func61, Tryz.ntmps61
    go_wp2_with (fail)
    refine (Tryz.strconv_Atoi_syntax_var s (by omega) HA.out tp p _ HV.out).mono ?_
    rintro e w1 ⟨N, rfl, -, -, b1⟩
    have HB := Lib.hid b1
    clear b1
    go_wp2_with (fail)
    go_ret2
    exact ⟨by rw [HO.out, Pl.tn_no HO.out]; rfl, HB.out⟩
  · obtain ⟨tp, p, hv⟩ := HE.out.2
    have HV := Lib.hid hv
    clear hv
    go_enter Tryz.func61, Tryz.ntmps61
    go_wp2_with (fail)
    refine (Tryz.strconv_Atoi_range_var s (by omega) HA.out tp p _ HV.out).mono ?_
    rintro e w1 ⟨N, rfl, -, -, b1⟩
    have HB := Lib.hid b1
    clear b1
    go_wp2_with (fail)
    go_ret2
    exact ⟨by rw [HO.out, Pl.tn_no HO.out]; rfl, HB.out⟩
set_option maxHeartbeats 1000000 in
theorem textNum_s (s : ByteArray) (w : World) (hs : s.size ≤ 1048576) :
    Calls Tryz.prog 25 #[.string s] w fun e w' => e = .returned (.tuple #[.int .i64 (Pl.tn s.data.toList), .bool (Pl.tnOk s.data.toList)]) ∧ Below w.heap.size w w' := by
  have hsz := Lib.size_eq s
  by_cases h0 : s.size = 0
  · have HO : Hid (Pl.tnOk s.data.toList = false) := by
      show _ = _
      rw [List.eq_nil_of_length_eq_zero (l := s.data.toList) (by omega)]
      exact Pl.tnOk_nil
    have k0 : ((s.size : Int) == 0) = true := by simp [h0]
    clear hsz
    go_enter Tryz.func25, Tryz.ntmps25
    go_wp2_with (fail)
    go_ret2
    exact ⟨by rw [HO.out, Pl.tn_no HO.out]; rfl, Below.refl _ _⟩
  have k0 : ((s.size : Int) == 0) = false := beq_eq_false_iff_ne.2 (by omega)
  by_cases h10 : 10 < s.size
  · have HO : Hid (Pl.tnOk s.data.toList = false) := Pl.tnOk_long (by omega)
    clear hsz
    go_enter Tryz.func25, Tryz.ntmps25
    go_wp2_with (fail)
    go_ret2
    exact ⟨by rw [HO.out, Pl.tn_no HO.out]; rfl, Below.refl _ _⟩
  have HSZ := Lib.hid hsz
  clear hsz
  go_enter Tryz.func25, Tryz.ntmps25
  go_wp2_with (fail)
  go_loopw [4, 5] (fun a i wr => ∃ k : Nat, k ≤ s.size ∧ i = .int .i64 k ∧ Hid (a = .int .i64 (Pl.dval (s.data.toList.take k) : Nat)) ∧ Hid (Pl.dval (s.data.toList.take k) < 10 ^ k) ∧ Hid (∀ c ∈ s.data.toList.take k, Pl.isD c) ∧ Hid (Below w.heap.size w wr)) (fun _ i _ => s.size - (intOf i).toNat)
  case atStart => exact ⟨0, Nat.zero_le _, rfl, rfl, by show Pl.dval (List.take 0 _) < _; rw [List.take_zero]; decide, (fun c hc => by simp at hc), Below.refl _ _⟩
  case round =>
    obtain ⟨k, hk, rfl, ha, hV, hdg, hb⟩ := hrel
    obtain ⟨V, hV0⟩ : ∃ V, Pl.dval (s.data.toList.take k) = V := ⟨_, rfl⟩
    have hVb : V < 10000000000 := by
      have h1 := hV.out
      rw [hV0] at h1
      have h2 : (10 : Nat) ^ k ≤ 10 ^ 10 := Nat.pow_le_pow_right (by decide) (by omega)
      have h3 : (10 : Nat) ^ 10 = 10000000000 := by decide
      omega
    have ha' := ha.out
    rw [hV0] at ha'
    subst ha'
    have HV0 := Lib.hid hV0
    clear hV0 ha
    by_cases hlt : k < s.size
    · have hl : k < s.data.toList.length := by simpa using hlt
      have htk : s.data.toList.take (k + 1) = s.data.toList.take k ++ [s[k]'hlt] := by
        rw [List.take_succ_eq_append_getElem hl]; rfl
      by_cases hc : 48 ≤ ((s[k]'hlt).toNat : Int) ∧ ((s[k]'hlt).toNat : Int) ≤ 57
      · obtain ⟨h1, h2⟩ := hc
        have HD : Hid (Pl.dval (s.data.toList.take (k + 1)) = V * 10 + ((s[k]'hlt).toNat - 48)) := by
          show _ = _
          rw [htk, ← HV0.out]
          unfold Pl.dval Pl.dfold
          rw [List.foldl_append]; rfl
        have HG : Hid (∀ c ∈ s.data.toList.take (k + 1), Pl.isD c) := fun c hcm => by
          rw [htk] at hcm
          rcases List.mem_append.1 hcm with hcm | hcm
          · exact hdg.out c hcm
          · simp only [List.mem_cons, List.not_mem_nil, or_false] at hcm
            subst hcm
            exact ⟨by omega, by omega⟩
        have HL : Hid (Pl.dval (s.data.toList.take (k + 1)) < 10 ^ (k + 1)) := by
          show _ < _
          have h3 := hV.out
          rw [HV0.out] at h3
          rw [HD.out, Nat.pow_succ]
          omega
        have t1 : ¬ (((s[k]'hlt).toNat : Int) - 48 < 0) := by omega
        have t2 : ¬ ((9 : Int) < ((s[k]'hlt).toNat : Int) - 48) := by omega
        have HE : Hid (((V * 10 + ((s[k]'hlt).toNat - 48) : Nat) : Int) = (V : Int) * 10 + (((s[k]'hlt).toNat : Int) - 48)) := by show _ = _; omega
        clear htk hl hV hdg
        go_wp2_with (fail)
        go_roundw
        case rel => exact ⟨k + 1, by omega, by go_num, by show _ = _; rw [HD.out]; first | rfl | (rw [HE.out]; rfl) | (congr 1; omega), HL.out, HG.out, hb.out⟩
        case measure => simp [intOf]; omega
      · have HO : Hid (Pl.tnOk s.data.toList = false) := Pl.tnOk_bad (c := s[k]'hlt) (by
          have : s[k]'hlt ∈ s.data.toList.take (k + 1) := by rw [htk]; simp
          exact List.take_subset _ _ this) (fun hh => by unfold Pl.isD at hh; omega)
        clear htk hl hV hdg
        by_cases h1 : ((s[k]'hlt).toNat : Int) - 48 < 0
        · clear hc
          go_wp2_with (fail)
          go_ret2
          exact ⟨by rw [HO.out, Pl.tn_no HO.out]; rfl, hb.out⟩
        · have h2 : (9 : Int) < ((s[k]'hlt).toNat : Int) - 48 := by omega
          have h3 : ((s[k]'hlt).toNat : Int) ≤ 255 := by have := (s[k]'hlt).toNat_lt; omega
          clear hc
          go_wp2_with (fail)
          go_ret2
          exact ⟨by rw [HO.out, Pl.tn_no HO.out]; rfl, hb.out⟩
    · have hne : s.data.toList ≠ [] := fun e => by have h := HSZ.out; rw [e] at h; exact h0 h
      have HV : Hid (Pl.dval s.data.toList = V) := by
        show _ = _
        rw [← HV0.out, List.take_of_length_le (by rw [← HSZ.out]; omega)]
      have hag := Pl.again_iff hne
      rw [HV.out] at hag
      obtain ⟨t, ht⟩ : ∃ t : ByteArray, t = ⟨(Pl.numText (V : Int)).toArray⟩ := ⟨_, rfl⟩
      have HTT := Lib.hid ht
      by_cases ho : Pl.tnOk s.data.toList = true
      · have HO := Lib.hid ho
        have hq : (t.toList == s.toList) = true := by rw [str_eq t s ht]; exact decide_eq_true (hag.2 ho)
        clear ho ht hne hag hV hdg
        go_wp2_with (fail)
        refine (numText_s (V : Int) _).mono ?_
        rintro e w2 ⟨rfl, b2⟩
        rw [← HTT.out]
        have HB2 := Lib.hid (hb.out.trans (b2.mono hb.out.size))
        clear b2
        go_wp2_with (fail)
        go_ret2
        exact ⟨by rw [HO.out, Pl.tn_yes HO.out, HV.out]; rfl, HB2.out⟩
      · have HO : Hid (Pl.tnOk s.data.toList = false) := by show _ = _; simpa using ho
        have hq : (t.toList == s.toList) = false := by rw [str_eq t s ht]; exact decide_eq_false fun e => ho (hag.1 e)
        clear ho ht hne hag hV hdg
        go_wp2_with (fail)
        refine (numText_s (V : Int) _).mono ?_
        rintro e w2 ⟨rfl, b2⟩
        rw [← HTT.out]
        have HB2 := Lib.hid (hb.out.trans (b2.mono hb.out.size))
        clear b2
        go_wp2_with (fail)
        go_ret2
        exact ⟨by rw [HO.out, Pl.tn_no HO.out]; rfl, HB2.out⟩
end Go.Proofs.YtookcfpiegbafaaGreatDoor
