/- Contracts of PartOk and PartCount. Condition: none longer than any slice can be. -/
import Derived.Test.YtookcfpiegbafaaGreatDoorGC
namespace Go.Proofs.YtookcfpiegbafaaGreatDoor
open Go.RowKit
set_option maxRecDepth 100000

theorem partOk_keep {p : Pt} (h : p.kind = 1 ∨ p.kind = 3) : Pl.partOk p = ((decide (0 ≤ p.n) && decide (p.n ≤ 200)) && decide (p.signs.length = 0)) := by
  rw [Pl.partOk, if_pos h]
  congr 1
  cases p.signs <;> simp
theorem partOk_put {p : Pt} (h : p.kind = 2) : Pl.partOk p = (decide (p.n = 0) && (decide (p.signs.length ≤ 200) && Pl.signsOk p.signs)) := by
  rw [Pl.partOk, if_neg (by omega), if_pos h]
theorem partOk_other {p : Pt} (h1 : p.kind ≠ 1) (h2 : p.kind ≠ 2) (h3 : p.kind ≠ 3) : Pl.partOk p = false := by
  rw [Pl.partOk, if_neg (by omega), if_neg h2]

set_option maxHeartbeats 1000000 in
theorem partOk_i (v : Value) (p : Pt) (w : World) (h : PartV w.heap.size w v p) :
    Calls Tryz.prog 72 #[v] w fun e w' => e = .returned (.bool (Pl.partOk p)) ∧ Below w.heap.size w w' := by
  obtain ⟨sv, rfl, hs⟩ := h
  have hs0 := fun o => hs.later ((Below.refl _ _).alloc (Nat.le_refl _) o)
  have hl := hs.len
  have HL := hs.len
  unfold maxLen at HL
  obtain ⟨A, c, rfl, -, -⟩ := hs
  by_cases h13 : p.kind = 1 ∨ p.kind = 3
  · have HP := Lib.hid (partOk_keep h13)
    by_cases hn : 0 ≤ p.n ∧ p.n ≤ 200
    · have HN : Hid ((decide (0 ≤ p.n) && decide (p.n ≤ 200)) = true) := by show _ = _; simpa using hn
      obtain ⟨n0, n1⟩ := hn
      have H0 : Hid ((((p.signs.length : Nat) : Int) == 0) = decide (p.signs.length = 0)) := by
        show _ = _
        rw [Bool.eq_iff_iff]; simp
      rcases h13 with hk | hk
      all_goals
        first
        | (have k1 : (p.kind == 1) = true := by simp [hk])
        | (have k1 : (p.kind == 1) = false := by simp [hk])
        first
        | (have k3 : (p.kind == 3) = true := by simp [hk])
        | (have k3 : (p.kind == 3) = false := by simp [hk])
        clear hk
        go_enter Tryz.func72, Tryz.ntmps72
        go_wp2_with (go_at_call 46; refine (within_any _ _ _ _).mono ?_; rintro e w' ⟨rfl, rfl⟩)
        all_goals go_ret
        all_goals exact ⟨ret_bool (by rw [HP.out, HN.out, ← H0.out]; simp), (Below.refl _ _).alloc (Nat.le_refl _) _⟩
    · have HN : Hid ((decide (0 ≤ p.n) && decide (p.n ≤ 200)) = false) := by show _ = _; simpa using hn
      rcases h13 with hk | hk
      all_goals
        first
        | (have k1 : (p.kind == 1) = true := by simp [hk])
        | (have k1 : (p.kind == 1) = false := by simp [hk])
        first
        | (have k3 : (p.kind == 3) = true := by simp [hk])
        | (have k3 : (p.kind == 3) = false := by simp [hk])
        clear hk
        by_cases n0 : 0 ≤ p.n
        all_goals
          go_enter Tryz.func72, Tryz.ntmps72
          go_wp2_with (go_at_call 46; refine (within_any _ _ _ _).mono ?_; rintro e w' ⟨rfl, rfl⟩)
          all_goals go_ret
          all_goals exact ⟨ret_bool (by rw [HP.out, HN.out]; rfl), (Below.refl _ _).alloc (Nat.le_refl _) _⟩
  · have k1 : (p.kind == 1) = false := by simp; omega
    have k3 : (p.kind == 3) = false := by simp; omega
    by_cases hk : p.kind = 2
    · have HP := Lib.hid (partOk_put hk)
      have k2 : (p.kind == 2) = true := by simp [hk]
      clear hk h13
      by_cases hn : p.n = 0
      · have n0 : (p.n == 0) = true := by simp [hn]
        have HN := Lib.hid hn
        clear hn
        by_cases h2 : p.signs.length ≤ 200
        · go_enter Tryz.func72, Tryz.ntmps72
          go_wp2_with (go_at_call 67; refine (signsOk_i _ _ p.signs _ (hs0 _) hl).mono ?_; rintro e w' ⟨rfl, rfl⟩)
          all_goals go_ret
          all_goals exact ⟨ret_bool (by rw [HP.out, HN.out]; simp [h2]), (Below.refl _ _).alloc (Nat.le_refl _) _⟩
        · go_enter Tryz.func72, Tryz.ntmps72
          go_wp2_with (go_at_call 67; refine (signsOk_i _ _ p.signs _ (hs0 _) hl).mono ?_; rintro e w' ⟨rfl, rfl⟩)
          all_goals go_ret
          all_goals exact ⟨ret_bool (by rw [HP.out, HN.out]; simp; omega), (Below.refl _ _).alloc (Nat.le_refl _) _⟩
      · have n0 : (p.n == 0) = false := by simp [hn]
        have HN := Lib.hid hn
        clear hn
        go_enter Tryz.func72, Tryz.ntmps72
        go_wp2_with (go_at_call 67; refine (signsOk_i _ _ p.signs _ (hs0 _) hl).mono ?_; rintro e w' ⟨rfl, rfl⟩)
        all_goals go_ret
        all_goals exact ⟨ret_bool (by rw [HP.out]; simp [HN.out]), (Below.refl _ _).alloc (Nat.le_refl _) _⟩
    · have HP := Lib.hid (partOk_other (by omega) hk (by omega))
      have k2 : (p.kind == 2) = false := by simp [hk]
      clear hk h13
      go_enter Tryz.func72, Tryz.ntmps72
      go_wp2_with (fail)
      go_ret
      exact ⟨ret_bool HP.out.symm, (Below.refl _ _).alloc (Nat.le_refl _) _⟩
set_option maxHeartbeats 1000000 in
theorem partOk_s (v : Value) (p : Pt) (w : World) (h : PartV w.heap.size w v p) :
    Calls Tryz.prog 91 #[v] w fun e w' => e = .returned (.bool (Pl.partOk p)) ∧ Below w.heap.size w w' := by
  obtain ⟨sv, rfl, hs⟩ := h
  have hs0 := fun o => hs.later ((Below.refl _ _).alloc (Nat.le_refl _) o)
  have hl := hs.len
  have HL := hs.len
  unfold maxLen at HL
  obtain ⟨A, c, rfl, -, -⟩ := hs
  by_cases h13 : p.kind = 1 ∨ p.kind = 3
  · have HP := Lib.hid (partOk_keep h13)
    by_cases hn : 0 ≤ p.n ∧ p.n ≤ 200
    · have HN : Hid ((decide (0 ≤ p.n) && decide (p.n ≤ 200)) = true) := by show _ = _; simpa using hn
      obtain ⟨n0, n1⟩ := hn
      have H0 : Hid ((((p.signs.length : Nat) : Int) == 0) = decide (p.signs.length = 0)) := by
        show _ = _
        rw [Bool.eq_iff_iff]; simp
      rcases h13 with hk | hk
      all_goals
        first
        | (have k1 : (p.kind == 1) = true := by simp [hk])
        | (have k1 : (p.kind == 1) = false := by simp [hk])
        first
        | (have k3 : (p.kind == 3) = true := by simp [hk])
        | (have k3 : (p.kind == 3) = false := by simp [hk])
        clear hk
        go_enter Tryz.func91, Tryz.ntmps91
        go_wp2_with (go_at_call 73; refine (l01In_any _ _ _ _).mono ?_; rintro e w' ⟨rfl, rfl⟩)
        all_goals go_ret
        all_goals exact ⟨ret_bool (by rw [HP.out, HN.out, ← H0.out]; simp), (Below.refl _ _).alloc (Nat.le_refl _) _⟩
    · have HN : Hid ((decide (0 ≤ p.n) && decide (p.n ≤ 200)) = false) := by show _ = _; simpa using hn
      rcases h13 with hk | hk
      all_goals
        first
        | (have k1 : (p.kind == 1) = true := by simp [hk])
        | (have k1 : (p.kind == 1) = false := by simp [hk])
        first
        | (have k3 : (p.kind == 3) = true := by simp [hk])
        | (have k3 : (p.kind == 3) = false := by simp [hk])
        clear hk
        by_cases n0 : 0 ≤ p.n
        all_goals
          go_enter Tryz.func91, Tryz.ntmps91
          go_wp2_with (go_at_call 73; refine (l01In_any _ _ _ _).mono ?_; rintro e w' ⟨rfl, rfl⟩)
          all_goals go_ret
          all_goals exact ⟨ret_bool (by rw [HP.out, HN.out]; rfl), (Below.refl _ _).alloc (Nat.le_refl _) _⟩
  · have k1 : (p.kind == 1) = false := by simp; omega
    have k3 : (p.kind == 3) = false := by simp; omega
    by_cases hk : p.kind = 2
    · have HP := Lib.hid (partOk_put hk)
      have k2 : (p.kind == 2) = true := by simp [hk]
      clear hk h13
      by_cases hn : p.n = 0
      · have n0 : (p.n == 0) = true := by simp [hn]
        have HN := Lib.hid hn
        clear hn
        by_cases h2 : p.signs.length ≤ 200
        all_goals
          by_cases hsg : Pl.signsOk p.signs = true
          all_goals
            go_enter Tryz.func91, Tryz.ntmps91
            go_wp2_with (go_at_call 74; refine (signsOk_s _ _ p.signs _ (hs0 _) hl).mono ?_; rintro e w' ⟨rfl, rfl⟩)
            all_goals go_ret
            all_goals refine ⟨ret_bool ?_, (Below.refl _ _).alloc (Nat.le_refl _) _⟩
            all_goals rw [HP.out, HN.out]
            all_goals simp [hsg]
            all_goals omega
      · have n0 : (p.n == 0) = false := by simp [hn]
        have HN := Lib.hid hn
        clear hn
        go_enter Tryz.func91, Tryz.ntmps91
        go_wp2_with (go_at_call 74; refine (signsOk_s _ _ p.signs _ (hs0 _) hl).mono ?_; rintro e w' ⟨rfl, rfl⟩)
        all_goals go_ret
        all_goals exact ⟨ret_bool (by rw [HP.out]; simp [HN.out]), (Below.refl _ _).alloc (Nat.le_refl _) _⟩
    · have HP := Lib.hid (partOk_other (by omega) hk (by omega))
      have k2 : (p.kind == 2) = false := by simp [hk]
      clear hk h13
      go_enter Tryz.func91, Tryz.ntmps91
      go_wp2_with (fail)
      go_ret
      exact ⟨ret_bool HP.out.symm, (Below.refl _ _).alloc (Nat.le_refl _) _⟩

theorem partCount_take {o : List Pt} {k : Nat} (h : k < o.length) (q : Int) : Pl.partCount (o.take (k + 1)) q = Pl.partCount (o.take k) q + if (o.getD k ⟨0, 0, []⟩).kind = q then 1 else 0 := by
  rw [List.take_succ_eq_append_getElem h, Pl.partCount, List.map_append, List.sum_append]
  simp [Pl.partCount, List.getD, h]
theorem partCount_bd (o : List Pt) (q : Int) : 0 ≤ Pl.partCount o q ∧ Pl.partCount o q ≤ o.length := by
  induction o with
  | nil => simp [Pl.partCount]
  | cons p o ih =>
    simp only [Pl.partCount, List.map_cons, List.sum_cons, List.length_cons] at ih ⊢
    split <;> omega

end Go.Proofs.YtookcfpiegbafaaGreatDoor
