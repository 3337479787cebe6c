/- Contracts of the laws' counts: szPart, szPartS. Condition: at most 2^20 are counted. -/
import Derived.Test.YtookcfpiegbafaaDoorToInts
namespace Go.Proofs.YtookcfpiegbafaaDoor
open Go.RowKit
set_option maxRecDepth 100000

/-- What szPartS leaves of 'left' behind the first parts. -/
def Pl.sz : List Pt → Int → Int
  | [], left => left
  | p :: ps, left => if left < p.signs.length then -1 else Pl.sz ps (left - p.signs.length)
def Pl.szS (ps : List Pt) (left : Int) : Int := if left < ps.length then -1 else Pl.sz ps (left - ps.length)

theorem sz_bd : ∀ (ps : List Pt) (left : Int), 0 ≤ left → Pl.sz ps left ≤ left ∧ (0 ≤ Pl.sz ps left → ∀ p ∈ ps, (p.signs.length : Int) ≤ left)
  | [], left, _ => ⟨Int.le_refl _, fun _ p hp => by simp at hp⟩
  | p :: ps, left, _ => by
    rw [Pl.sz]
    split
    · exact ⟨by omega, fun h => by omega⟩
    · have := sz_bd ps (left - p.signs.length) (by omega)
      refine ⟨by omega, fun h0 q hq => ?_⟩
      rcases List.mem_cons.1 hq with rfl | hq
      · omega
      · have := this.2 h0 q hq
        omega
theorem szS_bd {ps : List Pt} {left : Int} (_h : 0 ≤ left) (h0 : 0 ≤ Pl.szS ps left) : (ps.length : Int) ≤ left ∧ ∀ p ∈ ps, (p.signs.length : Int) ≤ left := by
  unfold Pl.szS at h0
  split at h0
  · omega
  · have := sz_bd ps (left - ps.length) (by omega)
    exact ⟨by omega, fun p hp => by have := this.2 h0 p hp; omega⟩
theorem szS_le {ps : List Pt} {left : Int} (_h : 0 ≤ left) : Pl.szS ps left ≤ left := by
  unfold Pl.szS
  split
  · omega
  · have := sz_bd ps (left - ps.length) (by omega)
    omega
theorem szS_nat {ps : List Pt} {left : Int} (h : 0 ≤ left) (h1 : left ≤ 1048576) (h0 : 0 ≤ Pl.szS ps left) : ps.length ≤ 1048576 ∧ ∀ p ∈ ps, p.signs.length ≤ 1048576 := by
  have := szS_bd h h0
  exact ⟨by omega, fun p hp => by have := this.2 p hp; omega⟩

set_option maxHeartbeats 400000 in
theorem szPart_l (B : Nat) (v : Value) (p : Pt) (left : Int) (w : World) (h : PartV B w v p) (h0 : 0 ≤ left) (h1 : left ≤ 1048576) :
    Calls Tryd.prog 52 #[v, .int .i64 left] w fun e w' => e = .returned (.int .i64 (if left < p.signs.length then -1 else left - p.signs.length)) ∧ Below w.heap.size w w' := by
  obtain ⟨sv, rfl, hs⟩ := h
  have hn := hs.len
  obtain ⟨A, c, rfl, -, -⟩ := hs
  by_cases hlt : left < p.signs.length
  · go_enter Tryd.func52, Tryd.ntmps52
    go_wp2_with (go_at_call 74; refine (szIntS_l _ _ _ _ _ h0 h1 hn).mono ?_; rintro e w' ⟨rfl, rfl⟩)
    all_goals go_ret
    all_goals exact ⟨rfl, (Below.refl _ _).alloc (Nat.le_refl _) _⟩
  · have hle : (p.signs.length : Int) ≤ left := by omega
    go_enter Tryd.func52, Tryd.ntmps52
    go_wp2_with (go_at_call 74; refine (szIntS_l _ _ _ _ _ h0 h1 hn).mono ?_; rintro e w' ⟨rfl, rfl⟩)
    all_goals go_ret
    all_goals exact ⟨rfl, (Below.refl _ _).alloc (Nat.le_refl _) _⟩

theorem sz_step {ps : List Pt} {k : Nat} (h : k < ps.length) (left : Int) (hlt : ¬ left < (ps.getD k ⟨0, 0, []⟩).signs.length) : Pl.sz (ps.drop k) left = Pl.sz (ps.drop (k + 1)) (left - (ps.getD k ⟨0, 0, []⟩).signs.length) := by
  rw [List.drop_eq_getElem_cons h, Pl.sz]
  simp [List.getD, h] at hlt ⊢
  omega
theorem sz_stop {ps : List Pt} {k : Nat} (h : k < ps.length) (left : Int) (hlt : left < (ps.getD k ⟨0, 0, []⟩).signs.length) : Pl.sz (ps.drop k) left = -1 := by
  rw [List.drop_eq_getElem_cons h, Pl.sz]
  simp [List.getD, h] at hlt ⊢
  omega

set_option maxHeartbeats 800000 in
theorem szPartS_l (v : Value) (ps : List Pt) (left : Int) (w : World) (h : SliceParts w.heap.size w v ps) (h0 : 0 ≤ left) (h1 : left ≤ 1048576) :
    Calls Tryd.prog 26 #[v, .int .i64 left] w fun e w' => e = .returned (.int .i64 (Pl.szS ps left)) ∧ Below w.heap.size w w' := by
  have hl := h.len
  unfold maxLen at hl
  obtain ⟨A, c, rfl, -, h⟩ := h
  by_cases hlt : left < ps.length
  · go_enter Tryd.func26, Tryd.ntmps26
    go_wp2_with (fail)
    go_ret
    exact ⟨ret_int (by rw [Pl.szS, if_pos hlt]), Below.refl _ _⟩
  · have hle : (ps.length : Int) ≤ left := by omega
    obtain ⟨B, hB⟩ : ∃ B, B = w.heap.size := ⟨_, rfl⟩
    have HB := Lib.hid hB
    rw [← hB] at h
    clear hB hlt
    go_enter Tryd.func26, Tryd.ntmps26
    go_wp2_with (fail)
    go_loopw [1, 5] (fun l i wr => ∃ (k : Nat) (r : Int), k ≤ ps.length ∧ i = .int .i64 k ∧ l = .int .i64 r ∧ 0 ≤ r ∧ r ≤ 1048576 ∧ Hid (Pl.szS ps left = Pl.sz (ps.drop k) r) ∧ Below B w wr ∧ B ≤ wr.heap.size ∧ PartsAt B wr A ps) (fun _ i _ => ps.length - (intOf i).toNat)
    case atStart => exact ⟨0, _, Nat.zero_le _, rfl, rfl, by omega, by omega, by show _ = _; rw [Pl.szS, if_neg (by omega)]; rfl, Below.refl _ _, by rw [HB.out]; exact Nat.le_refl _, h⟩
    case round =>
      clear h
      obtain ⟨k, r, hk, rfl, rfl, hr0, hr1, hsz, hb, hBs, hr⟩ := hrel
      by_cases hkl : k < ps.length
      · obtain ⟨b, off, sv, rfl, hbB, c0, c1, c2, hs⟩ := hr k hkl
        have Hr := Lib.hid hr
        have Hb := Lib.hid hb
        clear hr hb
        by_cases hlt : r < (ps.getD k ⟨0, 0, []⟩).signs.length
        · have HS := Lib.hid (hsz.out.trans (sz_stop hkl r hlt))
          generalize ps.getD k ⟨0, 0, []⟩ = p at c0 c1 hs hlt
          go_wp2_with (go_at_call 52; refine (szPart_l B _ p r _ ⟨sv, rfl, hs⟩ hr0 hr1).mono ?_; rintro e w1 ⟨rfl, b1⟩)
          go_ret
          exact ⟨ret_int HS.out.symm, by rw [← HB.out]; exact Hb.out.trans (b1.mono hBs)⟩
        · have HS := Lib.hid (hsz.out.trans (sz_step hkl r hlt))
          generalize ps.getD k ⟨0, 0, []⟩ = p at c0 c1 hs hlt HS
          have hle' : (p.signs.length : Int) ≤ r := by omega
          clear hlt
          go_wp2_with (go_at_call 52; refine (szPart_l B _ p r _ ⟨sv, rfl, hs⟩ hr0 hr1).mono ?_; rintro e w1 ⟨rfl, b1⟩)
          go_roundw
          case rel => exact ⟨k + 1, r - p.signs.length, by omega, by go_num, by rw [if_neg (by omega)], by omega, by omega, HS.out, Hb.out.trans (b1.mono hBs), Nat.le_trans hBs b1.size, Hr.out.below (b1.mono hBs)⟩
          case measure => simp [intOf]; omega
      · have e : ps.drop k = [] := List.drop_eq_nil_of_le (by omega)
        rw [e] at hsz
        clear e hr
        go_wp2_with (fail)
        go_ret
        exact ⟨ret_int hsz.out.symm, by rw [← HB.out]; exact hb⟩
end Go.Proofs.YtookcfpiegbafaaDoor
