/- Contracts of OpSame: two lists of parts held against each other. Condition: none longer than any slice can be. -/
import Derived.Test.YtookcfpiegbafaaGreatDoorParts
import Derived.StillTailTactics
namespace Go.Proofs.YtookcfpiegbafaaGreatDoor
open Go.RowKit
set_option maxRecDepth 100000

def Pl.same (p q : Pt) : Bool := decide (p.kind = q.kind) && (decide (p.n = q.n) && decide (p.signs = q.signs))
def Pl.sameS : List Pt → List Pt → Bool
  | [], [] => true
  | p :: ps, q :: qs => Pl.same p q && Pl.sameS ps qs
  | _, _ => false
theorem sameS_len : ∀ {ps qs : List Pt}, Pl.sameS ps qs = true → ps.length = qs.length
  | [], [], _ => rfl
  | [], _ :: _, h => by simp [Pl.sameS] at h
  | _ :: _, [], h => by simp [Pl.sameS] at h
  | p :: ps, q :: qs, h => by
    simp only [Pl.sameS, Bool.and_eq_true] at h
    simp [sameS_len h.2]
theorem sameS_take : ∀ {ps qs : List Pt} {k : Nat}, k < ps.length → k < qs.length → Pl.sameS (ps.take (k + 1)) (qs.take (k + 1)) = (Pl.sameS (ps.take k) (qs.take k) && Pl.same (ps.getD k ⟨0, 0, []⟩) (qs.getD k ⟨0, 0, []⟩))
  | [], _, _, h, _ => absurd h (Nat.not_lt_zero _)
  | _ :: _, [], _, _, h => absurd h (Nat.not_lt_zero _)
  | p :: ps, q :: qs, 0, _, _ => by simp [Pl.sameS]
  | p :: ps, q :: qs, k + 1, h, h' => by
    have := @sameS_take ps qs k (by simpa using h) (by simpa using h')
    simp only [List.take_succ_cons, Pl.sameS, this, List.getD_cons_succ]
    rw [Bool.and_assoc]
theorem sameS_at : ∀ {ps qs : List Pt} {k : Nat}, k < ps.length → k < qs.length → Pl.same (ps.getD k ⟨0, 0, []⟩) (qs.getD k ⟨0, 0, []⟩) = false → Pl.sameS ps qs = false
  | [], _, _, h, _, _ => absurd h (Nat.not_lt_zero _)
  | _ :: _, [], _, _, h, _ => absurd h (Nat.not_lt_zero _)
  | p :: ps, q :: qs, 0, _, _, h => by simp only [List.getD_cons_zero] at h; simp [Pl.sameS, h]
  | p :: ps, q :: qs, k + 1, h, h', hs => by
    have := @sameS_at ps qs k (by simpa using h) (by simpa using h') (by simpa using hs)
    simp [Pl.sameS, this]
theorem same_k {p q : Pt} (h : p.kind ≠ q.kind) : Pl.same p q = false := by simp [Pl.same, h]
theorem same_n {p q : Pt} (h : p.n ≠ q.n) : Pl.same p q = false := by simp [Pl.same, h]
theorem same_s {p q : Pt} (h : p.kind = q.kind) (h2 : p.n = q.n) : Pl.same p q = decide (p.signs = q.signs) := by simp [Pl.same, h, h2]

set_option maxHeartbeats 1000000 in
theorem samePart_i (v v' : Value) (p q : Pt) (w : World) (h : PartV w.heap.size w v p) (h' : PartV w.heap.size w v' q) :
    Calls Tryz.prog 49 #[v, v'] w fun e w' => e = .returned (.bool (Pl.same p q)) ∧ Below w.heap.size w w' := by
  obtain ⟨sv, rfl, hs⟩ := h
  obtain ⟨sv', rfl, hs'⟩ := h'
  have hW : ∀ (a b : Obj), Below w.heap.size w ((w.alloc a).alloc b) := fun a b => ((Below.refl _ _).alloc (Nat.le_refl _) a).alloc (by simp) b
  have s0 := hs
  have s0' := hs'
  obtain ⟨A, c, rfl, -, -⟩ := hs
  obtain ⟨A', c', rfl, -, -⟩ := hs'
  by_cases hk : p.kind = q.kind
  · by_cases hn : p.n = q.n
    · have HS := Lib.hid (same_s hk hn)
      have k1 : (p.kind == q.kind) = true := by simp [hk]
      have k2 : (p.n == q.n) = true := by simp [hn]
      clear hk hn
      go_enter Tryz.func49, Tryz.ntmps49
      go_wp2_with (fail)
      refine (equal_lib w.heap.size _ _ p.signs q.signs _ (s0.below (hW _ _)) (s0'.below (hW _ _)) s0.len).mono ?_
      rintro e w1 ⟨rfl, n1, rfl⟩
      go_wp2_with (fail)
      go_ret
      exact ⟨ret_bool HS.out.symm, below_drewN (hW _ _) _⟩
    · have HS := Lib.hid (same_n hn)
      have k1 : (p.kind == q.kind) = true := by simp [hk]
      have k2 : (p.n == q.n) = false := by simp [hn]
      clear hk hn
      go_enter Tryz.func49, Tryz.ntmps49
      go_wp2_with (fail)
      go_ret
      exact ⟨ret_bool HS.out.symm, hW _ _⟩
  · have HS := Lib.hid (same_k hk)
    have k1 : (p.kind == q.kind) = false := by simp [hk]
    clear hk
    go_enter Tryz.func49, Tryz.ntmps49
    go_wp2_with (fail)
    go_ret
    exact ⟨ret_bool HS.out.symm, hW _ _⟩
set_option maxHeartbeats 2000000 in
set_option maxRecDepth 100000 in
theorem equalFunc_lib (v v' : Value) (ps qs : List Pt) (w : World) (h : SliceParts w.heap.size w v ps) (h' : SliceParts w.heap.size w v' qs) :
    Calls Tryz.prog 48 #[v, v', .func (.func 49) #[] #[]] w fun e w' => e = .returned (.bool (Pl.sameS ps qs)) ∧ Below w.heap.size w w' := by
  have hl := h.len
  unfold maxLen at hl
  obtain ⟨A, c, rfl, -, h⟩ := h
  obtain ⟨A', c', rfl, -, h'⟩ := h'
  obtain ⟨B, hB⟩ : ∃ B, B = w.heap.size := ⟨_, rfl⟩
  have HB := Lib.hid hB
  rw [← hB] at h h'
  clear hB
  by_cases hlen : ps.length = qs.length
  · go_enter Tryz.func48, Tryz.ntmps48
    rw [← hlen]
    have H2 := Lib.hid hlen
    clear hlen
    go_wp2
    go_loopw [17] (fun i wr => ∃ k : Nat, k ≤ ps.length ∧ i = .int .i64 k ∧ Hid (Pl.sameS (ps.take k) (qs.take k) = true) ∧ Below B w wr ∧ B ≤ wr.heap.size ∧ PartsAt B wr A ps ∧ PartsAt B wr A' qs) (fun i _ => ps.length - (intOf i).toNat)
    case atStart => exact ⟨0, Nat.zero_le _, rfl, rfl, Below.refl _ _, by rw [HB.out]; exact Nat.le_refl _, h, h'⟩
    case round =>
      clear h h'
      obtain ⟨k, hk, rfl, hx, hb, hBs, hr, hr'⟩ := hrel
      by_cases hlt : k < ps.length
      · obtain ⟨b, off, sv, rfl, hbB, c0, c1, c2, hs⟩ := hr k hlt
        obtain ⟨b', off', sv', rfl, hbB', c0', c1', c2', hs'⟩ := hr' k (by have := H2.out; omega)
        have HT := Lib.hid (sameS_take (ps := ps) (qs := qs) hlt (by have := H2.out; omega))
        have HF := Lib.hid (sameS_at (ps := ps) (qs := qs) hlt (by have := H2.out; omega))
        have Hr := Lib.hid hr
        have Hr' := Lib.hid hr'
        have Hb := Lib.hid hb
        clear hr hr' hb
        generalize ps.getD k ⟨0, 0, []⟩ = p at c0 c1 hs HT HF
        generalize qs.getD k ⟨0, 0, []⟩ = q at c0' c1' hs' HT HF
        have s0 := Lib.hid hs
        have s0' := Lib.hid hs'
        obtain ⟨A1, d1, rfl, -, -⟩ := hs
        obtain ⟨A2, d2, rfl, -, -⟩ := hs'
        have hW : ∀ (a b : Obj), Below wr.heap.size wr ((wr.alloc a).alloc b) := fun a b => ((Below.refl _ _).alloc (Nat.le_refl _) a).alloc (by simp) b
        have HW := Lib.hid hW
        clear hW
        have hz : b' < wr.heap.size := by omega
        by_cases hp : Pl.same p q = true
        · have HP := Lib.hid hp
          go_wp2_with (fail)
          refine (samePart_i _ _ p q _ ⟨_, rfl, ((s0.out.mono hBs).later (HW.out _ _))⟩ ⟨_, rfl, ((s0'.out.mono hBs).later (HW.out _ _))⟩).mono ?_
          rintro e w1 ⟨rfl, b1⟩
          have hb1 : Below B wr w1 := ((HW.out _ _).trans (b1.mono (by simp; omega))).mono hBs
          go_wp2_with (fail)
          go_roundw
          case rel => exact ⟨k + 1, by omega, by go_num, by show _ = _; rw [HT.out, hx.out, HP.out]; rfl, Hb.out.trans hb1, Nat.le_trans hBs hb1.size, Hr.out.below hb1, Hr'.out.below hb1⟩
          case measure => simp [intOf]; omega
        · have hp' : Pl.same p q = false := by simpa using hp
          have HP := Lib.hid hp'
          clear hp
          go_wp2_with (fail)
          refine (samePart_i _ _ p q _ ⟨_, rfl, ((s0.out.mono hBs).later (HW.out _ _))⟩ ⟨_, rfl, ((s0'.out.mono hBs).later (HW.out _ _))⟩).mono ?_
          rintro e w1 ⟨rfl, b1⟩
          have hb1 : Below B wr w1 := ((HW.out _ _).trans (b1.mono (by simp; omega))).mono hBs
          go_wp2_with (fail)
          go_ret
          exact ⟨ret_bool (HF.out HP.out).symm, by rw [← HB.out]; exact Hb.out.trans hb1⟩
      · have hx' := hx.out
        have := H2.out
        rw [List.take_of_length_le (by omega), List.take_of_length_le (by omega)] at hx'
        have HX := Lib.hid hx'
        clear hx hx' hr hr' this
        go_wp2_with (fail)
        go_ret
        exact ⟨ret_bool HX.out.symm, by rw [← HB.out]; exact hb⟩
  · have hf : Hid (Pl.sameS ps qs = false) := by
      show _ = _
      cases hs : Pl.sameS ps qs with
      | false => rfl
      | true => exact absurd (sameS_len hs) hlen
    have hb : (((ps.length : Nat) : Int) == ((qs.length : Nat) : Int)) = false := beq_eq_false_iff_ne.2 (by omega)
    have hb2 : (((ps.length : Nat) : Int) != ((qs.length : Nat) : Int)) = true := by rw [bne_iff_ne]; omega
    clear hlen
    go_enter Tryz.func48, Tryz.ntmps48
    go_wp2_with (fail)
    go_ret
    exact ⟨ret_bool hf.out.symm, Below.refl _ _⟩
theorem opSame_i (v v' : Value) (ps qs : List Pt) (w : World) (h : SliceParts w.heap.size w v ps) (h' : SliceParts w.heap.size w v' qs) :
    Calls Tryz.prog 18 #[v, v'] w fun e w' => e = .returned (.bool (Pl.sameS ps qs)) ∧ Below w.heap.size w w' := by
  go_enter Tryz.func18, Tryz.ntmps18
  go_wp2_with (fail)
  refine (equalFunc_lib _ _ ps qs _ h h').mono ?_
  rintro e w1 ⟨rfl, b1⟩
  go_wp2_with (fail)
  go_ret
  exact ⟨rfl, b1⟩
theorem signsSame_e (B : Nat) (v v' : Value) (xs ys : List Int) (b : Bool) (w : World) (n : Nat) (HD : Hid (decide (xs = ys) = b)) (h : SliceInts B (w.drewN n) v xs) (h' : SliceInts B (w.drewN n) v' ys) (hl : xs.length ≤ maxLen) :
    Calls Tryz.prog 78 #[v, v'] (w.drewN n) fun e w' => e = .returned (.bool b) ∧ ∃ m, w' = w.drewN m :=
  Calls.quiet_of ((signsSame_s B v v' xs ys _ h h' hl).mono fun _ _ hh => ⟨hh.1.trans (congrArg (fun z => Ending.returned (.bool z)) HD.out), hh.2⟩)
set_option maxHeartbeats 4000000 in
set_option maxRecDepth 100000 in
theorem opSame_s (v v' : Value) (ps qs : List Pt) (w : World) (h : SliceParts w.heap.size w v ps) (h' : SliceParts w.heap.size w v' qs) :
    Calls Tryz.prog 58 #[v, v'] w fun e w' => e = .returned (.bool (Pl.sameS ps qs)) ∧ Below w.heap.size w w' := by
  have hl := h.len
  unfold maxLen at hl
  obtain ⟨A, c, rfl, -, h⟩ := h
  obtain ⟨A', c', rfl, -, h'⟩ := h'
  obtain ⟨B, hB⟩ : ∃ B, B = w.heap.size := ⟨_, rfl⟩
  have HB := Lib.hid hB
  rw [← hB] at h h'
  clear hB
  by_cases hlen : ps.length = qs.length
  · go_enter Tryz.func58, Tryz.ntmps58
    rw [← hlen]
    have H2 := Lib.hid hlen
    clear hlen
    go_wp2
    go_loopw [14] (fun i wr => ∃ k : Nat, k ≤ ps.length ∧ i = .int .i64 k ∧ Hid (Pl.sameS (ps.take k) (qs.take k) = true) ∧ Below B w wr ∧ B ≤ wr.heap.size ∧ PartsAt B wr A ps ∧ PartsAt B wr A' qs) (fun i _ => ps.length - (intOf i).toNat)
    case atStart => exact ⟨0, Nat.zero_le _, rfl, rfl, Below.refl _ _, by rw [HB.out]; exact Nat.le_refl _, h, h'⟩
    case round =>
      clear h h'
      obtain ⟨k, hk, rfl, hx, hb, hBs, hr, hr'⟩ := hrel
      by_cases hlt : k < ps.length
      · obtain ⟨b, off, sv, rfl, hbB, c0, c1, c2, hs⟩ := hr k hlt
        obtain ⟨b', off', sv', rfl, hbB', c0', c1', c2', hs'⟩ := hr' k (by have := H2.out; omega)
        have HT := Lib.hid (sameS_take (ps := ps) (qs := qs) hlt (by have := H2.out; omega))
        have HF := Lib.hid (sameS_at (ps := ps) (qs := qs) hlt (by have := H2.out; omega))
        have Hr := Lib.hid hr
        have Hr' := Lib.hid hr'
        have Hb := Lib.hid hb
        clear hr hr' hb
        generalize ps.getD k ⟨0, 0, []⟩ = p at c0 c1 hs HT HF
        generalize qs.getD k ⟨0, 0, []⟩ = q at c0' c1' hs' HT HF
        have s0 := Lib.hid hs
        have s0' := Lib.hid hs'
        have hpl := hs.len
        obtain ⟨A1, d1, rfl, -, -⟩ := hs
        obtain ⟨A2, d2, rfl, -, -⟩ := hs'
        have hW : ∀ (a : Obj), Below B wr (wr.alloc a) := fun a => (Below.refl _ _).alloc hBs a
        have HW := Lib.hid hW
        clear hW
        have hz : b' < wr.heap.size := by omega
        by_cases hk1 : p.kind = q.kind
        · have k1 : (p.kind != q.kind) = false := by simp [hk1]
          by_cases hn1 : p.n = q.n
          · have k2 : (p.n != q.n) = false := by simp [hn1]
            have HS := Lib.hid (same_s hk1 hn1)
            clear hk1 hn1
            by_cases hsg : p.signs = q.signs
            · have HP : Hid (Pl.same p q = true) := by show _ = _; rw [HS.out]; simp [hsg]
              have HD := Lib.hid (decide_eq_true hsg)
              clear hsg
              go_wp2
              go_quiet ((go_at_call 78; exact signsSame_e B _ _ p.signs q.signs true _ _ HD (s0.out.below (below_drewN (HW.out _) _)) (s0'.out.below (below_drewN (HW.out _) _)) hpl))
              go_wp2
              go_roundw
              case rel => exact ⟨k + 1, by omega, by go_num, by show _ = _; rw [HT.out, hx.out, HP.out]; rfl, Hb.out.trans (below_drewN (HW.out _) _), Nat.le_trans hBs (below_drewN (HW.out _) _).size, Hr.out.below (below_drewN (HW.out _) _), Hr'.out.below (below_drewN (HW.out _) _)⟩
              case measure => simp [intOf]; omega
            · have HP : Hid (Pl.same p q = false) := by show _ = _; rw [HS.out]; simp [hsg]
              have HD := Lib.hid (decide_eq_false hsg)
              clear hsg
              go_wp2
              go_quiet ((go_at_call 78; exact signsSame_e B _ _ p.signs q.signs false _ _ HD (s0.out.below (below_drewN (HW.out _) _)) (s0'.out.below (below_drewN (HW.out _) _)) hpl))
              go_wp2
              go_ret
              exact ⟨ret_bool (HF.out HP.out).symm, by rw [← HB.out]; exact Hb.out.trans (below_drewN (HW.out _) _)⟩
          · have k2 : (p.n != q.n) = true := by simp [hn1]
            have HP := Lib.hid (same_n hn1)
            clear hk1 hn1
            go_wp2
            go_quiet (fail)
            go_wp2
            go_ret
            exact ⟨ret_bool (HF.out HP.out).symm, by rw [← HB.out]; exact Hb.out.trans (below_drewN (HW.out _) _)⟩
        · have k1 : (p.kind != q.kind) = true := by simp [hk1]
          have HP := Lib.hid (same_k hk1)
          clear hk1
          go_wp2
          go_quiet (fail)
          go_wp2
          go_ret
          exact ⟨ret_bool (HF.out HP.out).symm, by rw [← HB.out]; exact Hb.out.trans (below_drewN (HW.out _) _)⟩
      · have hx' := hx.out
        have := H2.out
        rw [List.take_of_length_le (by omega), List.take_of_length_le (by omega)] at hx'
        have HX := Lib.hid hx'
        clear hx hx' hr hr' this
        go_wp2_with (fail)
        go_ret
        exact ⟨ret_bool HX.out.symm, by rw [← HB.out]; exact hb⟩
  · have hf : Hid (Pl.sameS ps qs = false) := by
      show _ = _
      cases hs : Pl.sameS ps qs with
      | false => rfl
      | true => exact absurd (sameS_len hs) hlen
    have hb2 : (((ps.length : Nat) : Int) != ((qs.length : Nat) : Int)) = true := by rw [bne_iff_ne]; omega
    have hb : (((ps.length : Nat) : Int) == ((qs.length : Nat) : Int)) = false := beq_eq_false_iff_ne.2 (by omega)
    clear hlen
    go_enter Tryz.func58, Tryz.ntmps58
    go_wp2_with (fail)
    go_ret
    exact ⟨ret_bool hf.out.symm, Below.refl _ _⟩
end Go.Proofs.YtookcfpiegbafaaGreatDoor
