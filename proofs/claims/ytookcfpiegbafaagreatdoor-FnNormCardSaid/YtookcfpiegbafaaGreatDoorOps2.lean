/- Contracts of the reference's sums of parts, and of Puts, Drops, Idle. Condition: none longer than any slice can be. -/
import Derived.Test.YtookcfpiegbafaaGreatDoorOps
namespace Go.Proofs.YtookcfpiegbafaaGreatDoor
open Go.RowKit
set_option maxRecDepth 100000

theorem sum_bd {f : Pt → Int} {o : List Pt} (h : ∀ p ∈ o, 0 ≤ f p ∧ f p ≤ 200) : 0 ≤ (o.map f).sum ∧ (o.map f).sum ≤ 200 * o.length := by
  induction o with
  | nil => simp
  | cons p o ih =>
    have h1 := h p (by simp)
    have h2 := ih (fun q hq => h q (by simp [hq]))
    simp only [List.map_cons, List.sum_cons, List.length_cons]
    omega
theorem sums_bd {o : List Pt} (h : Pl.partsOk o = true) : (0 ≤ Pl.keeps o ∧ Pl.keeps o ≤ 120000) ∧ (0 ≤ Pl.puts o ∧ Pl.puts o ≤ 120000) ∧ (0 ≤ Pl.drops o ∧ Pl.drops o ≤ 120000) := by
  have hl := partsOk_len h
  have h1 := @sum_bd Pl.keepsP o fun p hp => by
    obtain ⟨_, h0, h1, h2, _⟩ := partOk_facts (partOk_mem h p hp)
    unfold Pl.keepsP; split <;> omega
  have h2 := @sum_bd Pl.putsP o fun p hp => by
    obtain ⟨_, h0, h1, h2, _⟩ := partOk_facts (partOk_mem h p hp)
    unfold Pl.putsP; split <;> omega
  have h3 := @sum_bd Pl.dropsP o fun p hp => by
    obtain ⟨_, h0, h1, h2, _⟩ := partOk_facts (partOk_mem h p hp)
    unfold Pl.dropsP; split <;> (try split) <;> omega
  unfold Pl.keeps Pl.puts Pl.drops
  omega

theorem opOk_partsOk {o : List Pt} (h : Pl.opOk o = true) : Pl.partsOk o = true := by
  unfold Pl.opOk at h
  simp only [Bool.and_eq_true] at h
  exact h.1
def Pl.sizeOfKind (o : List Pt) (q : Int) : Int := if Pl.opOk o = true then (o.map fun p => if p.kind = q then Pl.size p else 0).sum else 0
theorem sizeOfKind_put (o : List Pt) : Pl.sizeOfKind o 2 = Pl.opPuts o := by
  unfold Pl.sizeOfKind Pl.opPuts
  split
  · rename_i ho
    refine sum_congr fun p hp => ?_
    obtain ⟨hk, h0, h1, h2, h3, h4, _⟩ := partOk_facts (partOk_mem (opOk_partsOk ho) p hp)
    unfold Pl.size Pl.putsP
    split
    · rename_i hk; have := h3 hk; omega
    · rfl
  · rfl
theorem sizeOfKind_drop (o : List Pt) : Pl.sizeOfKind o 3 = Pl.opDrops o := by
  unfold Pl.sizeOfKind Pl.opDrops
  split
  · rename_i ho
    refine sum_congr fun p hp => ?_
    obtain ⟨hk, h0, h1, h2, h3, h4, _⟩ := partOk_facts (partOk_mem (opOk_partsOk ho) p hp)
    unfold Pl.size Pl.dropsP
    rcases hk with hk | hk | hk
    · simp [hk]
    · simp [hk]
    · have := h4 (by omega); simp [hk, this]
  · rfl

set_option maxHeartbeats 1000000 in
theorem sizeOfKind_i (v : Value) (ps : List Pt) (q : Int) (w : World) (h : SliceParts w.heap.size w v ps) :
    Calls Tryz.prog 52 #[v, .int .i64 q] w fun e w' => e = .returned (.int .i64 (Pl.sizeOfKind ps q)) ∧ Below w.heap.size w w' := by
  have h0 := h
  obtain ⟨A, c, rfl, -, -⟩ := h
  by_cases ho : Pl.opOk ps = true
  · go_enter Tryz.func52, Tryz.ntmps52
    go_wp2_with (fail)
    refine (opOk_i _ ps _ h0).mono ?_
    rintro e w1 ⟨rfl, b1⟩
    have h1 := h0.below b1
    obtain ⟨B, hB⟩ : ∃ B, B = w.heap.size := ⟨_, rfl⟩
    have HB := Lib.hid hB
    have hBs := b1.size
    rw [← hB] at h1 b1 hBs
    obtain ⟨A', c', he, -, hr⟩ := h1
    injection he with hA _ hc
    subst hA hc
    have hlen := partsOk_len (opOk_partsOk ho)
    clear hB h0
    go_wp2
    have HO := Lib.hid ho
    clear ho
    go_loopw [5, 13] (fun n i wr => ∃ (k : Nat) (x : Int), k ≤ ps.length ∧ i = .int .i64 k ∧ n = .int .i64 x ∧ Hid (x = ((ps.take k).map fun p => if p.kind = q then Pl.size p else 0).sum) ∧ 0 ≤ x ∧ x ≤ 400 * k ∧ Below B w wr ∧ B ≤ wr.heap.size ∧ PartsAt B wr A ps) (fun _ i _ => ps.length - (intOf i).toNat)
    case atStart => exact ⟨0, 0, Nat.zero_le _, rfl, rfl, rfl, by omega, by omega, b1, hBs, hr⟩
    case round =>
      clear hr b1 hBs
      obtain ⟨k, x, hk, rfl, rfl, hx, hx0, hx1, hb, hBs, hr⟩ := hrel
      by_cases hlt : k < ps.length
      · obtain ⟨b, off, sv, rfl, hbB, c0, c1, c2, hs⟩ := hr k hlt
        have HT := Lib.hid (sum_take (fun p => if p.kind = q then Pl.size p else 0) hlt)
        obtain ⟨-, p0, p1, p2, -⟩ := partOk_facts (partOk_at hlt (opOk_partsOk HO.out))
        have Hr := Lib.hid hr
        have Hb := Lib.hid hb
        clear hr hb
        generalize ps.getD k ⟨0, 0, []⟩ = p at c0 c1 hs HT p0 p1 p2
        have hs0 := Lib.hid hs
        obtain ⟨A', c', rfl, -, -⟩ := hs
        have hW : ∀ o, Below wr.heap.size wr (wr.alloc o) := fun o => (Below.refl _ _).alloc (Nat.le_refl _) o
        by_cases hq : p.kind = q
        · have hq' : (p.kind == q) = true := by simp [hq]
          have HQ := Lib.hid hq
          have HW := Lib.hid hW
          clear hq hW
          go_wp2_with (fail)
          refine (size_i _ p _ ⟨_, rfl, ((hs0.out.mono hBs).later (HW.out _))⟩ p0 (by omega) (by omega)).mono ?_
          rintro e w2 ⟨rfl, b2⟩
          have hb1 : Below B wr w2 := ((HW.out _).trans (b2.mono (by simp))).mono hBs
          have hsz : 0 ≤ Pl.size p ∧ Pl.size p ≤ 400 := by unfold Pl.size; omega
          obtain ⟨z0, z1⟩ := hsz
          go_wp2_with (fail)
          go_roundw
          case rel => exact ⟨k + 1, x + Pl.size p, by omega, by go_num, rfl, by show _ = _; rw [HT.out, if_pos HQ.out, hx.out], by omega, by omega, Hb.out.trans hb1, Nat.le_trans hBs hb1.size, Hr.out.below hb1⟩
          case measure => simp [intOf]; omega
        · have hq' : (p.kind == q) = false := by simp [hq]
          have HQ := Lib.hid hq
          have HW := Lib.hid hW
          clear hq hW
          go_wp2_with (fail)
          go_roundw
          case rel => exact ⟨k + 1, x, by omega, by go_num, rfl, by show _ = _; rw [HT.out, if_neg HQ.out, hx.out]; omega, by omega, by omega, Hb.out.alloc hBs _, by simp; omega, Hr.out.below ((Below.refl _ _).alloc hBs _)⟩
          case measure => simp [intOf]; omega
      · have hx' := hx.out
        rw [List.take_of_length_le (by omega)] at hx'
        have HX := Lib.hid hx'
        clear hx hx' hr
        go_wp2_with (fail)
        go_ret
        exact ⟨ret_int (by rw [Pl.sizeOfKind, if_pos HO.out]; exact HX.out), by rw [← HB.out]; exact hb⟩
  · have ho' : Pl.opOk ps = false := by simpa using ho
    clear ho
    go_enter Tryz.func52, Tryz.ntmps52
    go_wp2_with (fail)
    refine (opOk_i _ ps _ h0).mono ?_
    rintro e w1 ⟨rfl, b1⟩
    go_wp2_with (fail)
    go_ret
    exact ⟨ret_int (by rw [Pl.sizeOfKind, if_neg (by rw [ho']; decide)]), b1⟩
theorem puts_i (v : Value) (ps : List Pt) (w : World) (h : SliceParts w.heap.size w v ps) :
    Calls Tryz.prog 22 #[v] w fun e w' => e = .returned (.int .i64 (Pl.opPuts ps)) ∧ Below w.heap.size w w' := by
  have e0 := Lib.hid (sizeOfKind_put ps)
  go_enter Tryz.func22, Tryz.ntmps22
  go_wp2_with (fail)
  refine (sizeOfKind_i _ ps 2 _ h).mono ?_
  rintro e w1 ⟨rfl, b1⟩
  go_wp2_with (fail)
  go_ret
  exact ⟨ret_int e0.out, b1⟩
theorem drops_i (v : Value) (ps : List Pt) (w : World) (h : SliceParts w.heap.size w v ps) :
    Calls Tryz.prog 23 #[v] w fun e w' => e = .returned (.int .i64 (Pl.opDrops ps)) ∧ Below w.heap.size w w' := by
  have e0 := Lib.hid (sizeOfKind_drop ps)
  go_enter Tryz.func23, Tryz.ntmps23
  go_wp2_with (fail)
  refine (sizeOfKind_i _ ps 3 _ h).mono ?_
  rintro e w1 ⟨rfl, b1⟩
  go_wp2_with (fail)
  go_ret
  exact ⟨ret_int e0.out, b1⟩

theorem keeps_take {o : List Pt} {k : Nat} (h : k < o.length) : Pl.keeps (o.take (k + 1)) = Pl.keeps (o.take k) + Pl.keepsP (o.getD k ⟨0, 0, []⟩) := sum_take _ h
theorem puts_take {o : List Pt} {k : Nat} (h : k < o.length) : Pl.puts (o.take (k + 1)) = Pl.puts (o.take k) + Pl.putsP (o.getD k ⟨0, 0, []⟩) := sum_take _ h
theorem drops_take {o : List Pt} {k : Nat} (h : k < o.length) : Pl.drops (o.take (k + 1)) = Pl.drops (o.take k) + Pl.dropsP (o.getD k ⟨0, 0, []⟩) := sum_take _ h
def Pl.or0 (b : Bool) (n : Int) : Int := if b = true then n else 0
theorem tuple3 {a b c a' b' c' : Int} (h1 : a = a') (h2 : b = b') (h3 : c = c') : Ending.returned (.tuple #[.int .i64 a, .int .i64 b, .int .i64 c]) = .returned (.tuple #[.int .i64 a', .int .i64 b', .int .i64 c']) := by rw [h1, h2, h3]

set_option maxHeartbeats 2000000 in
theorem l02Sum_s (v : Value) (ps : List Pt) (w : World) (h : SliceParts w.heap.size w v ps) :
    Calls Tryz.prog 92 #[v] w fun e w' => e = .returned (.tuple #[.int .i64 (Pl.or0 (Pl.partsOk ps) (Pl.keeps ps)), .int .i64 (Pl.or0 (Pl.partsOk ps) (Pl.puts ps)), .int .i64 (Pl.or0 (Pl.partsOk ps) (Pl.drops ps))]) ∧ Below w.heap.size w w' := by
  have h0 := h
  obtain ⟨A, c, rfl, -, -⟩ := h
  by_cases ho : Pl.partsOk ps = true
  · go_enter Tryz.func92, Tryz.ntmps92
    go_wp2_with (fail)
    refine (partsOk_s _ ps _ h0).mono ?_
    rintro e w1 ⟨rfl, b1⟩
    have h1 := h0.below b1
    obtain ⟨B, hB⟩ : ∃ B, B = w.heap.size := ⟨_, rfl⟩
    have HB := Lib.hid hB
    have hBs := b1.size
    rw [← hB] at h1 b1 hBs
    obtain ⟨A', c', he, -, hr⟩ := h1
    injection he with hA _ hc
    subst hA hc
    have hlen := partsOk_len ho
    clear hB h0
    go_wp2
    have HO := Lib.hid ho
    clear ho
    go_loopw [5, 6, 7, 15] (fun n1 n2 n3 i wr => ∃ (k : Nat) (x y z : Int), k ≤ ps.length ∧ i = .int .i64 k ∧ n1 = .int .i64 x ∧ n2 = .int .i64 y ∧ n3 = .int .i64 z ∧ Hid (x = Pl.keeps (ps.take k) ∧ y = Pl.puts (ps.take k) ∧ z = Pl.drops (ps.take k)) ∧ 0 ≤ x ∧ x ≤ 400 * k ∧ 0 ≤ y ∧ y ≤ 400 * k ∧ 0 ≤ z ∧ z ≤ 400 * k ∧ Below B w wr ∧ B ≤ wr.heap.size ∧ PartsAt B wr A ps) (fun _ _ _ i _ => ps.length - (intOf i).toNat)
    case atStart => exact ⟨0, 0, 0, 0, Nat.zero_le _, rfl, rfl, rfl, rfl, ⟨rfl, rfl, rfl⟩, by omega, by omega, by omega, by omega, by omega, by omega, b1, hBs, hr⟩
    case round =>
      clear hr b1 hBs
      obtain ⟨k, x, y, z, hk, rfl, rfl, rfl, rfl, hx, hx0, hx1, hy0, hy1, hz0, hz1, hb, hBs, hr⟩ := hrel
      by_cases hlt : k < ps.length
      · obtain ⟨b, off, sv, rfl, hbB, c0, c1, c2, hs⟩ := hr k hlt
        have HK := Lib.hid (keeps_take hlt)
        have HP := Lib.hid (puts_take hlt)
        have HD := Lib.hid (drops_take hlt)
        obtain ⟨pk, p0, p1, p2, -⟩ := partOk_facts (partOk_at hlt HO.out)
        have Hr := Lib.hid hr
        have Hb := Lib.hid hb
        clear hr hb
        generalize ps.getD k ⟨0, 0, []⟩ = p at c0 c1 hs HK HP HD p0 p1 p2 pk
        obtain ⟨A', c', rfl, -, -⟩ := hs
        obtain ⟨x1, y1, z1⟩ := hx.out
        have X1 := Lib.hid x1
        have Y1 := Lib.hid y1
        have Z1 := Lib.hid z1
        clear x1 y1 z1
        rcases pk with pk | pk | pk
        · have k1 : (p.kind == 1) = true := by simp [pk]
          have PK := Lib.hid pk
          clear pk
          go_wp2_with (fail)
          go_roundw
          case rel => exact ⟨k + 1, x + p.n, y, z, by omega, by go_num, rfl, rfl, rfl, ⟨by rw [HK.out, X1.out, Pl.keepsP, if_pos PK.out], by rw [HP.out, Y1.out, Pl.putsP, if_neg (by rw [PK.out]; decide)]; omega, by rw [HD.out, Z1.out, Pl.dropsP, if_pos PK.out]; omega⟩, by omega, by omega, by omega, by omega, by omega, by omega, Hb.out.alloc hBs _, by simp; omega, Hr.out.below ((Below.refl _ _).alloc hBs _)⟩
          case measure => simp [intOf]; omega
        · have k1 : (p.kind == 1) = false := by simp [pk]
          have k2 : (p.kind == 2) = true := by simp [pk]
          have PK := Lib.hid pk
          clear pk
          go_wp2_with (fail)
          go_roundw
          case rel => exact ⟨k + 1, x, y + p.signs.length, z, by omega, by go_num, rfl, rfl, rfl, ⟨by rw [HK.out, X1.out, Pl.keepsP, if_neg (by rw [PK.out]; decide)]; omega, by rw [HP.out, Y1.out, Pl.putsP, if_pos PK.out], by rw [HD.out, Z1.out, Pl.dropsP, if_neg (by rw [PK.out]; decide), if_pos PK.out]; omega⟩, by omega, by omega, by omega, by omega, by omega, by omega, Hb.out.alloc hBs _, by simp; omega, Hr.out.below ((Below.refl _ _).alloc hBs _)⟩
          case measure => simp [intOf]; omega
        · have k1 : (p.kind == 1) = false := by simp [pk]
          have k2 : (p.kind == 2) = false := by simp [pk]
          have PK := Lib.hid pk
          clear pk
          go_wp2_with (fail)
          go_roundw
          case rel => exact ⟨k + 1, x, y, z + p.n, by omega, by go_num, rfl, rfl, rfl, ⟨by rw [HK.out, X1.out, Pl.keepsP, if_neg (by rw [PK.out]; decide)]; omega, by rw [HP.out, Y1.out, Pl.putsP, if_neg (by rw [PK.out]; decide)]; omega, by rw [HD.out, Z1.out, Pl.dropsP, if_neg (by rw [PK.out]; decide), if_neg (by rw [PK.out]; decide)]⟩, by omega, by omega, by omega, by omega, by omega, by omega, Hb.out.alloc hBs _, by simp; omega, Hr.out.below ((Below.refl _ _).alloc hBs _)⟩
          case measure => simp [intOf]; omega
      · have hx' := hx.out
        rw [List.take_of_length_le (by omega)] at hx'
        obtain ⟨x1, y1, z1⟩ := hx'
        have X1 := Lib.hid x1
        have Y1 := Lib.hid y1
        have Z1 := Lib.hid z1
        clear hx x1 y1 z1 hr
        go_wp2_with (fail)
        go_ret3
        exact ⟨tuple3 (by rw [Pl.or0, if_pos HO.out]; exact X1.out) (by rw [Pl.or0, if_pos HO.out]; exact Y1.out) (by rw [Pl.or0, if_pos HO.out]; exact Z1.out), by rw [← HB.out]; exact hb⟩
  · have ho' : Pl.partsOk ps = false := by simpa using ho
    clear ho
    go_enter Tryz.func92, Tryz.ntmps92
    go_wp2_with (fail)
    refine (partsOk_s _ ps _ h0).mono ?_
    rintro e w1 ⟨rfl, b1⟩
    go_wp2_with (fail)
    go_ret3
    exact ⟨tuple3 (by rw [Pl.or0, if_neg (by rw [ho']; decide)]) (by rw [Pl.or0, if_neg (by rw [ho']; decide)]) (by rw [Pl.or0, if_neg (by rw [ho']; decide)]), b1⟩

theorem or0_bd {o : List Pt} : (0 ≤ Pl.or0 (Pl.partsOk o) (Pl.keeps o) ∧ Pl.or0 (Pl.partsOk o) (Pl.keeps o) ≤ 120000) ∧ (0 ≤ Pl.or0 (Pl.partsOk o) (Pl.puts o) ∧ Pl.or0 (Pl.partsOk o) (Pl.puts o) ≤ 120000) ∧ (0 ≤ Pl.or0 (Pl.partsOk o) (Pl.drops o) ∧ Pl.or0 (Pl.partsOk o) (Pl.drops o) ≤ 120000) := by
  unfold Pl.or0
  split
  · rename_i h; exact sums_bd h
  · omega
theorem opFrom_s (v : Value) (ps : List Pt) (w : World) (h : SliceParts w.heap.size w v ps) :
    Calls Tryz.prog 76 #[v] w fun e w' => e = .returned (.int .i64 (Pl.opFrom ps)) ∧ Below w.heap.size w w' := by
  have e0 : Hid (Pl.opFrom ps = Pl.or0 (Pl.partsOk ps) (Pl.keeps ps) + Pl.or0 (Pl.partsOk ps) (Pl.drops ps)) := by
    show _ = _
    unfold Pl.opFrom Pl.or0
    split <;> simp
  obtain ⟨⟨a0, a1⟩, ⟨y0, y1⟩, c0, c1⟩ := @or0_bd ps
  go_enter Tryz.func76, Tryz.ntmps76
  go_wp2_with (fail)
  refine (l02Sum_s _ ps _ h).mono ?_
  rintro e w1 ⟨rfl, b1⟩
  generalize Pl.or0 (Pl.partsOk ps) (Pl.keeps ps) = x at *
  generalize Pl.or0 (Pl.partsOk ps) (Pl.puts ps) = y at *
  generalize Pl.or0 (Pl.partsOk ps) (Pl.drops ps) = z at *
  go_wp2_with (fail)
  go_ret
  exact ⟨ret_int e0.out.symm, b1⟩
theorem opTo_s (v : Value) (ps : List Pt) (w : World) (h : SliceParts w.heap.size w v ps) :
    Calls Tryz.prog 77 #[v] w fun e w' => e = .returned (.int .i64 (Pl.opTo ps)) ∧ Below w.heap.size w w' := by
  have e0 : Hid (Pl.opTo ps = Pl.or0 (Pl.partsOk ps) (Pl.keeps ps) + Pl.or0 (Pl.partsOk ps) (Pl.puts ps)) := by
    show _ = _
    unfold Pl.opTo Pl.or0
    split <;> simp
  obtain ⟨⟨a0, a1⟩, ⟨y0, y1⟩, c0, c1⟩ := @or0_bd ps
  go_enter Tryz.func77, Tryz.ntmps77
  go_wp2_with (fail)
  refine (l02Sum_s _ ps _ h).mono ?_
  rintro e w1 ⟨rfl, b1⟩
  generalize Pl.or0 (Pl.partsOk ps) (Pl.keeps ps) = x at *
  generalize Pl.or0 (Pl.partsOk ps) (Pl.puts ps) = y at *
  generalize Pl.or0 (Pl.partsOk ps) (Pl.drops ps) = z at *
  go_wp2_with (fail)
  go_ret
  exact ⟨ret_int e0.out.symm, b1⟩
set_option maxHeartbeats 400000 in
theorem opOk_s (v : Value) (ps : List Pt) (w : World) (h : SliceParts w.heap.size w v ps) :
    Calls Tryz.prog 57 #[v] w fun e w' => e = .returned (.bool (Pl.opOk ps)) ∧ Below w.heap.size w w' := by
  by_cases ho : Pl.partsOk ps = true
  · by_cases hf : Pl.opFrom ps ≤ 200
    · have e0 := Lib.hid (opOk_to ho hf)
      go_enter Tryz.func57, Tryz.ntmps57
      go_wp2_with (fail)
      refine (partsOk_s _ ps _ h).mono ?_
      rintro e w1 ⟨rfl, b1⟩
      go_wp2_with (fail)
      refine (opFrom_s _ ps _ (h.later b1)).mono ?_
      rintro e w2 ⟨rfl, b2⟩
      have b12 := b1.trans (b2.mono b1.size)
      go_wp2_with (fail)
      refine (opTo_s _ ps _ (h.later b12)).mono ?_
      rintro e w3 ⟨rfl, b3⟩
      go_wp2_with (fail)
      go_ret
      exact ⟨ret_bool e0.out.symm, b12.trans (b3.mono b12.size)⟩
    · have e0 := Lib.hid (opOk_from ho hf)
      go_enter Tryz.func57, Tryz.ntmps57
      go_wp2_with (fail)
      refine (partsOk_s _ ps _ h).mono ?_
      rintro e w1 ⟨rfl, b1⟩
      go_wp2_with (fail)
      refine (opFrom_s _ ps _ (h.later b1)).mono ?_
      rintro e w2 ⟨rfl, b2⟩
      go_wp2_with (fail)
      go_ret
      exact ⟨ret_bool e0.out.symm, b1.trans (b2.mono b1.size)⟩
  · have ho' : Pl.partsOk ps = false := by simpa using ho
    have e0 := Lib.hid (opOk_parts ho')
    clear ho
    go_enter Tryz.func57, Tryz.ntmps57
    go_wp2_with (fail)
    refine (partsOk_s _ ps _ h).mono ?_
    rintro e w1 ⟨rfl, b1⟩
    go_wp2_with (fail)
    go_ret
    exact ⟨ret_bool e0.out.symm, b1⟩
end Go.Proofs.YtookcfpiegbafaaGreatDoor
