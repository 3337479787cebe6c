/- Contracts of the functions that add up the parts of an operation. Condition: none longer than any slice can be. -/
import Derived.Test.YtookcfpiegbafaaGreatDoorParts
namespace Go.Proofs.YtookcfpiegbafaaGreatDoor
open Go.RowKit
set_option maxRecDepth 100000

theorem sum_take (f : Pt → Int) {o : List Pt} {k : Nat} (h : k < o.length) : ((o.take (k + 1)).map f).sum = ((o.take k).map f).sum + f (o.getD k ⟨0, 0, []⟩) := by
  rw [List.take_succ_eq_append_getElem h, List.map_append, List.sum_append]
  simp [List.getD, h]
theorem partOk_facts {p : Pt} (h : Pl.partOk p = true) : (p.kind = 1 ∨ p.kind = 2 ∨ p.kind = 3) ∧ 0 ≤ p.n ∧ p.n ≤ 200 ∧ p.signs.length ≤ 200 ∧ (p.kind = 2 → p.n = 0) ∧ (p.kind ≠ 2 → p.signs = []) ∧ Pl.signsOk p.signs = true := by
  unfold Pl.partOk at h
  split at h
  · rename_i hk
    simp at h
    obtain ⟨h1, h2⟩ := h
    refine ⟨by omega, h1.1, h1.2, by rw [h2]; simp, fun e => by omega, fun _ => h2, by rw [h2]; rfl⟩
  · split at h
    · rename_i hk
      simp at h
      obtain ⟨h1, h2, h3⟩ := h
      exact ⟨by omega, by omega, by omega, h2, fun _ => h1, fun e => absurd hk e, h3⟩
    · cases h
theorem partOk_at {o : List Pt} {k : Nat} (h : k < o.length) (ho : Pl.partsOk o = true) : Pl.partOk (o.getD k ⟨0, 0, []⟩) = true := by
  unfold Pl.partsOk at ho
  simp only [Bool.and_eq_true] at ho
  have := List.all_eq_true.1 ho.1 o[k] (List.getElem_mem h)
  simpa [List.getD, h] using this
theorem partsOk_len {o : List Pt} (ho : Pl.partsOk o = true) : o.length ≤ 600 := by
  unfold Pl.partsOk at ho
  simp at ho
  exact ho.2

set_option maxHeartbeats 800000 in
theorem partsOk_i (v : Value) (ps : List Pt) (w : World) (h : SliceParts w.heap.size w v ps) :
    Calls Tryz.prog 51 #[v] w fun e w' => e = .returned (.bool (Pl.partsOk ps)) ∧ Below w.heap.size w w' := by
  have hl := h.len
  unfold maxLen at hl
  obtain ⟨A, c, rfl, -, h⟩ := h
  obtain ⟨B, hB⟩ : ∃ B, B = w.heap.size := ⟨_, rfl⟩
  have HB := Lib.hid hB
  rw [← hB] at h
  clear hB
  go_enter Tryz.func51, Tryz.ntmps51
  go_wp2
  go_loopw [7] (fun i wr => ∃ k : Nat, k ≤ ps.length ∧ i = .int .i64 k ∧ Hid ((ps.take k).all Pl.partOk = true) ∧ Below B w wr ∧ B ≤ wr.heap.size ∧ PartsAt B wr A ps) (fun i _ => ps.length - (intOf i).toNat)
  case atStart => exact ⟨0, Nat.zero_le _, rfl, rfl, Below.refl _ _, by rw [HB.out]; exact Nat.le_refl _, h⟩
  case round =>
    clear h
    obtain ⟨k, hk, rfl, hx, hb, hBs, hr⟩ := hrel
    by_cases hlt : k < ps.length
    · obtain ⟨b, off, sv, rfl, hbB, c0, c1, c2, hs⟩ := hr k hlt
      have HT := Lib.hid (all_take_succ Pl.partOk ps ⟨0, 0, []⟩ k hlt)
      have HF := Lib.hid (@all_false_of Pt Pl.partOk ps ⟨0, 0, []⟩ k hlt)
      have Hr := Lib.hid hr
      have Hb := Lib.hid hb
      clear hr hb
      generalize ps.getD k ⟨0, 0, []⟩ = p at c0 c1 hs HT HF
      have hs0 := Lib.hid hs
      obtain ⟨A', c', rfl, -, -⟩ := hs
      have hW : ∀ o, Below wr.heap.size wr (wr.alloc o) := fun o => (Below.refl _ _).alloc (Nat.le_refl _) o
      by_cases hp : Pl.partOk p = true
      · have HP := Lib.hid hp
        go_wp2_with (fail)
        refine (partOk_i _ p _ ⟨_, rfl, ((hs0.out.mono hBs).later (hW _))⟩).mono ?_
        rintro e w1 ⟨rfl, b1⟩
        have hb1 : Below B wr w1 := ((hW _).trans (b1.mono (by simp))).mono hBs
        clear hW
        go_wp2
        go_roundw
        case rel => exact ⟨k + 1, by omega, by go_num, by show _ = _; rw [HT.out, hx.out, HP.out]; rfl, Hb.out.trans hb1, Nat.le_trans hBs hb1.size, Hr.out.below hb1⟩
        case measure => simp [intOf]; omega
      · have hp' : Pl.partOk p = false := by simpa using hp
        have HP := Lib.hid hp'
        clear hp
        go_wp2_with (fail)
        refine (partOk_i _ p _ ⟨_, rfl, ((hs0.out.mono hBs).later (hW _))⟩).mono ?_
        rintro e w1 ⟨rfl, b1⟩
        have hb1 : Below B wr w1 := ((hW _).trans (b1.mono (by simp))).mono hBs
        clear hW
        go_wp2
        go_ret
        refine ⟨ret_bool ?_, by rw [← HB.out]; exact Hb.out.trans hb1⟩
        rw [Pl.partsOk, HF.out HP.out]; rfl
    · have hx' := hx.out
      rw [List.take_of_length_le (by omega)] at hx'
      have HX := Lib.hid hx'
      clear hx hx' hr
      go_wp2
      go_ret
      refine ⟨ret_bool ?_, by rw [← HB.out]; exact hb⟩
      rw [Pl.partsOk, HX.out, Bool.true_and]
      exact decide_eq_decide.2 (by omega)

set_option maxHeartbeats 800000 in
theorem partsOk_s (v : Value) (ps : List Pt) (w : World) (h : SliceParts w.heap.size w v ps) :
    Calls Tryz.prog 75 #[v] w fun e w' => e = .returned (.bool (Pl.partsOk ps)) ∧ Below w.heap.size w w' := by
  have hl := h.len
  unfold maxLen at hl
  obtain ⟨A, c, rfl, -, h⟩ := h
  obtain ⟨B, hB⟩ : ∃ B, B = w.heap.size := ⟨_, rfl⟩
  have HB := Lib.hid hB
  rw [← hB] at h
  clear hB
  go_enter Tryz.func75, Tryz.ntmps75
  go_wp2
  go_loopw [7] (fun i wr => ∃ k : Nat, k ≤ ps.length ∧ i = .int .i64 k ∧ Hid ((ps.take k).all Pl.partOk = true) ∧ Below B w wr ∧ B ≤ wr.heap.size ∧ PartsAt B wr A ps) (fun i _ => ps.length - (intOf i).toNat)
  case atStart => exact ⟨0, Nat.zero_le _, rfl, rfl, Below.refl _ _, by rw [HB.out]; exact Nat.le_refl _, h⟩
  case round =>
    clear h
    obtain ⟨k, hk, rfl, hx, hb, hBs, hr⟩ := hrel
    by_cases hlt : k < ps.length
    · obtain ⟨b, off, sv, rfl, hbB, c0, c1, c2, hs⟩ := hr k hlt
      have HT := Lib.hid (all_take_succ Pl.partOk ps ⟨0, 0, []⟩ k hlt)
      have HF := Lib.hid (@all_false_of Pt Pl.partOk ps ⟨0, 0, []⟩ k hlt)
      have Hr := Lib.hid hr
      have Hb := Lib.hid hb
      clear hr hb
      generalize ps.getD k ⟨0, 0, []⟩ = p at c0 c1 hs HT HF
      have hs0 := Lib.hid hs
      obtain ⟨A', c', rfl, -, -⟩ := hs
      have hW : ∀ o, Below wr.heap.size wr (wr.alloc o) := fun o => (Below.refl _ _).alloc (Nat.le_refl _) o
      by_cases hp : Pl.partOk p = true
      · have HP := Lib.hid hp
        go_wp2_with (fail)
        refine (partOk_s _ p _ ⟨_, rfl, ((hs0.out.mono hBs).later (hW _))⟩).mono ?_
        rintro e w1 ⟨rfl, b1⟩
        have hb1 : Below B wr w1 := ((hW _).trans (b1.mono (by simp))).mono hBs
        clear hW
        go_wp2
        go_roundw
        case rel => exact ⟨k + 1, by omega, by go_num, by show _ = _; rw [HT.out, hx.out, HP.out]; rfl, Hb.out.trans hb1, Nat.le_trans hBs hb1.size, Hr.out.below hb1⟩
        case measure => simp [intOf]; omega
      · have hp' : Pl.partOk p = false := by simpa using hp
        have HP := Lib.hid hp'
        clear hp
        go_wp2_with (fail)
        refine (partOk_s _ p _ ⟨_, rfl, ((hs0.out.mono hBs).later (hW _))⟩).mono ?_
        rintro e w1 ⟨rfl, b1⟩
        have hb1 : Below B wr w1 := ((hW _).trans (b1.mono (by simp))).mono hBs
        clear hW
        go_wp2
        go_ret
        refine ⟨ret_bool ?_, by rw [← HB.out]; exact Hb.out.trans hb1⟩
        rw [Pl.partsOk, HF.out HP.out]; rfl
    · have hx' := hx.out
      rw [List.take_of_length_le (by omega)] at hx'
      have HX := Lib.hid hx'
      clear hx hx' hr
      go_wp2
      go_ret
      refine ⟨ret_bool ?_, by rw [← HB.out]; exact hb⟩
      rw [Pl.partsOk, HX.out, Bool.true_and]
      exact decide_eq_decide.2 (by omega)

set_option maxHeartbeats 400000 in
theorem size_i (v : Value) (p : Pt) (w : World) (h : PartV w.heap.size w v p) (h0 : 0 ≤ p.n) (h1 : p.n ≤ 1000000) (h2 : p.signs.length ≤ 1000000) :
    Calls Tryz.prog 44 #[v] w fun e w' => e = .returned (.int .i64 (Pl.size p)) ∧ Below w.heap.size w w' := by
  obtain ⟨sv, rfl, A, c, rfl, -, -⟩ := h
  go_enter Tryz.func44, Tryz.ntmps44
  go_wp2
  go_ret
  exact ⟨rfl, (Below.refl _ _).alloc (Nat.le_refl _) _⟩

def Pl.sizeOf (o : List Pt) (q : Int) : Int := if Pl.partsOk o = true then (o.map fun p => if p.kind = q then 0 else Pl.size p).sum else 0
theorem sum_congr {o : List Pt} {f g : Pt → Int} (h : ∀ p ∈ o, f p = g p) : (o.map f).sum = (o.map g).sum := by rw [List.map_congr_left h]
theorem sum_add (o : List Pt) (f g : Pt → Int) : (o.map f).sum + (o.map g).sum = (o.map fun p => f p + g p).sum := by
  induction o with
  | nil => rfl
  | cons p o ih => simp only [List.map_cons, List.sum_cons]; omega
theorem partOk_mem {o : List Pt} (ho : Pl.partsOk o = true) : ∀ p ∈ o, Pl.partOk p = true := by
  unfold Pl.partsOk at ho
  simp only [Bool.and_eq_true] at ho
  exact List.all_eq_true.1 ho.1
theorem sizeOf_put (o : List Pt) : Pl.sizeOf o 2 = Pl.opFrom o := by
  unfold Pl.sizeOf Pl.opFrom
  split
  · rename_i ho
    rw [Pl.keeps, Pl.drops, sum_add]
    refine sum_congr fun p hp => ?_
    obtain ⟨hk, h0, h1, h2, h3, h4, _⟩ := partOk_facts (partOk_mem ho p hp)
    unfold Pl.size Pl.keepsP Pl.dropsP
    rcases hk with hk | hk | hk
    · have := h4 (by omega); simp [hk, this]
    · simp [hk]
    · have := h4 (by omega); simp [hk, this]
  · rfl
theorem sizeOf_drop (o : List Pt) : Pl.sizeOf o 3 = Pl.opTo o := by
  unfold Pl.sizeOf Pl.opTo
  split
  · rename_i ho
    rw [Pl.keeps, Pl.puts, sum_add]
    refine sum_congr fun p hp => ?_
    obtain ⟨hk, h0, h1, h2, h3, h4, _⟩ := partOk_facts (partOk_mem ho p hp)
    unfold Pl.size Pl.keepsP Pl.putsP
    rcases hk with hk | hk | hk
    · have := h4 (by omega); simp [hk, this]
    · have := h3 hk; simp [hk, this]
    · simp [hk]
  · rfl

set_option maxHeartbeats 1000000 in
theorem sizeOf_i (v : Value) (ps : List Pt) (q : Int) (w : World) (h : SliceParts w.heap.size w v ps) :
    Calls Tryz.prog 50 #[v, .int .i64 q] w fun e w' => e = .returned (.int .i64 (Pl.sizeOf ps q)) ∧ Below w.heap.size w w' := by
  have h0 := h
  obtain ⟨A, c, rfl, -, -⟩ := h
  by_cases ho : Pl.partsOk ps = true
  · go_enter Tryz.func50, Tryz.ntmps50
    go_wp2_with (fail)
    refine (partsOk_i _ ps _ h0).mono ?_
    rintro e w1 ⟨rfl, b1⟩
    have h1 := h0.below b1
    obtain ⟨B, hB⟩ : ∃ B, B = w.heap.size := ⟨_, rfl⟩
    have HB := Lib.hid hB
    have hBs := b1.size
    rw [← hB] at h1 b1 hBs
    obtain ⟨A', c', he, -, hr⟩ := h1
    injection he with hA _ hc
    subst hA hc
    have hlen := partsOk_len ho
    clear hB h0
    go_wp2
    have HO := Lib.hid ho
    clear ho
    go_loopw [5, 13] (fun n i wr => ∃ (k : Nat) (x : Int), k ≤ ps.length ∧ i = .int .i64 k ∧ n = .int .i64 x ∧ Hid (x = ((ps.take k).map fun p => if p.kind = q then 0 else Pl.size p).sum) ∧ 0 ≤ x ∧ x ≤ 400 * k ∧ Below B w wr ∧ B ≤ wr.heap.size ∧ PartsAt B wr A ps) (fun _ i _ => ps.length - (intOf i).toNat)
    case atStart => exact ⟨0, 0, Nat.zero_le _, rfl, rfl, rfl, by omega, by omega, b1, hBs, hr⟩
    case round =>
      clear hr b1 hBs
      obtain ⟨k, x, hk, rfl, rfl, hx, hx0, hx1, hb, hBs, hr⟩ := hrel
      by_cases hlt : k < ps.length
      · obtain ⟨b, off, sv, rfl, hbB, c0, c1, c2, hs⟩ := hr k hlt
        have HT := Lib.hid (sum_take (fun p => if p.kind = q then 0 else Pl.size p) hlt)
        obtain ⟨-, p0, p1, p2, -⟩ := partOk_facts (partOk_at hlt HO.out)
        have Hr := Lib.hid hr
        have Hb := Lib.hid hb
        clear hr hb
        generalize ps.getD k ⟨0, 0, []⟩ = p at c0 c1 hs HT p0 p1 p2
        have hs0 := Lib.hid hs
        obtain ⟨A', c', rfl, -, -⟩ := hs
        have hW : ∀ o, Below wr.heap.size wr (wr.alloc o) := fun o => (Below.refl _ _).alloc (Nat.le_refl _) o
        by_cases hq : p.kind = q
        · have hq' : (p.kind != q) = false := by simp [hq]
          have HQ := Lib.hid hq
          have HW := Lib.hid hW
          clear hq hW
          go_wp2_with (fail)
          go_roundw
          case rel => exact ⟨k + 1, x, by omega, by go_num, rfl, by show _ = _; rw [HT.out, if_pos HQ.out, hx.out]; omega, by omega, by omega, Hb.out.alloc hBs _, by simp; omega, Hr.out.below ((Below.refl _ _).alloc hBs _)⟩
          case measure => simp [intOf]; omega
        · have hq' : (p.kind != q) = true := by simp [hq]
          have HQ := Lib.hid hq
          have HW := Lib.hid hW
          clear hq hW
          go_wp2_with (fail)
          refine (size_i _ p _ ⟨_, rfl, ((hs0.out.mono hBs).later (HW.out _))⟩ p0 (by omega) (by omega)).mono ?_
          rintro e w2 ⟨rfl, b2⟩
          have hb1 : Below B wr w2 := ((HW.out _).trans (b2.mono (by simp))).mono hBs
          have hsz : 0 ≤ Pl.size p ∧ Pl.size p ≤ 400 := by unfold Pl.size; omega
          obtain ⟨z0, z1⟩ := hsz
          go_wp2_with (fail)
          go_roundw
          case rel => exact ⟨k + 1, x + Pl.size p, by omega, by go_num, rfl, by show _ = _; rw [HT.out, if_neg HQ.out, hx.out], by omega, by omega, Hb.out.trans hb1, Nat.le_trans hBs hb1.size, Hr.out.below hb1⟩
          case measure => simp [intOf]; omega
      · have hx' := hx.out
        rw [List.take_of_length_le (by omega)] at hx'
        have HX := Lib.hid hx'
        clear hx hx' hr
        go_wp2_with (fail)
        go_ret
        exact ⟨ret_int (by rw [Pl.sizeOf, if_pos HO.out]; exact HX.out), by rw [← HB.out]; exact hb⟩
  · have ho' : Pl.partsOk ps = false := by simpa using ho
    clear ho
    go_enter Tryz.func50, Tryz.ntmps50
    go_wp2_with (fail)
    refine (partsOk_i _ ps _ h0).mono ?_
    rintro e w1 ⟨rfl, b1⟩
    go_wp2_with (fail)
    go_ret
    exact ⟨ret_int (by rw [Pl.sizeOf, if_neg (by rw [ho']; decide)]), b1⟩

theorem opFrom_i (v : Value) (ps : List Pt) (w : World) (h : SliceParts w.heap.size w v ps) :
    Calls Tryz.prog 19 #[v] w fun e w' => e = .returned (.int .i64 (Pl.opFrom ps)) ∧ Below w.heap.size w w' := by
  have e0 := Lib.hid (sizeOf_put ps)
  go_enter Tryz.func19, Tryz.ntmps19
  go_wp2_with (fail)
  refine (sizeOf_i _ ps 2 _ h).mono ?_
  rintro e w1 ⟨rfl, b1⟩
  go_wp2_with (fail)
  go_ret
  exact ⟨ret_int e0.out, b1⟩
theorem opTo_i (v : Value) (ps : List Pt) (w : World) (h : SliceParts w.heap.size w v ps) :
    Calls Tryz.prog 20 #[v] w fun e w' => e = .returned (.int .i64 (Pl.opTo ps)) ∧ Below w.heap.size w w' := by
  have e0 := Lib.hid (sizeOf_drop ps)
  go_enter Tryz.func20, Tryz.ntmps20
  go_wp2_with (fail)
  refine (sizeOf_i _ ps 3 _ h).mono ?_
  rintro e w1 ⟨rfl, b1⟩
  go_wp2_with (fail)
  go_ret
  exact ⟨ret_int e0.out, b1⟩
theorem opOk_parts {ps : List Pt} (h : Pl.partsOk ps = false) : Pl.opOk ps = false := by rw [Pl.opOk, h]; rfl
theorem opOk_from {ps : List Pt} (h : Pl.partsOk ps = true) (h1 : ¬ Pl.opFrom ps ≤ 200) : Pl.opOk ps = false := by
  rw [Pl.opOk, h, decide_eq_false h1]; rfl
theorem opOk_to {ps : List Pt} (h : Pl.partsOk ps = true) (h1 : Pl.opFrom ps ≤ 200) : Pl.opOk ps = decide (Pl.opTo ps ≤ 200) := by
  rw [Pl.opOk, h, decide_eq_true h1]; rfl

set_option maxHeartbeats 400000 in
theorem opOk_i (v : Value) (ps : List Pt) (w : World) (h : SliceParts w.heap.size w v ps) :
    Calls Tryz.prog 21 #[v] w fun e w' => e = .returned (.bool (Pl.opOk ps)) ∧ Below w.heap.size w w' := by
  by_cases ho : Pl.partsOk ps = true
  · by_cases hf : Pl.opFrom ps ≤ 200
    · have e0 := Lib.hid (opOk_to ho hf)
      go_enter Tryz.func21, Tryz.ntmps21
      go_wp2_with (fail)
      refine (partsOk_i _ ps _ h).mono ?_
      rintro e w1 ⟨rfl, b1⟩
      go_wp2_with (fail)
      refine (opFrom_i _ ps _ (h.later b1)).mono ?_
      rintro e w2 ⟨rfl, b2⟩
      have b12 := b1.trans (b2.mono b1.size)
      go_wp2_with (fail)
      refine (opTo_i _ ps _ (h.later b12)).mono ?_
      rintro e w3 ⟨rfl, b3⟩
      go_wp2_with (fail)
      go_ret
      exact ⟨ret_bool e0.out.symm, b12.trans (b3.mono b12.size)⟩
    · have e0 := Lib.hid (opOk_from ho hf)
      go_enter Tryz.func21, Tryz.ntmps21
      go_wp2_with (fail)
      refine (partsOk_i _ ps _ h).mono ?_
      rintro e w1 ⟨rfl, b1⟩
      go_wp2_with (fail)
      refine (opFrom_i _ ps _ (h.later b1)).mono ?_
      rintro e w2 ⟨rfl, b2⟩
      go_wp2_with (fail)
      go_ret
      exact ⟨ret_bool e0.out.symm, b1.trans (b2.mono b1.size)⟩
  · have ho' : Pl.partsOk ps = false := by simpa using ho
    have e0 := Lib.hid (opOk_parts ho')
    clear ho
    go_enter Tryz.func21, Tryz.ntmps21
    go_wp2_with (fail)
    refine (partsOk_i _ ps _ h).mono ?_
    rintro e w1 ⟨rfl, b1⟩
    go_wp2_with (fail)
    go_ret
    exact ⟨ret_bool e0.out.symm, b1⟩
end Go.Proofs.YtookcfpiegbafaaGreatDoor
