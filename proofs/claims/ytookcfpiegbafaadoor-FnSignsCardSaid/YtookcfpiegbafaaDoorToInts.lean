/- Contracts of the laws' helpers on lists of ints: toIntS, szIntS. Condition: no list of more than 4194304 elements is copied. -/
import Derived.Test.YtookcfpiegbafaaDoorEqInts
namespace Go.Proofs.YtookcfpiegbafaaDoor
open Go.RowKit
set_option maxRecDepth 100000

theorem intInfo : (Tryd.prog.info? 3).map (fun i => (i.zero, i.size, i.bytes)) = some (some (.int .i64 0), 1, 8) := by kernel_rfl

/-- What a loop that copies has written after k rounds. -/
def Pl.part (xs : List Int) (k : Nat) : List Value := (xs.take k).map (Value.int .i64) ++ List.replicate (xs.length - k) (.int .i64 0)
theorem Pl.part_zero (xs : List Int) : Pl.part xs 0 = List.replicate xs.length (.int .i64 0) := by simp [Pl.part]
theorem Pl.part_all (xs : List Int) : Pl.part xs xs.length = xs.map (Value.int .i64) := by simp [Pl.part]
theorem Pl.part_succ (xs : List Int) (k : Nat) (h : k < xs.length) : (Pl.part xs k).set k (.int .i64 (xs.getD k 0)) = Pl.part xs (k + 1) := by
  have e : xs.length - k = (xs.length - (k + 1)) + 1 := by omega
  have hl : ((xs.take k).map (Value.int .i64)).length = k := by simp; omega
  rw [Pl.part, Pl.part, e, List.replicate_succ, List.set_append_right _ _ (by omega), hl, Nat.sub_self, List.set_cons_zero,
    List.take_succ_eq_append_getElem h, List.map_append]
  simp [List.getD, h]

set_option maxHeartbeats 800000 in
theorem toIntS_l (v : Value) (xs : List Int) (w : World) (h : SliceInts w.heap.size w v xs) (hl : xs.length ≤ 4194304) :
    Calls Tryd.prog 23 #[v] w fun e w' => ∃ v, e = .returned v ∧ OwnI w.heap.size w'.heap.size w' v xs ∧ Below w.heap.size w w' := by
  obtain ⟨i0, hi, hz0, hz1, hz2⟩ := info_parts intInfo
  obtain ⟨A, c, rfl, -, h⟩ := h
  go_enter Tryd.func23, Tryd.ntmps23
  go_wp2_with (at_make; refine wpList_make_full _ rfl (.tmp 6) (.tmp 6) 31 (by rfl) w.heap.size 3 i0 _ 1 Tryd.underlying31 hi hz0 hz1 .i64 .i64 _ _ xs.length (by rfl) (by rfl) rfl rfl (by rw [hz2]; omega) (by unfold maxLen; omega) (Nat.le_refl _) ?_)
  intro w1 hown hg
  have hb1 : Below w.heap.size w w1 := (Below.refl _ _).grown hg (Nat.le_refl _) (by simp)
  have h1 := h.below hb1
  clear hi hz0 hz1 hz2 hg h
  have hown' : w1.ownsRow w.heap.size 3 1 (.slice (some ⟨w.heap.size, 0, none⟩) xs.length xs.length) xs.length (Pl.part xs 0) := by
    rw [Pl.part_zero, ← toList_madeCells_one]
    simpa [Value.cells] using hown
  clear hown
  generalize hB : w.heap.size = B at *
  have HB := Lib.hid hB
  clear hB
  go_wp2
  go_loopw [4] (fun i wr => ∃ k : Nat, k ≤ xs.length ∧ i = .int .i64 k ∧ wr.ownsRow B 3 1 (.slice (some ⟨B, 0, none⟩) xs.length xs.length) xs.length (Pl.part xs k) ∧ Below B w wr ∧ IntsAt B wr A xs) (fun i _ => xs.length - (intOf i).toNat)
  case atStart => exact ⟨0, Nat.zero_le _, rfl, hown', hb1, h1⟩
  case round =>
    clear hb1 h1 hown'
    obtain ⟨k, hk, rfl, hown, hb, hr⟩ := hrel
    by_cases hlt : k < xs.length
    · obtain ⟨b, off, rfl, hbB, hc⟩ := hr k hlt
      have hcur := hown.cellAt k (by omega)
      have hfz := hown.frozenAt k
      have hst := Lib.hid (hown.stored k (.int .i64 (xs.getD k 0)))
      have HP := Lib.hid (Pl.part_succ xs k hlt)
      have Hr := Lib.hid hr
      have Hb := Lib.hid hb
      have Ho := Lib.hid hown
      clear hr hb hown
      obtain ⟨x, hx⟩ : ∃ x, x = xs.getD k 0 := ⟨_, rfl⟩
      have hlen : k < (Pl.part xs k).length := by simp [Pl.part]; omega
      rw [List.getElem?_eq_getElem hlen] at hcur
      generalize (Pl.part xs k)[k] = u at hcur
      rw [← hx] at hc hst HP
      have HX := Lib.hid hx
      clear hx hlen
      go_wp2
      go_roundw
      case rel => exact ⟨k + 1, by omega, by go_num, HP.out ▸ hst.out.1, Hb.out.setCell (by simp) _, Hr.out.below (Below.setCell (Below.refl _ _) (by simp) _)⟩
      case measure => simp [intOf]; omega
    · have e : k = xs.length := by omega
      subst e
      rw [Pl.part_all] at hown
      go_wp2
      go_ret
      obtain rfl := HB.out
      exact ⟨_, rfl, OwnI.of hown, hb⟩

theorem szIntS_l (A : Option Addr) (c n : Nat) (left : Int) (w : World) (h0 : 0 ≤ left) (h1 : left ≤ 1048576) (hn : n ≤ maxLen) :
    Calls Tryd.prog 74 #[.slice A n c, .int .i64 left] w fun e w' => e = .returned (.int .i64 (if left < n then -1 else left - n)) ∧ w = w' := by
  unfold maxLen at hn
  by_cases h : left < n
  · go_enter Tryd.func74, Tryd.ntmps74
    go_wp2
    go_ret
    exact ⟨rfl, rfl⟩
  · go_enter Tryd.func74, Tryd.ntmps74
    go_wp2
    go_ret
    exact ⟨rfl, rfl⟩
theorem eqIntS_b (B : Nat) (v v' : Value) (xs ys : List Int) (w : World) (h : SliceInts B w v xs) (h' : SliceInts B w v' ys) (hl : xs.length ≤ maxLen) :
    Calls Tryd.prog 25 #[v, v'] w fun e w' => e = .returned (.bool (decide (xs = ys))) ∧ Below w.heap.size w w' :=
  (eqIntS_l B v v' xs ys w h h' hl).mono fun _ _ ⟨he, n, hn⟩ => ⟨he, hn ▸ below_drewN (Below.refl _ _) n⟩
theorem signsSame_ib (B : Nat) (v v' : Value) (xs ys : List Int) (w : World) (h : SliceInts B w v xs) (h' : SliceInts B w v' ys) (hl : xs.length ≤ maxLen) :
    Calls Tryd.prog 39 #[v, v'] w fun e w' => e = .returned (.bool (decide (xs = ys))) ∧ Below w.heap.size w w' :=
  (signsSame_i B v v' xs ys w h h' hl).mono fun _ _ ⟨he, n, hn⟩ => ⟨he, hn ▸ below_drewN (Below.refl _ _) n⟩
end Go.Proofs.YtookcfpiegbafaaDoor
