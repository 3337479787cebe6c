/- Contracts of the laws' helpers over slices of strings: eqStringS, markText, markStringS, heldStringS. Condition: what is marked lies in a block of its own; the marks stay below 2^50. -/
import Derived.Test.YtookcfpiegbafaaDoorStrs
import Derived.Test.YtookcfpiegbafaaDoorFoot
import Derived.Test.YtookcfpiegbafaaDoorTextNum
import Derived.Test.YtookcfpiegbafaaDoorEqInts
import Derived.OwnWalk
import Derived.Deep.AppendLies
import Derived.Deep.QuietTactic
import Derived.BigQuiet
import Derived.WalkSmall
import Derived.Lib.Hide
namespace Go.Proofs.YtookcfpiegbafaaDoor
open Go.RowKit
set_option maxRecDepth 100000

theorem strs_ne_of_at {xs ys : List (List UInt8)} {k : Nat} (he : xs.getD k [] ≠ ys.getD k []) : xs ≠ ys := fun e => he (by rw [e])
theorem strs_take_step {xs ys : List (List UInt8)} {k : Nat} (hx : k < xs.length) (hy : k < ys.length) (h : xs.take k = ys.take k) (he : xs.getD k [] = ys.getD k []) : xs.take (k + 1) = ys.take (k + 1) := by
  rw [List.take_succ_eq_append_getElem hx, List.take_succ_eq_append_getElem hy, h]
  simp [List.getD, hx, hy] at he
  rw [he]
theorem str_beq (a b : List UInt8) : ((⟨a.toArray⟩ : ByteArray).toList == (⟨b.toArray⟩ : ByteArray).toList) = decide (a = b) := by
  rw [ByteArray.toList_eq, ByteArray.toList_eq]
  by_cases h : a = b
  · simp [h]
  · simp [h]
set_option maxHeartbeats 800000 in
theorem eqStringS_l (B : Nat) (v v' : Value) (xs ys : List (List UInt8)) (w : World) (h : SliceStrs B w v xs) (h' : SliceStrs B w v' ys) (hl : xs.length ≤ maxLen) :
    Calls Tryd.prog 17 #[v, v'] w fun e w' => e = .returned (.bool (decide (xs = ys))) ∧ ∃ n, w' = w.drewN n := by
  unfold maxLen at hl
  obtain ⟨A, c, rfl, -, h⟩ := h
  obtain ⟨A', c', rfl, -, h'⟩ := h'
  by_cases hlen : xs.length = ys.length
  · go_enter Tryd.func17, Tryd.ntmps17
    rw [← hlen]
    have H2 := Lib.hid hlen
    clear hlen
    go_wp2
    go_loopw [5] (fun i wr => ∃ k : Nat, k ≤ xs.length ∧ i = .int .i64 k ∧ xs.take k = ys.take k ∧ ∃ n, wr = w.drewN n) (fun i _ => xs.length - (intOf i).toNat)
    case atStart => exact ⟨0, Nat.zero_le _, rfl, rfl, 0, rfl⟩
    case round =>
      obtain ⟨k, hk, rfl, hs, n, rfl⟩ := hrel
      by_cases hlt : k < xs.length
      · obtain ⟨b, off, rfl, _, hc⟩ := h k hlt
        obtain ⟨b', off', rfl, _, hc'⟩ := h' k (by have := H2.out; omega)
        by_cases he : xs.getD k [] = ys.getD k []
        · have hs' := Lib.hid (strs_take_step hlt (by have := H2.out; omega) hs he)
          rw [← he] at hc'
          unfold strV at hc hc'
          generalize (⟨(xs.getD k []).toArray⟩ : ByteArray) = x at hc hc'
          clear hs h h' he
          go_wp2
          go_quiet (fail)
          go_wp2
          go_roundw
          case rel => exact ⟨k + 1, by omega, by go_num, hs'.out, _, by first | rfl | exact drewN2 _ _ _⟩
          case measure => simp [intOf]; omega
        · have hf := Lib.hid (strs_ne_of_at he)
          have he' : ((⟨(xs.getD k []).toArray⟩ : ByteArray).toList == (⟨(ys.getD k []).toArray⟩ : ByteArray).toList) = false := by rw [str_beq]; simpa using he
          unfold strV at hc hc'
          generalize (⟨(xs.getD k []).toArray⟩ : ByteArray) = x at hc he'
          generalize (⟨(ys.getD k []).toArray⟩ : ByteArray) = y at hc' he'
          clear hs h h' he
          go_wp2
          go_quiet (fail)
          go_wp2
          go_ret
          exact ⟨by simp [hf.out], _, by first | rfl | exact drewN2 _ _ _⟩
      · have hf : Hid (xs = ys) := by
          show xs = ys
          have := H2.out; rw [List.take_of_length_le (by omega), List.take_of_length_le (by omega)] at hs; exact hs
        clear hs h h'
        go_wp2
        go_ret
        exact ⟨by simp [hf.out], _, by first | rfl | exact drewN2 _ _ _⟩
  · have hf : ¬ xs = ys := fun e => hlen (by rw [e])
    have hb : (((xs.length : Nat) : Int) == ((ys.length : Nat) : Int)) = false := beq_eq_false_iff_ne.2 (by omega)
    go_enter Tryd.func17, Tryd.ntmps17
    go_wp2
    go_ret
    exact ⟨by simp [hf], 0, rfl⟩
theorem eqStringS_b (B : Nat) (v v' : Value) (xs : List (List UInt8)) (w : World) (h : SliceStrs B w v xs) (h' : SliceStrs B w v' xs) :
    Calls Tryd.prog 17 #[v, v'] w fun e w' => e = .returned (.bool true) ∧ Below w.heap.size w w' :=
  (eqStringS_l B v v' xs xs w h h' h.len).mono fun _ _ ⟨he, n, hw⟩ => ⟨by rw [he]; simp, by subst hw; exact ⟨rfl, rfl, rfl, Nat.le_refl _, fun _ _ => rfl⟩⟩
namespace Pl
def dd (k : Nat) : List UInt8 := if k = 0 then [] else Lib.decDigits k
def markText (k : Nat) : List UInt8 := 109 :: Lib.decDigits k
theorem dd_step {k : Nat} (h : 0 < k) : dd k = dd (k / 10) ++ [UInt8.ofNat (48 + k % 10)] := by
  rw [dd, if_neg (by omega)]
  by_cases h9 : 9 < k
  · rw [dd, if_neg (by omega), dec_step h9]
  · rw [dd, if_pos (by omega), dec_last h9, show k % 10 = k by omega]; rfl
/-- The marks from k on. -/
def markTs (k : Nat) (n : Nat) : List (List UInt8) := (List.range n).map fun i => markText (k + i)
theorem markTs_length (k n : Nat) : (markTs k n).length = n := by simp [markTs]
theorem markTs_at (k n j : Nat) (h : j < n) : (markTs k n).getD j [] = markText (k + j) := by simp [markTs, List.getD, h]
def markedS (xs : List (List UInt8)) (k j : Nat) : List (List UInt8) := markTs k j ++ xs.drop j
theorem markedS_set (xs : List (List UInt8)) (k j : Nat) (h : j < xs.length) : (markedS xs k j).set j (markText (k + j)) = markedS xs k (j + 1) := by
  have hl := markTs_length k j
  have e : markTs k (j + 1) = markTs k j ++ [markText (k + j)] := by simp [markTs, List.range_succ]
  rw [markedS, markedS, List.set_append_right _ _ (by omega), hl, Nat.sub_self, List.drop_eq_getElem_cons h, List.set_cons_zero, e]
  simp
theorem markedS_length (xs : List (List UInt8)) (k j : Nat) (h : j ≤ xs.length) : (markedS xs k j).length = xs.length := by
  simp [markedS, markTs_length]; omega
end Pl
set_option maxHeartbeats 1000000 in
theorem markText_l (m : Nat) (w : World) (h0 : 0 < m) (h1 : m ≤ 1125899906842624) :
    Calls Tryd.prog 49 #[.int .i64 m] w fun e w' => e = .returned (strV (Pl.markText m)) ∧ Below w.heap.size w w' := by
  have hz : ¬ ((m : Int) ≤ 0) := by omega
  go_enter Tryd.func49, Tryd.ntmps49
  go_wp2_with (fail)
  go_loopw [0, 3] (fun a s wr => ∃ (k : Nat) (l : List UInt8), k ≤ 1125899906842624 ∧ a = .int .i64 k ∧ s = .string ⟨l.toArray⟩ ∧ Hid (Pl.dd k ++ l = Pl.dd m) ∧ Hid (Below w.heap.size w wr)) (fun a _ _ => (intOf a).toNat)
  case atStart => exact ⟨m, [], by omega, rfl, rfl, by show _ = _; simp, Below.refl _ _⟩
  case round =>
    obtain ⟨k, l, hk, rfl, rfl, hd, hb⟩ := hrel
    have hll : ¬ 9223372036854775807 < 1 + l.length := by
      have h1 := congrArg List.length hd.out
      have h2 := nDigits_le m
      rw [List.length_append, Pl.dd, Pl.dd, if_neg (by omega : ¬ m = 0), Lib.decDigits_length] at h1
      omega
    by_cases h9 : 0 < k
    · have h9z : (0 : Int) < (k : Int) := by omega
      have HD : Hid (Pl.dd (k / 10) ++ UInt8.ofNat (48 + k % 10) :: l = Pl.dd m) := by show _ = _; have := hd.out; rw [Pl.dd_step h9] at this; simpa using this
      have hcv := conv_one wr (48 + k % 10) (by omega) (48 + (k : Int) % 10) (by omega)
      have BA := Lib.hid (bytes_app [UInt8.ofNat (48 + k % 10)] l)
      generalize UInt8.ofNat (48 + k % 10) = c at hcv BA HD
      go_wp2_with (fail)
      go_roundw
      case rel => exact ⟨k / 10, c :: l, by omega, by go_num, congrArg Value.string BA.out, HD.out, hb.out.trans ((Below.refl _ _).alloc (Nat.le_refl _) _ |>.mono hb.out.size)⟩
      case measure => simp [intOf]; omega
    · have h9z : ¬ ((0 : Int) < (k : Int)) := by omega
      have k0 : k = 0 := by omega
      subst k0
      have HD : Hid (l = Lib.decDigits m) := by show _ = _; have := hd.out; rw [Pl.dd, Pl.dd, if_pos rfl, if_neg (by omega)] at this; simpa using this
      have BA := Lib.hid (bytes_app [109] l)
      go_wp2_with (fail)
      go_ret
      exact ⟨by rw [Pl.markText, ← HD.out]; exact congrArg (fun x => Ending.returned (Value.string x)) BA.out, hb.out⟩
set_option maxHeartbeats 1000000 in
theorem markStringS_l (base : Nat) (v : Value) (xs : List (List UInt8)) (k : Nat) (w : World) (h : OwnStrs base w v xs) (h0 : 0 < k) (h1 : k ≤ 1048576) (hn : xs.length ≤ 4194304) :
    Calls Tryd.prog 18 #[v, .int .i64 k] w fun e w' => e = .returned (.int .i64 (k + xs.length)) ∧ OwnStrs base w' v (Pl.markTs k xs.length) ∧ Frame (fun g => v.ownBlock = some g) w w' := by
  obtain ⟨A, c, rfl, -, -⟩ := OwnStrs.slice h
  have hrow : w.ownsRow base 9 1 (.slice A xs.length c) xs.length ((Pl.markedS xs k 0).map strV) := by
    have e : Pl.markedS xs k 0 = xs := by simp [Pl.markedS, Pl.markTs]
    rw [e]; exact h
  clear h
  go_enter Tryd.func18, Tryd.ntmps18
  go_wp2_with (fail)
  go_loopw [1, 5] (fun q i wr => ∃ j : Nat, j ≤ xs.length ∧ i = .int .i64 j ∧ q = .int .i64 (k + j) ∧ wr.ownsRow base 9 1 (.slice A xs.length c) xs.length ((Pl.markedS xs k j).map strV) ∧ Hid (Frame (fun g => (Value.slice A xs.length c).ownBlock = some g) w wr)) (fun _ i _ => xs.length - (intOf i).toNat)
  case atStart => exact ⟨0, Nat.zero_le _, rfl, by simp, hrow, Frame.refl _ _⟩
  case round =>
    clear hrow
    obtain ⟨j, hj, rfl, rfl, hown, ho⟩ := hrel
    by_cases hlt : j < xs.length
    · obtain ⟨g, cap, hv, hBg, _⟩ := hown.form (by omega)
      injection hv with hA _ hc
      subst hA hc
      have HM := Lib.hid (Pl.markedS_set xs k j hlt)
      have hml : ((Pl.markedS xs k j).map strV).length = xs.length := by rw [List.length_map]; exact Pl.markedS_length xs k j hj
      have HOWN := Lib.hid hown
      have HML := Lib.hid hml
      clear hown hml
      go_wp2_with (fail)
      rw [show ((k : Int) + (j : Int)) = ((k + j : Nat) : Int) by omega]
      refine (markText_l (k + j) _ (by omega) (by omega)).mono ?_
      rintro e w2 ⟨rfl, b2⟩
      have hown := World.ownsRow.below HOWN.out b2
      have hml := HML.out
      have hcur := hown.cellAt j (by omega)
      have hfz := hown.frozenAt j
      have hst := Lib.hid (hown.stored j (strV (Pl.markText (k + j)))).1
      rw [List.getElem?_eq_getElem (by omega)] at hcur
      generalize ((Pl.markedS xs k j).map strV)[j] = u at hcur
      have B2 := Lib.hid b2
      clear hown hml b2
      go_wp2_with (fail)
      go_roundw
      case rel => exact ⟨j + 1, by omega, by go_num, by go_num, by rw [← HM.out, List.map_set]; exact hst.out, ho.out.trans ((Frame.ofBelow B2.out : Frame (fun x => (Value.slice (some ⟨g, 0, none⟩) xs.length c).ownBlock = some x) _ _).trans (Frame.setCell (fun x => (Value.slice (some ⟨g, 0, none⟩) xs.length c).ownBlock = some x) _ _ _ rfl) fun _ _ hh => hh) fun _ _ hh => hh⟩
      case measure => simp [intOf]; omega
    · have e : j = xs.length := by omega
      subst e
      have hm : Pl.markedS xs k xs.length = Pl.markTs k xs.length := by simp [Pl.markedS]
      rw [hm] at hown
      clear hm
      go_wp2_with (fail)
      go_ret
      exact ⟨rfl, by rw [OwnStrs, Pl.markTs_length]; exact hown, ho.out⟩
set_option maxHeartbeats 800000 in
theorem heldStringS_l (B : Nat) (v : Value) (n : Nat) (k : Nat) (w : World) (hB : B ≤ w.heap.size) (h : SliceStrs B w v (Pl.markTs k n)) (h0 : 0 < k) (h1 : k ≤ 1048576) (hn : n ≤ 4194304) :
    Calls Tryd.prog 19 #[v, .int .i64 k] w fun e w' => e = .returned (.int .i64 (k + n)) ∧ Below w.heap.size w w' := by
  obtain ⟨A, c, rfl, -, h⟩ := h
  rw [Pl.markTs_length]
  go_enter Tryd.func19, Tryd.ntmps19
  go_wp2_with (fail)
  go_loopw [1, 5] (fun q i wr => ∃ j : Nat, j ≤ n ∧ i = .int .i64 j ∧ q = .int .i64 (k + j) ∧ Hid (Below w.heap.size w wr) ∧ w.heap.size ≤ wr.heap.size) (fun _ i _ => n - (intOf i).toNat)
  case atStart => exact ⟨0, Nat.zero_le _, rfl, by simp, Below.refl _ _, Nat.le_refl _⟩
  case round =>
    obtain ⟨j, hj, rfl, rfl, hb, hsz⟩ := hrel
    by_cases hlt : j < n
    · have hx := h.below (hb.out.mono hB)
      obtain ⟨b, off, rfl, hbB, hc⟩ := hx j (by rw [Pl.markTs_length]; exact hlt)
      rw [Pl.markTs_at k n j hlt] at hc
      have HC := Lib.hid hc
      have hbw : b < wr.heap.size := by omega
      have CM : ∀ wx, Below wr.heap.size wr wx → Calls Tryd.prog 49 #[.int .i64 ((k : Int) + j)] wx fun e w' => e = .returned (strV (Pl.markText (k + j))) ∧ Hid (Below wr.heap.size wr w') ∧ w'.cell? ⟨b, off + j, none⟩ = some (strV (Pl.markText (k + j))) := by
        intro wx hx
        rw [show ((k : Int) + (j : Int)) = ((k + j : Nat) : Int) by omega]
        refine (markText_l (k + j) wx (by omega) (by omega)).mono ?_
        rintro e w' ⟨he, hb'⟩
        have hbb := hx.trans (hb'.mono hx.size)
        exact ⟨he, hbb, (hbb.cell (p := ⟨b, off + j, none⟩) hbw).trans HC.out⟩
      have HCM := Lib.hid CM
      clear hx CM
      obtain ⟨t, ht⟩ : ∃ t : ByteArray, t = ⟨(Pl.markText (k + j)).toArray⟩ := ⟨_, rfl⟩
      unfold strV at hc HCM
      rw [← ht] at hc HCM
      clear ht
      go_wp2_with (fail)
      go_region_with (go_at_call 49; refine (HCM.out _ (by first | exact Below.refl _ _ | exact (Below.refl _ _).drew | exact (Below.refl _ _).drew.drew)).mono ?_; rintro e w2 ⟨rfl, b2, hc2⟩)
      all_goals
        go_wp2_with (fail)
        go_roundw
        case rel => exact ⟨j + 1, by omega, by go_num, by go_num, hb.out.trans (b2.out.mono hsz), Nat.le_trans hsz b2.out.size⟩
        case measure => simp [intOf]; omega
    · have e : j = n := by omega
      subst e
      go_wp2_with (fail)
      go_ret
      exact ⟨rfl, hb.out⟩
theorem OwnS.frame {S : Nat → Prop} {lo hi : Nat} {w w' : World} {v : Value} {xs : List (List UInt8)} (h : OwnS lo hi w v xs) (hf : Frame S w w') (hd : ∀ g, lo ≤ g → g < hi → ¬ S g) : OwnS lo hi w' v xs :=
  ⟨hf.row h.1 fun g hg => hd g (h.1.lt g hg).1 (h.2 g hg), h.2⟩
theorem markStringS_1 (lo hi : Nat) (v : Value) (xs : List (List UInt8)) (w : World) (h : OwnS lo hi w v xs) (hn : xs.length ≤ 4194304) :
    Calls Tryd.prog 18 #[v, .int .i64 1] w fun e w' => e = .returned (.int .i64 (1 + xs.length)) ∧ OwnS lo hi w' v (Pl.markTs 1 xs.length) ∧ Frame (fun g => lo ≤ g ∧ g < hi) w w' :=
  (markStringS_l lo v xs 1 w h.1 (by decide) (by decide) hn).mono fun _ _ ⟨he, ho, hf⟩ => ⟨he, ⟨ho, h.2⟩, hf.mono fun g _ hg => ⟨(h.1.lt g hg).1, h.2 g hg⟩⟩
theorem heldStringS_1 (v : Value) (n : Nat) (w : World) (h : SliceStrs w.heap.size w v (Pl.markTs 1 n)) (hn : n ≤ 4194304) :
    Calls Tryd.prog 19 #[v, .int .i64 1] w fun e w' => e = .returned (.int .i64 (1 + n)) ∧ Below w.heap.size w w' :=
  heldStringS_l w.heap.size v n 1 w (Nat.le_refl _) h (by decide) (by decide) hn
end Go.Proofs.YtookcfpiegbafaaDoor
