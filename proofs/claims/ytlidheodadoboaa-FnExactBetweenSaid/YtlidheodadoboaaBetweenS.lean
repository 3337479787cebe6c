/- Contract of the reference's Between. Condition: none longer than any slice can be. -/
import Derived.Test.YtlidheodadoboaaBetween
namespace Go.Proofs.Ytlidheodadoboaa
open Go.RowKit
set_option maxRecDepth 100000

theorem Pl.rev_drop_at {x : List Int} {i k r : Nat} (h : x.length = r + 1 + k) (hr : i ≤ r) : (x.drop i).reverse.getD k 0 = x.getD r 0 := by
  rw [Pl.rev_at (q := r - i) (by rw [List.length_drop]; omega)]
  simp only [List.getD, List.getElem?_drop]
  congr 2
  omega
set_option maxHeartbeats 8000000 in
set_option maxRecDepth 100000 in
theorem between_s (v v' : Value) (xs ys : List Int) (w : World) (h : SliceInts w.heap.size w v xs) (h' : SliceInts w.heap.size w v' ys) :
    Calls Try.prog 23 #[v, v'] w fun e w' => ∃ u svs, e = .returned (.tuple #[u, .bool (Pl.betOk xs ys)]) ∧ OwnP w.heap.size w'.heap.size w' u (Pl.between xs ys) svs ∧ Below w.heap.size w w' := by
  have hlm := h.len
  have hlm' := h'.len
  have h0 := Lib.hid h
  have h0' := Lib.hid h'
  obtain ⟨A, c, rfl, hc, hr0⟩ := h
  obtain ⟨A', c', rfl, hc', hr0'⟩ := h'
  have HR := Lib.hid hr0
  have HR' := Lib.hid hr0'
  clear hr0 hr0'
  by_cases hx : Pl.textOk xs = true
  rotate_left
  · have HX : Hid (Pl.textOk xs = false) := by show _ = _; simpa using hx
    have HO : Hid (Pl.betOk xs ys = false) := by show _ = _; rw [Pl.betOk, HX.out]; rfl
    have HV : Hid (Pl.between xs ys = []) := by show _ = _; rw [Pl.between, if_neg (by rw [HO.out]; decide)]
    clear hx
    go_enter Try.func23, Try.ntmps23
    go_wp2_with (fail)
    refine (textOk_s _ _ xs _ h0.out hlm).mono ?_
    rintro e w1 ⟨rfl, rfl⟩
    rw [HX.out]
    go_wp2_with (fail)
    go_ret2
    exact ⟨_, _, by rw [HO.out]; rfl, by rw [HV.out]; exact OwnP.nil _ _ _, Below.refl _ _⟩
  by_cases hy : Pl.textOk ys = true
  rotate_left
  · have HX := Lib.hid hx
    have HY : Hid (Pl.textOk ys = false) := by show _ = _; simpa using hy
    have HO : Hid (Pl.betOk xs ys = false) := by show _ = _; rw [Pl.betOk, HX.out, HY.out]; rfl
    have HV : Hid (Pl.between xs ys = []) := by show _ = _; rw [Pl.between, if_neg (by rw [HO.out]; decide)]
    clear hx hy
    go_enter Try.func23, Try.ntmps23
    go_wp2_with (fail)
    refine (textOk_s _ _ xs _ h0.out hlm).mono ?_
    rintro e w1 ⟨rfl, rfl⟩
    rw [HX.out]
    go_wp2_with (fail)
    refine (textOk_s _ _ ys _ h0'.out hlm').mono ?_
    rintro e w1 ⟨rfl, rfl⟩
    rw [HY.out]
    go_wp2_with (fail)
    go_ret2
    exact ⟨_, _, by rw [HO.out]; rfl, by rw [HV.out]; exact OwnP.nil _ _ _, Below.refl _ _⟩
  have HX := Lib.hid hx
  have HY := Lib.hid hy
  have hlx := textOk_len hx
  have hly := textOk_len hy
  have HO : Hid (Pl.betOk xs ys = true) := by show _ = _; rw [Pl.betOk, HX.out, HY.out]; rfl
  have HV : Hid (Pl.between xs ys = Pl.opNorm (Pl.betO xs ys)) := by show _ = _; rw [Pl.between, if_pos HO.out, opNorm_yes (Pl.betO_ok HO.out)]
  clear hx hy
  go_enter Try.func23, Try.ntmps23
  go_wp2_with (fail)
  refine (textOk_s _ _ xs _ h0.out hlm).mono ?_
  rintro e w1 ⟨rfl, rfl⟩
  rw [HX.out]
  go_wp2_with (fail)
  refine (textOk_s _ _ ys _ h0'.out hlm').mono ?_
  rintro e w1 ⟨rfl, rfl⟩
  rw [HY.out]
  go_wp2_with (fail)
  go_loopw [6] (fun n wr => ∃ i : Nat, n = .int .i64 i ∧ i ≤ xs.length ∧ i ≤ ys.length ∧ Hid (Pl.lcp xs ys = i + Pl.lcp (xs.drop i) (ys.drop i)) ∧ Hid (Below w.heap.size w wr)) (fun n _ => xs.length - (intOf n).toNat)
  case atStart => exact ⟨0, rfl, Nat.zero_le _, Nat.zero_le _, by show _ = _; simp, Below.refl _ _⟩
  case round =>
    obtain ⟨i, rfl, hix, hiy, hap, hb⟩ := hrel
    go_upto_region 4 with (fail)
    go_cut [37] (fun s wx => s = .bool (Pl.meets xs ys i) ∧ Hid (Below w.heap.size w wx))
    case first =>
      by_cases h1 : i < xs.length
      · obtain ⟨b, off, rfl, hbB, e0⟩ := HR.out i h1
        have e1 := (hb.out.cell (p := ⟨b, off + i, none⟩) hbB).trans e0
        clear e0
        by_cases h2 : i < ys.length
        · obtain ⟨b', off', rfl, hbB', e0'⟩ := HR'.out i h2
          have e1' := (hb.out.cell (p := ⟨b', off' + i, none⟩) hbB').trans e0'
          clear e0'
          by_cases he : xs.getD i 0 = ys.getD i 0
          · have HM : Hid (Pl.meets xs ys i = true) := by show _ = _; unfold Pl.meets; rw [decide_eq_true h1, decide_eq_true h2, decide_eq_true he]; rfl
            have k1 : (xs.getD i 0 == ys.getD i 0) = true := by simp only [beq_iff_eq]; exact he
            clear he
            generalize xs.getD i 0 = x at e1 k1
            generalize ys.getD i 0 = y at e1' k1
            go_quiet (fail)
            go_wp2
            go_meet
            exact ⟨by rw [HM.out], below_drewN hb.out _⟩
          · have HM : Hid (Pl.meets xs ys i = false) := by show _ = _; unfold Pl.meets; rw [decide_eq_true h1, decide_eq_true h2, decide_eq_false he]; rfl
            have k1 : (xs.getD i 0 == ys.getD i 0) = false := by rw [Bool.eq_false_iff]; simp only [ne_eq, beq_iff_eq]; exact he
            clear he
            generalize xs.getD i 0 = x at e1 k1
            generalize ys.getD i 0 = y at e1' k1
            go_quiet (fail)
            go_wp2
            go_meet
            exact ⟨by rw [HM.out], below_drewN hb.out _⟩
        · have HM : Hid (Pl.meets xs ys i = false) := by show _ = _; unfold Pl.meets; rw [decide_eq_true h1, decide_eq_false h2]; rfl
          have h2' : ys.length ≤ i := by omega
          go_quiet (fail)
          go_wp2
          go_meet
          exact ⟨by rw [HM.out], below_drewN hb.out _⟩
      · have HM : Hid (Pl.meets xs ys i = false) := by show _ = _; unfold Pl.meets; rw [decide_eq_false h1]; rfl
        have h1' : xs.length ≤ i := by omega
        go_quiet (fail)
        go_wp2
        go_meet
        exact ⟨by rw [HM.out], below_drewN hb.out _⟩
    case rest =>
      obtain ⟨rfl, hb2⟩ := hcut
      by_cases hm : Pl.meets xs ys i = true
      · obtain ⟨m1, m2, m3⟩ := Pl.meets_yes xs ys i hm
        have M3 := Lib.hid m3
        rw [hm]
        clear hm m3
        go_wp2
        go_roundw
        case rel => exact ⟨i + 1, by go_num, by omega, by omega, by show _ = _; rw [hap.out, M3.out]; omega, hb2⟩
        case measure => simp [intOf]; omega
      · have hm' : Pl.meets xs ys i = false := by simpa using hm
        have HL : Hid (Pl.lcp xs ys = i) := by show _ = _; rw [hap.out, Pl.meets_no xs ys i hm', Nat.add_zero]
        rw [hm']
        clear hm hm'
        have HBO := Lib.hid (Pl.betO_eq HL.out)
        have lX : (xs.drop i).length = xs.length - i := List.length_drop
        have lY : (ys.drop i).length = ys.length - i := List.length_drop
        have LX := Lib.hid lX
        have LY := Lib.hid lY
        clear lX lY
        go_wp2_with (fail)
        go_loopw [7] (fun n wr => ∃ k : Nat, n = .int .i64 k ∧ i + k ≤ xs.length ∧ i + k ≤ ys.length ∧ Hid (Pl.lcp (xs.drop i).reverse (ys.drop i).reverse = k + Pl.lcp ((xs.drop i).reverse.drop k) ((ys.drop i).reverse.drop k)) ∧ Hid (Below w.heap.size w wr)) (fun n _ => xs.length - (intOf n).toNat)
        case atStart => exact ⟨0, rfl, hix, hiy, by show _ = _; simp, hb2⟩
        case round =>
          clear hb2
          obtain ⟨k, rfl, hkx, hky, hap2, hb2⟩ := hrel
          have t0 : IntKind.i64.wrap ((i : Int) + (k : Int)) = (i : Int) + (k : Int) := IntWalk.i64_in _ (by omega)
          go_upto_region 7 with (fail)
          go_cut [72] (fun s wx => s = .bool (Pl.meets (xs.drop i).reverse (ys.drop i).reverse k) ∧ Hid (Below w.heap.size w wx))
          case first =>
            by_cases h1 : i + k < xs.length
            · obtain ⟨q, hq⟩ : ∃ q, xs.length = q + 1 + k := ⟨xs.length - 1 - k, by omega⟩
              obtain ⟨b, off, rfl, hbB, e0⟩ := HR.out q (by omega)
              have e1 := (hb2.out.cell (p := ⟨b, off + q, none⟩) hbB).trans e0
              rw [← Pl.rev_drop_at (i := i) hq (by omega)] at e1
              clear e0
              have h1i : (i : Int) + (k : Int) < (xs.length : Int) := by omega
              by_cases h2 : i + k < ys.length
              · obtain ⟨q', hq'⟩ : ∃ q, ys.length = q + 1 + k := ⟨ys.length - 1 - k, by omega⟩
                obtain ⟨b', off', rfl, hbB', e0'⟩ := HR'.out q' (by omega)
                have e1' := (hb2.out.cell (p := ⟨b', off' + q', none⟩) hbB').trans e0'
                rw [← Pl.rev_drop_at (i := i) hq' (by omega)] at e1'
                clear e0'
                have h2i : (i : Int) + (k : Int) < (ys.length : Int) := by omega
                have n1 : (0 : Int) ≤ (q : Int) ∧ (q : Int) < (xs.length : Int) ∧ (0 : Int) ≤ (q' : Int) ∧ (q' : Int) < (ys.length : Int) := by omega
                obtain ⟨n1, n2, n3, n4⟩ := n1
                have hm1 : decide (k < (xs.drop i).reverse.length) = true := decide_eq_true (by rw [List.length_reverse, LX.out]; omega)
                have hm2 : decide (k < (ys.drop i).reverse.length) = true := decide_eq_true (by rw [List.length_reverse, LY.out]; omega)
                have HM1 := Lib.hid hm1
                have HM2 := Lib.hid hm2
                have t1 : IntKind.i64.wrap ((xs.length : Int) - 1) = (xs.length : Int) - 1 := IntWalk.i64_in _ (by omega)
                have t2 : IntKind.i64.wrap ((xs.length : Int) - 1 - (k : Int)) = (q : Int) := by rw [IntWalk.i64_in _ (by omega)]; omega
                have t3 : IntKind.i64.wrap ((ys.length : Int) - 1) = (ys.length : Int) - 1 := IntWalk.i64_in _ (by omega)
                have t4 : IntKind.i64.wrap ((ys.length : Int) - 1 - (k : Int)) = (q' : Int) := by rw [IntWalk.i64_in _ (by omega)]; omega
                clear hm1 hm2
                by_cases he : (xs.drop i).reverse.getD k 0 = (ys.drop i).reverse.getD k 0
                · have HM : Hid (Pl.meets (xs.drop i).reverse (ys.drop i).reverse k = true) := by show _ = _; unfold Pl.meets; rw [HM1.out, HM2.out, decide_eq_true he]; rfl
                  have k1 : ((xs.drop i).reverse.getD k 0 == (ys.drop i).reverse.getD k 0) = true := by simp only [beq_iff_eq]; exact he
                  clear he hq hq'
                  generalize (xs.drop i).reverse.getD k 0 = x at e1 k1
                  generalize (ys.drop i).reverse.getD k 0 = y at e1' k1
                  go_quiet (fail)
                  clear t0 t1 t2 t3 t4
                  go_wp2
                  go_meet
                  exact ⟨by rw [HM.out], below_drewN hb2.out _⟩
                · have HM : Hid (Pl.meets (xs.drop i).reverse (ys.drop i).reverse k = false) := by show _ = _; unfold Pl.meets; rw [HM1.out, HM2.out, decide_eq_false he]; rfl
                  have k1 : ((xs.drop i).reverse.getD k 0 == (ys.drop i).reverse.getD k 0) = false := by rw [Bool.eq_false_iff]; simp only [ne_eq, beq_iff_eq]; exact he
                  clear he hq hq'
                  generalize (xs.drop i).reverse.getD k 0 = x at e1 k1
                  generalize (ys.drop i).reverse.getD k 0 = y at e1' k1
                  go_quiet (fail)
                  clear t0 t1 t2 t3 t4
                  go_wp2
                  go_meet
                  exact ⟨by rw [HM.out], below_drewN hb2.out _⟩
              · have HM : Hid (Pl.meets (xs.drop i).reverse (ys.drop i).reverse k = false) := by
                  show _ = _
                  unfold Pl.meets
                  rw [decide_eq_false (p := k < (ys.drop i).reverse.length) (by rw [List.length_reverse, LY.out]; omega), Bool.false_and, Bool.and_false]
                have h2' : decide ((i : Int) + (k : Int) < (ys.length : Int)) = false := decide_eq_false (by omega)
                clear hq e1
                go_quiet (fail)
                clear t0
                go_wp2
                go_meet
                exact ⟨by rw [HM.out], below_drewN hb2.out _⟩
            · have HM : Hid (Pl.meets (xs.drop i).reverse (ys.drop i).reverse k = false) := by
                show _ = _
                unfold Pl.meets
                rw [decide_eq_false (p := k < (xs.drop i).reverse.length) (by rw [List.length_reverse, LX.out]; omega), Bool.false_and]
              have h1' : decide ((i : Int) + (k : Int) < (xs.length : Int)) = false := decide_eq_false (by omega)
              go_quiet (fail)
              clear t0
              go_wp2
              go_meet
              exact ⟨by rw [HM.out], below_drewN hb2.out _⟩
          case rest =>
            clear t0
            obtain ⟨rfl, hb4⟩ := hcut
            by_cases hm : Pl.meets (xs.drop i).reverse (ys.drop i).reverse k = true
            · obtain ⟨m1, m2, m3⟩ := Pl.meets_yes (xs.drop i).reverse (ys.drop i).reverse k hm
              rw [List.length_reverse, LX.out] at m1
              rw [List.length_reverse, LY.out] at m2
              have M3 := Lib.hid m3
              rw [hm]
              clear hm m3
              go_wp2
              go_roundw
              case rel => exact ⟨k + 1, by go_num, by omega, by omega, by show _ = _; rw [hap2.out, M3.out]; omega, hb4⟩
              case measure => simp [intOf]; omega
            · have hm' : Pl.meets (xs.drop i).reverse (ys.drop i).reverse k = false := by simpa using hm
              have HK : Hid (Pl.lcp (xs.drop i).reverse (ys.drop i).reverse = k) := by show _ = _; rw [hap2.out, Pl.meets_no _ _ k hm', Nat.add_zero]
              have HB2 : Hid (Pl.betO xs ys = [⟨1, (i : Int), []⟩, ⟨2, 0, (ys.drop i).take (ys.length - i - k)⟩, ⟨3, (xs.length : Int) - k - i, []⟩, ⟨1, (k : Int), []⟩]) := by
                show _ = _
                rw [HBO.out, Pl.bet2, HK.out, LX.out, LY.out, show ((xs.length - i - k : Nat) : Int) = (xs.length : Int) - k - i by omega]
              rw [hm']
              clear hm hm'
              have hg := hb4.out.size
              have st0 : SB w.heap.size wc.heap.size (wc.alloc (.cells #[.slice none 0 0, .slice none 0 0, .int .i64 0] 64)) Pl.Bd.init := SB.new
              have ST0 := Lib.hid st0
              have B5 := Lib.hid (hb4.out.alloc hg (.cells #[.slice none 0 0, .slice none 0 0, .int .i64 0] 64))
              have l1 : (Pl.bKeep Pl.Bd.init (i : Int)).le 1000 := (Pl.bKeep_le (k := 200) Pl.Bd.le_init (by omega) (by omega) (by omega)).mono (by omega)
              have l2 : (Pl.bPut (Pl.bKeep Pl.Bd.init (i : Int)) ((ys.drop i).take (ys.length - i - k))).le 2000 := (Pl.bPut_le (k := 200) l1 (Nat.le_trans (List.length_take_le _ _) (by omega))).mono (by omega)
              have l3 : (Pl.bDrop (Pl.bPut (Pl.bKeep Pl.Bd.init (i : Int)) ((ys.drop i).take (ys.length - i - k))) ((xs.length : Int) - k - i)).le 3000 := (Pl.bDrop_le (k := 200) l2 (by omega) (by omega)).mono (by omega)
              have l4 : (Pl.bKeep (Pl.bDrop (Pl.bPut (Pl.bKeep Pl.Bd.init (i : Int)) ((ys.drop i).take (ys.length - i - k))) ((xs.length : Int) - k - i)) (k : Int)).le 4000 := (Pl.bKeep_le (k := 200) l3 (by omega) (by omega) (by omega)).mono (by omega)
              have e4 : Pl.flushL (Pl.bKeep (Pl.bDrop (Pl.bPut (Pl.bKeep Pl.Bd.init (i : Int)) ((ys.drop i).take (ys.length - i - k))) ((xs.length : Int) - k - i)) (k : Int)) = Pl.between xs ys := by
                rw [HV.out, opNorm_yes (Pl.betO_ok HO.out), HB2.out]
                simp [Pl.norm, Pl.bPart]
              have q1 := Lib.hid l1
              have q2 := Lib.hid l2
              have q3 := Lib.hid l3
              have q4 := Lib.hid l4
              have E4 := Lib.hid e4
              clear l1 l2 l3 l4 e4 st0
              have HCUT := Lib.hid (cut_slice (m := ys.length - i - k) (lo := i) HR'.out hc' (by omega))
              go_wp2_with (fail)
              refine (keep_sb w.heap.size wc.heap.size _ _ (i : Int) 0 ST0.out hg (by simp; omega) Pl.Bd.le_init (by omega) (by omega) (by omega)).mono ?_
              rintro e w1 ⟨rfl, s1, b1⟩
              have S1 := Lib.hid s1
              have B1 := Lib.hid (B5.out.trans b1)
              clear s1 b1
              by_cases hct : c' = i
              · have hcv : Hid (SliceInts w.heap.size w (.slice A' (ys.length - k - i) 0) ((ys.drop i).take (ys.length - i - k))) := by
                  have := HCUT.out
                  rw [if_pos hct, show c' - i = 0 by omega, show ys.length - i - k = ys.length - k - i by omega] at this
                  rw [show ys.length - i - k = ys.length - k - i by omega]
                  exact this
                have e0 : ((ys.length - k : Nat) : Int) = (ys.length : Int) - (k : Int) := by omega
                have E0 := Lib.hid e0
                clear e0
                go_wp2_with (fail)
                refine (put_sb w.heap.size wc.heap.size _ _ _ ((ys.drop i).take (ys.length - i - k)) S1.out ((hcv.out.below B1.out).mono B1.out.size) hg B1.out.size (Nat.le_trans q1.out.put (by omega)) (Nat.le_trans (List.length_take_le _ _) (by omega))).mono ?_
                rintro e w2 ⟨rfl, s2, b2⟩
                have S2 := Lib.hid s2
                have B2 := Lib.hid (B1.out.trans b2)
                clear s2 b2
                go_wp2_with (fail)
                refine (drop_sb w.heap.size wc.heap.size _ _ ((xs.length : Int) - k - i) S2.out hg B2.out.size q2.out.d0 (by have := q2.out.dm; omega) (by omega) (by omega)).mono ?_
                rintro e w3 ⟨rfl, s3, b3⟩
                have S3 := Lib.hid s3
                have B3 := Lib.hid (B2.out.trans b3)
                clear s3 b3
                go_wp2_with (fail)
                refine (keep_sb w.heap.size wc.heap.size _ _ (k : Int) 3000 S3.out hg B3.out.size q3.out (by omega) (by omega) (by omega)).mono ?_
                rintro e w4 ⟨rfl, s4, b4⟩
                have S4 := Lib.hid s4
                have B4 := Lib.hid (B3.out.trans b4)
                clear s4 b4
                go_wp2_with (fail)
                refine (done_sb w.heap.size wc.heap.size _ _ 4000 S4.out hg B4.out.size q4.out (by omega)).mono ?_
                rintro e w5 ⟨v5, svs, rfl, o5, b5⟩
                rw [E4.out] at o5
                obtain ⟨A5, c5, rfl⟩ := own_shape o5.row
                have O5 := Lib.hid o5
                have B6 := Lib.hid (B4.out.trans b5)
                clear o5 b5
                go_wp2_with (fail)
                go_ret2
                exact ⟨_, svs, by rw [HO.out]; rfl, O5.out, B6.out⟩
              · have hcv : Hid (SliceInts w.heap.size w (.slice (A'.map (·.add i)) (ys.length - k - i) (c' - i)) ((ys.drop i).take (ys.length - i - k))) := by
                  have := HCUT.out
                  rw [if_neg hct, show ys.length - i - k = ys.length - k - i by omega] at this
                  rw [show ys.length - i - k = ys.length - k - i by omega]
                  exact this
                have e0 : ((ys.length - k : Nat) : Int) = (ys.length : Int) - (k : Int) := by omega
                have E0 := Lib.hid e0
                clear e0
                go_wp2_with (fail)
                refine (put_sb w.heap.size wc.heap.size _ _ _ ((ys.drop i).take (ys.length - i - k)) S1.out ((hcv.out.below B1.out).mono B1.out.size) hg B1.out.size (Nat.le_trans q1.out.put (by omega)) (Nat.le_trans (List.length_take_le _ _) (by omega))).mono ?_
                rintro e w2 ⟨rfl, s2, b2⟩
                have S2 := Lib.hid s2
                have B2 := Lib.hid (B1.out.trans b2)
                clear s2 b2
                go_wp2_with (fail)
                refine (drop_sb w.heap.size wc.heap.size _ _ ((xs.length : Int) - k - i) S2.out hg B2.out.size q2.out.d0 (by have := q2.out.dm; omega) (by omega) (by omega)).mono ?_
                rintro e w3 ⟨rfl, s3, b3⟩
                have S3 := Lib.hid s3
                have B3 := Lib.hid (B2.out.trans b3)
                clear s3 b3
                go_wp2_with (fail)
                refine (keep_sb w.heap.size wc.heap.size _ _ (k : Int) 3000 S3.out hg B3.out.size q3.out (by omega) (by omega) (by omega)).mono ?_
                rintro e w4 ⟨rfl, s4, b4⟩
                have S4 := Lib.hid s4
                have B4 := Lib.hid (B3.out.trans b4)
                clear s4 b4
                go_wp2_with (fail)
                refine (done_sb w.heap.size wc.heap.size _ _ 4000 S4.out hg B4.out.size q4.out (by omega)).mono ?_
                rintro e w5 ⟨v5, svs, rfl, o5, b5⟩
                rw [E4.out] at o5
                obtain ⟨A5, c5, rfl⟩ := own_shape o5.row
                have O5 := Lib.hid o5
                have B6 := Lib.hid (B4.out.trans b5)
                clear o5 b5
                go_wp2_with (fail)
                go_ret2
                exact ⟨_, svs, by rw [HO.out]; rfl, O5.out, B6.out⟩
end Go.Proofs.Ytlidheodadoboaa
