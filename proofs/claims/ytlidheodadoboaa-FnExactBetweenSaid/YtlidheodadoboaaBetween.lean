/- Contracts of Between. Condition: none longer than any slice can be. -/
import Derived.Test.YtlidheodadoboaaInvertS
import Derived.Deep.QuietTactic
import Derived.BigQuiet
import Derived.Deep.DeepCutAuto
namespace Go.Proofs.Ytlidheodadoboaa
open Go.RowKit
set_option maxRecDepth 100000

namespace Pl
/-- How many characters two texts begin with alike. -/
def lcp : List Int → List Int → Nat
  | x :: a, y :: b => if x = y then lcp a b + 1 else 0
  | _, _ => 0
def meets (a b : List Int) (i : Nat) : Bool := decide (i < a.length) && (decide (i < b.length) && decide (a.getD i 0 = b.getD i 0))
def lcs (a b : List Int) : Nat := lcp (a.drop (lcp a b)).reverse (b.drop (lcp a b)).reverse
def betO (a b : List Int) : List Pt := [⟨1, lcp a b, []⟩, ⟨2, 0, (b.drop (lcp a b)).take (b.length - lcp a b - lcs a b)⟩, ⟨3, ((a.length - lcp a b - lcs a b : Nat) : Int), []⟩, ⟨1, lcs a b, []⟩]
def betOk (a b : List Int) : Bool := textOk a && textOk b
def between (a b : List Int) : List Pt := if betOk a b = true then norm (betO a b) else []
theorem lcp_le : ∀ a b : List Int, lcp a b ≤ a.length ∧ lcp a b ≤ b.length
  | [], _ => by simp [lcp]
  | _ :: _, [] => by simp [lcp]
  | x :: a, y :: b => by
    rw [lcp]
    split
    · have := lcp_le a b; simp; omega
    · simp
theorem meets_yes : ∀ (a b : List Int) (i : Nat), meets a b i = true → i < a.length ∧ i < b.length ∧ lcp (a.drop i) (b.drop i) = lcp (a.drop (i + 1)) (b.drop (i + 1)) + 1 := by
  intro a b i h
  unfold meets at h
  simp only [Bool.and_eq_true, decide_eq_true_eq] at h
  obtain ⟨h1, h2, h3⟩ := h
  refine ⟨h1, h2, ?_⟩
  rw [List.drop_eq_getElem_cons h1, List.drop_eq_getElem_cons h2, lcp]
  simp [List.getD, h1, h2] at h3
  rw [if_pos h3]
theorem meets_no : ∀ (a b : List Int) (i : Nat), meets a b i = false → lcp (a.drop i) (b.drop i) = 0 := by
  intro a b i h
  unfold meets at h
  by_cases h1 : i < a.length
  · by_cases h2 : i < b.length
    · rw [List.drop_eq_getElem_cons h1, List.drop_eq_getElem_cons h2, lcp]
      simp [List.getD, h1, h2] at h
      rw [if_neg h]
    · have : b.drop i = [] := List.drop_eq_nil_of_le (by omega)
      rw [this]
      cases a.drop i <;> rfl
  · have : a.drop i = [] := List.drop_eq_nil_of_le (by omega)
    rw [this]
    rfl
theorem lcs_le (a b : List Int) : lcp a b + lcs a b ≤ a.length ∧ lcp a b + lcs a b ≤ b.length := by
  have h1 := lcp_le a b
  have h2 := lcp_le (a.drop (lcp a b)).reverse (b.drop (lcp a b)).reverse
  simp at h2
  unfold lcs
  omega
theorem betO_ok {a b : List Int} (h : betOk a b = true) : opOk (betO a b) = true := by
  unfold betOk textOk at h
  simp only [Bool.and_eq_true, decide_eq_true_eq] at h
  obtain ⟨⟨h1, h2⟩, h3, h4⟩ := h
  have hl := lcs_le a b
  have hs : signsOk ((b.drop (lcp a b)).take (b.length - lcp a b - lcs a b)) = true := by
    unfold signsOk at h4 ⊢
    exact List.all_eq_true.2 fun x hx => List.all_eq_true.1 h4 x (List.mem_of_mem_drop (List.mem_of_mem_take hx))
  have hp : ∀ p ∈ betO a b, partOk p = true := by
    intro p hp
    simp only [betO, List.mem_cons, List.not_mem_nil, or_false] at hp
    rcases hp with rfl | rfl | rfl | rfl
    · exact partOk_of (.inl ⟨rfl, by show (0 : Int) ≤ (lcp a b : Int); omega, by show (lcp a b : Int) ≤ 200; omega, rfl⟩)
    · exact partOk_of (.inr (.inr ⟨rfl, rfl, by show ((b.drop (lcp a b)).take (b.length - lcp a b - lcs a b)).length ≤ 200; rw [List.length_take]; omega, hs⟩))
    · exact partOk_of (.inr (.inl ⟨rfl, by show (0 : Int) ≤ ((a.length - lcp a b - lcs a b : Nat) : Int); omega, by show ((a.length - lcp a b - lcs a b : Nat) : Int) ≤ 200; omega, rfl⟩))
    · exact partOk_of (.inl ⟨rfl, by show (0 : Int) ≤ (lcs a b : Int); omega, by show (lcs a b : Int) ≤ 200; omega, rfl⟩)
  have hk : keeps (betO a b) = lcp a b + lcs a b ∧ drops (betO a b) = ((a.length - lcp a b - lcs a b : Nat) : Int) ∧ puts (betO a b) = ((b.length - lcp a b - lcs a b : Nat) : Int) := by
    refine ⟨?_, ?_, ?_⟩
    · simp [betO, keeps, keepsP]
    · simp [betO, drops, dropsP]
    · simp [betO, puts, putsP]
  have hpo := partsOk_of hp (by simp [betO])
  unfold opOk opFrom opTo
  rw [if_pos hpo, if_pos hpo, hpo]
  simp only [Bool.true_and, Bool.and_eq_true, decide_eq_true_eq]
  omega
/-- The same behind the common beginning. -/
def bet2 (i : Nat) (x y : List Int) : List Pt := [⟨1, i, []⟩, ⟨2, 0, y.take (y.length - lcp x.reverse y.reverse)⟩, ⟨3, ((x.length - lcp x.reverse y.reverse : Nat) : Int), []⟩, ⟨1, lcp x.reverse y.reverse, []⟩]
theorem betO_eq {a b : List Int} {i : Nat} (h : lcp a b = i) : betO a b = bet2 i (a.drop i) (b.drop i) := by
  subst h
  simp [betO, bet2, lcs]
theorem rev_at {x : List Int} {k q : Nat} (h : x.length = q + 1 + k) : x.reverse.getD k 0 = x.getD q 0 := by
  have h1 : k < x.reverse.length := by simp; omega
  have h2 : q < x.length := by omega
  simp only [List.getD, List.getElem?_eq_getElem h1, List.getElem?_eq_getElem h2, Option.getD_some, List.getElem_reverse]
  congr 1
  omega
end Pl
theorem drop_slice {B : Nat} {w : World} {A : Option Addr} {xs : List Int} {c i : Nat} (h : IntsAt B w A xs) (hc : xs.length ≤ c ∧ c ≤ maxLen) (hi : i ≤ xs.length) :
    SliceInts B w (.slice (if c = i then A else A.map (·.add i)) (xs.length - i) (c - i)) (xs.drop i) := by
  refine ⟨_, _, by rw [List.length_drop], ⟨by rw [List.length_drop]; omega, by omega⟩, fun k hk => ?_⟩
  rw [List.length_drop] at hk
  obtain ⟨b, off, rfl, hb, hcell⟩ := h (i + k) (by omega)
  rw [if_neg (by omega)]
  refine ⟨b, off + i, by simp [Addr.add_lit], hb, ?_⟩
  rw [Nat.add_assoc, hcell]
  simp [List.getD]
theorem between_small (a b : List Int) (k : Int) (h0 : 0 ≤ k) (h1 : k ≤ 70368744177664) : Pl.small (Pl.between a b) k := by
  rw [Pl.between]
  split
  · exact opOk_small (Pl.opOk_norm (Pl.betO_ok (by assumption))) h0 h1
  · exact ⟨h0, by simp, by simp, h1⟩
theorem textOk_len {t : List Int} (h : Pl.textOk t = true) : t.length ≤ 200 := by
  unfold Pl.textOk at h
  simp only [Bool.and_eq_true, decide_eq_true_eq] at h
  exact h.1

set_option maxHeartbeats 8000000 in
set_option maxRecDepth 100000 in
theorem between_i (v v' : Value) (xs ys : List Int) (w : World) (h : SliceInts w.heap.size w v xs) (h' : SliceInts w.heap.size w v' ys) :
    Calls Try.prog 25 #[v, v'] w fun e w' => ∃ u svs, e = .returned (.tuple #[u, .bool (Pl.betOk xs ys)]) ∧ OwnP w.heap.size w'.heap.size w' u (Pl.between xs ys) svs ∧ Below w.heap.size w w' := by
  have hlm := h.len
  have hlm' := h'.len
  have h0 := Lib.hid h
  have h0' := Lib.hid h'
  obtain ⟨A, c, rfl, hc, hr0⟩ := h
  obtain ⟨A', c', rfl, hc', hr0'⟩ := h'
  have HR := Lib.hid hr0
  have HR' := Lib.hid hr0'
  clear hr0 hr0'
  by_cases hx : Pl.textOk xs = true
  rotate_left
  · have HX : Hid (Pl.textOk xs = false) := by show _ = _; simpa using hx
    have HO : Hid (Pl.betOk xs ys = false) := by show _ = _; rw [Pl.betOk, HX.out]; rfl
    have HV : Hid (Pl.between xs ys = []) := by show _ = _; rw [Pl.between, if_neg (by rw [HO.out]; decide)]
    clear hx
    go_enter Try.func25, Try.ntmps25
    go_wp2_with (fail)
    refine (textOk_i _ _ xs _ h0.out hlm).mono ?_
    rintro e w1 ⟨rfl, rfl⟩
    rw [HX.out]
    go_wp2_with (fail)
    go_ret2
    exact ⟨_, _, by rw [HO.out]; rfl, by rw [HV.out]; exact OwnP.nil _ _ _, Below.refl _ _⟩
  by_cases hy : Pl.textOk ys = true
  rotate_left
  · have HX := Lib.hid hx
    have HY : Hid (Pl.textOk ys = false) := by show _ = _; simpa using hy
    have HO : Hid (Pl.betOk xs ys = false) := by show _ = _; rw [Pl.betOk, HX.out, HY.out]; rfl
    have HV : Hid (Pl.between xs ys = []) := by show _ = _; rw [Pl.between, if_neg (by rw [HO.out]; decide)]
    clear hx hy
    go_enter Try.func25, Try.ntmps25
    go_wp2_with (fail)
    refine (textOk_i _ _ xs _ h0.out hlm).mono ?_
    rintro e w1 ⟨rfl, rfl⟩
    rw [HX.out]
    go_wp2_with (fail)
    refine (textOk_i _ _ ys _ h0'.out hlm').mono ?_
    rintro e w1 ⟨rfl, rfl⟩
    rw [HY.out]
    go_wp2_with (fail)
    go_ret2
    exact ⟨_, _, by rw [HO.out]; rfl, by rw [HV.out]; exact OwnP.nil _ _ _, Below.refl _ _⟩
  have HX := Lib.hid hx
  have HY := Lib.hid hy
  have hlx := textOk_len hx
  have hly := textOk_len hy
  have HO : Hid (Pl.betOk xs ys = true) := by show _ = _; rw [Pl.betOk, HX.out, HY.out]; rfl
  have HV : Hid (Pl.between xs ys = Pl.opNorm (Pl.betO xs ys)) := by show _ = _; rw [Pl.between, if_pos HO.out, opNorm_yes (Pl.betO_ok HO.out)]
  clear hx hy
  go_enter Try.func25, Try.ntmps25
  go_wp2_with (fail)
  refine (textOk_i _ _ xs _ h0.out hlm).mono ?_
  rintro e w1 ⟨rfl, rfl⟩
  rw [HX.out]
  go_wp2_with (fail)
  refine (textOk_i _ _ ys _ h0'.out hlm').mono ?_
  rintro e w1 ⟨rfl, rfl⟩
  rw [HY.out]
  go_wp2_with (fail)
  go_loopw [6] (fun n wr => ∃ i : Nat, n = .int .i64 i ∧ i ≤ xs.length ∧ i ≤ ys.length ∧ Hid (Pl.lcp xs ys = i + Pl.lcp (xs.drop i) (ys.drop i)) ∧ Hid (Below w.heap.size w wr)) (fun n _ => xs.length - (intOf n).toNat)
  case atStart => exact ⟨0, rfl, Nat.zero_le _, Nat.zero_le _, by show _ = _; simp, Below.refl _ _⟩
  case round =>
    obtain ⟨i, rfl, hix, hiy, hap, hb⟩ := hrel
    go_upto_region 4 with (fail)
    go_cut [36] (fun s wx => s = .bool (Pl.meets xs ys i) ∧ Hid (Below w.heap.size w wx))
    case first =>
      by_cases h1 : i < xs.length
      · obtain ⟨b, off, rfl, hbB, e0⟩ := HR.out i h1
        have e1 := (hb.out.cell (p := ⟨b, off + i, none⟩) hbB).trans e0
        clear e0
        by_cases h2 : i < ys.length
        · obtain ⟨b', off', rfl, hbB', e0'⟩ := HR'.out i h2
          have e1' := (hb.out.cell (p := ⟨b', off' + i, none⟩) hbB').trans e0'
          clear e0'
          by_cases he : xs.getD i 0 = ys.getD i 0
          · have HM : Hid (Pl.meets xs ys i = true) := by show _ = _; unfold Pl.meets; rw [decide_eq_true h1, decide_eq_true h2, decide_eq_true he]; rfl
            have k1 : (xs.getD i 0 == ys.getD i 0) = true := by simp only [beq_iff_eq]; exact he
            clear he
            generalize xs.getD i 0 = x at e1 k1
            generalize ys.getD i 0 = y at e1' k1
            go_quiet (fail)
            go_wp2
            go_meet
            exact ⟨by rw [HM.out], below_drewN hb.out _⟩
          · have HM : Hid (Pl.meets xs ys i = false) := by show _ = _; unfold Pl.meets; rw [decide_eq_true h1, decide_eq_true h2, decide_eq_false he]; rfl
            have k1 : (xs.getD i 0 == ys.getD i 0) = false := by rw [Bool.eq_false_iff]; simp only [ne_eq, beq_iff_eq]; exact he
            clear he
            generalize xs.getD i 0 = x at e1 k1
            generalize ys.getD i 0 = y at e1' k1
            go_quiet (fail)
            go_wp2
            go_meet
            exact ⟨by rw [HM.out], below_drewN hb.out _⟩
        · have HM : Hid (Pl.meets xs ys i = false) := by show _ = _; unfold Pl.meets; rw [decide_eq_true h1, decide_eq_false h2]; rfl
          have h2' : ys.length ≤ i := by omega
          go_quiet (fail)
          go_wp2
          go_meet
          exact ⟨by rw [HM.out], below_drewN hb.out _⟩
      · have HM : Hid (Pl.meets xs ys i = false) := by show _ = _; unfold Pl.meets; rw [decide_eq_false h1]; rfl
        have h1' : xs.length ≤ i := by omega
        go_quiet (fail)
        go_wp2
        go_meet
        exact ⟨by rw [HM.out], below_drewN hb.out _⟩
    case rest =>
      obtain ⟨rfl, hb2⟩ := hcut
      by_cases hm : Pl.meets xs ys i = true
      · obtain ⟨m1, m2, m3⟩ := Pl.meets_yes xs ys i hm
        have M3 := Lib.hid m3
        rw [hm]
        clear hm m3
        go_wp2
        go_roundw
        case rel => exact ⟨i + 1, by go_num, by omega, by omega, by show _ = _; rw [hap.out, M3.out]; omega, hb2⟩
        case measure => simp [intOf]; omega
      · have hm' : Pl.meets xs ys i = false := by simpa using hm
        have HL : Hid (Pl.lcp xs ys = i) := by show _ = _; rw [hap.out, Pl.meets_no xs ys i hm', Nat.add_zero]
        rw [hm']
        clear hm hm'
        go_upto_region 6 with (fail)
        go_cut [0, 1] (fun s0 s1 wx => Hid (SliceInts w.heap.size w s0 (xs.drop i)) ∧ Hid (SliceInts w.heap.size w s1 (ys.drop i)) ∧ Hid (Below w.heap.size w wx))
        case first =>
          have ix : (0 : Int) ≤ (i : Int) ∧ (i : Int) ≤ (xs.length : Int) ∧ (i : Int) ≤ (ys.length : Int) ∧ (i : Int) ≤ (c : Int) ∧ (i : Int) ≤ (c' : Int) := by omega
          obtain ⟨ix0, ix1, ix2, ix3, ix4⟩ := ix
          have D1 := Lib.hid (drop_slice HR.out hc hix)
          have D2 := Lib.hid (drop_slice HR'.out hc' hiy)
          by_cases hca : c = i
          · by_cases hcb : c' = i
            · go_quiet (fail)
              go_wp2
              go_meet
              exact ⟨by have := D1.out; rw [if_pos hca, show c - i = 0 by omega] at this; exact this, by have := D2.out; rw [if_pos hcb, show c' - i = 0 by omega] at this; exact this, below_drewN hb2.out _⟩
            · go_quiet (fail)
              go_wp2
              go_meet
              exact ⟨by have := D1.out; rw [if_pos hca, show c - i = 0 by omega] at this; exact this, by have := D2.out; rw [if_neg hcb] at this; exact this, below_drewN hb2.out _⟩
          · by_cases hcb : c' = i
            · go_quiet (fail)
              go_wp2
              go_meet
              exact ⟨by have := D1.out; rw [if_neg hca] at this; exact this, by have := D2.out; rw [if_pos hcb, show c' - i = 0 by omega] at this; exact this, below_drewN hb2.out _⟩
            · go_quiet (fail)
              go_wp2
              go_meet
              exact ⟨by have := D1.out; rw [if_neg hca] at this; exact this, by have := D2.out; rw [if_neg hcb] at this; exact this, below_drewN hb2.out _⟩
        case rest =>
          obtain ⟨s0, s1, hb3⟩ := hcut
          have HBO := Lib.hid (Pl.betO_eq HL.out)
          have lx : (xs.drop i).length ≤ 200 := by simp; omega
          have ly : (ys.drop i).length ≤ 200 := by simp; omega
          obtain ⟨A2, c2, rfl, hc2, hr2⟩ := s0.out
          obtain ⟨A3, c3, rfl, hc3, hr3⟩ := s1.out
          have S1 := Lib.hid s1.out
          have R2 := Lib.hid hr2
          have R3 := Lib.hid hr3
          clear s0 s1 hr2 hr3
          generalize xs.drop i = X at *
          generalize ys.drop i = Y at *
          go_wp2_with (fail)
          go_loopw [7] (fun n wr => ∃ k : Nat, n = .int .i64 k ∧ k ≤ X.length ∧ k ≤ Y.length ∧ Hid (Pl.lcp X.reverse Y.reverse = k + Pl.lcp (X.reverse.drop k) (Y.reverse.drop k)) ∧ Hid (Below w.heap.size w wr)) (fun n _ => X.length - (intOf n).toNat)
          case atStart => exact ⟨0, rfl, Nat.zero_le _, Nat.zero_le _, by show _ = _; simp, hb3⟩
          case round =>
            clear hb3 hb2
            obtain ⟨k, rfl, hkx, hky, hap2, hb2⟩ := hrel
            go_upto_region 8 with (fail)
            go_cut [73] (fun s wx => s = .bool (Pl.meets X.reverse Y.reverse k) ∧ Hid (Below w.heap.size w wx))
            case first =>
              by_cases h1 : k < X.length
              · obtain ⟨q, hq⟩ : ∃ q, X.length = q + 1 + k := ⟨X.length - 1 - k, by omega⟩
                obtain ⟨b, off, rfl, hbB, e0⟩ := R2.out q (by omega)
                have e1 := (hb2.out.cell (p := ⟨b, off + q, none⟩) hbB).trans e0
                rw [← Pl.rev_at hq] at e1
                clear e0
                by_cases h2 : k < Y.length
                · obtain ⟨q', hq'⟩ : ∃ q, Y.length = q + 1 + k := ⟨Y.length - 1 - k, by omega⟩
                  obtain ⟨b', off', rfl, hbB', e0'⟩ := R3.out q' (by omega)
                  have e1' := (hb2.out.cell (p := ⟨b', off' + q', none⟩) hbB').trans e0'
                  rw [← Pl.rev_at hq'] at e1'
                  clear e0'
                  have n1 : (0 : Int) ≤ (q : Int) ∧ (q : Int) < (X.length : Int) ∧ (0 : Int) ≤ (q' : Int) ∧ (q' : Int) < (Y.length : Int) := by omega
                  obtain ⟨n1, n2, n3, n4⟩ := n1
                  have t1 : IntKind.i64.wrap ((X.length : Int) - 1) = (X.length : Int) - 1 := IntWalk.i64_in _ (by omega)
                  have t2 : IntKind.i64.wrap ((X.length : Int) - 1 - (k : Int)) = (q : Int) := by rw [IntWalk.i64_in _ (by omega)]; omega
                  have t3 : IntKind.i64.wrap ((Y.length : Int) - 1) = (Y.length : Int) - 1 := IntWalk.i64_in _ (by omega)
                  have t4 : IntKind.i64.wrap ((Y.length : Int) - 1 - (k : Int)) = (q' : Int) := by rw [IntWalk.i64_in _ (by omega)]; omega
                  have HQ := Lib.hid hq
                  have HQ' := Lib.hid hq'
                  by_cases he : X.reverse.getD k 0 = Y.reverse.getD k 0
                  · have HM : Hid (Pl.meets X.reverse Y.reverse k = true) := by show _ = _; unfold Pl.meets; rw [decide_eq_true (by simp; omega), decide_eq_true (by simp; omega), decide_eq_true he]; rfl
                    have k1 : (X.reverse.getD k 0 == Y.reverse.getD k 0) = true := by simp only [beq_iff_eq]; exact he
                    clear he hq hq'
                    generalize X.reverse.getD k 0 = x at e1 k1
                    generalize Y.reverse.getD k 0 = y at e1' k1
                    go_quiet (fail)
                    clear t1 t2 t3 t4
                    go_wp2
                    go_meet
                    exact ⟨by rw [HM.out], below_drewN hb2.out _⟩
                  · have HM : Hid (Pl.meets X.reverse Y.reverse k = false) := by show _ = _; unfold Pl.meets; rw [decide_eq_true (by simp; omega), decide_eq_true (by simp; omega), decide_eq_false he]; rfl
                    have k1 : (X.reverse.getD k 0 == Y.reverse.getD k 0) = false := by rw [Bool.eq_false_iff]; simp only [ne_eq, beq_iff_eq]; exact he
                    clear he hq hq'
                    generalize X.reverse.getD k 0 = x at e1 k1
                    generalize Y.reverse.getD k 0 = y at e1' k1
                    go_quiet (fail)
                    clear t1 t2 t3 t4
                    go_wp2
                    go_meet
                    exact ⟨by rw [HM.out], below_drewN hb2.out _⟩
                · have HM : Hid (Pl.meets X.reverse Y.reverse k = false) := by show _ = _; unfold Pl.meets; rw [decide_eq_true (by simp; omega), decide_eq_false (by simp; omega)]; rfl
                  have h2' : Y.length ≤ k := by omega
                  clear hq e1
                  go_quiet (fail)
                  go_wp2
                  go_meet
                  exact ⟨by rw [HM.out], below_drewN hb2.out _⟩
              · have HM : Hid (Pl.meets X.reverse Y.reverse k = false) := by show _ = _; unfold Pl.meets; rw [decide_eq_false (by simp; omega)]; rfl
                have h1' : X.length ≤ k := by omega
                go_quiet (fail)
                go_wp2
                go_meet
                exact ⟨by rw [HM.out], below_drewN hb2.out _⟩
            case rest =>
              obtain ⟨rfl, hb4⟩ := hcut
              by_cases hm : Pl.meets X.reverse Y.reverse k = true
              · obtain ⟨m1, m2, m3⟩ := Pl.meets_yes X.reverse Y.reverse k hm
                simp only [List.length_reverse] at m1 m2
                have M3 := Lib.hid m3
                rw [hm]
                clear hm m3
                go_wp2
                go_roundw
                case rel => exact ⟨k + 1, by go_num, by omega, by omega, by show _ = _; rw [hap2.out, M3.out]; omega, hb4⟩
                case measure => simp [intOf]; omega
              · have hm' : Pl.meets X.reverse Y.reverse k = false := by simpa using hm
                have HK : Hid (Pl.lcp X.reverse Y.reverse = k) := by show _ = _; rw [hap2.out, Pl.meets_no X.reverse Y.reverse k hm', Nat.add_zero]
                have HB2 : Hid (Pl.betO xs ys = [⟨1, (i : Int), []⟩, ⟨2, 0, Y.take (Y.length - k)⟩, ⟨3, ((X.length - k : Nat) : Int), []⟩, ⟨1, (k : Int), []⟩]) := by show _ = _; rw [HBO.out, Pl.bet2, HK.out]
                rw [hm']
                clear hm hm'
                have ex : ((X.length - k : Nat) : Int) = (X.length : Int) - (k : Int) := by omega
                have hb5 : Below wc.heap.size wc (wc.alloc (.cells #[.int .i64 1, .int .i64 i, .slice none 0 0, .int .i64 2, .int .i64 0, .slice A3 (Y.length - k) c3, .int .i64 3, .int .i64 ((X.length : Int) - (k : Int)), .slice none 0 0, .int .i64 1, .int .i64 k, .slice none 0 0] 65)) := (Below.refl _ _).alloc (Nat.le_refl _) _
                have hcut2 : SliceInts w.heap.size wc (.slice A3 (Y.length - k) c3) (Y.take (Y.length - k)) := by
                  have hl : (Y.take (Y.length - k)).length = Y.length - k := by rw [List.length_take]; omega
                  refine ⟨A3, c3, by rw [hl], ⟨by rw [hl]; omega, hc3.2⟩, fun j hj => ?_⟩
                  rw [hl] at hj
                  obtain ⟨b, off, hA, hb6, hx⟩ := R3.out j (by omega)
                  exact ⟨b, off, hA, hb6, by rw [hb4.out.cell hb6, hx]; simp [List.getD, hj, show j < Y.length by omega]⟩
                have hs := parts_lit (B := wc.heap.size + 1) (ps := [⟨1, (i : Int), []⟩, ⟨2, 0, Y.take (Y.length - k)⟩, ⟨3, (X.length : Int) - (k : Int), []⟩, ⟨1, (k : Int), []⟩]) (svs := [.slice none 0 0, .slice A3 (Y.length - k) c3, .slice none 0 0, .slice none 0 0])
                  (heap_new_at wc (.cells #[.int .i64 1, .int .i64 i, .slice none 0 0, .int .i64 2, .int .i64 0, .slice A3 (Y.length - k) c3, .int .i64 3, .int .i64 ((X.length : Int) - (k : Int)), .slice none 0 0, .int .i64 1, .int .i64 k, .slice none 0 0] 65) rfl) (Nat.lt_succ_self _) rfl (fun j hj => by
                    simp only [List.length_cons, List.length_nil] at hj
                    match j, hj with
                    | 0, _ => exact sliceInts_nil _ _
                    | 1, _ => exact (hcut2.below (hb5.mono hb4.out.size)).mono (Nat.le_trans hb4.out.size (Nat.le_succ _))
                    | 2, _ => exact sliceInts_nil _ _
                    | 3, _ => exact sliceInts_nil _ _) (by simp; unfold maxLen; omega)
                have EX := Lib.hid ex
                have HS := Lib.hid hs
                have B5 := Lib.hid (hb4.out.trans (hb5.mono hb4.out.size))
                clear hs hb5 hcut2 ex
                go_wp2_with (fail)
                refine (opNorm_i _ (Pl.betO xs ys) _ (by rw [World.size_alloc, HB2.out, EX.out]; exact HS.out)).mono ?_
                rintro e w5 ⟨v5, svs5, rfl, o5, b5⟩
                obtain ⟨A5, c5, rfl⟩ := own_shape o5.row
                have O5 := Lib.hid (o5.lower (lo' := w.heap.size) (by simp; have := hb4.out.size; omega))
                have B6 := Lib.hid (B5.out.trans (b5.mono (by simp; have := hb4.out.size; omega)))
                clear o5 b5
                go_wp2_with (fail)
                go_ret2
                exact ⟨_, svs5, by rw [HO.out]; rfl, by rw [HV.out]; exact O5.out, B6.out⟩
end Go.Proofs.Ytlidheodadoboaa
