/- Contract of spec.l01Get: the character at a place, and its width. Condition: the place lies in the text; the text has at most 1048576 bytes. -/
import Derived.Test.YtofbcccpailbhaaDoorGetPl
import Derived.Test.YtofbcccpailbhaaDoorStrs
import Derived.Test.YtofbcccpailbhaaDoorFoot
import Derived.OwnWalk
namespace Go.Proofs.YtofbcccpailbhaaDoor
open Go.RowKit
set_option maxRecDepth 100000

theorem get_lt {s : ByteArray} {i : Nat} (h : i < s.size) : (s[i]'h).toNat = (s.get! i).toNat := by
  have : s.get! i = s[i]'h := by
    cases s with
    | mk d =>
      show d[i]! = d[i]
      rw [getElem!_pos d i h]
  rw [this]
theorem row_slice {B : Nat} {w : World} {t : TypeId} {v : Value} {n : Nat} {xs : List Value} (h : w.ownsRow B t 1 v n xs) : ∃ A c, v = .slice A n c := by
  rcases h.2 with ⟨rfl, hn⟩ | ⟨g, cap, cur, rfl, _⟩
  · exact ⟨none, 0, by rw [hn]⟩
  · exact ⟨_, _, rfl⟩
theorem put_new (r : Int) (w : World) (hr : Pl.signOk r = true) :
    Calls Tryd.prog 13 #[.slice none 0 0, .int .i64 r] w fun e w' => ∃ A c, e = .returned (.slice A (Pl.put_ r.toNat) c) ∧ Below w.heap.size w w' := by
  have h := (signOk_iff r).1 hr
  refine (l01Put_s w.heap.size (.slice none 0 0) 0 [] r w h.1 h.2.1 h.2.2 (World.ownsRow_nil _ _ _ _) (by decide) (Nat.le_refl _)).mono ?_
  rintro e w' ⟨v', rfl, hown, ob, hg⟩
  obtain ⟨A, c, rfl⟩ := row_slice hown
  have hl := Pl.encodeRune_length (n := r.toNat) (by omega) (by omega)
  rw [show ((r.toNat : Nat) : Int) = r by omega] at hl
  have hf : Frame (fun _ => False) w w' := (Frame.alloc _ w _).trans (Frame.grown hg fun _ e => by simp [Value.ownBlock] at e) (fun _ _ hh => hh)
  exact ⟨A, c, by rw [hl, Nat.zero_add], hf.below (fun x hx => hx.elim) (Nat.le_refl _)⟩
set_option maxHeartbeats 4000000 in
set_option maxRecDepth 100000 in
theorem l01Get_s (s : ByteArray) (p : Nat) (w : World) (hp : p < s.size) (hs : s.size ≤ 1048576) :
    Calls Tryd.prog 9 #[.string s, .int .i64 p] w fun e w' => e = .returned (.tuple #[.int .i64 (Pl.getAt s p).1, .int .i64 (Pl.getAt s p).2]) ∧ Below w.heap.size w w' := by
  have HX : Hid (∀ j (h : p + j < s.size), (s[p + j]'h).toNat = Pl.cb s p j) := fun j h => get_lt h
  have hx0 : (s[p]'hp).toNat = Pl.cb s p 0 := get_lt hp
  have l0 := Pl.cb_lt s p 0
  have HL8 : Hid (∀ j, Pl.cb s p j < 256) := fun j => Pl.cb_lt s p j
  obtain ⟨b0, hb0⟩ : ∃ b0, Pl.cb s p 0 = b0 := ⟨_, rfl⟩
  rw [hb0] at hx0 l0
  have HB := Lib.hid hb0
  clear hb0
  by_cases c0 : b0 < 128
  · have HR : Hid (Pl.getAt s p = (b0, 1)) := by show _ = _; rw [Pl.getAt_ascii (by rw [HB.out]; exact c0), HB.out]
    have c0z : (b0 : Int) < 128 := by omega
    go_enter Tryd.func9, Tryd.ntmps9
    go_wp2_with (fail)
    go_ret2
    exact ⟨by rw [HR.out]; rfl, Below.refl _ _⟩
  have c0z : ¬ ((b0 : Int) < 128) := by omega
  by_cases c : 192 ≤ b0 ∧ b0 ≤ 223
  · have HL : Hid (Pl.Lead (Pl.cb s p 0) 2 (b0 - 192)) := by show Pl.Lead _ _ _; rw [HB.out]; exact .inl ⟨c.1, c.2, rfl, rfl⟩
    have H : Hid (192 ≤ (b0 : Int) ∧ (b0 : Int) ≤ 223) := by show _ ∧ _; omega
    have hn0 : b0 - 192 < 32 := by omega
    have HS0 : Hid ((b0 : Int) - 192 = Pl.nAt s p (b0 - 192) 0) := by show _ = _; rw [Pl.nAt_0]; omega
    by_cases hz : p + 2 ≤ s.size
    · go_enter Tryd.func9, Tryd.ntmps9
      go_wp2_with (fail)
      refine (l01In_yes H.out _).mono ?_
      rintro e w1 ⟨rfl, rfl⟩
      go_wp2_with (fail)
      go_loopw [8, 9] (fun n i wr => ∃ (k : Nat) (N : Int), 1 ≤ k ∧ k ≤ 2 ∧ i = .int .i64 k ∧ n = .int .i64 N ∧ Hid (N = Pl.nAt s p (b0 - 192) (k - 1)) ∧ Hid (∀ j, 1 ≤ j → j < k → Pl.con s p j) ∧ 0 ≤ N ∧ N ≤ 8388607 ∧ wr = w) (fun _ i _ => 2 - (intOf i).toNat)
      case atStart => exact ⟨1, (b0 : Int) - 192, by decide, by decide, rfl, rfl, HS0.out, (fun j h1 h2 => by omega), by omega, by omega, rfl⟩
      case round =>
        obtain ⟨k, N, hk1, hk2, rfl, rfl, hN, hcon, hN0, hN1, rfl⟩ := hrel
        by_cases hlt : k < 2
        · have hpk : p + k < s.size := by omega
          have hbk : (s[p + k]'hpk).toNat = Pl.cb s p k := HX.out k hpk
          have hl8 := HL8.out k
          by_cases hc : Pl.con s p k
          · have HC1 : Hid (∀ j, 1 ≤ j → j < k + 1 → Pl.con s p j) := fun j h1 h2 => by
              by_cases e : j = k
              · rw [e]; exact hc
              · exact hcon.out j h1 (by omega)
            have hbd := Pl.nAt_bound (s := s) (p := p) (n0 := b0 - 192) (k := k) (by omega) hn0 HC1.out
            have hst : Pl.nAt s p (b0 - 192) k = N * 64 + Pl.cb s p k - 128 := by
              rw [hN.out]
              obtain ⟨m, rfl⟩ : ∃ m, k = m + 1 := ⟨k - 1, by omega⟩
              rfl
            rw [hst] at hbd
            have HST := Lib.hid hst
            unfold Pl.con at hc
            generalize Pl.cb s p k = b at hbk hl8 hc hbd HST
            have HC : Hid (128 ≤ (b : Int) ∧ (b : Int) ≤ 191) := by show _ ∧ _; omega
            clear hst hN hcon
            go_wp2_with (fail)
            refine (l01In_yes HC.out _).mono ?_
            rintro e w1 ⟨rfl, rfl⟩
            go_wp2_with (fail)
            go_roundw
            case rel => exact ⟨k + 1, N * 64 + b - 128, by omega, by omega, by go_num, rfl, HST.out.symm, HC1.out, hbd.1, hbd.2, trivial⟩
            case measure => simp [intOf]; omega
          · have HBAD : Hid (Pl.getAt s p = (0, 0)) := Pl.getAt_con HL.out hk1 hlt hc
            unfold Pl.con at hc
            generalize Pl.cb s p k = b at hbk hl8 hc
            have HC : Hid (¬ (128 ≤ (b : Int) ∧ (b : Int) ≤ 191)) := by show ¬ _; omega
            clear hN hcon hc
            go_wp2_with (fail)
            refine (l01In_no HC.out _).mono ?_
            rintro e w1 ⟨rfl, rfl⟩
            go_wp2_with (fail)
            go_ret2
            exact ⟨by rw [HBAD.out]; rfl, Below.refl _ _⟩
        · obtain rfl : k = 2 := by omega
          have hend := Pl.getAt_end HL.out hz hcon.out
          rw [← hN.out] at hend
          by_cases hok : Pl.signOk N = true
          · have HOK := Lib.hid hok
            have hpn := Lib.hid (put_new N wr hok)
            by_cases hpu : Pl.put_ N.toNat = 2
            · have HR : Hid (Pl.getAt s p = (N.toNat, 2)) := by show _ = _; rw [hend, if_pos ⟨hok, hpu⟩]
              have HNZ : Hid (((N.toNat : Nat) : Int) = N) := by show _ = _; omega
              have hq : ((Pl.put_ N.toNat : Int) != 2) = false := by rw [hpu]; rfl
              generalize Pl.put_ N.toNat = q at hpn hq
              clear hend hok hpu hN hcon
              go_wp2_with (fail)
              refine (signOk_s N _).mono ?_
              rintro e w1 ⟨rfl, rfl⟩
              rw [HOK.out]
              go_wp2_with (fail)
              refine hpn.out.mono ?_
              rintro e w2 ⟨A, c, rfl, b2⟩
              go_wp2_with (fail)
              go_ret2
              exact ⟨by rw [HR.out]; simp only [HNZ.out]; rfl, b2⟩
            · have HR : Hid (Pl.getAt s p = (0, 0)) := by show _ = _; rw [hend, if_neg (fun hh => hpu hh.2)]
              have hq : ((Pl.put_ N.toNat : Int) != 2) = true := by simp; omega
              generalize Pl.put_ N.toNat = q at hpn hq
              clear hend hok hpu hN hcon
              go_wp2_with (fail)
              refine (signOk_s N _).mono ?_
              rintro e w1 ⟨rfl, rfl⟩
              rw [HOK.out]
              go_wp2_with (fail)
              refine hpn.out.mono ?_
              rintro e w2 ⟨A, c, rfl, b2⟩
              go_wp2_with (fail)
              go_ret2
              exact ⟨by rw [HR.out]; rfl, b2⟩
          · have HR : Hid (Pl.getAt s p = (0, 0)) := by show _ = _; rw [hend, if_neg (fun hh => hok hh.1)]
            have HOK : Hid (Pl.signOk N = false) := by show _ = _; simpa using hok
            clear hend hok hN hcon
            go_wp2_with (fail)
            refine (signOk_s N _).mono ?_
            rintro e w1 ⟨rfl, rfl⟩
            rw [HOK.out]
            go_wp2_with (fail)
            go_ret2
            exact ⟨by rw [HR.out]; rfl, Below.refl _ _⟩
    · go_enter Tryd.func9, Tryd.ntmps9
      go_wp2_with (fail)
      refine (l01In_yes H.out _).mono ?_
      rintro e w1 ⟨rfl, rfl⟩
      have hz' : (s.size : Int) < (p : Int) + 2 := by omega
      go_wp2_with (fail)
      go_ret2
      exact ⟨by rw [Pl.getAt_short HL.out hz]; rfl, Below.refl _ _⟩
  have N2 : Hid (¬ (192 ≤ (b0 : Int) ∧ (b0 : Int) ≤ 223)) := by show ¬ _; omega
  have n2 := c
  clear c
  by_cases c : 224 ≤ b0 ∧ b0 ≤ 239
  · have HL : Hid (Pl.Lead (Pl.cb s p 0) 3 (b0 - 224)) := by show Pl.Lead _ _ _; rw [HB.out]; exact .inr (.inl ⟨c.1, c.2, rfl, rfl⟩)
    have H : Hid (224 ≤ (b0 : Int) ∧ (b0 : Int) ≤ 239) := by show _ ∧ _; omega
    have N2 : Hid (¬ (192 ≤ (b0 : Int) ∧ (b0 : Int) ≤ 223)) := by show ¬ _; omega
    have hn0 : b0 - 224 < 32 := by omega
    have HS0 : Hid ((b0 : Int) - 224 = Pl.nAt s p (b0 - 224) 0) := by show _ = _; rw [Pl.nAt_0]; omega
    by_cases hz : p + 3 ≤ s.size
    · go_enter Tryd.func9, Tryd.ntmps9
      go_wp2_with (fail)
      refine (l01In_no N2.out _).mono ?_
      rintro e w1 ⟨rfl, rfl⟩
      go_wp2_with (fail)
      refine (l01In_yes H.out _).mono ?_
      rintro e w1 ⟨rfl, rfl⟩
      go_wp2_with (fail)
      go_loopw [8, 9] (fun n i wr => ∃ (k : Nat) (N : Int), 1 ≤ k ∧ k ≤ 3 ∧ i = .int .i64 k ∧ n = .int .i64 N ∧ Hid (N = Pl.nAt s p (b0 - 224) (k - 1)) ∧ Hid (∀ j, 1 ≤ j → j < k → Pl.con s p j) ∧ 0 ≤ N ∧ N ≤ 8388607 ∧ wr = w) (fun _ i _ => 3 - (intOf i).toNat)
      case atStart => exact ⟨1, (b0 : Int) - 224, by decide, by decide, rfl, rfl, HS0.out, (fun j h1 h2 => by omega), by omega, by omega, rfl⟩
      case round =>
        obtain ⟨k, N, hk1, hk2, rfl, rfl, hN, hcon, hN0, hN1, rfl⟩ := hrel
        by_cases hlt : k < 3
        · have hpk : p + k < s.size := by omega
          have hbk : (s[p + k]'hpk).toNat = Pl.cb s p k := HX.out k hpk
          have hl8 := HL8.out k
          by_cases hc : Pl.con s p k
          · have HC1 : Hid (∀ j, 1 ≤ j → j < k + 1 → Pl.con s p j) := fun j h1 h2 => by
              by_cases e : j = k
              · rw [e]; exact hc
              · exact hcon.out j h1 (by omega)
            have hbd := Pl.nAt_bound (s := s) (p := p) (n0 := b0 - 224) (k := k) (by omega) hn0 HC1.out
            have hst : Pl.nAt s p (b0 - 224) k = N * 64 + Pl.cb s p k - 128 := by
              rw [hN.out]
              obtain ⟨m, rfl⟩ : ∃ m, k = m + 1 := ⟨k - 1, by omega⟩
              rfl
            rw [hst] at hbd
            have HST := Lib.hid hst
            unfold Pl.con at hc
            generalize Pl.cb s p k = b at hbk hl8 hc hbd HST
            have HC : Hid (128 ≤ (b : Int) ∧ (b : Int) ≤ 191) := by show _ ∧ _; omega
            clear hst hN hcon
            go_wp2_with (fail)
            refine (l01In_yes HC.out _).mono ?_
            rintro e w1 ⟨rfl, rfl⟩
            go_wp2_with (fail)
            go_roundw
            case rel => exact ⟨k + 1, N * 64 + b - 128, by omega, by omega, by go_num, rfl, HST.out.symm, HC1.out, hbd.1, hbd.2, trivial⟩
            case measure => simp [intOf]; omega
          · have HBAD : Hid (Pl.getAt s p = (0, 0)) := Pl.getAt_con HL.out hk1 hlt hc
            unfold Pl.con at hc
            generalize Pl.cb s p k = b at hbk hl8 hc
            have HC : Hid (¬ (128 ≤ (b : Int) ∧ (b : Int) ≤ 191)) := by show ¬ _; omega
            clear hN hcon hc
            go_wp2_with (fail)
            refine (l01In_no HC.out _).mono ?_
            rintro e w1 ⟨rfl, rfl⟩
            go_wp2_with (fail)
            go_ret2
            exact ⟨by rw [HBAD.out]; rfl, Below.refl _ _⟩
        · obtain rfl : k = 3 := by omega
          have hend := Pl.getAt_end HL.out hz hcon.out
          rw [← hN.out] at hend
          by_cases hok : Pl.signOk N = true
          · have HOK := Lib.hid hok
            have hpn := Lib.hid (put_new N wr hok)
            by_cases hpu : Pl.put_ N.toNat = 3
            · have HR : Hid (Pl.getAt s p = (N.toNat, 3)) := by show _ = _; rw [hend, if_pos ⟨hok, hpu⟩]
              have HNZ : Hid (((N.toNat : Nat) : Int) = N) := by show _ = _; omega
              have hq : ((Pl.put_ N.toNat : Int) != 3) = false := by rw [hpu]; rfl
              generalize Pl.put_ N.toNat = q at hpn hq
              clear hend hok hpu hN hcon
              go_wp2_with (fail)
              refine (signOk_s N _).mono ?_
              rintro e w1 ⟨rfl, rfl⟩
              rw [HOK.out]
              go_wp2_with (fail)
              refine hpn.out.mono ?_
              rintro e w2 ⟨A, c, rfl, b2⟩
              go_wp2_with (fail)
              go_ret2
              exact ⟨by rw [HR.out]; simp only [HNZ.out]; rfl, b2⟩
            · have HR : Hid (Pl.getAt s p = (0, 0)) := by show _ = _; rw [hend, if_neg (fun hh => hpu hh.2)]
              have hq : ((Pl.put_ N.toNat : Int) != 3) = true := by simp; omega
              generalize Pl.put_ N.toNat = q at hpn hq
              clear hend hok hpu hN hcon
              go_wp2_with (fail)
              refine (signOk_s N _).mono ?_
              rintro e w1 ⟨rfl, rfl⟩
              rw [HOK.out]
              go_wp2_with (fail)
              refine hpn.out.mono ?_
              rintro e w2 ⟨A, c, rfl, b2⟩
              go_wp2_with (fail)
              go_ret2
              exact ⟨by rw [HR.out]; rfl, b2⟩
          · have HR : Hid (Pl.getAt s p = (0, 0)) := by show _ = _; rw [hend, if_neg (fun hh => hok hh.1)]
            have HOK : Hid (Pl.signOk N = false) := by show _ = _; simpa using hok
            clear hend hok hN hcon
            go_wp2_with (fail)
            refine (signOk_s N _).mono ?_
            rintro e w1 ⟨rfl, rfl⟩
            rw [HOK.out]
            go_wp2_with (fail)
            go_ret2
            exact ⟨by rw [HR.out]; rfl, Below.refl _ _⟩
    · go_enter Tryd.func9, Tryd.ntmps9
      go_wp2_with (fail)
      refine (l01In_no N2.out _).mono ?_
      rintro e w1 ⟨rfl, rfl⟩
      go_wp2_with (fail)
      refine (l01In_yes H.out _).mono ?_
      rintro e w1 ⟨rfl, rfl⟩
      have hz' : (s.size : Int) < (p : Int) + 3 := by omega
      go_wp2_with (fail)
      go_ret2
      exact ⟨by rw [Pl.getAt_short HL.out hz]; rfl, Below.refl _ _⟩
  have N3 : Hid (¬ (224 ≤ (b0 : Int) ∧ (b0 : Int) ≤ 239)) := by show ¬ _; omega
  have n3 := c
  clear c
  by_cases c : 240 ≤ b0 ∧ b0 ≤ 247
  · have HL : Hid (Pl.Lead (Pl.cb s p 0) 4 (b0 - 240)) := by show Pl.Lead _ _ _; rw [HB.out]; exact .inr (.inr ⟨c.1, c.2, rfl, rfl⟩)
    have H : Hid (240 ≤ (b0 : Int) ∧ (b0 : Int) ≤ 247) := by show _ ∧ _; omega
    have N2 : Hid (¬ (192 ≤ (b0 : Int) ∧ (b0 : Int) ≤ 223)) := by show ¬ _; omega
    have N3 : Hid (¬ (224 ≤ (b0 : Int) ∧ (b0 : Int) ≤ 239)) := by show ¬ _; omega
    have hn0 : b0 - 240 < 32 := by omega
    have HS0 : Hid ((b0 : Int) - 240 = Pl.nAt s p (b0 - 240) 0) := by show _ = _; rw [Pl.nAt_0]; omega
    by_cases hz : p + 4 ≤ s.size
    · go_enter Tryd.func9, Tryd.ntmps9
      go_wp2_with (fail)
      refine (l01In_no N2.out _).mono ?_
      rintro e w1 ⟨rfl, rfl⟩
      go_wp2_with (fail)
      refine (l01In_no N3.out _).mono ?_
      rintro e w1 ⟨rfl, rfl⟩
      go_wp2_with (fail)
      refine (l01In_yes H.out _).mono ?_
      rintro e w1 ⟨rfl, rfl⟩
      go_wp2_with (fail)
      go_loopw [8, 9] (fun n i wr => ∃ (k : Nat) (N : Int), 1 ≤ k ∧ k ≤ 4 ∧ i = .int .i64 k ∧ n = .int .i64 N ∧ Hid (N = Pl.nAt s p (b0 - 240) (k - 1)) ∧ Hid (∀ j, 1 ≤ j → j < k → Pl.con s p j) ∧ 0 ≤ N ∧ N ≤ 8388607 ∧ wr = w) (fun _ i _ => 4 - (intOf i).toNat)
      case atStart => exact ⟨1, (b0 : Int) - 240, by decide, by decide, rfl, rfl, HS0.out, (fun j h1 h2 => by omega), by omega, by omega, rfl⟩
      case round =>
        obtain ⟨k, N, hk1, hk2, rfl, rfl, hN, hcon, hN0, hN1, rfl⟩ := hrel
        by_cases hlt : k < 4
        · have hpk : p + k < s.size := by omega
          have hbk : (s[p + k]'hpk).toNat = Pl.cb s p k := HX.out k hpk
          have hl8 := HL8.out k
          by_cases hc : Pl.con s p k
          · have HC1 : Hid (∀ j, 1 ≤ j → j < k + 1 → Pl.con s p j) := fun j h1 h2 => by
              by_cases e : j = k
              · rw [e]; exact hc
              · exact hcon.out j h1 (by omega)
            have hbd := Pl.nAt_bound (s := s) (p := p) (n0 := b0 - 240) (k := k) (by omega) hn0 HC1.out
            have hst : Pl.nAt s p (b0 - 240) k = N * 64 + Pl.cb s p k - 128 := by
              rw [hN.out]
              obtain ⟨m, rfl⟩ : ∃ m, k = m + 1 := ⟨k - 1, by omega⟩
              rfl
            rw [hst] at hbd
            have HST := Lib.hid hst
            unfold Pl.con at hc
            generalize Pl.cb s p k = b at hbk hl8 hc hbd HST
            have HC : Hid (128 ≤ (b : Int) ∧ (b : Int) ≤ 191) := by show _ ∧ _; omega
            clear hst hN hcon
            go_wp2_with (fail)
            refine (l01In_yes HC.out _).mono ?_
            rintro e w1 ⟨rfl, rfl⟩
            go_wp2_with (fail)
            go_roundw
            case rel => exact ⟨k + 1, N * 64 + b - 128, by omega, by omega, by go_num, rfl, HST.out.symm, HC1.out, hbd.1, hbd.2, trivial⟩
            case measure => simp [intOf]; omega
          · have HBAD : Hid (Pl.getAt s p = (0, 0)) := Pl.getAt_con HL.out hk1 hlt hc
            unfold Pl.con at hc
            generalize Pl.cb s p k = b at hbk hl8 hc
            have HC : Hid (¬ (128 ≤ (b : Int) ∧ (b : Int) ≤ 191)) := by show ¬ _; omega
            clear hN hcon hc
            go_wp2_with (fail)
            refine (l01In_no HC.out _).mono ?_
            rintro e w1 ⟨rfl, rfl⟩
            go_wp2_with (fail)
            go_ret2
            exact ⟨by rw [HBAD.out]; rfl, Below.refl _ _⟩
        · obtain rfl : k = 4 := by omega
          have hend := Pl.getAt_end HL.out hz hcon.out
          rw [← hN.out] at hend
          by_cases hok : Pl.signOk N = true
          · have HOK := Lib.hid hok
            have hpn := Lib.hid (put_new N wr hok)
            by_cases hpu : Pl.put_ N.toNat = 4
            · have HR : Hid (Pl.getAt s p = (N.toNat, 4)) := by show _ = _; rw [hend, if_pos ⟨hok, hpu⟩]
              have HNZ : Hid (((N.toNat : Nat) : Int) = N) := by show _ = _; omega
              have hq : ((Pl.put_ N.toNat : Int) != 4) = false := by rw [hpu]; rfl
              generalize Pl.put_ N.toNat = q at hpn hq
              clear hend hok hpu hN hcon
              go_wp2_with (fail)
              refine (signOk_s N _).mono ?_
              rintro e w1 ⟨rfl, rfl⟩
              rw [HOK.out]
              go_wp2_with (fail)
              refine hpn.out.mono ?_
              rintro e w2 ⟨A, c, rfl, b2⟩
              go_wp2_with (fail)
              go_ret2
              exact ⟨by rw [HR.out]; simp only [HNZ.out]; rfl, b2⟩
            · have HR : Hid (Pl.getAt s p = (0, 0)) := by show _ = _; rw [hend, if_neg (fun hh => hpu hh.2)]
              have hq : ((Pl.put_ N.toNat : Int) != 4) = true := by simp; omega
              generalize Pl.put_ N.toNat = q at hpn hq
              clear hend hok hpu hN hcon
              go_wp2_with (fail)
              refine (signOk_s N _).mono ?_
              rintro e w1 ⟨rfl, rfl⟩
              rw [HOK.out]
              go_wp2_with (fail)
              refine hpn.out.mono ?_
              rintro e w2 ⟨A, c, rfl, b2⟩
              go_wp2_with (fail)
              go_ret2
              exact ⟨by rw [HR.out]; rfl, b2⟩
          · have HR : Hid (Pl.getAt s p = (0, 0)) := by show _ = _; rw [hend, if_neg (fun hh => hok hh.1)]
            have HOK : Hid (Pl.signOk N = false) := by show _ = _; simpa using hok
            clear hend hok hN hcon
            go_wp2_with (fail)
            refine (signOk_s N _).mono ?_
            rintro e w1 ⟨rfl, rfl⟩
            rw [HOK.out]
            go_wp2_with (fail)
            go_ret2
            exact ⟨by rw [HR.out]; rfl, Below.refl _ _⟩
    · go_enter Tryd.func9, Tryd.ntmps9
      go_wp2_with (fail)
      refine (l01In_no N2.out _).mono ?_
      rintro e w1 ⟨rfl, rfl⟩
      go_wp2_with (fail)
      refine (l01In_no N3.out _).mono ?_
      rintro e w1 ⟨rfl, rfl⟩
      go_wp2_with (fail)
      refine (l01In_yes H.out _).mono ?_
      rintro e w1 ⟨rfl, rfl⟩
      have hz' : (s.size : Int) < (p : Int) + 4 := by omega
      go_wp2_with (fail)
      go_ret2
      exact ⟨by rw [Pl.getAt_short HL.out hz]; rfl, Below.refl _ _⟩
  have N4 : Hid (¬ (240 ≤ (b0 : Int) ∧ (b0 : Int) ≤ 247)) := by show ¬ _; omega
  have n4 := c
  clear c
  have HR : Hid (Pl.getAt s p = (0, 0)) := Pl.getAt_none (by rw [HB.out]; omega)
  clear n2 n3 n4
  go_enter Tryd.func9, Tryd.ntmps9
  go_wp2_with (fail)
  refine (l01In_no N2.out _).mono ?_
  rintro e w1 ⟨rfl, rfl⟩
  go_wp2_with (fail)
  refine (l01In_no N3.out _).mono ?_
  rintro e w1 ⟨rfl, rfl⟩
  go_wp2_with (fail)
  refine (l01In_no N4.out _).mono ?_
  rintro e w1 ⟨rfl, rfl⟩
  go_wp2_with (fail)
  go_ret2
  exact ⟨by rw [HR.out]; rfl, Below.refl _ _⟩
end Go.Proofs.YtofbcccpailbhaaDoor
