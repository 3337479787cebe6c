/- The law FnPlace returns true for every argument and leaves memory as it was. Condition: none. -/
import Derived.Test.YtlidheodadoboaaRowBytes
import Derived.Test.YtlidheodadoboaaMake
import Derived.Test.YtlidheodadoboaaLaw
import Derived.Test.YtlidheodadoboaaPlace2
import Derived.Test.YtlidheodadoboaaKeeping
import Derived.Test.YtlidheodadoboaaParts
namespace Go.Proofs.Ytlidheodadoboaa
namespace Pl
theorem place_op {N A M : Nat} {l : List Int} (h1 : A + M ≤ N) (h2 : N ≤ 200) (hl : signsOk l = true) (h3 : N - M + l.length ≤ 200) :
    placeOk N A l M = true ∧ Op (place N A l M) N (N - M + l.length) ∧ ∀ t, t.length = N → app (units (place N A l M)) t = t.take A ++ (l ++ t.drop (A + M)) := by
  have hparts : ∀ p ∈ placeO N A l M, partOk p = true := by
    intro p hp
    simp only [placeO, List.mem_cons, List.not_mem_nil, or_false] at hp
    rcases hp with rfl | rfl | rfl | rfl
    · exact partOk_of (.inl ⟨rfl, by show (0 : Int) ≤ (A : Int); omega, by show (A : Int) ≤ 200; omega, rfl⟩)
    · exact partOk_of (.inr (.inr ⟨rfl, rfl, by show l.length ≤ 200; omega, hl⟩))
    · exact partOk_of (.inr (.inl ⟨rfl, by show (0 : Int) ≤ (M : Int); omega, by show (M : Int) ≤ 200; omega, rfl⟩))
    · exact partOk_of (.inl ⟨rfl, by show (0 : Int) ≤ (N : Int) - A - M; omega, by show (N : Int) - A - M ≤ 200; omega, rfl⟩)
  have hk : keeps (placeO N A l M) = N - M ∧ drops (placeO N A l M) = M ∧ puts (placeO N A l M) = l.length := by
    refine ⟨?_, ?_, ?_⟩
    · simp [placeO, keeps, keepsP]; omega
    · simp [placeO, drops, dropsP]
    · simp [placeO, puts, putsP]
  have ho : opOk (placeO N A l M) = true := (opOk_short (o := placeO N A l M) (by simp [placeO])).2 ⟨hparts, by omega, by omega⟩
  have hok : placeOk N A l M = true := by
    unfold placeOk
    rw [ho, Bool.and_true, decide_eq_true_eq]
    omega
  have hop : Op (placeO N A l M) N (N - M + l.length) := by
    obtain ⟨e1, e2⟩ := okParts_units hparts
    exact ⟨ho, by omega, by omega⟩
  have he : place N A l M = norm (placeO N A l M) := by rw [place, if_pos hok]
  obtain ⟨n1, n2⟩ := hop.norm
  refine ⟨hok, by rw [he]; exact n1, fun t ht => ?_⟩
  rw [he, n2]
  have e0 : units (placeO N A l M) = unitsP ⟨1, A, []⟩ ++ (unitsP ⟨2, 0, l⟩ ++ (unitsP ⟨3, M, []⟩ ++ (unitsP ⟨1, (N : Int) - A - M, []⟩ ++ []))) := by simp [units, placeO]
  have e1 : ((N : Int) - A - M).toNat = N - A - M := by omega
  rw [e0, app_unitsP, if_pos (by rfl), app_unitsP, if_neg (by show ¬ (2 : Int) = 1; decide), if_pos (by rfl), app_unitsP, if_neg (by show ¬ (3 : Int) = 1; decide), if_neg (by show ¬ (3 : Int) = 2; decide), app_unitsP, if_pos (by rfl), e1, app, List.append_nil]
  simp only [Int.toNat_natCast, List.drop_drop]
  congr 2
  rw [List.take_of_length_le]
  simp
  omega
theorem place_noDrop {N A : Nat} {l : List Int} (h1 : A ≤ N) (h2 : N ≤ 200) (hl : signsOk l = true) (h3 : N + l.length ≤ 200) : partCount (place N A l 0) 3 = 0 := by
  have hop := place_op (M := 0) (by omega : A + 0 ≤ N) h2 hl (by omega)
  have hpos : ∀ p ∈ placeO N A l 0, 0 ≤ p.n := by
    intro p hp
    simp only [placeO, List.mem_cons, List.not_mem_nil, or_false] at hp
    rcases hp with rfl | rfl | rfl | rfl
    · show (0 : Int) ≤ (A : Int); omega
    · exact Int.le_refl 0
    · exact Int.le_refl 0
    · show (0 : Int) ≤ (N : Int) - A - 0; omega
  have he : place N A l 0 = grp (units (placeO N A l 0)) := by
    have := hop.1
    rw [place, if_pos (by simpa using this), norm_grp hpos]
  have hno : ∀ p ∈ place N A l 0, p.kind ≠ 3 := by
    intro p hp hk
    rw [he] at hp
    have hg := good_grp (units (placeO N A l 0)) p hp
    have hn : 1 ≤ p.n := by rcases hg with h | h | h <;> omega
    have hm : (some none : U) ∈ units (grp (units (placeO N A l 0))) := by
      refine List.mem_flatMap.2 ⟨p, hp, ?_⟩
      rw [unitsP, if_neg (by omega), if_neg (by omega)]
      exact List.mem_replicate.2 ⟨by omega, rfl⟩
    rw [(units_grp _).mem] at hm
    simp [units, placeO, unitsP] at hm
  unfold partCount
  generalize place N A l 0 = o at hno
  induction o with
  | nil => rfl
  | cons p o ih =>
    simp only [List.map_cons, List.sum_cons]
    rw [if_neg (hno p (by simp)), ih fun q hq => hno q (by simp [hq])]
    rfl
theorem idle_keeping {n : Nat} (h : n ≤ 12) : idle (keeping n) = true := by
  have : ∀ k : Fin 13, idle (keeping ((k : Nat) : Int)) = true := by decide +kernel
  exact this ⟨n, by omega⟩
end Pl
end Go.Proofs.Ytlidheodadoboaa
namespace Go.Proofs.Ytlidheodadoboaa
theorem cut_ints {B : Nat} {w : World} {A : Option Addr} {ts : List Int} {c lo m : Nat} (h : IntsAt B w A ts) (hc : ts.length ≤ c ∧ c ≤ maxLen) (hm : lo + m ≤ ts.length) :
    SliceInts B w (.slice (if c = lo then A else A.map (·.add lo)) m (c - lo)) ((ts.drop lo).take m) := by
  have hl : ((ts.drop lo).take m).length = m := by simp; omega
  refine ⟨_, _, by rw [hl], ⟨by rw [hl]; omega, by omega⟩, fun k hk => ?_⟩
  rw [hl] at hk
  obtain ⟨b, off, rfl, hb, hcell⟩ := h (lo + k) (by omega)
  rw [if_neg (by omega)]
  refine ⟨b, off + lo, by simp [Addr.add_lit], hb, ?_⟩
  rw [Nat.add_assoc, hcell]
  simp [List.getD, show k < m by omega]
end Go.Proofs.Ytlidheodadoboaa
namespace Go.Proofs.Ytlidheodadoboaa.fnPlace
open Go.ChangeShapes Go.WideShapes Go.ChangeAt Go.RowKit
set_option maxRecDepth 100000
set_option linter.unusedVariables false

set_option maxHeartbeats 8000000 in
set_option maxRecDepth 100000 in
theorem walk (w : World) (v0 : Value) (n0 : Nat) (r0 : SliceBytes w.heap.size w v0 n0) (l0 : n0 ≤ maxLen) : Calls Try.prog 13 #[v0] w fun e w' => e = .returned (.bool true) ∧ Below w.heap.size w w' := by
  have rd0 := Lib.hid r0
  obtain ⟨A0, c0, rfl, -, -⟩ := r0
  by_cases sm0 : n0 ≤ 1048576
  rotate_left
  · go_enter Try.func13, Try.ntmps13
    go_wp2_with (fail)
    go_ret
    exact ⟨rfl, Below.refl _ _⟩
  go_enter Try.func13, Try.ntmps13
  go_wp2_with (fail)
  refine (makeText_s _ n0 1 _ rd0.out).mono ?_
  rintro e w1 ⟨u1, t, rfl, o1, lt1, k1, b1⟩
  have T1 := Lib.hid o1.slice
  obtain ⟨A1, c1, rfl⟩ := own_shape o1.1
  have RD1 := Lib.hid ((rd0.out.below b1).mono b1.size)
  have HB1 := Lib.hid b1
  have K1 := Lib.hid k1
  clear o1 k1 b1 rd0
  go_wp2_with (fail)
  refine (makeText_s _ n0 2 _ RD1.out).mono ?_
  rintro e w2 ⟨u2, l, rfl, o2, lt2, k2, b2⟩
  have L2 := Lib.hid o2.slice
  obtain ⟨A2, c2, rfl⟩ := own_shape o2.1
  have RD2 := Lib.hid ((RD1.out.below b2).mono b2.size)
  have T2 := Lib.hid (T1.out.later b2)
  have HB2 := Lib.hid (HB1.out.trans (b2.mono HB1.out.size))
  have K2 := Lib.hid k2
  clear o2 k2 b2 RD1 HB1 T1
  go_wp2_with (fail)
  refine (makeNum_s _ n0 _ _ RD2.out).mono ?_
  rintro e w3 ⟨x, rfl, hx, b3⟩
  obtain ⟨x0, x1⟩ := hx.2 (by omega)
  obtain ⟨a, rfl⟩ : ∃ a : Nat, x = a := ⟨x.toNat, by omega⟩
  have T3 := Lib.hid (T2.out.later b3)
  have L3 := Lib.hid (L2.out.later b3)
  have HB3 := Lib.hid (HB2.out.trans (b3.mono HB2.out.size))
  obtain ⟨p1, p2, p3⟩ := Pl.place_op (N := t.length) (A := a) (M := 0) (l := l) (by omega) (by omega) K2.out (by omega)
  obtain ⟨q1, q2, q3⟩ := Pl.place_op (N := t.length + l.length) (A := a) (M := l.length) (l := []) (by omega) (by omega) rfl (by simp; omega)
  have P1 : Hid (Pl.placeOk t.length a l 0 = true) := p1
  have PN := Lib.hid (Pl.place_noDrop (N := t.length) (A := a) (l := l) (by omega) (by omega) K2.out (by omega))
  obtain ⟨f1, f2, f3⟩ := p2.apply ⟨K1.out, rfl⟩
  have EA : Hid (Pl.apply (Pl.place t.length a l 0) t = t.take a ++ (l ++ t.drop a)) := by
    have := f2.trans (p3 t rfl)
    exact this
  have F1 : Hid (Pl.fits (Pl.place t.length a l 0) t = true) := f1
  have PA : Pl.apply (Pl.place t.length a l 0) t = t.take a ++ (l ++ t.drop a) := EA.out
  have f3' : Pl.Tx (t.take a ++ (l ++ t.drop a)) (t.length + l.length) := by
    rw [← PA, show Pl.apply (Pl.place t.length a l 0) t = _ from f2]
    simpa using f3
  obtain ⟨g1, g2, g3⟩ := q2.apply f3'
  have EB : Hid (Pl.apply (Pl.place (t.length + l.length : Nat) a [] l.length) (t.take a ++ (l ++ t.drop a)) = t) := by
    show _ = _
    rw [g2, q3 _ f3'.len]
    have e1 : (t.take a).length = a := by rw [List.length_take]; omega
    rw [List.take_left' e1, List.nil_append, ← List.append_assoc, List.drop_left' (by rw [List.length_append, e1])]
    exact List.take_append_drop a t
  have ecast : ((t.length + l.length : Nat) : Int) = (t.length : Int) + l.length := by omega
  rw [ecast] at g1 q1
  have G1 := Lib.hid g1
  have Q1 := Lib.hid q1
  have EB : Hid (Pl.apply (Pl.place ((t.length : Int) + l.length) a [] l.length) (t.take a ++ (l ++ t.drop a)) = t) := by
    have := EB.out
    rw [ecast] at this
    exact this
  have LN : (t.take a ++ (l ++ t.drop a)).length = t.length + l.length := f3'.len
  have LNN := Lib.hid LN
  clear hx b3 T2 L2 HB2 p1 p2 p3 q1 q2 q3 f1 f2 f3 f3' PA g1 g2 g3 LN RD2
  go_wp2_with (fail)
  refine (putAt_i t.length a _ l _ (by omega) L3.out).mono ?_
  rintro e w4 ⟨u4, s4, rfl, o4, b4⟩
  rw [P1.out]
  have O4 := Lib.hid o4.slice
  obtain ⟨A4, c4, rfl⟩ := own_shape o4.row
  have T4 := Lib.hid (T3.out.later b4)
  have L4 := Lib.hid (L3.out.later b4)
  have HB4 := Lib.hid (HB3.out.trans (b4.mono HB3.out.size))
  clear o4 b4 T3 L3 HB3
  go_wp2_with (fail)
  refine (apply_i _ _ (Pl.place t.length a l 0) t _ O4.out T4.out).mono ?_
  rintro e w5 ⟨u5, rfl, o5, b5⟩
  rw [F1.out]
  rw [EA.out] at o5
  have P5 := Lib.hid o5.slice
  obtain ⟨A5, c5, rfl⟩ := own_shape o5.1
  have hlp := LNN.out
  rw [hlp] at P5 ⊢
  have O5 := Lib.hid (O4.out.later b5)
  have T5 := Lib.hid (T4.out.later b5)
  have L5 := Lib.hid (L4.out.later b5)
  have HB5 := Lib.hid (HB4.out.trans (b5.mono HB4.out.size))
  clear o5 b5 O4 T4 L4 HB4 hlp
  go_wp2_with (fail)
  refine (dropAt_i ((t.length : Int) + l.length) a l.length _ (by omega)).mono ?_
  rintro e w6 ⟨u6, s6, rfl, o6, b6⟩
  rw [Q1.out]
  have D6 := Lib.hid o6.slice
  obtain ⟨A6, c6, rfl⟩ := own_shape o6.row
  have O6 := Lib.hid (O5.out.later b6)
  have P6 := Lib.hid (P5.out.later b6)
  have T6 := Lib.hid (T5.out.later b6)
  have L6 := Lib.hid (L5.out.later b6)
  have HB6 := Lib.hid (HB5.out.trans (b6.mono HB5.out.size))
  clear o6 b6 O5 P5 T5 L5 HB5
  go_wp2_with (fail)
  refine (apply_i _ _ (Pl.place ((t.length : Int) + l.length) a [] l.length) (t.take a ++ (l ++ t.drop a)) _ D6.out P6.out).mono ?_
  rintro e w7 ⟨u7, rfl, o7, b7⟩
  rw [G1.out]
  rw [EB.out] at o7
  have Q7 := Lib.hid o7.slice
  obtain ⟨A7, c7, rfl⟩ := own_shape o7.1
  have O7 := Lib.hid (O6.out.later b7)
  have P7 := Lib.hid (P6.out.later b7)
  have T7 := Lib.hid (T6.out.later b7)
  have L7 := Lib.hid (L6.out.later b7)
  have HB7 := Lib.hid (HB6.out.trans (b7.mono HB6.out.size))
  have ecut : Hid (((t.take a ++ (l ++ t.drop a)).drop a).take l.length = l) := by
    show _ = _
    have e1 : (t.take a).length = a := by rw [List.length_take]; omega
    rw [List.drop_left' e1, List.take_left' rfl]
  have LN2 := Lib.hid LNN.out
  clear o7 b7 O6 P6 T6 L6 HB6 D6
  have SC : ∀ B w', Hid (SliceInts B w' (.slice A5 (t.length + l.length) c5) (t.take a ++ (l ++ t.drop a))) → SliceInts B w' (.slice (if c5 = a then A5 else A5.map (·.add a)) l.length (c5 - a)) l := fun B w' h => by
    obtain ⟨A', c', e, hc, hi⟩ := h.out
    injection e with h1 h2 h3
    subst h1 h3
    have := cut_ints hi hc (lo := a) (m := l.length) (by rw [LN2.out]; omega)
    rw [ecut.out] at this
    exact this
  have HSC := Lib.hid SC
  clear SC
  have hc5 : t.length + l.length ≤ c5 ∧ c5 ≤ 2 ^ 63 - 1 := by
    obtain ⟨A', c', e, hc, _⟩ := P7.out
    injection e with h1 h2 h3
    subst h3
    rw [LNN.out] at hc
    unfold maxLen at hc
    exact hc
  by_cases hca : c5 = a
  · go_wp2_with (fail)
    refine (signsSame_ib w7.heap.size _ _ t t _ Q7.out T7.out (by unfold maxLen; omega)).mono ?_
    rintro e w8 ⟨rfl, b8⟩
    have e8 : decide (t = t) = true := by simp
    rw [e8]
    have sz8 := b8.size
    have P8 := Lib.hid (P7.out.below b8)
    have L8 := Lib.hid (L7.out.below b8)
    have O8 := Lib.hid (O7.out.later b8)
    have HB8 := Lib.hid (HB7.out.trans (b8.mono HB7.out.size))
    clear b8 e8
    go_wp2_with (fail)
    refine (signsSame_ib w7.heap.size _ _ l l _ (by have := HSC.out _ _ P8; simpa [hca] using this) L8.out (by unfold maxLen; omega)).mono ?_
    rintro e w9 ⟨rfl, b9⟩
    have e9 : decide (l = l) = true := by simp
    rw [e9]
    have O9 := Lib.hid (O8.out.later b9)
    have HB9 := Lib.hid (HB8.out.trans (b9.mono HB8.out.size))
    clear b9 e9 hca
    go_wp2_with (fail)
    refine (partCount_i _ (Pl.place t.length a l 0) 3 _ O9.out).mono ?_
    rintro e w10 ⟨rfl, b10⟩
    rw [PN.out]
    have HB10 := Lib.hid (HB9.out.trans (b10.mono HB9.out.size))
    clear b10
    go_wp2_with (fail)
    refine (keeping_i t.length _).mono ?_
    rintro e w11 ⟨u11, s11, rfl, o11, b11⟩
    have K11 := Lib.hid o11.slice
    obtain ⟨A11, c11, rfl⟩ := own_shape o11.row
    have HB11 := Lib.hid (HB10.out.trans (b11.mono HB10.out.size))
    clear o11 b11
    go_wp2_with (fail)
    refine (idle_i _ (Pl.keeping t.length) _ K11.out).mono ?_
    rintro e w12 ⟨rfl, b12⟩
    rw [Pl.idle_keeping lt1]
    have HB12 := Lib.hid (HB11.out.trans (b12.mono HB11.out.size))
    clear b12
    go_wp2_with (fail)
    go_ret
    exact ⟨rfl, HB12.out⟩
  · go_wp2_with (fail)
    refine (signsSame_ib w7.heap.size _ _ t t _ Q7.out T7.out (by unfold maxLen; omega)).mono ?_
    rintro e w8 ⟨rfl, b8⟩
    have e8 : decide (t = t) = true := by simp
    rw [e8]
    have sz8 := b8.size
    have P8 := Lib.hid (P7.out.below b8)
    have L8 := Lib.hid (L7.out.below b8)
    have O8 := Lib.hid (O7.out.later b8)
    have HB8 := Lib.hid (HB7.out.trans (b8.mono HB7.out.size))
    clear b8 e8
    go_wp2_with (fail)
    refine (signsSame_ib w7.heap.size _ _ l l _ (by have := HSC.out _ _ P8; simpa [hca] using this) L8.out (by unfold maxLen; omega)).mono ?_
    rintro e w9 ⟨rfl, b9⟩
    have e9 : decide (l = l) = true := by simp
    rw [e9]
    have O9 := Lib.hid (O8.out.later b9)
    have HB9 := Lib.hid (HB8.out.trans (b9.mono HB8.out.size))
    clear b9 e9 hca
    go_wp2_with (fail)
    refine (partCount_i _ (Pl.place t.length a l 0) 3 _ O9.out).mono ?_
    rintro e w10 ⟨rfl, b10⟩
    rw [PN.out]
    have HB10 := Lib.hid (HB9.out.trans (b10.mono HB9.out.size))
    clear b10
    go_wp2_with (fail)
    refine (keeping_i t.length _).mono ?_
    rintro e w11 ⟨u11, s11, rfl, o11, b11⟩
    have K11 := Lib.hid o11.slice
    obtain ⟨A11, c11, rfl⟩ := own_shape o11.row
    have HB11 := Lib.hid (HB10.out.trans (b11.mono HB10.out.size))
    clear o11 b11
    go_wp2_with (fail)
    refine (idle_i _ (Pl.keeping t.length) _ K11.out).mono ?_
    rintro e w12 ⟨rfl, b12⟩
    rw [Pl.idle_keeping lt1]
    have HB12 := Lib.hid (HB11.out.trans (b12.mono HB11.out.size))
    clear b12
    go_wp2_with (fail)
    go_ret
    exact ⟨rfl, HB12.out⟩

set_option maxRecDepth 100000 in
theorem lifted (os : Os) (started : os.Started) (H : Type) (enc : TypeId × Value → H) :
    ReturnsInHanded {} Try.checked os 13 .any (Rows.fnPlaceSpec.pre6 enc Try.prog Try.f13 Rows.fnPlaceRow.domain false) (Rows.fnPlaceSpec.post enc Try.prog Try.f13 false true false false) := by
  refine returnsInHanded_of_change (C := Try.checked) ownNone started (by kernel_rfl) Try.func13
    (ChangeSpec.witness6 (enc := enc) (C := Try.checked) false ⟨#[], #[.slice none 0 0], []⟩ 8 (by kernel_rfl) (by kernel_rfl) (by kernel_rfl) (by kernel_rfl)) ?_
  intro W base args ds gs before hval0 hW hcnd _
  have hval : ∀ (j : Nat) t v, Try.f13.params[j]? = some t → args[j]? = some v → Value.okWide Try.prog W .any base t v := hval0
  have hW' := hW
  obtain ⟨p, q, hA0, hV, rfl, hfz, hnd⟩ := hW
  have hA : DataW.TrodAll enc Try.prog W 0 (fun _ => true) true Try.f13.params.toList args.toList ds p := hA0
  rw [Try.params13] at hA hval
  obtain ⟨v0, vs0, d0, ds0, p0, q0, hargs, rfl, rfl, h0, r0⟩ := trodAll_cons hA
  obtain ⟨rfl, rfl, rfl⟩ := trodAll_nil r0
  obtain rfl : args = #[v0] := by cases args; simp_all
  obtain ⟨rfl, rfl⟩ := trodVars_none hV
  obtain ⟨a0, s0, w0⟩ := open_byteS (hval 0 49 v0 rfl rfl) h0 (fun x hx => hW'.lt x (by simp [hx]))
  clear hA0 hval0
  refine (walk W v0 a0 s0 w0).mono fun e W' ⟨he, hb⟩ => ?_
  subst he
  exact ⟨_, rfl, law_post hW' rfl hb (by kernel_rfl) (by kernel_rfl) rfl⟩

theorem over : Rows.fnPlaceRow.holds Try.pinned (OpenSpec.ofChange Rows.fnPlaceSpec) :=
  OpenClaim.holds_of_wide 13 Try.f13 rfl rfl rfl rfl rfl rfl rfl ⟨rfl, rfl, rfl, rfl, rfl⟩ rfl rfl rfl rfl rfl (by kernel_rfl) Try.func13 (by kernel_rfl)
    (of_decide_eq_true (by kernel_rfl)) (by unfold Func.isWrapper; first | (rw [if_pos (by decide +kernel)]; kernel_rfl) | (rw [if_neg (by decide +kernel)]; exact ⟨rfl, rfl⟩))
    (fun os started H enc _ => lifted os started H enc)

/-- The given statement. -/
theorem proved : Rows.FnPlaceSaid :=
  over
end Go.Proofs.Ytlidheodadoboaa.fnPlace
