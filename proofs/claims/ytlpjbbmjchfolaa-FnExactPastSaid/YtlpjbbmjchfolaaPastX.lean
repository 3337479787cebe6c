/- Contracts of past, Past, PastAll and of the reference's, for every list. Condition: none longer than any slice can be. -/
import Derived.Test.YtlpjbbmjchfolaaTransform
import Derived.Test.YtlpjbbmjchfolaaTransformS
import Derived.Test.YtlpjbbmjchfolaaOwnQ
import Derived.Test.YtlpjbbmjchfolaaSmall
namespace Go.Proofs.Ytlpjbbmjchfolaa
open Go.RowKit
set_option maxRecDepth 100000
set_option linter.unusedVariables false

namespace Pl
def psOk : List (List Pt) → List Pt → Bool
  | [], _ => true
  | a :: l, v => xfOk a v && psOk l (trans2 a v)
def psX : List (List Pt) → List Pt → List (List Pt)
  | [], _ => []
  | a :: l, v => trans1 a v :: psX l (trans2 a v)
def psV : List (List Pt) → List Pt → List Pt
  | [], v => v
  | a :: l, v => psV l (trans2 a v)
def ppOk (os : List (List Pt)) (b : List Pt) : Bool := opOk b && psOk os (norm b)
def ppX (os : List (List Pt)) (b : List Pt) : List (List Pt) := if ppOk os b = true then psX os (norm b) else []
def ppV (os : List (List Pt)) (b : List Pt) : List Pt := if ppOk os b = true then psV os (norm b) else []
end Pl
theorem psOk_step {l : List (List Pt)} {k : Nat} (h : k < l.length) (v : List Pt) : Pl.psOk (l.drop k) v = (Pl.xfOk (l.getD k []) v && Pl.psOk (l.drop (k + 1)) (Pl.trans2 (l.getD k []) v)) := by
  rw [List.drop_eq_getElem_cons h, Pl.psOk]
  simp [List.getD, h]
theorem psX_step {l : List (List Pt)} {k : Nat} (h : k < l.length) (v : List Pt) : Pl.psX (l.drop k) v = Pl.trans1 (l.getD k []) v :: Pl.psX (l.drop (k + 1)) (Pl.trans2 (l.getD k []) v) := by
  rw [List.drop_eq_getElem_cons h, Pl.psX]
  simp [List.getD, h]
theorem psV_step {l : List (List Pt)} {k : Nat} (h : k < l.length) (v : List Pt) : Pl.psV (l.drop k) v = Pl.psV (l.drop (k + 1)) (Pl.trans2 (l.getD k []) v) := by
  rw [List.drop_eq_getElem_cons h, Pl.psV]
  simp [List.getD, h]
theorem psX_len : ∀ (l : List (List Pt)) (v : List Pt), (Pl.psX l v).length = l.length
  | [], _ => rfl
  | a :: l, v => by simp [Pl.psX, psX_len l (Pl.trans2 a v)]
theorem ppX_len (l : List (List Pt)) (b : List Pt) : (Pl.ppX l b).length ≤ l.length := by
  rw [Pl.ppX]
  split
  · rw [psX_len]; exact Nat.le_refl _
  · exact Nat.zero_le _
theorem psV_small : ∀ (l : List (List Pt)) (v : List Pt) (k : Int), 0 ≤ k → k ≤ 70368744177664 → Pl.small v k → Pl.small (Pl.psV l v) k
  | [], _, _, _, _, h => h
  | a :: l, v, k, h0, h1, _ => psV_small l _ k h0 h1 (trans2_small a v k h0 h1)
theorem ppV_small (l : List (List Pt)) (b : List Pt) (k : Int) (h0 : 0 ≤ k) (h1 : k ≤ 70368744177664) : Pl.small (Pl.ppV l b) k := by
  rw [Pl.ppV]
  split
  · rename_i h
    simp only [Pl.ppOk, Bool.and_eq_true] at h
    exact psV_small _ _ _ h0 h1 (opOk_small (Pl.opOk_norm h.1) h0 h1)
  · exact small_nil k h0 h1
theorem markN_few : ∀ (ps : List Pt) (k : Int), (∀ p ∈ ps, p.signs.length ≤ 4194304) → Pl.markN ps k ≤ k + 4194306 * ps.length
  | [], k, _ => by simp [Pl.markN]
  | p :: ps, k, h => by
    have h1 := h p (by simp)
    have h2 := markN_few ps (k + 2 + p.signs.length) fun q hq => h q (by simp [hq])
    rw [Pl.markN]
    simp only [List.length_cons]
    omega
/-- Parts of at most 200 characters: the marks go up by few. -/
theorem markN_op : ∀ (ps : List Pt) (k : Int), (∀ p ∈ ps, p.signs.length ≤ 200) → Pl.markN ps k ≤ k + 202 * ps.length
  | [], k, _ => by simp [Pl.markN]
  | p :: ps, k, h => by
    have h1 := h p (by simp)
    have h2 := markN_op ps (k + 2 + p.signs.length) fun q hq => h q (by simp [hq])
    rw [Pl.markN]
    simp only [List.length_cons]
    omega
theorem trans1_few (a b : List Pt) (k : Int) : Pl.markN (Pl.trans1 a b) k ≤ k + 1000000 := by
  rw [Pl.trans1]
  split
  · rename_i h
    simp only [Pl.xfOk, Bool.and_eq_true] at h
    have hp := opOk_partsOk h.2.1
    have hl := partsOk_len hp
    have := markN_op _ k fun p hm => (fine_of hp p hm).2.2.2
    omega
  · rw [Pl.markN]; omega
theorem smallS_psX : ∀ (l : List (List Pt)) (v : List Pt) (k : Int), 0 ≤ k → k + 1000000 * l.length ≤ 70368744177664 → Pl.smallS (Pl.psX l v) k ∧ Pl.markNN (Pl.psX l v) k ≤ k + 1000000 * l.length
  | [], _, k, h, h1 => ⟨h, by simp [Pl.psX, Pl.markNN]⟩
  | a :: l, v, k, h0, h1 => by
    simp only [List.length_cons] at h1
    have hm := trans1_few a v k
    have hl := markN_le (Pl.trans1 a v) k
    have ih := smallS_psX l (Pl.trans2 a v) (Pl.markN (Pl.trans1 a v) k) (by omega) (by omega)
    refine ⟨⟨trans1_small a v k h0 (by omega), ih.1⟩, ?_⟩
    have := ih.2
    rw [Pl.psX, Pl.markNN]
    simp only [List.length_cons]
    omega
theorem ppX_small (l : List (List Pt)) (b : List Pt) (k : Int) (h0 : 0 ≤ k) (h1 : k + 1000000 * l.length ≤ 70368744177664) : Pl.smallS (Pl.ppX l b) k ∧ Pl.markNN (Pl.ppX l b) k ≤ k + 1000000 * l.length := by
  rw [Pl.ppX]
  split
  · exact smallS_psX l _ k h0 h1
  · exact ⟨h0, by rw [Pl.markNN]; omega⟩
set_option maxHeartbeats 4000000 in
set_option maxRecDepth 100000 in
theorem past_ix (v v' : Value) (os : List (List Pt)) (b : List Pt) (w : World) (h : SliceOps w.heap.size w v os) (h' : SliceParts w.heap.size w v' b) (hl : os.length ≤ 4194304) :
    Calls Try.prog 59 #[v, v'] w fun e w' => ∃ A k svs sss u us, e = .returned (.tuple #[.slice A (Pl.ppX os b).length k, u, .bool (Pl.ppOk os b)]) ∧ OwnQ w.heap.size w'.heap.size w' (.slice A (Pl.ppX os b).length k) (Pl.ppX os b) svs sss ∧ OwnP w.heap.size w'.heap.size w' u (Pl.ppV os b) us ∧ Below w.heap.size w w' := by
  have h0' := Lib.hid h'
  obtain ⟨A, c, rfl, -, ho⟩ := h
  obtain ⟨A', c', rfl, -, -⟩ := h'
  obtain ⟨i0, hi, hz0, hz1, hz2⟩ := info_parts partsSInfo
  have HO := Lib.hid ho
  clear ho
  by_cases hb : Pl.opOk b = true
  rotate_left
  · have HB : Hid (Pl.opOk b = false) := by show _ = _; simpa using hb
    have HN : Hid (Pl.ppOk os b = false) := by show _ = _; rw [Pl.ppOk, HB.out, Bool.false_and]
    have HV : Hid (Pl.ppX os b = [] ∧ Pl.ppV os b = []) := ⟨by rw [Pl.ppX, if_neg (by rw [HN.out]; decide)], by rw [Pl.ppV, if_neg (by rw [HN.out]; decide)]⟩
    clear hb
    go_enter Try.func59, Try.ntmps59
    go_wp2_with (fail)
    refine (opOk_i _ b _ h0'.out).mono ?_
    rintro e w1 ⟨rfl, b1⟩
    rw [HB.out]
    have B1 := Lib.hid b1
    clear b1
    go_wp2_with (fail)
    go_ret3
    rw [HV.out.1, HV.out.2, HN.out]
    exact ⟨_, _, [], [], _, [], rfl, OwnQ.nil _ _ _, OwnP.nil _ _ _, B1.out⟩
  have HB0 := Lib.hid hb
  clear hb
  go_enter Try.func59, Try.ntmps59
  go_wp2_with (fail)
  refine (opOk_i _ b _ h0'.out).mono ?_
  rintro e w1 ⟨rfl, b1⟩
  rw [HB0.out]
  have H1' := Lib.hid (h0'.out.later b1)
  have B1 := Lib.hid b1
  clear b1
  go_wp2_with (fail)
  skip
  refine (opNorm_i _ b _ H1'.out).mono ?_
  rintro e w2 ⟨v2, s2, rfl, o2, b2⟩
  rw [opNorm_yes HB0.out] at o2
  obtain ⟨A2, c2, rfl⟩ := own_shape o2.row
  have B2 := Lib.hid (B1.out.trans (b2.mono B1.out.size))
  have sz1 := B1.out.size
  have sz2 := b2.size
  have V2 := Lib.hid (o2.lower2 sz1)
  have Q2 := Lib.hid (OwnQ.nil w.heap.size w2.heap.size w2)
  clear o2 b2 B1 H1'
  go_wp2_with (fail)
  go_loopw [7, 8, 21] (fun lv vv iv wr => ∃ (k : Nat) (cur : List Pt) (acc : List (List Pt)) (svs : List Value) (sss : List (List Value)) (cvs : List Value), k ≤ os.length ∧ iv = .int .i64 k ∧ Hid (OwnP w.heap.size wr.heap.size wr vv cur cvs) ∧ Hid (OwnQ w.heap.size wr.heap.size wr lv acc svs sss) ∧ acc.length = k ∧ Hid (Pl.psOk os (Pl.norm b) = Pl.psOk (os.drop k) cur) ∧ Hid (acc ++ Pl.psX (os.drop k) cur = Pl.psX os (Pl.norm b)) ∧ Hid (Pl.psV os (Pl.norm b) = Pl.psV (os.drop k) cur) ∧ Hid (Below w.heap.size w wr) ∧ w.heap.size ≤ wr.heap.size) (fun _ _ iv _ => os.length - (intOf iv).toNat)
  case atStart => exact ⟨0, Pl.norm b, [], [], [], _, Nat.zero_le _, rfl, V2.out, Q2.out, rfl, by show _ = _; simp, by show _ = _; simp, by show _ = _; simp, B2.out, by omega⟩
  case round =>
    clear V2 B2 Q2
    obtain ⟨k, cur, acc, svs, sss, cvs, hk, rfl, hv, hq, hac, hok, hx, hpv, hb, hsz⟩ := hrel
    have hal : acc.length ≤ 4194304 := by omega
    have HAC := Lib.hid hac
    clear hac
    obtain ⟨Av, cv, rfl⟩ := own_shape hv.out.row
    obtain ⟨Al, cl, rfl⟩ := hq.out.shape
    by_cases hlk : k < os.length
    · obtain ⟨b0, off, sv, rfl, hbB, c0, hs⟩ := HO.out k hlk
      have c0' := (hb.out.cell (p := ⟨b0, off + k, none⟩) hbB).trans c0
      have S0 := Lib.hid ((hs.below hb.out).mono hsz)
      have hx' := hx.out
      rw [psX_step hlk] at hx'
      have HA := Lib.hid (psOk_step hlk cur)
      have HW := Lib.hid (psV_step hlk cur)
      generalize os.getD k [] = o at c0 c0' S0 hx' HA HW hs
      obtain ⟨A3, c3, rfl, -, -⟩ := hs
      have HX : Hid (acc ++ [Pl.trans1 o cur] ++ Pl.psX (os.drop (k + 1)) (Pl.trans2 o cur) = Pl.psX os (Pl.norm b)) := by show _ = _; rw [← hx']; simp
      clear c0 hx' hx
      by_cases hxo : Pl.xfOk o cur = true
      · have XO := Lib.hid hxo
        clear hxo
        go_wp2_with (fail)
        refine (transform_i _ _ o cur _ S0.out hv.out.slice).mono ?_
        rintro e w3 ⟨u1, s1, u2, s2, rfl, ou, ov, b3⟩
        rw [XO.out]
        obtain ⟨A4, c4, rfl⟩ := own_shape ou.row
        obtain ⟨A5, c5, rfl⟩ := own_shape ov.row
        have Q3 := Lib.hid (hq.out.below b3)
        have U3 := Lib.hid ou
        have V3 := Lib.hid ov
        have B3 := Lib.hid (hb.out.trans (b3.mono hsz))
        have z3 := b3.size
        clear ou ov b3 hq hv hb S0
        have HOK : Hid (Pl.psOk os (Pl.norm b) = Pl.psOk (os.drop (k + 1)) (Pl.trans2 o cur)) := by show _ = _; rw [hok.out, HA.out, XO.out, Bool.true_and]
        have HPV : Hid (Pl.psV os (Pl.norm b) = Pl.psV (os.drop (k + 1)) (Pl.trans2 o cur)) := by show _ = _; rw [hpv.out, HW.out]
        clear hok hpv HA HW
        generalize Pl.trans1 o cur = x1 at HX U3 ⊢
        generalize Pl.trans2 o cur = x2 at HX HPV HOK V3 ⊢
        go_wp2_with (at_builtin; refine wpList_append_lies _ rfl (.tmp 34) (.tmp 36) 34 rfl 0 24 i0 _ 1 24 Try.underlying34 hi hz0 hz1 hz2 rfl (by decide) _ _ _ (by rfl) (Q3.out.row.alloc _) ⟨w3.heap.size, 0, none⟩ 1 1 [.slice A4 x1.length c4] (by rfl) rfl (World.news_of_block (cs := #[.slice A4 x1.length c4]) (heap_new_at _ _ rfl)) (by simp [Value.oneCell']) (by omega) (by unfold maxLen; omega) (by omega) (Nat.zero_le _) (w3.heap.size + 1) (by simp) ?_)
        intro gg cap w6 hown hg6 hat hlt
        have fa : Frame (fun _ => False) w3 (w3.alloc (.cells #[.slice A4 x1.length c4] 24)) := Frame.alloc _ _ _
        have ba : Below w3.heap.size w3 (w3.alloc (.cells #[.slice A4 x1.length c4] 24)) := (Below.refl _ _).alloc (Nat.le_refl _) _
        have f6 : Frame (fun k => (Value.slice Al acc.length cl).ownBlock = some k) (w3.alloc (.cells #[.slice A4 x1.length c4] 24)) w6 := Frame.grown hg6 (fun _ e => e)
        have q6 := (Q3.out.below ba).push (Nat.le_refl _) x1 rfl hown hg6 hat (by simp) ((U3.out.below ba).upto (by omega)) hsz (by omega) (by omega)
        have V6 := Lib.hid ((((V3.out.below ba).low (R := (Value.slice Al acc.length cl).ownBlock) (fun b hb hv => f6.block b hb hv) (fun x hx e => by
          have h1 := V3.out.blk hx
          have h2 := Q3.out.blk x e
          omega)).lower2 hsz).upto (hi' := w6.heap.size) (by have := f6.size; simp only [World.size_alloc] at this; omega))
        have B6 := Lib.hid (below_step (below_step B3.out fa (fun _ hh => hh.elim)) f6 (fun i hi => (Q3.out.blk i hi).1))
        have z6 := f6.size
        simp only [World.size_alloc] at z6
        have Q6 := Lib.hid q6
        clear hown hg6 hat hlt fa ba f6 q6 Q3 U3 V3 B3
        go_wp2
        go_roundw
        case rel => exact ⟨k + 1, x2, acc ++ [x1], _, _, _, by omega, by go_num, V6.out, Q6.out, by have := HAC.out; simp; omega, HOK.out, HX.out, HPV.out, B6.out, by omega⟩
        case measure => simp [intOf]; omega
      · have XO : Hid (Pl.xfOk o cur = false) := by show _ = _; simpa using hxo
        have HN : Hid (Pl.ppOk os b = false) := by show _ = _; rw [Pl.ppOk, hok.out, HA.out, XO.out, Bool.false_and, Bool.and_false]
        have HV : Hid (Pl.ppX os b = [] ∧ Pl.ppV os b = []) := ⟨by rw [Pl.ppX, if_neg (by rw [HN.out]; decide)], by rw [Pl.ppV, if_neg (by rw [HN.out]; decide)]⟩
        clear hxo hok hpv
        go_wp2_with (fail)
        refine (transform_i _ _ o cur _ S0.out hv.out.slice).mono ?_
        rintro e w3 ⟨u1, s1, u2, s2, rfl, ou, ov, b3⟩
        rw [XO.out]
        obtain ⟨A4, c4, rfl⟩ := own_shape ou.row
        obtain ⟨A5, c5, rfl⟩ := own_shape ov.row
        have B3 := Lib.hid (hb.out.trans (b3.mono hsz))
        clear ou ov b3 hb
        go_wp2_with (fail)
        go_ret3
        rw [HV.out.1, HV.out.2, HN.out]
        exact ⟨_, _, [], [], _, [], rfl, OwnQ.nil _ _ _, OwnP.nil _ _ _, B3.out⟩
    · have hd : os.drop k = [] := List.drop_eq_nil_of_le (by omega)
      have HN : Hid (Pl.ppOk os b = true) := by show _ = _; rw [Pl.ppOk, HB0.out, hok.out, hd]; rfl
      have HX : Hid (Pl.ppX os b = acc) := by show _ = _; rw [Pl.ppX, if_pos HN.out]; have := hx.out; rw [hd] at this; simpa [Pl.psX] using this.symm
      have HV : Hid (Pl.ppV os b = cur) := by show _ = _; rw [Pl.ppV, if_pos HN.out, hpv.out, hd]; rfl
      clear hd hx hpv hok
      go_wp2_with (fail)
      go_ret3
      rw [HX.out, HV.out, HN.out]
      exact ⟨_, _, _, _, _, _, rfl, hq.out, hv.out, hb.out⟩
set_option maxHeartbeats 1000000 in
theorem pastV_ix (v v' : Value) (os : List (List Pt)) (b : List Pt) (w : World) (h : SliceOps w.heap.size w v os) (h' : SliceParts w.heap.size w v' b) (hl : os.length ≤ 4194304) :
    Calls Try.prog 19 #[v, v'] w fun e w' => ∃ u us, e = .returned (.tuple #[u, .bool (Pl.ppOk os b)]) ∧ OwnP w.heap.size w'.heap.size w' u (Pl.ppV os b) us ∧ Below w.heap.size w w' := by
  have H := Lib.hid h
  have H' := Lib.hid h'
  obtain ⟨A, c, rfl, -, -⟩ := h
  obtain ⟨A', c', rfl, -, -⟩ := h'
  go_enter Try.func19, Try.ntmps19
  go_wp2_with (fail)
  refine (past_ix _ _ os b _ H.out H'.out hl).mono ?_
  rintro e w1 ⟨A2, c2, s1, s2, u, us, rfl, -, hu, b1⟩
  have U := Lib.hid hu
  obtain ⟨A1, c1, rfl⟩ := own_shape hu.row
  have B1 := Lib.hid b1
  clear b1 hu
  go_wp2_with (fail)
  go_ret2
  exact ⟨_, _, rfl, U.out, B1.out⟩
set_option maxHeartbeats 1000000 in
theorem pastAll_ix (v v' : Value) (os : List (List Pt)) (b : List Pt) (w : World) (h : SliceOps w.heap.size w v os) (h' : SliceParts w.heap.size w v' b) (hl : os.length ≤ 4194304) :
    Calls Try.prog 20 #[v, v'] w fun e w' => ∃ u svs sss, e = .returned (.tuple #[u, .bool (Pl.ppOk os b)]) ∧ OwnQ w.heap.size w'.heap.size w' u (Pl.ppX os b) svs sss ∧ Below w.heap.size w w' := by
  have H := Lib.hid h
  have H' := Lib.hid h'
  obtain ⟨A, c, rfl, -, -⟩ := h
  obtain ⟨A', c', rfl, -, -⟩ := h'
  go_enter Try.func20, Try.ntmps20
  go_wp2_with (fail)
  refine (past_ix _ _ os b _ H.out H'.out hl).mono ?_
  rintro e w1 ⟨A2, c2, s1, s2, u, us, rfl, hq, hu, b1⟩
  have Q := Lib.hid hq
  obtain ⟨A1, c1, rfl⟩ := own_shape hu.row
  have B1 := Lib.hid b1
  clear b1 hu hq
  go_wp2_with (fail)
  go_ret2
  exact ⟨_, _, _, rfl, Q.out, B1.out⟩
end Go.Proofs.Ytlpjbbmjchfolaa
