/- Contracts of impl.past, Past and PastAll where each step goes well. Condition: at most 600 operations. -/
import Derived.Test.YtlpjbbmjchfolaaTransform
import Derived.Test.YtlpjbbmjchfolaaLawPast
namespace Go.Proofs.Ytlpjbbmjchfolaa
open Go.RowKit
set_option maxRecDepth 100000
set_option linter.unusedVariables false

theorem pastOk_step {l : List (List Pt)} {k : Nat} (h : k < l.length) (v : List Pt) : Pl.pastOk (l.drop k) v = (Pl.xfOk (l.getD k []) v && Pl.pastOk (l.drop (k + 1)) (Pl.trans2 (l.getD k []) v)) := by
  rw [List.drop_eq_getElem_cons h, Pl.pastOk]
  simp [List.getD, h]
theorem pastX_step {l : List (List Pt)} {k : Nat} (h : k < l.length) (v : List Pt) : Pl.pastX (l.drop k) v = Pl.trans1 (l.getD k []) v :: Pl.pastX (l.drop (k + 1)) (Pl.trans2 (l.getD k []) v) := by
  rw [List.drop_eq_getElem_cons h, Pl.pastX]
  simp [List.getD, h]
theorem pastV_step {l : List (List Pt)} {k : Nat} (h : k < l.length) (v : List Pt) : Pl.pastV (l.drop k) v = Pl.pastV (l.drop (k + 1)) (Pl.trans2 (l.getD k []) v) := by
  rw [List.drop_eq_getElem_cons h, Pl.pastV]
  simp [List.getD, h]

set_option maxHeartbeats 4000000 in
set_option maxRecDepth 100000 in
theorem past_i (v v' : Value) (os : List (List Pt)) (b : List Pt) (w : World) (h : SliceOps w.heap.size w v os) (h' : SliceParts w.heap.size w v' b) (hb : Pl.opOk b = true) (hp : Pl.pastOk os (Pl.norm b) = true) (hl : os.length ≤ 600) :
    Calls Try.prog 59 #[v, v'] w fun e w' => ∃ lv u, e = .returned (.tuple #[lv, u, .bool true]) ∧ SliceOps w'.heap.size w' lv (Pl.pastX os (Pl.norm b)) ∧ SliceParts w'.heap.size w' u (Pl.pastV os (Pl.norm b)) ∧ Below w.heap.size w w' := by
  have h0' := Lib.hid h'
  obtain ⟨A, c, rfl, -, ho⟩ := h
  obtain ⟨A', c', rfl, -, -⟩ := h'
  obtain ⟨i0, hi, hz0, hz1, hz2⟩ := info_parts opsInfo
  have HO := Lib.hid ho
  have HB0 := Lib.hid hb
  have HP := Lib.hid hp
  clear ho hb hp
  go_enter Try.func59, Try.ntmps59
  go_wp2_with (fail)
  refine (opOk_i _ b _ h0'.out).mono ?_
  rintro e w1 ⟨rfl, b1⟩
  rw [HB0.out]
  have H1' := Lib.hid (h0'.out.later b1)
  have B1 := Lib.hid b1
  clear b1
  go_wp2_with (fail)
  refine (opNorm_i _ b _ H1'.out).mono ?_
  rintro e w2 ⟨v2, s2, rfl, o2, b2⟩
  rw [opNorm_yes HB0.out] at o2
  obtain ⟨A2, c2, rfl⟩ := own_shape o2.row
  have V2 := Lib.hid (o2.rd (F := fun x => w1.heap.size ≤ x ∧ x < w2.heap.size) (fun x h1 h2 => ⟨h1, h2⟩))
  have B2 := Lib.hid (B1.out.trans (b2.mono B1.out.size))
  have sz1 := B1.out.size
  have sz2 := b2.size
  clear o2 b2 B1 H1'
  go_wp2_with (fail)
  go_loopw [7, 8, 21] (fun lv vv iv wr => ∃ (k : Nat) (cur : List Pt) (acc : List (List Pt)) (ovs : List Value) (F : Nat → Prop), k ≤ os.length ∧ iv = .int .i64 k ∧ Hid (RdP F wr vv cur) ∧ Hid (ListAt F wr lv acc ovs) ∧ acc.length = k ∧ Hid (Pl.pastOk (os.drop k) cur = true) ∧ Hid (acc ++ Pl.pastX (os.drop k) cur = Pl.pastX os (Pl.norm b)) ∧ Hid (Pl.pastV os (Pl.norm b) = Pl.pastV (os.drop k) cur) ∧ Hid (∀ x, F x → x < wr.heap.size) ∧ Hid (∀ g, lv.ownBlock = some g → w.heap.size ≤ g) ∧ Hid (Below w.heap.size w wr) ∧ w.heap.size ≤ wr.heap.size) (fun _ _ iv _ => os.length - (intOf iv).toNat)
  case atStart => exact ⟨0, Pl.norm b, [], [], _, Nat.zero_le _, rfl, V2.out, ⟨World.ownsRow_nil _ _ _ _, rfl, fun k hk => absurd hk (Nat.not_lt_zero _), fun g hg => by simp [Value.ownBlock] at hg⟩, rfl, by show _ = _; simpa using HP.out, by show _ = _; simp, by show _ = _; simp, (fun x hx => hx.2), (fun g hg => by simp [Value.ownBlock] at hg), B2.out, by omega⟩
  case round =>
    clear V2 B2
    obtain ⟨k, cur, acc, ovs, F, hk, rfl, hv, hlist, hac, hok, hx, hpv, hF, hvb, hb, hsz⟩ := hrel
    have hal : acc.length ≤ 600 := by omega
    have HAC := Lib.hid hac
    clear hac
    obtain ⟨Av, cv, rfl, -⟩ := rdP_shape hv.out
    obtain ⟨Al, cl, rfl⟩ : ∃ A c, u7 = .slice A acc.length c := by
      rcases hlist.out.row.2 with ⟨e, e2⟩ | ⟨_, _, _, e, _⟩
      · exact ⟨_, _, by rw [e, e2]⟩
      · exact ⟨_, _, e⟩
    by_cases hlk : k < os.length
    · obtain ⟨b0, off, sv, rfl, hbB, c0, hs⟩ := HO.out k hlk
      have c0' := (hb.out.cell (p := ⟨b0, off + k, none⟩) hbB).trans c0
      have S0 := Lib.hid ((hs.below hb.out).mono hsz)
      have hok' := hok.out
      have hx' := hx.out
      have hpv' := hpv.out
      rw [pastOk_step hlk, Bool.and_eq_true] at hok'
      rw [pastX_step hlk] at hx'
      rw [pastV_step hlk] at hpv'
      generalize os.getD k [] = o at c0 c0' S0 hok' hx' hpv' hs
      obtain ⟨A3, c3, rfl, -, -⟩ := hs
      have XO := Lib.hid hok'.1
      have OK := Lib.hid hok'.2
      have HX : Hid (acc ++ [Pl.trans1 o cur] ++ Pl.pastX (os.drop (k + 1)) (Pl.trans2 o cur) = Pl.pastX os (Pl.norm b)) := by show _ = _; rw [← hx']; simp
      have HPV := Lib.hid hpv'
      clear c0 hok' hx' hpv' hok hx hpv
      go_wp2_with (fail)
      refine (transform_i _ _ o cur _ S0.out hv.out.slice).mono ?_
      rintro e w3 ⟨u1, s1, u2, s2, rfl, ou, ov, b3⟩
      rw [XO.out]
      obtain ⟨A4, c4, rfl⟩ := own_shape ou.row
      obtain ⟨A5, c5, rfl⟩ := own_shape ov.row
      have fb : Frame (fun _ => False) wr w3 := Frame.ofBelow b3
      have lt := (fun g hg => (hlist.out.row.lt g hg).2 : ∀ g, (Value.slice Al acc.length cl).ownBlock = some g → g < wr.heap.size)
      have L3 := Lib.hid ((hlist.out.frame fb (fun _ _ hh => hh) (fun _ _ hh => hh)).mono (T := Plus F wr w3) (fun _ h => .inl h) (fun g hg => plus_not (hlist.out.far g hg) (lt g hg)))
      have U3 := Lib.hid (ou.rd (F := Plus F wr w3) (fun x h1 h2 => .inr ⟨h1, h2⟩))
      have V3 := Lib.hid (ov.rd (F := Plus F wr w3) (fun x h1 h2 => .inr ⟨h1, h2⟩))
      have F3 : Hid (∀ x, Plus F wr w3 x → x < w3.heap.size) := Plus.lt hF.out fb.size
      have B3 := Lib.hid (hb.out.trans (b3.mono hsz))
      have z3 := b3.size
      clear ou ov b3 fb lt hlist hv hF hb S0
      generalize Pl.trans1 o cur = x1 at HX U3 ⊢
      generalize Pl.trans2 o cur = x2 at HX HPV OK V3 ⊢
      go_wp2_with (at_builtin; refine wpList_append_lies _ rfl (.tmp 34) (.tmp 36) 34 rfl 0 24 i0 _ 1 24 Try.underlying34 hi hz0 hz1 hz2 rfl (by decide) _ _ _ (by rfl) (L3.out.row.alloc _) ⟨w3.heap.size, 0, none⟩ 1 1 [.slice A4 x1.length c4] (by rfl) rfl (World.news_of_block (cs := #[.slice A4 x1.length c4]) (heap_new_at _ _ rfl)) (by simp [Value.oneCell']) (by omega) (by unfold maxLen; omega) (by omega) (Nat.zero_le _) (w3.heap.size + 1) (by simp) ?_)
      intro gg cap w6 hown hg6 hat hlt
      have fa : Frame (fun _ => False) w3 (w3.alloc (.cells #[.slice A4 x1.length c4] 24)) := Frame.alloc _ _ _
      obtain ⟨l6, f6⟩ := (L3.out.frame fa (fun _ _ hh => hh) (fun _ _ hh => hh)).push x1 rfl hown hg6 hat (by simp) (U3.out.frame fa (fun _ _ hh => hh)) (fun x hx => by have := F3.out x hx; simp; omega)
      have V6 := Lib.hid ((V3.out.frame fa (fun _ _ hh => hh)).frame f6 (fun x hx e => L3.out.far x e hx))
      have VB6 : Hid (∀ g, (Value.slice (some ⟨gg, 0, none⟩) (acc.length + 1) cap).ownBlock = some g → w.heap.size ≤ g) := fun g hg => by
        have e : gg = g := Option.some.inj hg
        rcases hat with h | h
        · exact hvb.out g (by rw [← e]; exact h)
        · omega
      have B6 := Lib.hid (below_step (below_step B3.out fa (fun _ hh => hh.elim)) f6 (fun i hi => hvb.out i hi))
      have z6 := f6.size
      simp only [World.size_alloc] at z6
      have F6 : Hid (∀ x, Plus F wr w3 x → x < w6.heap.size) := fun x hx => by have := F3.out x hx; omega
      have L6 := Lib.hid l6
      clear hown hg6 hat hlt fa l6 f6 L3 U3 V3 F3 B3 hvb
      go_wp2
      go_roundw
      case rel => exact ⟨k + 1, x2, acc ++ [x1], _, _, by omega, by go_num, V6.out, L6.out, by have := HAC.out; simp; omega, OK.out, HX.out, HPV.out, F6.out, VB6.out, B6.out, by omega⟩
      case measure => simp [intOf]; omega
    · have hd : os.drop k = [] := List.drop_eq_nil_of_le (by omega)
      have HX : Hid (acc = Pl.pastX os (Pl.norm b)) := by show _ = _; have := hx.out; rw [hd] at this; simpa [Pl.pastX] using this
      have HV : Hid (Pl.pastV os (Pl.norm b) = cur) := by show _ = _; rw [hpv.out, hd]; rfl
      clear hd hx hpv hok
      go_wp2_with (fail)
      go_ret3
      exact ⟨_, _, rfl, by rw [← HX.out]; exact hlist.out.slice, by rw [HV.out]; exact hv.out.slice, hb.out⟩
set_option maxHeartbeats 1000000 in
theorem pastV_i (v v' : Value) (os : List (List Pt)) (b : List Pt) (w : World) (h : SliceOps w.heap.size w v os) (h' : SliceParts w.heap.size w v' b) (hb : Pl.opOk b = true) (hp : Pl.pastOk os (Pl.norm b) = true) (hl : os.length ≤ 600) :
    Calls Try.prog 19 #[v, v'] w fun e w' => ∃ u, e = .returned (.tuple #[u, .bool true]) ∧ SliceParts w'.heap.size w' u (Pl.pastV os (Pl.norm b)) ∧ Below w.heap.size w w' := by
  have H := Lib.hid h
  have H' := Lib.hid h'
  have HB := Lib.hid hb
  have HP := Lib.hid hp
  obtain ⟨A, c, rfl, -, -⟩ := h
  obtain ⟨A', c', rfl, -, -⟩ := h'
  clear hb hp
  go_enter Try.func19, Try.ntmps19
  go_wp2_with (fail)
  refine (past_i _ _ os b _ H.out H'.out HB.out HP.out hl).mono ?_
  rintro e w1 ⟨lv, u, rfl, hlv, hu, b1⟩
  have U := Lib.hid hu
  obtain ⟨A1, c1, rfl, -, -⟩ := hu
  obtain ⟨A2, c2, rfl, -, -⟩ := hlv
  have B1 := Lib.hid b1
  clear b1
  go_wp2_with (fail)
  go_ret2
  exact ⟨_, rfl, U.out, B1.out⟩
set_option maxHeartbeats 1000000 in
theorem pastAll_i (v v' : Value) (os : List (List Pt)) (b : List Pt) (w : World) (h : SliceOps w.heap.size w v os) (h' : SliceParts w.heap.size w v' b) (hb : Pl.opOk b = true) (hp : Pl.pastOk os (Pl.norm b) = true) (hl : os.length ≤ 600) :
    Calls Try.prog 20 #[v, v'] w fun e w' => ∃ u, e = .returned (.tuple #[u, .bool true]) ∧ SliceOps w'.heap.size w' u (Pl.pastX os (Pl.norm b)) ∧ Below w.heap.size w w' := by
  have H := Lib.hid h
  have H' := Lib.hid h'
  have HB := Lib.hid hb
  have HP := Lib.hid hp
  obtain ⟨A, c, rfl, -, -⟩ := h
  obtain ⟨A', c', rfl, -, -⟩ := h'
  clear hb hp
  go_enter Try.func20, Try.ntmps20
  go_wp2_with (fail)
  refine (past_i _ _ os b _ H.out H'.out HB.out HP.out hl).mono ?_
  rintro e w1 ⟨lv, u, rfl, hlv, hu, b1⟩
  have L := Lib.hid hlv
  obtain ⟨A1, c1, rfl, -, -⟩ := hu
  obtain ⟨A2, c2, rfl, -, -⟩ := hlv
  have B1 := Lib.hid b1
  clear b1
  go_wp2_with (fail)
  go_ret2
  exact ⟨_, rfl, L.out, B1.out⟩
end Go.Proofs.Ytlpjbbmjchfolaa
