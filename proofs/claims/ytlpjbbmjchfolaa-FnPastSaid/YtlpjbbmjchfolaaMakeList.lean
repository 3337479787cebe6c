/- Contract of MakeList: a text, operations on it one behind the other, and one beside them. Condition: none. -/
import Derived.Test.YtlpjbbmjchfolaaMake
import Derived.Test.YtlpjbbmjchfolaaLaw
import Derived.Test.YtlpjbbmjchfolaaPartss
import Derived.Test.YtlpjbbmjchfolaaOps2
namespace Go.Proofs.Ytlpjbbmjchfolaa
open Go.RowKit
set_option maxRecDepth 100000
set_option linter.unusedVariables false

/-- Operations one behind the other, from so many characters to so many. -/
def Pl.Chain : Nat → List (List Pt) → Nat → Prop
  | n, [], m => n = m
  | n, o :: os, m => ∃ k, Pl.Op o n k ∧ Pl.Chain k os m
theorem chain_snoc {os : List (List Pt)} {o : List Pt} : ∀ {n m k : Nat}, Pl.Chain n os m → Pl.Op o m k → Pl.Chain n (os ++ [o]) k := by
  induction os with
  | nil => intro n m k h ho; simp only [Pl.Chain] at h; subst h; exact ⟨k, ho, rfl⟩
  | cons p os ih =>
    intro n m k h ho
    obtain ⟨j, hp, hc⟩ := h
    exact ⟨j, hp, ih hc ho⟩
theorem RdI.monoLt {F T : Nat → Prop} {w : World} {v : Value} {xs : List Int} (h : RdI F w v xs) (hT : ∀ g, F g → g < w.heap.size → T g) : RdI T w v xs := by
  obtain ⟨A, c, hv, hc, hi⟩ := h
  refine ⟨A, c, hv, hc, fun k hk => ?_⟩
  obtain ⟨b, off, hA, hb, hx⟩ := hi k hk
  exact ⟨b, off, hA, ⟨hT b hb.1 hb.2, hb.2⟩, hx⟩
theorem RdP.monoLt {F T : Nat → Prop} {w : World} {v : Value} {ps : List Pt} (h : RdP F w v ps) (hT : ∀ g, F g → g < w.heap.size → T g) : RdP T w v ps := by
  obtain ⟨A, c, hv, hc, hi⟩ := h
  refine ⟨A, c, hv, hc, fun k hk => ?_⟩
  obtain ⟨b, off, sv, hA, hb, h0, h1, h2, h3⟩ := hi k hk
  exact ⟨b, off, sv, hA, ⟨hT b hb.1 hb.2, hb.2⟩, h0, h1, h2, h3.monoLt hT⟩
/-- A growing row of operations that are read in blocks of F, where the row is not. -/
structure ListAt (F : Nat → Prop) (w : World) (v : Value) (os : List (List Pt)) (ovs : List Value) : Prop where
  row : w.ownsRow 0 24 1 v os.length ovs
  len : ovs.length = os.length
  each : ∀ k, k < os.length → RdP F w (ovs.getD k undef) (os.getD k [])
  far : ∀ g, v.ownBlock = some g → ¬ F g
section
variable {F : Nat → Prop} {w : World} {v : Value} {os : List (List Pt)} {ovs : List Value}
theorem ListAt.frame {S : Nat → Prop} {w' : World} (h : ListAt F w v os ovs) (hf : Frame S w w') (hs : ∀ g, F g → ¬ S g) (hv : ∀ g, v.ownBlock = some g → ¬ S g) : ListAt F w' v os ovs :=
  ⟨hf.row h.row hv, h.len, fun k hk => (h.each k hk).frame hf hs, h.far⟩
theorem ListAt.mono {T : Nat → Prop} (h : ListAt F w v os ovs) (hT : ∀ g, F g → T g) (hv : ∀ g, v.ownBlock = some g → ¬ T g) : ListAt T w v os ovs := ⟨h.row, h.len, fun k hk => (h.each k hk).mono hT, hv⟩
theorem ListAt.slice (h : ListAt F w v os ovs) : SliceOps w.heap.size w v os := by
  have hlt := h.row.lt
  have hcell := @World.ownsRow.cells w 0 24 1 v os.length ovs h.row
  rcases h.row.2 with ⟨rfl, hn⟩ | ⟨g, cap, cur, rfl, hb, hg, hc, hm, hs, ht⟩
  · have hx : os = [] := List.eq_nil_of_length_eq_zero hn
    subst hx
    exact ⟨none, 0, rfl, ⟨Nat.le_refl _, Nat.zero_le _⟩, fun k hk => absurd hk (Nat.not_lt_zero _)⟩
  · refine ⟨some ⟨g, 0, none⟩, cap, rfl, ⟨hc, hm⟩, fun k hk => ?_⟩
    have hk' : k < ovs.length := by rw [h.len]; exact hk
    have b0 := hcell (g := g) rfl k (ovs.getD k undef) (by simp [List.getD, hk'])
    rw [Addr.add_lit] at b0
    exact ⟨g, 0, _, rfl, (hlt g rfl).2, b0, (h.each k hk).slice⟩
theorem ListAt.push {w3 : World} (h : ListAt F w v os ovs) (o : List Pt) {sv : Value} {g cap n K : Nat} (hn : os.length = n)
    (hown : w3.ownsRow 0 24 1 (.slice (some ⟨g, 0, none⟩) (n + 1) cap) (n + 1) (ovs ++ [sv])) (hg : w.grownBy w3 v.ownBlock) (hat : v.ownBlock = some g ∨ g = K) (hK : K = w.heap.size)
    (hs : RdP F w sv o) (hF : ∀ b, F b → b < w.heap.size) :
    ListAt F w3 (.slice (some ⟨g, 0, none⟩) (n + 1) cap) (os ++ [o]) (ovs ++ [sv]) ∧ Frame (fun k => v.ownBlock = some k) w w3 := by
  subst hn hK
  have hf : Frame (fun k => v.ownBlock = some k) w w3 := Frame.grown hg (fun _ e => e)
  have hfar : ∀ b, F b → ¬ v.ownBlock = some b := fun b hb e => h.far b e hb
  refine ⟨⟨by simpa using hown, by simp [h.len], fun k hk => ?_, fun b hb => ?_⟩, hf⟩
  · by_cases hkl : k < os.length
    · have e1 : (ovs ++ [sv]).getD k undef = ovs.getD k undef := by simp [List.getD, List.getElem?_append_left (show k < ovs.length by rw [h.len]; exact hkl)]
      have e2 : (os ++ [o]).getD k [] = os.getD k [] := by simp [List.getD, List.getElem?_append_left hkl]
      rw [e1, e2]
      exact (h.each k hkl).frame hf hfar
    · obtain rfl : k = os.length := by simp at hk; omega
      have e1 : (ovs ++ [sv]).getD os.length undef = sv := by simp [List.getD, ← h.len]
      have e2 : (os ++ [o]).getD os.length [] = o := by simp [List.getD]
      rw [e1, e2]
      exact hs.frame hf hfar
  · have : g = b := by simpa [Value.ownBlock] using hb
    subst this
    intro hh
    rcases hat with e | e
    · exact h.far g e hh
    · have := hF g hh; omega
end
theorem opsInfo : (Try.prog.info? 24).map (fun i => (i.zero, i.size, i.bytes)) = some (some (.slice none 0 0), 1, 24) := by kernel_rfl

set_option maxHeartbeats 4000000 in
theorem makeList_s (v : Value) (n : Nat) (w : World) (h : SliceBytes w.heap.size w v n) :
    Calls Try.prog 18 #[v] w fun e w' => ∃ u lv b xs os qs m, e = .returned (.tuple #[u, lv, b]) ∧ SliceInts w'.heap.size w' u xs ∧ SliceOps w'.heap.size w' lv os ∧ SliceParts w'.heap.size w' b qs ∧
      (xs.length ≤ 8 ∧ Pl.signsOk xs = true) ∧ (Pl.Chain xs.length os m ∧ os.length ≤ 4 ∧ ∀ o ∈ os, Pl.to_ (Pl.units o) ≤ 56) ∧ (Pl.opOk qs = true ∧ Pl.opFrom qs = xs.length ∧ Pl.opTo qs ≤ xs.length + 12) ∧ Below w.heap.size w w' := by
  have H := Lib.hid h
  obtain ⟨A, c, rfl, -, -⟩ := h
  obtain ⟨i0, hi, hz0, hz1, hz2⟩ := info_parts opsInfo
  go_enter Try.func18, Try.ntmps18
  go_wp2_with (fail)
  refine (new_s _ n _ H.out).mono ?_
  rintro e w1 ⟨g, rfl, hg, c1, b1⟩
  have C1 := Lib.hid c1
  have B1 := Lib.hid b1
  clear c1 b1
  go_wp2_with (fail)
  refine (signs_s _ g n _ _ C1.out (by omega) (by omega)).mono ?_
  rintro e w2 ⟨u, xs, rfl, o2, l2, k2, c2, f2⟩
  obtain ⟨A7, c7, rfl⟩ := own_shape o2.1
  have O2 := Lib.hid (o2.rd (F := fun b => w1.heap.size ≤ b ∧ b < w2.heap.size) (fun b hb1 hb2 => ⟨hb1, hb2⟩))
  have K2 := Lib.hid k2
  have C2 := Lib.hid c2
  have B2 := Lib.hid (B1.out.trans (f2.below (fun i hi => by omega) B1.out.size))
  have lg1 := C1.out.lt
  have sz2 := f2.size
  clear o2 k2 c2 f2
  go_wp2_with (fail)
  have fa := Frame.alloc (fun _ => False) w2 (.cells #[] 24)
  refine (below_s _ g n _ _ (C2.out.frame fa (fun hh => hh) (fun _ _ hh => hh))).mono ?_
  rintro e w3 ⟨x, rfl, hx, c3, f3⟩
  obtain ⟨x0, x1⟩ := hx.2 (by omega)
  obtain ⟨k, rfl⟩ : ∃ k : Nat, x = k := ⟨x.toNat, by omega⟩
  have L3 : Hid (ListAt (fun _ => False) w3 (.slice (some ⟨w2.heap.size, 0, none⟩) 0 0) [] []) := by
    refine ⟨f3.row (World.ownsRow_made (base := 0) (e := 24) (size := 1) w2 #[] 0 (Nat.zero_le _) (Nat.zero_le _) rfl) (fun b hb e => ?_), rfl, fun k hk => absurd hk (Nat.not_lt_zero _), fun _ _ hh => hh⟩
    have : w2.heap.size = b := Option.some.inj hb
    omega
  have C3 := Lib.hid c3
  have F3 := Lib.hid ((fa.mono (T := fun b => b = g) (fun _ _ hh => hh.elim)).trans f3 fun _ _ hh => hh)
  have sz3 := F3.out.size
  clear hx c3 f3 fa
  go_wp2_with (fail)
  go_loopw [7, 8, 9] (fun av lv kv wr => ∃ (k m : Nat) (os : List (List Pt)) (ovs : List Value) (F : Nat → Prop), kv = .int .i64 k ∧ av = .int .i64 m ∧ os.length + k ≤ 4 ∧ m ≤ 8 + 12 * os.length ∧ Hid (Pl.Chain xs.length os m) ∧ Hid (∀ o ∈ os, Pl.to_ (Pl.units o) ≤ 56) ∧ Hid (ListAt F wr lv os ovs) ∧ Hid (∀ b, F b → w2.heap.size ≤ b ∧ b < wr.heap.size) ∧ Hid (∀ b, lv.ownBlock = some b → w2.heap.size ≤ b) ∧ Hid (CurAt w.heap.size wr g n) ∧ Hid (Frame (fun b => b = g) w2 wr) ∧ w2.heap.size ≤ wr.heap.size) (fun _ _ kv _ => (intOf kv).toNat)
  case atStart => exact ⟨k, xs.length, [], [], _, rfl, rfl, by simp; omega, by simp; omega, rfl, (fun o ho => by simp at ho), L3.out, (fun _ hh => hh.elim), (fun b hb => by have : w2.heap.size = b := Option.some.inj hb; omega), C3.out, F3.out, sz3⟩
  case round =>
    clear L3 C3 F3
    obtain ⟨k, m, os, ovs, F, rfl, rfl, hlen, hm, hch, hsm, hl, hF, hvb, hc, hf, hsz⟩ := hrel
    have hol : os.length ≤ 4 := by omega
    by_cases hk : k = 0
    · subst hk
      obtain ⟨A9, c9, rfl⟩ : ∃ A c, u8 = .slice A os.length c := by
        rcases hl.out.row.2 with ⟨e, e2⟩ | ⟨_, _, _, e, _⟩
        · exact ⟨_, _, by rw [e, e2]⟩
        · exact ⟨_, _, e⟩
      go_wp2_with (fail)
      refine (draw_s _ g n _ _ hc.out (by omega) (by omega)).mono ?_
      rintro e w4 ⟨b, qs, rfl, o4, k4, c4, f4⟩
      obtain ⟨A8, c8, rfl, -⟩ := rdP_shape o4
      have L4 := Lib.hid (hl.out.frame f4 (fun b hb e => by have := (hF.out b hb).1; omega) (fun b hb e => by have := hvb.out b hb; omega)).slice
      have T4 := Lib.hid ((O2.out.frame hf.out (fun b hb e => by omega)).frame f4 (fun b hb e => by omega)).slice
      have Q4 := Lib.hid o4.slice
      have K4 := Lib.hid k4
      have HB4 := Lib.hid (B2.out.trans ((hf.out.trans f4 fun _ _ hh => hh).below (fun i hi => by omega) B2.out.size))
      clear o4 k4 c4 f4
      go_wp2_with (fail)
      go_ret3
      exact ⟨_, _, _, xs, os, qs, m, rfl, T4.out, L4.out, Q4.out, ⟨by omega, K2.out⟩, ⟨hch.out, hol, hsm.out⟩, K4.out, HB4.out⟩
    · have hk1 : 1 ≤ k := by omega
      go_wp2_with (fail)
      refine (draw_s _ g n _ _ hc.out (by omega) (by omega)).mono ?_
      rintro e w4 ⟨v, ps, rfl, o4, ⟨k41, k42, k43⟩, c4, f4⟩
      have op := Pl.Op.mk' k41 k42 (k := m) rfl
      obtain ⟨m2, hm2⟩ : ∃ j, Pl.to_ (Pl.units ps) = j := ⟨_, rfl⟩
      rw [hm2] at op
      have ot : Hid (Pl.opTo ps = (m2 : Int)) := op.opFrom.2
      have hm3 : m2 ≤ m + 12 := by have := op.opFrom.2; omega
      have CH := Lib.hid (chain_snoc hch.out op)
      have SM : Hid (∀ o ∈ os ++ [ps], Pl.to_ (Pl.units o) ≤ 56) := fun o ho => by
        rcases List.mem_append.1 ho with ho | ho
        · exact hsm.out o ho
        · simp at ho
          subst ho
          rw [hm2]
          omega
      obtain ⟨A8, c8, rfl, -⟩ := rdP_shape o4
      have lt := (fun b hb => (hl.out.row.lt b hb).2 : ∀ b, u8.ownBlock = some b → b < wr.heap.size)
      have L4 := Lib.hid ((hl.out.frame f4 (fun b hb e => by have := (hF.out b hb).1; omega) (fun b hb e => by have := hvb.out b hb; omega)).mono (T := Plus F wr w4) (fun _ hb => .inl hb) (fun b hb => plus_not (hl.out.far b hb) (lt b hb)))
      have P4 := Lib.hid (o4.monoLt (T := Plus F wr w4) (fun b h1 h2 => .inr ⟨h1, h2⟩))
      have S4 := Lib.hid o4.slice
      have C4 := Lib.hid c4
      have F4 := Lib.hid (hf.out.trans f4 fun _ _ hh => hh)
      have z4 := f4.size
      have HF4 : Hid (∀ b, Plus F wr w4 b → w2.heap.size ≤ b ∧ b < w4.heap.size) := fun b hb => by
        rcases hb with hb | hb
        · have := hF.out b hb; omega
        · omega
      clear o4 k41 k42 k43 op hm2 c4 f4 hl hc hf lt hF hch
      go_wp2_with (fail)
      refine (opTo_s _ ps _ S4.out).mono ?_
      rintro e w5 ⟨rfl, b5⟩
      rw [ot.out]
      have fb : Frame (fun _ => False) w4 w5 := Frame.ofBelow b5
      have L5 := Lib.hid (L4.out.frame fb (fun _ _ hh => hh) (fun _ _ hh => hh))
      have P5 := Lib.hid (P4.out.frame fb (fun _ _ hh => hh))
      have C5 := Lib.hid (C4.out.frame fb (fun hh => hh) (fun _ _ hh => hh))
      have F5 := Lib.hid (F4.out.trans fb fun _ _ hh => hh.elim)
      have z5 := fb.size
      have lg5 := C5.out.lt
      clear b5 fb L4 P4 C4 F4 S4
      go_wp2_with (at_builtin; refine wpList_append_lies _ rfl (.tmp 29) (.tmp 31) 34 rfl 0 24 i0 _ 1 24 Try.underlying34 hi hz0 hz1 hz2 rfl (by decide) _ _ _ (by rfl) (L5.out.row.alloc _) ⟨w5.heap.size, 0, none⟩ 1 1 [.slice A8 ps.length c8] (by rfl) rfl (World.news_of_block (cs := #[.slice A8 ps.length c8]) (heap_new_at _ _ rfl)) (by simp [Value.oneCell']) (by omega) (by unfold maxLen; omega) (by omega) (Nat.zero_le _) (w5.heap.size + 1) (by simp) ?_)
      intro gg cap w6 hown hg6 hat hlt
      have fa : Frame (fun _ => False) w5 (w5.alloc (.cells #[.slice A8 ps.length c8] 24)) := Frame.alloc _ _ _
      obtain ⟨l6, f6⟩ := (L5.out.frame fa (fun _ _ hh => hh) (fun _ _ hh => hh)).push ps rfl hown hg6 hat (by simp) (P5.out.frame fa (fun _ _ hh => hh)) (fun b hb => by have := (HF4.out b hb).2; simp; omega)
      have VB6 : Hid (∀ b, (Value.slice (some ⟨gg, 0, none⟩) (os.length + 1) cap).ownBlock = some b → w2.heap.size ≤ b) := fun b hb => by
        have e : gg = b := Option.some.inj hb
        rcases hat with h | h
        · exact hvb.out b (by rw [← e]; exact h)
        · omega
      have z6 := f6.size
      simp only [World.size_alloc] at z6
      have C6 := Lib.hid ((C5.out.frame fa (fun hh => hh) (fun _ _ hh => hh)).frame f6 (fun e => by have := hvb.out g e; omega) (fun b hb e => by have := hvb.out b e; omega))
      have F6 := Lib.hid ((F5.out.trans fa fun _ _ hh => hh.elim).trans f6 (fun b hb e => by have := hvb.out b e; omega))
      have HF6 : Hid (∀ b, Plus F wr w4 b → w2.heap.size ≤ b ∧ b < w6.heap.size) := fun b hb => by have := HF4.out b hb; omega
      have L6 := Lib.hid l6
      clear hown hg6 hat hlt fa l6 f6 L5 P5 C5 F5 HF4
      go_wp2
      go_roundw
      case rel => exact ⟨k - 1, m2, os ++ [ps], _, _, by go_num, rfl, by simp; omega, by simp; omega, CH.out, SM.out, L6.out, HF6.out, VB6.out, C6.out, F6.out, by omega⟩
      case measure => simp [intOf]; omega
end Go.Proofs.Ytlpjbbmjchfolaa
