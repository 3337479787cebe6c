/- Contracts of Invert. Condition: none longer than any slice can be. -/
import Derived.Test.YtlpjbbmjchfolaaSpans
import Derived.Test.YtlpjbbmjchfolaaPlace2
import Derived.Test.YtlpjbbmjchfolaaApply
namespace Go.Proofs.Ytlpjbbmjchfolaa
open Go.RowKit
set_option maxRecDepth 100000

namespace Pl
/-- The parts that take an operation back. -/
def invL : List Pt → List Int → List Pt
  | [], _ => []
  | p :: o, t => if p.kind = 1 then p :: invL o (t.drop p.n.toNat) else if p.kind = 2 then ⟨3, p.signs.length, []⟩ :: invL o t else ⟨2, 0, t.take p.n.toNat⟩ :: invL o (t.drop p.n.toNat)
def invert (o : List Pt) (t : List Int) : List Pt := if fits o t = true then norm (invL (norm o) t) else []
theorem invL_len (o : List Pt) : ∀ t, (invL o t).length = o.length := by
  induction o with
  | nil => intro t; rfl
  | cons p o ih =>
    intro t
    rw [invL]
    split
    · simp [ih]
    · split <;> simp [ih]
theorem invL_ok (o : List Pt) : ∀ t : List Int, (∀ p ∈ o, partOk p = true) → signsOk t = true → keeps o + drops o ≤ t.length →
    (∀ p ∈ invL o t, partOk p = true) ∧ keeps (invL o t) = keeps o ∧ puts (invL o t) = drops o ∧ drops (invL o t) = puts o := by
  induction o with
  | nil => intro t _ _ _; exact ⟨fun p hp => by simp [invL] at hp, rfl, rfl, rfl⟩
  | cons p o ih =>
    intro t h hs hl
    have hp := partOk_cases (h p (by simp))
    have ho : ∀ q ∈ o, partOk q = true := fun q hq => h q (by simp [hq])
    have nn : 0 ≤ keeps o + drops o := by
      obtain ⟨e, _⟩ := okParts_units ho
      omega
    have sd : ∀ n, signsOk (t.drop n) = true := fun n => by
      unfold signsOk at hs ⊢
      exact List.all_eq_true.2 fun x hx => List.all_eq_true.1 hs x (List.mem_of_mem_drop hx)
    simp only [keeps, drops, List.map_cons, List.sum_cons] at hl nn
    rw [invL]
    rcases hp with ⟨k, n0, n1, sg⟩ | ⟨k, n0, n1, sg⟩ | ⟨k, n0, n1, sg⟩
    · have e1 : keepsP p = p.n := by simp [keepsP, k]
      have e2 : dropsP p = 0 := by simp [dropsP, k]
      have e3 : putsP p = 0 := by simp [putsP, k]
      have := ih (t.drop p.n.toNat) ho (sd _) (by rw [List.length_drop]; simp only [keeps, drops]; omega)
      obtain ⟨a, b, c, d⟩ := this
      rw [if_pos k]
      refine ⟨fun q hq => ?_, ?_, ?_, ?_⟩
      · rcases List.mem_cons.1 hq with rfl | hq
        · exact h q (by simp)
        · exact a q hq
      · simp only [keeps, List.map_cons, List.sum_cons] at b ⊢; omega
      · simp only [puts, drops, List.map_cons, List.sum_cons] at c ⊢; omega
      · simp only [puts, drops, List.map_cons, List.sum_cons] at d ⊢; omega
    · have e1 : keepsP p = 0 := by simp [keepsP, k]
      have e2 : dropsP p = p.n := by simp [dropsP, k]
      have e3 : putsP p = 0 := by simp [putsP, k]
      have := ih (t.drop p.n.toNat) ho (sd _) (by rw [List.length_drop]; simp only [keeps, drops]; omega)
      obtain ⟨a, b, c, d⟩ := this
      rw [if_neg (by omega), if_neg (by omega)]
      have tl : (t.take p.n.toNat).length = p.n.toNat := by rw [List.length_take]; omega
      refine ⟨fun q hq => ?_, ?_, ?_, ?_⟩
      · rcases List.mem_cons.1 hq with rfl | hq
        · refine partOk_of (.inr (.inr ⟨rfl, rfl, by show (t.take p.n.toNat).length ≤ 200; omega, ?_⟩))
          show signsOk (t.take p.n.toNat) = true
          unfold signsOk at hs ⊢
          exact List.all_eq_true.2 fun x hx => List.all_eq_true.1 hs x (List.mem_of_mem_take hx)
        · exact a q hq
      · simp only [keeps, List.map_cons, List.sum_cons] at b ⊢; simp [keepsP] at e1 ⊢; omega
      · simp only [puts, drops, List.map_cons, List.sum_cons] at c ⊢
        have : putsP ⟨2, 0, t.take p.n.toNat⟩ = p.n := by simp only [putsP, if_true]; rw [tl]; omega
        omega
      · simp only [puts, drops, List.map_cons, List.sum_cons] at d ⊢
        have : dropsP ⟨2, 0, t.take p.n.toNat⟩ = 0 := by simp [dropsP]
        omega
    · have e1 : keepsP p = 0 := by simp [keepsP, k]
      have e2 : dropsP p = 0 := by simp [dropsP, k]
      have e3 : putsP p = p.signs.length := by simp [putsP, k]
      have := ih t ho hs (by simp only [keeps, drops]; omega)
      obtain ⟨a, b, c, d⟩ := this
      rw [if_neg (by omega), if_pos k]
      refine ⟨fun q hq => ?_, ?_, ?_, ?_⟩
      · rcases List.mem_cons.1 hq with rfl | hq
        · exact partOk_of (.inr (.inl ⟨rfl, by show (0 : Int) ≤ (p.signs.length : Int); omega, by show (p.signs.length : Int) ≤ 200; omega, rfl⟩))
        · exact a q hq
      · simp only [keeps, List.map_cons, List.sum_cons] at b ⊢
        have : keepsP ⟨3, (p.signs.length : Int), []⟩ = 0 := by simp [keepsP]
        omega
      · simp only [puts, drops, List.map_cons, List.sum_cons] at c ⊢
        have : putsP ⟨3, (p.signs.length : Int), []⟩ = 0 := by simp [putsP]
        omega
      · simp only [puts, drops, List.map_cons, List.sum_cons] at d ⊢
        have : dropsP ⟨3, (p.signs.length : Int), []⟩ = p.signs.length := by simp [dropsP]
        omega
theorem inv_opOk {o : List Pt} {t : List Int} (h : fits o t = true) : opOk (invL (norm o) t) = true := by
  unfold fits at h
  simp only [Bool.and_eq_true, decide_eq_true_eq] at h
  obtain ⟨ho, ht, hf⟩ := h
  have hn := opOk_norm ho
  obtain ⟨f1, f2⟩ := opFrom_norm ho
  obtain ⟨hp, hl⟩ := partsOk_all (opOk_units hn).1
  unfold textOk at ht
  simp only [Bool.and_eq_true, decide_eq_true_eq] at ht
  have e1 : opFrom (norm o) = keeps (norm o) + drops (norm o) := by rw [opFrom, if_pos (opOk_units hn).1]
  have e2 : opTo (norm o) = keeps (norm o) + puts (norm o) := by rw [opTo, if_pos (opOk_units hn).1]
  obtain ⟨a, b, c, d⟩ := invL_ok (norm o) t hp ht.2 (by omega)
  have g1 := (opOk_units hn).2.1
  have g2 := (opOk_units hn).2.2
  have hpo := partsOk_of a (by rw [invL_len]; exact hl)
  unfold opOk opFrom opTo
  rw [if_pos hpo, if_pos hpo, hpo, b, c, d]
  simp only [Bool.true_and, Bool.and_eq_true, decide_eq_true_eq]
  omega
end Pl
theorem invL_step {o : List Pt} {k : Nat} (h : k < o.length) (t : List Int) : Pl.invL (o.drop k) t =
    (if (o.getD k ⟨0, 0, []⟩).kind = 1 then (o.getD k ⟨0, 0, []⟩) :: Pl.invL (o.drop (k + 1)) (t.drop (o.getD k ⟨0, 0, []⟩).n.toNat)
      else if (o.getD k ⟨0, 0, []⟩).kind = 2 then ⟨3, (o.getD k ⟨0, 0, []⟩).signs.length, []⟩ :: Pl.invL (o.drop (k + 1)) t
      else ⟨2, 0, t.take (o.getD k ⟨0, 0, []⟩).n.toNat⟩ :: Pl.invL (o.drop (k + 1)) (t.drop (o.getD k ⟨0, 0, []⟩).n.toNat)) := by
  rw [List.drop_eq_getElem_cons h, Pl.invL]
  simp [List.getD, h]
theorem invert_small (o : List Pt) (t : List Int) (k : Int) (h0 : 0 ≤ k) (h1 : k ≤ 70368744177664) : Pl.small (Pl.invert o t) k := by
  rw [Pl.invert]
  split
  · exact opOk_small (Pl.opOk_norm (Pl.inv_opOk (by assumption))) h0 h1
  · exact ⟨h0, by simp, by simp, h1⟩
/-- The cut of a slice of ints is a slice of ints. -/
theorem cut_slice {B : Nat} {w : World} {A : Option Addr} {ts : List Int} {c lo m : Nat} (h : IntsAt B w A ts) (hc : ts.length ≤ c ∧ c ≤ maxLen) (hm : lo + m ≤ ts.length) :
    SliceInts B w (.slice (if c = lo then A else A.map (·.add lo)) m (c - lo)) ((ts.drop lo).take m) := by
  have hl : ((ts.drop lo).take m).length = m := by simp; omega
  refine ⟨_, _, by rw [hl], ⟨by rw [hl]; omega, by omega⟩, fun k hk => ?_⟩
  rw [hl] at hk
  obtain ⟨b, off, rfl, hb, hcell⟩ := h (lo + k) (by omega)
  rw [if_neg (by omega)]
  refine ⟨b, off + lo, by simp [Addr.add_lit], hb, ?_⟩
  rw [Nat.add_assoc, hcell]
  simp [List.getD, show k < m by omega]
/-- A row of parts whose characters are read. -/
structure RowP (B : Nat) (w : World) (v : Value) (ps : List Pt) (svs : List Value) : Prop where
  row : w.ownsRow B 71 3 v ps.length (cellsP ps svs)
  len : svs.length = ps.length
  each : ∀ k, k < ps.length → SliceInts B w (svs.getD k undef) (ps.getD k ⟨0, 0, []⟩).signs
theorem RowP.nil (B : Nat) (w : World) : RowP B w (.slice none 0 0) [] [] := ⟨World.ownsRow_nil _ _ _ _, rfl, fun _ hk => absurd hk (Nat.not_lt_zero _)⟩
theorem RowP.later {B : Nat} {w w' : World} {v : Value} {ps : List Pt} {svs : List Value} (h : RowP B w v ps svs) (hB : B ≤ w.heap.size) (hb : Below w.heap.size w w') : RowP B w' v ps svs :=
  ⟨World.ownsRow.below h.row hb, h.len, fun k hk => (h.each k hk).below (hb.mono hB)⟩
theorem RowP.push {B : Nat} {w w2 : World} {v v' : Value} {ps : List Pt} {svs : List Value} (h : RowP B w v ps svs) (hb : Below B w w2) (p : Pt) (sv : Value) {n : Nat} (hn : n = ps.length + 1)
    (ho : w2.ownsRow B 71 3 v' n (cellsP ps svs ++ [.int .i64 p.kind, .int .i64 p.n, sv])) (hs : SliceInts B w2 sv p.signs) : RowP B w2 v' (ps ++ [p]) (svs ++ [sv]) := by
  subst hn
  refine ⟨?_, by simp [h.len], fun k hk => ?_⟩
  · rw [cellsP_append _ _ _ _ h.len]
    simpa [cellsP] using ho
  · by_cases hkl : k < ps.length
    · have e1 : (svs ++ [sv]).getD k undef = svs.getD k undef := by simp [List.getD, List.getElem?_append_left (show k < svs.length by rw [h.len]; exact hkl)]
      have e2 : (ps ++ [p]).getD k ⟨0, 0, []⟩ = ps.getD k ⟨0, 0, []⟩ := by simp [List.getD, List.getElem?_append_left hkl]
      rw [e1, e2]
      exact (h.each k hkl).below hb
    · obtain rfl : k = ps.length := by simp at hk; omega
      have e1 : (svs ++ [sv]).getD ps.length undef = sv := by simp [List.getD, ← h.len]
      have e2 : (ps ++ [p]).getD ps.length ⟨0, 0, []⟩ = p := by simp [List.getD]
      rw [e1, e2]
      exact hs
theorem RowP.slice {B : Nat} {w : World} {v : Value} {ps : List Pt} {svs : List Value} (h : RowP B w v ps svs) (hB : B ≤ w.heap.size) : SliceParts w.heap.size w v ps := by
  have hlt := h.row.lt
  have hcell := @World.ownsRow.cells w B 71 3 v ps.length (cellsP ps svs) h.row
  rcases h.row.2 with ⟨rfl, hn⟩ | ⟨g, cap, cur, rfl, hb, hg, hc, hm, hs, ht⟩
  · have hx : ps = [] := List.eq_nil_of_length_eq_zero hn
    subst hx
    exact ⟨none, 0, rfl, ⟨Nat.le_refl _, Nat.zero_le _⟩, fun k hk => absurd hk (Nat.not_lt_zero _)⟩
  · refine ⟨some ⟨g, 0, none⟩, cap, rfl, ⟨hc, hm⟩, fun k hk => ?_⟩
    obtain ⟨a0, a1, a2⟩ := cellsP_at ps svs k h.len hk
    have b0 := hcell (g := g) rfl _ _ a0
    have b1 := hcell (g := g) rfl _ _ a1
    have b2 := hcell (g := g) rfl _ _ a2
    rw [Addr.add_lit] at b0 b1 b2
    exact ⟨g, 0, _, rfl, (hlt g rfl).2, b0, b1, b2, (h.each k hk).mono hB⟩
theorem fits_facts {o : List Pt} {t : List Int} (h : Pl.fits o t = true) : Pl.opOk o = true ∧ Pl.textOk t = true ∧ Pl.opFrom o = t.length ∧ t.length ≤ 200 := by
  unfold Pl.fits at h
  simp only [Bool.and_eq_true, decide_eq_true_eq] at h
  obtain ⟨ho, ht, hf⟩ := h
  have := ht
  unfold Pl.textOk at this
  simp only [Bool.and_eq_true, decide_eq_true_eq] at this
  exact ⟨ho, ht, hf, this.1⟩
theorem norm_from {o : List Pt} (h : Pl.opOk o = true) : Pl.keeps (Pl.norm o) + Pl.drops (Pl.norm o) = Pl.opFrom o := by
  rw [← (Pl.opFrom_norm h).1, Pl.opFrom, if_pos (Pl.opOk_units (Pl.opOk_norm h)).1]

set_option maxHeartbeats 8000000 in
set_option maxRecDepth 100000 in
theorem invert_i (v v' : Value) (ps : List Pt) (ts : List Int) (w : World) (h : SliceParts w.heap.size w v ps) (h' : SliceInts w.heap.size w v' ts) :
    Calls Try.prog 28 #[v, v'] w fun e w' => ∃ u svs, e = .returned (.tuple #[u, .bool (Pl.fits ps ts)]) ∧ OwnP w.heap.size w'.heap.size w' u (Pl.invert ps ts) svs ∧ Below w.heap.size w w' := by
  have h0 := Lib.hid h
  have h0' := Lib.hid h'
  obtain ⟨A, c, rfl, -, -⟩ := h
  obtain ⟨A', c', rfl, hc2, -⟩ := h'
  obtain ⟨i0, hi, hz0, hz1, hz2⟩ := info_parts partInfoB
  by_cases hfit0 : Pl.fits ps ts = true
  rotate_left
  · have HFT : Hid (Pl.fits ps ts = false) := by show _ = _; simpa using hfit0
    have HV : Hid (Pl.invert ps ts = []) := by show _ = _; rw [Pl.invert, if_neg (by rw [HFT.out]; decide)]
    clear hfit0
    go_enter Try.func28, Try.ntmps28
    go_wp2_with (fail)
    refine (apply_i _ _ ps ts _ h0.out h0'.out).mono ?_
    rintro e w1 ⟨u1, rfl, o1, b1⟩
    obtain ⟨A1, c1, rfl⟩ := own_shape o1.1
    rw [HFT.out]
    clear o1
    go_wp2_with (fail)
    go_ret2
    exact ⟨_, _, by rw [HFT.out]; rfl, by rw [HV.out]; exact OwnP.nil _ _ _, b1⟩
  have HFT := Lib.hid hfit0
  obtain ⟨ho, ht, hf, hlt⟩ := fits_facts hfit0
  have HO := Lib.hid ho
  have HV : Hid (Pl.invert ps ts = Pl.opNorm (Pl.invL (Pl.norm ps) ts)) := by show _ = _; rw [Pl.invert, if_pos hfit0, opNorm_yes (Pl.inv_opOk hfit0)]
  have HNF := Lib.hid ((norm_from ho).trans hf)
  have HNN := Lib.hid (opNorm_yes ho)
  have hpn := (Pl.opOk_units (Pl.opOk_norm ho)).1
  have HPN := Lib.hid hpn
  have hnl := partsOk_len hpn
  clear hfit0 ho ht hf hpn
  go_enter Try.func28, Try.ntmps28
  go_wp2_with (fail)
  refine (apply_i _ _ ps ts _ h0.out h0'.out).mono ?_
  rintro e w1 ⟨u1, rfl, o1, b1⟩
  obtain ⟨A0, c0, rfl⟩ := own_shape o1.1
  rw [HFT.out]
  clear o1
  go_wp2_with (fail)
  refine (opNorm_i _ ps _ (h0.out.later b1)).mono ?_
  rintro e w2 ⟨v2, svs0, rfl, o2, b2⟩
  rw [HNN.out] at o2
  have b12 := b1.trans (b2.mono b1.size)
  obtain ⟨A1, c1, rfl, -, hr⟩ := o2.slice
  obtain ⟨A9, c9, he, -, hr'⟩ := (h0'.out.later b12)
  injection he with hA hL hc
  subst hA hc
  clear hL
  have HR0 := Lib.hid hr
  have HR0' := Lib.hid hr'
  have B12 := Lib.hid b12
  clear b1 b2 b12 o2 hr hr'
  obtain ⟨B, hB⟩ : ∃ B, B = w2.heap.size := ⟨_, rfl⟩
  have HB := Lib.hid hB
  rw [← hB] at HR0 HR0'
  have hB2 : B ≤ w2.heap.size := by omega
  clear hB
  generalize hns : Pl.norm ps = ns at HV HNF HPN hnl HR0 HNN
  have HNS := Lib.hid hns
  clear hns
  go_wp2_with (fail)
  go_loopw [8, 9, 23] (fun u a i wr => ∃ (k t : Nat) (acc : List Pt) (svs : List Value), k ≤ ns.length ∧ i = .int .i64 k ∧ a = .int .i64 t ∧ RowP B wr u acc svs ∧ acc.length ≤ k ∧
    Hid (acc ++ Pl.invL (ns.drop k) (ts.drop t) = Pl.invL ns ts) ∧ Hid ((t : Int) + (Pl.keeps (ns.drop k) + Pl.drops (ns.drop k)) = ts.length) ∧ t ≤ ts.length ∧ Hid (Below B w2 wr) ∧ B ≤ wr.heap.size ∧ Hid (PartsAt B wr A1 ns) ∧ Hid (IntsAt B wr A' ts)) (fun _ _ i _ => ns.length - (intOf i).toNat)
  case atStart => exact ⟨0, 0, [], [], Nat.zero_le _, rfl, rfl, RowP.nil _ _, Nat.le_refl _, by show _ = _; simp, by show _ = _; simpa using HNF.out, Nat.zero_le _, Below.refl _ _, hB2, HR0.out, HR0'.out⟩
  case round =>
    obtain ⟨k, t, acc, svs, hk, rfl, rfl, hown, hal, hap, hrest, htl, hb, hsz, hr, hr'⟩ := hrel
    by_cases hlk : k < ns.length
    · obtain ⟨b, off, sv, rfl, hbB, e0, e1, e2, hs⟩ := hr.out k hlk
      have HS := Lib.hid (invL_step hlk (ts.drop t))
      have HR := Lib.hid (fromRest hlk)
      have HN := Lib.hid (rest_nonneg HPN.out (k + 1))
      obtain ⟨pk, p0, p1, p2, -, -, -⟩ := partOk_facts (partOk_at hlk HPN.out)
      generalize ns.getD k ⟨0, 0, []⟩ = p at e0 e1 hs HS HR p0 p1 p2 pk
      obtain ⟨m, hm⟩ := Int.eq_ofNat_of_zero_le p0
      have HM := Lib.hid hm
      rw [hm] at e1 p1
      have hs0 := Lib.hid hs
      obtain ⟨A2, c3, rfl, -, -⟩ := hs
      have HROW := Lib.hid hown
      clear hm p0 hown
      rcases pk with pk | pk | pk
      · have k1 : (p.kind == 1) = true := by simp [pk]
        have PK := Lib.hid pk
        clear pk
        have hle : t + m ≤ ts.length := by
          have h1 := HR.out
          have h2 := HN.out
          have h3 := hrest.out
          have h4 := HM.out
          rw [Pl.keepsP, if_pos PK.out, Pl.dropsP, if_pos PK.out] at h1
          omega
        go_wp2_with (at_builtin; refine wpList_append_lies _ rfl (.tmp 38) (.tmp 40) 24 rfl B 71 i0 _ 3 40 Try.underlying24 hi hz0 hz1 hz2 rfl (by decide) _ acc.length _ (by rfl) ((HROW.out.row.alloc _).alloc _) ⟨wr.heap.size + 1, 0, none⟩ 1 1 [.int .i64 p.kind, .int .i64 m, .slice A2 p.signs.length c3] (by rfl) rfl (World.news_of_block (cs := #[.int .i64 p.kind, .int .i64 m, .slice A2 p.signs.length c3]) (heap_new_at _ _ (by simp))) (by simp [Value.oneCell']) (by omega) (by unfold maxLen; omega) (by omega) (by simp; omega) (wr.heap.size + 1 + 1) (by simp) ?_)
        intro g cap w4 hown hg hat hlt
        have hf : Below B wr w4 := (((Below.refl B wr).alloc hsz _).alloc (by simp; omega) _).grown hg (by simp; omega) (fun x hx => (HROW.out.row.lt x hx).1)
        have bx : w4.heap[wr.heap.size]? = some (.cells #[.int .i64 p.kind, .int .i64 m, .slice A2 p.signs.length c3] 71 (0, 0)) := by
          have e1 := hg.block wr.heap.size (by simp; omega) (fun e => by have := (HROW.out.row.lt _ e.symm).2; omega)
          rw [e1, Below.heap_alloc _ _ _ (by simp)]
          exact heap_new_at _ _ rfl
        obtain ⟨x0, x1, x2, -, -⟩ := blk3 bx
        have NROW := Lib.hid (HROW.out.push (n := acc.length + 1) hf p _ rfl (by rw [HM.out]; exact hown) (hs0.out.below hf))
        have HF := Lib.hid hf
        clear hown hg hat hlt hf bx
        go_wp2
        go_roundw
        case rel =>
          refine ⟨k + 1, t + m, _, _, by omega, by go_num, (by go_num), NROW.out, by simp; omega, ?_, ?_, by omega, hb.out.trans HF.out, Nat.le_trans hsz HF.out.size, hr.out.below HF.out, hr'.out.below HF.out⟩
          · show _ = _
            have := hap.out
            rw [HS.out, if_pos PK.out] at this
            rw [← this]
            simp [HM.out]
          · show _ = _
            have h1 := HR.out
            have h3 := hrest.out
            have h4 := HM.out
            rw [Pl.keepsP, if_pos PK.out, Pl.dropsP, if_pos PK.out] at h1
            omega
        case measure => simp [intOf]; omega
      · have k1 : (p.kind == 1) = false := by simp [pk]
        have k3 : (p.kind == 3) = false := by simp [pk]
        have PK := Lib.hid pk
        clear pk
        go_wp2_with (at_builtin; refine wpList_append_lies _ rfl (.tmp 29) (.tmp 34) 24 rfl B 71 i0 _ 3 40 Try.underlying24 hi hz0 hz1 hz2 rfl (by decide) _ acc.length _ (by rfl) ((HROW.out.row.alloc _).alloc _) ⟨wr.heap.size + 1, 0, none⟩ 1 1 [.int .i64 3, .int .i64 p.signs.length, .slice none 0 0] (by rfl) rfl (World.news_of_block (cs := #[.int .i64 3, .int .i64 p.signs.length, .slice none 0 0]) (heap_new_at _ _ (by simp))) (by simp [Value.oneCell']) (by omega) (by unfold maxLen; omega) (by omega) (by simp; omega) (wr.heap.size + 1 + 1) (by simp) ?_)
        intro g cap w4 hown hg hat hlt
        have hf : Below B wr w4 := (((Below.refl B wr).alloc hsz _).alloc (by simp; omega) _).grown hg (by simp; omega) (fun x hx => (HROW.out.row.lt x hx).1)
        have bx : w4.heap[wr.heap.size]? = some (.cells #[.int .i64 p.kind, .int .i64 m, .slice A2 p.signs.length c3] 71 (0, 0)) := by
          have e1 := hg.block wr.heap.size (by simp; omega) (fun e => by have := (HROW.out.row.lt _ e.symm).2; omega)
          rw [e1, Below.heap_alloc _ _ _ (by simp)]
          exact heap_new_at _ _ rfl
        obtain ⟨x0, x1, x2, -, -⟩ := blk3 bx
        have NROW := Lib.hid (HROW.out.push (n := acc.length + 1) hf ⟨3, p.signs.length, []⟩ _ rfl hown (sliceInts_nil _ _))
        have HF := Lib.hid hf
        clear hown hg hat hlt hf bx
        go_wp2
        go_roundw
        case rel =>
          refine ⟨k + 1, t, _, _, by omega, by go_num, rfl, NROW.out, by simp; omega, ?_, ?_, by omega, hb.out.trans HF.out, Nat.le_trans hsz HF.out.size, hr.out.below HF.out, hr'.out.below HF.out⟩
          · show _ = _
            have := hap.out
            rw [HS.out, if_neg (by rw [PK.out]; decide), if_pos PK.out] at this
            rw [← this]
            simp 
          · show _ = _
            have h1 := HR.out
            have h3 := hrest.out
            have h4 := HM.out
            rw [Pl.keepsP, if_neg (by rw [PK.out]; decide), Pl.dropsP, if_neg (by rw [PK.out]; decide), if_pos PK.out] at h1
            omega
        case measure => simp [intOf]; omega
      · have k1 : (p.kind == 1) = false := by simp [pk]
        have k3 : (p.kind == 3) = true := by simp [pk]
        have PK := Lib.hid pk
        clear pk
        have hle : t + m ≤ ts.length := by
          have h1 := HR.out
          have h2 := HN.out
          have h3 := hrest.out
          have h4 := HM.out
          rw [Pl.keepsP, if_neg (by rw [PK.out]; decide), Pl.dropsP, if_neg (by rw [PK.out]; decide), if_neg (by rw [PK.out]; decide)] at h1
          omega
        by_cases hct : c' = t
        · have hm0 : m ≤ 0 := by omega
          subst hct
          have hcut := Lib.hid (cut_slice (m := m) hr'.out hc2 hle)
          have hcv : Hid (SliceInts B wr (.slice A' m 0) ((ts.drop c').take m)) := by
            have := hcut.out
            rw [if_pos rfl, Nat.sub_self] at this
            exact this
          go_wp2_with (at_builtin; refine wpList_append_lies _ rfl (.tmp 48) (.tmp 57) 24 rfl B 71 i0 _ 3 40 Try.underlying24 hi hz0 hz1 hz2 rfl (by decide) _ acc.length _ (by rfl) ((HROW.out.row.alloc _).alloc _) ⟨wr.heap.size + 1, 0, none⟩ 1 1 [.int .i64 2, .int .i64 0, .slice A' m 0] (by rfl) rfl (World.news_of_block (cs := #[.int .i64 2, .int .i64 0, .slice A' m 0]) (heap_new_at _ _ (by simp))) (by simp [Value.oneCell']) (by omega) (by unfold maxLen; omega) (by omega) (by simp; omega) (wr.heap.size + 1 + 1) (by simp) ?_)
          intro g cap w4 hown hg hat hlt
          have hf : Below B wr w4 := (((Below.refl B wr).alloc hsz _).alloc (by simp; omega) _).grown hg (by simp; omega) (fun x hx => (HROW.out.row.lt x hx).1)
          have bx : w4.heap[wr.heap.size]? = some (.cells #[.int .i64 p.kind, .int .i64 m, .slice A2 p.signs.length c3] 71 (0, 0)) := by
            have e1 := hg.block wr.heap.size (by simp; omega) (fun e => by have := (HROW.out.row.lt _ e.symm).2; omega)
            rw [e1, Below.heap_alloc _ _ _ (by simp)]
            exact heap_new_at _ _ rfl
          obtain ⟨x0, x1, x2, -, -⟩ := blk3 bx
          have NROW := Lib.hid (HROW.out.push (n := acc.length + 1) hf ⟨2, 0, (ts.drop c').take m⟩ _ rfl hown (hcv.out.below hf))
          have HF := Lib.hid hf
          clear hown hg hat hlt hf bx
          go_wp2
          go_roundw
          case rel =>
            refine ⟨k + 1, c' + m, _, _, by omega, by go_num, (by go_num), NROW.out, by simp; omega, ?_, ?_, by omega, hb.out.trans HF.out, Nat.le_trans hsz HF.out.size, hr.out.below HF.out, hr'.out.below HF.out⟩
            · show _ = _
              have := hap.out
              rw [HS.out, if_neg (by rw [PK.out]; decide), if_neg (by rw [PK.out]; decide)] at this
              rw [← this]
              simp [HM.out]
            · show _ = _
              have h1 := HR.out
              have h3 := hrest.out
              have h4 := HM.out
              rw [Pl.keepsP, if_neg (by rw [PK.out]; decide), Pl.dropsP, if_neg (by rw [PK.out]; decide), if_neg (by rw [PK.out]; decide)] at h1
              omega
          case measure => simp [intOf]; omega
        · have hcut := Lib.hid (cut_slice (m := m) hr'.out hc2 hle)
          have hcv : Hid (SliceInts B wr (.slice (A'.map (·.add t)) m (c' - t)) ((ts.drop t).take m)) := by
            have := hcut.out
            rw [if_neg hct] at this
            exact this
          go_wp2_with (at_builtin; refine wpList_append_lies _ rfl (.tmp 48) (.tmp 57) 24 rfl B 71 i0 _ 3 40 Try.underlying24 hi hz0 hz1 hz2 rfl (by decide) _ acc.length _ (by rfl) ((HROW.out.row.alloc _).alloc _) ⟨wr.heap.size + 1, 0, none⟩ 1 1 [.int .i64 2, .int .i64 0, .slice (A'.map (·.add t)) m (c' - t)] (by rfl) rfl (World.news_of_block (cs := #[.int .i64 2, .int .i64 0, .slice (A'.map (·.add t)) m (c' - t)]) (heap_new_at _ _ (by simp))) (by simp [Value.oneCell']) (by omega) (by unfold maxLen; omega) (by omega) (by simp; omega) (wr.heap.size + 1 + 1) (by simp) ?_)
          intro g cap w4 hown hg hat hlt
          have hf : Below B wr w4 := (((Below.refl B wr).alloc hsz _).alloc (by simp; omega) _).grown hg (by simp; omega) (fun x hx => (HROW.out.row.lt x hx).1)
          have bx : w4.heap[wr.heap.size]? = some (.cells #[.int .i64 p.kind, .int .i64 m, .slice A2 p.signs.length c3] 71 (0, 0)) := by
            have e1 := hg.block wr.heap.size (by simp; omega) (fun e => by have := (HROW.out.row.lt _ e.symm).2; omega)
            rw [e1, Below.heap_alloc _ _ _ (by simp)]
            exact heap_new_at _ _ rfl
          obtain ⟨x0, x1, x2, -, -⟩ := blk3 bx
          have NROW := Lib.hid (HROW.out.push (n := acc.length + 1) hf ⟨2, 0, (ts.drop t).take m⟩ _ rfl hown (hcv.out.below hf))
          have HF := Lib.hid hf
          clear hown hg hat hlt hf bx
          go_wp2
          go_roundw
          case rel =>
            refine ⟨k + 1, t + m, _, _, by omega, by go_num, (by go_num), NROW.out, by simp; omega, ?_, ?_, by omega, hb.out.trans HF.out, Nat.le_trans hsz HF.out.size, hr.out.below HF.out, hr'.out.below HF.out⟩
            · show _ = _
              have := hap.out
              rw [HS.out, if_neg (by rw [PK.out]; decide), if_neg (by rw [PK.out]; decide)] at this
              rw [← this]
              simp [HM.out]
            · show _ = _
              have h1 := HR.out
              have h3 := hrest.out
              have h4 := HM.out
              rw [Pl.keepsP, if_neg (by rw [PK.out]; decide), Pl.dropsP, if_neg (by rw [PK.out]; decide), if_neg (by rw [PK.out]; decide)] at h1
              omega
          case measure => simp [intOf]; omega
    · have hx := hap.out
      rw [List.drop_eq_nil_of_le (by omega)] at hx
      have HX : Hid (acc = Pl.invL ns ts) := by show _ = _; simpa [Pl.invL] using hx
      have HS0 := Lib.hid (hown.slice hsz)
      obtain ⟨A8, c8, rfl⟩ := own_shape hown.row
      clear hx hown
      go_wp2_with (fail)
      refine (opNorm_i _ acc _ HS0.out).mono ?_
      rintro e w5 ⟨v5, svs5, rfl, o5, b5⟩
      obtain ⟨A5, c5, rfl⟩ := own_shape o5.row
      have O5 := Lib.hid (o5.lower (lo' := w.heap.size) (Nat.le_trans B12.out.size (Nat.le_trans (by rw [HB.out]; exact Nat.le_refl _) hsz)))
      have B5 := Lib.hid b5
      clear o5 b5
      go_wp2_with (fail)
      go_ret2
      exact ⟨_, svs5, by rw [HFT.out]; rfl, by rw [HV.out, ← HX.out]; exact O5.out, B12.out.trans ((hb.out.mono (by rw [HB.out]; exact B12.out.size)).trans (B5.out.mono (Nat.le_trans B12.out.size (Nat.le_trans (by rw [HB.out]; exact Nat.le_refl _) hsz))))⟩
end Go.Proofs.Ytlpjbbmjchfolaa
