/- A slice of operations whose blocks lie as they come, none shared: it is marked and held. Condition: the marks stay below the bound of Pl.smallS. -/
import Derived.Test.YtlpjbbmjchfolaaOwn2
import Derived.Test.YtlpjbbmjchfolaaMarkss
import Derived.Test.YtlpjbbmjchfolaaFoot
namespace Go.Proofs.Ytlpjbbmjchfolaa
open Go.RowKit
set_option maxRecDepth 100000

def Pl.markPP : List (List Pt) → Int → List (List Pt)
  | [], _ => []
  | o :: os, k => Pl.markP o k :: Pl.markPP os (Pl.markN o k)
theorem markPP_length : ∀ (os : List (List Pt)) (k : Int), (Pl.markPP os k).length = os.length
  | [], _ => rfl
  | o :: os, k => by simp [Pl.markPP, markPP_length os]
theorem markPP_take {os : List (List Pt)} (k : Int) {j : Nat} (h : j < os.length) : Pl.markPP (os.take (j + 1)) k = Pl.markPP (os.take j) k ++ [Pl.markP (os.getD j []) (Pl.markNN (os.take j) k)] := by
  induction os generalizing k j with
  | nil => simp at h
  | cons o os ih =>
    cases j with
    | zero => simp [Pl.markPP, Pl.markNN]
    | succ j =>
      simp only [List.take_succ_cons, Pl.markPP, Pl.markNN]
      rw [ih _ (by simpa using h)]
      simp
theorem markPP_at {os : List (List Pt)} (k : Int) {j : Nat} (h : j < os.length) : (Pl.markPP os k).getD j [] = Pl.markP (os.getD j []) (Pl.markNN (os.take j) k) := by
  induction os generalizing k j with
  | nil => simp at h
  | cons o os ih =>
    cases j with
    | zero => simp [Pl.markPP, Pl.markNN]
    | succ j =>
      simp only [List.take_succ_cons, Pl.markPP, Pl.markNN, List.getD_cons_succ]
      exact ih _ (by simpa using h)
def Pl.markedPP (os : List (List Pt)) (k : Int) (j : Nat) : List (List Pt) := Pl.markPP (os.take j) k ++ os.drop j
theorem markedPP_length (os : List (List Pt)) (k : Int) (j : Nat) (h : j ≤ os.length) : (Pl.markedPP os k j).length = os.length := by
  simp [Pl.markedPP, markPP_length]; omega
theorem markedPP_at (os : List (List Pt)) (k : Int) (j : Nat) (h : j < os.length) : (Pl.markedPP os k j).getD j [] = os.getD j [] := by
  have hl : (Pl.markPP (os.take j) k).length = j := by rw [markPP_length, List.length_take]; omega
  simp only [Pl.markedPP, List.getD]
  rw [List.getElem?_append_right (by omega), hl, Nat.sub_self]
  simp [h]
theorem markedPP_set (os : List (List Pt)) (k : Int) (j : Nat) (h : j < os.length) : (Pl.markedPP os k j).set j (Pl.markP (os.getD j []) (Pl.markNN (os.take j) k)) = Pl.markedPP os k (j + 1) := by
  have hl : (Pl.markPP (os.take j) k).length = j := by rw [markPP_length, List.length_take]; omega
  rw [Pl.markedPP, Pl.markedPP, List.set_append_right _ _ (by omega), hl, Nat.sub_self, List.drop_eq_getElem_cons h, List.set_cons_zero, markPP_take k h]
  simp

/-- A slice of operations, from lo up to hi; no block is shared. -/
structure OwnQ (lo hi : Nat) (w : World) (v : Value) (os : List (List Pt)) (svs : List Value) (sss : List (List Value)) : Prop where
  row : w.ownsRow 0 24 1 v os.length svs
  blk : ∀ g, v.ownBlock = some g → lo ≤ g ∧ g < hi
  len : svs.length = os.length
  len2 : sss.length = os.length
  each : ∀ k, k < os.length → OwnP lo hi w (svs.getD k undef) (os.getD k []) (sss.getD k [])
  apart : ∀ i j, i < j → j < os.length → ApartP (svs.getD i undef) (sss.getD i []) (svs.getD j undef) (sss.getD j [])
  far : ∀ k, k < os.length → ∀ g, v.ownBlock = some g → ¬ BlkOf (svs.getD k undef) (sss.getD k []) g
theorem OwnP.blkLt {lo hi : Nat} {w : World} {v : Value} {ps : List Pt} {svs : List Value} (h : OwnP lo hi w v ps svs) {g : Nat} (hg : BlkOf v svs g) : g < w.heap.size := by
  rcases hg with hg | ⟨sv, hs, hg⟩
  · exact (h.row.lt g hg).2
  · obtain ⟨k, hk, rfl⟩ := List.getElem_of_mem hs
    have e := h.each k (by rw [← h.len]; exact hk)
    have e2 : svs.getD k undef = svs[k] := by simp [List.getD, hk]
    rw [e2] at e
    exact (e.1.lt g hg).2
theorem OwnP.low {lo hi : Nat} {w w' : World} {v : Value} {ps : List Pt} {svs : List Value} {R : Option Nat} (h : OwnP lo hi w v ps svs) (hf : ∀ k, k < w.heap.size → ¬ R = some k → w'.heap[k]? = w.heap[k]?) (hd : ∀ k, BlkOf v svs k → ¬ R = some k) : OwnP lo hi w' v ps svs :=
  h.kept (S := fun k => R = some k ∨ w.heap.size ≤ k) (fun g hg => hf g (Nat.lt_of_not_le fun e => hg (.inr e)) fun e => hg (.inl e)) fun g hg hh => by
    rcases hh with hh | hh
    · exact hd g hg hh
    · have := h.blkLt hg; omega
theorem OwnP.lower2 {lo lo' hi : Nat} {w : World} {v : Value} {ps : List Pt} {svs : List Value} (h : OwnP lo hi w v ps svs) (hl : lo' ≤ lo) : OwnP lo' hi w v ps svs :=
  ⟨World.ownsRow.base h.row fun b hb => Nat.le_trans hl (h.row.lt b hb).1, h.top, h.len, fun k hk => ⟨World.ownsRow.base (h.each k hk).1 fun b hb => Nat.le_trans hl ((h.each k hk).1.lt b hb).1, (h.each k hk).2⟩, h.apart⟩
section
variable {lo hi : Nat} {w w' : World} {v : Value} {os : List (List Pt)} {svs : List Value} {sss : List (List Value)}
theorem OwnQ.below (h : OwnQ lo hi w v os svs sss) (hb : Below w.heap.size w w') : OwnQ lo hi w' v os svs sss :=
  ⟨World.ownsRow.below h.row hb, h.blk, h.len, h.len2, fun k hk => (h.each k hk).below hb, h.apart, h.far⟩
theorem OwnQ.within {lo' hi' : Nat} (h : OwnQ lo hi w v os svs sss) (hw : Within lo' hi' w w') (hd : hi ≤ lo' ∨ hi' ≤ lo) : OwnQ lo hi w' v os svs sss :=
  ⟨World.ownsRow.within h.row hw fun g hg hgg => by have := h.blk g hg; omega, h.blk, h.len, h.len2, fun k hk => (h.each k hk).within hw hd, h.apart, h.far⟩
theorem OwnQ.upto {hi' : Nat} (h : OwnQ lo hi w v os svs sss) (hh : hi ≤ hi') : OwnQ lo hi' w v os svs sss :=
  ⟨h.row, fun g hg => by have := h.blk g hg; omega, h.len, h.len2, fun k hk => (h.each k hk).upto hh, h.apart, h.far⟩
theorem OwnQ.nil (lo hi : Nat) (w : World) : OwnQ lo hi w (.slice none 0 0) [] [] [] :=
  ⟨World.ownsRow_nil _ _ _ _, fun g hg => by simp [Value.ownBlock] at hg, rfl, rfl, fun k hk => absurd hk (Nat.not_lt_zero _), fun i j _ hj => absurd hj (Nat.not_lt_zero _), fun k hk => absurd hk (Nat.not_lt_zero _)⟩
theorem OwnQ.slice (h : OwnQ lo hi w v os svs sss) : SliceOps w.heap.size w v os := by
  have hlt := h.row.lt
  have hcell := @World.ownsRow.cells w 0 24 1 v os.length svs h.row
  rcases h.row.2 with ⟨rfl, hn⟩ | ⟨g, cap, cur, rfl, hb, hg, hc, hm, hs, ht⟩
  · have hx : os = [] := List.eq_nil_of_length_eq_zero hn
    subst hx
    exact ⟨none, 0, rfl, ⟨Nat.le_refl _, Nat.zero_le _⟩, fun k hk => absurd hk (Nat.not_lt_zero _)⟩
  · refine ⟨some ⟨g, 0, none⟩, cap, rfl, ⟨hc, hm⟩, fun k hk => ?_⟩
    have hk' : k < svs.length := by rw [h.len]; exact hk
    have b0 := hcell (g := g) rfl k (svs.getD k undef) (by simp [List.getD, hk'])
    rw [Addr.add_lit] at b0
    exact ⟨g, 0, _, rfl, (hlt g rfl).2, b0, (h.each k hk).slice⟩
theorem OwnQ.shape (h : OwnQ lo hi w v os svs sss) : ∃ A c, v = .slice A os.length c := by
  rcases h.row.2 with ⟨e, e2⟩ | ⟨_, _, _, e, _⟩
  · exact ⟨_, _, by rw [e, e2]⟩
  · exact ⟨_, _, e⟩
/-- One operation of them has been marked. -/
theorem OwnQ.mark {j : Nat} {o : List Pt} (h : OwnQ lo hi w v os svs sss) (hj : j < os.length) (p : OwnP lo hi w' (svs.getD j undef) o (sss.getD j [])) (c : WithinB (BlkOf (svs.getD j undef) (sss.getD j [])) lo hi w w') :
    OwnQ lo hi w' v (os.set j o) svs sss := by
  refine ⟨by rw [List.length_set]; exact ownsRow_kept h.row c.2 fun g hg => h.far j hj g hg, h.blk, by rw [List.length_set]; exact h.len, by rw [List.length_set]; exact h.len2, fun k hk => ?_, fun i k hik hk => h.apart i k hik (by simpa using hk), fun k hk => h.far k (by simpa using hk)⟩
  rw [List.length_set] at hk
  by_cases hkj : k = j
  · subst hkj
    have e : (os.set k o).getD k [] = o := by simp [List.getD, hj]
    rw [e]
    exact p
  · have e : (os.set j o).getD k [] = os.getD k [] := by simp [List.getD, List.getElem?_set_ne (Ne.symm hkj)]
    rw [e]
    refine (h.each k hk).kept c.2 fun g hg hh => ?_
    rcases Nat.lt_or_gt_of_ne hkj with hlt | hgt
    · exact h.apart k j hlt hj g hg hh
    · exact h.apart j k hgt hk g hh hg
/-- One more operation behind, whose blocks are none of the others'. -/
theorem OwnQ.push {w3 : World} {x m : Nat} (h : OwnQ lo x w v os svs sss) (hx : x ≤ m) (o : List Pt) {sv : Value} {ss : List Value} {g cap n K : Nat} (hn : os.length = n)
    (hown : w3.ownsRow 0 24 1 (.slice (some ⟨g, 0, none⟩) (n + 1) cap) (n + 1) (svs ++ [sv])) (hg : w.grownBy w3 v.ownBlock) (hat : v.ownBlock = some g ∨ g = K) (hK : K = w.heap.size)
    (hs : OwnP m K w sv o ss) (hlm : lo ≤ m) (hxK : x ≤ K) (hmK : m ≤ K) :
    OwnQ lo w3.heap.size w3 (.slice (some ⟨g, 0, none⟩) (n + 1) cap) (os ++ [o]) (svs ++ [sv]) (sss ++ [ss]) := by
  subst hn hK
  have hz := hg.size
  have hgl := (hown.lt g rfl).2
  have hf : ∀ b, b < w.heap.size → ¬ v.ownBlock = some b → w3.heap[b]? = w.heap[b]? := fun b hb hv => (Frame.grown (S := fun k => v.ownBlock = some k) hg (fun _ e => e)).block b hb hv
  have hs3 : OwnP m w.heap.size w3 sv o ss := hs.low hf fun b hb e => by
    have := hs.blk hb
    have := h.blk b e
    omega
  have hk3 : ∀ k, k < os.length → OwnP lo x w3 (svs.getD k undef) (os.getD k []) (sss.getD k []) := fun k hk => (h.each k hk).low hf fun b hb e => h.far k hk b e hb
  have e1 : ∀ k, k < os.length → (svs ++ [sv]).getD k undef = svs.getD k undef ∧ (os ++ [o]).getD k [] = os.getD k [] ∧ (sss ++ [ss]).getD k [] = sss.getD k [] := fun k hk =>
    ⟨by simp [List.getD, List.getElem?_append_left (show k < svs.length by rw [h.len]; exact hk)], by simp [List.getD, List.getElem?_append_left hk], by simp [List.getD, List.getElem?_append_left (show k < sss.length by rw [h.len2]; exact hk)]⟩
  have e2 : (svs ++ [sv]).getD os.length undef = sv ∧ (os ++ [o]).getD os.length [] = o ∧ (sss ++ [ss]).getD os.length [] = ss := ⟨by simp [List.getD, ← h.len], by simp [List.getD], by simp [List.getD, ← h.len2]⟩
  refine ⟨by simpa using hown, fun b hb => ?_, by simp [h.len], by simp [h.len2], fun k hk => ?_, fun i k hik hk => ?_, fun k hk b hb => ?_⟩
  · have : g = b := by simpa [Value.ownBlock] using hb
    subst this
    rcases hat with e | e
    · have := h.blk g e; omega
    · omega
  · by_cases hkl : k < os.length
    · obtain ⟨a1, a2, a3⟩ := e1 k hkl
      rw [a1, a2, a3]
      exact (hk3 k hkl).upto (by omega)
    · obtain rfl : k = os.length := by simp at hk; omega
      obtain ⟨a1, a2, a3⟩ := e2
      rw [a1, a2, a3]
      exact (hs3.lower2 hlm).upto (by omega)
  · by_cases hkl : k < os.length
    · obtain ⟨a1, a2, a3⟩ := e1 k hkl
      obtain ⟨b1, b2, b3⟩ := e1 i (by omega)
      rw [a1, a3, b1, b3]
      exact h.apart i k hik hkl
    · obtain rfl : k = os.length := by simp at hk; omega
      obtain ⟨a1, a2, a3⟩ := e2
      obtain ⟨b1, b2, b3⟩ := e1 i hik
      rw [a1, a3, b1, b3]
      exact ApartP.regions (h.each i hik) hs hx
  · have : g = b := by simpa [Value.ownBlock] using hb
    subst this
    intro hh
    by_cases hkl : k < os.length
    · obtain ⟨a1, a2, a3⟩ := e1 k hkl
      rw [a1, a3] at hh
      rcases hat with e | e
      · exact h.far k hkl g e hh
      · have := (h.each k hkl).blk hh; omega
    · obtain rfl : k = os.length := by simp at hk; omega
      obtain ⟨a1, a2, a3⟩ := e2
      rw [a1, a3] at hh
      have := hs.blk hh
      rcases hat with e | e
      · have := h.blk g e; omega
      · omega
end
set_option maxHeartbeats 1000000 in
theorem markPartSS_q (lo hi : Nat) (v : Value) (os : List (List Pt)) (svs : List Value) (sss : List (List Value)) (k : Int) (w : World) (h : OwnQ lo hi w v os svs sss) (hs : Pl.smallS os k) (hl : os.length ≤ 4194304) :
    Calls Try.prog 41 #[v, .int .i64 k] w fun e w' => e = .returned (.int .i64 (Pl.markNN os k)) ∧ OwnQ lo hi w' v (Pl.markPP os k) svs sss ∧ Within lo hi w w' := by
  have HS := Lib.hid hs
  obtain ⟨A, c, rfl, -, -⟩ := h.slice
  have H : Hid (OwnQ lo hi w (.slice A os.length c) (Pl.markedPP os k 0) svs sss) := by
    show OwnQ _ _ _ _ _ _ _
    have e : Pl.markedPP os k 0 = os := by simp [Pl.markedPP, Pl.markPP]
    rw [e]; exact h
  clear h hs
  go_enter Try.func41, Try.ntmps41
  go_wp2_with (fail)
  go_loopw [1, 5] (fun q i wr => ∃ (j : Nat) (m : Int), j ≤ os.length ∧ i = .int .i64 j ∧ q = .int .i64 m ∧ Hid (m = Pl.markNN (os.take j) k) ∧ Hid (Within lo hi w wr) ∧ Hid (OwnQ lo hi wr (.slice A os.length c) (Pl.markedPP os k j) svs sss)) (fun _ i _ => os.length - (intOf i).toNat)
  case atStart => exact ⟨0, k, Nat.zero_le _, rfl, rfl, rfl, Within.refl _ _ _, H.out⟩
  case round =>
    clear H
    obtain ⟨j, m, hj, rfl, rfl, hm, Ho, Q⟩ := hrel
    by_cases hlt : j < os.length
    · have hml := markedPP_length os k j hj
      have hrw := Q.out.row
      rw [hml] at hrw
      obtain ⟨g, cap, hv, hBg, _⟩ := hrw.form (by omega)
      injection hv with hA _ hc
      subst hA hc
      have d0 := hrw.cellAt j (by omega)
      have e0 : svs[j]? = some (svs.getD j undef) := by have := Q.out.len; simp [List.getD, show j < svs.length by omega]
      rw [e0] at d0
      clear e0
      have hp := Q.out.each j (by omega)
      rw [markedPP_at os k j hlt] at hp
      have hsm := Lib.hid (smallS_at HS.out hlt)
      have HNT := Lib.hid (markNN_take k hlt)
      have HST := Lib.hid (markedPP_set os k j hlt)
      have HML := Lib.hid hml
      have HP := Lib.hid hp
      obtain ⟨A1, c1, hv1, -, -⟩ := hp.slice
      have hv1' := Lib.hid hv1
      rw [hv1] at d0
      have hgl := (hrw.lt g rfl)
      clear hv1 hp hrw hml
      have HMK := Lib.hid (fun (o' : List Pt) (w' : World) => @OwnQ.mark lo hi wr w' _ _ svs sss j o' Q.out (by rw [HML.out]; exact hlt))
      generalize os.getD j [] = o at d0 hsm HNT HP hv1' HST
      go_wp2_with (fail)
      refine (markPartS_k lo hi _ o (sss.getD j []) m _ (by rw [← hv1'.out]; exact HP.out) (by rw [hm.out]; exact hsm.out)).mono ?_
      rintro e w2 ⟨rfl, p2, n2⟩
      have P2 := Lib.hid p2
      have N2 := Lib.hid n2
      clear n2 p2
      go_wp2_with (fail)
      go_roundw
      case rel =>
        have h9 := HMK.out _ _ (by rw [hv1'.out]; exact P2.out) (by rw [hv1'.out]; exact N2.out)
        rw [hm.out, HST.out] at h9
        exact ⟨j + 1, _, by omega, by go_num, rfl, by show _ = _; rw [HNT.out, ← hm.out], Ho.out.trans N2.out.1, h9⟩
      case measure => simp [intOf]; omega
    · have e : j = os.length := by omega
      subst e
      have hx := hm.out
      rw [List.take_of_length_le (Nat.le_refl _)] at hx
      have HX := Lib.hid hx
      have hq : Pl.markedPP os k os.length = Pl.markPP os k := by simp [Pl.markedPP]
      rw [hq] at Q
      clear hx hm hq
      go_wp2_with (fail)
      go_ret
      exact ⟨ret_int HX.out, Q.out, Ho.out⟩
set_option maxHeartbeats 1000000 in
set_option maxRecDepth 100000 in
theorem heldPartSS_l (B : Nat) (v : Value) (os : List (List Pt)) (k : Int) (w : World) (h : SliceOps B w v (Pl.markPP os k)) (hs : Pl.smallS os k) :
    Calls Try.prog 44 #[v, .int .i64 k] w fun e w' => e = .returned (.int .i64 (Pl.markNN os k)) ∧ w = w' := by
  have HS := Lib.hid hs
  obtain ⟨A, c, rfl, hc, h⟩ := h
  rw [markPP_length] at hc ⊢
  have hol : os.length ≤ maxLen := by omega
  unfold maxLen at hol
  have H := Lib.hid h
  clear h hs hc
  go_enter Try.func44, Try.ntmps44
  go_wp2_with (fail)
  go_loop [1, 5] (fun q i => ∃ (j : Nat) (m : Int), j ≤ os.length ∧ i = .int .i64 j ∧ q = .int .i64 m ∧ Hid (m = Pl.markNN (os.take j) k)) (fun _ i => os.length - (intOf i).toNat)
  case atStart => exact ⟨0, k, Nat.zero_le _, rfl, rfl, rfl⟩
  case round =>
    obtain ⟨j, m, hj, rfl, rfl, hm⟩ := hrel
    by_cases hlt : j < os.length
    · obtain ⟨b, off, sv, rfl, _, c0, hs⟩ := H.out j (by rw [markPP_length]; exact hlt)
      rw [markPP_at k hlt, ← hm.out] at hs
      have hsm := smallS_at HS.out hlt
      rw [← hm.out] at hsm
      have HSM := Lib.hid hsm
      have HNT := markNN_take k hlt
      rw [← hm.out] at HNT
      replace HNT := Lib.hid HNT
      have hnn := markN_le (os.getD j []) m
      have hm0 := hsm.1
      clear hsm
      generalize os.getD j [] = o at HSM HNT hnn hs
      obtain ⟨A2, c2, rfl, hx⟩ : ∃ A2 c2, sv = .slice A2 o.length c2 ∧ Hid (SliceParts B w sv (Pl.markP o m)) := by
        have h9 := Lib.hid hs
        obtain ⟨A2, c2, rfl, -, -⟩ := hs
        exact ⟨A2, c2, by rw [markP_length], h9⟩
      clear hs
      obtain ⟨M, hM⟩ : ∃ M, Pl.markN o m = M := ⟨_, rfl⟩
      have HM := Lib.hid hM
      rw [hM] at hnn
      clear hM
      go_wp2_with (fail)
      refine (heldPartS_l B _ o m _ hx.out HSM.out).mono ?_
      rintro e w2 ⟨rfl, rfl⟩
      rw [HM.out]
      clear c0
      go_wp2_with (fail)
      go_round
      case rel => exact ⟨j + 1, M, by omega, by go_num, rfl, by show _ = _; rw [HNT.out, HM.out]⟩
      case measure => simp [intOf]; omega
    · have e : j = os.length := by omega
      subst e
      have hx := hm.out
      rw [List.take_of_length_le (Nat.le_refl _)] at hx
      have HX := Lib.hid hx
      clear hx hm
      go_wp2_with (fail)
      go_ret
      exact ⟨ret_int HX.out, rfl⟩
end Go.Proofs.Ytlpjbbmjchfolaa
