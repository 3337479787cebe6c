/- Contracts of the laws' marks: markIntS, heldIntS, markPartS, heldPartS. Condition: what is marked lies in blocks of its own; the marks stay below 2^50. -/
import Derived.Test.YtookcfpiegbafaaGreatDoorEqParts
import Derived.Deep.AppendLies
namespace Go.Proofs.YtookcfpiegbafaaGreatDoor
open Go.RowKit
set_option maxRecDepth 100000

/-- w' is w but for one block. -/
structure Only (row : Option Nat) (w w' : World) : Prop where
  os : w'.os = w.os
  tape : w'.tape = w.tape
  output : w'.output = w.output
  size : w'.heap.size = w.heap.size
  block : ∀ k, some k ≠ row → w'.heap[k]? = w.heap[k]?
theorem Only.refl (row : Option Nat) (w : World) : Only row w w := ⟨rfl, rfl, rfl, rfl, fun _ _ => rfl⟩
theorem Only.trans {row : Option Nat} {a b c : World} (h : Only row a b) (k : Only row b c) : Only row a c :=
  ⟨k.os.trans h.os, k.tape.trans h.tape, k.output.trans h.output, k.size.trans h.size, fun i hi => (k.block i hi).trans (h.block i hi)⟩
theorem Only.setCell (w : World) (g i : Nat) (u : Value) : Only (some g) w (w.setCell ⟨g, i, none⟩ u) :=
  ⟨rfl, rfl, rfl, by simp [World.setCell], fun k hk => Below.heap_setCell _ _ _ _ (fun e => hk (by rw [e]))⟩
theorem Only.within {row : Option Nat} {lo hi : Nat} {w w' : World} (h : Only row w w') (hr : ∀ g, row = some g → lo ≤ g ∧ g < hi) : Within lo hi w w' :=
  ⟨h.os, h.tape, h.output, h.size, fun k hk => h.block k (fun e => hk (hr k e.symm))⟩
theorem World.ownsRow.only {base e size n : Nat} {row : Option Nat} {w w' : World} {v : Value} {xs : List Value} (h : w.ownsRow base e size v n xs) (hw : Only row w w')
    (hd : ∀ g, v.ownBlock = some g → some g ≠ row) : w'.ownsRow base e size v n xs := by
  refine ⟨h.1, ?_⟩
  rcases h.2 with hn | ⟨g, cap, cur, rfl, hb, hg, r⟩
  · exact .inl hn
  · exact .inr ⟨g, cap, cur, rfl, hb, (hw.block g (hd g rfl)).trans hg, r⟩

/-- The marks from k on. -/
def Pl.marks (k : Int) (n : Nat) : List Int := (List.range n).map fun i => k + (i : Nat)
theorem marks_length (k : Int) (n : Nat) : (Pl.marks k n).length = n := by simp [Pl.marks]
theorem marks_at (k : Int) (n j : Nat) (h : j < n) : (Pl.marks k n).getD j 0 = k + j := by simp [Pl.marks, List.getD, h]
def Pl.markedI (xs : List Int) (k : Int) (j : Nat) : List Int := Pl.marks k j ++ xs.drop j
theorem markedI_set (xs : List Int) (k : Int) (j : Nat) (h : j < xs.length) : (Pl.markedI xs k j).set j (k + j) = Pl.markedI xs k (j + 1) := by
  have hl := marks_length k j
  have e : Pl.marks k (j + 1) = Pl.marks k j ++ [k + j] := by simp [Pl.marks, List.range_succ]
  rw [Pl.markedI, Pl.markedI, List.set_append_right _ _ (by omega), hl, Nat.sub_self, List.drop_eq_getElem_cons h, List.set_cons_zero, e]
  simp
theorem markedI_length (xs : List Int) (k : Int) (j : Nat) (h : j ≤ xs.length) : (Pl.markedI xs k j).length = xs.length := by
  simp [Pl.markedI, marks_length]; omega

set_option maxHeartbeats 800000 in
theorem markIntS_l (base : Nat) (v : Value) (xs : List Int) (k : Int) (w : World) (h : OwnInts base w v xs) (h0 : 0 ≤ k) (h1 : k ≤ 1125899906842624) (hn : xs.length ≤ 4194304) :
    Calls Tryz.prog 32 #[v, .int .i64 k] w fun e w' => e = .returned (.int .i64 (k + xs.length)) ∧ OwnInts base w' v (Pl.marks k xs.length) ∧ Only v.ownBlock w w' := by
  obtain ⟨A, c, rfl, -, -⟩ := OwnInts.slice h
  have hrow : w.ownsRow base 3 1 (.slice A xs.length c) xs.length ((Pl.markedI xs k 0).map (Value.int .i64)) := by
    have e : Pl.markedI xs k 0 = xs := by simp [Pl.markedI, Pl.marks]
    rw [e]; exact h
  clear h
  go_enter Tryz.func32, Tryz.ntmps32
  go_wp2
  go_loopw [1, 5] (fun q i wr => ∃ j : Nat, j ≤ xs.length ∧ i = .int .i64 j ∧ q = .int .i64 (k + j) ∧ wr.ownsRow base 3 1 (.slice A xs.length c) xs.length ((Pl.markedI xs k j).map (Value.int .i64)) ∧ Only (Value.slice A xs.length c).ownBlock w wr) (fun _ i _ => xs.length - (intOf i).toNat)
  case atStart => exact ⟨0, Nat.zero_le _, rfl, by simp, hrow, Only.refl _ _⟩
  case round =>
    clear hrow
    obtain ⟨j, hj, rfl, rfl, hown, ho⟩ := hrel
    by_cases hlt : j < xs.length
    · obtain ⟨g, cap, hv, hBg, _⟩ := hown.form (by omega)
      injection hv with hA _ hc
      subst hA hc
      have hcur := hown.cellAt j (by omega)
      have hfz := hown.frozenAt j
      have hst := Lib.hid (hown.stored j (.int .i64 (k + j))).1
      have HM := Lib.hid (markedI_set xs k j hlt)
      have hml : ((Pl.markedI xs k j).map (Value.int .i64)).length = xs.length := by rw [List.length_map]; exact markedI_length xs k j hj
      rw [List.getElem?_eq_getElem (by omega)] at hcur
      generalize ((Pl.markedI xs k j).map (Value.int .i64))[j] = u at hcur
      have Ho := Lib.hid ho
      clear ho hown hml
      go_wp2
      go_roundw
      case rel => exact ⟨j + 1, by omega, by go_num, by go_num, by rw [← HM.out, List.map_set]; exact hst.out, Ho.out.trans (Only.setCell _ _ _ _)⟩
      case measure => simp [intOf]; omega
    · have e : j = xs.length := by omega
      subst e
      have hm : Pl.markedI xs k xs.length = Pl.marks k xs.length := by simp [Pl.markedI]
      rw [hm] at hown
      clear hm
      go_wp2
      go_ret
      exact ⟨rfl, by rw [OwnInts, marks_length]; exact hown, ho⟩

theorem markIntS_w (lo hi : Nat) (v : Value) (xs : List Int) (k : Int) (w : World) (h : OwnI lo hi w v xs) (h0 : 0 ≤ k) (h1 : k ≤ 1125899906842624) (hn : xs.length ≤ 4194304) :
    Calls Tryz.prog 32 #[v, .int .i64 k] w fun e w' => e = .returned (.int .i64 (k + xs.length)) ∧ OwnI lo hi w' v (Pl.marks k xs.length) ∧ Within lo hi w w' :=
  (markIntS_l lo v xs k w h.1 h0 h1 hn).mono fun _ _ ⟨he, ho, hw⟩ => ⟨he, ⟨ho, h.2⟩, hw.within fun g hg => ⟨(h.1.lt g hg).1, h.2 g hg⟩⟩

set_option maxHeartbeats 800000 in
theorem heldIntS_l (B : Nat) (v : Value) (n : Nat) (k : Int) (w : World) (h : SliceInts B w v (Pl.marks k n)) (h0 : 0 ≤ k) (h1 : k ≤ 1125899906842624) (hn : n ≤ 4194304) :
    Calls Tryz.prog 33 #[v, .int .i64 k] w fun e w' => e = .returned (.int .i64 (k + n)) ∧ w = w' := by
  obtain ⟨A, c, rfl, -, h⟩ := h
  rw [marks_length]
  go_enter Tryz.func33, Tryz.ntmps33
  go_wp2
  go_loop [1, 5] (fun q i => ∃ j : Nat, j ≤ n ∧ i = .int .i64 j ∧ q = .int .i64 (k + j)) (fun _ i => n - (intOf i).toNat)
  case atStart => exact ⟨0, Nat.zero_le _, rfl, by simp⟩
  case round =>
    obtain ⟨j, hj, rfl, rfl⟩ := hrel
    by_cases hlt : j < n
    · obtain ⟨b, off, rfl, _, hc⟩ := h j (by rw [marks_length]; exact hlt)
      rw [marks_at k n j hlt] at hc
      clear h
      go_wp2
      go_round
      case rel => exact ⟨j + 1, by omega, by go_num, by go_num⟩
      case measure => simp [intOf]; omega
    · have e : j = n := by omega
      subst e
      clear h
      go_wp2
      go_ret
      exact ⟨rfl, rfl⟩

/-- A list of parts, marked from k on; what the marks end at. -/
def Pl.markP : List Pt → Int → List Pt
  | [], _ => []
  | p :: ps, k => ⟨k, k + 1, Pl.marks (k + 2) p.signs.length⟩ :: Pl.markP ps (k + 2 + p.signs.length)
def Pl.markN : List Pt → Int → Int
  | [], k => k
  | p :: ps, k => Pl.markN ps (k + 2 + p.signs.length)
theorem markP_length : ∀ (ps : List Pt) (k : Int), (Pl.markP ps k).length = ps.length
  | [], _ => rfl
  | p :: ps, k => by simp [Pl.markP, markP_length ps]
theorem markN_le : ∀ (ps : List Pt) (k : Int), k ≤ Pl.markN ps k
  | [], k => Int.le_refl k
  | p :: ps, k => by
    have := markN_le ps (k + 2 + p.signs.length)
    rw [Pl.markN]
    omega
theorem markN_take {ps : List Pt} (k : Int) {j : Nat} (h : j < ps.length) : Pl.markN (ps.take (j + 1)) k = Pl.markN (ps.take j) k + 2 + (ps.getD j ⟨0, 0, []⟩).signs.length := by
  induction ps generalizing k j with
  | nil => simp at h
  | cons p ps ih =>
    cases j with
    | zero => simp [Pl.markN]
    | succ j =>
      simp only [List.take_succ_cons, Pl.markN]
      rw [ih _ (by simpa using h)]
      simp
theorem markP_take {ps : List Pt} (k : Int) {j : Nat} (h : j < ps.length) : Pl.markP (ps.take (j + 1)) k = Pl.markP (ps.take j) k ++ [⟨Pl.markN (ps.take j) k, Pl.markN (ps.take j) k + 1, Pl.marks (Pl.markN (ps.take j) k + 2) (ps.getD j ⟨0, 0, []⟩).signs.length⟩] := by
  induction ps generalizing k j with
  | nil => simp at h
  | cons p ps ih =>
    cases j with
    | zero => simp [Pl.markN, Pl.markP]
    | succ j =>
      simp only [List.take_succ_cons, Pl.markN, Pl.markP]
      rw [ih _ (by simpa using h)]
      simp
theorem markP_at {ps : List Pt} (k : Int) {j : Nat} (h : j < ps.length) : (Pl.markP ps k).getD j ⟨0, 0, []⟩ = ⟨Pl.markN (ps.take j) k, Pl.markN (ps.take j) k + 1, Pl.marks (Pl.markN (ps.take j) k + 2) (ps.getD j ⟨0, 0, []⟩).signs.length⟩ := by
  induction ps generalizing k j with
  | nil => simp at h
  | cons p ps ih =>
    cases j with
    | zero => simp [Pl.markN, Pl.markP]
    | succ j =>
      simp only [List.take_succ_cons, Pl.markN, Pl.markP, List.getD_cons_succ]
      exact ih _ (by simpa using h)
/-- What may be marked without passing the bound. -/
def Pl.small (ps : List Pt) (k : Int) : Prop := 0 ≤ k ∧ ps.length ≤ 4194304 ∧ (∀ p ∈ ps, p.signs.length ≤ 4194304) ∧ k ≤ 70368744177664
theorem markN_take_bd {ps : List Pt} {k : Int} (h : Pl.small ps k) (j : Nat) (hj : j ≤ ps.length) : Pl.markN (ps.take j) k ≤ k + j * 4194306 := by
  induction j with
  | zero => simp [Pl.markN]
  | succ j ih =>
    have h1 := ih (by omega)
    rw [markN_take k (by omega)]
    have : (ps.getD j ⟨0, 0, []⟩).signs.length ≤ 4194304 := h.2.2.1 _ (by simp [List.getD, show j < ps.length by omega])
    omega
theorem markN_take_lt {ps : List Pt} {k : Int} (h : Pl.small ps k) (j : Nat) (hj : j ≤ ps.length) : k ≤ Pl.markN (ps.take j) k ∧ Pl.markN (ps.take j) k ≤ 88000000000000 := by
  have h1 := markN_take_bd h j hj
  have h2 := h.2.1
  have h3 := h.2.2.2
  have : (j : Int) * 4194306 ≤ 4194304 * 4194306 := by omega
  exact ⟨markN_le _ _, by omega⟩

theorem markN_bd {ps : List Pt} {k : Int} (h : Pl.small ps k) : k ≤ Pl.markN ps k ∧ Pl.markN ps k ≤ k + 17592194433024 := by
  have h1 := markN_take_bd h ps.length (Nat.le_refl _)
  rw [List.take_of_length_le (Nat.le_refl _)] at h1
  have h2 := h.2.1
  have : (ps.length : Int) * 4194306 ≤ 4194304 * 4194306 := by omega
  exact ⟨markN_le _ _, by omega⟩

theorem cellsP_set : ∀ (ps : List Pt) (svs : List Value) (j : Nat) (a b : Int) (ys : List Int), svs.length = ps.length → j < ps.length →
    cellsP (ps.set j ⟨a, b, ys⟩) svs = ((cellsP ps svs).set (j * 3) (.int .i64 a)).set (j * 3 + 1) (.int .i64 b)
  | [], _, _, _, _, _, _, h => absurd h (Nat.not_lt_zero _)
  | _ :: _, [], _, _, _, _, h, _ => by simp at h
  | p :: ps, sv :: svs, 0, a, b, ys, _, _ => by simp [cellsP]
  | p :: ps, sv :: svs, j + 1, a, b, ys, h, hj => by
    have := cellsP_set ps svs j a b ys (by simpa using h) (by simpa using hj)
    rw [show (j + 1) * 3 = j * 3 + 1 + 1 + 1 by omega]
    simp [cellsP, this]

theorem own_ne {b b' : Nat} {w : World} {v v' : Value} {n n' s s' : Nat} {xs xs' : List Value} {t t' : TypeId} (h : w.ownsRow b t s v n xs) (h' : w.ownsRow b' t' s' v' n' xs') (hne : t ≠ t') {g : Nat} (hg : v.ownBlock = some g) : v'.ownBlock ≠ some g := by
  intro hg'
  rcases h.2 with ⟨rfl, _⟩ | ⟨g1, cap, cur, rfl, _, hh, _⟩
  · simp [Value.ownBlock] at hg
  · rcases h'.2 with ⟨rfl, _⟩ | ⟨g2, cap', cur', rfl, _, hh', _⟩
    · simp [Value.ownBlock] at hg'
    · simp only [Value.ownBlock, Option.some.injEq] at hg hg'
      subst hg
      subst hg'
      rw [hh] at hh'
      simp only [Option.some.injEq, Obj.cells.injEq] at hh'
      exact hne hh'.2.1

/-- One element marked: its two numbers stored, then its characters marked in their own block. -/
theorem OwnP.mark {lo hi g cap : Nat} {w w2 : World} {ps : List Pt} {svs : List Value} {j : Nat} {a b : Int} {ys : List Int} (h : OwnP lo hi w (.slice (some ⟨g, 0, none⟩) ps.length cap) ps svs) (hj : j < ps.length)
    (hsame : OwnInts lo ((w.setCell ⟨g, j * 3, none⟩ (.int .i64 a)).setCell ⟨g, j * 3 + 1, none⟩ (.int .i64 b)) (svs.getD j undef) (ps.getD j ⟨0, 0, []⟩).signs → OwnInts lo w2 (svs.getD j undef) ys)
    (ho : Only (svs.getD j undef).ownBlock ((w.setCell ⟨g, j * 3, none⟩ (.int .i64 a)).setCell ⟨g, j * 3 + 1, none⟩ (.int .i64 b)) w2) :
    OwnP lo hi w2 (.slice (some ⟨g, 0, none⟩) ps.length cap) (ps.set j ⟨a, b, ys⟩) svs := by
  have hgne : ∀ i, i < ps.length → (svs.getD i undef).ownBlock ≠ some g := fun i hi' => own_ne h.row (h.each i hi').1 (by decide) rfl
  have o1 : Only (some g) w ((w.setCell ⟨g, j * 3, none⟩ (.int .i64 a)).setCell ⟨g, j * 3 + 1, none⟩ (.int .i64 b)) := (Only.setCell _ _ _ _).trans (Only.setCell _ _ _ _)
  have e1 : ∀ i, i < ps.length → OwnInts lo ((w.setCell ⟨g, j * 3, none⟩ (.int .i64 a)).setCell ⟨g, j * 3 + 1, none⟩ (.int .i64 b)) (svs.getD i undef) (ps.getD i ⟨0, 0, []⟩).signs := fun i hi' =>
    World.ownsRow.only (h.each i hi').1 o1 fun g' hg' e => hgne i hi' (by rw [hg', e])
  have r1 := ((h.row.stored (j * 3) (.int .i64 a)).1.stored (j * 3 + 1) (.int .i64 b)).1
  rw [← cellsP_set ps svs j a b ys h.len hj] at r1
  have r2 := World.ownsRow.only r1 ho fun g' hg' e => by
    simp only [Value.ownBlock, Option.some.injEq] at hg'
    subst hg'
    exact hgne j hj e.symm
  refine ⟨by rw [List.length_set]; exact r2, fun g' hg' => h.top g' hg', by rw [List.length_set]; exact h.len, fun i hi' => ?_, fun i i' hii hi' => h.apart i i' hii (by simpa using hi')⟩
  rw [List.length_set] at hi'
  by_cases hij : i = j
  · subst hij
    have e : (ps.set i ⟨a, b, ys⟩).getD i ⟨0, 0, []⟩ = ⟨a, b, ys⟩ := by simp [List.getD, hj]
    rw [e]
    exact ⟨hsame (e1 i hj), (h.each i hj).2⟩
  · have e : (ps.set j ⟨a, b, ys⟩).getD i ⟨0, 0, []⟩ = ps.getD i ⟨0, 0, []⟩ := by simp [List.getD, List.getElem?_set_ne (Ne.symm hij)]
    rw [e]
    refine ⟨World.ownsRow.only (e1 i hi') ho fun g' hg' e' => ?_, (h.each i hi').2⟩
    rcases Nat.lt_or_gt_of_ne hij with hlt | hgt
    · rcases h.apart i j hlt hj with hn | hn
      · rw [hn] at hg'; cases hg'
      · exact hn (by rw [hg', e'])
    · rcases h.apart j i hgt hi' with hn | hn
      · rw [hn] at e'; cases e'
      · exact hn (by rw [hg', e'])

def Pl.markedP (ps : List Pt) (k : Int) (j : Nat) : List Pt := Pl.markP (ps.take j) k ++ ps.drop j
theorem markedP_length (ps : List Pt) (k : Int) (j : Nat) (h : j ≤ ps.length) : (Pl.markedP ps k j).length = ps.length := by
  simp [Pl.markedP, markP_length]; omega
theorem markedP_at (ps : List Pt) (k : Int) (j : Nat) (h : j < ps.length) : (Pl.markedP ps k j).getD j ⟨0, 0, []⟩ = ps.getD j ⟨0, 0, []⟩ := by
  have hl : (Pl.markP (ps.take j) k).length = j := by rw [markP_length, List.length_take]; omega
  simp only [Pl.markedP, List.getD]
  rw [List.getElem?_append_right (by omega), hl, Nat.sub_self]
  simp [h]
theorem markedP_set (ps : List Pt) (k : Int) (j : Nat) (h : j < ps.length) : (Pl.markedP ps k j).set j ⟨Pl.markN (ps.take j) k, Pl.markN (ps.take j) k + 1, Pl.marks (Pl.markN (ps.take j) k + 2) (ps.getD j ⟨0, 0, []⟩).signs.length⟩ = Pl.markedP ps k (j + 1) := by
  have hl : (Pl.markP (ps.take j) k).length = j := by rw [markP_length, List.length_take]; omega
  rw [Pl.markedP, Pl.markedP, List.set_append_right _ _ (by omega), hl, Nat.sub_self, List.drop_eq_getElem_cons h, List.set_cons_zero, markP_take k h]
  simp

set_option maxHeartbeats 1000000 in
set_option maxRecDepth 100000 in
theorem markPartS_l (lo hi : Nat) (v : Value) (ps : List Pt) (svs : List Value) (k : Int) (w : World) (h : OwnP lo hi w v ps svs) (hs : Pl.small ps k) :
    Calls Tryz.prog 8 #[v, .int .i64 k] w fun e w' => e = .returned (.int .i64 (Pl.markN ps k)) ∧ OwnP lo hi w' v (Pl.markP ps k) svs ∧ Within lo hi w w' := by
  have hl := hs.2.1
  have HS := Lib.hid hs
  obtain ⟨hk0, -, -, hk1⟩ := hs
  obtain ⟨A, c, rfl, -, -⟩ := h.slice
  have hrow : OwnP lo hi w (.slice A ps.length c) (Pl.markedP ps k 0) svs := by
    have e : Pl.markedP ps k 0 = ps := by simp [Pl.markedP, Pl.markP]
    rw [e]; exact h
  clear h
  go_enter Tryz.func8, Tryz.ntmps8
  go_wp2
  go_loopw [1, 5] (fun q i wr => ∃ (j : Nat) (m : Int), j ≤ ps.length ∧ i = .int .i64 j ∧ q = .int .i64 m ∧ Hid (m = Pl.markN (ps.take j) k) ∧ 0 ≤ m ∧ m ≤ 88000000000000 ∧ OwnP lo hi wr (.slice A ps.length c) (Pl.markedP ps k j) svs ∧ Within lo hi w wr) (fun _ i _ => ps.length - (intOf i).toNat)
  case atStart => exact ⟨0, k, Nat.zero_le _, rfl, rfl, rfl, by omega, by omega, hrow, Within.refl _ _ _⟩
  case round =>
    clear hrow
    obtain ⟨j, m, hj, rfl, rfl, hm, hm0, hm1, hown, ho⟩ := hrel
    by_cases hlt : j < ps.length
    · have hml := markedP_length ps k j hj
      have hrw := hown.row
      rw [hml] at hrw
      obtain ⟨g, cap, hv, hBg, _⟩ := hrw.form (by omega)
      injection hv with hA _ hc
      subst hA hc
      have hlc : (cellsP (Pl.markedP ps k j) svs).length = ps.length * 3 := by rw [cellsP_length _ _ hown.len, hml]
      obtain ⟨a0, a1, a2⟩ := cellsP_at (Pl.markedP ps k j) svs j hown.len (by omega)
      have d0 := (hrw.cellAt (j * 3) (by omega)).trans a0
      have d1 := (hrw.cellAt (j * 3 + 1) (by omega)).trans a1
      have d2 := (hrw.cellAt (j * 3 + 2) (by omega)).trans a2
      have hfz := hrw.frozenAt
      have hgl := (hrw.lt g rfl)
      have hgt := hown.top g rfl
      have heach := hown.each j (by omega)
      rw [markedP_at ps k j hlt] at heach
      have hsl : (ps.getD j ⟨0, 0, []⟩).signs.length ≤ 4194304 := HS.out.2.2.1 _ (by simp [List.getD, hlt])
      have hnb := markN_take_lt HS.out (j + 1) hlt
      rw [markN_take k hlt, ← hm.out] at hnb
      obtain ⟨-, hnb⟩ := hnb
      have hstep := fun (a b : Int) ys w2 => @OwnP.mark lo hi g c wr w2 (Pl.markedP ps k j) svs j a b ys (by rw [hml]; exact hown) (by omega)
      rw [markedP_at ps k j hlt] at hstep
      have hset := markedP_set ps k j hlt
      have hnt := markN_take k hlt
      rw [← hm.out] at hset hnt
      have HST := Lib.hid hstep
      have HSET := Lib.hid hset
      have HNT := Lib.hid hnt
      have HO := Lib.hid ho
      have HE := Lib.hid heach
      have hne := Lib.hid (own_ne hown.row heach.1 (by decide) rfl)
      have HW := Lib.hid hown
      have HML := Lib.hid hml
      clear hown hrw ho hstep hset hnt heach a0 a1 a2 hlc hml
      generalize ps.getD j ⟨0, 0, []⟩ = p at hsl hnb HST HSET HNT HE
      generalize (Pl.markedP ps k j).getD j ⟨0, 0, []⟩ = p' at d0 d1
      obtain ⟨A1, c1, hv1, -, -⟩ := HE.out.slice
      have hv1' := Lib.hid hv1
      rw [hv1] at d2
      clear hv1
      go_wp2_with (fail)
      have hown1 : OwnInts lo ((wr.setCell ⟨g, j * 3, none⟩ (.int .i64 m)).setCell ⟨g, j * 3 + 1, none⟩ (.int .i64 (m + 1))) (svs.getD j undef) p.signs :=
        World.ownsRow.only HE.out.1 ((Only.setCell _ _ _ _).trans (Only.setCell _ _ _ _)) fun g' hg' e => hne.out (by rw [hg', e])
      rw [hv1'.out] at hown1
      refine (markIntS_l lo _ p.signs (m + 1 + 1) _ hown1 (by omega) (by omega) hsl).mono ?_
      rintro e w2 ⟨rfl, o2, n2⟩
      have hnew := HST.out m (m + 1) (Pl.marks (m + 2) p.signs.length) w2 (fun _ => by rw [hv1'.out, show m + 2 = m + 1 + 1 by omega]; exact o2) (by rw [hv1'.out]; exact n2)
      rw [HSET.out, HML.out] at hnew
      have hwin : Within lo hi wr w2 := (((Within.refl lo hi wr).set hgl.1 hgt _ _).set hgl.1 hgt _ _).trans (n2.within fun g' hg' => by
        rw [← hv1'.out] at hg'
        exact ⟨(HE.out.1.lt g' hg').1, HE.out.2 g' hg'⟩)
      have Hn := Lib.hid hnew
      have Hw := Lib.hid hwin
      clear hnew hwin o2 n2 hown1
      go_wp2
      go_roundw
      case rel => exact ⟨j + 1, m + 2 + p.signs.length, by omega, by go_num, by go_num, HNT.out.symm, by omega, by omega, Hn.out, HO.out.trans Hw.out⟩
      case measure => simp [intOf]; omega
    · have e : j = ps.length := by omega
      subst e
      have hx := hm.out
      rw [List.take_of_length_le (Nat.le_refl _)] at hx
      have hq : Pl.markedP ps k ps.length = Pl.markP ps k := by simp [Pl.markedP]
      rw [hq] at hown
      have HX := Lib.hid hx
      clear hx hq hm
      go_wp2
      go_ret
      exact ⟨ret_int HX.out, hown, ho⟩
set_option maxHeartbeats 1000000 in
set_option maxRecDepth 100000 in
theorem heldPartS_l (B : Nat) (v : Value) (ps : List Pt) (k : Int) (w : World) (h : SliceParts B w v (Pl.markP ps k)) (hs : Pl.small ps k) :
    Calls Tryz.prog 9 #[v, .int .i64 k] w fun e w' => e = .returned (.int .i64 (Pl.markN ps k)) ∧ w = w' := by
  have hl := hs.2.1
  have HS := Lib.hid hs
  obtain ⟨hk0, -, -, hk1⟩ := hs
  obtain ⟨A, c, rfl, -, h⟩ := h
  rw [markP_length]
  go_enter Tryz.func9, Tryz.ntmps9
  go_wp2
  go_loop [1, 5] (fun q i => ∃ (j : Nat) (m : Int), j ≤ ps.length ∧ i = .int .i64 j ∧ q = .int .i64 m ∧ Hid (m = Pl.markN (ps.take j) k) ∧ 0 ≤ m ∧ m ≤ 88000000000000) (fun _ i => ps.length - (intOf i).toNat)
  case atStart => exact ⟨0, k, Nat.zero_le _, rfl, rfl, rfl, by omega, by omega⟩
  case round =>
    obtain ⟨j, m, hj, rfl, rfl, hm, hm0, hm1⟩ := hrel
    by_cases hlt : j < ps.length
    · obtain ⟨b, off, sv, rfl, _, c0, c1, c2, hsv⟩ := h j (by rw [markP_length]; exact hlt)
      rw [markP_at k hlt, ← hm.out] at c0 c1 hsv
      have hsl : (ps.getD j ⟨0, 0, []⟩).signs.length ≤ 4194304 := HS.out.2.2.1 _ (by simp [List.getD, hlt])
      have hnb := markN_take_lt HS.out (j + 1) hlt
      rw [markN_take k hlt, ← hm.out] at hnb
      obtain ⟨-, hnb⟩ := hnb
      have hnt := markN_take k hlt
      rw [← hm.out] at hnt
      have HNT := Lib.hid hnt
      clear h hnt
      dsimp only at c0 c1 hsv
      generalize ps.getD j ⟨0, 0, []⟩ = p at hsl hnb HNT hsv
      go_wp2_with (fail)
      refine (heldIntS_l B _ p.signs.length (m + 1 + 1) _ (by rw [show m + 1 + 1 = m + 2 by omega]; exact hsv) (by omega) (by omega) hsl).mono ?_
      rintro e w2 ⟨rfl, rfl⟩
      clear hsv c0 c1 c2
      go_wp2
      go_round
      case rel => exact ⟨j + 1, m + 2 + p.signs.length, by omega, by go_num, by go_num, HNT.out.symm, by omega, by omega⟩
      case measure => simp [intOf]; omega
    · have e : j = ps.length := by omega
      subst e
      have hx := hm.out
      rw [List.take_of_length_le (Nat.le_refl _)] at hx
      have HX := Lib.hid hx
      clear hx hm h
      go_wp2
      go_ret
      exact ⟨ret_int HX.out, rfl⟩
end Go.Proofs.YtookcfpiegbafaaGreatDoor
