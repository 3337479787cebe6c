/- Two rows of parts in one region that share no block: what is marked in one leaves the other. -/
import Derived.Test.YtlpjbbmjchfolaaMarks
namespace Go.Proofs.Ytlpjbbmjchfolaa
open Go.RowKit
set_option maxRecDepth 100000

/-- The blocks of a row of parts: its own, and those of its parts' characters. -/
def BlkOf (v : Value) (svs : List Value) (g : Nat) : Prop := v.ownBlock = some g ∨ ∃ sv ∈ svs, sv.ownBlock = some g
def ApartP (v : Value) (svs : List Value) (v' : Value) (svs' : List Value) : Prop := ∀ g, BlkOf v svs g → ¬ BlkOf v' svs' g
theorem ApartP.symm {v v' : Value} {svs svs' : List Value} (h : ApartP v svs v' svs') : ApartP v' svs' v svs := fun g hg hh => h g hh hg
theorem ApartP.nil (v' : Value) (svs' : List Value) : ApartP (.slice none 0 0) [] v' svs' := fun g hg => by
  rcases hg with hg | ⟨sv, hs, _⟩
  · simp [Value.ownBlock] at hg
  · cases hs
theorem OwnP.blk {lo hi : Nat} {w : World} {v : Value} {ps : List Pt} {svs : List Value} (h : OwnP lo hi w v ps svs) {g : Nat} (hg : BlkOf v svs g) : lo ≤ g ∧ g < hi := by
  rcases hg with hg | ⟨sv, hs, hg⟩
  · exact ⟨(h.row.lt g hg).1, h.top g hg⟩
  · obtain ⟨k, hk, rfl⟩ := List.getElem_of_mem hs
    have e := h.each k (by rw [← h.len]; exact hk)
    have e2 : svs.getD k undef = svs[k] := by simp [List.getD, hk]
    rw [e2] at e
    exact ⟨(e.1.lt g hg).1, e.2 g hg⟩
theorem ApartP.regions {lo m m' hi : Nat} {w w' : World} {v v' : Value} {ps ps' : List Pt} {svs svs' : List Value} (h : OwnP lo m w v ps svs) (h' : OwnP m' hi w' v' ps' svs') (hm : m ≤ m') : ApartP v svs v' svs' := fun g hg hh => by
  have := h.blk hg
  have := h'.blk hh
  omega
theorem ownsRow_kept {S : Nat → Prop} {base e size n : Nat} {w w' : World} {v : Value} {xs : List Value} (h : w.ownsRow base e size v n xs) (hk : ∀ g, ¬ S g → w'.heap[g]? = w.heap[g]?) (hd : ∀ g, v.ownBlock = some g → ¬ S g) : w'.ownsRow base e size v n xs := by
  refine ⟨h.1, ?_⟩
  rcases h.2 with hn | ⟨g, cap, cur, rfl, hb, hg, r⟩
  · exact .inl hn
  · exact .inr ⟨g, cap, cur, rfl, hb, (hk g (hd g rfl)).trans hg, r⟩
theorem OwnP.kept {S : Nat → Prop} {lo hi : Nat} {w w' : World} {v : Value} {ps : List Pt} {svs : List Value} (h : OwnP lo hi w v ps svs) (hk : ∀ g, ¬ S g → w'.heap[g]? = w.heap[g]?) (hd : ∀ g, BlkOf v svs g → ¬ S g) : OwnP lo hi w' v ps svs :=
  ⟨ownsRow_kept h.row hk fun g hg => hd g (.inl hg), h.top, h.len, fun k hk' => ⟨ownsRow_kept (h.each k hk').1 hk fun g hg => hd g (.inr ⟨_, by
    have : k < svs.length := by rw [h.len]; exact hk'
    simp [List.getD, this], hg⟩), (h.each k hk').2⟩, h.apart⟩
/-- Within a region, and there only these blocks. -/
def WithinB (S : Nat → Prop) (lo hi : Nat) (w w' : World) : Prop := Within lo hi w w' ∧ ∀ g, ¬ S g → w'.heap[g]? = w.heap[g]?
theorem WithinB.refl (S : Nat → Prop) (lo hi : Nat) (w : World) : WithinB S lo hi w w := ⟨Within.refl _ _ _, fun _ _ => rfl⟩
theorem WithinB.trans {S : Nat → Prop} {lo hi : Nat} {a b c : World} (h : WithinB S lo hi a b) (k : WithinB S lo hi b c) : WithinB S lo hi a c := ⟨h.1.trans k.1, fun g hg => (k.2 g hg).trans (h.2 g hg)⟩
theorem WithinB.set {S : Nat → Prop} {lo hi : Nat} {a w : World} (h : WithinB S lo hi a w) {g : Nat} (h1 : lo ≤ g) (h2 : g < hi) (hS : S g) (i : Nat) (u : Value) : WithinB S lo hi a (w.setCell ⟨g, i, none⟩ u) :=
  ⟨h.1.set h1 h2 i u, fun k hk => (Below.heap_setCell _ _ _ _ (by show k ≠ g; intro e; exact hk (e ▸ hS))).trans (h.2 k hk)⟩
theorem mem_getD {svs : List Value} {k : Nat} (h : k < svs.length) : svs.getD k undef ∈ svs := by simp [List.getD, h]
set_option maxHeartbeats 1000000 in
set_option maxRecDepth 100000 in
theorem markPartS_k (lo hi : Nat) (v : Value) (ps : List Pt) (svs : List Value) (k : Int) (w : World) (h : OwnP lo hi w v ps svs) (hs : Pl.small ps k) :
    Calls Try.prog 34 #[v, .int .i64 k] w fun e w' => e = .returned (.int .i64 (Pl.markN ps k)) ∧ OwnP lo hi w' v (Pl.markP ps k) svs ∧ WithinB (BlkOf v svs) lo hi w w' := by
  have hl := hs.2.1
  have HS := Lib.hid hs
  obtain ⟨hk0, -, -, hk1⟩ := hs
  obtain ⟨A, c, rfl, -, -⟩ := h.slice
  have hrow : OwnP lo hi w (.slice A ps.length c) (Pl.markedP ps k 0) svs := by
    have e : Pl.markedP ps k 0 = ps := by simp [Pl.markedP, Pl.markP]
    rw [e]; exact h
  clear h
  go_enter Try.func34, Try.ntmps34
  go_wp2
  go_loopw [1, 5] (fun q i wr => ∃ (j : Nat) (m : Int), j ≤ ps.length ∧ i = .int .i64 j ∧ q = .int .i64 m ∧ Hid (m = Pl.markN (ps.take j) k) ∧ 0 ≤ m ∧ m ≤ 88000000000000 ∧ OwnP lo hi wr (.slice A ps.length c) (Pl.markedP ps k j) svs ∧ WithinB (BlkOf (.slice A ps.length c) svs) lo hi w wr) (fun _ i _ => ps.length - (intOf i).toNat)
  case atStart => exact ⟨0, k, Nat.zero_le _, rfl, rfl, rfl, by omega, by omega, hrow, WithinB.refl _ _ _ _⟩
  case round =>
    clear hrow
    obtain ⟨j, m, hj, rfl, rfl, hm, hm0, hm1, hown, ho⟩ := hrel
    by_cases hlt : j < ps.length
    · have hml := markedP_length ps k j hj
      have hrw := hown.row
      rw [hml] at hrw
      obtain ⟨g, cap, hv, hBg, _⟩ := hrw.form (by omega)
      injection hv with hA _ hc
      subst hA hc
      have hlc : (cellsP (Pl.markedP ps k j) svs).length = ps.length * 3 := by rw [cellsP_length _ _ hown.len, hml]
      obtain ⟨a0, a1, a2⟩ := cellsP_at (Pl.markedP ps k j) svs j hown.len (by omega)
      have d0 := (hrw.cellAt (j * 3) (by omega)).trans a0
      have d1 := (hrw.cellAt (j * 3 + 1) (by omega)).trans a1
      have d2 := (hrw.cellAt (j * 3 + 2) (by omega)).trans a2
      have hfz := hrw.frozenAt
      have hgl := (hrw.lt g rfl)
      have hgt := hown.top g rfl
      have heach := hown.each j (by omega)
      rw [markedP_at ps k j hlt] at heach
      have hsl : (ps.getD j ⟨0, 0, []⟩).signs.length ≤ 4194304 := HS.out.2.2.1 _ (by simp [List.getD, hlt])
      have hnb := markN_take_lt HS.out (j + 1) hlt
      rw [markN_take k hlt, ← hm.out] at hnb
      obtain ⟨-, hnb⟩ := hnb
      have hstep := fun (a b : Int) ys w2 => @OwnP.mark lo hi g c wr w2 (Pl.markedP ps k j) svs j a b ys (by rw [hml]; exact hown) (by omega)
      rw [markedP_at ps k j hlt] at hstep
      have hset := markedP_set ps k j hlt
      have hnt := markN_take k hlt
      rw [← hm.out] at hset hnt
      have HST := Lib.hid hstep
      have HSET := Lib.hid hset
      have HNT := Lib.hid hnt
      have HO := Lib.hid ho
      have HE := Lib.hid heach
      have hmem : Hid (svs.getD j undef ∈ svs) := mem_getD (by have := hown.len; omega)
      have hne := Lib.hid (own_ne hown.row heach.1 (by decide) rfl)
      have HW := Lib.hid hown
      have HML := Lib.hid hml
      clear hown hrw ho hstep hset hnt heach a0 a1 a2 hlc hml
      generalize ps.getD j ⟨0, 0, []⟩ = p at hsl hnb HST HSET HNT HE
      generalize (Pl.markedP ps k j).getD j ⟨0, 0, []⟩ = p' at d0 d1
      obtain ⟨A1, c1, hv1, -, -⟩ := HE.out.slice
      have hv1' := Lib.hid hv1
      rw [hv1] at d2
      clear hv1
      go_wp2_with (fail)
      have hown1 : OwnInts lo ((wr.setCell ⟨g, j * 3, none⟩ (.int .i64 m)).setCell ⟨g, j * 3 + 1, none⟩ (.int .i64 (m + 1))) (svs.getD j undef) p.signs :=
        World.ownsRow.only HE.out.1 ((Only.setCell _ _ _ _).trans (Only.setCell _ _ _ _)) fun g' hg' e => hne.out (by rw [hg', e])
      rw [hv1'.out] at hown1
      refine (markIntS_l lo _ p.signs (m + 1 + 1) _ hown1 (by omega) (by omega) hsl).mono ?_
      rintro e w2 ⟨rfl, o2, n2⟩
      have hnew := HST.out m (m + 1) (Pl.marks (m + 2) p.signs.length) w2 (fun _ => by rw [hv1'.out, show m + 2 = m + 1 + 1 by omega]; exact o2) (by rw [hv1'.out]; exact n2)
      rw [HSET.out, HML.out] at hnew
      have hwin : WithinB (BlkOf (.slice (some ⟨g, 0, none⟩) ps.length c) svs) lo hi wr w2 := (((WithinB.refl _ lo hi wr).set hgl.1 hgt (.inl rfl) _ _).set hgl.1 hgt (.inl rfl) _ _).trans ⟨n2.within fun g' hg' => by
        rw [← hv1'.out] at hg'
        exact ⟨(HE.out.1.lt g' hg').1, HE.out.2 g' hg'⟩, fun k hk => n2.block k fun e => hk (.inr ⟨_, hmem.out, by rw [hv1'.out]; exact e.symm⟩)⟩
      have Hn := Lib.hid hnew
      have Hw := Lib.hid hwin
      clear hnew hwin o2 n2 hown1
      go_wp2
      go_roundw
      case rel => exact ⟨j + 1, m + 2 + p.signs.length, by omega, by go_num, by go_num, HNT.out.symm, by omega, by omega, Hn.out, HO.out.trans Hw.out⟩
      case measure => simp [intOf]; omega
    · have e : j = ps.length := by omega
      subst e
      have hx := hm.out
      rw [List.take_of_length_le (Nat.le_refl _)] at hx
      have hq : Pl.markedP ps k ps.length = Pl.markP ps k := by simp [Pl.markedP]
      rw [hq] at hown
      have HX := Lib.hid hx
      clear hx hq hm
      go_wp2
      go_ret
      exact ⟨ret_int HX.out, hown, ho⟩
end Go.Proofs.Ytlpjbbmjchfolaa
