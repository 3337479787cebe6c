/- The mark of slices of operations: markPartSS. Condition: what is marked lies in blocks of its own; the marks stay below the bound of Pl.smallS. -/
import Derived.Test.YtlpjbbmjchfolaaMarks
import Derived.Test.YtlpjbbmjchfolaaPartss
namespace Go.Proofs.Ytlpjbbmjchfolaa
open Go.RowKit
set_option maxRecDepth 100000

def Pl.markNN : List (List Pt) → Int → Int
  | [], k => k
  | o :: os, k => Pl.markNN os (Pl.markN o k)
/-- Every operation may be marked where its turn comes. -/
def Pl.smallS : List (List Pt) → Int → Prop
  | [], k => 0 ≤ k
  | o :: os, k => Pl.small o k ∧ Pl.smallS os (Pl.markN o k)
theorem sz_mark : ∀ {ps : List Pt} {r : Int} (k : Int), 0 ≤ r → 0 ≤ Pl.sz ps r → Pl.markN ps k = k + 2 * ps.length + (r - Pl.sz ps r)
  | [], r, k, _, _ => by simp [Pl.markN, Pl.sz]
  | p :: ps, r, k, h, h0 => by
    rw [Pl.sz] at h0 ⊢
    split at h0
    · omega
    · rename_i hn
      rw [if_neg hn, Pl.markN, sz_mark (r := r - p.signs.length) _ (by omega) h0]
      simp only [List.length_cons]
      omega
theorem szS_mark {ps : List Pt} {r : Int} (k : Int) (h0 : 0 ≤ Pl.szS ps r) : Pl.markN ps k ≤ k + 2 * (r - Pl.szS ps r) := by
  rw [Pl.szS] at h0 ⊢
  split at h0
  · omega
  · rename_i hn
    have := (sz_bd ps (r - ps.length) (by omega)).1
    rw [if_neg hn, sz_mark (r := r - ps.length) k (by omega) h0]
    omega
theorem smallS_szz : ∀ {os : List (List Pt)} {r k : Int}, 0 ≤ r → r ≤ 1048576 → 0 ≤ Pl.szz os r → 0 ≤ k → k + 2 * r ≤ 70368744177664 → Pl.smallS os k ∧ Pl.markNN os k ≤ k + 2 * r
  | [], r, k, h, _, _, hk, _ => ⟨hk, by rw [Pl.markNN]; omega⟩
  | o :: os, r, k, h, h1, h0, hk, hb => by
    have hle := szS_le (ps := o) (left := r) h
    rw [Pl.szz] at h0
    split at h0
    · omega
    · rename_i hn
      have hm := szS_mark (ps := o) (r := r) k (by omega)
      have hl := markN_le o k
      obtain ⟨n1, n2⟩ := szS_nat (ps := o) (left := r) h h1 (by omega)
      have ih := smallS_szz (os := os) (r := Pl.szS o r) (k := Pl.markN o k) (by omega) (by omega) h0 (by omega) (by omega)
      exact ⟨⟨⟨hk, by omega, fun p hp => Nat.le_trans (n2 p hp) (by omega), by omega⟩, ih.1⟩, by rw [Pl.markNN]; omega⟩
theorem smallS_of {os : List (List Pt)} {left k : Int} (h : 0 ≤ left) (h1 : left ≤ 1048576) (h0 : 0 ≤ Pl.szSS os left) (hk : 0 ≤ k) (hb : k ≤ 1099511627776) : Pl.smallS os k ∧ Pl.markNN os k ≤ k + 2 * left := by
  rw [Pl.szSS] at h0
  split at h0
  · omega
  · have := smallS_szz (os := os) (r := left - os.length) (k := k) (by omega) (by omega) h0 hk (by omega)
    exact ⟨this.1, by omega⟩
theorem markNN_le : ∀ (os : List (List Pt)) (k : Int), k ≤ Pl.markNN os k
  | [], _ => Int.le_refl _
  | o :: os, k => by
    have h1 := markN_le o k
    have h2 := markNN_le os (Pl.markN o k)
    rw [Pl.markNN]
    omega
theorem markNN_take {os : List (List Pt)} (k : Int) {j : Nat} (h : j < os.length) : Pl.markNN (os.take (j + 1)) k = Pl.markN (os.getD j []) (Pl.markNN (os.take j) k) := by
  induction os generalizing k j with
  | nil => simp at h
  | cons o os ih =>
    cases j with
    | zero => simp [Pl.markNN]
    | succ j =>
      simp only [List.take_succ_cons, Pl.markNN]
      rw [ih _ (by simpa using h)]
      simp
theorem smallS_at {os : List (List Pt)} {k : Int} (hs : Pl.smallS os k) {j : Nat} (h : j < os.length) : Pl.small (os.getD j []) (Pl.markNN (os.take j) k) := by
  induction os generalizing k j with
  | nil => simp at h
  | cons o os ih =>
    cases j with
    | zero => simpa [Pl.markNN] using hs.1
    | succ j =>
      simp only [List.take_succ_cons, Pl.markNN, List.getD_cons_succ]
      exact ih hs.2 (by simpa using h)

set_option maxHeartbeats 1000000 in
theorem markPartSS_l (lo hi : Nat) (v : Value) (os : List (List Pt)) (svs : List Value) (bd : Nat → Nat) (k : Int) (w : World) (h : OwnPP lo hi w v os svs bd) (hs : Pl.smallS os k) (hl : os.length ≤ 4194304) :
    Calls Try.prog 41 #[v, .int .i64 k] w fun e w' => e = .returned (.int .i64 (Pl.markNN os k)) ∧ Within lo hi w w' := by
  have HS := Lib.hid hs
  obtain ⟨A, c, rfl, -, -⟩ := h.slice
  have H := Lib.hid h
  have hrow := h.row
  have hea : ∀ i, 0 ≤ i → i < os.length → ∃ ss, OwnP (bd i) (bd (i + 1)) w (svs.getD i undef) (os.getD i []) ss := fun i _ hi' => h.each i hi'
  clear h hs
  go_enter Try.func41, Try.ntmps41
  go_wp2_with (fail)
  go_loopw [1, 5] (fun q i wr => ∃ (j : Nat) (m : Int), j ≤ os.length ∧ i = .int .i64 j ∧ q = .int .i64 m ∧ Hid (m = Pl.markNN (os.take j) k) ∧ Within lo hi w wr ∧
    wr.ownsRow lo 24 1 (.slice A os.length c) os.length svs ∧ (∀ i, j ≤ i → i < os.length → ∃ ss, OwnP (bd i) (bd (i + 1)) wr (svs.getD i undef) (os.getD i []) ss)) (fun _ i _ => os.length - (intOf i).toNat)
  case atStart => exact ⟨0, k, Nat.zero_le _, rfl, rfl, rfl, Within.refl _ _ _, hrow, hea⟩
  case round =>
    clear hrow hea
    obtain ⟨j, m, hj, rfl, rfl, hm, ho, hrw, hea⟩ := hrel
    by_cases hlt : j < os.length
    · obtain ⟨g, cap, hv, hBg, _⟩ := hrw.form (by omega)
      injection hv with hA _ hc
      subst hA hc
      have d0 := hrw.cellAt j (by omega)
      have e0 : svs[j]? = some (svs.getD j undef) := by have := H.out.len; simp [List.getD, show j < svs.length by omega]
      rw [e0] at d0
      clear e0
      obtain ⟨ss, hp⟩ := hea j (Nat.le_refl _) hlt
      have hsm := Lib.hid (smallS_at HS.out hlt)
      have HNT := Lib.hid (markNN_take k hlt)
      have Hea := Lib.hid hea
      have Hrw := Lib.hid hrw
      have Ho := Lib.hid ho
      have HP := Lib.hid hp
      obtain ⟨A1, c1, hv1, -, -⟩ := hp.slice
      have hv1' := Lib.hid hv1
      rw [hv1] at d0
      have hgl := (hrw.lt g rfl)
      clear hv1 hp hea hrw ho
      generalize os.getD j [] = o at d0 hsm HNT HP hv1'
      go_wp2_with (fail)
      refine (markPartS_l (bd j) (bd (j + 1)) _ o ss m _ (by rw [← hv1'.out]; exact HP.out) (by rw [hm.out]; exact hsm.out)).mono ?_
      rintro e w2 ⟨rfl, -, n2⟩
      have N2 := Lib.hid n2
      clear n2
      go_wp2_with (fail)
      go_roundw
      case rel =>
        have h1 := H.out.up 0 j (Nat.zero_le _) (by omega)
        have h2 := H.out.up (j + 1) os.length hlt (Nat.le_refl _)
        have h3 := H.out.lo
        have h4 := H.out.hi
        have h5 := H.out.top g rfl
        exact ⟨j + 1, _, by omega, by go_num, rfl, by show _ = _; rw [HNT.out, ← hm.out], Ho.out.trans (N2.out.mono (by omega) h2 |>.mono (Nat.le_refl _) h4),
          World.ownsRow.within Hrw.out N2.out (fun g' hg' => by cases hg'; dsimp only; omega),
          fun i hi1 hi2 => by
            obtain ⟨ss', hp'⟩ := Hea.out i (by omega) hi2
            have h6 := H.out.up (j + 1) i hi1 (by omega)
            exact ⟨ss', hp'.within N2.out (.inr h6)⟩⟩
      case measure => simp [intOf]; omega
    · have e : j = os.length := by omega
      subst e
      have hx := hm.out
      rw [List.take_of_length_le (Nat.le_refl _)] at hx
      have HX := Lib.hid hx
      clear hx hm hea hrw
      go_wp2_with (fail)
      go_ret
      exact ⟨ret_int HX.out, ho⟩
end Go.Proofs.Ytlpjbbmjchfolaa
