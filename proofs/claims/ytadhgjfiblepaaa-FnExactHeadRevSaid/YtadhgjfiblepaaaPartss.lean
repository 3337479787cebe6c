/- Slices of operations: the memory word SliceOps and the laws' helper szPartSS. -/
import Derived.Test.YtadhgjfiblepaaaEqParts
namespace Go.Proofs.Ytadhgjfiblepaaa
open Go.RowKit
set_option maxRecDepth 100000

/-- From A on lie slices of parts that read as the operations os. -/
def OpsAt (B : Nat) (w : World) (A : Option Addr) (os : List (List Pt)) : Prop :=
  ∀ k, k < os.length → ∃ b off sv, A = some ⟨b, off, none⟩ ∧ b < B ∧ w.cell? ⟨b, off + k, none⟩ = some sv ∧ SliceParts B w sv (os.getD k [])
def SliceOps (B : Nat) (w : World) (v : Value) (os : List (List Pt)) : Prop := ∃ A c, v = .slice A os.length c ∧ (os.length ≤ c ∧ c ≤ maxLen) ∧ OpsAt B w A os
theorem OpsAt.below {B : Nat} {w w' : World} {A : Option Addr} {os : List (List Pt)} (h : OpsAt B w A os) (hb : Below B w w') : OpsAt B w' A os := fun k hk => by
  obtain ⟨b, off, sv, hA, hbB, hc, hs⟩ := h k hk
  exact ⟨b, off, sv, hA, hbB, (hb.cell hbB).trans hc, hs.below hb⟩
theorem OpsAt.mono {B B' : Nat} {w : World} {A : Option Addr} {os : List (List Pt)} (h : OpsAt B w A os) (hb : B ≤ B') : OpsAt B' w A os := fun k hk => by
  obtain ⟨b, off, sv, hA, hbB, hc, hs⟩ := h k hk
  exact ⟨b, off, sv, hA, by omega, hc, hs.mono hb⟩
theorem SliceOps.below {B : Nat} {w w' : World} {v : Value} {os : List (List Pt)} (h : SliceOps B w v os) (hb : Below B w w') : SliceOps B w' v os := by
  obtain ⟨A, c, hv, hc, hi⟩ := h
  exact ⟨A, c, hv, hc, hi.below hb⟩
theorem SliceOps.mono {B B' : Nat} {w : World} {v : Value} {os : List (List Pt)} (h : SliceOps B w v os) (hb : B ≤ B') : SliceOps B' w v os := by
  obtain ⟨A, c, hv, hc, hi⟩ := h
  exact ⟨A, c, hv, hc, hi.mono hb⟩
theorem SliceOps.len {B : Nat} {w : World} {v : Value} {os : List (List Pt)} (h : SliceOps B w v os) : os.length ≤ maxLen := by
  obtain ⟨A, c, _, hc, _⟩ := h
  omega
theorem SliceOps.later {w w' : World} {v : Value} {os : List (List Pt)} (h : SliceOps w.heap.size w v os) (hb : Below w.heap.size w w') : SliceOps w'.heap.size w' v os := (h.below hb).mono hb.size

theorem SliceOps.within {B lo hi : Nat} {w w' : World} {v : Value} {os : List (List Pt)} (h : SliceOps B w v os) (hw : Within lo hi w w') (hB : B ≤ lo) : SliceOps B w' v os := h.below (hw.below hB)

namespace Pl
/-- What the operations leave of an allowance; -1: more than it. -/
def szz : List (List Pt) → Int → Int
  | [], r => r
  | o :: os, r => if szS o r < 0 then -1 else szz os (szS o r)
def szSS (os : List (List Pt)) (left : Int) : Int := if left < os.length then -1 else szz os (left - os.length)
end Pl
theorem szz_step {os : List (List Pt)} {k : Nat} (h : k < os.length) (r : Int) (hlt : ¬ Pl.szS (os.getD k []) r < 0) : Pl.szz (os.drop k) r = Pl.szz (os.drop (k + 1)) (Pl.szS (os.getD k []) r) := by
  rw [List.drop_eq_getElem_cons h, Pl.szz]
  simp [List.getD, h] at hlt ⊢
  omega
theorem szz_stop {os : List (List Pt)} {k : Nat} (h : k < os.length) (r : Int) (hlt : Pl.szS (os.getD k []) r < 0) : Pl.szz (os.drop k) r = -1 := by
  rw [List.drop_eq_getElem_cons h, Pl.szz]
  simp [List.getD, h] at hlt ⊢
  omega

theorem szz_le : ∀ {os : List (List Pt)} {r : Int}, 0 ≤ r → Pl.szz os r ≤ r
  | [], _, _ => Int.le_refl _
  | o :: os, r, h => by
    have h1 := szS_le (ps := o) (left := r) h
    rw [Pl.szz]
    split
    · omega
    · have := szz_le (os := os) (r := Pl.szS o r) (by omega)
      omega
theorem szSS_le {ps : List (List Pt)} {left : Int} (h : 0 ≤ left) : Pl.szSS ps left ≤ left := by
  rw [Pl.szSS]
  split
  · omega
  · have := szz_le (os := ps) (r := left - ps.length) (by omega)
    omega
theorem szz_nat : ∀ {os : List (List Pt)} {r : Int}, 0 ≤ r → r ≤ 1048576 → 0 ≤ Pl.szz os r → ∀ o ∈ os, o.length ≤ 1048576 ∧ ∀ p ∈ o, p.signs.length ≤ 1048576
  | [], _, _, _, _ => fun _ ho => by cases ho
  | o :: os, r, h, h1, h0 => by
    have hle := szS_le (ps := o) (left := r) h
    rw [Pl.szz] at h0
    split at h0
    · omega
    · rename_i hn
      intro o' ho'
      rcases List.mem_cons.1 ho' with rfl | ho'
      · exact szS_nat (left := r) h h1 (by omega)
      · exact szz_nat (os := os) (r := Pl.szS o r) (by omega) (by omega) h0 o' ho'
theorem szSS_nat {ps : List (List Pt)} {left : Int} (h : 0 ≤ left) (h1 : left ≤ 1048576) (h0 : 0 ≤ Pl.szSS ps left) : ps.length ≤ 1048576 ∧ ∀ o ∈ ps, o.length ≤ 1048576 ∧ ∀ p ∈ o, p.signs.length ≤ 1048576 := by
  rw [Pl.szSS] at h0
  split at h0
  · omega
  · exact ⟨by omega, szz_nat (by omega) (by omega) h0⟩

set_option maxHeartbeats 1000000 in
theorem szPartSS_l (v : Value) (os : List (List Pt)) (left : Int) (w : World) (h : SliceOps w.heap.size w v os) (h0 : 0 ≤ left) (h1 : left ≤ 1048576) :
    Calls Try.prog 48 #[v, .int .i64 left] w fun e w' => e = .returned (.int .i64 (Pl.szSS os left)) ∧ Below w.heap.size w w' := by
  have hl := h.len
  unfold maxLen at hl
  obtain ⟨A, c, rfl, -, h⟩ := h
  by_cases hlt : left < os.length
  · go_enter Try.func48, Try.ntmps48
    go_wp2_with (fail)
    go_ret
    exact ⟨ret_int (by rw [Pl.szSS, if_pos hlt]), Below.refl _ _⟩
  · have hle : (os.length : Int) ≤ left := by omega
    obtain ⟨B, hB⟩ : ∃ B, B = w.heap.size := ⟨_, rfl⟩
    have HB := Lib.hid hB
    rw [← hB] at h
    clear hB hlt
    go_enter Try.func48, Try.ntmps48
    go_wp2_with (fail)
    go_loopw [1, 5] (fun l i wr => ∃ (k : Nat) (r : Int), k ≤ os.length ∧ i = .int .i64 k ∧ l = .int .i64 r ∧ 0 ≤ r ∧ r ≤ 1048576 ∧ Hid (Pl.szSS os left = Pl.szz (os.drop k) r) ∧ Below B w wr ∧ B ≤ wr.heap.size ∧ OpsAt B wr A os) (fun _ i _ => os.length - (intOf i).toNat)
    case atStart => exact ⟨0, _, Nat.zero_le _, rfl, rfl, by omega, by omega, by show _ = _; rw [Pl.szSS, if_neg (by omega)]; rfl, Below.refl _ _, by rw [HB.out]; exact Nat.le_refl _, h⟩
    case round =>
      clear h
      obtain ⟨k, r, hk, rfl, rfl, hr0, hr1, hsz, hb, hBs, hr⟩ := hrel
      by_cases hkl : k < os.length
      · obtain ⟨b, off, sv, rfl, hbB, c0, hs⟩ := hr k hkl
        have Hr := Lib.hid hr
        have Hb := Lib.hid hb
        clear hr hb
        by_cases hlt : Pl.szS (os.getD k []) r < 0
        · have HS := Lib.hid (hsz.out.trans (szz_stop hkl r hlt))
          generalize os.getD k [] = o at c0 hs hlt
          go_wp2_with (go_at_call 14; refine (szPartS_l _ o r _ (hs.mono hBs) hr0 hr1).mono ?_; rintro e w1 ⟨rfl, b1⟩)
          go_ret
          exact ⟨ret_int HS.out.symm, by rw [← HB.out]; exact Hb.out.trans (b1.mono hBs)⟩
        · have HS := Lib.hid (hsz.out.trans (szz_step hkl r hlt))
          generalize os.getD k [] = o at c0 hs hlt HS
          have hle' : 0 ≤ Pl.szS o r := by omega
          have hu := szS_le (ps := o) (left := r) hr0
          clear hlt
          go_wp2_with (go_at_call 14; refine (szPartS_l _ o r _ (hs.mono hBs) hr0 hr1).mono ?_; rintro e w1 ⟨rfl, b1⟩)
          go_roundw
          case rel => exact ⟨k + 1, Pl.szS o r, by omega, by go_num, rfl, by omega, by omega, HS.out, Hb.out.trans (b1.mono hBs), Nat.le_trans hBs b1.size, Hr.out.below (b1.mono hBs)⟩
          case measure => simp [intOf]; omega
      · have e : os.drop k = [] := List.drop_eq_nil_of_le (by omega)
        rw [e] at hsz
        clear e hr
        go_wp2_with (fail)
        go_ret
        exact ⟨ret_int hsz.out.symm, by rw [← HB.out]; exact hb⟩
set_option maxHeartbeats 1000000 in
theorem eqPartSS_b (v v' : Value) (os : List (List Pt)) (w : World) (h : SliceOps w.heap.size w v os) (h' : SliceOps w.heap.size w v' os) :
    Calls Try.prog 52 #[v, v'] w fun e w' => e = .returned (.bool true) ∧ Below w.heap.size w w' := by
  have hl := h.len
  unfold maxLen at hl
  obtain ⟨A, c, rfl, -, h⟩ := h
  obtain ⟨A', c', rfl, -, h'⟩ := h'
  obtain ⟨B, hB⟩ : ∃ B, B = w.heap.size := ⟨_, rfl⟩
  have HB := Lib.hid hB
  rw [← hB] at h h'
  clear hB
  go_enter Try.func52, Try.ntmps52
  go_wp2_with (fail)
  go_loopw [5] (fun i wr => ∃ k : Nat, k ≤ os.length ∧ i = .int .i64 k ∧ Below B w wr ∧ B ≤ wr.heap.size ∧ OpsAt B wr A os ∧ OpsAt B wr A' os) (fun i _ => os.length - (intOf i).toNat)
  case atStart => exact ⟨0, Nat.zero_le _, rfl, Below.refl _ _, by rw [HB.out]; exact Nat.le_refl _, h, h'⟩
  case round =>
    clear h h'
    obtain ⟨k, hk, rfl, hb, hBs, hr, hr'⟩ := hrel
    by_cases hlt : k < os.length
    · obtain ⟨b, off, sv, rfl, hbB, c0, hs⟩ := hr k hlt
      obtain ⟨b', off', sv', rfl, hbB', c0', hs'⟩ := hr' k hlt
      have Hr := Lib.hid hr
      have Hr' := Lib.hid hr'
      have Hb := Lib.hid hb
      clear hr hr' hb
      generalize os.getD k [] = o at c0 hs c0' hs'
      go_wp2_with (fail)
      go_still_tail 8, (by kernel_rfl)
      go_wp2_with (fail)
      refine (eqPartS_b _ _ o wr.drew (hs.mono hBs) (hs'.mono hBs)).mono ?_
      rintro e w1 ⟨rfl, b1⟩
      have hb1 : Below B wr w1 := (Below.refl B wr).drew.trans (b1.mono hBs)
      go_wp2_with (fail)
      go_roundw
      case rel => exact ⟨k + 1, by omega, by go_num, Hb.out.trans hb1, Nat.le_trans hBs hb1.size, Hr.out.below hb1, Hr'.out.below hb1⟩
      case measure => simp [intOf]; omega
    · clear hr hr'
      go_wp2_with (fail)
      go_ret
      exact ⟨rfl, by rw [← HB.out]; exact hb⟩
/-- A slice of slices of parts in a block of its own; operation k lies in blocks of its own from bd k up to bd (k + 1). -/
structure OwnPP (lo hi : Nat) (w : World) (v : Value) (os : List (List Pt)) (svs : List Value) (bd : Nat → Nat) : Prop where
  row : w.ownsRow lo 25 1 v os.length svs
  top : ∀ g, v.ownBlock = some g → g < bd 0
  len : svs.length = os.length
  each : ∀ k, k < os.length → ∃ ss, OwnP (bd k) (bd (k + 1)) w (svs.getD k undef) (os.getD k []) ss
  up : ∀ i j, i ≤ j → j ≤ os.length → bd i ≤ bd j
  hi : bd os.length ≤ hi
  lo : lo ≤ bd 0
theorem OwnPP.below {lo hi : Nat} {w w' : World} {v : Value} {os : List (List Pt)} {svs : List Value} {bd : Nat → Nat} (h : OwnPP lo hi w v os svs bd) (hb : Below w.heap.size w w') : OwnPP lo hi w' v os svs bd :=
  ⟨World.ownsRow.below h.row hb, h.top, h.len, fun k hk => by obtain ⟨ss, hs⟩ := h.each k hk; exact ⟨ss, hs.below hb⟩, h.up, h.hi, h.lo⟩
theorem OwnPP.within {lo hi lo' hi' : Nat} {w w' : World} {v : Value} {os : List (List Pt)} {svs : List Value} {bd : Nat → Nat} (h : OwnPP lo hi w v os svs bd) (hw : Within lo' hi' w w') (hd : hi ≤ lo' ∨ hi' ≤ lo) : OwnPP lo hi w' v os svs bd :=
  ⟨World.ownsRow.within h.row hw fun g hg hgg => by
      have h1 := h.top g hg
      have h2 := (h.row.lt g hg).1
      have h3 := h.up 0 os.length (Nat.zero_le _) (Nat.le_refl _)
      have h4 := h.hi
      omega, h.top, h.len, fun k hk => by
      obtain ⟨ss, hs⟩ := h.each k hk
      have h1 := h.up 0 k (Nat.zero_le _) (by omega)
      have h2 := h.up (k + 1) os.length hk (Nat.le_refl _)
      have h3 := h.lo
      have h4 := h.hi
      exact ⟨ss, hs.within hw (by omega)⟩, h.up, h.hi, h.lo⟩
theorem OwnPP.slice {lo hi : Nat} {w : World} {v : Value} {os : List (List Pt)} {svs : List Value} {bd : Nat → Nat} (h : OwnPP lo hi w v os svs bd) : SliceOps w.heap.size w v os := by
  have hlt := h.row.lt
  have hcell := @World.ownsRow.cells w lo 25 1 v os.length svs h.row
  rcases h.row.2 with ⟨rfl, hn⟩ | ⟨g, cap, cur, rfl, hb, hg, hc, hm, hs, ht⟩
  · have hx : os = [] := List.eq_nil_of_length_eq_zero hn
    subst hx
    exact ⟨none, 0, rfl, ⟨Nat.le_refl _, Nat.zero_le _⟩, fun k hk => absurd hk (Nat.not_lt_zero _)⟩
  · refine ⟨some ⟨g, 0, none⟩, cap, rfl, ⟨hc, hm⟩, fun k hk => ?_⟩
    have b0 := hcell (g := g) rfl k (svs.getD k undef) (by have := h.len; simp [List.getD, show k < svs.length by omega])
    rw [Addr.add_lit] at b0
    obtain ⟨ss, hs'⟩ := h.each k hk
    exact ⟨g, 0, _, rfl, (hlt g rfl).2, b0, hs'.slice⟩

theorem partsSInfo : (Try.prog.info? 25).map (fun i => (i.zero, i.size, i.bytes)) = some (some (.slice none 0 0), 1, 24) := by kernel_rfl

/-- What a loop that copies operations has written after k rounds. -/
structure CopyingS (B : Nat) (w wr : World) (os : List (List Pt)) (svs : List Value) (bd : Nat → Nat) : Prop where
  row : wr.ownsRow B 25 1 (.slice (some ⟨B, 0, none⟩) os.length os.length) os.length (svs ++ List.replicate (os.length - svs.length) (.slice none 0 0))
  le : svs.length ≤ os.length
  each : ∀ k, k < svs.length → ∃ ss, OwnP (bd k) (bd (k + 1)) wr (svs.getD k undef) (os.getD k []) ss
  up : ∀ i j, i ≤ j → j ≤ svs.length → bd i ≤ bd j
  b0 : B < bd 0
  last : bd svs.length = wr.heap.size
  old : Below B w wr
theorem CopyingS.step {B : Nat} {w wr w1 : World} {os : List (List Pt)} {svs ss : List Value} {bd : Nat → Nat} {sv : Value} (h : CopyingS B w wr os svs bd) (hk : svs.length < os.length)
    (o1 : OwnP wr.heap.size w1.heap.size w1 sv (os.getD svs.length []) ss) (b1 : Below wr.heap.size wr w1) :
    CopyingS B w (w1.setCell ⟨B, svs.length, none⟩ sv) os (svs ++ [sv]) (fun i => if i ≤ svs.length then bd i else w1.heap.size) := by
  have hB0 := h.up 0 svs.length (Nat.zero_le _) (Nat.le_refl _)
  have hb0 := h.b0
  have hlast := h.last
  have hs := b1.size
  have hr := ((World.ownsRow.below h.row b1).stored svs.length sv).1
  have e : os.length - svs.length = (os.length - (svs.length + 1)) + 1 := by omega
  rw [List.set_append_right _ _ (Nat.le_refl _), Nat.sub_self, e, List.replicate_succ, List.set_cons_zero] at hr
  have hw : Within B (B + 1) w1 (w1.setCell ⟨B, svs.length, none⟩ sv) := (Within.refl _ _ _).set (Nat.le_refl _) (by omega) _ _
  refine ⟨by simpa using hr, by simp; omega, fun j hj => ?_, fun i j hij hj => ?_, by simpa using hb0, by simp [hw.size]; intro hh; omega, (h.old.trans (b1.mono (by omega))).trans (hw.below (Nat.le_refl _))⟩
  · by_cases hjk : j < svs.length
    · have e : (svs ++ [sv]).getD j undef = svs.getD j undef := by simp [List.getD, List.getElem?_append_left hjk]
      rw [e, if_pos (by omega), if_pos (by omega)]
      obtain ⟨ss', hs'⟩ := h.each j hjk
      have := h.up 0 j (Nat.zero_le _) (by omega)
      exact ⟨ss', (hs'.below b1).within hw (.inr (by omega))⟩
    · have hj' : j = svs.length := by simp at hj; omega
      subst hj'
      have e : (svs ++ [sv]).getD svs.length undef = sv := by simp [List.getD]
      rw [e, if_pos (Nat.le_refl _), if_neg (by omega), hlast]
      exact ⟨ss, o1.within hw (.inr (by omega))⟩
  · simp only [List.length_append, List.length_cons, List.length_nil] at hj
    by_cases hjk : j ≤ svs.length
    · rw [if_pos (by omega), if_pos hjk]
      exact h.up i j hij hjk
    · rw [if_neg hjk]
      split
      · rename_i hi
        have := h.up i svs.length hi (Nat.le_refl _)
        omega
      · exact Nat.le_refl _

set_option maxHeartbeats 1000000 in
theorem toPartSS_l (v : Value) (os : List (List Pt)) (w : World) (h : SliceOps w.heap.size w v os) (hl : os.length ≤ 4194304) (hs : ∀ o ∈ os, o.length ≤ 1048576 ∧ ∀ p ∈ o, p.signs.length ≤ 1048576) :
    Calls Try.prog 50 #[v] w fun e w' => ∃ v svs bd, e = .returned v ∧ OwnPP w.heap.size w'.heap.size w' v os svs bd ∧ Below w.heap.size w w' := by
  obtain ⟨i0, hi, hz0, hz1, hz2⟩ := info_parts partsSInfo
  obtain ⟨A, c, rfl, -, h⟩ := h
  have HSg : Hid (∀ o ∈ os, o.length ≤ 1048576 ∧ ∀ p ∈ o, p.signs.length ≤ 1048576) := hs
  clear hs
  go_enter Try.func50, Try.ntmps50
  go_wp2_with (at_make; refine wpList_make_full _ rfl (.tmp 6) (.tmp 6) 63 (by rfl) w.heap.size 25 i0 _ 1 Try.underlying63 hi hz0 hz1 .i64 .i64 _ _ os.length (by rfl) (by rfl) rfl rfl (by rw [hz2]; omega) (by unfold maxLen; omega) (Nat.le_refl _) ?_)
  intro w1 hown hg
  have hb1 : Below w.heap.size w w1 := (Below.refl _ _).grown hg (Nat.le_refl _) (by simp)
  have h1 := h.below hb1
  clear hi hz0 hz1 hz2 hg h
  obtain ⟨B, hB⟩ : ∃ B, B = w.heap.size := ⟨_, rfl⟩
  have HB := Lib.hid hB
  have hc : CopyingS B w w1 os [] (fun _ => w1.heap.size) := by
    subst hB
    refine ⟨?_, Nat.zero_le _, fun j hj => absurd hj (Nat.not_lt_zero _), fun _ _ _ _ => Nat.le_refl _, (hown.lt _ rfl).2, rfl, hb1⟩
    rw [List.nil_append, List.length_nil, Nat.sub_zero, ← toList_madeCells_one]
    simpa [Value.cells] using hown
  rw [← hB] at h1
  simp only [← hB]
  clear hB hown hb1
  go_wp2_with (fail)
  go_loopw [4] (fun i wr => ∃ (svs : List Value) (bd : Nat → Nat), i = .int .i64 svs.length ∧ CopyingS B w wr os svs bd ∧ OpsAt B wr A os) (fun i _ => os.length - (intOf i).toNat)
  case atStart => exact ⟨[], _, rfl, hc, h1⟩
  case round =>
    clear hc h1
    obtain ⟨svs, bd, rfl, hc, hr⟩ := hrel
    have hle := hc.le
    by_cases hlt : svs.length < os.length
    · obtain ⟨b, off, sv, rfl, hbB, c0, hs⟩ := hr svs.length hlt
      have hsz : B < wr.heap.size := by
        have h0 := hc.up 0 svs.length (Nat.zero_le _) (Nat.le_refl _)
        have h1 := hc.b0
        have h2 := hc.last
        omega
      have hsg := HSg.out (os.getD svs.length []) (by simp [List.getD, hlt])
      obtain ⟨hsg1, hsg2⟩ := hsg
      have Hsg := Lib.hid hsg2
      have hC := Lib.hid hc
      have Hr := Lib.hid hr
      have hst := fun sv ss w1 => Lib.hid (hc.step (w1 := w1) (sv := sv) (ss := ss) hlt)
      have hrow := Lib.hid hc.row
      clear hc hr hsg2
      generalize os.getD svs.length [] = o at c0 hs hsg1 Hsg hst
      have Hst := Lib.hid hst
      clear hst
      go_wp2_with (fail)
      refine (toPartS_l _ o _ (hs.mono (by omega)) (by omega) (fun p hp => Nat.le_trans (Hsg.out p hp) (by omega))).mono ?_
      rintro e w1 ⟨v1, ss, rfl, o1, b1⟩
      obtain ⟨A1, c1', rfl, -, -⟩ := o1.slice
      have hr1 := World.ownsRow.below hrow.out b1
      have d0 := hr1.cellAt svs.length (by omega)
      have hfz := hr1.frozenAt
      rw [List.getElem?_append_right (Nat.le_refl _), Nat.sub_self, List.getElem?_replicate, if_pos (by omega)] at d0
      have Hnew := Lib.hid ((Hst.out _ ss w1).out o1 b1)
      have Hb1 := Lib.hid b1
      clear o1 b1 hr1 c0 hs
      go_wp2_with (fail)
      go_roundw
      case rel => exact ⟨svs ++ [_], _, by simp, Hnew.out, Hr.out.below ((Hb1.out.mono (by omega)).setCell (by simp) _)⟩
      case measure => simp [intOf]; omega
    · have e : svs.length = os.length := by omega
      have hrow := hc.row
      rw [e, Nat.sub_self, List.replicate_zero, List.append_nil] at hrow
      have HP : OwnPP B wr.heap.size wr (.slice (some ⟨B, 0, none⟩) os.length os.length) os svs bd :=
        ⟨hrow, fun g hg => by injection hg with hg; subst hg; exact hc.b0, e, fun k hk => hc.each k (by omega), fun i j hij hj => hc.up i j hij (by omega), by rw [← e, hc.last]; exact Nat.le_refl _, Nat.le_of_lt hc.b0⟩
      have hold := hc.old
      have HE := Lib.hid e
      clear hc hrow hr e hle
      have hge : os.length ≤ svs.length := by rw [HE.out]; exact Nat.le_refl _
      go_wp2_with (fail)
      go_ret
      obtain rfl := HB.out
      exact ⟨_, svs, bd, rfl, HP, hold⟩
end Go.Proofs.Ytadhgjfiblepaaa
