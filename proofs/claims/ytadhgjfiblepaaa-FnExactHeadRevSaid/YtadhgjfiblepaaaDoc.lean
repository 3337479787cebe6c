/- Documents: the laws' helpers on slices of entries, of Seen, and on documents: sz, to, eq. Condition: at most 2^20 are counted. -/
import Derived.Test.YtadhgjfiblepaaaEntry
import Derived.Test.YtadhgjfiblepaaaPartss
namespace Go.Proofs.Ytadhgjfiblepaaa
open Go.RowKit
set_option maxRecDepth 100000

abbrev Et := Int × Int × List Pt
abbrev Se := Int × Int × Int
/-- From A on lie entries that read as es, in blocks below B. -/
def EntriesAt (B : Nat) (w : World) (A : Option Addr) (es : List Et) : Prop :=
  ∀ k, k < es.length → ∃ b off sv, A = some ⟨b, off, none⟩ ∧ b < B ∧ w.cell? ⟨b, off + k * 3, none⟩ = some (.int .i64 (es.getD k (0, 0, [])).1) ∧ w.cell? ⟨b, off + k * 3 + 1, none⟩ = some (.int .i64 (es.getD k (0, 0, [])).2.1) ∧
    w.cell? ⟨b, off + k * 3 + 2, none⟩ = some sv ∧ SliceParts B w sv (es.getD k (0, 0, [])).2.2
def SliceEntries (B : Nat) (w : World) (v : Value) (es : List Et) : Prop := ∃ A c, v = .slice A es.length c ∧ (es.length ≤ c ∧ c ≤ maxLen) ∧ EntriesAt B w A es
theorem EntriesAt.below {B : Nat} {w w' : World} {A : Option Addr} {es : List Et} (h : EntriesAt B w A es) (hb : Below B w w') : EntriesAt B w' A es := fun k hk => by
  obtain ⟨b, off, sv, hA, hbB, c0, c1, c2, hs⟩ := h k hk
  exact ⟨b, off, sv, hA, hbB, (hb.cell hbB).trans c0, (hb.cell hbB).trans c1, (hb.cell hbB).trans c2, hs.below hb⟩
theorem EntriesAt.mono {B B' : Nat} {w : World} {A : Option Addr} {es : List Et} (h : EntriesAt B w A es) (hb : B ≤ B') : EntriesAt B' w A es := fun k hk => by
  obtain ⟨b, off, sv, hA, hbB, c0, c1, c2, hs⟩ := h k hk
  exact ⟨b, off, sv, hA, by omega, c0, c1, c2, hs.mono hb⟩
theorem SliceEntries.below {B : Nat} {w w' : World} {v : Value} {es : List Et} (h : SliceEntries B w v es) (hb : Below B w w') : SliceEntries B w' v es := by
  obtain ⟨A, c, hv, hc, hi⟩ := h
  exact ⟨A, c, hv, hc, hi.below hb⟩
theorem SliceEntries.mono {B B' : Nat} {w : World} {v : Value} {es : List Et} (h : SliceEntries B w v es) (hb : B ≤ B') : SliceEntries B' w v es := by
  obtain ⟨A, c, hv, hc, hi⟩ := h
  exact ⟨A, c, hv, hc, hi.mono hb⟩
theorem SliceEntries.len {B : Nat} {w : World} {v : Value} {es : List Et} (h : SliceEntries B w v es) : es.length ≤ maxLen := by
  obtain ⟨A, c, _, hc, _⟩ := h
  omega
theorem SliceEntries.later {w w' : World} {v : Value} {es : List Et} (h : SliceEntries w.heap.size w v es) (hb : Below w.heap.size w w') : SliceEntries w'.heap.size w' v es := (h.below hb).mono hb.size
/-- And Seen: three numbers each. -/
def SeenAt (B : Nat) (w : World) (A : Option Addr) (ss : List Se) : Prop :=
  ∀ k, k < ss.length → ∃ b off, A = some ⟨b, off, none⟩ ∧ b < B ∧ w.cell? ⟨b, off + k * 3, none⟩ = some (.int .i64 (ss.getD k (0, 0, 0)).1) ∧ w.cell? ⟨b, off + k * 3 + 1, none⟩ = some (.int .i64 (ss.getD k (0, 0, 0)).2.1) ∧
    w.cell? ⟨b, off + k * 3 + 2, none⟩ = some (.int .i64 (ss.getD k (0, 0, 0)).2.2)
def SliceSeen (B : Nat) (w : World) (v : Value) (ss : List Se) : Prop := ∃ A c, v = .slice A ss.length c ∧ (ss.length ≤ c ∧ c ≤ maxLen) ∧ SeenAt B w A ss
theorem SeenAt.below {B : Nat} {w w' : World} {A : Option Addr} {ss : List Se} (h : SeenAt B w A ss) (hb : Below B w w') : SeenAt B w' A ss := fun k hk => by
  obtain ⟨b, off, hA, hbB, c0, c1, c2⟩ := h k hk
  exact ⟨b, off, hA, hbB, (hb.cell hbB).trans c0, (hb.cell hbB).trans c1, (hb.cell hbB).trans c2⟩
theorem SeenAt.mono {B B' : Nat} {w : World} {A : Option Addr} {ss : List Se} (h : SeenAt B w A ss) (hb : B ≤ B') : SeenAt B' w A ss := fun k hk => by
  obtain ⟨b, off, hA, hbB, c0, c1, c2⟩ := h k hk
  exact ⟨b, off, hA, by omega, c0, c1, c2⟩
theorem SliceSeen.below {B : Nat} {w w' : World} {v : Value} {ss : List Se} (h : SliceSeen B w v ss) (hb : Below B w w') : SliceSeen B w' v ss := by
  obtain ⟨A, c, hv, hc, hi⟩ := h
  exact ⟨A, c, hv, hc, hi.below hb⟩
theorem SliceSeen.mono {B B' : Nat} {w : World} {v : Value} {ss : List Se} (h : SliceSeen B w v ss) (hb : B ≤ B') : SliceSeen B' w v ss := by
  obtain ⟨A, c, hv, hc, hi⟩ := h
  exact ⟨A, c, hv, hc, hi.mono hb⟩
theorem SliceSeen.len {B : Nat} {w : World} {v : Value} {ss : List Se} (h : SliceSeen B w v ss) : ss.length ≤ maxLen := by
  obtain ⟨A, c, _, hc, _⟩ := h
  omega
theorem SliceSeen.later {w w' : World} {v : Value} {ss : List Se} (h : SliceSeen w.heap.size w v ss) (hb : Below w.heap.size w w') : SliceSeen w'.heap.size w' v ss := (h.below hb).mono hb.size

set_option maxHeartbeats 1000000 in
theorem szEntryS_l (v : Value) (es : List Et) (left : Int) (w : World) (h : SliceEntries w.heap.size w v es) (h0 : 0 ≤ left) (h1 : left ≤ 1048576) :
    Calls Try.prog 66 #[v, .int .i64 left] w fun e w' => e = .returned (.int .i64 (Pl.szSS (es.map (·.2.2)) left)) ∧ Below w.heap.size w w' := by
  have hl := h.len
  unfold maxLen at hl
  obtain ⟨A, c, rfl, -, h⟩ := h
  by_cases hlt : left < es.length
  · go_enter Try.func66, Try.ntmps66
    go_wp2_with (fail)
    go_ret
    exact ⟨ret_int (by rw [Pl.szSS, if_pos (by simpa using hlt)]), Below.refl _ _⟩
  · have hle : (es.length : Int) ≤ left := by omega
    obtain ⟨B, hB⟩ : ∃ B, B = w.heap.size := ⟨_, rfl⟩
    have HB := Lib.hid hB
    rw [← hB] at h
    clear hB hlt
    go_enter Try.func66, Try.ntmps66
    go_wp2_with (fail)
    go_loopw [1, 5] (fun l i wr => ∃ (k : Nat) (r : Int), k ≤ es.length ∧ i = .int .i64 k ∧ l = .int .i64 r ∧ 0 ≤ r ∧ r ≤ 1048576 ∧ Hid (Pl.szSS (es.map (·.2.2)) left = Pl.szz ((es.map (·.2.2)).drop k) r) ∧ Below B w wr ∧ B ≤ wr.heap.size ∧ EntriesAt B wr A es) (fun _ i _ => es.length - (intOf i).toNat)
    case atStart => exact ⟨0, _, Nat.zero_le _, rfl, rfl, by omega, by omega, by show _ = _; rw [Pl.szSS, if_neg (by simp; omega)]; simp, Below.refl _ _, by rw [HB.out]; exact Nat.le_refl _, h⟩
    case round =>
      clear h
      obtain ⟨k, r, hk, rfl, rfl, hr0, hr1, hsz, hb, hBs, hr⟩ := hrel
      by_cases hkl : k < es.length
      · obtain ⟨b, off, sv, rfl, hbB, c0, c1, c2, hs⟩ := hr k hkl
        have Hr := Lib.hid hr
        have Hb := Lib.hid hb
        have hkm : k < (es.map (·.2.2)).length := by simpa using hkl
        have hgm : (es.map (·.2.2)).getD k [] = (es.getD k (0, 0, [])).2.2 := by simp [List.getD, hkl]
        clear hr hb
        by_cases hlt : Pl.szS (es.getD k (0, 0, [])).2.2 r < 0
        · have HS := Lib.hid (hsz.out.trans (szz_stop hkm r (by rw [hgm]; exact hlt)))
          clear hgm hkm
          generalize es.getD k (0, 0, []) = o at c0 c1 c2 hs hlt
          go_wp2_with (fail)
          refine (szEntry_l _ o r _ ⟨sv, rfl, hs.mono hBs⟩ hr0 hr1).mono ?_
          rintro e w1 ⟨rfl, b1⟩
          rw [if_pos hlt]
          go_wp2_with (fail)
          go_ret
          exact ⟨ret_int HS.out.symm, by rw [← HB.out]; exact Hb.out.trans (b1.mono hBs)⟩
        · have HS := Lib.hid (hsz.out.trans (szz_step hkm r (by rw [hgm]; exact hlt)))
          rw [hgm] at HS
          clear hgm hkm
          generalize es.getD k (0, 0, []) = o at c0 c1 c2 hs hlt HS
          have hle' : 0 ≤ Pl.szS o.2.2 r := by omega
          have hu := szS_le (ps := o.2.2) (left := r) hr0
          have HNL := Lib.hid hlt
          clear hlt
          go_wp2_with (fail)
          refine (szEntry_l _ o r _ ⟨sv, rfl, hs.mono hBs⟩ hr0 hr1).mono ?_
          rintro e w1 ⟨rfl, b1⟩
          rw [if_neg (by have := HNL.out; omega)]
          go_wp2_with (fail)
          go_roundw
          case rel => exact ⟨k + 1, Pl.szS o.2.2 r, by omega, by go_num, rfl, by omega, by omega, HS.out, Hb.out.trans (b1.mono hBs), Nat.le_trans hBs b1.size, Hr.out.below (b1.mono hBs)⟩
          case measure => simp [intOf]; omega
      · have e : (es.map (·.2.2)).drop k = [] := List.drop_eq_nil_of_le (by simp; omega)
        rw [e] at hsz
        clear e hr
        go_wp2_with (fail)
        go_ret
        exact ⟨ret_int hsz.out.symm, by rw [← HB.out]; exact hb⟩
theorem szSeenS_l (A : Option Addr) (c n : Nat) (left : Int) (w : World) (h0 : 0 ≤ left) (h1 : left ≤ 1048576) (hn : n ≤ maxLen) :
    Calls Try.prog 67 #[.slice A n c, .int .i64 left] w fun e w' => e = .returned (.int .i64 (if left < n then -1 else left - n)) ∧ w = w' := by
  unfold maxLen at hn
  by_cases h : left < n
  · rw [if_pos h]
    go_enter Try.func67, Try.ntmps67
    go_wp2_with (fail)
    go_ret
    exact ⟨rfl, rfl⟩
  · rw [if_neg h]
    have h2 : (n : Int) ≤ left := by omega
    go_enter Try.func67, Try.ntmps67
    go_wp2_with (fail)
    go_ret
    exact ⟨ret_int (by rfl), rfl⟩
set_option maxHeartbeats 1000000 in
theorem eqEntryS_b (v v' : Value) (es : List Et) (w : World) (h : SliceEntries w.heap.size w v es) (h' : SliceEntries w.heap.size w v' es) :
    Calls Try.prog 70 #[v, v'] w fun e w' => e = .returned (.bool true) ∧ Below w.heap.size w w' := by
  have hl := h.len
  unfold maxLen at hl
  obtain ⟨A, c, rfl, -, h⟩ := h
  obtain ⟨A', c', rfl, -, h'⟩ := h'
  obtain ⟨B, hB⟩ : ∃ B, B = w.heap.size := ⟨_, rfl⟩
  have HB := Lib.hid hB
  rw [← hB] at h h'
  clear hB
  go_enter Try.func70, Try.ntmps70
  go_wp2_with (fail)
  go_loopw [5] (fun i wr => ∃ k : Nat, k ≤ es.length ∧ i = .int .i64 k ∧ Below B w wr ∧ B ≤ wr.heap.size ∧ EntriesAt B wr A es ∧ EntriesAt B wr A' es) (fun i _ => es.length - (intOf i).toNat)
  case atStart => exact ⟨0, Nat.zero_le _, rfl, Below.refl _ _, by rw [HB.out]; exact Nat.le_refl _, h, h'⟩
  case round =>
    clear h h'
    obtain ⟨k, hk, rfl, hb, hBs, hr, hr'⟩ := hrel
    by_cases hlt : k < es.length
    · obtain ⟨b, off, sv, rfl, hbB, c0, c1, c2, hs⟩ := hr k hlt
      obtain ⟨b', off', sv', rfl, hbB', c0', c1', c2', hs'⟩ := hr' k hlt
      have Hr := Lib.hid hr
      have Hr' := Lib.hid hr'
      have Hb := Lib.hid hb
      clear hr hr' hb
      generalize es.getD k (0, 0, []) = o at c0 c1 c2 hs c0' c1' c2' hs'
      go_wp2_with (fail)
      go_still_tail 8, (by kernel_rfl)
      go_wp2_with (fail)
      refine (eqEntry_b _ _ o wr.drew ⟨sv, rfl, hs.mono hBs⟩ ⟨sv', rfl, hs'.mono hBs⟩).mono ?_
      rintro e w1 ⟨rfl, b1⟩
      have hb1 : Below B wr w1 := (Below.refl B wr).drew.trans (b1.mono hBs)
      go_wp2_with (fail)
      go_roundw
      case rel => exact ⟨k + 1, by omega, by go_num, Hb.out.trans hb1, Nat.le_trans hBs hb1.size, Hr.out.below hb1, Hr'.out.below hb1⟩
      case measure => simp [intOf]; omega
    · clear hr hr'
      go_wp2_with (fail)
      go_ret
      exact ⟨rfl, by rw [← HB.out]; exact hb⟩
theorem eqSeen_b (a b c : Int) (w : World) : Calls Try.prog 81 #[.agg #[.int .i64 a, .int .i64 b, .int .i64 c], .agg #[.int .i64 a, .int .i64 b, .int .i64 c]] w fun e w' => e = .returned (.bool true) ∧ Below w.heap.size w w' := by
  go_enter Try.func81, Try.ntmps81
  go_wp2_with (fail)
  go_ret
  exact ⟨rfl, ((Below.refl _ _).alloc (Nat.le_refl _) _).alloc (by simp) _⟩
set_option maxHeartbeats 1000000 in
theorem eqSeenS_b (v v' : Value) (ss : List Se) (w : World) (h : SliceSeen w.heap.size w v ss) (h' : SliceSeen w.heap.size w v' ss) :
    Calls Try.prog 71 #[v, v'] w fun e w' => e = .returned (.bool true) ∧ Below w.heap.size w w' := by
  have hl := h.len
  unfold maxLen at hl
  obtain ⟨A, c, rfl, -, h⟩ := h
  obtain ⟨A', c', rfl, -, h'⟩ := h'
  obtain ⟨B, hB⟩ : ∃ B, B = w.heap.size := ⟨_, rfl⟩
  have HB := Lib.hid hB
  rw [← hB] at h h'
  clear hB
  go_enter Try.func71, Try.ntmps71
  go_wp2_with (fail)
  go_loopw [5] (fun i wr => ∃ k : Nat, k ≤ ss.length ∧ i = .int .i64 k ∧ Below B w wr ∧ B ≤ wr.heap.size ∧ SeenAt B wr A ss ∧ SeenAt B wr A' ss) (fun i _ => ss.length - (intOf i).toNat)
  case atStart => exact ⟨0, Nat.zero_le _, rfl, Below.refl _ _, by rw [HB.out]; exact Nat.le_refl _, h, h'⟩
  case round =>
    clear h h'
    obtain ⟨k, hk, rfl, hb, hBs, hr, hr'⟩ := hrel
    by_cases hlt : k < ss.length
    · obtain ⟨b, off, rfl, hbB, c0, c1, c2⟩ := hr k hlt
      obtain ⟨b', off', rfl, hbB', c0', c1', c2'⟩ := hr' k hlt
      have Hr := Lib.hid hr
      have Hr' := Lib.hid hr'
      have Hb := Lib.hid hb
      clear hr hr' hb
      generalize ss.getD k (0, 0, 0) = o at c0 c1 c2 c0' c1' c2'
      go_wp2_with (fail)
      go_still_tail 8, (by kernel_rfl)
      go_wp2_with (fail)
      refine (eqSeen_b o.1 o.2.1 o.2.2 wr.drew).mono ?_
      rintro e w1 ⟨rfl, b1⟩
      have hb1 : Below B wr w1 := (Below.refl B wr).drew.trans (b1.mono hBs)
      go_wp2_with (fail)
      go_roundw
      case rel => exact ⟨k + 1, by omega, by go_num, Hb.out.trans hb1, Nat.le_trans hBs hb1.size, Hr.out.below hb1, Hr'.out.below hb1⟩
      case measure => simp [intOf]; omega
    · clear hr hr'
      go_wp2_with (fail)
      go_ret
      exact ⟨rfl, by rw [← HB.out]; exact hb⟩
end Go.Proofs.Ytadhgjfiblepaaa
