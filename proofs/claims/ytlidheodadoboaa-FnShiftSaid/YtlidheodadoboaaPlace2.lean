/- Contracts of PutAt and DropAt: the walks. Condition: none longer than any slice can be. -/
import Derived.Test.YtlidheodadoboaaPlace
namespace Go.Proofs.Ytlidheodadoboaa
open Go.RowKit
set_option maxRecDepth 100000

theorem wf_i64 {a : Int} (h : (Lit.int .i64 a).wf = true) : -9223372036854775808 ≤ a ∧ a ≤ 9223372036854775807 := by
  simpa [Lit.wf, IntKind.min, IntKind.max, IntKind.bits, IntKind.signed] using h
theorem OwnP.lower {lo lo' hi : Nat} {w : World} {v : Value} {ps : List Pt} {svs : List Value} (h : OwnP lo hi w v ps svs) (hl : lo' ≤ lo) : OwnP lo' hi w v ps svs :=
  ⟨World.ownsRow.base h.row fun g hg => Nat.le_trans hl (h.row.lt g hg).1, h.top, h.len, fun k hk => ⟨World.ownsRow.base (h.each k hk).1 fun g hg => Nat.le_trans hl ((h.each k hk).1.lt g hg).1, (h.each k hk).2⟩, h.apart⟩
/-- A literal of parts. -/
theorem parts_lit {B : Nat} {w : World} {g : Nat} {ps : List Pt} {svs : List Value} (hb : w.heap[g]? = some (.cells (cellsP ps svs).toArray 65 (0, 0))) (hg : g < B) (hl : svs.length = ps.length)
    (hs : ∀ k, k < ps.length → SliceInts B w (svs.getD k undef) (ps.getD k ⟨0, 0, []⟩).signs) (hm : ps.length ≤ maxLen) : SliceParts B w (.slice (some ⟨g, 0, none⟩) ps.length ps.length) ps := by
  refine ⟨_, _, rfl, ⟨Nat.le_refl _, hm⟩, fun k hk => ?_⟩
  obtain ⟨a0, a1, a2⟩ := cellsP_at ps svs k hl hk
  refine ⟨g, 0, _, rfl, hg, ?_, ?_, ?_, hs k hk⟩
  · rw [cell_of_row w g _ _ _ _ hb]; simpa using a0
  · rw [cell_of_row w g _ _ _ _ hb]; simpa using a1
  · rw [cell_of_row w g _ _ _ _ hb]; simpa using a2
theorem sliceInts_nil (B : Nat) (w : World) : SliceInts B w (.slice none 0 0) [] := ⟨none, 0, rfl, ⟨Nat.le_refl _, Nat.zero_le _⟩, fun _ hk => absurd hk (Nat.not_lt_zero _)⟩
theorem place_no {n a many : Int} {l : List Int} (h : Pl.placeOk n a l many = false) : Pl.place n a l many = [] := by rw [Pl.place, if_neg (by rw [h]; decide)]
theorem place_yes {n a many : Int} {l : List Int} (h : Pl.placeOk n a l many = true) : Pl.place n a l many = Pl.norm (Pl.placeO n a l many) := by rw [Pl.place, if_pos h]
theorem place_small (n a : Int) (l : List Int) (many k : Int) (h0 : 0 ≤ k) (h1 : k ≤ 70368744177664) : Pl.small (Pl.place n a l many) k := by
  rw [Pl.place]
  split
  · rename_i h
    have := (Pl.placeOk_iff n a l many).1 h
    exact opOk_small this.2.2.2.2.2 h0 h1
  · exact ⟨h0, by simp, by simp, h1⟩

set_option maxHeartbeats 4000000 in
set_option maxRecDepth 100000 in
theorem l06Op_s (n a : Int) (v : Value) (l : List Int) (many : Int) (w : World) (hn : n ≤ 9223372036854775807) (hv : SliceInts w.heap.size w v l) :
    Calls Try.prog 65 #[.int .i64 n, .int .i64 a, v, .int .i64 many] w fun e w' => ∃ v' svs, e = .returned (.tuple #[v', .bool (Pl.placeOk n a l many)]) ∧ OwnP w.heap.size w'.heap.size w' v' (Pl.place n a l many) svs ∧ Below w.heap.size w w' := by
  have hlen := hv.len
  unfold maxLen at hlen
  have HV := Lib.hid hv
  obtain ⟨A, c, rfl, -, -⟩ := hv
  have HI := Lib.hid (Pl.placeOk_iff n a l many)
  have HL := Lib.hid hlen
  by_cases h1 : 0 ≤ n ∧ n ≤ 200
  rotate_left
  · have H1 := Lib.hid h1
    have hno : Pl.placeOk n a l many = false := by rw [Bool.eq_false_iff]; intro hh; have := HI.out.1 hh; exact h1 this.1
    have HN := Lib.hid hno
    have HP := Lib.hid (place_no hno)
    clear hno h1
    go_enter Try.func65, Try.ntmps65
    go_wp2_with (fail)
    refine (l01In_no H1.out _).mono ?_
    rintro e w' ⟨rfl, rfl⟩
    go_wp2_with (fail)
    go_ret2
    exact ⟨_, _, by rw [HN.out]; rfl, by rw [HP.out]; exact OwnP.nil _ _ _, Below.refl _ _⟩
  have H1 := Lib.hid h1
  by_cases h2 : 0 ≤ a ∧ a ≤ n
  rotate_left
  · have H2 := Lib.hid h2
    have hno : Pl.placeOk n a l many = false := by rw [Bool.eq_false_iff]; intro hh; have := HI.out.1 hh; exact h2 this.2.1
    have HN := Lib.hid hno
    have HP := Lib.hid (place_no hno)
    clear hno h2
    go_enter Try.func65, Try.ntmps65
    go_wp2_with (fail)
    refine (l01In_yes H1.out _).mono ?_
    rintro e w' ⟨rfl, rfl⟩
    go_wp2_with (fail)
    refine (l01In_no H2.out _).mono ?_
    rintro e w' ⟨rfl, rfl⟩
    go_wp2_with (fail)
    go_ret2
    exact ⟨_, _, by rw [HN.out]; rfl, by rw [HP.out]; exact OwnP.nil _ _ _, Below.refl _ _⟩
  have H2 := Lib.hid h2
  by_cases h3 : 0 ≤ many ∧ many ≤ n - a
  rotate_left
  · have H3 := Lib.hid h3
    have hno : Pl.placeOk n a l many = false := by rw [Bool.eq_false_iff]; intro hh; have := HI.out.1 hh; exact h3 this.2.2.1
    have HN := Lib.hid hno
    have HP := Lib.hid (place_no hno)
    clear hno h3
    go_enter Try.func65, Try.ntmps65
    go_wp2_with (fail)
    refine (l01In_yes H1.out _).mono ?_
    rintro e w' ⟨rfl, rfl⟩
    go_wp2_with (fail)
    refine (l01In_yes H2.out _).mono ?_
    rintro e w' ⟨rfl, rfl⟩
    go_wp2_with (fail)
    refine (l01In_no H3.out _).mono ?_
    rintro e w' ⟨rfl, rfl⟩
    go_wp2_with (fail)
    go_ret2
    exact ⟨_, _, by rw [HN.out]; rfl, by rw [HP.out]; exact OwnP.nil _ _ _, Below.refl _ _⟩
  have H3 := Lib.hid h3
  by_cases h4 : Pl.signsOk l = true
  rotate_left
  · have H4 : Hid (Pl.signsOk l = false) := by show _ = _; simpa using h4
    have hno : Pl.placeOk n a l many = false := by rw [Bool.eq_false_iff]; intro hh; have := HI.out.1 hh; exact h4 this.2.2.2.1
    have HN := Lib.hid hno
    have HP := Lib.hid (place_no hno)
    clear hno h4
    go_enter Try.func65, Try.ntmps65
    go_wp2_with (fail)
    refine (l01In_yes H1.out _).mono ?_
    rintro e w' ⟨rfl, rfl⟩
    go_wp2_with (fail)
    refine (l01In_yes H2.out _).mono ?_
    rintro e w' ⟨rfl, rfl⟩
    go_wp2_with (fail)
    refine (l01In_yes H3.out _).mono ?_
    rintro e w' ⟨rfl, rfl⟩
    go_wp2_with (fail)
    refine (signsOk_s _ _ l _ HV.out (by unfold maxLen; exact HL.out)).mono ?_
    rintro e w' ⟨rfl, rfl⟩
    rw [H4.out]
    go_wp2_with (fail)
    go_ret2
    exact ⟨_, _, by rw [HN.out]; rfl, by rw [HP.out]; exact OwnP.nil _ _ _, Below.refl _ _⟩
  have H4 := Lib.hid h4
  clear h4
  by_cases h5 : l.length ≤ 200
  rotate_left
  · have hno : Pl.placeOk n a l many = false := by rw [Bool.eq_false_iff]; intro hh; have := HI.out.1 hh; exact h5 this.2.2.2.2.1
    have HN := Lib.hid hno
    have HP := Lib.hid (place_no hno)
    clear hno
    go_enter Try.func65, Try.ntmps65
    go_wp2_with (fail)
    refine (l01In_yes H1.out _).mono ?_
    rintro e w' ⟨rfl, rfl⟩
    go_wp2_with (fail)
    refine (l01In_yes H2.out _).mono ?_
    rintro e w' ⟨rfl, rfl⟩
    go_wp2_with (fail)
    refine (l01In_yes H3.out _).mono ?_
    rintro e w' ⟨rfl, rfl⟩
    go_wp2_with (fail)
    refine (signsOk_s _ _ l _ HV.out (by unfold maxLen; exact HL.out)).mono ?_
    rintro e w' ⟨rfl, rfl⟩
    rw [H4.out]
    go_wp2_with (fail)
    go_ret2
    exact ⟨_, _, by rw [HN.out]; rfl, by rw [HP.out]; exact OwnP.nil _ _ _, Below.refl _ _⟩
  obtain ⟨n0, n1⟩ := h1
  obtain ⟨a0, a1⟩ := h2
  obtain ⟨m0, m1⟩ := h3
  have st0 : ∀ w : World, SB w.heap.size w.heap.size (w.alloc (.cells #[.slice none 0 0, .slice none 0 0, .int .i64 0] 64)) Pl.Bd.init := fun w => SB.new
  have hb0 : Below w.heap.size w (w.alloc (.cells #[.slice none 0 0, .slice none 0 0, .int .i64 0] 64)) := (Below.refl _ _).alloc (Nat.le_refl _) _
  have HB0 := Lib.hid hb0
  have ST0 := Lib.hid (st0 w)
  have l1 : (Pl.bKeep Pl.Bd.init a).le 1000 := (Pl.bKeep_le (k := 200) Pl.Bd.le_init a0 (by omega) (by omega)).mono (by omega)
  have l2 : (Pl.bPut (Pl.bKeep Pl.Bd.init a) l).le 2000 := (Pl.bPut_le (k := 200) l1 h5).mono (by omega)
  have l3 : (Pl.bDrop (Pl.bPut (Pl.bKeep Pl.Bd.init a) l) many).le 3000 := (Pl.bDrop_le (k := 200) l2 m0 (by omega)).mono (by omega)
  have l4 : (Pl.bKeep (Pl.bDrop (Pl.bPut (Pl.bKeep Pl.Bd.init a) l) many) (n - a - many)).le 4000 := (Pl.bKeep_le (k := 200) l3 (by omega) (by omega) (by omega)).mono (by omega)
  have e4 : Pl.flushL (Pl.bKeep (Pl.bDrop (Pl.bPut (Pl.bKeep Pl.Bd.init a) l) many) (n - a - many)) = Pl.norm (Pl.placeO n a l many) := by
    simp [Pl.norm, Pl.placeO, Pl.bPart]
  have q1 := Lib.hid l1
  have q2 := Lib.hid l2
  have q3 := Lib.hid l3
  have q4 := Lib.hid l4
  have E4 := Lib.hid e4
  clear l1 l2 l3 l4 e4 hb0 st0
  go_enter Try.func65, Try.ntmps65
  go_wp2_with (fail)
  refine (l01In_yes H1.out _).mono ?_
  rintro e w' ⟨rfl, rfl⟩
  go_wp2_with (fail)
  refine (l01In_yes H2.out _).mono ?_
  rintro e w' ⟨rfl, rfl⟩
  go_wp2_with (fail)
  refine (l01In_yes H3.out _).mono ?_
  rintro e w' ⟨rfl, rfl⟩
  go_wp2_with (fail)
  refine (signsOk_s _ _ l _ HV.out (by unfold maxLen; exact HL.out)).mono ?_
  rintro e w' ⟨rfl, rfl⟩
  rw [H4.out]
  go_wp2_with (fail)
  refine (keep_sb w.heap.size w.heap.size _ _ a 0 ST0.out (Nat.le_refl _) (by simp) Pl.Bd.le_init (by omega) a0 (by omega)).mono ?_
  rintro e w1 ⟨rfl, s1, b1⟩
  have S1 := Lib.hid s1
  have B1 := Lib.hid (HB0.out.trans b1)
  clear s1 b1
  go_wp2_with (fail)
  refine (put_sb w.heap.size w.heap.size _ _ _ l S1.out ((HV.out.below B1.out).mono B1.out.size) (Nat.le_refl _) B1.out.size (Nat.le_trans q1.out.put (by omega)) (by omega)).mono ?_
  rintro e w2 ⟨rfl, s2, b2⟩
  have S2 := Lib.hid s2
  have B2 := Lib.hid (B1.out.trans b2)
  clear s2 b2
  go_wp2_with (fail)
  refine (drop_sb w.heap.size w.heap.size _ _ many S2.out (Nat.le_refl _) B2.out.size q2.out.d0 (by have := q2.out.dm; omega) m0 (by omega)).mono ?_
  rintro e w3 ⟨rfl, s3, b3⟩
  have S3 := Lib.hid s3
  have B3 := Lib.hid (B2.out.trans b3)
  clear s3 b3
  go_wp2_with (fail)
  refine (keep_sb w.heap.size w.heap.size _ _ (n - a - many) 3000 S3.out (Nat.le_refl _) B3.out.size q3.out (by omega) (by omega) (by omega)).mono ?_
  rintro e w4 ⟨rfl, s4, b4⟩
  have S4 := Lib.hid s4
  have B4 := Lib.hid (B3.out.trans b4)
  clear s4 b4
  go_wp2_with (fail)
  refine (done_sb w.heap.size w.heap.size _ _ 4000 S4.out (Nat.le_refl _) B4.out.size q4.out (by omega)).mono ?_
  rintro e w5 ⟨v5, svs, rfl, o5, b5⟩
  have o5' : OwnP w.heap.size w5.heap.size w5 v5 (Pl.norm (Pl.placeO n a l many)) svs := by rw [← E4.out]; exact o5
  obtain ⟨A5, c5, rfl⟩ := own_shape o5'.row
  have O5 := Lib.hid o5'
  have B5 := Lib.hid (B4.out.trans b5)
  clear o5 o5' b5
  by_cases h6 : Pl.opOk (Pl.norm (Pl.placeO n a l many)) = true
  · have hyes : Pl.placeOk n a l many = true := HI.out.2 ⟨⟨n0, n1⟩, ⟨a0, a1⟩, ⟨m0, m1⟩, H4.out, h5, h6⟩
    have HN := Lib.hid hyes
    have HP := Lib.hid (place_yes hyes)
    have H6 := Lib.hid h6
    clear hyes h6
    go_wp2_with (fail)
    refine (opOk_s _ _ _ O5.out.slice).mono ?_
    rintro e w6 ⟨rfl, b6⟩
    rw [H6.out]
    have B6 := Lib.hid b6
    clear b6
    go_wp2_with (fail)
    go_ret2
    exact ⟨_, svs, by rw [HN.out]; rfl, by rw [HP.out]; exact (O5.out.below B6.out).upto B6.out.size, B5.out.trans (B6.out.mono B5.out.size)⟩
  · have hno : Pl.placeOk n a l many = false := by rw [Bool.eq_false_iff]; intro hh; exact h6 (HI.out.1 hh).2.2.2.2.2
    have HN := Lib.hid hno
    have HP := Lib.hid (place_no hno)
    have H6 : Hid (Pl.opOk (Pl.norm (Pl.placeO n a l many)) = false) := by show _ = _; simpa using h6
    clear hno h6
    go_wp2_with (fail)
    refine (opOk_s _ _ _ O5.out.slice).mono ?_
    rintro e w6 ⟨rfl, b6⟩
    rw [H6.out]
    have B6 := Lib.hid b6
    clear b6
    go_wp2_with (fail)
    go_ret2
    exact ⟨_, _, by rw [HN.out]; rfl, by rw [HP.out]; exact OwnP.nil _ _ _, B5.out.trans (B6.out.mono B5.out.size)⟩
set_option maxHeartbeats 1000000 in
theorem putAt_s (n a : Int) (v : Value) (l : List Int) (w : World) (hn : n ≤ 9223372036854775807) (hv : SliceInts w.heap.size w v l) :
    Calls Try.prog 30 #[.int .i64 n, .int .i64 a, v] w fun e w' => ∃ v' svs, e = .returned (.tuple #[v', .bool (Pl.placeOk n a l 0)]) ∧ OwnP w.heap.size w'.heap.size w' v' (Pl.place n a l 0) svs ∧ Below w.heap.size w w' := by
  have HV := Lib.hid hv
  obtain ⟨A, c, rfl, -, -⟩ := hv
  go_enter Try.func30, Try.ntmps30
  go_wp2_with (fail)
  refine (l06Op_s n a _ l 0 _ hn HV.out).mono ?_
  rintro e w1 ⟨v1, svs, rfl, o1, b1⟩
  obtain ⟨A1, c1, rfl⟩ := own_shape o1.row
  have O1 := Lib.hid o1
  have B1 := Lib.hid b1
  clear o1 b1
  go_wp2_with (fail)
  go_ret2
  exact ⟨_, svs, rfl, O1.out, B1.out⟩
set_option maxHeartbeats 1000000 in
theorem dropAt_s (n a many : Int) (w : World) (hn : n ≤ 9223372036854775807) :
    Calls Try.prog 28 #[.int .i64 n, .int .i64 a, .int .i64 many] w fun e w' => ∃ v' svs, e = .returned (.tuple #[v', .bool (Pl.placeOk n a [] many)]) ∧ OwnP w.heap.size w'.heap.size w' v' (Pl.place n a [] many) svs ∧ Below w.heap.size w w' := by
  go_enter Try.func28, Try.ntmps28
  go_wp2_with (fail)
  refine (l06Op_s n a _ [] many _ hn (sliceInts_nil _ _)).mono ?_
  rintro e w1 ⟨v1, svs, rfl, o1, b1⟩
  obtain ⟨A1, c1, rfl⟩ := own_shape o1.row
  have O1 := Lib.hid o1
  have B1 := Lib.hid b1
  clear o1 b1
  go_wp2_with (fail)
  go_ret2
  exact ⟨_, svs, rfl, O1.out, B1.out⟩
set_option maxHeartbeats 1000000 in
theorem putAt_i (n a : Int) (v : Value) (l : List Int) (w : World) (hn : n ≤ 9223372036854775807) (hv : SliceInts w.heap.size w v l) :
    Calls Try.prog 31 #[.int .i64 n, .int .i64 a, v] w fun e w' => ∃ v' svs, e = .returned (.tuple #[v', .bool (Pl.placeOk n a l 0)]) ∧ OwnP w.heap.size w'.heap.size w' v' (Pl.place n a l 0) svs ∧ Below w.heap.size w w' := by
  have HV := Lib.hid hv
  obtain ⟨A, c, rfl, -, -⟩ := hv
  by_cases h : 0 ≤ a ∧ a ≤ n
  · have H := Lib.hid h
    obtain ⟨a0, a1⟩ := h
    have hb : Below w.heap.size w (w.alloc (.cells #[.int .i64 1, .int .i64 a, .slice none 0 0, .int .i64 2, .int .i64 0, .slice A l.length c, .int .i64 1, .int .i64 (n - a), .slice none 0 0] 65)) := (Below.refl _ _).alloc (Nat.le_refl _) _
    have hs := parts_lit (B := w.heap.size + 1) (ps := Pl.putO n a l) (svs := [.slice none 0 0, .slice A l.length c, .slice none 0 0]) (heap_new_at w (.cells #[.int .i64 1, .int .i64 a, .slice none 0 0, .int .i64 2, .int .i64 0, .slice A l.length c, .int .i64 1, .int .i64 (n - a), .slice none 0 0] 65) rfl) (Nat.lt_succ_self _) rfl (fun k hk => by
      simp only [Pl.putO, List.length_cons, List.length_nil] at hk
      match k, hk with
      | 0, _ => exact sliceInts_nil _ _
      | 1, _ => exact (HV.out.below hb).mono (Nat.le_succ _)
      | 2, _ => exact sliceInts_nil _ _) (by simp [Pl.putO]; unfold maxLen; omega)
    have HS := Lib.hid hs
    have HBb := Lib.hid hb
    clear hs hb
    have hok : Pl.placeOk n a l 0 = Pl.opOk (Pl.putO n a l) := by
      rw [Pl.placeOk, Pl.putO_ok, decide_eq_true (by exact ⟨a0, a1, Int.le_refl 0, by omega⟩), Bool.true_and]
    have hpl : Pl.place n a l 0 = Pl.opNorm (Pl.putO n a l) := by rw [Pl.place, hok, Pl.opNorm, Pl.putO_norm]
    have HOK := Lib.hid hok
    have HPL := Lib.hid hpl
    clear hok hpl
    go_enter Try.func31, Try.ntmps31
    go_wp2_with (fail)
    refine (within_yes H.out _).mono ?_
    rintro e w' ⟨rfl, rfl⟩
    go_wp2_with (fail)
    refine (normalOr_i _ (Pl.putO n a l) _ (by rw [World.size_alloc]; exact HS.out)).mono ?_
    rintro e w1 ⟨v1, svs, rfl, o1, b1⟩
    obtain ⟨A1, c1, rfl⟩ := own_shape o1.row
    have O1 := Lib.hid (o1.lower (lo' := w.heap.size) (by simp))
    have B1 := Lib.hid (HBb.out.trans (b1.mono (by simp)))
    clear o1 b1
    generalize Pl.opOk (Pl.putO n a l) = ok at *
    go_wp2_with (fail)
    go_ret2
    exact ⟨_, svs, by rw [HOK.out]; rfl, by rw [HPL.out]; exact O1.out, B1.out⟩
  · have hno : Pl.placeOk n a l 0 = false := by rw [Pl.placeOk, decide_eq_false (by omega), Bool.false_and]
    have HN := Lib.hid hno
    have HP := Lib.hid (place_no hno)
    have H := Lib.hid h
    clear hno h
    go_enter Try.func31, Try.ntmps31
    go_wp2_with (fail)
    refine (within_no H.out _).mono ?_
    rintro e w' ⟨rfl, rfl⟩
    go_wp2_with (fail)
    go_ret2
    exact ⟨_, _, by rw [HN.out]; rfl, by rw [HP.out]; exact OwnP.nil _ _ _, Below.refl _ _⟩
set_option maxHeartbeats 1000000 in
theorem dropAt_i (n a many : Int) (w : World) (hn : n ≤ 9223372036854775807) :
    Calls Try.prog 29 #[.int .i64 n, .int .i64 a, .int .i64 many] w fun e w' => ∃ v' svs, e = .returned (.tuple #[v', .bool (Pl.placeOk n a [] many)]) ∧ OwnP w.heap.size w'.heap.size w' v' (Pl.place n a [] many) svs ∧ Below w.heap.size w w' := by
  by_cases h : 0 ≤ a ∧ a ≤ n
  · have H := Lib.hid h
    obtain ⟨a0, a1⟩ := h
    by_cases h2 : 0 ≤ many ∧ many ≤ n - a
    · have H2 := Lib.hid h2
      obtain ⟨m0, m1⟩ := h2
      have hb : Below w.heap.size w (w.alloc (.cells #[.int .i64 1, .int .i64 a, .slice none 0 0, .int .i64 3, .int .i64 many, .slice none 0 0, .int .i64 1, .int .i64 (n - a - many), .slice none 0 0] 65)) := (Below.refl _ _).alloc (Nat.le_refl _) _
      have hs := parts_lit (B := w.heap.size + 1) (ps := Pl.dropO n a many) (svs := [.slice none 0 0, .slice none 0 0, .slice none 0 0]) (heap_new_at w (.cells #[.int .i64 1, .int .i64 a, .slice none 0 0, .int .i64 3, .int .i64 many, .slice none 0 0, .int .i64 1, .int .i64 (n - a - many), .slice none 0 0] 65) rfl) (Nat.lt_succ_self _) rfl (fun k hk => by
        simp only [Pl.dropO, List.length_cons, List.length_nil] at hk
        match k, hk with
        | 0, _ => exact sliceInts_nil _ _
        | 1, _ => exact sliceInts_nil _ _
        | 2, _ => exact sliceInts_nil _ _) (by simp [Pl.dropO]; unfold maxLen; omega)
      have HS := Lib.hid hs
      have HBb := Lib.hid hb
      clear hs hb
      have hok : Pl.placeOk n a [] many = Pl.opOk (Pl.dropO n a many) := by
        rw [Pl.placeOk, Pl.dropO_ok, decide_eq_true (by exact ⟨a0, a1, m0, m1⟩), Bool.true_and]
      have hpl : Pl.place n a [] many = Pl.opNorm (Pl.dropO n a many) := by rw [Pl.place, hok, Pl.opNorm, Pl.dropO_norm]
      have HOK := Lib.hid hok
      have HPL := Lib.hid hpl
      clear hok hpl
      go_enter Try.func29, Try.ntmps29
      go_wp2_with (fail)
      refine (within_yes H.out _).mono ?_
      rintro e w' ⟨rfl, rfl⟩
      go_wp2_with (fail)
      refine (within_yes H2.out _).mono ?_
      rintro e w' ⟨rfl, rfl⟩
      go_wp2_with (fail)
      refine (normalOr_i _ (Pl.dropO n a many) _ (by rw [World.size_alloc]; exact HS.out)).mono ?_
      rintro e w1 ⟨v1, svs, rfl, o1, b1⟩
      obtain ⟨A1, c1, rfl⟩ := own_shape o1.row
      have O1 := Lib.hid (o1.lower (lo' := w.heap.size) (by simp))
      have B1 := Lib.hid (HBb.out.trans (b1.mono (by simp)))
      clear o1 b1
      generalize Pl.opOk (Pl.dropO n a many) = ok at *
      go_wp2_with (fail)
      go_ret2
      exact ⟨_, svs, by rw [HOK.out]; rfl, by rw [HPL.out]; exact O1.out, B1.out⟩
    · have hno : Pl.placeOk n a [] many = false := by rw [Pl.placeOk, decide_eq_false (by omega), Bool.false_and]
      have HN := Lib.hid hno
      have HP := Lib.hid (place_no hno)
      have H2 := Lib.hid h2
      clear hno h2
      go_enter Try.func29, Try.ntmps29
      go_wp2_with (fail)
      refine (within_yes H.out _).mono ?_
      rintro e w' ⟨rfl, rfl⟩
      go_wp2_with (fail)
      refine (within_no H2.out _).mono ?_
      rintro e w' ⟨rfl, rfl⟩
      go_wp2_with (fail)
      go_ret2
      exact ⟨_, _, by rw [HN.out]; rfl, by rw [HP.out]; exact OwnP.nil _ _ _, Below.refl _ _⟩
  · have hno : Pl.placeOk n a [] many = false := by rw [Pl.placeOk, decide_eq_false (by omega), Bool.false_and]
    have HN := Lib.hid hno
    have HP := Lib.hid (place_no hno)
    have H := Lib.hid h
    clear hno h
    go_enter Try.func29, Try.ntmps29
    go_wp2_with (fail)
    refine (within_no H.out _).mono ?_
    rintro e w' ⟨rfl, rfl⟩
    go_wp2_with (fail)
    go_ret2
    exact ⟨_, _, by rw [HN.out]; rfl, by rw [HP.out]; exact OwnP.nil _ _ _, Below.refl _ _⟩
end Go.Proofs.Ytlidheodadoboaa
