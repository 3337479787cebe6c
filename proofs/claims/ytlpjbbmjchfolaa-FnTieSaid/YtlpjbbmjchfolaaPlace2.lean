/- Contracts of PutAt and DropAt: the walks. Condition: none longer than any slice can be. -/
import Derived.Test.YtlpjbbmjchfolaaPlace
namespace Go.Proofs.Ytlpjbbmjchfolaa
open Go.RowKit
set_option maxRecDepth 100000

theorem wf_i64 {a : Int} (h : (Lit.int .i64 a).wf = true) : -9223372036854775808 ≤ a ∧ a ≤ 9223372036854775807 := by
  simpa [Lit.wf, IntKind.min, IntKind.max, IntKind.bits, IntKind.signed] using h
theorem OwnP.lower {lo lo' hi : Nat} {w : World} {v : Value} {ps : List Pt} {svs : List Value} (h : OwnP lo hi w v ps svs) (hl : lo' ≤ lo) : OwnP lo' hi w v ps svs :=
  ⟨World.ownsRow.base h.row fun g hg => Nat.le_trans hl (h.row.lt g hg).1, h.top, h.len, fun k hk => ⟨World.ownsRow.base (h.each k hk).1 fun g hg => Nat.le_trans hl ((h.each k hk).1.lt g hg).1, (h.each k hk).2⟩, h.apart⟩
/-- A literal of parts. -/
theorem parts_lit {B : Nat} {w : World} {g : Nat} {ps : List Pt} {svs : List Value} (hb : w.heap[g]? = some (.cells (cellsP ps svs).toArray 71 (0, 0))) (hg : g < B) (hl : svs.length = ps.length)
    (hs : ∀ k, k < ps.length → SliceInts B w (svs.getD k undef) (ps.getD k ⟨0, 0, []⟩).signs) (hm : ps.length ≤ maxLen) : SliceParts B w (.slice (some ⟨g, 0, none⟩) ps.length ps.length) ps := by
  refine ⟨_, _, rfl, ⟨Nat.le_refl _, hm⟩, fun k hk => ?_⟩
  obtain ⟨a0, a1, a2⟩ := cellsP_at ps svs k hl hk
  refine ⟨g, 0, _, rfl, hg, ?_, ?_, ?_, hs k hk⟩
  · rw [cell_of_row w g _ _ _ _ hb]; simpa using a0
  · rw [cell_of_row w g _ _ _ _ hb]; simpa using a1
  · rw [cell_of_row w g _ _ _ _ hb]; simpa using a2
theorem sliceInts_nil (B : Nat) (w : World) : SliceInts B w (.slice none 0 0) [] := ⟨none, 0, rfl, ⟨Nat.le_refl _, Nat.zero_le _⟩, fun _ hk => absurd hk (Nat.not_lt_zero _)⟩
theorem place_no {n a many : Int} {l : List Int} (h : Pl.placeOk n a l many = false) : Pl.place n a l many = [] := by rw [Pl.place, if_neg (by rw [h]; decide)]
theorem place_yes {n a many : Int} {l : List Int} (h : Pl.placeOk n a l many = true) : Pl.place n a l many = Pl.norm (Pl.placeO n a l many) := by rw [Pl.place, if_pos h]
theorem place_small (n a : Int) (l : List Int) (many k : Int) (h0 : 0 ≤ k) (h1 : k ≤ 70368744177664) : Pl.small (Pl.place n a l many) k := by
  rw [Pl.place]
  split
  · rename_i h
    have := (Pl.placeOk_iff n a l many).1 h
    exact opOk_small this.2.2.2.2.2 h0 h1
  · exact ⟨h0, by simp, by simp, h1⟩

set_option maxHeartbeats 1000000 in
theorem putAt_i (n a : Int) (v : Value) (l : List Int) (w : World) (hn : n ≤ 9223372036854775807) (hv : SliceInts w.heap.size w v l) :
    Calls Try.prog 27 #[.int .i64 n, .int .i64 a, v] w fun e w' => ∃ v' svs, e = .returned (.tuple #[v', .bool (Pl.placeOk n a l 0)]) ∧ OwnP w.heap.size w'.heap.size w' v' (Pl.place n a l 0) svs ∧ Below w.heap.size w w' := by
  have HV := Lib.hid hv
  obtain ⟨A, c, rfl, -, -⟩ := hv
  by_cases h : 0 ≤ a ∧ a ≤ n
  · have H := Lib.hid h
    obtain ⟨a0, a1⟩ := h
    have hb : Below w.heap.size w (w.alloc (.cells #[.int .i64 1, .int .i64 a, .slice none 0 0, .int .i64 2, .int .i64 0, .slice A l.length c, .int .i64 1, .int .i64 (n - a), .slice none 0 0] 71)) := (Below.refl _ _).alloc (Nat.le_refl _) _
    have hs := parts_lit (B := w.heap.size + 1) (ps := Pl.putO n a l) (svs := [.slice none 0 0, .slice A l.length c, .slice none 0 0]) (heap_new_at w (.cells #[.int .i64 1, .int .i64 a, .slice none 0 0, .int .i64 2, .int .i64 0, .slice A l.length c, .int .i64 1, .int .i64 (n - a), .slice none 0 0] 71) rfl) (Nat.lt_succ_self _) rfl (fun k hk => by
      simp only [Pl.putO, List.length_cons, List.length_nil] at hk
      match k, hk with
      | 0, _ => exact sliceInts_nil _ _
      | 1, _ => exact (HV.out.below hb).mono (Nat.le_succ _)
      | 2, _ => exact sliceInts_nil _ _) (by simp [Pl.putO]; unfold maxLen; omega)
    have HS := Lib.hid hs
    have HBb := Lib.hid hb
    clear hs hb
    have hok : Pl.placeOk n a l 0 = Pl.opOk (Pl.putO n a l) := by
      rw [Pl.placeOk, Pl.putO_ok, decide_eq_true (by exact ⟨a0, a1, Int.le_refl 0, by omega⟩), Bool.true_and]
    have hpl : Pl.place n a l 0 = Pl.opNorm (Pl.putO n a l) := by rw [Pl.place, hok, Pl.opNorm, Pl.putO_norm]
    have HOK := Lib.hid hok
    have HPL := Lib.hid hpl
    clear hok hpl
    go_enter Try.func27, Try.ntmps27
    go_wp2_with (fail)
    refine (within_yes H.out _).mono ?_
    rintro e w' ⟨rfl, rfl⟩
    go_wp2_with (fail)
    refine (normalOr_i _ (Pl.putO n a l) _ (by rw [World.size_alloc]; exact HS.out)).mono ?_
    rintro e w1 ⟨v1, svs, rfl, o1, b1⟩
    obtain ⟨A1, c1, rfl⟩ := own_shape o1.row
    have O1 := Lib.hid (o1.lower (lo' := w.heap.size) (by simp))
    have B1 := Lib.hid (HBb.out.trans (b1.mono (by simp)))
    clear o1 b1
    generalize Pl.opOk (Pl.putO n a l) = ok at *
    go_wp2_with (fail)
    go_ret2
    exact ⟨_, svs, by rw [HOK.out]; rfl, by rw [HPL.out]; exact O1.out, B1.out⟩
  · have hno : Pl.placeOk n a l 0 = false := by rw [Pl.placeOk, decide_eq_false (by omega), Bool.false_and]
    have HN := Lib.hid hno
    have HP := Lib.hid (place_no hno)
    have H := Lib.hid h
    clear hno h
    go_enter Try.func27, Try.ntmps27
    go_wp2_with (fail)
    refine (within_no H.out _).mono ?_
    rintro e w' ⟨rfl, rfl⟩
    go_wp2_with (fail)
    go_ret2
    exact ⟨_, _, by rw [HN.out]; rfl, by rw [HP.out]; exact OwnP.nil _ _ _, Below.refl _ _⟩
end Go.Proofs.Ytlpjbbmjchfolaa
