/- Contracts of IsNorm and normalOr. Condition: none longer than any slice can be. -/
import Derived.Test.YtookcfpiegbafaaGreatDoorOpNorm
import Derived.Test.YtookcfpiegbafaaGreatDoorMarks
namespace Go.Proofs.YtookcfpiegbafaaGreatDoor
open Go.RowKit
set_option maxRecDepth 100000

theorem same_eq {p q : Pt} : Pl.same p q = true ↔ p = q := by
  obtain ⟨a, b, c⟩ := p
  obtain ⟨d, e, f⟩ := q
  simp [Pl.same]
theorem sameS_eq : ∀ {ps qs : List Pt}, Pl.sameS ps qs = true ↔ ps = qs
  | [], [] => by simp [Pl.sameS]
  | [], _ :: _ => by simp [Pl.sameS]
  | _ :: _, [] => by simp [Pl.sameS]
  | p :: ps, q :: qs => by simp [Pl.sameS, same_eq, sameS_eq (ps := ps) (qs := qs)]
theorem sameS_comm (ps qs : List Pt) : Pl.sameS ps qs = Pl.sameS qs ps := by
  rw [Bool.eq_iff_iff, sameS_eq, sameS_eq]
  exact eq_comm
theorem isNorm_eq (o : List Pt) : Pl.isNorm o = (Pl.opOk o && Pl.sameS o (Pl.opNorm o)) := by
  rw [Bool.eq_iff_iff, Pl.isNorm, Bool.and_eq_true, Bool.and_eq_true, sameS_eq]
  constructor
  · rintro ⟨h, e⟩; exact ⟨h, by rw [opNorm_yes h]; exact (of_decide_eq_true e).symm⟩
  · rintro ⟨h, e⟩; exact ⟨h, decide_eq_true (by rw [opNorm_yes h] at e; exact e.symm)⟩
theorem opOk_small {o : List Pt} {k : Int} (h : Pl.opOk o = true) (h0 : 0 ≤ k) (h1 : k ≤ 70368744177664) : Pl.small o k := by
  have hp := opOk_partsOk h
  have hl := partsOk_len hp
  exact ⟨h0, by omega, fun p hm => by have := (fine_of hp p hm).2.2.2; omega, h1⟩
theorem opNorm_small (o : List Pt) (k : Int) (h0 : 0 ≤ k) (h1 : k ≤ 70368744177664) : Pl.small (Pl.opNorm o) k := by
  rw [Pl.opNorm]
  split
  · exact opOk_small (Pl.opOk_norm (by assumption)) h0 h1
  · exact ⟨h0, by simp, by simp, h1⟩

set_option maxHeartbeats 1000000 in
theorem isNorm_i (v : Value) (ps : List Pt) (w : World) (h : SliceParts w.heap.size w v ps) :
    Calls Tryz.prog 17 #[v] w fun e w' => e = .returned (.bool (Pl.isNorm ps)) ∧ Below w.heap.size w w' := by
  have h0 := Lib.hid h
  obtain ⟨A, c, rfl, -, -⟩ := h
  have HN := Lib.hid (isNorm_eq ps)
  by_cases ho : Pl.opOk ps = true
  · have HO := Lib.hid ho
    go_enter Tryz.func17, Tryz.ntmps17
    go_wp2_with (fail)
    refine (opOk_i _ ps _ h0.out).mono ?_
    rintro e w1 ⟨rfl, b1⟩
    go_wp2_with (fail)
    refine (opNorm_i _ ps _ (h0.out.later b1)).mono ?_
    rintro e w2 ⟨v2, svs, rfl, o2, b2⟩
    obtain ⟨A2, c2, rfl⟩ := own_shape o2.row
    have S2 := Lib.hid o2.slice
    have B2 := Lib.hid (b1.trans (b2.mono b1.size))
    clear o2 b2 b1
    go_wp2_with (fail)
    refine (opSame_i _ _ ps (Pl.opNorm ps) _ (h0.out.later B2.out) S2.out).mono ?_
    rintro e w3 ⟨rfl, b3⟩
    have sz := B2.out.size
    go_wp2_with (fail)
    go_ret
    exact ⟨ret_bool (by rw [HN.out, HO.out]; rfl), B2.out.trans (b3.mono sz)⟩
  · have ho' : Pl.opOk ps = false := by simpa using ho
    have HO := Lib.hid ho'
    clear ho
    go_enter Tryz.func17, Tryz.ntmps17
    go_wp2_with (fail)
    refine (opOk_i _ ps _ h0.out).mono ?_
    rintro e w1 ⟨rfl, b1⟩
    go_wp2_with (fail)
    go_ret
    exact ⟨ret_bool (by rw [HN.out, HO.out]; rfl), b1⟩
set_option maxHeartbeats 1000000 in
theorem isNorm_s (v : Value) (ps : List Pt) (w : World) (h : SliceParts w.heap.size w v ps) :
    Calls Tryz.prog 27 #[v] w fun e w' => e = .returned (.bool (Pl.isNorm ps)) ∧ Below w.heap.size w w' := by
  have h0 := Lib.hid h
  obtain ⟨A, c, rfl, -, -⟩ := h
  have HN := Lib.hid (isNorm_eq ps)
  by_cases ho : Pl.opOk ps = true
  · have HO := Lib.hid ho
    go_enter Tryz.func27, Tryz.ntmps27
    go_wp2_with (fail)
    refine (opOk_s _ ps _ h0.out).mono ?_
    rintro e w1 ⟨rfl, b1⟩
    go_wp2_with (fail)
    refine (opNorm_s _ ps _ (h0.out.later b1)).mono ?_
    rintro e w2 ⟨v2, svs, rfl, o2, b2⟩
    obtain ⟨A2, c2, rfl⟩ := own_shape o2.row
    have S2 := Lib.hid o2.slice
    have B2 := Lib.hid (b1.trans (b2.mono b1.size))
    clear o2 b2 b1
    go_wp2_with (fail)
    refine (opSame_s _ _ (Pl.opNorm ps) ps _ S2.out (h0.out.later B2.out)).mono ?_
    rintro e w3 ⟨rfl, b3⟩
    have sz := B2.out.size
    go_wp2_with (fail)
    go_ret
    exact ⟨ret_bool (by rw [HN.out, HO.out, sameS_comm]; rfl), B2.out.trans (b3.mono sz)⟩
  · have ho' : Pl.opOk ps = false := by simpa using ho
    have HO := Lib.hid ho'
    clear ho
    go_enter Tryz.func27, Tryz.ntmps27
    go_wp2_with (fail)
    refine (opOk_s _ ps _ h0.out).mono ?_
    rintro e w1 ⟨rfl, b1⟩
    go_wp2_with (fail)
    go_ret
    exact ⟨ret_bool (by rw [HN.out, HO.out]; rfl), b1⟩
end Go.Proofs.YtookcfpiegbafaaGreatDoor
