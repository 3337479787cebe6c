/- Entries: a client, a number and an operation. EntrySame (impl and spec) and the laws' helpers szEntry, toEntry, eqEntry. -/
import Derived.Test.YtadhgjfiblepaaaEqParts
import Derived.Test.YtadhgjfiblepaaaSame
namespace Go.Proofs.Ytadhgjfiblepaaa
open Go.RowKit
set_option maxRecDepth 100000

/-- v is an entry whose operation reads as ps, in blocks below B. -/
def EntryV (B : Nat) (w : World) (v : Value) (x : Int × Int × List Pt) : Prop := ∃ sv, v = .agg #[.int .i64 x.1, .int .i64 x.2.1, sv] ∧ SliceParts B w sv x.2.2

namespace Pl
def entrySame (a b : Int × Int × List Pt) : Bool := a.1 == b.1 && (a.2.1 == b.2.1 && sameS a.2.2 b.2.2)
end Pl

set_option maxHeartbeats 2000000 in
theorem entrySame_i (v v' : Value) (x y : Int × Int × List Pt) (w : World) (h : EntryV w.heap.size w v x) (h' : EntryV w.heap.size w v' y) :
    Calls Try.prog 22 #[v, v'] w fun e w' => e = .returned (.bool (Pl.entrySame x y)) ∧ Below w.heap.size w w' := by
  obtain ⟨c, n, ps⟩ := x
  obtain ⟨c', n', qs⟩ := y
  obtain ⟨sv, rfl, hs⟩ := h
  obtain ⟨sv', rfl, hs'⟩ := h'
  have hW : ∀ (a b : Obj), Below w.heap.size w ((w.alloc a).alloc b) := fun a b => ((Below.refl _ _).alloc (Nat.le_refl _) a).alloc (by simp) b
  have HW := Lib.hid hW
  clear hW
  have s0 := Lib.hid hs
  have s0' := Lib.hid hs'
  obtain ⟨A, k, rfl, -, -⟩ := hs
  obtain ⟨A', k', rfl, -, -⟩ := hs'
  dsimp only at s0 s0' ⊢
  by_cases hk : c = c'
  · by_cases hn : n = n'
    · have HS : Hid (Pl.entrySame (c, n, ps) (c', n', qs) = Pl.sameS ps qs) := by show _ = _; simp [Pl.entrySame, hk, hn]
      have k1 : (c == c') = true := by simp [hk]
      have k2 : (n == n') = true := by simp [hn]
      clear hk hn
      go_enter Try.func22, Try.ntmps22
      go_wp2_with (fail)
      refine (opSame_i _ _ ps qs _ (s0.out.later (HW.out _ _)) (s0'.out.later (HW.out _ _))).mono ?_
      rintro e w1 ⟨rfl, b1⟩
      go_wp2_with (fail)
      go_ret
      exact ⟨ret_bool HS.out.symm, (HW.out _ _).trans (b1.mono (by simp; omega))⟩
    · have HS : Hid (Pl.entrySame (c, n, ps) (c', n', qs) = false) := by show _ = _; simp [Pl.entrySame, hn]
      have k1 : (c == c') = true := by simp [hk]
      have k2 : (n == n') = false := by simp [hn]
      clear hk hn
      go_enter Try.func22, Try.ntmps22
      go_wp2_with (fail)
      go_ret
      exact ⟨ret_bool HS.out.symm, HW.out _ _⟩
  · have HS : Hid (Pl.entrySame (c, n, ps) (c', n', qs) = false) := by show _ = _; simp [Pl.entrySame, hk]
    have k1 : (c == c') = false := by simp [hk]
    clear hk
    go_enter Try.func22, Try.ntmps22
    go_wp2_with (fail)
    go_ret
    exact ⟨ret_bool HS.out.symm, HW.out _ _⟩
set_option maxHeartbeats 2000000 in
theorem entrySame_s (v v' : Value) (x y : Int × Int × List Pt) (w : World) (h : EntryV w.heap.size w v x) (h' : EntryV w.heap.size w v' y) :
    Calls Try.prog 20 #[v, v'] w fun e w' => e = .returned (.bool (Pl.entrySame x y)) ∧ Below w.heap.size w w' := by
  obtain ⟨c, n, ps⟩ := x
  obtain ⟨c', n', qs⟩ := y
  obtain ⟨sv, rfl, hs⟩ := h
  obtain ⟨sv', rfl, hs'⟩ := h'
  have hW : ∀ (a b : Obj), Below w.heap.size w ((w.alloc a).alloc b) := fun a b => ((Below.refl _ _).alloc (Nat.le_refl _) a).alloc (by simp) b
  have HW := Lib.hid hW
  clear hW
  have s0 := Lib.hid hs
  have s0' := Lib.hid hs'
  obtain ⟨A, k, rfl, -, -⟩ := hs
  obtain ⟨A', k', rfl, -, -⟩ := hs'
  dsimp only at s0 s0' ⊢
  by_cases hk : c = c'
  · by_cases hn : n = n'
    · have HS : Hid (Pl.entrySame (c, n, ps) (c', n', qs) = Pl.sameS ps qs) := by show _ = _; simp [Pl.entrySame, hk, hn]
      have k1 : (c == c') = true := by simp [hk]
      have k2 : (n == n') = true := by simp [hn]
      clear hk hn
      go_enter Try.func20, Try.ntmps20
      go_wp2_with (fail)
      refine (opSame_s _ _ ps qs _ (s0.out.later (HW.out _ _)) (s0'.out.later (HW.out _ _))).mono ?_
      rintro e w1 ⟨rfl, b1⟩
      go_wp2_with (fail)
      go_ret
      exact ⟨ret_bool HS.out.symm, (HW.out _ _).trans (b1.mono (by simp; omega))⟩
    · have HS : Hid (Pl.entrySame (c, n, ps) (c', n', qs) = false) := by show _ = _; simp [Pl.entrySame, hn]
      have k1 : (c == c') = true := by simp [hk]
      have k2 : (n == n') = false := by simp [hn]
      clear hk hn
      go_enter Try.func20, Try.ntmps20
      go_wp2_with (fail)
      go_ret
      exact ⟨ret_bool HS.out.symm, HW.out _ _⟩
  · have HS : Hid (Pl.entrySame (c, n, ps) (c', n', qs) = false) := by show _ = _; simp [Pl.entrySame, hk]
    have k1 : (c == c') = false := by simp [hk]
    clear hk
    go_enter Try.func20, Try.ntmps20
    go_wp2_with (fail)
    go_ret
    exact ⟨ret_bool HS.out.symm, HW.out _ _⟩
set_option maxHeartbeats 2000000 in
theorem szEntry_l (v : Value) (x : Int × Int × List Pt) (left : Int) (w : World) (h : EntryV w.heap.size w v x) (h0 : 0 ≤ left) (h1 : left ≤ 1048576) :
    Calls Try.prog 19 #[v, .int .i64 left] w fun e w' => e = .returned (.int .i64 (if Pl.szS x.2.2 left < 0 then -1 else Pl.szS x.2.2 left)) ∧ Below w.heap.size w w' := by
  obtain ⟨c, n, ps⟩ := x
  obtain ⟨sv, rfl, hs⟩ := h
  have hW : ∀ (a : Obj), Below w.heap.size w (w.alloc a) := fun a => (Below.refl _ _).alloc (Nat.le_refl _) a
  have HW := Lib.hid hW
  clear hW
  have s0 := Lib.hid hs
  obtain ⟨A, k, rfl, -, -⟩ := hs
  dsimp only at s0 ⊢
  by_cases hlt : Pl.szS ps left < 0
  · rw [if_pos hlt]
    go_enter Try.func19, Try.ntmps19
    go_wp2_with (fail)
    refine (szPartS_l _ ps left _ (s0.out.later (HW.out _)) h0 h1).mono ?_
    rintro e w1 ⟨rfl, b1⟩
    go_wp2_with (fail)
    go_ret
    exact ⟨rfl, (HW.out _).trans (b1.mono (by simp))⟩
  · rw [if_neg hlt]
    have hle : 0 ≤ Pl.szS ps left := by omega
    have hu := szS_le (ps := ps) (left := left) h0
    go_enter Try.func19, Try.ntmps19
    go_wp2_with (fail)
    refine (szPartS_l _ ps left _ (s0.out.later (HW.out _)) h0 h1).mono ?_
    rintro e w1 ⟨rfl, b1⟩
    go_wp2_with (fail)
    go_ret
    exact ⟨rfl, (HW.out _).trans (b1.mono (by simp))⟩
set_option maxHeartbeats 2000000 in
theorem toEntry_l (v : Value) (x : Int × Int × List Pt) (w : World) (h : EntryV w.heap.size w v x) (hl : x.2.2.length ≤ 4194304) (hp : ∀ p ∈ x.2.2, p.signs.length ≤ 4194304) :
    Calls Try.prog 21 #[v] w fun e w' => ∃ v', e = .returned v' ∧ EntryV w'.heap.size w' v' x ∧ Below w.heap.size w w' := by
  obtain ⟨c, n, ps⟩ := x
  obtain ⟨sv, rfl, hs⟩ := h
  have hW : ∀ (a b c : Obj), Below w.heap.size w (((w.alloc a).alloc b).alloc c) := fun a b c => (((Below.refl _ _).alloc (Nat.le_refl _) a).alloc (by simp) b).alloc (by simp; omega) c
  have HW := Lib.hid hW
  clear hW
  have HP := Lib.hid hp
  clear hp
  have s0 := Lib.hid hs
  obtain ⟨A, k, rfl, -, -⟩ := hs
  dsimp only at s0 hl HP ⊢
  go_enter Try.func21, Try.ntmps21
  go_wp2_with (fail)
  refine (toPartS_l _ ps _ (s0.out.later (HW.out _ _ _)) hl HP.out).mono ?_
  rintro e w1 ⟨v1, svs, rfl, o1, b1⟩
  have hb := (HW.out _ _ _).trans (b1.mono (by simp; omega))
  obtain ⟨x0, x1, x2, x3, x4⟩ := blk3 (w := w1) (g := w.heap.size + 1) (t := 33) ((b1.block _ (by simp)).trans (by
    rw [Below.heap_alloc _ _ _ (by simp)]; exact heap_new_at _ _ (by simp)))
  obtain ⟨y0, y1, y2, y3, y4⟩ := blk3 (w := w1) (g := w.heap.size + 2) (t := 33) ((b1.block _ (by simp)).trans (heap_new_at _ _ (by simp)))
  simp only [World.size_alloc] at o1
  obtain ⟨A1, c1, rfl, -, -⟩ := o1.slice
  have O1 := Lib.hid o1
  have HBb := Lib.hid hb
  clear o1 b1 s0 hb
  go_wp2_with (fail)
  refine bodyPost_ret (v := .agg #[.int .i64 c, .int .i64 n, .slice A1 ps.length c1]) (by simp [results, Try.results21, go_sem, x0, x1, x2]) rfl ⟨_, rfl, ⟨_, rfl, ?_⟩, ?_⟩
  · refine (O1.out.within (lo' := w.heap.size) (hi' := w.heap.size + 3) ?_ (.inr (by omega))).slice
    repeat (first | exact Within.refl _ _ _ | refine Within.set ?_ (by omega) (by omega) _ _)
  · repeat (first | exact HBb.out | refine Below.setCell ?_ (by dsimp only; omega) _)
set_option maxHeartbeats 2000000 in
theorem eqEntry_b (v v' : Value) (x : Int × Int × List Pt) (w : World) (h : EntryV w.heap.size w v x) (h' : EntryV w.heap.size w v' x) :
    Calls Try.prog 23 #[v, v'] w fun e w' => e = .returned (.bool true) ∧ Below w.heap.size w w' := by
  obtain ⟨c, n, ps⟩ := x
  obtain ⟨sv, rfl, hs⟩ := h
  obtain ⟨sv', rfl, hs'⟩ := h'
  have hW : ∀ (a b : Obj), Below w.heap.size w ((w.alloc a).alloc b) := fun a b => ((Below.refl _ _).alloc (Nat.le_refl _) a).alloc (by simp) b
  have HW := Lib.hid hW
  clear hW
  have s0 := Lib.hid hs
  have s0' := Lib.hid hs'
  obtain ⟨A, k, rfl, -, -⟩ := hs
  obtain ⟨A', k', rfl, -, -⟩ := hs'
  dsimp only at s0 s0' ⊢
  go_enter Try.func23, Try.ntmps23
  go_wp2_with (fail)
  refine (eqPartS_b _ _ ps _ (s0.out.later (HW.out _ _)) (s0'.out.later (HW.out _ _))).mono ?_
  rintro e w1 ⟨rfl, b1⟩
  go_wp2_with (fail)
  go_ret
  exact ⟨rfl, (HW.out _ _).trans (b1.mono (by simp; omega))⟩
end Go.Proofs.Ytadhgjfiblepaaa
