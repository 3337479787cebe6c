/- What lies in memory, as lists: slices of ints and of parts that are read, and those that a call made for itself. No condition. -/
import Derived.Test.YtnojokoabeiegaaPlain
import Derived.Laws.OwnMore
import Derived.OneCell
import Derived.WalkKit
namespace Go.Proofs.Ytnojokoabeiegaa
open Go.RowKit

theorem ret_int {k : IntKind} {a b : Int} (h : a = b) : Ending.returned (.int k a) = .returned (.int k b) := by rw [h]
theorem ret_bool {a b : Bool} (h : a = b) : Ending.returned (.bool a) = .returned (.bool b) := by rw [h]
theorem ret_str {a b : ByteArray} (h : a = b) : Ending.returned (.string a) = .returned (.string b) := by rw [h]

/-- The ints xs can be read at A, in a block below B. -/
def IntsAt (B : Nat) (w : World) (A : Option Addr) (xs : List Int) : Prop :=
  ∀ k, k < xs.length → ∃ b off, A = some ⟨b, off, none⟩ ∧ b < B ∧ w.cell? ⟨b, off + k, none⟩ = some (.int .i64 (xs.getD k 0))

/-- The value v is a slice of the ints xs. -/
def SliceInts (B : Nat) (w : World) (v : Value) (xs : List Int) : Prop :=
  ∃ A c, v = .slice A xs.length c ∧ xs.length ≤ c ∧ IntsAt B w A xs

def PartsAt (B : Nat) (w : World) (A : Option Addr) (ps : List Pt) : Prop :=
  ∀ k, k < ps.length → ∃ b off sv, A = some ⟨b, off, none⟩ ∧ b < B ∧ w.cell? ⟨b, off + 3 * k, none⟩ = some (.int .i64 (ps.getD k ⟨0, 0, []⟩).kind) ∧
    w.cell? ⟨b, off + 3 * k + 1, none⟩ = some (.int .i64 (ps.getD k ⟨0, 0, []⟩).n) ∧ w.cell? ⟨b, off + 3 * k + 2, none⟩ = some sv ∧ SliceInts B w sv (ps.getD k ⟨0, 0, []⟩).signs

theorem IntsAt.below {B : Nat} {w w' : World} {A : Option Addr} {xs : List Int} (h : IntsAt B w A xs) (hb : Below B w w') : IntsAt B w' A xs := fun k hk => by
  obtain ⟨b, off, hA, hlt, hc⟩ := h k hk
  exact ⟨b, off, hA, hlt, (hb.cell (p := ⟨b, off + k, none⟩) hlt).trans hc⟩
theorem IntsAt.mono {B B' : Nat} {w : World} {A : Option Addr} {xs : List Int} (h : IntsAt B w A xs) (hb : B ≤ B') : IntsAt B' w A xs := fun k hk => by
  obtain ⟨b, off, hA, hlt, hc⟩ := h k hk
  exact ⟨b, off, hA, by omega, hc⟩
theorem SliceInts.below {B : Nat} {w w' : World} {v : Value} {xs : List Int} (h : SliceInts B w v xs) (hb : Below B w w') : SliceInts B w' v xs := by
  obtain ⟨A, c, hv, hc, hi⟩ := h
  exact ⟨A, c, hv, hc, hi.below hb⟩
theorem SliceInts.mono {B B' : Nat} {w : World} {v : Value} {xs : List Int} (h : SliceInts B w v xs) (hb : B ≤ B') : SliceInts B' w v xs := by
  obtain ⟨A, c, hv, hc, hi⟩ := h
  exact ⟨A, c, hv, hc, hi.mono hb⟩
theorem PartsAt.below {B : Nat} {w w' : World} {A : Option Addr} {ps : List Pt} (h : PartsAt B w A ps) (hb : Below B w w') : PartsAt B w' A ps := fun k hk => by
  obtain ⟨b, off, sv, hA, hlt, h0, h1, h2, hs⟩ := h k hk
  exact ⟨b, off, sv, hA, hlt, (hb.cell (p := ⟨b, _, none⟩) hlt).trans h0, (hb.cell (p := ⟨b, _, none⟩) hlt).trans h1, (hb.cell (p := ⟨b, _, none⟩) hlt).trans h2, hs.below hb⟩
theorem PartsAt.mono {B B' : Nat} {w : World} {A : Option Addr} {ps : List Pt} (h : PartsAt B w A ps) (hb : B ≤ B') : PartsAt B' w A ps := fun k hk => by
  obtain ⟨b, off, sv, hA, hlt, h0, h1, h2, hs⟩ := h k hk
  exact ⟨b, off, sv, hA, by omega, h0, h1, h2, hs.mono hb⟩

theorem SliceInts.later {w w' : World} {v : Value} {xs : List Int} (h : SliceInts w.heap.size w v xs) (hb : Below w.heap.size w w') : SliceInts w'.heap.size w' v xs := (h.below hb).mono hb.size

/-- The call's own slice of ints. -/
abbrev OwnInts (base : Nat) (w : World) (v : Value) (xs : List Int) : Prop := w.ownsRow base 3 1 v xs.length (xs.map (Value.int .i64))

theorem OwnInts.slice {base : Nat} {w : World} {v : Value} {xs : List Int} (h : OwnInts base w v xs) : SliceInts w.heap.size w v xs := by
  have hlt := h.lt
  have hcell := @World.ownsRow.cells w base 3 1 v xs.length (xs.map (Value.int .i64)) h
  rcases h.2 with ⟨rfl, hn⟩ | ⟨g, cap, cur, rfl, hb, hg, hc, hm, hs, ht⟩
  · have hx : xs = [] := List.eq_nil_of_length_eq_zero hn
    subst hx
    exact ⟨none, 0, rfl, Nat.le_refl _, fun k hk => absurd hk (Nat.not_lt_zero _)⟩
  · refine ⟨some ⟨g, 0, none⟩, cap, rfl, hc, fun k hk => ⟨g, 0, rfl, (hlt g rfl).2, ?_⟩⟩
    have := hcell (g := g) rfl k (.int .i64 (xs.getD k 0)) (by simp [List.getD, hk])
    rw [Addr.add_lit] at this
    exact this

theorem World.ownsRow.below {base e size n : Nat} {w w' : World} {v : Value} {xs : List Value} (h : w.ownsRow base e size v n xs) (hb : Below w.heap.size w w') : w'.ownsRow base e size v n xs := by
  refine h.kept (row := none) ⟨hb.os, hb.tape, hb.output, hb.size, fun k hk _ => hb.block k hk⟩ ?_
  cases v.ownBlock <;> simp

/-- w' is w but for the blocks from lo up to hi. -/
structure Within (lo hi : Nat) (w w' : World) : Prop where
  os : w'.os = w.os
  tape : w'.tape = w.tape
  output : w'.output = w.output
  size : w'.heap.size = w.heap.size
  block : ∀ k, ¬ (lo ≤ k ∧ k < hi) → w'.heap[k]? = w.heap[k]?
theorem Within.refl (lo hi : Nat) (w : World) : Within lo hi w w := ⟨rfl, rfl, rfl, rfl, fun _ _ => rfl⟩
theorem Within.trans {lo hi : Nat} {a b c : World} (h : Within lo hi a b) (k : Within lo hi b c) : Within lo hi a c :=
  ⟨k.os.trans h.os, k.tape.trans h.tape, k.output.trans h.output, k.size.trans h.size, fun i hi' => (k.block i hi').trans (h.block i hi')⟩
theorem Within.mono {lo hi lo' hi' : Nat} {a b : World} (h : Within lo hi a b) (h1 : lo' ≤ lo) (h2 : hi ≤ hi') : Within lo' hi' a b :=
  ⟨h.os, h.tape, h.output, h.size, fun i hi => h.block i (fun ⟨x, y⟩ => hi ⟨by omega, by omega⟩)⟩
theorem Within.below {lo hi B : Nat} {a b : World} (h : Within lo hi a b) (hB : B ≤ lo) : Below B a b :=
  ⟨h.os, h.tape, h.output, by rw [h.size]; exact Nat.le_refl _, fun i hi => h.block i (fun ⟨x, y⟩ => by omega)⟩
theorem Within.setCell (w : World) (g i : Nat) (u : Value) : Within g (g + 1) w (w.setCell ⟨g, i, none⟩ u) :=
  ⟨rfl, rfl, rfl, by simp [World.setCell], fun k hk => Below.heap_setCell _ _ _ _ (by show k ≠ g; omega)⟩
theorem World.ownsRow.within {base e size n lo hi : Nat} {w w' : World} {v : Value} {xs : List Value} (h : w.ownsRow base e size v n xs) (hw : Within lo hi w w')
    (hd : ∀ g, v.ownBlock = some g → ¬ (lo ≤ g ∧ g < hi)) : w'.ownsRow base e size v n xs := by
  refine ⟨h.1, ?_⟩
  rcases h.2 with hn | ⟨g, cap, cur, rfl, hb, hg, r⟩
  · exact .inl hn
  · exact .inr ⟨g, cap, cur, rfl, hb, (hw.block g (hd g rfl)).trans hg, r⟩

/-- A slice of ints in a block of its own, from lo up to hi. -/
def OwnI (lo hi : Nat) (w : World) (v : Value) (xs : List Int) : Prop := OwnInts lo w v xs ∧ ∀ g, v.ownBlock = some g → g < hi
theorem OwnI.of {lo : Nat} {w : World} {v : Value} {xs : List Int} (h : OwnInts lo w v xs) : OwnI lo w.heap.size w v xs := ⟨h, fun g hg => (h.lt g hg).2⟩
theorem OwnI.below {lo hi : Nat} {w w' : World} {v : Value} {xs : List Int} (h : OwnI lo hi w v xs) (hb : Below w.heap.size w w') : OwnI lo hi w' v xs := ⟨World.ownsRow.below h.1 hb, h.2⟩
theorem OwnI.within {lo hi lo' hi' : Nat} {w w' : World} {v : Value} {xs : List Int} (h : OwnI lo hi w v xs) (hw : Within lo' hi' w w') (hd : hi ≤ lo' ∨ hi' ≤ lo) : OwnI lo hi w' v xs :=
  ⟨World.ownsRow.within h.1 hw fun g hg hgg => by have := h.2 g hg; have := (h.1.lt g hg).1; omega, h.2⟩
theorem OwnI.slice {lo hi : Nat} {w : World} {v : Value} {xs : List Int} (h : OwnI lo hi w v xs) : SliceInts w.heap.size w v xs := OwnInts.slice h.1
theorem SliceInts.within {B lo hi : Nat} {w w' : World} {v : Value} {xs : List Int} (h : SliceInts B w v xs) (hw : Within lo hi w w') (hB : B ≤ lo) : SliceInts B w' v xs := h.below (hw.below hB)

end Go.Proofs.Ytnojokoabeiegaa
