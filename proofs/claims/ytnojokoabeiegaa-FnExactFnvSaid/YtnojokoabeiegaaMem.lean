/- What lies in memory, as lists: slices of ints and of parts that are read, and those that a call made for itself. No condition. -/
import Derived.Test.YtnojokoabeiegaaPlain
import Derived.Laws.OwnMore
import Derived.OneCell
import Derived.WalkKit
namespace Go.Proofs.Ytnojokoabeiegaa
open Go.RowKit

theorem ret_int {k : IntKind} {a b : Int} (h : a = b) : Ending.returned (.int k a) = .returned (.int k b) := by rw [h]
theorem ret_bool {a b : Bool} (h : a = b) : Ending.returned (.bool a) = .returned (.bool b) := by rw [h]
theorem ret_str {a b : ByteArray} (h : a = b) : Ending.returned (.string a) = .returned (.string b) := by rw [h]

/-- The ints xs can be read at A, in a block below B. -/
def IntsAt (B : Nat) (w : World) (A : Option Addr) (xs : List Int) : Prop :=
  ∀ k, k < xs.length → ∃ b off, A = some ⟨b, off, none⟩ ∧ b < B ∧ w.cell? ⟨b, off + k, none⟩ = some (.int .i64 (xs.getD k 0))

/-- The value v is a slice of the ints xs. -/
def SliceInts (B : Nat) (w : World) (v : Value) (xs : List Int) : Prop :=
  ∃ A c, v = .slice A xs.length c ∧ xs.length ≤ c ∧ IntsAt B w A xs

def PartsAt (B : Nat) (w : World) (A : Option Addr) (ps : List Pt) : Prop :=
  ∀ k, k < ps.length → ∃ b off sv, A = some ⟨b, off, none⟩ ∧ b < B ∧ w.cell? ⟨b, off + 3 * k, none⟩ = some (.int .i64 (ps.getD k ⟨0, 0, []⟩).kind) ∧
    w.cell? ⟨b, off + 3 * k + 1, none⟩ = some (.int .i64 (ps.getD k ⟨0, 0, []⟩).n) ∧ w.cell? ⟨b, off + 3 * k + 2, none⟩ = some sv ∧ SliceInts B w sv (ps.getD k ⟨0, 0, []⟩).signs

theorem IntsAt.below {B : Nat} {w w' : World} {A : Option Addr} {xs : List Int} (h : IntsAt B w A xs) (hb : Below B w w') : IntsAt B w' A xs := fun k hk => by
  obtain ⟨b, off, hA, hlt, hc⟩ := h k hk
  exact ⟨b, off, hA, hlt, (hb.cell (p := ⟨b, off + k, none⟩) hlt).trans hc⟩
theorem IntsAt.mono {B B' : Nat} {w : World} {A : Option Addr} {xs : List Int} (h : IntsAt B w A xs) (hb : B ≤ B') : IntsAt B' w A xs := fun k hk => by
  obtain ⟨b, off, hA, hlt, hc⟩ := h k hk
  exact ⟨b, off, hA, by omega, hc⟩
theorem SliceInts.below {B : Nat} {w w' : World} {v : Value} {xs : List Int} (h : SliceInts B w v xs) (hb : Below B w w') : SliceInts B w' v xs := by
  obtain ⟨A, c, hv, hc, hi⟩ := h
  exact ⟨A, c, hv, hc, hi.below hb⟩
theorem SliceInts.mono {B B' : Nat} {w : World} {v : Value} {xs : List Int} (h : SliceInts B w v xs) (hb : B ≤ B') : SliceInts B' w v xs := by
  obtain ⟨A, c, hv, hc, hi⟩ := h
  exact ⟨A, c, hv, hc, hi.mono hb⟩
theorem PartsAt.below {B : Nat} {w w' : World} {A : Option Addr} {ps : List Pt} (h : PartsAt B w A ps) (hb : Below B w w') : PartsAt B w' A ps := fun k hk => by
  obtain ⟨b, off, sv, hA, hlt, h0, h1, h2, hs⟩ := h k hk
  exact ⟨b, off, sv, hA, hlt, (hb.cell (p := ⟨b, _, none⟩) hlt).trans h0, (hb.cell (p := ⟨b, _, none⟩) hlt).trans h1, (hb.cell (p := ⟨b, _, none⟩) hlt).trans h2, hs.below hb⟩
theorem PartsAt.mono {B B' : Nat} {w : World} {A : Option Addr} {ps : List Pt} (h : PartsAt B w A ps) (hb : B ≤ B') : PartsAt B' w A ps := fun k hk => by
  obtain ⟨b, off, sv, hA, hlt, h0, h1, h2, hs⟩ := h k hk
  exact ⟨b, off, sv, hA, by omega, h0, h1, h2, hs.mono hb⟩

/-- The call's own slice of ints. -/
abbrev OwnInts (base : Nat) (w : World) (v : Value) (xs : List Int) : Prop := w.ownsRow base 3 1 v xs.length (xs.map (Value.int .i64))

end Go.Proofs.Ytnojokoabeiegaa
