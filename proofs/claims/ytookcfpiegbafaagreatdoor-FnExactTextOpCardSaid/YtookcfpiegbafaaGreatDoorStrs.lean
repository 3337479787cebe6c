/- What lies in memory, as lists: slices of strings that are read, and those that a call made for itself. No condition. -/
import Derived.Test.YtookcfpiegbafaaGreatDoorMem
namespace Go.Proofs.YtookcfpiegbafaaGreatDoor
open Go.RowKit
set_option maxRecDepth 100000

/-- The value of a string of these bytes. -/
abbrev strV (l : List UInt8) : Value := .string ⟨l.toArray⟩
/-- The strings xs can be read at A, in a block below B. -/
def StrsAt (B : Nat) (w : World) (A : Option Addr) (xs : List (List UInt8)) : Prop :=
  ∀ k, k < xs.length → ∃ b off, A = some ⟨b, off, none⟩ ∧ b < B ∧ w.cell? ⟨b, off + k, none⟩ = some (strV (xs.getD k []))
/-- The value v is a slice of the strings xs. -/
def SliceStrs (B : Nat) (w : World) (v : Value) (xs : List (List UInt8)) : Prop :=
  ∃ A c, v = .slice A xs.length c ∧ (xs.length ≤ c ∧ c ≤ maxLen) ∧ StrsAt B w A xs
theorem StrsAt.below {B : Nat} {w w' : World} {A : Option Addr} {xs : List (List UInt8)} (h : StrsAt B w A xs) (hb : Below B w w') : StrsAt B w' A xs := fun k hk => by
  obtain ⟨b, off, hA, hlt, hc⟩ := h k hk
  exact ⟨b, off, hA, hlt, (hb.cell (p := ⟨b, off + k, none⟩) hlt).trans hc⟩
theorem StrsAt.mono {B B' : Nat} {w : World} {A : Option Addr} {xs : List (List UInt8)} (h : StrsAt B w A xs) (hb : B ≤ B') : StrsAt B' w A xs := fun k hk => by
  obtain ⟨b, off, hA, hlt, hc⟩ := h k hk
  exact ⟨b, off, hA, by omega, hc⟩
theorem SliceStrs.below {B : Nat} {w w' : World} {v : Value} {xs : List (List UInt8)} (h : SliceStrs B w v xs) (hb : Below B w w') : SliceStrs B w' v xs := by
  obtain ⟨A, c, hv, hc, hi⟩ := h
  exact ⟨A, c, hv, hc, hi.below hb⟩
theorem SliceStrs.mono {B B' : Nat} {w : World} {v : Value} {xs : List (List UInt8)} (h : SliceStrs B w v xs) (hb : B ≤ B') : SliceStrs B' w v xs := by
  obtain ⟨A, c, hv, hc, hi⟩ := h
  exact ⟨A, c, hv, hc, hi.mono hb⟩
theorem SliceStrs.len {B : Nat} {w : World} {v : Value} {xs : List (List UInt8)} (h : SliceStrs B w v xs) : xs.length ≤ maxLen := by
  obtain ⟨A, c, _, hc, _⟩ := h
  omega
theorem SliceStrs.later {w w' : World} {v : Value} {xs : List (List UInt8)} (h : SliceStrs w.heap.size w v xs) (hb : Below w.heap.size w w') : SliceStrs w'.heap.size w' v xs := (h.below hb).mono hb.size
/-- A slice's front. -/
theorem SliceStrs.take {B : Nat} {w : World} {A : Option Addr} {c : Nat} {xs : List (List UInt8)} (h : SliceStrs B w (.slice A xs.length c) xs) (n : Nat) (hn : n ≤ xs.length) : SliceStrs B w (.slice A n c) (xs.take n) := by
  obtain ⟨A', c', hv, hc, hi⟩ := h
  injection hv with h1 h2 h3
  subst h1 h3
  have hl : (xs.take n).length = n := by rw [List.length_take]; omega
  refine ⟨A, c, by rw [hl], ⟨by omega, hc.2⟩, fun k hk => ?_⟩
  obtain ⟨b, off, hA, hlt, hcl⟩ := hi k (by omega)
  refine ⟨b, off, hA, hlt, ?_⟩
  rw [hcl]
  have : k < n := by omega
  simp [List.getD, this]

/-- The call's own slice of strings. -/
abbrev OwnStrs (base : Nat) (w : World) (v : Value) (xs : List (List UInt8)) : Prop := w.ownsRow base 9 1 v xs.length (xs.map strV)
theorem OwnStrs.slice {base : Nat} {w : World} {v : Value} {xs : List (List UInt8)} (h : OwnStrs base w v xs) : SliceStrs w.heap.size w v xs := by
  have hlt := h.lt
  have hcell := @World.ownsRow.cells w base 9 1 v xs.length (xs.map strV) h
  rcases h.2 with ⟨rfl, hn⟩ | ⟨g, cap, cur, rfl, hb, hg, hc, hm, hs, ht⟩
  · have hx : xs = [] := List.eq_nil_of_length_eq_zero hn
    subst hx
    exact ⟨none, 0, rfl, ⟨Nat.le_refl _, Nat.zero_le _⟩, fun k hk => absurd hk (Nat.not_lt_zero _)⟩
  · refine ⟨some ⟨g, 0, none⟩, cap, rfl, ⟨hc, hm⟩, fun k hk => ⟨g, 0, rfl, (hlt g rfl).2, ?_⟩⟩
    have := hcell (g := g) rfl k (strV (xs.getD k [])) (by simp [List.getD, hk])
    rw [Addr.add_lit] at this
    exact this
/-- A slice of strings in a block of its own, from lo up to hi. -/
def OwnS (lo hi : Nat) (w : World) (v : Value) (xs : List (List UInt8)) : Prop := OwnStrs lo w v xs ∧ ∀ g, v.ownBlock = some g → g < hi
theorem OwnS.of {lo : Nat} {w : World} {v : Value} {xs : List (List UInt8)} (h : OwnStrs lo w v xs) : OwnS lo w.heap.size w v xs := ⟨h, fun g hg => (h.lt g hg).2⟩
theorem OwnS.below {lo hi : Nat} {w w' : World} {v : Value} {xs : List (List UInt8)} (h : OwnS lo hi w v xs) (hb : Below w.heap.size w w') : OwnS lo hi w' v xs := ⟨World.ownsRow.below h.1 hb, h.2⟩
theorem OwnS.slice {lo hi : Nat} {w : World} {v : Value} {xs : List (List UInt8)} (h : OwnS lo hi w v xs) : SliceStrs w.heap.size w v xs := OwnStrs.slice h.1
theorem OwnS.lower {lo lo' hi : Nat} {w : World} {v : Value} {xs : List (List UInt8)} (h : OwnS lo hi w v xs) (hl : lo' ≤ lo) : OwnS lo' hi w v xs := by
  refine ⟨⟨h.1.1, ?_⟩, h.2⟩
  rcases h.1.2 with hn | ⟨g, cap, cur, hv, hb, r⟩
  · exact .inl hn
  · exact .inr ⟨g, cap, cur, hv, Nat.le_trans hl hb, r⟩
/-- A new block of strings, as a slice. -/
theorem OwnStrs.alloc (w : World) (xs : List (List UInt8)) (hl : xs.length ≤ maxLen) (a : Array Value) (ha : a = (xs.map strV).toArray) :
    OwnStrs w.heap.size (w.alloc (.cells a 9)) (.slice (some ⟨w.heap.size, 0, none⟩) xs.length xs.length) xs := by
  subst ha
  exact ⟨by simp, .inr ⟨w.heap.size, xs.length, _, rfl, Nat.le_refl _, heap_new_at _ _ rfl, Nat.le_refl _, hl, by simp, by simp [List.take_of_length_le]⟩⟩
/-- An own slice's front. -/
theorem OwnS.take {lo hi : Nat} {w : World} {A : Option Addr} {c : Nat} {xs : List (List UInt8)} (h : OwnS lo hi w (.slice A xs.length c) xs) (n : Nat) (hn : n ≤ xs.length) : OwnS lo hi w (.slice A n c) (xs.take n) := by
  have hl : (xs.take n).length = n := by rw [List.length_take]; omega
  have hh := h.2
  refine ⟨⟨by simp, ?_⟩, fun g hg => hh g (by cases A <;> simp [Value.ownBlock] at hg ⊢ <;> exact hg)⟩
  rcases h.1.2 with ⟨hv, h0⟩ | ⟨g, cap, cur, hv, hb, hg, hc, hm, hs, ht⟩
  · injection hv with h1 h2 h3
    subst h1 h3
    exact .inl ⟨by rw [show n = 0 by omega], by omega⟩
  · injection hv with h1 h2 h3
    subst h1 h3
    refine .inr ⟨g, c, cur, by rw [hl], hb, hg, by omega, hm, hs, ?_⟩
    rw [hl, Nat.mul_one, List.map_take, ← ht, List.take_take, Nat.mul_one, Nat.min_eq_left hn]
end Go.Proofs.YtookcfpiegbafaaGreatDoor
