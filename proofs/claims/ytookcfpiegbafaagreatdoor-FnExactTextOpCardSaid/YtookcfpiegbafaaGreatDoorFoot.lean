/- Footprints: a world that differs from another one in the blocks of a set alone, and in new blocks. No condition. -/
import Derived.Test.YtookcfpiegbafaaGreatDoorMem
import Derived.Maps.AppendAt
namespace Go.Proofs.YtookcfpiegbafaaGreatDoor
open Go.RowKit
set_option maxRecDepth 100000

/-- w' is w but for the blocks of S and new blocks. -/
structure Frame (S : Nat → Prop) (w w' : World) : Prop where
  os : w'.os = w.os
  tape : w'.tape = w.tape
  output : w'.output = w.output
  size : w.heap.size ≤ w'.heap.size
  block : ∀ k, k < w.heap.size → ¬ S k → w'.heap[k]? = w.heap[k]?

theorem Frame.refl (S : Nat → Prop) (w : World) : Frame S w w := ⟨rfl, rfl, rfl, Nat.le_refl _, fun _ _ _ => rfl⟩
theorem Frame.trans {S T : Nat → Prop} {a b c : World} (h : Frame S a b) (k : Frame T b c) (hT : ∀ i, i < a.heap.size → T i → S i) : Frame S a c :=
  ⟨k.os.trans h.os, k.tape.trans h.tape, k.output.trans h.output, Nat.le_trans h.size k.size,
    fun i hi hs => (k.block i (Nat.lt_of_lt_of_le hi h.size) (fun ht => hs (hT i hi ht))).trans (h.block i hi hs)⟩
theorem Frame.mono {S T : Nat → Prop} {a b : World} (h : Frame S a b) (hT : ∀ i, i < a.heap.size → S i → T i) : Frame T a b :=
  ⟨h.os, h.tape, h.output, h.size, fun i hi hs => h.block i hi (fun hx => hs (hT i hi hx))⟩
theorem Frame.below {S : Nat → Prop} {a b : World} {B : Nat} (h : Frame S a b) (hS : ∀ i, S i → B ≤ i) (hB : B ≤ a.heap.size) : Below B a b :=
  ⟨h.os, h.tape, h.output, h.size, fun i hi => h.block i (by omega) (fun hs => by have := hS i hs; omega)⟩
theorem Frame.ofBelow {S : Nat → Prop} {a b : World} (h : Below a.heap.size a b) : Frame S a b :=
  ⟨h.os, h.tape, h.output, h.size, fun i hi _ => h.block i hi⟩
theorem Frame.grown {S : Nat → Prop} {a b : World} {row : Option Nat} (h : a.grownBy b row) (hS : ∀ k, row = some k → S k) : Frame S a b :=
  ⟨h.os, h.tape, h.output, h.size, fun i hi hs => h.block i hi (fun e => hs (hS i e.symm))⟩
theorem Frame.setCell (S : Nat → Prop) (w : World) (p : Addr) (u : Value) (h : S p.block) : Frame S w (w.setCell p u) :=
  ⟨rfl, rfl, rfl, by simp [World.setCell], fun k _ hs => Below.heap_setCell _ _ _ _ (fun e => hs (by rw [e]; exact h))⟩
theorem Frame.alloc (S : Nat → Prop) (w : World) (o : Obj) : Frame S w (w.alloc o) := ⟨rfl, rfl, rfl, by simp, fun k hk _ => Below.heap_alloc _ _ _ hk⟩
theorem Frame.drew (S : Nat → Prop) (w : World) : Frame S w w.drew := ⟨rfl, rfl, rfl, Nat.le_refl _, fun _ _ _ => rfl⟩
theorem Frame.heap {S : Nat → Prop} {a b : World} (h : Frame S a b) {g : Nat} {o : Obj} (hg : a.heap[g]? = some o) (hs : ¬ S g) : b.heap[g]? = some o :=
  (h.block g (lt_of_block hg) hs).trans hg
theorem Frame.row {S : Nat → Prop} {w w' : World} (h : Frame S w w') {base e size n : Nat} {v : Value} {xs : List Value} (hr : w.ownsRow base e size v n xs)
    (hd : ∀ g, v.ownBlock = some g → ¬ S g) : w'.ownsRow base e size v n xs := by
  refine ⟨hr.1, ?_⟩
  rcases hr.2 with hn | ⟨g, cap, cur, rfl, hb, hg, r⟩
  · exact .inl hn
  · exact .inr ⟨g, cap, cur, rfl, hb, h.heap hg (hd g rfl), r⟩
theorem World.ownsRow.base {base base' e size n : Nat} {w : World} {v : Value} {xs : List Value} (hr : w.ownsRow base e size v n xs)
    (hd : ∀ g, v.ownBlock = some g → base' ≤ g) : w.ownsRow base' e size v n xs := by
  refine ⟨hr.1, ?_⟩
  rcases hr.2 with hn | ⟨g, cap, cur, rfl, hb, hg, r⟩
  · exact .inl hn
  · exact .inr ⟨g, cap, cur, rfl, hd g rfl, hg, r⟩

/-- A block of one cell, one of three. -/
def Cell1 (w : World) (g : Nat) (t : TypeId) (v : Value) : Prop := w.heap[g]? = some (.cells #[v] t (0, 0))
theorem Cell1.frame {S : Nat → Prop} {w w' : World} {g : Nat} {t : TypeId} {v : Value} (h : Cell1 w g t v) (hf : Frame S w w') (hs : ¬ S g) : Cell1 w' g t v := hf.heap h hs
theorem Cell1.lt {w : World} {g : Nat} {t : TypeId} {v : Value} (h : Cell1 w g t v) : g < w.heap.size := lt_of_block h
theorem Cell1.cell {w : World} {g : Nat} {t : TypeId} {v : Value} (h : Cell1 w g t v) : w.cell? ⟨g, 0, none⟩ = some v := cell_of_one h
theorem Cell1.free {w : World} {g : Nat} {t : TypeId} {v : Value} (h : Cell1 w g t v) : w.frozen? ⟨g, 0, none⟩ = false := free_of_one h
theorem Cell1.set {w : World} {g : Nat} {t : TypeId} {v : Value} (h : Cell1 w g t v) (u : Value) : Cell1 (w.setCell ⟨g, 0, none⟩ u) g t u := one_setCell h
end Go.Proofs.YtookcfpiegbafaaGreatDoor
