/- Slices that are read in blocks of a set. No condition. -/
import Derived.Test.YtookcfpiegbafaaGreatDoorFoot
namespace Go.Proofs.YtookcfpiegbafaaGreatDoor
open Go.RowKit
set_option maxRecDepth 100000

def IntsIn (F : Nat → Prop) (w : World) (A : Option Addr) (xs : List Int) : Prop :=
  ∀ k, k < xs.length → ∃ b off, A = some ⟨b, off, none⟩ ∧ (F b ∧ b < w.heap.size) ∧ w.cell? ⟨b, off + k, none⟩ = some (.int .i64 (xs.getD k 0))
def RdI (F : Nat → Prop) (w : World) (v : Value) (xs : List Int) : Prop := ∃ A c, v = .slice A xs.length c ∧ (xs.length ≤ c ∧ c ≤ maxLen) ∧ IntsIn F w A xs
def PartsIn (F : Nat → Prop) (w : World) (A : Option Addr) (ps : List Pt) : Prop :=
  ∀ k, k < ps.length → ∃ b off sv, A = some ⟨b, off, none⟩ ∧ (F b ∧ b < w.heap.size) ∧ w.cell? ⟨b, off + k * 3, none⟩ = some (.int .i64 (ps.getD k ⟨0, 0, []⟩).kind) ∧
    w.cell? ⟨b, off + k * 3 + 1, none⟩ = some (.int .i64 (ps.getD k ⟨0, 0, []⟩).n) ∧ w.cell? ⟨b, off + k * 3 + 2, none⟩ = some sv ∧ RdI F w sv (ps.getD k ⟨0, 0, []⟩).signs
def RdP (F : Nat → Prop) (w : World) (v : Value) (ps : List Pt) : Prop := ∃ A c, v = .slice A ps.length c ∧ (ps.length ≤ c ∧ c ≤ maxLen) ∧ PartsIn F w A ps

theorem Frame.cell {S : Nat → Prop} {a b : World} (h : Frame S a b) {g o : Nat} (hg : g < a.heap.size) (hs : ¬ S g) : b.cell? ⟨g, o, none⟩ = a.cell? ⟨g, o, none⟩ :=
  World.cell?_of_block (w := a) (h.block g hg hs)
theorem Frame.frozen {S : Nat → Prop} {a b : World} (h : Frame S a b) {g o : Nat} (hg : g < a.heap.size) (hs : ¬ S g) : b.frozen? ⟨g, o, none⟩ = a.frozen? ⟨g, o, none⟩ :=
  World.frozen?_of_block (w := a) (h.block g hg hs)
theorem IntsIn.frame {F S : Nat → Prop} {w w' : World} {A : Option Addr} {xs : List Int} (h : IntsIn F w A xs) (hf : Frame S w w') (hs : ∀ g, F g → ¬ S g) : IntsIn F w' A xs := fun k hk => by
  obtain ⟨b, off, hA, hb, hc⟩ := h k hk
  exact ⟨b, off, hA, ⟨hb.1, Nat.lt_of_lt_of_le hb.2 hf.size⟩, (hf.cell hb.2 (hs b hb.1)).trans hc⟩
theorem RdI.frame {F S : Nat → Prop} {w w' : World} {v : Value} {xs : List Int} (h : RdI F w v xs) (hf : Frame S w w') (hs : ∀ g, F g → ¬ S g) : RdI F w' v xs := by
  obtain ⟨A, c, hv, hc, hi⟩ := h
  exact ⟨A, c, hv, hc, hi.frame hf hs⟩
theorem PartsIn.frame {F S : Nat → Prop} {w w' : World} {A : Option Addr} {ps : List Pt} (h : PartsIn F w A ps) (hf : Frame S w w') (hs : ∀ g, F g → ¬ S g) : PartsIn F w' A ps := fun k hk => by
  obtain ⟨b, off, sv, hA, hb, h0, h1, h2, h3⟩ := h k hk
  exact ⟨b, off, sv, hA, ⟨hb.1, Nat.lt_of_lt_of_le hb.2 hf.size⟩, (hf.cell hb.2 (hs b hb.1)).trans h0, (hf.cell hb.2 (hs b hb.1)).trans h1, (hf.cell hb.2 (hs b hb.1)).trans h2, h3.frame hf hs⟩
theorem RdP.frame {F S : Nat → Prop} {w w' : World} {v : Value} {ps : List Pt} (h : RdP F w v ps) (hf : Frame S w w') (hs : ∀ g, F g → ¬ S g) : RdP F w' v ps := by
  obtain ⟨A, c, hv, hc, hi⟩ := h
  exact ⟨A, c, hv, hc, hi.frame hf hs⟩
theorem IntsIn.mono {F T : Nat → Prop} {w : World} {A : Option Addr} {xs : List Int} (h : IntsIn F w A xs) (hT : ∀ g, F g → T g) : IntsIn T w A xs := fun k hk => by
  obtain ⟨b, off, hA, hb, hc⟩ := h k hk
  exact ⟨b, off, hA, ⟨hT b hb.1, hb.2⟩, hc⟩
theorem RdI.mono {F T : Nat → Prop} {w : World} {v : Value} {xs : List Int} (h : RdI F w v xs) (hT : ∀ g, F g → T g) : RdI T w v xs := by
  obtain ⟨A, c, hv, hc, hi⟩ := h
  exact ⟨A, c, hv, hc, hi.mono hT⟩
theorem PartsIn.mono {F T : Nat → Prop} {w : World} {A : Option Addr} {ps : List Pt} (h : PartsIn F w A ps) (hT : ∀ g, F g → T g) : PartsIn T w A ps := fun k hk => by
  obtain ⟨b, off, sv, hA, hb, h0, h1, h2, h3⟩ := h k hk
  exact ⟨b, off, sv, hA, ⟨hT b hb.1, hb.2⟩, h0, h1, h2, h3.mono hT⟩
theorem RdP.mono {F T : Nat → Prop} {w : World} {v : Value} {ps : List Pt} (h : RdP F w v ps) (hT : ∀ g, F g → T g) : RdP T w v ps := by
  obtain ⟨A, c, hv, hc, hi⟩ := h
  exact ⟨A, c, hv, hc, hi.mono hT⟩
theorem IntsIn.ints {F : Nat → Prop} {w : World} {A : Option Addr} {xs : List Int} (h : IntsIn F w A xs) : IntsAt w.heap.size w A xs := fun k hk => by
  obtain ⟨b, off, hA, hb, hc⟩ := h k hk
  exact ⟨b, off, hA, hb.2, hc⟩
theorem RdI.slice {F : Nat → Prop} {w : World} {v : Value} {xs : List Int} (h : RdI F w v xs) : SliceInts w.heap.size w v xs := by
  obtain ⟨A, c, hv, hc, hi⟩ := h
  exact ⟨A, c, hv, hc, hi.ints⟩
theorem PartsIn.parts {F : Nat → Prop} {w : World} {A : Option Addr} {ps : List Pt} (h : PartsIn F w A ps) : PartsAt w.heap.size w A ps := fun k hk => by
  obtain ⟨b, off, sv, hA, hb, h0, h1, h2, h3⟩ := h k hk
  exact ⟨b, off, sv, hA, hb.2, h0, h1, h2, h3.slice⟩
theorem RdP.slice {F : Nat → Prop} {w : World} {v : Value} {ps : List Pt} (h : RdP F w v ps) : SliceParts w.heap.size w v ps := by
  obtain ⟨A, c, hv, hc, hi⟩ := h
  exact ⟨A, c, hv, hc, hi.parts⟩
theorem SliceInts.rd {B : Nat} {F : Nat → Prop} {w : World} {v : Value} {xs : List Int} (h : SliceInts B w v xs) (hB : B ≤ w.heap.size) (hF : ∀ b, b < B → F b) : RdI F w v xs := by
  obtain ⟨A, c, hv, hc, hi⟩ := h
  refine ⟨A, c, hv, hc, fun k hk => ?_⟩
  obtain ⟨b, off, hA, hb, hx⟩ := hi k hk
  exact ⟨b, off, hA, ⟨hF b hb, by omega⟩, hx⟩
theorem SliceParts.rd {B : Nat} {F : Nat → Prop} {w : World} {v : Value} {ps : List Pt} (h : SliceParts B w v ps) (hB : B ≤ w.heap.size) (hF : ∀ b, b < B → F b) : RdP F w v ps := by
  obtain ⟨A, c, hv, hc, hi⟩ := h
  refine ⟨A, c, hv, hc, fun k hk => ?_⟩
  obtain ⟨b, off, sv, hA, hb, h0, h1, h2, h3⟩ := hi k hk
  exact ⟨b, off, sv, hA, ⟨hF b hb, by omega⟩, h0, h1, h2, h3.rd hB hF⟩
theorem OwnI.rd {lo hi : Nat} {w : World} {v : Value} {xs : List Int} (h : OwnI lo hi w v xs) {F : Nat → Prop} (hF : ∀ b, lo ≤ b → b < hi → F b) : RdI F w v xs := by
  obtain ⟨A, c, hv, hc, hi'⟩ := h.slice
  refine ⟨A, c, hv, hc, fun k hk => ?_⟩
  obtain ⟨b, off, hA, hb, hx⟩ := hi' k hk
  have hob : v.ownBlock = some b := by rw [hv, hA]; rfl
  exact ⟨b, off, hA, ⟨hF b (h.1.lt b hob).1 (h.2 b hob), hb⟩, hx⟩
theorem OwnP.rd {lo hi : Nat} {w : World} {v : Value} {ps : List Pt} {svs : List Value} (h : OwnP lo hi w v ps svs) {F : Nat → Prop} (hF : ∀ b, lo ≤ b → b < hi → F b) : RdP F w v ps := by
  have hlt := h.row.lt
  have hcell := @World.ownsRow.cells w lo 47 3 v ps.length (cellsP ps svs) h.row
  have htop := h.top
  rcases h.row.2 with ⟨rfl, hn⟩ | ⟨g, cap, cur, rfl, hb, hg, hc, hm, hs, ht⟩
  · have hx : ps = [] := List.eq_nil_of_length_eq_zero hn
    subst hx
    exact ⟨none, 0, rfl, ⟨Nat.le_refl _, Nat.zero_le _⟩, fun k hk => absurd hk (Nat.not_lt_zero _)⟩
  · refine ⟨some ⟨g, 0, none⟩, cap, rfl, ⟨hc, hm⟩, fun k hk => ?_⟩
    obtain ⟨a0, a1, a2⟩ := cellsP_at ps svs k h.len hk
    have b0 := hcell (g := g) rfl _ _ a0
    have b1 := hcell (g := g) rfl _ _ a1
    have b2 := hcell (g := g) rfl _ _ a2
    rw [Addr.add_lit] at b0 b1 b2
    exact ⟨g, 0, _, rfl, ⟨hF g (hlt g rfl).1 (htop g rfl), (hlt g rfl).2⟩, b0, b1, b2, (h.each k hk).rd hF⟩
theorem RdI.len {F : Nat → Prop} {w : World} {v : Value} {xs : List Int} (h : RdI F w v xs) : xs.length ≤ maxLen := h.slice.len
theorem RdP.len {F : Nat → Prop} {w : World} {v : Value} {ps : List Pt} (h : RdP F w v ps) : ps.length ≤ maxLen := h.slice.len
end Go.Proofs.YtookcfpiegbafaaGreatDoor
