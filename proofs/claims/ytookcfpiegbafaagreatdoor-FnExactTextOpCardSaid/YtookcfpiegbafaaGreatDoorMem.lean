/- What lies in memory, as lists: slices of ints and of parts that are read, and those that a call made for itself. No condition. -/
import Derived.Test.YtookcfpiegbafaaGreatDoorPlain
import Derived.Laws.OwnMore
import Derived.OneCell
import Derived.WalkKit
namespace Go.Proofs.YtookcfpiegbafaaGreatDoor
open Go.RowKit
set_option maxRecDepth 100000

theorem ret_int {k : IntKind} {a b : Int} (h : a = b) : Ending.returned (.int k a) = .returned (.int k b) := by rw [h]
theorem ret_bool {a b : Bool} (h : a = b) : Ending.returned (.bool a) = .returned (.bool b) := by rw [h]
theorem ret_str {a b : ByteArray} (h : a = b) : Ending.returned (.string a) = .returned (.string b) := by rw [h]

/-- The ints xs can be read at A, in a block below B. -/
def IntsAt (B : Nat) (w : World) (A : Option Addr) (xs : List Int) : Prop :=
  ∀ k, k < xs.length → ∃ b off, A = some ⟨b, off, none⟩ ∧ b < B ∧ w.cell? ⟨b, off + k, none⟩ = some (.int .i64 (xs.getD k 0))

/-- The value v is a slice of the ints xs. -/
def SliceInts (B : Nat) (w : World) (v : Value) (xs : List Int) : Prop :=
  ∃ A c, v = .slice A xs.length c ∧ (xs.length ≤ c ∧ c ≤ maxLen) ∧ IntsAt B w A xs

def PartsAt (B : Nat) (w : World) (A : Option Addr) (ps : List Pt) : Prop :=
  ∀ k, k < ps.length → ∃ b off sv, A = some ⟨b, off, none⟩ ∧ b < B ∧ w.cell? ⟨b, off + k * 3, none⟩ = some (.int .i64 (ps.getD k ⟨0, 0, []⟩).kind) ∧
    w.cell? ⟨b, off + k * 3 + 1, none⟩ = some (.int .i64 (ps.getD k ⟨0, 0, []⟩).n) ∧ w.cell? ⟨b, off + k * 3 + 2, none⟩ = some sv ∧ SliceInts B w sv (ps.getD k ⟨0, 0, []⟩).signs

theorem IntsAt.below {B : Nat} {w w' : World} {A : Option Addr} {xs : List Int} (h : IntsAt B w A xs) (hb : Below B w w') : IntsAt B w' A xs := fun k hk => by
  obtain ⟨b, off, hA, hlt, hc⟩ := h k hk
  exact ⟨b, off, hA, hlt, (hb.cell (p := ⟨b, off + k, none⟩) hlt).trans hc⟩
theorem IntsAt.mono {B B' : Nat} {w : World} {A : Option Addr} {xs : List Int} (h : IntsAt B w A xs) (hb : B ≤ B') : IntsAt B' w A xs := fun k hk => by
  obtain ⟨b, off, hA, hlt, hc⟩ := h k hk
  exact ⟨b, off, hA, by omega, hc⟩
theorem SliceInts.below {B : Nat} {w w' : World} {v : Value} {xs : List Int} (h : SliceInts B w v xs) (hb : Below B w w') : SliceInts B w' v xs := by
  obtain ⟨A, c, hv, hc, hi⟩ := h
  exact ⟨A, c, hv, hc, hi.below hb⟩
theorem SliceInts.mono {B B' : Nat} {w : World} {v : Value} {xs : List Int} (h : SliceInts B w v xs) (hb : B ≤ B') : SliceInts B' w v xs := by
  obtain ⟨A, c, hv, hc, hi⟩ := h
  exact ⟨A, c, hv, hc, hi.mono hb⟩
theorem PartsAt.below {B : Nat} {w w' : World} {A : Option Addr} {ps : List Pt} (h : PartsAt B w A ps) (hb : Below B w w') : PartsAt B w' A ps := fun k hk => by
  obtain ⟨b, off, sv, hA, hlt, h0, h1, h2, hs⟩ := h k hk
  exact ⟨b, off, sv, hA, hlt, (hb.cell (p := ⟨b, _, none⟩) hlt).trans h0, (hb.cell (p := ⟨b, _, none⟩) hlt).trans h1, (hb.cell (p := ⟨b, _, none⟩) hlt).trans h2, hs.below hb⟩
theorem PartsAt.mono {B B' : Nat} {w : World} {A : Option Addr} {ps : List Pt} (h : PartsAt B w A ps) (hb : B ≤ B') : PartsAt B' w A ps := fun k hk => by
  obtain ⟨b, off, sv, hA, hlt, h0, h1, h2, hs⟩ := h k hk
  exact ⟨b, off, sv, hA, by omega, h0, h1, h2, hs.mono hb⟩

theorem SliceInts.len {B : Nat} {w : World} {v : Value} {xs : List Int} (h : SliceInts B w v xs) : xs.length ≤ maxLen := by
  obtain ⟨A, c, _, hc, _⟩ := h
  omega
theorem SliceInts.later {w w' : World} {v : Value} {xs : List Int} (h : SliceInts w.heap.size w v xs) (hb : Below w.heap.size w w') : SliceInts w'.heap.size w' v xs := (h.below hb).mono hb.size

/-- The call's own slice of ints. -/
abbrev OwnInts (base : Nat) (w : World) (v : Value) (xs : List Int) : Prop := w.ownsRow base 3 1 v xs.length (xs.map (Value.int .i64))

theorem OwnInts.slice {base : Nat} {w : World} {v : Value} {xs : List Int} (h : OwnInts base w v xs) : SliceInts w.heap.size w v xs := by
  have hlt := h.lt
  have hcell := @World.ownsRow.cells w base 3 1 v xs.length (xs.map (Value.int .i64)) h
  rcases h.2 with ⟨rfl, hn⟩ | ⟨g, cap, cur, rfl, hb, hg, hc, hm, hs, ht⟩
  · have hx : xs = [] := List.eq_nil_of_length_eq_zero hn
    subst hx
    exact ⟨none, 0, rfl, ⟨Nat.le_refl _, Nat.zero_le _⟩, fun k hk => absurd hk (Nat.not_lt_zero _)⟩
  · refine ⟨some ⟨g, 0, none⟩, cap, rfl, ⟨hc, hm⟩, fun k hk => ⟨g, 0, rfl, (hlt g rfl).2, ?_⟩⟩
    have := hcell (g := g) rfl k (.int .i64 (xs.getD k 0)) (by simp [List.getD, hk])
    rw [Addr.add_lit] at this
    exact this

theorem World.ownsRow.below {base e size n : Nat} {w w' : World} {v : Value} {xs : List Value} (h : w.ownsRow base e size v n xs) (hb : Below w.heap.size w w') : w'.ownsRow base e size v n xs := by
  refine h.kept (row := none) ⟨hb.os, hb.tape, hb.output, hb.size, fun k hk _ => hb.block k hk⟩ ?_
  cases v.ownBlock <;> simp

/-- w' is w but for the blocks from lo up to hi. -/
structure Within (lo hi : Nat) (w w' : World) : Prop where
  os : w'.os = w.os
  tape : w'.tape = w.tape
  output : w'.output = w.output
  size : w'.heap.size = w.heap.size
  block : ∀ k, ¬ (lo ≤ k ∧ k < hi) → w'.heap[k]? = w.heap[k]?
theorem Within.refl (lo hi : Nat) (w : World) : Within lo hi w w := ⟨rfl, rfl, rfl, rfl, fun _ _ => rfl⟩
theorem Within.trans {lo hi : Nat} {a b c : World} (h : Within lo hi a b) (k : Within lo hi b c) : Within lo hi a c :=
  ⟨k.os.trans h.os, k.tape.trans h.tape, k.output.trans h.output, k.size.trans h.size, fun i hi' => (k.block i hi').trans (h.block i hi')⟩
theorem Within.mono {lo hi lo' hi' : Nat} {a b : World} (h : Within lo hi a b) (h1 : lo' ≤ lo) (h2 : hi ≤ hi') : Within lo' hi' a b :=
  ⟨h.os, h.tape, h.output, h.size, fun i hi => h.block i (fun ⟨x, y⟩ => hi ⟨by omega, by omega⟩)⟩
theorem Within.below {lo hi B : Nat} {a b : World} (h : Within lo hi a b) (hB : B ≤ lo) : Below B a b :=
  ⟨h.os, h.tape, h.output, by rw [h.size]; exact Nat.le_refl _, fun i hi => h.block i (fun ⟨x, y⟩ => by omega)⟩
theorem Within.setCell (w : World) (g i : Nat) (u : Value) : Within g (g + 1) w (w.setCell ⟨g, i, none⟩ u) :=
  ⟨rfl, rfl, rfl, by simp [World.setCell], fun k hk => Below.heap_setCell _ _ _ _ (by show k ≠ g; omega)⟩
theorem Within.set {lo hi : Nat} {a w : World} (h : Within lo hi a w) {g : Nat} (h1 : lo ≤ g) (h2 : g < hi) (i : Nat) (u : Value) : Within lo hi a (w.setCell ⟨g, i, none⟩ u) :=
  h.trans ((Within.setCell w g i u).mono h1 h2)
theorem World.ownsRow.within {base e size n lo hi : Nat} {w w' : World} {v : Value} {xs : List Value} (h : w.ownsRow base e size v n xs) (hw : Within lo hi w w')
    (hd : ∀ g, v.ownBlock = some g → ¬ (lo ≤ g ∧ g < hi)) : w'.ownsRow base e size v n xs := by
  refine ⟨h.1, ?_⟩
  rcases h.2 with hn | ⟨g, cap, cur, rfl, hb, hg, r⟩
  · exact .inl hn
  · exact .inr ⟨g, cap, cur, rfl, hb, (hw.block g (hd g rfl)).trans hg, r⟩

/-- A slice of ints in a block of its own, from lo up to hi. -/
def OwnI (lo hi : Nat) (w : World) (v : Value) (xs : List Int) : Prop := OwnInts lo w v xs ∧ ∀ g, v.ownBlock = some g → g < hi
theorem OwnI.of {lo : Nat} {w : World} {v : Value} {xs : List Int} (h : OwnInts lo w v xs) : OwnI lo w.heap.size w v xs := ⟨h, fun g hg => (h.lt g hg).2⟩
theorem OwnI.below {lo hi : Nat} {w w' : World} {v : Value} {xs : List Int} (h : OwnI lo hi w v xs) (hb : Below w.heap.size w w') : OwnI lo hi w' v xs := ⟨World.ownsRow.below h.1 hb, h.2⟩
theorem OwnI.within {lo hi lo' hi' : Nat} {w w' : World} {v : Value} {xs : List Int} (h : OwnI lo hi w v xs) (hw : Within lo' hi' w w') (hd : hi ≤ lo' ∨ hi' ≤ lo) : OwnI lo hi w' v xs :=
  ⟨World.ownsRow.within h.1 hw fun g hg hgg => by have := h.2 g hg; have := (h.1.lt g hg).1; omega, h.2⟩
theorem OwnI.slice {lo hi : Nat} {w : World} {v : Value} {xs : List Int} (h : OwnI lo hi w v xs) : SliceInts w.heap.size w v xs := OwnInts.slice h.1
theorem SliceInts.within {B lo hi : Nat} {w w' : World} {v : Value} {xs : List Int} (h : SliceInts B w v xs) (hw : Within lo hi w w') (hB : B ≤ lo) : SliceInts B w' v xs := h.below (hw.below hB)

/-- The value v is a part (a struct by value). -/
def PartV (B : Nat) (w : World) (v : Value) (p : Pt) : Prop := ∃ sv, v = .agg #[.int .i64 p.kind, .int .i64 p.n, sv] ∧ SliceInts B w sv p.signs
/-- The value v is a slice of the parts ps. -/
def SliceParts (B : Nat) (w : World) (v : Value) (ps : List Pt) : Prop := ∃ A c, v = .slice A ps.length c ∧ (ps.length ≤ c ∧ c ≤ maxLen) ∧ PartsAt B w A ps
theorem SliceParts.below {B : Nat} {w w' : World} {v : Value} {ps : List Pt} (h : SliceParts B w v ps) (hb : Below B w w') : SliceParts B w' v ps := by
  obtain ⟨A, c, hv, hc, hi⟩ := h
  exact ⟨A, c, hv, hc, hi.below hb⟩
theorem SliceParts.mono {B B' : Nat} {w : World} {v : Value} {ps : List Pt} (h : SliceParts B w v ps) (hb : B ≤ B') : SliceParts B' w v ps := by
  obtain ⟨A, c, hv, hc, hi⟩ := h
  exact ⟨A, c, hv, hc, hi.mono hb⟩
theorem SliceParts.len {B : Nat} {w : World} {v : Value} {ps : List Pt} (h : SliceParts B w v ps) : ps.length ≤ maxLen := by
  obtain ⟨A, c, _, hc, _⟩ := h
  omega
theorem SliceParts.later {w w' : World} {v : Value} {ps : List Pt} (h : SliceParts w.heap.size w v ps) (hb : Below w.heap.size w w') : SliceParts w'.heap.size w' v ps := (h.below hb).mono hb.size
theorem SliceParts.within {B lo hi : Nat} {w w' : World} {v : Value} {ps : List Pt} (h : SliceParts B w v ps) (hw : Within lo hi w w') (hB : B ≤ lo) : SliceParts B w' v ps := h.below (hw.below hB)
theorem PartV.below {B : Nat} {w w' : World} {v : Value} {p : Pt} (h : PartV B w v p) (hb : Below B w w') : PartV B w' v p := by
  obtain ⟨sv, hv, hs⟩ := h
  exact ⟨sv, hv, hs.below hb⟩
theorem PartV.mono {B B' : Nat} {w : World} {v : Value} {p : Pt} (h : PartV B w v p) (hb : B ≤ B') : PartV B' w v p := by
  obtain ⟨sv, hv, hs⟩ := h
  exact ⟨sv, hv, hs.mono hb⟩
theorem PartV.later {w w' : World} {v : Value} {p : Pt} (h : PartV w.heap.size w v p) (hb : Below w.heap.size w w') : PartV w'.heap.size w' v p := (h.below hb).mono hb.size

/-- The cells of a list of parts whose character slices are svs. -/
def cellsP : List Pt → List Value → List Value
  | p :: ps, sv :: svs => .int .i64 p.kind :: .int .i64 p.n :: sv :: cellsP ps svs
  | _, _ => []
theorem cellsP_length : ∀ (ps : List Pt) (svs : List Value), svs.length = ps.length → (cellsP ps svs).length = ps.length * 3
  | [], [], _ => rfl
  | [], _ :: _, h => by simp at h
  | _ :: _, [], h => by simp at h
  | p :: ps, sv :: svs, h => by
    have := cellsP_length ps svs (by simpa using h)
    simp only [cellsP, List.length_cons, this]
    omega
theorem cellsP_at : ∀ (ps : List Pt) (svs : List Value) (k : Nat), svs.length = ps.length → k < ps.length →
    (cellsP ps svs)[k * 3]? = some (.int .i64 (ps.getD k ⟨0, 0, []⟩).kind) ∧ (cellsP ps svs)[k * 3 + 1]? = some (.int .i64 (ps.getD k ⟨0, 0, []⟩).n) ∧ (cellsP ps svs)[k * 3 + 2]? = some (svs.getD k undef)
  | [], _, _, _, h => absurd h (Nat.not_lt_zero _)
  | _ :: _, [], _, h, _ => by simp at h
  | p :: ps, sv :: svs, 0, _, _ => by simp [cellsP]
  | p :: ps, sv :: svs, k + 1, h, hk => by
    have := cellsP_at ps svs k (by simpa using h) (by simpa using hk)
    rw [show (k + 1) * 3 = k * 3 + 1 + 1 + 1 by omega]
    simpa [cellsP] using this
theorem cellsP_append : ∀ (ps qs : List Pt) (svs tvs : List Value), svs.length = ps.length → cellsP (ps ++ qs) (svs ++ tvs) = cellsP ps svs ++ cellsP qs tvs
  | [], _, [], _, _ => rfl
  | [], _, _ :: _, _, h => by simp at h
  | _ :: _, _, [], _, h => by simp at h
  | p :: ps, qs, sv :: svs, tvs, h => by
    have := cellsP_append ps qs svs tvs (by simpa using h)
    simp [cellsP, this]

/-- A slice of parts in a block of its own, each part's characters in a block of their own, from lo up to hi. -/
structure OwnP (lo hi : Nat) (w : World) (v : Value) (ps : List Pt) (svs : List Value) : Prop where
  row : w.ownsRow lo 47 3 v ps.length (cellsP ps svs)
  top : ∀ g, v.ownBlock = some g → g < hi
  len : svs.length = ps.length
  each : ∀ k, k < ps.length → OwnI lo hi w (svs.getD k undef) (ps.getD k ⟨0, 0, []⟩).signs
  apart : ∀ i j, i < j → j < ps.length → (svs.getD i undef).ownBlock = none ∨ (svs.getD i undef).ownBlock ≠ (svs.getD j undef).ownBlock

theorem OwnP.below {lo hi : Nat} {w w' : World} {v : Value} {ps : List Pt} {svs : List Value} (h : OwnP lo hi w v ps svs) (hb : Below w.heap.size w w') : OwnP lo hi w' v ps svs :=
  ⟨World.ownsRow.below h.row hb, h.top, h.len, fun k hk => (h.each k hk).below hb, h.apart⟩
theorem OwnP.within {lo hi lo' hi' : Nat} {w w' : World} {v : Value} {ps : List Pt} {svs : List Value} (h : OwnP lo hi w v ps svs) (hw : Within lo' hi' w w') (hd : hi ≤ lo' ∨ hi' ≤ lo) : OwnP lo hi w' v ps svs :=
  ⟨World.ownsRow.within h.row hw fun g hg hgg => by have := h.top g hg; have := (h.row.lt g hg).1; omega, h.top, h.len, fun k hk => (h.each k hk).within hw hd, h.apart⟩
theorem OwnP.slice {lo hi : Nat} {w : World} {v : Value} {ps : List Pt} {svs : List Value} (h : OwnP lo hi w v ps svs) : SliceParts w.heap.size w v ps := by
  have hlt := h.row.lt
  have hcell := @World.ownsRow.cells w lo 47 3 v ps.length (cellsP ps svs) h.row
  rcases h.row.2 with ⟨rfl, hn⟩ | ⟨g, cap, cur, rfl, hb, hg, hc, hm, hs, ht⟩
  · have hx : ps = [] := List.eq_nil_of_length_eq_zero hn
    subst hx
    exact ⟨none, 0, rfl, ⟨Nat.le_refl _, Nat.zero_le _⟩, fun k hk => absurd hk (Nat.not_lt_zero _)⟩
  · refine ⟨some ⟨g, 0, none⟩, cap, rfl, ⟨hc, hm⟩, fun k hk => ?_⟩
    obtain ⟨a0, a1, a2⟩ := cellsP_at ps svs k h.len hk
    have b0 := hcell (g := g) rfl _ _ a0
    have b1 := hcell (g := g) rfl _ _ a1
    have b2 := hcell (g := g) rfl _ _ a2
    rw [Addr.add_lit] at b0 b1 b2
    exact ⟨g, 0, _, rfl, (hlt g rfl).2, b0, b1, b2, (h.each k hk).slice⟩
theorem OwnP.nil (lo hi : Nat) (w : World) : OwnP lo hi w (.slice none 0 0) [] [] :=
  ⟨World.ownsRow_nil _ _ _ _, fun g hg => by simp [Value.ownBlock] at hg, rfl, fun k hk => absurd hk (Nat.not_lt_zero _), fun i j _ hj => absurd hj (Nat.not_lt_zero _)⟩
theorem OwnP.upto {lo hi hi' : Nat} {w : World} {v : Value} {ps : List Pt} {svs : List Value} (h : OwnP lo hi w v ps svs) (hh : hi ≤ hi') : OwnP lo hi' w v ps svs :=
  ⟨h.row, fun g hg => by have := h.top g hg; omega, h.len, fun k hk => ⟨(h.each k hk).1, fun g hg => by have := (h.each k hk).2 g hg; omega⟩, h.apart⟩

theorem heap_new_at (w : World) (o : Obj) {k : Nat} (h : k = w.heap.size) : (w.alloc o).heap[k]? = some o := by
  subst h
  show (w.heap.push o)[w.heap.size]? = some o
  simp
/-- A block of three cells. -/
theorem blk3 {w : World} {g : Nat} {x y z : Value} {t : TypeId} (h : w.heap[g]? = some (.cells #[x, y, z] t (0, 0))) :
    w.cell? ⟨g, 0, none⟩ = some x ∧ w.cell? ⟨g, 1, none⟩ = some y ∧ w.cell? ⟨g, 2, none⟩ = some z ∧ (∀ j, w.frozen? ⟨g, j, none⟩ = false) ∧ g < w.heap.size := by
  refine ⟨?_, ?_, ?_, ?_, lt_of_block h⟩
  · rw [cell_of_row w g 0 _ t (0, 0) h]; rfl
  · rw [cell_of_row w g 1 _ t (0, 0) h]; rfl
  · rw [cell_of_row w g 2 _ t (0, 0) h]; rfl
  · intro j
    simp [World.frozen?, h]

end Go.Proofs.YtookcfpiegbafaaGreatDoor
