/- Several texts in one; each begins with its own note. No condition but those told there. -/
import Derived.Test.YtookcfpiegbafaaGreatDoorGA
import Derived.Laws.OwnMore
import Derived.OneCell
import Derived.WalkKit
import Derived.Maps.AppendAt
import Derived.OwnWalk
import Derived.Deep.AppendLies
/- What lies in memory, as lists: slices of ints and of parts that are read, and those that a call made for itself. No condition. -/
namespace Go.Proofs.YtookcfpiegbafaaGreatDoor
open Go.RowKit
set_option maxRecDepth 100000

theorem ret_int {k : IntKind} {a b : Int} (h : a = b) : Ending.returned (.int k a) = .returned (.int k b) := by rw [h]
theorem ret_bool {a b : Bool} (h : a = b) : Ending.returned (.bool a) = .returned (.bool b) := by rw [h]
theorem ret_str {a b : ByteArray} (h : a = b) : Ending.returned (.string a) = .returned (.string b) := by rw [h]

/-- The ints xs can be read at A, in a block below B. -/
def IntsAt (B : Nat) (w : World) (A : Option Addr) (xs : List Int) : Prop :=
  ∀ k, k < xs.length → ∃ b off, A = some ⟨b, off, none⟩ ∧ b < B ∧ w.cell? ⟨b, off + k, none⟩ = some (.int .i64 (xs.getD k 0))

/-- The value v is a slice of the ints xs. -/
def SliceInts (B : Nat) (w : World) (v : Value) (xs : List Int) : Prop :=
  ∃ A c, v = .slice A xs.length c ∧ (xs.length ≤ c ∧ c ≤ maxLen) ∧ IntsAt B w A xs

def PartsAt (B : Nat) (w : World) (A : Option Addr) (ps : List Pt) : Prop :=
  ∀ k, k < ps.length → ∃ b off sv, A = some ⟨b, off, none⟩ ∧ b < B ∧ w.cell? ⟨b, off + k * 3, none⟩ = some (.int .i64 (ps.getD k ⟨0, 0, []⟩).kind) ∧
    w.cell? ⟨b, off + k * 3 + 1, none⟩ = some (.int .i64 (ps.getD k ⟨0, 0, []⟩).n) ∧ w.cell? ⟨b, off + k * 3 + 2, none⟩ = some sv ∧ SliceInts B w sv (ps.getD k ⟨0, 0, []⟩).signs

theorem IntsAt.below {B : Nat} {w w' : World} {A : Option Addr} {xs : List Int} (h : IntsAt B w A xs) (hb : Below B w w') : IntsAt B w' A xs := fun k hk => by
  obtain ⟨b, off, hA, hlt, hc⟩ := h k hk
  exact ⟨b, off, hA, hlt, (hb.cell (p := ⟨b, off + k, none⟩) hlt).trans hc⟩
theorem IntsAt.mono {B B' : Nat} {w : World} {A : Option Addr} {xs : List Int} (h : IntsAt B w A xs) (hb : B ≤ B') : IntsAt B' w A xs := fun k hk => by
  obtain ⟨b, off, hA, hlt, hc⟩ := h k hk
  exact ⟨b, off, hA, by omega, hc⟩
theorem SliceInts.below {B : Nat} {w w' : World} {v : Value} {xs : List Int} (h : SliceInts B w v xs) (hb : Below B w w') : SliceInts B w' v xs := by
  obtain ⟨A, c, hv, hc, hi⟩ := h
  exact ⟨A, c, hv, hc, hi.below hb⟩
theorem SliceInts.mono {B B' : Nat} {w : World} {v : Value} {xs : List Int} (h : SliceInts B w v xs) (hb : B ≤ B') : SliceInts B' w v xs := by
  obtain ⟨A, c, hv, hc, hi⟩ := h
  exact ⟨A, c, hv, hc, hi.mono hb⟩
theorem PartsAt.below {B : Nat} {w w' : World} {A : Option Addr} {ps : List Pt} (h : PartsAt B w A ps) (hb : Below B w w') : PartsAt B w' A ps := fun k hk => by
  obtain ⟨b, off, sv, hA, hlt, h0, h1, h2, hs⟩ := h k hk
  exact ⟨b, off, sv, hA, hlt, (hb.cell (p := ⟨b, _, none⟩) hlt).trans h0, (hb.cell (p := ⟨b, _, none⟩) hlt).trans h1, (hb.cell (p := ⟨b, _, none⟩) hlt).trans h2, hs.below hb⟩
theorem PartsAt.mono {B B' : Nat} {w : World} {A : Option Addr} {ps : List Pt} (h : PartsAt B w A ps) (hb : B ≤ B') : PartsAt B' w A ps := fun k hk => by
  obtain ⟨b, off, sv, hA, hlt, h0, h1, h2, hs⟩ := h k hk
  exact ⟨b, off, sv, hA, by omega, h0, h1, h2, hs.mono hb⟩

theorem SliceInts.len {B : Nat} {w : World} {v : Value} {xs : List Int} (h : SliceInts B w v xs) : xs.length ≤ maxLen := by
  obtain ⟨A, c, _, hc, _⟩ := h
  omega
theorem SliceInts.later {w w' : World} {v : Value} {xs : List Int} (h : SliceInts w.heap.size w v xs) (hb : Below w.heap.size w w') : SliceInts w'.heap.size w' v xs := (h.below hb).mono hb.size

/-- The call's own slice of ints. -/
abbrev OwnInts (base : Nat) (w : World) (v : Value) (xs : List Int) : Prop := w.ownsRow base 3 1 v xs.length (xs.map (Value.int .i64))

theorem OwnInts.slice {base : Nat} {w : World} {v : Value} {xs : List Int} (h : OwnInts base w v xs) : SliceInts w.heap.size w v xs := by
  have hlt := h.lt
  have hcell := @World.ownsRow.cells w base 3 1 v xs.length (xs.map (Value.int .i64)) h
  rcases h.2 with ⟨rfl, hn⟩ | ⟨g, cap, cur, rfl, hb, hg, hc, hm, hs, ht⟩
  · have hx : xs = [] := List.eq_nil_of_length_eq_zero hn
    subst hx
    exact ⟨none, 0, rfl, ⟨Nat.le_refl _, Nat.zero_le _⟩, fun k hk => absurd hk (Nat.not_lt_zero _)⟩
  · refine ⟨some ⟨g, 0, none⟩, cap, rfl, ⟨hc, hm⟩, fun k hk => ⟨g, 0, rfl, (hlt g rfl).2, ?_⟩⟩
    have := hcell (g := g) rfl k (.int .i64 (xs.getD k 0)) (by simp [List.getD, hk])
    rw [Addr.add_lit] at this
    exact this

theorem World.ownsRow.below {base e size n : Nat} {w w' : World} {v : Value} {xs : List Value} (h : w.ownsRow base e size v n xs) (hb : Below w.heap.size w w') : w'.ownsRow base e size v n xs := by
  refine h.kept (row := none) ⟨hb.os, hb.tape, hb.output, hb.size, fun k hk _ => hb.block k hk⟩ ?_
  cases v.ownBlock <;> simp

/-- w' is w but for the blocks from lo up to hi. -/
structure Within (lo hi : Nat) (w w' : World) : Prop where
  os : w'.os = w.os
  tape : w'.tape = w.tape
  output : w'.output = w.output
  size : w'.heap.size = w.heap.size
  block : ∀ k, ¬ (lo ≤ k ∧ k < hi) → w'.heap[k]? = w.heap[k]?
theorem Within.refl (lo hi : Nat) (w : World) : Within lo hi w w := ⟨rfl, rfl, rfl, rfl, fun _ _ => rfl⟩
theorem Within.trans {lo hi : Nat} {a b c : World} (h : Within lo hi a b) (k : Within lo hi b c) : Within lo hi a c :=
  ⟨k.os.trans h.os, k.tape.trans h.tape, k.output.trans h.output, k.size.trans h.size, fun i hi' => (k.block i hi').trans (h.block i hi')⟩
theorem Within.mono {lo hi lo' hi' : Nat} {a b : World} (h : Within lo hi a b) (h1 : lo' ≤ lo) (h2 : hi ≤ hi') : Within lo' hi' a b :=
  ⟨h.os, h.tape, h.output, h.size, fun i hi => h.block i (fun ⟨x, y⟩ => hi ⟨by omega, by omega⟩)⟩
theorem Within.below {lo hi B : Nat} {a b : World} (h : Within lo hi a b) (hB : B ≤ lo) : Below B a b :=
  ⟨h.os, h.tape, h.output, by rw [h.size]; exact Nat.le_refl _, fun i hi => h.block i (fun ⟨x, y⟩ => by omega)⟩
theorem Within.setCell (w : World) (g i : Nat) (u : Value) : Within g (g + 1) w (w.setCell ⟨g, i, none⟩ u) :=
  ⟨rfl, rfl, rfl, by simp [World.setCell], fun k hk => Below.heap_setCell _ _ _ _ (by show k ≠ g; omega)⟩
theorem Within.set {lo hi : Nat} {a w : World} (h : Within lo hi a w) {g : Nat} (h1 : lo ≤ g) (h2 : g < hi) (i : Nat) (u : Value) : Within lo hi a (w.setCell ⟨g, i, none⟩ u) :=
  h.trans ((Within.setCell w g i u).mono h1 h2)
theorem World.ownsRow.within {base e size n lo hi : Nat} {w w' : World} {v : Value} {xs : List Value} (h : w.ownsRow base e size v n xs) (hw : Within lo hi w w')
    (hd : ∀ g, v.ownBlock = some g → ¬ (lo ≤ g ∧ g < hi)) : w'.ownsRow base e size v n xs := by
  refine ⟨h.1, ?_⟩
  rcases h.2 with hn | ⟨g, cap, cur, rfl, hb, hg, r⟩
  · exact .inl hn
  · exact .inr ⟨g, cap, cur, rfl, hb, (hw.block g (hd g rfl)).trans hg, r⟩

/-- A slice of ints in a block of its own, from lo up to hi. -/
def OwnI (lo hi : Nat) (w : World) (v : Value) (xs : List Int) : Prop := OwnInts lo w v xs ∧ ∀ g, v.ownBlock = some g → g < hi
theorem OwnI.of {lo : Nat} {w : World} {v : Value} {xs : List Int} (h : OwnInts lo w v xs) : OwnI lo w.heap.size w v xs := ⟨h, fun g hg => (h.lt g hg).2⟩
theorem OwnI.below {lo hi : Nat} {w w' : World} {v : Value} {xs : List Int} (h : OwnI lo hi w v xs) (hb : Below w.heap.size w w') : OwnI lo hi w' v xs := ⟨World.ownsRow.below h.1 hb, h.2⟩
theorem OwnI.within {lo hi lo' hi' : Nat} {w w' : World} {v : Value} {xs : List Int} (h : OwnI lo hi w v xs) (hw : Within lo' hi' w w') (hd : hi ≤ lo' ∨ hi' ≤ lo) : OwnI lo hi w' v xs :=
  ⟨World.ownsRow.within h.1 hw fun g hg hgg => by have := h.2 g hg; have := (h.1.lt g hg).1; omega, h.2⟩
theorem OwnI.slice {lo hi : Nat} {w : World} {v : Value} {xs : List Int} (h : OwnI lo hi w v xs) : SliceInts w.heap.size w v xs := OwnInts.slice h.1
theorem SliceInts.within {B lo hi : Nat} {w w' : World} {v : Value} {xs : List Int} (h : SliceInts B w v xs) (hw : Within lo hi w w') (hB : B ≤ lo) : SliceInts B w' v xs := h.below (hw.below hB)

/-- The value v is a part (a struct by value). -/
def PartV (B : Nat) (w : World) (v : Value) (p : Pt) : Prop := ∃ sv, v = .agg #[.int .i64 p.kind, .int .i64 p.n, sv] ∧ SliceInts B w sv p.signs
/-- The value v is a slice of the parts ps. -/
def SliceParts (B : Nat) (w : World) (v : Value) (ps : List Pt) : Prop := ∃ A c, v = .slice A ps.length c ∧ (ps.length ≤ c ∧ c ≤ maxLen) ∧ PartsAt B w A ps
theorem SliceParts.below {B : Nat} {w w' : World} {v : Value} {ps : List Pt} (h : SliceParts B w v ps) (hb : Below B w w') : SliceParts B w' v ps := by
  obtain ⟨A, c, hv, hc, hi⟩ := h
  exact ⟨A, c, hv, hc, hi.below hb⟩
theorem SliceParts.mono {B B' : Nat} {w : World} {v : Value} {ps : List Pt} (h : SliceParts B w v ps) (hb : B ≤ B') : SliceParts B' w v ps := by
  obtain ⟨A, c, hv, hc, hi⟩ := h
  exact ⟨A, c, hv, hc, hi.mono hb⟩
theorem SliceParts.len {B : Nat} {w : World} {v : Value} {ps : List Pt} (h : SliceParts B w v ps) : ps.length ≤ maxLen := by
  obtain ⟨A, c, _, hc, _⟩ := h
  omega
theorem SliceParts.later {w w' : World} {v : Value} {ps : List Pt} (h : SliceParts w.heap.size w v ps) (hb : Below w.heap.size w w') : SliceParts w'.heap.size w' v ps := (h.below hb).mono hb.size
theorem SliceParts.within {B lo hi : Nat} {w w' : World} {v : Value} {ps : List Pt} (h : SliceParts B w v ps) (hw : Within lo hi w w') (hB : B ≤ lo) : SliceParts B w' v ps := h.below (hw.below hB)
theorem PartV.below {B : Nat} {w w' : World} {v : Value} {p : Pt} (h : PartV B w v p) (hb : Below B w w') : PartV B w' v p := by
  obtain ⟨sv, hv, hs⟩ := h
  exact ⟨sv, hv, hs.below hb⟩
theorem PartV.mono {B B' : Nat} {w : World} {v : Value} {p : Pt} (h : PartV B w v p) (hb : B ≤ B') : PartV B' w v p := by
  obtain ⟨sv, hv, hs⟩ := h
  exact ⟨sv, hv, hs.mono hb⟩
theorem PartV.later {w w' : World} {v : Value} {p : Pt} (h : PartV w.heap.size w v p) (hb : Below w.heap.size w w') : PartV w'.heap.size w' v p := (h.below hb).mono hb.size

/-- The cells of a list of parts whose character slices are svs. -/
def cellsP : List Pt → List Value → List Value
  | p :: ps, sv :: svs => .int .i64 p.kind :: .int .i64 p.n :: sv :: cellsP ps svs
  | _, _ => []
theorem cellsP_length : ∀ (ps : List Pt) (svs : List Value), svs.length = ps.length → (cellsP ps svs).length = ps.length * 3
  | [], [], _ => rfl
  | [], _ :: _, h => by simp at h
  | _ :: _, [], h => by simp at h
  | p :: ps, sv :: svs, h => by
    have := cellsP_length ps svs (by simpa using h)
    simp only [cellsP, List.length_cons, this]
    omega
theorem cellsP_at : ∀ (ps : List Pt) (svs : List Value) (k : Nat), svs.length = ps.length → k < ps.length →
    (cellsP ps svs)[k * 3]? = some (.int .i64 (ps.getD k ⟨0, 0, []⟩).kind) ∧ (cellsP ps svs)[k * 3 + 1]? = some (.int .i64 (ps.getD k ⟨0, 0, []⟩).n) ∧ (cellsP ps svs)[k * 3 + 2]? = some (svs.getD k undef)
  | [], _, _, _, h => absurd h (Nat.not_lt_zero _)
  | _ :: _, [], _, h, _ => by simp at h
  | p :: ps, sv :: svs, 0, _, _ => by simp [cellsP]
  | p :: ps, sv :: svs, k + 1, h, hk => by
    have := cellsP_at ps svs k (by simpa using h) (by simpa using hk)
    rw [show (k + 1) * 3 = k * 3 + 1 + 1 + 1 by omega]
    simpa [cellsP] using this
theorem cellsP_append : ∀ (ps qs : List Pt) (svs tvs : List Value), svs.length = ps.length → cellsP (ps ++ qs) (svs ++ tvs) = cellsP ps svs ++ cellsP qs tvs
  | [], _, [], _, _ => rfl
  | [], _, _ :: _, _, h => by simp at h
  | _ :: _, _, [], _, h => by simp at h
  | p :: ps, qs, sv :: svs, tvs, h => by
    have := cellsP_append ps qs svs tvs (by simpa using h)
    simp [cellsP, this]

/-- A slice of parts in a block of its own, each part's characters in a block of their own, from lo up to hi. -/
structure OwnP (lo hi : Nat) (w : World) (v : Value) (ps : List Pt) (svs : List Value) : Prop where
  row : w.ownsRow lo 47 3 v ps.length (cellsP ps svs)
  top : ∀ g, v.ownBlock = some g → g < hi
  len : svs.length = ps.length
  each : ∀ k, k < ps.length → OwnI lo hi w (svs.getD k undef) (ps.getD k ⟨0, 0, []⟩).signs
  apart : ∀ i j, i < j → j < ps.length → (svs.getD i undef).ownBlock = none ∨ (svs.getD i undef).ownBlock ≠ (svs.getD j undef).ownBlock

theorem OwnP.below {lo hi : Nat} {w w' : World} {v : Value} {ps : List Pt} {svs : List Value} (h : OwnP lo hi w v ps svs) (hb : Below w.heap.size w w') : OwnP lo hi w' v ps svs :=
  ⟨World.ownsRow.below h.row hb, h.top, h.len, fun k hk => (h.each k hk).below hb, h.apart⟩
theorem OwnP.within {lo hi lo' hi' : Nat} {w w' : World} {v : Value} {ps : List Pt} {svs : List Value} (h : OwnP lo hi w v ps svs) (hw : Within lo' hi' w w') (hd : hi ≤ lo' ∨ hi' ≤ lo) : OwnP lo hi w' v ps svs :=
  ⟨World.ownsRow.within h.row hw fun g hg hgg => by have := h.top g hg; have := (h.row.lt g hg).1; omega, h.top, h.len, fun k hk => (h.each k hk).within hw hd, h.apart⟩
theorem OwnP.slice {lo hi : Nat} {w : World} {v : Value} {ps : List Pt} {svs : List Value} (h : OwnP lo hi w v ps svs) : SliceParts w.heap.size w v ps := by
  have hlt := h.row.lt
  have hcell := @World.ownsRow.cells w lo 47 3 v ps.length (cellsP ps svs) h.row
  rcases h.row.2 with ⟨rfl, hn⟩ | ⟨g, cap, cur, rfl, hb, hg, hc, hm, hs, ht⟩
  · have hx : ps = [] := List.eq_nil_of_length_eq_zero hn
    subst hx
    exact ⟨none, 0, rfl, ⟨Nat.le_refl _, Nat.zero_le _⟩, fun k hk => absurd hk (Nat.not_lt_zero _)⟩
  · refine ⟨some ⟨g, 0, none⟩, cap, rfl, ⟨hc, hm⟩, fun k hk => ?_⟩
    obtain ⟨a0, a1, a2⟩ := cellsP_at ps svs k h.len hk
    have b0 := hcell (g := g) rfl _ _ a0
    have b1 := hcell (g := g) rfl _ _ a1
    have b2 := hcell (g := g) rfl _ _ a2
    rw [Addr.add_lit] at b0 b1 b2
    exact ⟨g, 0, _, rfl, (hlt g rfl).2, b0, b1, b2, (h.each k hk).slice⟩
theorem OwnP.nil (lo hi : Nat) (w : World) : OwnP lo hi w (.slice none 0 0) [] [] :=
  ⟨World.ownsRow_nil _ _ _ _, fun g hg => by simp [Value.ownBlock] at hg, rfl, fun k hk => absurd hk (Nat.not_lt_zero _), fun i j _ hj => absurd hj (Nat.not_lt_zero _)⟩
theorem OwnP.upto {lo hi hi' : Nat} {w : World} {v : Value} {ps : List Pt} {svs : List Value} (h : OwnP lo hi w v ps svs) (hh : hi ≤ hi') : OwnP lo hi' w v ps svs :=
  ⟨h.row, fun g hg => by have := h.top g hg; omega, h.len, fun k hk => ⟨(h.each k hk).1, fun g hg => by have := (h.each k hk).2 g hg; omega⟩, h.apart⟩

theorem heap_new_at (w : World) (o : Obj) {k : Nat} (h : k = w.heap.size) : (w.alloc o).heap[k]? = some o := by
  subst h
  show (w.heap.push o)[w.heap.size]? = some o
  simp
/-- A block of three cells. -/
theorem blk3 {w : World} {g : Nat} {x y z : Value} {t : TypeId} (h : w.heap[g]? = some (.cells #[x, y, z] t (0, 0))) :
    w.cell? ⟨g, 0, none⟩ = some x ∧ w.cell? ⟨g, 1, none⟩ = some y ∧ w.cell? ⟨g, 2, none⟩ = some z ∧ (∀ j, w.frozen? ⟨g, j, none⟩ = false) ∧ g < w.heap.size := by
  refine ⟨?_, ?_, ?_, ?_, lt_of_block h⟩
  · rw [cell_of_row w g 0 _ t (0, 0) h]; rfl
  · rw [cell_of_row w g 1 _ t (0, 0) h]; rfl
  · rw [cell_of_row w g 2 _ t (0, 0) h]; rfl
  · intro j
    simp [World.frozen?, h]

end Go.Proofs.YtookcfpiegbafaaGreatDoor

/- Footprints: a world that differs from another one in the blocks of a set alone, and in new blocks. No condition. -/
namespace Go.Proofs.YtookcfpiegbafaaGreatDoor
open Go.RowKit
set_option maxRecDepth 100000

/-- w' is w but for the blocks of S and new blocks. -/
structure Frame (S : Nat → Prop) (w w' : World) : Prop where
  os : w'.os = w.os
  tape : w'.tape = w.tape
  output : w'.output = w.output
  size : w.heap.size ≤ w'.heap.size
  block : ∀ k, k < w.heap.size → ¬ S k → w'.heap[k]? = w.heap[k]?

theorem Frame.refl (S : Nat → Prop) (w : World) : Frame S w w := ⟨rfl, rfl, rfl, Nat.le_refl _, fun _ _ _ => rfl⟩
theorem Frame.trans {S T : Nat → Prop} {a b c : World} (h : Frame S a b) (k : Frame T b c) (hT : ∀ i, i < a.heap.size → T i → S i) : Frame S a c :=
  ⟨k.os.trans h.os, k.tape.trans h.tape, k.output.trans h.output, Nat.le_trans h.size k.size,
    fun i hi hs => (k.block i (Nat.lt_of_lt_of_le hi h.size) (fun ht => hs (hT i hi ht))).trans (h.block i hi hs)⟩
theorem Frame.mono {S T : Nat → Prop} {a b : World} (h : Frame S a b) (hT : ∀ i, i < a.heap.size → S i → T i) : Frame T a b :=
  ⟨h.os, h.tape, h.output, h.size, fun i hi hs => h.block i hi (fun hx => hs (hT i hi hx))⟩
theorem Frame.below {S : Nat → Prop} {a b : World} {B : Nat} (h : Frame S a b) (hS : ∀ i, S i → B ≤ i) (hB : B ≤ a.heap.size) : Below B a b :=
  ⟨h.os, h.tape, h.output, h.size, fun i hi => h.block i (by omega) (fun hs => by have := hS i hs; omega)⟩
theorem Frame.ofBelow {S : Nat → Prop} {a b : World} (h : Below a.heap.size a b) : Frame S a b :=
  ⟨h.os, h.tape, h.output, h.size, fun i hi _ => h.block i hi⟩
theorem Frame.grown {S : Nat → Prop} {a b : World} {row : Option Nat} (h : a.grownBy b row) (hS : ∀ k, row = some k → S k) : Frame S a b :=
  ⟨h.os, h.tape, h.output, h.size, fun i hi hs => h.block i hi (fun e => hs (hS i e.symm))⟩
theorem Frame.setCell (S : Nat → Prop) (w : World) (p : Addr) (u : Value) (h : S p.block) : Frame S w (w.setCell p u) :=
  ⟨rfl, rfl, rfl, by simp [World.setCell], fun k _ hs => Below.heap_setCell _ _ _ _ (fun e => hs (by rw [e]; exact h))⟩
theorem Frame.alloc (S : Nat → Prop) (w : World) (o : Obj) : Frame S w (w.alloc o) := ⟨rfl, rfl, rfl, by simp, fun k hk _ => Below.heap_alloc _ _ _ hk⟩
theorem Frame.drew (S : Nat → Prop) (w : World) : Frame S w w.drew := ⟨rfl, rfl, rfl, Nat.le_refl _, fun _ _ _ => rfl⟩
theorem Frame.heap {S : Nat → Prop} {a b : World} (h : Frame S a b) {g : Nat} {o : Obj} (hg : a.heap[g]? = some o) (hs : ¬ S g) : b.heap[g]? = some o :=
  (h.block g (lt_of_block hg) hs).trans hg
theorem Frame.row {S : Nat → Prop} {w w' : World} (h : Frame S w w') {base e size n : Nat} {v : Value} {xs : List Value} (hr : w.ownsRow base e size v n xs)
    (hd : ∀ g, v.ownBlock = some g → ¬ S g) : w'.ownsRow base e size v n xs := by
  refine ⟨hr.1, ?_⟩
  rcases hr.2 with hn | ⟨g, cap, cur, rfl, hb, hg, r⟩
  · exact .inl hn
  · exact .inr ⟨g, cap, cur, rfl, hb, h.heap hg (hd g rfl), r⟩
theorem World.ownsRow.base {base base' e size n : Nat} {w : World} {v : Value} {xs : List Value} (hr : w.ownsRow base e size v n xs)
    (hd : ∀ g, v.ownBlock = some g → base' ≤ g) : w.ownsRow base' e size v n xs := by
  refine ⟨hr.1, ?_⟩
  rcases hr.2 with hn | ⟨g, cap, cur, rfl, hb, hg, r⟩
  · exact .inl hn
  · exact .inr ⟨g, cap, cur, rfl, hd g rfl, hg, r⟩

/-- A block of one cell, one of three. -/
def Cell1 (w : World) (g : Nat) (t : TypeId) (v : Value) : Prop := w.heap[g]? = some (.cells #[v] t (0, 0))
theorem Cell1.frame {S : Nat → Prop} {w w' : World} {g : Nat} {t : TypeId} {v : Value} (h : Cell1 w g t v) (hf : Frame S w w') (hs : ¬ S g) : Cell1 w' g t v := hf.heap h hs
theorem Cell1.lt {w : World} {g : Nat} {t : TypeId} {v : Value} (h : Cell1 w g t v) : g < w.heap.size := lt_of_block h
theorem Cell1.cell {w : World} {g : Nat} {t : TypeId} {v : Value} (h : Cell1 w g t v) : w.cell? ⟨g, 0, none⟩ = some v := cell_of_one h
theorem Cell1.free {w : World} {g : Nat} {t : TypeId} {v : Value} (h : Cell1 w g t v) : w.frozen? ⟨g, 0, none⟩ = false := free_of_one h
theorem Cell1.set {w : World} {g : Nat} {t : TypeId} {v : Value} (h : Cell1 w g t v) (u : Value) : Cell1 (w.setCell ⟨g, 0, none⟩ u) g t u := one_setCell h
end Go.Proofs.YtookcfpiegbafaaGreatDoor

/- Slices that are read in blocks of a set. No condition. -/
namespace Go.Proofs.YtookcfpiegbafaaGreatDoor
open Go.RowKit
set_option maxRecDepth 100000

def IntsIn (F : Nat → Prop) (w : World) (A : Option Addr) (xs : List Int) : Prop :=
  ∀ k, k < xs.length → ∃ b off, A = some ⟨b, off, none⟩ ∧ (F b ∧ b < w.heap.size) ∧ w.cell? ⟨b, off + k, none⟩ = some (.int .i64 (xs.getD k 0))
def RdI (F : Nat → Prop) (w : World) (v : Value) (xs : List Int) : Prop := ∃ A c, v = .slice A xs.length c ∧ (xs.length ≤ c ∧ c ≤ maxLen) ∧ IntsIn F w A xs
def PartsIn (F : Nat → Prop) (w : World) (A : Option Addr) (ps : List Pt) : Prop :=
  ∀ k, k < ps.length → ∃ b off sv, A = some ⟨b, off, none⟩ ∧ (F b ∧ b < w.heap.size) ∧ w.cell? ⟨b, off + k * 3, none⟩ = some (.int .i64 (ps.getD k ⟨0, 0, []⟩).kind) ∧
    w.cell? ⟨b, off + k * 3 + 1, none⟩ = some (.int .i64 (ps.getD k ⟨0, 0, []⟩).n) ∧ w.cell? ⟨b, off + k * 3 + 2, none⟩ = some sv ∧ RdI F w sv (ps.getD k ⟨0, 0, []⟩).signs
def RdP (F : Nat → Prop) (w : World) (v : Value) (ps : List Pt) : Prop := ∃ A c, v = .slice A ps.length c ∧ (ps.length ≤ c ∧ c ≤ maxLen) ∧ PartsIn F w A ps

theorem Frame.cell {S : Nat → Prop} {a b : World} (h : Frame S a b) {g o : Nat} (hg : g < a.heap.size) (hs : ¬ S g) : b.cell? ⟨g, o, none⟩ = a.cell? ⟨g, o, none⟩ :=
  World.cell?_of_block (w := a) (h.block g hg hs)
theorem Frame.frozen {S : Nat → Prop} {a b : World} (h : Frame S a b) {g o : Nat} (hg : g < a.heap.size) (hs : ¬ S g) : b.frozen? ⟨g, o, none⟩ = a.frozen? ⟨g, o, none⟩ :=
  World.frozen?_of_block (w := a) (h.block g hg hs)
theorem IntsIn.frame {F S : Nat → Prop} {w w' : World} {A : Option Addr} {xs : List Int} (h : IntsIn F w A xs) (hf : Frame S w w') (hs : ∀ g, F g → ¬ S g) : IntsIn F w' A xs := fun k hk => by
  obtain ⟨b, off, hA, hb, hc⟩ := h k hk
  exact ⟨b, off, hA, ⟨hb.1, Nat.lt_of_lt_of_le hb.2 hf.size⟩, (hf.cell hb.2 (hs b hb.1)).trans hc⟩
theorem RdI.frame {F S : Nat → Prop} {w w' : World} {v : Value} {xs : List Int} (h : RdI F w v xs) (hf : Frame S w w') (hs : ∀ g, F g → ¬ S g) : RdI F w' v xs := by
  obtain ⟨A, c, hv, hc, hi⟩ := h
  exact ⟨A, c, hv, hc, hi.frame hf hs⟩
theorem PartsIn.frame {F S : Nat → Prop} {w w' : World} {A : Option Addr} {ps : List Pt} (h : PartsIn F w A ps) (hf : Frame S w w') (hs : ∀ g, F g → ¬ S g) : PartsIn F w' A ps := fun k hk => by
  obtain ⟨b, off, sv, hA, hb, h0, h1, h2, h3⟩ := h k hk
  exact ⟨b, off, sv, hA, ⟨hb.1, Nat.lt_of_lt_of_le hb.2 hf.size⟩, (hf.cell hb.2 (hs b hb.1)).trans h0, (hf.cell hb.2 (hs b hb.1)).trans h1, (hf.cell hb.2 (hs b hb.1)).trans h2, h3.frame hf hs⟩
theorem RdP.frame {F S : Nat → Prop} {w w' : World} {v : Value} {ps : List Pt} (h : RdP F w v ps) (hf : Frame S w w') (hs : ∀ g, F g → ¬ S g) : RdP F w' v ps := by
  obtain ⟨A, c, hv, hc, hi⟩ := h
  exact ⟨A, c, hv, hc, hi.frame hf hs⟩
theorem IntsIn.mono {F T : Nat → Prop} {w : World} {A : Option Addr} {xs : List Int} (h : IntsIn F w A xs) (hT : ∀ g, F g → T g) : IntsIn T w A xs := fun k hk => by
  obtain ⟨b, off, hA, hb, hc⟩ := h k hk
  exact ⟨b, off, hA, ⟨hT b hb.1, hb.2⟩, hc⟩
theorem RdI.mono {F T : Nat → Prop} {w : World} {v : Value} {xs : List Int} (h : RdI F w v xs) (hT : ∀ g, F g → T g) : RdI T w v xs := by
  obtain ⟨A, c, hv, hc, hi⟩ := h
  exact ⟨A, c, hv, hc, hi.mono hT⟩
theorem PartsIn.mono {F T : Nat → Prop} {w : World} {A : Option Addr} {ps : List Pt} (h : PartsIn F w A ps) (hT : ∀ g, F g → T g) : PartsIn T w A ps := fun k hk => by
  obtain ⟨b, off, sv, hA, hb, h0, h1, h2, h3⟩ := h k hk
  exact ⟨b, off, sv, hA, ⟨hT b hb.1, hb.2⟩, h0, h1, h2, h3.mono hT⟩
theorem RdP.mono {F T : Nat → Prop} {w : World} {v : Value} {ps : List Pt} (h : RdP F w v ps) (hT : ∀ g, F g → T g) : RdP T w v ps := by
  obtain ⟨A, c, hv, hc, hi⟩ := h
  exact ⟨A, c, hv, hc, hi.mono hT⟩
theorem IntsIn.ints {F : Nat → Prop} {w : World} {A : Option Addr} {xs : List Int} (h : IntsIn F w A xs) : IntsAt w.heap.size w A xs := fun k hk => by
  obtain ⟨b, off, hA, hb, hc⟩ := h k hk
  exact ⟨b, off, hA, hb.2, hc⟩
theorem RdI.slice {F : Nat → Prop} {w : World} {v : Value} {xs : List Int} (h : RdI F w v xs) : SliceInts w.heap.size w v xs := by
  obtain ⟨A, c, hv, hc, hi⟩ := h
  exact ⟨A, c, hv, hc, hi.ints⟩
theorem PartsIn.parts {F : Nat → Prop} {w : World} {A : Option Addr} {ps : List Pt} (h : PartsIn F w A ps) : PartsAt w.heap.size w A ps := fun k hk => by
  obtain ⟨b, off, sv, hA, hb, h0, h1, h2, h3⟩ := h k hk
  exact ⟨b, off, sv, hA, hb.2, h0, h1, h2, h3.slice⟩
theorem RdP.slice {F : Nat → Prop} {w : World} {v : Value} {ps : List Pt} (h : RdP F w v ps) : SliceParts w.heap.size w v ps := by
  obtain ⟨A, c, hv, hc, hi⟩ := h
  exact ⟨A, c, hv, hc, hi.parts⟩
theorem SliceInts.rd {B : Nat} {F : Nat → Prop} {w : World} {v : Value} {xs : List Int} (h : SliceInts B w v xs) (hB : B ≤ w.heap.size) (hF : ∀ b, b < B → F b) : RdI F w v xs := by
  obtain ⟨A, c, hv, hc, hi⟩ := h
  refine ⟨A, c, hv, hc, fun k hk => ?_⟩
  obtain ⟨b, off, hA, hb, hx⟩ := hi k hk
  exact ⟨b, off, hA, ⟨hF b hb, by omega⟩, hx⟩
theorem SliceParts.rd {B : Nat} {F : Nat → Prop} {w : World} {v : Value} {ps : List Pt} (h : SliceParts B w v ps) (hB : B ≤ w.heap.size) (hF : ∀ b, b < B → F b) : RdP F w v ps := by
  obtain ⟨A, c, hv, hc, hi⟩ := h
  refine ⟨A, c, hv, hc, fun k hk => ?_⟩
  obtain ⟨b, off, sv, hA, hb, h0, h1, h2, h3⟩ := hi k hk
  exact ⟨b, off, sv, hA, ⟨hF b hb, by omega⟩, h0, h1, h2, h3.rd hB hF⟩
theorem OwnI.rd {lo hi : Nat} {w : World} {v : Value} {xs : List Int} (h : OwnI lo hi w v xs) {F : Nat → Prop} (hF : ∀ b, lo ≤ b → b < hi → F b) : RdI F w v xs := by
  obtain ⟨A, c, hv, hc, hi'⟩ := h.slice
  refine ⟨A, c, hv, hc, fun k hk => ?_⟩
  obtain ⟨b, off, hA, hb, hx⟩ := hi' k hk
  have hob : v.ownBlock = some b := by rw [hv, hA]; rfl
  exact ⟨b, off, hA, ⟨hF b (h.1.lt b hob).1 (h.2 b hob), hb⟩, hx⟩
theorem OwnP.rd {lo hi : Nat} {w : World} {v : Value} {ps : List Pt} {svs : List Value} (h : OwnP lo hi w v ps svs) {F : Nat → Prop} (hF : ∀ b, lo ≤ b → b < hi → F b) : RdP F w v ps := by
  have hlt := h.row.lt
  have hcell := @World.ownsRow.cells w lo 47 3 v ps.length (cellsP ps svs) h.row
  have htop := h.top
  rcases h.row.2 with ⟨rfl, hn⟩ | ⟨g, cap, cur, rfl, hb, hg, hc, hm, hs, ht⟩
  · have hx : ps = [] := List.eq_nil_of_length_eq_zero hn
    subst hx
    exact ⟨none, 0, rfl, ⟨Nat.le_refl _, Nat.zero_le _⟩, fun k hk => absurd hk (Nat.not_lt_zero _)⟩
  · refine ⟨some ⟨g, 0, none⟩, cap, rfl, ⟨hc, hm⟩, fun k hk => ?_⟩
    obtain ⟨a0, a1, a2⟩ := cellsP_at ps svs k h.len hk
    have b0 := hcell (g := g) rfl _ _ a0
    have b1 := hcell (g := g) rfl _ _ a1
    have b2 := hcell (g := g) rfl _ _ a2
    rw [Addr.add_lit] at b0 b1 b2
    exact ⟨g, 0, _, rfl, ⟨hF g (hlt g rfl).1 (htop g rfl), (hlt g rfl).2⟩, b0, b1, b2, (h.each k hk).rd hF⟩
theorem RdI.len {F : Nat → Prop} {w : World} {v : Value} {xs : List Int} (h : RdI F w v xs) : xs.length ≤ maxLen := h.slice.len
theorem RdP.len {F : Nat → Prop} {w : World} {v : Value} {ps : List Pt} (h : RdP F w v ps) : ps.length ≤ maxLen := h.slice.len
end Go.Proofs.YtookcfpiegbafaaGreatDoor

/- A growing row of parts whose characters are read in blocks of a set. No condition. -/
namespace Go.Proofs.YtookcfpiegbafaaGreatDoor
open Go.RowKit
set_option maxRecDepth 100000

/-- The parts ps lie in a row of the call's own at v; their characters are read in blocks of F, where the row is not. -/
structure OutAt (F : Nat → Prop) (w : World) (v : Value) (ps : List Pt) (svs : List Value) : Prop where
  row : w.ownsRow 0 47 3 v ps.length (cellsP ps svs)
  len : svs.length = ps.length
  each : ∀ k, k < ps.length → RdI F w (svs.getD k undef) (ps.getD k ⟨0, 0, []⟩).signs
  far : ∀ g, v.ownBlock = some g → ¬ F g

theorem OutAt.init (F : Nat → Prop) (w : World) : OutAt F w (.slice none 0 0) [] [] :=
  ⟨World.ownsRow_nil _ _ _ _, rfl, fun k hk => absurd hk (Nat.not_lt_zero _), fun g hg => by simp [Value.ownBlock] at hg⟩
theorem OutAt.frame {F S : Nat → Prop} {w w' : World} {v : Value} {ps : List Pt} {svs : List Value} (h : OutAt F w v ps svs) (hf : Frame S w w') (hs : ∀ g, F g → ¬ S g) (hv : ∀ g, v.ownBlock = some g → ¬ S g) : OutAt F w' v ps svs :=
  ⟨hf.row h.row hv, h.len, fun k hk => (h.each k hk).frame hf hs, h.far⟩
theorem OutAt.mono {F T : Nat → Prop} {w : World} {v : Value} {ps : List Pt} {svs : List Value} (h : OutAt F w v ps svs) (hT : ∀ g, F g → T g) (hv : ∀ g, v.ownBlock = some g → ¬ T g) : OutAt T w v ps svs :=
  ⟨h.row, h.len, fun k hk => (h.each k hk).mono hT, hv⟩
theorem OutAt.lt {F : Nat → Prop} {w : World} {v : Value} {ps : List Pt} {svs : List Value} (h : OutAt F w v ps svs) : ∀ g, v.ownBlock = some g → g < w.heap.size := fun g hg => (h.row.lt g hg).2
theorem OutAt.slice {F : Nat → Prop} {w : World} {v : Value} {ps : List Pt} {svs : List Value} (h : OutAt F w v ps svs) : SliceParts w.heap.size w v ps := by
  have hlt := h.row.lt
  have hcell := @World.ownsRow.cells w 0 47 3 v ps.length (cellsP ps svs) h.row
  rcases h.row.2 with ⟨rfl, hn⟩ | ⟨g, cap, cur, rfl, hb, hg, hc, hm, hs, ht⟩
  · have hx : ps = [] := List.eq_nil_of_length_eq_zero hn
    subst hx
    exact ⟨none, 0, rfl, ⟨Nat.le_refl _, Nat.zero_le _⟩, fun k hk => absurd hk (Nat.not_lt_zero _)⟩
  · refine ⟨some ⟨g, 0, none⟩, cap, rfl, ⟨hc, hm⟩, fun k hk => ?_⟩
    obtain ⟨a0, a1, a2⟩ := cellsP_at ps svs k h.len hk
    have b0 := hcell (g := g) rfl _ _ a0
    have b1 := hcell (g := g) rfl _ _ a1
    have b2 := hcell (g := g) rfl _ _ a2
    rw [Addr.add_lit] at b0 b1 b2
    exact ⟨g, 0, _, rfl, (hlt g rfl).2, b0, b1, b2, (h.each k hk).slice⟩
theorem OutAt.rd {F T : Nat → Prop} {w : World} {v : Value} {ps : List Pt} {svs : List Value} (h : OutAt F w v ps svs) (hT : ∀ b, F b → T b) (hv : ∀ g, v.ownBlock = some g → T g) : RdP T w v ps := by
  have hlt := h.row.lt
  have hcell := @World.ownsRow.cells w 0 47 3 v ps.length (cellsP ps svs) h.row
  rcases h.row.2 with ⟨rfl, hn⟩ | ⟨g, cap, cur, rfl, hb, hg, hc, hm, hs, ht⟩
  · have hx : ps = [] := List.eq_nil_of_length_eq_zero hn
    subst hx
    exact ⟨none, 0, rfl, ⟨Nat.le_refl _, Nat.zero_le _⟩, fun k hk => absurd hk (Nat.not_lt_zero _)⟩
  · refine ⟨some ⟨g, 0, none⟩, cap, rfl, ⟨hc, hm⟩, fun k hk => ?_⟩
    obtain ⟨a0, a1, a2⟩ := cellsP_at ps svs k h.len hk
    have b0 := hcell (g := g) rfl _ _ a0
    have b1 := hcell (g := g) rfl _ _ a1
    have b2 := hcell (g := g) rfl _ _ a2
    rw [Addr.add_lit] at b0 b1 b2
    exact ⟨g, 0, _, rfl, ⟨hv g rfl, (hlt g rfl).2⟩, b0, b1, b2, (h.each k hk).mono hT⟩
theorem OutAt.shape {F : Nat → Prop} {w : World} {v : Value} {ps : List Pt} {svs : List Value} (h : OutAt F w v ps svs) : ∃ A c, v = .slice A ps.length c := by
  rcases h.row.2 with ⟨e, e2⟩ | ⟨_, _, _, e, _⟩
  · exact ⟨_, _, by rw [e, e2]⟩
  · exact ⟨_, _, e⟩
/-- One part more: what an append leaves. -/
theorem OutAt.push {F : Nat → Prop} {w w3 : World} {v : Value} {ps : List Pt} {svs : List Value} (h : OutAt F w v ps svs) (p : Pt) {sv : Value} {g cap n K : Nat} (hn : ps.length = n)
    (hown : w3.ownsRow 0 47 3 (.slice (some ⟨g, 0, none⟩) (n + 1) cap) (n + 1) (cellsP ps svs ++ [.int .i64 p.kind, .int .i64 p.n, sv])) (hg : w.grownBy w3 v.ownBlock) (hat : v.ownBlock = some g ∨ g = K) (hK : K = w.heap.size)
    (hs : RdI F w sv p.signs) (hF : ∀ b, F b → b < w.heap.size) :
    OutAt F w3 (.slice (some ⟨g, 0, none⟩) (n + 1) cap) (ps ++ [p]) (svs ++ [sv]) ∧ Frame (fun k => v.ownBlock = some k) w w3 ∧ ¬ F g := by
  subst hn hK
  have hf : Frame (fun k => v.ownBlock = some k) w w3 := Frame.grown hg (fun _ e => e)
  have hfar : ∀ b, F b → ¬ v.ownBlock = some b := fun b hb e => h.far b e hb
  have hgF : ¬ F g := fun hh => by
    rcases hat with e | e
    · exact h.far g e hh
    · have := hF g hh; omega
  refine ⟨⟨?_, by simp [h.len], fun k hk => ?_, fun b hb => ?_⟩, hf, hgF⟩
  · rw [cellsP_append _ _ _ _ h.len]
    simpa [cellsP] using hown
  · by_cases hkl : k < ps.length
    · have e1 : (svs ++ [sv]).getD k undef = svs.getD k undef := by simp [List.getD, List.getElem?_append_left (show k < svs.length by rw [h.len]; exact hkl)]
      have e2 : (ps ++ [p]).getD k ⟨0, 0, []⟩ = ps.getD k ⟨0, 0, []⟩ := by simp [List.getD, List.getElem?_append_left hkl]
      rw [e1, e2]
      exact (h.each k hkl).frame hf hfar
    · obtain rfl : k = ps.length := by simp at hk; omega
      have e1 : (svs ++ [sv]).getD ps.length undef = sv := by simp [List.getD, ← h.len]
      have e2 : (ps ++ [p]).getD ps.length ⟨0, 0, []⟩ = p := by simp [List.getD]
      rw [e1, e2]
      exact hs.frame hf hfar
  · have : g = b := by simpa [Value.ownBlock] using hb
    subst this
    exact hgF
/-- The cells of a slice of parts, as a source, in whatever world keeps them. -/
theorem PartsIn.src {F : Nat → Prop} {w : World} {A : Option Addr} {ps : List Pt} (h : PartsIn F w A ps) :
    ∃ svs : List Value, svs.length = ps.length ∧ (∀ k, k < ps.length → RdI F w (svs.getD k undef) (ps.getD k ⟨0, 0, []⟩).signs) ∧
      ∀ X, Frame (fun _ => False) w X → ∀ j u, (cellsP ps svs)[j]? = some u → ∃ ad, A = some ad ∧ X.cell? (ad.add j) = some u := by
  have hx : ∀ k, ∃ sv, k < ps.length → ∃ b off, A = some ⟨b, off, none⟩ ∧ b < w.heap.size ∧ w.cell? ⟨b, off + k * 3, none⟩ = some (.int .i64 (ps.getD k ⟨0, 0, []⟩).kind) ∧
      w.cell? ⟨b, off + k * 3 + 1, none⟩ = some (.int .i64 (ps.getD k ⟨0, 0, []⟩).n) ∧ w.cell? ⟨b, off + k * 3 + 2, none⟩ = some sv ∧ RdI F w sv (ps.getD k ⟨0, 0, []⟩).signs := fun k => by
    by_cases hk : k < ps.length
    · obtain ⟨b, off, sv, hA, hb, h0, h1, h2, h3⟩ := h k hk
      exact ⟨sv, fun _ => ⟨b, off, hA, hb.2, h0, h1, h2, h3⟩⟩
    · exact ⟨undef, fun hh => absurd hh hk⟩
  obtain ⟨f, hf⟩ := Classical.axiomOfChoice hx
  obtain ⟨svs, hl, hg⟩ : ∃ svs : List Value, svs.length = ps.length ∧ ∀ k, k < ps.length → svs.getD k undef = f k :=
    ⟨(List.range ps.length).map f, by simp, fun k hk => by simp [List.getD, hk]⟩
  refine ⟨svs, hl, fun k hk => ?_, fun X hX j u hu => ?_⟩
  · obtain ⟨b, off, hA, hb, h0, h1, h2, h3⟩ := hf k hk
    rw [hg k hk]
    exact h3
  · have hcl := cellsP_length ps svs hl
    have hj : j < ps.length * 3 := by
      have := (List.getElem?_eq_some_iff.1 hu).1
      omega
    have hk : j / 3 < ps.length := by omega
    obtain ⟨a0, a1, a2⟩ := cellsP_at ps svs (j / 3) hl hk
    obtain ⟨b, off, hA, hb, h0, h1, h2, h3⟩ := hf (j / 3) hk
    refine ⟨_, hA, ?_⟩
    rw [Addr.add_lit, hX.cell hb (fun hh => hh)]
    rcases (show j = j / 3 * 3 ∨ j = j / 3 * 3 + 1 ∨ j = j / 3 * 3 + 2 by omega) with e | e | e
    · rw [e, a0] at hu
      rw [e, ← hu]; exact h0
    · rw [e, a1] at hu
      rw [e, ← hu, ← Nat.add_assoc]; exact h1
    · rw [e, a2] at hu
      rw [e, ← hu, ← Nat.add_assoc, h2, hg _ hk]
theorem cellsP_one {F : Nat → Prop} {w : World} {ps : List Pt} {svs : List Value} (hl : svs.length = ps.length) (h : ∀ k, k < ps.length → RdI F w (svs.getD k undef) (ps.getD k ⟨0, 0, []⟩).signs) : ∀ u ∈ cellsP ps svs, u.oneCell' = true := by
  induction ps generalizing svs with
  | nil => intro u hu; simp [cellsP] at hu
  | cons p ps ih =>
    cases svs with
    | nil => simp at hl
    | cons sv svs =>
      intro u hu
      simp only [cellsP, List.mem_cons] at hu
      rcases hu with rfl | rfl | rfl | hu
      · rfl
      · rfl
      · obtain ⟨A, c, hv, _⟩ := h 0 (by simp)
        simp [List.getD] at hv
        rw [hv]; rfl
      · exact ih (by simpa using hl) (fun k hk => by have := h (k + 1) (by simpa using hk); simpa [List.getD] using this) u hu

theorem Frame.andAlloc {S : Nat → Prop} {a b : World} (h : Frame S a b) (o : Obj) : Frame S a (b.alloc o) := h.trans (Frame.alloc S b o) fun _ _ hh => hh
theorem Frame.andDrew {S : Nat → Prop} {a b : World} (h : Frame S a b) : Frame S a b.drew := h.trans (Frame.drew S b) fun _ _ hh => hh
theorem Frame.andSet {S : Nat → Prop} {a b : World} (h : Frame S a b) (p : Addr) (u : Value) (hp : S p.block) : Frame S a (b.setCell p u) := h.trans (Frame.setCell S b p u hp) fun _ _ hh => hh
theorem Frame.andGrow {S : Nat → Prop} {a b c : World} {row : Option Nat} (h : Frame S a b) (hg : b.grownBy c row) (hS : ∀ k, row = some k → S k) : Frame S a c := h.trans (Frame.grown hg hS) fun _ _ hh => hh
/-- A literal of one part that lies in a block of its own. -/
theorem lit_part {w : World} {b : Nat} {x y z : Value} (h : w.heap[b]? = some (.cells #[x, y, z] 47 (0, 0))) : w.ownsRow 0 47 3 (.slice (some ⟨b, 0, none⟩) 1 1) 1 [x, y, z] :=
  ⟨rfl, .inr ⟨b, 1, #[x, y, z], rfl, Nat.zero_le _, h, Nat.le_refl _, by unfold maxLen; decide, rfl, rfl⟩⟩
theorem RdI.take {F : Nat → Prop} {w : World} {A : Option Addr} {xs : List Int} {c n : Nat} (h : RdI F w (.slice A xs.length c) xs) (hn : n ≤ xs.length) : RdI F w (.slice A n c) (xs.take n) := by
  obtain ⟨A', c', e, hc, hi⟩ := h
  injection e with e1 e2 e3
  subst e1 e3
  refine ⟨A, c, by rw [List.length_take, Nat.min_eq_left hn], by rw [List.length_take, Nat.min_eq_left hn]; omega, fun k hk => ?_⟩
  rw [List.length_take, Nat.min_eq_left hn] at hk
  obtain ⟨b, off, hA, hb, hx⟩ := hi k (by omega)
  refine ⟨b, off, hA, hb, ?_⟩
  rw [hx]
  simp [List.getD, hk]
theorem RdI.drop {F : Nat → Prop} {w : World} {A : Option Addr} {xs : List Int} {c n : Nat} (h : RdI F w (.slice A xs.length c) xs) (hn : n ≤ xs.length) :
    RdI F w (.slice (if c = n then A else A.map (·.add n)) (xs.length - n) (c - n)) (xs.drop n) := by
  obtain ⟨A', c', e, hc, hi⟩ := h
  injection e with e1 e2 e3
  subst e1 e3
  refine ⟨_, _, by rw [List.length_drop], by rw [List.length_drop]; omega, fun k hk => ?_⟩
  rw [List.length_drop] at hk
  obtain ⟨b, off, rfl, hb, hx⟩ := hi (n + k) (by omega)
  rw [if_neg (by omega)]
  refine ⟨b, off + n, by simp [Addr.add_lit], hb, ?_⟩
  rw [Nat.add_assoc, hx]
  simp [List.getD]
end Go.Proofs.YtookcfpiegbafaaGreatDoor

/- append onto a row of the call's own, whatever the source slice is: nil, empty or not. No condition. -/
namespace Go.Proofs.YtookcfpiegbafaaGreatDoor
open Go.RowKit
set_option maxRecDepth 100000

section
variable {P : Program} (w : World)

theorem run_append_nothing (base : Nat) (t ty e : TypeId) (i : TypeInfo) (size : Nat) (ht : P.underlying t = some (.slice e)) (hi : P.info? e = some i)
    (v : Value) (n : Nat) (xs : List Value) (hown : w.ownsRow base e size v n xs) (c : Nat) : (Builtin.append_ #[t, t] ty #[v, .slice none 0 c]).run P w = .ok v w := by
  rcases hown.2 with ⟨rfl, rfl⟩ | ⟨g, cap, cur, rfl, _, _, hnc, _⟩
  · simp [Builtin.append_, run_underlying ht, sizeOf, typeInfo, hi, Builtin.lenOf, Builtin.firstCells]
  · simp [Builtin.append_, run_underlying ht, sizeOf, typeInfo, hi, Builtin.lenOf, Builtin.firstCells, hnc, storeCells]

theorem run_append_src (base : Nat) (t ty e : TypeId) (i : TypeInfo) (z : Value) (size bytes : Nat) (ht : P.underlying t = some (.slice e)) (hi : P.info? e = some i) (hz : i.zero = some z)
    (hsize : i.size = size) (hby : i.bytes = bytes) (hzs : z.cells.size = size) (hsz : 0 < size)
    (v : Value) (n : Nat) (xs : List Value) (hown : w.ownsRow base e size v n xs)
    (A : Option Addr) (m c : Nat) (news : List Value) (hl : news.length = m * size) (hr : ∀ j u, news[j]? = some u → ∃ ad, A = some ad ∧ w.cell? (ad.add j) = some u) (h1 : ∀ u ∈ news, u.oneCell' = true)
    (h63 : n + m ≤ maxLen) (hbytes : (n + m) * bytes ≤ 140737488355328) (hbase : base ≤ w.heap.size) :
    ∃ v' w', (Builtin.append_ #[t, t] ty #[v, .slice A m c]).run P w = .ok v' w' ∧ w'.ownsRow base e size v' (n + m) (xs ++ news) ∧ w.grownBy w' v.ownBlock ∧
      (v'.ownBlock = v.ownBlock ∨ v'.ownBlock = some w.heap.size) := by
  cases A with
  | none =>
    have hn : news = [] := by
      cases news with
      | nil => rfl
      | cons u l =>
        obtain ⟨ad, h, _⟩ := hr 0 u rfl
        cases h
    subst hn
    have hm : m = 0 := by
      rcases Nat.eq_zero_or_pos m with h | h
      · exact h
      · have := Nat.mul_pos h hsz
        simp at hl
        omega
    subst hm
    exact ⟨v, w, run_append_nothing w base t ty e i size ht hi v n xs hown c, by simpa using hown, World.grownBy.refl w _, .inl rfl⟩
  | some ad =>
    obtain ⟨v', w', hrun, h2, h3, _, h5⟩ := run_append_own_at (P := P) w base t ty e i z size bytes ht hi hz hsize hby hzs hsz v n xs hown ad m c news hl
      (fun j u hu => by obtain ⟨ad', h, hc⟩ := hr j u hu; injection h with h; subst h; exact hc) h1 h63 hbytes hbase
    exact ⟨v', w', hrun, h2, h3, h5⟩

theorem wpList_append_src {ops : Array Oper} {rest : List Oper} {o : Oper} {a : Act} {Q : Exit → Act → World → Prop} (hgd : o.guard = none) (s x : Operand) (t : TypeId)
    (ho : o.op = .call { callee := .builtin .append, args := #[s, x], argTypes := #[t, t] })
    (base : Nat) (e : TypeId) (i : TypeInfo) (z : Value) (size bytes : Nat) (ht : P.underlying t = some (.slice e)) (hi : P.info? e = some i) (hz : i.zero = some z)
    (hsize : i.size = size) (hby : i.bytes = bytes) (hzs : z.cells.size = size) (hsz : 0 < size)
    (v : Value) (n : Nat) (xs : List Value) (hs : a.eval s = v) (hown : w.ownsRow base e size v n xs)
    (A : Option Addr) (m c : Nat) (news : List Value) (hx : a.eval x = .slice A m c) (hl : news.length = m * size) (hr : ∀ j u, news[j]? = some u → ∃ ad, A = some ad ∧ w.cell? (ad.add j) = some u)
    (h1 : ∀ u ∈ news, u.oneCell' = true) (h63 : n + m ≤ maxLen) (hbytes : (n + m) * bytes ≤ 140737488355328) (hbase : base ≤ w.heap.size)
    (h : ∀ v' w', w'.ownsRow base e size v' (n + m) (xs ++ news) → w.grownBy w' v.ownBlock → (v'.ownBlock = v.ownBlock ∨ v'.ownBlock = some w.heap.size) → wpList P ops Q rest (a.put o.dst v') w') :
    wpList P ops Q (o :: rest) a w :=
  wpList_plain hgd fun K hK => by
    obtain ⟨v', w', hrun, h2, h3, h4⟩ := run_append_src (P := P) w base t o.type e i z size bytes ht hi hz hsize hby hzs hsz v n xs hown A m c news hl hr h1 h63 hbytes hbase
    unfold Oper.wp execOp
    simp only [ho, resolve, invoke, builtin, Sem.run_bind, Sem.run_pure, Result.andThen_ok, List.map_toArray, List.map_cons, List.map_nil, hs, hx, hrun]
    exact hK _ _ (h v' w' h2 h3 h4)
end

/-- The cells of a slice of ints, as a source. -/
theorem IntsAt.src {B : Nat} {w : World} {A : Option Addr} {xs : List Int} (h : IntsAt B w A xs) : ∀ j u, (xs.map (Value.int .i64))[j]? = some u → ∃ ad, A = some ad ∧ w.cell? (ad.add j) = some u := by
  intro j u hu
  have hj : j < xs.length := by
    have := (List.getElem?_eq_some_iff.1 hu).1
    simpa using this
  obtain ⟨b, off, hA, _, hc⟩ := h j hj
  refine ⟨_, hA, ?_⟩
  rw [Addr.add_lit, hc, ← hu]
  simp [List.getD, hj]
theorem ints_one (xs : List Int) : ∀ u ∈ xs.map (Value.int .i64), u.oneCell' = true := by
  intro u hu
  obtain ⟨_, _, rfl⟩ := List.mem_map.1 hu
  rfl
end Go.Proofs.YtookcfpiegbafaaGreatDoor

/- What lies in memory, as lists: slices of strings that are read, and those that a call made for itself. No condition. -/
namespace Go.Proofs.YtookcfpiegbafaaGreatDoor
open Go.RowKit
set_option maxRecDepth 100000

/-- The value of a string of these bytes. -/
abbrev strV (l : List UInt8) : Value := .string ⟨l.toArray⟩
/-- The strings xs can be read at A, in a block below B. -/
def StrsAt (B : Nat) (w : World) (A : Option Addr) (xs : List (List UInt8)) : Prop :=
  ∀ k, k < xs.length → ∃ b off, A = some ⟨b, off, none⟩ ∧ b < B ∧ w.cell? ⟨b, off + k, none⟩ = some (strV (xs.getD k []))
/-- The value v is a slice of the strings xs. -/
def SliceStrs (B : Nat) (w : World) (v : Value) (xs : List (List UInt8)) : Prop :=
  ∃ A c, v = .slice A xs.length c ∧ (xs.length ≤ c ∧ c ≤ maxLen) ∧ StrsAt B w A xs
theorem StrsAt.below {B : Nat} {w w' : World} {A : Option Addr} {xs : List (List UInt8)} (h : StrsAt B w A xs) (hb : Below B w w') : StrsAt B w' A xs := fun k hk => by
  obtain ⟨b, off, hA, hlt, hc⟩ := h k hk
  exact ⟨b, off, hA, hlt, (hb.cell (p := ⟨b, off + k, none⟩) hlt).trans hc⟩
theorem StrsAt.mono {B B' : Nat} {w : World} {A : Option Addr} {xs : List (List UInt8)} (h : StrsAt B w A xs) (hb : B ≤ B') : StrsAt B' w A xs := fun k hk => by
  obtain ⟨b, off, hA, hlt, hc⟩ := h k hk
  exact ⟨b, off, hA, by omega, hc⟩
theorem SliceStrs.below {B : Nat} {w w' : World} {v : Value} {xs : List (List UInt8)} (h : SliceStrs B w v xs) (hb : Below B w w') : SliceStrs B w' v xs := by
  obtain ⟨A, c, hv, hc, hi⟩ := h
  exact ⟨A, c, hv, hc, hi.below hb⟩
theorem SliceStrs.mono {B B' : Nat} {w : World} {v : Value} {xs : List (List UInt8)} (h : SliceStrs B w v xs) (hb : B ≤ B') : SliceStrs B' w v xs := by
  obtain ⟨A, c, hv, hc, hi⟩ := h
  exact ⟨A, c, hv, hc, hi.mono hb⟩
theorem SliceStrs.len {B : Nat} {w : World} {v : Value} {xs : List (List UInt8)} (h : SliceStrs B w v xs) : xs.length ≤ maxLen := by
  obtain ⟨A, c, _, hc, _⟩ := h
  omega
theorem SliceStrs.later {w w' : World} {v : Value} {xs : List (List UInt8)} (h : SliceStrs w.heap.size w v xs) (hb : Below w.heap.size w w') : SliceStrs w'.heap.size w' v xs := (h.below hb).mono hb.size
/-- A slice's front. -/
theorem SliceStrs.take {B : Nat} {w : World} {A : Option Addr} {c : Nat} {xs : List (List UInt8)} (h : SliceStrs B w (.slice A xs.length c) xs) (n : Nat) (hn : n ≤ xs.length) : SliceStrs B w (.slice A n c) (xs.take n) := by
  obtain ⟨A', c', hv, hc, hi⟩ := h
  injection hv with h1 h2 h3
  subst h1 h3
  have hl : (xs.take n).length = n := by rw [List.length_take]; omega
  refine ⟨A, c, by rw [hl], ⟨by omega, hc.2⟩, fun k hk => ?_⟩
  obtain ⟨b, off, hA, hlt, hcl⟩ := hi k (by omega)
  refine ⟨b, off, hA, hlt, ?_⟩
  rw [hcl]
  have : k < n := by omega
  simp [List.getD, this]

/-- The call's own slice of strings. -/
abbrev OwnStrs (base : Nat) (w : World) (v : Value) (xs : List (List UInt8)) : Prop := w.ownsRow base 9 1 v xs.length (xs.map strV)
theorem OwnStrs.slice {base : Nat} {w : World} {v : Value} {xs : List (List UInt8)} (h : OwnStrs base w v xs) : SliceStrs w.heap.size w v xs := by
  have hlt := h.lt
  have hcell := @World.ownsRow.cells w base 9 1 v xs.length (xs.map strV) h
  rcases h.2 with ⟨rfl, hn⟩ | ⟨g, cap, cur, rfl, hb, hg, hc, hm, hs, ht⟩
  · have hx : xs = [] := List.eq_nil_of_length_eq_zero hn
    subst hx
    exact ⟨none, 0, rfl, ⟨Nat.le_refl _, Nat.zero_le _⟩, fun k hk => absurd hk (Nat.not_lt_zero _)⟩
  · refine ⟨some ⟨g, 0, none⟩, cap, rfl, ⟨hc, hm⟩, fun k hk => ⟨g, 0, rfl, (hlt g rfl).2, ?_⟩⟩
    have := hcell (g := g) rfl k (strV (xs.getD k [])) (by simp [List.getD, hk])
    rw [Addr.add_lit] at this
    exact this
/-- A slice of strings in a block of its own, from lo up to hi. -/
def OwnS (lo hi : Nat) (w : World) (v : Value) (xs : List (List UInt8)) : Prop := OwnStrs lo w v xs ∧ ∀ g, v.ownBlock = some g → g < hi
theorem OwnS.of {lo : Nat} {w : World} {v : Value} {xs : List (List UInt8)} (h : OwnStrs lo w v xs) : OwnS lo w.heap.size w v xs := ⟨h, fun g hg => (h.lt g hg).2⟩
theorem OwnS.below {lo hi : Nat} {w w' : World} {v : Value} {xs : List (List UInt8)} (h : OwnS lo hi w v xs) (hb : Below w.heap.size w w') : OwnS lo hi w' v xs := ⟨World.ownsRow.below h.1 hb, h.2⟩
theorem OwnS.slice {lo hi : Nat} {w : World} {v : Value} {xs : List (List UInt8)} (h : OwnS lo hi w v xs) : SliceStrs w.heap.size w v xs := OwnStrs.slice h.1
theorem OwnS.lower {lo lo' hi : Nat} {w : World} {v : Value} {xs : List (List UInt8)} (h : OwnS lo hi w v xs) (hl : lo' ≤ lo) : OwnS lo' hi w v xs := by
  refine ⟨⟨h.1.1, ?_⟩, h.2⟩
  rcases h.1.2 with hn | ⟨g, cap, cur, hv, hb, r⟩
  · exact .inl hn
  · exact .inr ⟨g, cap, cur, hv, Nat.le_trans hl hb, r⟩
/-- A new block of strings, as a slice. -/
theorem OwnStrs.alloc (w : World) (xs : List (List UInt8)) (hl : xs.length ≤ maxLen) (a : Array Value) (ha : a = (xs.map strV).toArray) :
    OwnStrs w.heap.size (w.alloc (.cells a 9)) (.slice (some ⟨w.heap.size, 0, none⟩) xs.length xs.length) xs := by
  subst ha
  exact ⟨by simp, .inr ⟨w.heap.size, xs.length, _, rfl, Nat.le_refl _, heap_new_at _ _ rfl, Nat.le_refl _, hl, by simp, by simp [List.take_of_length_le]⟩⟩
/-- An own slice's front. -/
theorem OwnS.take {lo hi : Nat} {w : World} {A : Option Addr} {c : Nat} {xs : List (List UInt8)} (h : OwnS lo hi w (.slice A xs.length c) xs) (n : Nat) (hn : n ≤ xs.length) : OwnS lo hi w (.slice A n c) (xs.take n) := by
  have hl : (xs.take n).length = n := by rw [List.length_take]; omega
  have hh := h.2
  refine ⟨⟨by simp, ?_⟩, fun g hg => hh g (by cases A <;> simp [Value.ownBlock] at hg ⊢ <;> exact hg)⟩
  rcases h.1.2 with ⟨hv, h0⟩ | ⟨g, cap, cur, hv, hb, hg, hc, hm, hs, ht⟩
  · injection hv with h1 h2 h3
    subst h1 h3
    exact .inl ⟨by rw [show n = 0 by omega], by omega⟩
  · injection hv with h1 h2 h3
    subst h1 h3
    refine .inr ⟨g, c, cur, by rw [hl], hb, hg, by omega, hm, hs, ?_⟩
    rw [hl, Nat.mul_one, List.map_take, ← ht, List.take_take, Nat.mul_one, Nat.min_eq_left hn]
end Go.Proofs.YtookcfpiegbafaaGreatDoor
