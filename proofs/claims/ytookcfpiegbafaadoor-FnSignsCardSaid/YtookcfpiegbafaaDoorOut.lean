/- A growing row of parts whose characters are read in blocks of a set. No condition. -/
import Derived.Test.YtookcfpiegbafaaDoorRead
namespace Go.Proofs.YtookcfpiegbafaaDoor
open Go.RowKit
set_option maxRecDepth 100000

/-- The parts ps lie in a row of the call's own at v; their characters are read in blocks of F, where the row is not. -/
structure OutAt (F : Nat → Prop) (w : World) (v : Value) (ps : List Pt) (svs : List Value) : Prop where
  row : w.ownsRow 0 62 3 v ps.length (cellsP ps svs)
  len : svs.length = ps.length
  each : ∀ k, k < ps.length → RdI F w (svs.getD k undef) (ps.getD k ⟨0, 0, []⟩).signs
  far : ∀ g, v.ownBlock = some g → ¬ F g

theorem OutAt.init (F : Nat → Prop) (w : World) : OutAt F w (.slice none 0 0) [] [] :=
  ⟨World.ownsRow_nil _ _ _ _, rfl, fun k hk => absurd hk (Nat.not_lt_zero _), fun g hg => by simp [Value.ownBlock] at hg⟩
theorem OutAt.frame {F S : Nat → Prop} {w w' : World} {v : Value} {ps : List Pt} {svs : List Value} (h : OutAt F w v ps svs) (hf : Frame S w w') (hs : ∀ g, F g → ¬ S g) (hv : ∀ g, v.ownBlock = some g → ¬ S g) : OutAt F w' v ps svs :=
  ⟨hf.row h.row hv, h.len, fun k hk => (h.each k hk).frame hf hs, h.far⟩
theorem OutAt.mono {F T : Nat → Prop} {w : World} {v : Value} {ps : List Pt} {svs : List Value} (h : OutAt F w v ps svs) (hT : ∀ g, F g → T g) (hv : ∀ g, v.ownBlock = some g → ¬ T g) : OutAt T w v ps svs :=
  ⟨h.row, h.len, fun k hk => (h.each k hk).mono hT, hv⟩
theorem OutAt.lt {F : Nat → Prop} {w : World} {v : Value} {ps : List Pt} {svs : List Value} (h : OutAt F w v ps svs) : ∀ g, v.ownBlock = some g → g < w.heap.size := fun g hg => (h.row.lt g hg).2
theorem OutAt.slice {F : Nat → Prop} {w : World} {v : Value} {ps : List Pt} {svs : List Value} (h : OutAt F w v ps svs) : SliceParts w.heap.size w v ps := by
  have hlt := h.row.lt
  have hcell := @World.ownsRow.cells w 0 62 3 v ps.length (cellsP ps svs) h.row
  rcases h.row.2 with ⟨rfl, hn⟩ | ⟨g, cap, cur, rfl, hb, hg, hc, hm, hs, ht⟩
  · have hx : ps = [] := List.eq_nil_of_length_eq_zero hn
    subst hx
    exact ⟨none, 0, rfl, ⟨Nat.le_refl _, Nat.zero_le _⟩, fun k hk => absurd hk (Nat.not_lt_zero _)⟩
  · refine ⟨some ⟨g, 0, none⟩, cap, rfl, ⟨hc, hm⟩, fun k hk => ?_⟩
    obtain ⟨a0, a1, a2⟩ := cellsP_at ps svs k h.len hk
    have b0 := hcell (g := g) rfl _ _ a0
    have b1 := hcell (g := g) rfl _ _ a1
    have b2 := hcell (g := g) rfl _ _ a2
    rw [Addr.add_lit] at b0 b1 b2
    exact ⟨g, 0, _, rfl, (hlt g rfl).2, b0, b1, b2, (h.each k hk).slice⟩
theorem OutAt.rd {F T : Nat → Prop} {w : World} {v : Value} {ps : List Pt} {svs : List Value} (h : OutAt F w v ps svs) (hT : ∀ b, F b → T b) (hv : ∀ g, v.ownBlock = some g → T g) : RdP T w v ps := by
  have hlt := h.row.lt
  have hcell := @World.ownsRow.cells w 0 62 3 v ps.length (cellsP ps svs) h.row
  rcases h.row.2 with ⟨rfl, hn⟩ | ⟨g, cap, cur, rfl, hb, hg, hc, hm, hs, ht⟩
  · have hx : ps = [] := List.eq_nil_of_length_eq_zero hn
    subst hx
    exact ⟨none, 0, rfl, ⟨Nat.le_refl _, Nat.zero_le _⟩, fun k hk => absurd hk (Nat.not_lt_zero _)⟩
  · refine ⟨some ⟨g, 0, none⟩, cap, rfl, ⟨hc, hm⟩, fun k hk => ?_⟩
    obtain ⟨a0, a1, a2⟩ := cellsP_at ps svs k h.len hk
    have b0 := hcell (g := g) rfl _ _ a0
    have b1 := hcell (g := g) rfl _ _ a1
    have b2 := hcell (g := g) rfl _ _ a2
    rw [Addr.add_lit] at b0 b1 b2
    exact ⟨g, 0, _, rfl, ⟨hv g rfl, (hlt g rfl).2⟩, b0, b1, b2, (h.each k hk).mono hT⟩
theorem OutAt.shape {F : Nat → Prop} {w : World} {v : Value} {ps : List Pt} {svs : List Value} (h : OutAt F w v ps svs) : ∃ A c, v = .slice A ps.length c := by
  rcases h.row.2 with ⟨e, e2⟩ | ⟨_, _, _, e, _⟩
  · exact ⟨_, _, by rw [e, e2]⟩
  · exact ⟨_, _, e⟩
/-- One part more: what an append leaves. -/
theorem OutAt.push {F : Nat → Prop} {w w3 : World} {v : Value} {ps : List Pt} {svs : List Value} (h : OutAt F w v ps svs) (p : Pt) {sv : Value} {g cap n K : Nat} (hn : ps.length = n)
    (hown : w3.ownsRow 0 62 3 (.slice (some ⟨g, 0, none⟩) (n + 1) cap) (n + 1) (cellsP ps svs ++ [.int .i64 p.kind, .int .i64 p.n, sv])) (hg : w.grownBy w3 v.ownBlock) (hat : v.ownBlock = some g ∨ g = K) (hK : K = w.heap.size)
    (hs : RdI F w sv p.signs) (hF : ∀ b, F b → b < w.heap.size) :
    OutAt F w3 (.slice (some ⟨g, 0, none⟩) (n + 1) cap) (ps ++ [p]) (svs ++ [sv]) ∧ Frame (fun k => v.ownBlock = some k) w w3 ∧ ¬ F g := by
  subst hn hK
  have hf : Frame (fun k => v.ownBlock = some k) w w3 := Frame.grown hg (fun _ e => e)
  have hfar : ∀ b, F b → ¬ v.ownBlock = some b := fun b hb e => h.far b e hb
  have hgF : ¬ F g := fun hh => by
    rcases hat with e | e
    · exact h.far g e hh
    · have := hF g hh; omega
  refine ⟨⟨?_, by simp [h.len], fun k hk => ?_, fun b hb => ?_⟩, hf, hgF⟩
  · rw [cellsP_append _ _ _ _ h.len]
    simpa [cellsP] using hown
  · by_cases hkl : k < ps.length
    · have e1 : (svs ++ [sv]).getD k undef = svs.getD k undef := by simp [List.getD, List.getElem?_append_left (show k < svs.length by rw [h.len]; exact hkl)]
      have e2 : (ps ++ [p]).getD k ⟨0, 0, []⟩ = ps.getD k ⟨0, 0, []⟩ := by simp [List.getD, List.getElem?_append_left hkl]
      rw [e1, e2]
      exact (h.each k hkl).frame hf hfar
    · obtain rfl : k = ps.length := by simp at hk; omega
      have e1 : (svs ++ [sv]).getD ps.length undef = sv := by simp [List.getD, ← h.len]
      have e2 : (ps ++ [p]).getD ps.length ⟨0, 0, []⟩ = p := by simp [List.getD]
      rw [e1, e2]
      exact hs.frame hf hfar
  · have : g = b := by simpa [Value.ownBlock] using hb
    subst this
    exact hgF
/-- The cells of a slice of parts, as a source, in whatever world keeps them. -/
theorem PartsIn.src {F : Nat → Prop} {w : World} {A : Option Addr} {ps : List Pt} (h : PartsIn F w A ps) :
    ∃ svs : List Value, svs.length = ps.length ∧ (∀ k, k < ps.length → RdI F w (svs.getD k undef) (ps.getD k ⟨0, 0, []⟩).signs) ∧
      ∀ X, Frame (fun _ => False) w X → ∀ j u, (cellsP ps svs)[j]? = some u → ∃ ad, A = some ad ∧ X.cell? (ad.add j) = some u := by
  have hx : ∀ k, ∃ sv, k < ps.length → ∃ b off, A = some ⟨b, off, none⟩ ∧ b < w.heap.size ∧ w.cell? ⟨b, off + k * 3, none⟩ = some (.int .i64 (ps.getD k ⟨0, 0, []⟩).kind) ∧
      w.cell? ⟨b, off + k * 3 + 1, none⟩ = some (.int .i64 (ps.getD k ⟨0, 0, []⟩).n) ∧ w.cell? ⟨b, off + k * 3 + 2, none⟩ = some sv ∧ RdI F w sv (ps.getD k ⟨0, 0, []⟩).signs := fun k => by
    by_cases hk : k < ps.length
    · obtain ⟨b, off, sv, hA, hb, h0, h1, h2, h3⟩ := h k hk
      exact ⟨sv, fun _ => ⟨b, off, hA, hb.2, h0, h1, h2, h3⟩⟩
    · exact ⟨undef, fun hh => absurd hh hk⟩
  obtain ⟨f, hf⟩ := Classical.axiomOfChoice hx
  obtain ⟨svs, hl, hg⟩ : ∃ svs : List Value, svs.length = ps.length ∧ ∀ k, k < ps.length → svs.getD k undef = f k :=
    ⟨(List.range ps.length).map f, by simp, fun k hk => by simp [List.getD, hk]⟩
  refine ⟨svs, hl, fun k hk => ?_, fun X hX j u hu => ?_⟩
  · obtain ⟨b, off, hA, hb, h0, h1, h2, h3⟩ := hf k hk
    rw [hg k hk]
    exact h3
  · have hcl := cellsP_length ps svs hl
    have hj : j < ps.length * 3 := by
      have := (List.getElem?_eq_some_iff.1 hu).1
      omega
    have hk : j / 3 < ps.length := by omega
    obtain ⟨a0, a1, a2⟩ := cellsP_at ps svs (j / 3) hl hk
    obtain ⟨b, off, hA, hb, h0, h1, h2, h3⟩ := hf (j / 3) hk
    refine ⟨_, hA, ?_⟩
    rw [Addr.add_lit, hX.cell hb (fun hh => hh)]
    rcases (show j = j / 3 * 3 ∨ j = j / 3 * 3 + 1 ∨ j = j / 3 * 3 + 2 by omega) with e | e | e
    · rw [e, a0] at hu
      rw [e, ← hu]; exact h0
    · rw [e, a1] at hu
      rw [e, ← hu, ← Nat.add_assoc]; exact h1
    · rw [e, a2] at hu
      rw [e, ← hu, ← Nat.add_assoc, h2, hg _ hk]
theorem cellsP_one {F : Nat → Prop} {w : World} {ps : List Pt} {svs : List Value} (hl : svs.length = ps.length) (h : ∀ k, k < ps.length → RdI F w (svs.getD k undef) (ps.getD k ⟨0, 0, []⟩).signs) : ∀ u ∈ cellsP ps svs, u.oneCell' = true := by
  induction ps generalizing svs with
  | nil => intro u hu; simp [cellsP] at hu
  | cons p ps ih =>
    cases svs with
    | nil => simp at hl
    | cons sv svs =>
      intro u hu
      simp only [cellsP, List.mem_cons] at hu
      rcases hu with rfl | rfl | rfl | hu
      · rfl
      · rfl
      · obtain ⟨A, c, hv, _⟩ := h 0 (by simp)
        simp [List.getD] at hv
        rw [hv]; rfl
      · exact ih (by simpa using hl) (fun k hk => by have := h (k + 1) (by simpa using hk); simpa [List.getD] using this) u hu

theorem Frame.andAlloc {S : Nat → Prop} {a b : World} (h : Frame S a b) (o : Obj) : Frame S a (b.alloc o) := h.trans (Frame.alloc S b o) fun _ _ hh => hh
theorem Frame.andDrew {S : Nat → Prop} {a b : World} (h : Frame S a b) : Frame S a b.drew := h.trans (Frame.drew S b) fun _ _ hh => hh
theorem Frame.andSet {S : Nat → Prop} {a b : World} (h : Frame S a b) (p : Addr) (u : Value) (hp : S p.block) : Frame S a (b.setCell p u) := h.trans (Frame.setCell S b p u hp) fun _ _ hh => hh
theorem Frame.andGrow {S : Nat → Prop} {a b c : World} {row : Option Nat} (h : Frame S a b) (hg : b.grownBy c row) (hS : ∀ k, row = some k → S k) : Frame S a c := h.trans (Frame.grown hg hS) fun _ _ hh => hh
/-- A literal of one part that lies in a block of its own. -/
theorem lit_part {w : World} {b : Nat} {x y z : Value} (h : w.heap[b]? = some (.cells #[x, y, z] 62 (0, 0))) : w.ownsRow 0 62 3 (.slice (some ⟨b, 0, none⟩) 1 1) 1 [x, y, z] :=
  ⟨rfl, .inr ⟨b, 1, #[x, y, z], rfl, Nat.zero_le _, h, Nat.le_refl _, by unfold maxLen; decide, rfl, rfl⟩⟩
theorem RdI.take {F : Nat → Prop} {w : World} {A : Option Addr} {xs : List Int} {c n : Nat} (h : RdI F w (.slice A xs.length c) xs) (hn : n ≤ xs.length) : RdI F w (.slice A n c) (xs.take n) := by
  obtain ⟨A', c', e, hc, hi⟩ := h
  injection e with e1 e2 e3
  subst e1 e3
  refine ⟨A, c, by rw [List.length_take, Nat.min_eq_left hn], by rw [List.length_take, Nat.min_eq_left hn]; omega, fun k hk => ?_⟩
  rw [List.length_take, Nat.min_eq_left hn] at hk
  obtain ⟨b, off, hA, hb, hx⟩ := hi k (by omega)
  refine ⟨b, off, hA, hb, ?_⟩
  rw [hx]
  simp [List.getD, hk]
theorem RdI.drop {F : Nat → Prop} {w : World} {A : Option Addr} {xs : List Int} {c n : Nat} (h : RdI F w (.slice A xs.length c) xs) (hn : n ≤ xs.length) :
    RdI F w (.slice (if c = n then A else A.map (·.add n)) (xs.length - n) (c - n)) (xs.drop n) := by
  obtain ⟨A', c', e, hc, hi⟩ := h
  injection e with e1 e2 e3
  subst e1 e3
  refine ⟨_, _, by rw [List.length_drop], by rw [List.length_drop]; omega, fun k hk => ?_⟩
  rw [List.length_drop] at hk
  obtain ⟨b, off, rfl, hb, hx⟩ := hi (n + k) (by omega)
  rw [if_neg (by omega)]
  refine ⟨b, off + n, by simp [Addr.add_lit], hb, ?_⟩
  rw [Nat.add_assoc, hx]
  simp [List.getD]
end Go.Proofs.YtookcfpiegbafaaDoor
