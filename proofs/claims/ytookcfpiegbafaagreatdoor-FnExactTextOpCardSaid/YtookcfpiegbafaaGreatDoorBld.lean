/- A builder of parts in memory: the parts so far, and the characters that wait, each in blocks of the call's own. No condition. -/
import Derived.Test.YtookcfpiegbafaaGreatDoorGB
import Derived.Test.YtookcfpiegbafaaGreatDoorGA
namespace Go.Proofs.YtookcfpiegbafaaGreatDoor
open Go.RowKit
set_option maxRecDepth 100000

/-- Two values whose blocks differ. -/
def Apart (a b : Value) : Prop := a.ownBlock = none ∨ a.ownBlock ≠ b.ownBlock
theorem Apart.symm {a b : Value} (h : Apart a b) : Apart b a := by
  rcases h with h | h
  · rcases hb : b.ownBlock with _ | g
    · exact .inl hb
    · exact .inr (by rw [h, hb]; simp)
  · exact .inr (fun e => h e.symm)
theorem Apart.nil_left {n c : Nat} (b : Value) : Apart (.slice none n c) b := .inl rfl

/-- The parts and the waiting characters of b lie, in blocks of F, at vo and vp; svs: where each part's characters lie. -/
structure BldAt (F : Nat → Prop) (w : World) (vo vp : Value) (b : Pl.Bd) (svs : List Value) : Prop where
  row : w.ownsRow 0 47 3 vo b.list.length (cellsP b.list svs)
  len : svs.length = b.list.length
  each : ∀ k, k < b.list.length → OwnInts 0 w (svs.getD k undef) (b.list.getD k ⟨0, 0, []⟩).signs
  put : OwnInts 0 w vp b.put
  inF : ∀ v ∈ vo :: vp :: svs, ∀ g, v.ownBlock = some g → F g
  top : ∀ g, F g → g < w.heap.size
  apart : (vo :: vp :: svs).Pairwise Apart

theorem getD_mem {svs : List Value} {k : Nat} (h : k < svs.length) : svs.getD k undef ∈ svs := by
  simp [List.getD, h]
theorem BldAt.frame {F S : Nat → Prop} {w w' : World} {vo vp : Value} {b : Pl.Bd} {svs : List Value} (h : BldAt F w vo vp b svs) (hf : Frame S w w') (hs : ∀ g, F g → ¬ S g) : BldAt F w' vo vp b svs :=
  ⟨hf.row h.row fun g hg => hs g (h.inF _ (by simp) g hg), h.len,
    fun k hk => hf.row (h.each k hk) fun g hg => hs g (h.inF _ (List.mem_cons_of_mem _ (List.mem_cons_of_mem _ (getD_mem (by rw [h.len]; exact hk)))) g hg),
    hf.row h.put fun g hg => hs g (h.inF _ (by simp) g hg), h.inF, fun g hg => Nat.lt_of_lt_of_le (h.top g hg) hf.size, h.apart⟩
theorem BldAt.init (w : World) : BldAt (fun _ => False) w (.slice none 0 0) (.slice none 0 0) Pl.Bd.init [] :=
  ⟨World.ownsRow_nil _ _ _ _, rfl, fun k hk => absurd hk (Nat.not_lt_zero _), World.ownsRow_nil _ _ _ _, by simp [Value.ownBlock], fun _ h => h.elim, by simp [Apart, Value.ownBlock]⟩
theorem BldAt.mono {F T : Nat → Prop} {w : World} {vo vp : Value} {b : Pl.Bd} {svs : List Value} (h : BldAt F w vo vp b svs) (hT : ∀ g, F g → T g) (ht : ∀ g, T g → g < w.heap.size) : BldAt T w vo vp b svs :=
  ⟨h.row, h.len, h.each, h.put, fun v hv g hg => hT g (h.inF v hv g hg), ht, h.apart⟩

/-- F and the blocks that are new between w and w'. -/
def Plus (F : Nat → Prop) (w w' : World) : Nat → Prop := fun k => F k ∨ (w.heap.size ≤ k ∧ k < w'.heap.size)

theorem BldAt.lt {F : Nat → Prop} {w : World} {vo vp : Value} {b : Pl.Bd} {svs : List Value} (h : BldAt F w vo vp b svs) {v : Value} (hv : v ∈ vo :: vp :: svs) {g : Nat} (hg : v.ownBlock = some g) : g < w.heap.size := h.top g (h.inF v hv g hg)

/-- Another value in the place of one of the row: its block is the old one's, or new. -/
theorem apart_new {w : World} {v v' : Value} {l : List Value} (h : ∀ u ∈ l, Apart v u) (hl : ∀ u ∈ l, ∀ g, u.ownBlock = some g → g < w.heap.size)
    (hn : v'.ownBlock = v.ownBlock ∨ v'.ownBlock = some w.heap.size) : ∀ u ∈ l, Apart v' u := by
  intro u hu
  rcases hn with hn | hn
  · rcases h u hu with h | h
    · exact .inl (by rw [hn]; exact h)
    · exact .inr (by rw [hn]; exact h)
  · refine .inr fun e => ?_
    have := hl u hu w.heap.size (by rw [← e]; exact hn)
    omega

/-- Characters are put behind those that wait. -/
theorem BldAt.addPut {F : Nat → Prop} {w w1 : World} {vo vp vp' : Value} {b : Pl.Bd} {svs : List Value} (h : BldAt F w vo vp b svs) {l : List Int}
    (ho : w1.ownsRow 0 3 1 vp' (b.put ++ l).length ((b.put ++ l).map (Value.int .i64))) (hg : w.grownBy w1 vp.ownBlock) (hn : vp'.ownBlock = vp.ownBlock ∨ vp'.ownBlock = some w.heap.size) :
    BldAt (Plus F w w1) w1 vo vp' (Pl.bPut b l) svs := by
  have hp := h.apart
  rw [List.pairwise_cons, List.pairwise_cons] at hp
  obtain ⟨p1, p2, p3⟩ := hp
  have hf : Frame (fun k => vp.ownBlock = some k) w w1 := Frame.grown hg (fun _ e => e)
  refine ⟨hf.row h.row fun g hg1 hg2 => ?_, h.len, fun k hk => hf.row (h.each k hk) fun g hg1 hg2 => ?_, ho, fun v hv g hg1 => ?_, fun g hg1 => ?_, ?_⟩
  · rcases p1 vp (by simp) with e | e
    · rw [hg1] at e; cases e
    · exact e (hg1.trans hg2.symm)
  · have := p2 _ (getD_mem (k := k) (svs := svs) (by rw [h.len]; exact hk))
    rcases this with e | e
    · rw [hg2] at e; cases e
    · exact e (hg2.trans hg1.symm)
  · rcases List.mem_cons.1 hv with rfl | hv
    · exact .inl (h.inF _ (by simp) g hg1)
    · rcases List.mem_cons.1 hv with rfl | hv
      · rcases hn with hn | hn
        · exact .inl (h.inF vp (by simp) g (by rw [← hn]; exact hg1))
        · rw [hn] at hg1
          injection hg1 with e
          exact .inr ⟨by omega, by subst e; exact (ho.lt _ (by rw [hn])).2⟩
      · exact .inl (h.inF v (List.mem_cons_of_mem _ (List.mem_cons_of_mem _ hv)) g hg1)
  · rcases hg1 with hg1 | hg1
    · exact Nat.lt_of_lt_of_le (h.top g hg1) hg.size
    · exact hg1.2
  · rw [List.pairwise_cons, List.pairwise_cons]
    have q := apart_new (w := w) (v := vp) (v' := vp') (l := vo :: svs) (fun u hu => by
      rcases List.mem_cons.1 hu with rfl | hu
      · exact (p1 vp (by simp)).symm
      · exact p2 u hu) (fun u hu g hg => h.lt (by rcases List.mem_cons.1 hu with rfl | hu <;> simp [*]) hg) hn
    refine ⟨fun u hu => ?_, fun u hu => q u (by simp [hu]), p3⟩
    rcases List.mem_cons.1 hu with rfl | hu
    · exact (q vo (by simp)).symm
    · exact p1 u (by simp [hu])

/-- A part is put behind those so far; its characters lie at sv: nowhere, or where those lay that waited. -/
theorem BldAt.addPart {F : Nat → Prop} {w w1 : World} {vo vo' vp : Value} {b : Pl.Bd} {svs : List Value} (h : BldAt F w vo vp b svs) (p : Pt) (sv vp' : Value) (put' : List Int)
    (ho : w1.ownsRow 0 47 3 vo' (b.list.length + 1) (cellsP b.list svs ++ [.int .i64 p.kind, .int .i64 p.n, sv])) (hg : w.grownBy w1 vo.ownBlock) (hn : vo'.ownBlock = vo.ownBlock ∨ vo'.ownBlock = some w.heap.size)
    (hc : (sv = vp ∧ p.signs = b.put ∧ vp' = .slice none 0 0 ∧ put' = []) ∨ (sv = .slice none 0 0 ∧ p.signs = [] ∧ vp' = vp ∧ put' = b.put)) (d : Int) :
    BldAt (Plus F w w1) w1 vo' vp' ⟨b.list ++ [p], put', d⟩ (svs ++ [sv]) := by
  have hp := h.apart
  rw [List.pairwise_cons, List.pairwise_cons] at hp
  obtain ⟨p1, p2, p3⟩ := hp
  have hf : Frame (fun k => vo.ownBlock = some k) w w1 := Frame.grown hg (fun _ e => e)
  have hfar : ∀ u ∈ vp :: svs, ∀ g, u.ownBlock = some g → ¬ vo.ownBlock = some g := fun u hu g hg1 hg2 => by
    rcases p1 u hu with e | e
    · rw [hg2] at e; cases e
    · exact e (hg2.trans hg1.symm)
  have hput : OwnInts 0 w1 vp b.put := hf.row h.put (hfar vp (by simp))
  have hnilrow : OwnInts 0 w1 (.slice none 0 0) [] := World.ownsRow_nil _ _ _ _
  have q := apart_new (w := w) (v := vo) (v' := vo') (l := vp :: svs) p1 (fun u hu g hg => h.lt (by rcases List.mem_cons.1 hu with rfl | hu <;> simp [*]) hg) hn
  have inF1 : ∀ v ∈ vo' :: vp :: svs, ∀ g, v.ownBlock = some g → Plus F w w1 g := fun v hv g hg1 => by
    rcases List.mem_cons.1 hv with rfl | hv
    · rcases hn with hn | hn
      · exact .inl (h.inF vo (by simp) g (by rw [← hn]; exact hg1))
      · rw [hn] at hg1
        injection hg1 with e
        exact .inr ⟨by omega, by subst e; exact (ho.lt _ (by rw [hn])).2⟩
    · exact .inl (h.inF v (List.mem_cons_of_mem _ hv) g hg1)
  have htop : ∀ g, Plus F w w1 g → g < w1.heap.size := fun g hg1 => by
    rcases hg1 with hg1 | hg1
    · exact Nat.lt_of_lt_of_le (h.top g hg1) hg.size
    · exact hg1.2
  have hsv : (sv = vp ∧ vp' = .slice none 0 0) ∨ (sv = .slice none 0 0 ∧ vp' = vp) := by
    rcases hc with ⟨a, _, c, _⟩ | ⟨a, _, c, _⟩
    · exact .inl ⟨a, c⟩
    · exact .inr ⟨a, c⟩
  refine ⟨?_, by simp [h.len], fun k hk => ?_, ?_, fun v hv g hg1 => ?_, htop, ?_⟩
  · rw [cellsP_append _ _ _ _ h.len]
    simpa [cellsP] using ho
  · by_cases hkl : k < b.list.length
    · have e1 : (svs ++ [sv]).getD k undef = svs.getD k undef := by simp [List.getD, List.getElem?_append_left (show k < svs.length by rw [h.len]; exact hkl)]
      have e2 : (b.list ++ [p]).getD k ⟨0, 0, []⟩ = b.list.getD k ⟨0, 0, []⟩ := by simp [List.getD, List.getElem?_append_left hkl]
      simp only [e1, e2]
      exact hf.row (h.each k hkl) (hfar _ (List.mem_cons_of_mem _ (getD_mem (by rw [h.len]; exact hkl))))
    · obtain rfl : k = b.list.length := by simp at hk; omega
      have e1 : (svs ++ [sv]).getD b.list.length undef = sv := by simp [List.getD, ← h.len]
      have e2 : (b.list ++ [p]).getD b.list.length ⟨0, 0, []⟩ = p := by simp [List.getD]
      simp only [e1, e2]
      rcases hc with ⟨rfl, e, _, _⟩ | ⟨rfl, e, _, _⟩
      · rw [e]; exact hput
      · rw [e]; exact hnilrow
  · rcases hc with ⟨_, _, rfl, rfl⟩ | ⟨_, _, rfl, rfl⟩
    · exact hnilrow
    · exact hput
  · have hmem : v ∈ vo' :: vp :: svs ∨ v = .slice none 0 0 := by
      simp only [List.mem_cons, List.mem_append, List.not_mem_nil, or_false] at hv ⊢
      rcases hsv with ⟨rfl, rfl⟩ | ⟨rfl, rfl⟩
      · rcases hv with h1 | h1 | h1 | h1 <;> simp [h1]
      · rcases hv with h1 | h1 | h1 | h1 <;> simp [h1]
    rcases hmem with hm | rfl
    · exact inF1 v hm g hg1
    · simp [Value.ownBlock] at hg1
  · have base : (vo' :: vp :: svs).Pairwise Apart := by
      rw [List.pairwise_cons, List.pairwise_cons]
      exact ⟨q, p2, p3⟩
    have e : (vo' :: vp :: svs).Pairwise Apart → (vo' :: (svs ++ [vp])).Pairwise Apart := fun hh =>
      (List.Perm.pairwise_iff (fun {_ _} => Apart.symm) (List.Perm.cons _ (List.perm_append_comm (l₁ := [vp]) (l₂ := svs)))).1 hh
    rcases hsv with ⟨rfl, rfl⟩ | ⟨rfl, rfl⟩
    · have hh := e base
      rw [List.pairwise_cons] at hh ⊢
      rw [List.pairwise_cons]
      refine ⟨fun u hu => ?_, fun u _ => .nil_left _, hh.2⟩
      rcases List.mem_cons.1 hu with rfl | hu
      · exact (Apart.nil_left _).symm
      · exact hh.1 u hu
    · rw [List.pairwise_cons, List.pairwise_cons] at base ⊢
      refine ⟨fun u hu => ?_, fun u hu => ?_, ?_⟩
      · simp only [List.mem_cons, List.mem_append, List.not_mem_nil, or_false] at hu
        rcases hu with h1 | h1 | h1
        · exact base.1 u (by simp [h1])
        · exact base.1 u (by simp [h1])
        · subst h1; exact (Apart.nil_left _).symm
      · simp only [List.mem_cons, List.mem_append, List.not_mem_nil, or_false] at hu
        rcases hu with h1 | h1
        · exact base.2.1 u h1
        · subst h1; exact (Apart.nil_left _).symm
      · rw [List.pairwise_append]
        refine ⟨base.2.2, by simp, fun x _ y hy => ?_⟩
        simp at hy
        subst hy
        exact (Apart.nil_left _).symm

theorem cellsP_setN : ∀ (l : List Pt) (p : Pt) (svs : List Value) (n : Int), svs.length = l.length + 1 →
    (cellsP (l ++ [p]) svs).set (l.length * 3 + 1) (.int .i64 n) = cellsP (l ++ [⟨p.kind, n, p.signs⟩]) svs
  | [], p, [sv], n, _ => rfl
  | [], p, [], n, h => by simp at h
  | [], p, _ :: _ :: _, n, h => by simp at h
  | q :: l, p, [], n, h => by simp at h
  | q :: l, p, sv :: svs, n, h => by
    have := cellsP_setN l p svs n (by simpa using h)
    rw [List.length_cons, show (l.length + 1) * 3 + 1 = l.length * 3 + 1 + 1 + 1 + 1 by omega]
    simp only [List.cons_append, cellsP, List.set_cons_succ, this]
/-- The last part's number is written anew. -/
theorem BldAt.setN {F : Nat → Prop} {w : World} {g cap : Nat} {vp : Value} {l : List Pt} {p : Pt} {put : List Int} {d : Int} {svs : List Value}
    (h : BldAt F w (.slice (some ⟨g, 0, none⟩) (l.length + 1) cap) vp ⟨l ++ [p], put, d⟩ svs) (n : Int) :
    BldAt F (w.setCell ⟨g, l.length * 3 + 1, none⟩ (.int .i64 n)) (.slice (some ⟨g, 0, none⟩) (l.length + 1) cap) vp ⟨l ++ [⟨p.kind, n, p.signs⟩], put, d⟩ svs := by
  have hp := h.apart
  rw [List.pairwise_cons, List.pairwise_cons] at hp
  obtain ⟨p1, p2, p3⟩ := hp
  have hl : svs.length = l.length + 1 := by have := h.len; simpa using this
  have hr := h.row
  have hrl : (l ++ [p]).length = l.length + 1 := by simp
  simp only [hrl] at hr
  obtain ⟨s1, s2⟩ := hr.stored (l.length * 3 + 1) (.int .i64 n)
  rw [cellsP_setN l p svs n hl] at s1
  have hf : Frame (fun k => g = k) w (w.setCell ⟨g, l.length * 3 + 1, none⟩ (.int .i64 n)) := Frame.setCell _ _ _ _ rfl
  have hfar : ∀ u ∈ vp :: svs, ∀ k, u.ownBlock = some k → ¬ g = k := fun u hu k hg1 hg2 => by
    subst hg2
    rcases p1 u hu with e | e
    · cases e
    · exact e hg1.symm
  refine ⟨by simpa using s1, by simpa using hl, fun k hk => ?_, hf.row h.put (hfar vp (by simp)), h.inF, fun k hk => Nat.lt_of_lt_of_le (h.top k hk) hf.size, h.apart⟩
  have hk' : k < (l ++ [p]).length := by simpa using hk
  have e2 : ((l ++ [(⟨p.kind, n, p.signs⟩ : Pt)]).getD k ⟨0, 0, []⟩).signs = ((l ++ [p]).getD k ⟨0, 0, []⟩).signs := by
    by_cases hkl : k < l.length
    · simp [List.getD, List.getElem?_append_left hkl]
    · obtain rfl : k = l.length := by simp at hk; omega
      simp [List.getD]
  show OwnInts 0 _ _ _
  rw [e2]
  exact hf.row (h.each k hk') (hfar _ (List.mem_cons_of_mem _ (getD_mem (by simp at hk'; omega))))

/-- What a builder made, in blocks of its own from lo up to hi. -/
theorem BldAt.own {F : Nat → Prop} {w : World} {vo vp : Value} {b : Pl.Bd} {svs : List Value} (h : BldAt F w vo vp b svs) {lo hi : Nat} (hlo : ∀ g, F g → lo ≤ g) (hhi : w.heap.size ≤ hi) : OwnP lo hi w vo b.list svs := by
  have hp := h.apart
  rw [List.pairwise_cons, List.pairwise_cons] at hp
  obtain ⟨p1, p2, p3⟩ := hp
  have hmem : ∀ k, k < b.list.length → svs.getD k undef ∈ vo :: vp :: svs := fun k hk => List.mem_cons_of_mem _ (List.mem_cons_of_mem _ (getD_mem (by rw [h.len]; exact hk)))
  refine ⟨World.ownsRow.base h.row fun g hg => hlo g (h.inF vo (by simp) g hg), fun g hg => Nat.lt_of_lt_of_le (h.lt (by simp) hg) hhi, h.len, fun k hk => ⟨World.ownsRow.base (h.each k hk) fun g hg => hlo g (h.inF _ (hmem k hk) g hg), fun g hg => Nat.lt_of_lt_of_le (h.lt (hmem k hk) hg) hhi⟩, fun i j hij hj => ?_⟩
  have hi : i < svs.length := by rw [h.len]; omega
  have hj' : j < svs.length := by rw [h.len]; omega
  have := List.pairwise_iff_getElem.1 p3 i j hi hj' hij
  simpa [List.getD, hi, hj', Apart] using this

namespace Pl
/-- Bounds of a builder. -/
structure Bd.le (b : Bd) (m : Nat) : Prop where
  len : b.list.length ≤ m
  n0 : ∀ p ∈ b.list, 0 ≤ p.n
  nm : ∀ p ∈ b.list, p.n ≤ m
  put : b.put.length ≤ m
  d0 : 0 ≤ b.drop
  dm : b.drop ≤ m
theorem Bd.le_init : Bd.init.le 0 := ⟨Nat.le_refl _, fun p hp => by simp [Bd.init] at hp, fun p hp => by simp [Bd.init] at hp, Nat.le_refl _, Int.le_refl _, Int.le_refl _⟩
theorem Bd.le.mono {b : Bd} {m n : Nat} (h : b.le m) (hm : m ≤ n) : b.le n :=
  ⟨Nat.le_trans h.len hm, h.n0, fun p hp => by have := h.nm p hp; omega, Nat.le_trans h.put hm, h.d0, by have := h.dm; omega⟩
theorem flushL_le {b : Bd} {m : Nat} (h : b.le m) : (flushL b).length ≤ m + 2 ∧ (∀ p ∈ flushL b, 0 ≤ p.n) ∧ ∀ p ∈ flushL b, p.n ≤ m := by
  have h1 := h.len
  have h2 := h.dm
  have h3 := h.d0
  refine ⟨?_, fun p hp => ?_, fun p hp => ?_⟩
  · rw [flushL, List.length_append, List.length_append]
    split <;> split <;> simp <;> omega
  all_goals
    rw [flushL, List.mem_append, List.mem_append] at hp
    rcases hp with hp | hp | hp
    · first | exact h.n0 p hp | exact h.nm p hp
    · split at hp <;> simp at hp
      subst hp
      show _ ≤ _
      simp
    · split at hp <;> simp at hp
      subst hp
      show _ ≤ _
      simp
      omega
theorem flush_le {b : Bd} {m : Nat} (h : b.le m) : (flush b).le (m + 2) := by
  obtain ⟨h1, h2, h3⟩ := flushL_le h
  exact ⟨h1, h2, fun p hp => by have := h3 p hp; omega, Nat.zero_le _, Int.le_refl _, by show (0 : Int) ≤ _; omega⟩
theorem addKeep_le {l : List Pt} {L m k : Nat} {n : Int} (hl : l.length ≤ L) (h0 : ∀ p ∈ l, 0 ≤ p.n) (h1 : ∀ p ∈ l, p.n ≤ m) (hn0 : 0 ≤ n) (hnk : n ≤ k) :
    (addKeep l n).length ≤ L + 1 ∧ (∀ p ∈ addKeep l n, 0 ≤ p.n) ∧ ∀ p ∈ addKeep l n, p.n ≤ m + k := by
  rcases List.eq_nil_or_concat l with rfl | ⟨l, p, rfl⟩
  · refine ⟨by simp [addKeep], fun p hp => ?_, fun p hp => ?_⟩ <;> simp [addKeep] at hp <;> subst hp <;> show _ ≤ _ <;> simp <;> omega
  · rw [List.concat_eq_append] at hl h0 h1 ⊢
    have hp0 := h0 p (by simp)
    have hp1 := h1 p (by simp)
    rw [addKeep_last]
    split
    · refine ⟨by simp at hl ⊢; omega, fun q hq => ?_, fun q hq => ?_⟩
      all_goals
        rcases List.mem_append.1 hq with hq | hq
        · have := h0 q (by simp [hq]); have := h1 q (by simp [hq]); omega
        · simp at hq; subst hq; show _ ≤ _; simp; omega
    · refine ⟨by simp at hl ⊢; omega, fun q hq => ?_, fun q hq => ?_⟩
      all_goals
        rcases List.mem_append.1 hq with hq | hq
        · have := h0 q hq; have := h1 q hq; omega
        · simp at hq; subst hq; show _ ≤ _; simp; omega
theorem bKeep_le {b : Bd} {m k : Nat} {n : Int} (h : b.le m) (hn0 : 0 ≤ n) (hnk : n ≤ k) (hk : 3 ≤ k) : (bKeep b n).le (m + k) := by
  rw [bKeep]
  split
  · exact h.mono (by omega)
  · obtain ⟨h1, h2, h3⟩ := flushL_le h
    obtain ⟨a1, a2, a3⟩ := addKeep_le (k := k) h1 h2 h3 hn0 hnk
    exact ⟨by show (addKeep _ _).length ≤ _; omega, a2, fun p hp => by have := a3 p hp; omega, Nat.zero_le _, Int.le_refl _, by show (0 : Int) ≤ _; omega⟩
theorem bPut_le {b : Bd} {m k : Nat} {l : List Int} (h : b.le m) (hl : l.length ≤ k) : (bPut b l).le (m + k) := by
  have h1 := h.len
  have h2 := h.put
  have h3 := h.dm
  exact ⟨by show b.list.length ≤ _; omega, h.n0, fun p hp => by have := h.nm p hp; omega, by show (b.put ++ l).length ≤ _; rw [List.length_append]; omega, h.d0, by show b.drop ≤ _; omega⟩
theorem bDrop_le {b : Bd} {m k : Nat} {n : Int} (h : b.le m) (hn0 : 0 ≤ n) (hnk : n ≤ k) : (bDrop b n).le (m + k) := by
  have h1 := h.len
  have h2 := h.put
  have h3 := h.dm
  have h4 := h.d0
  exact ⟨by show b.list.length ≤ _; omega, h.n0, fun p hp => by have := h.nm p hp; omega, by show b.put.length ≤ _; omega, by show 0 ≤ b.drop + n; omega, by show b.drop + n ≤ _; omega⟩
theorem bPart_le {b : Bd} {m k : Nat} {p : Pt} (h : b.le m) (hk : 3 ≤ k) (h0 : 0 ≤ p.n) (h1 : p.n ≤ k) (h2 : p.signs.length ≤ k) : (bPart b p).le (m + k) := by
  rw [bPart]
  split
  · exact bKeep_le h h0 h1 hk
  · split
    · exact bPut_le h h2
    · exact bDrop_le h h0 h1
end Pl
end Go.Proofs.YtookcfpiegbafaaGreatDoor
