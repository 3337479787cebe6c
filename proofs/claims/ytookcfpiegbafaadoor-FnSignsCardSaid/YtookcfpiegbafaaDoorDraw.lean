/- Contracts of what draws operations and texts. Condition: at most 188 characters. -/
import Derived.Test.YtookcfpiegbafaaDoorGen
import Derived.Test.YtookcfpiegbafaaDoorNorm2
import Derived.Deep.LoopGhost
namespace Go.Proofs.YtookcfpiegbafaaDoor
open Go.RowKit
set_option maxRecDepth 100000

/-- What an operation that is being drawn is: its parts are right, so many characters are left, and so many may still be put. -/
structure Dr (from' : Int) (ps : List Pt) (left room : Int) : Prop where
  ok : ∀ p ∈ ps, Pl.partOk p = true
  l0 : 0 ≤ left
  r0 : 0 ≤ room
  fr : Pl.keeps ps + Pl.drops ps = from' - left
  pu : Pl.puts ps = 12 - room
theorem Dr.init {m : Int} (h : 0 ≤ m) : Dr m [] m 12 := ⟨fun p hp => by simp at hp, h, by omega, by simp [Pl.keeps, Pl.drops], by simp [Pl.puts]⟩
theorem sums_snoc (ps : List Pt) (p : Pt) : Pl.keeps (ps ++ [p]) = Pl.keeps ps + Pl.keepsP p ∧ Pl.drops (ps ++ [p]) = Pl.drops ps + Pl.dropsP p ∧ Pl.puts (ps ++ [p]) = Pl.puts ps + Pl.putsP p := by
  simp [Pl.keeps, Pl.drops, Pl.puts]
theorem puts_nat (ps : List Pt) : 0 ≤ Pl.puts ps := by
  unfold Pl.puts
  induction ps with
  | nil => simp
  | cons p ps ih =>
    have : 0 ≤ Pl.putsP p := by unfold Pl.putsP; split <;> omega
    simp only [List.map_cons, List.sum_cons]
    omega
theorem drops_nat {ps : List Pt} (a : ∀ p ∈ ps, Pl.partOk p = true) : 0 ≤ Pl.drops ps := by
  unfold Pl.drops
  induction ps with
  | nil => simp
  | cons p ps ih =>
    have := ih fun q hq => a q (by simp [hq])
    have h0 := Pl.ok_n (a p (by simp))
    have : 0 ≤ Pl.dropsP p := by
      unfold Pl.dropsP
      split
      · omega
      · split <;> omega
    simp only [List.map_cons, List.sum_cons]
    omega
theorem keeps_nat {ps : List Pt} (a : ∀ p ∈ ps, Pl.partOk p = true) : 0 ≤ Pl.keeps ps := by
  unfold Pl.keeps
  induction ps with
  | nil => simp
  | cons p ps ih =>
    have := ih fun q hq => a q (by simp [hq])
    have h0 := Pl.ok_n (a p (by simp))
    have : 0 ≤ Pl.keepsP p := by unfold Pl.keepsP; split <;> omega
    simp only [List.map_cons, List.sum_cons]
    omega
theorem sums_nat {ps : List Pt} (a : ∀ p ∈ ps, Pl.partOk p = true) : 0 ≤ Pl.keeps ps + Pl.drops ps := by
  have := keeps_nat a
  have := drops_nat a
  omega
theorem Dr.put {m left room : Int} {ps : List Pt} (h : Dr m ps left room) {xs : List Int} (hx : Pl.signsOk xs = true) (hl : (xs.length : Int) ≤ room) : Dr m (ps ++ [⟨2, 0, xs⟩]) left (room - xs.length) := by
  obtain ⟨a, b, c, d, e⟩ := h
  obtain ⟨s1, s2, s3⟩ := sums_snoc ps ⟨2, 0, xs⟩
  have e1 : Pl.keepsP ⟨2, 0, xs⟩ = 0 := by simp [Pl.keepsP]
  have e2 : Pl.dropsP ⟨2, 0, xs⟩ = 0 := by simp [Pl.dropsP]
  have e3 : Pl.putsP ⟨2, 0, xs⟩ = xs.length := by simp [Pl.putsP]
  have hp0 := puts_nat ps
  refine ⟨fun p hp => ?_, b, by omega, by omega, by omega⟩
  rcases List.mem_append.1 hp with hp | hp
  · exact a p hp
  · simp at hp
    subst hp
    exact Pl.partOk_of (.inr (.inr ⟨rfl, rfl, by show xs.length ≤ 200; omega, hx⟩))
theorem Dr.drop {m left room n : Int} {ps : List Pt} (h : Dr m ps left room) (h0 : 0 ≤ n) (h1 : n ≤ left) (h2 : n ≤ 200) : Dr m (ps ++ [⟨3, n, []⟩]) (left - n) room := by
  obtain ⟨a, b, c, d, e⟩ := h
  obtain ⟨s1, s2, s3⟩ := sums_snoc ps ⟨3, n, []⟩
  have e1 : Pl.keepsP ⟨3, n, []⟩ = 0 := by simp [Pl.keepsP]
  have e2 : Pl.dropsP ⟨3, n, []⟩ = n := by simp [Pl.dropsP]
  have e3 : Pl.putsP ⟨3, n, []⟩ = 0 := by simp [Pl.putsP]
  refine ⟨fun p hp => ?_, by omega, c, by omega, by omega⟩
  rcases List.mem_append.1 hp with hp | hp
  · exact a p hp
  · simp at hp
    subst hp
    exact Pl.partOk_of (.inr (.inl ⟨rfl, h0, h2, rfl⟩))
theorem Dr.keep {m left room n : Int} {ps : List Pt} (h : Dr m ps left room) (h0 : 0 ≤ n) (h1 : n ≤ left) (h2 : n ≤ 200) : Dr m (ps ++ [⟨1, n, []⟩]) (left - n) room := by
  obtain ⟨a, b, c, d, e⟩ := h
  obtain ⟨s1, s2, s3⟩ := sums_snoc ps ⟨1, n, []⟩
  have e1 : Pl.keepsP ⟨1, n, []⟩ = n := by simp [Pl.keepsP]
  have e2 : Pl.dropsP ⟨1, n, []⟩ = 0 := by simp [Pl.dropsP]
  have e3 : Pl.putsP ⟨1, n, []⟩ = 0 := by simp [Pl.putsP]
  refine ⟨fun p hp => ?_, by omega, c, by omega, by omega⟩
  rcases List.mem_append.1 hp with hp | hp
  · exact a p hp
  · simp at hp
    subst hp
    exact Pl.partOk_of (.inl ⟨rfl, h0, h2, rfl⟩)
theorem Dr.done {m room : Int} {ps : List Pt} (h : Dr m ps 0 room) (hm : m ≤ 188) (hl : ps.length ≤ 600) : Pl.opOk ps = true ∧ Pl.opFrom ps = m ∧ Pl.opTo ps ≤ m + 12 := by
  obtain ⟨a, b, c, d, e⟩ := h
  have hp := Pl.partsOk_of a hl
  have hd := drops_nat a
  have e1 : Pl.opFrom ps = Pl.keeps ps + Pl.drops ps := by rw [Pl.opFrom, if_pos hp]
  have e2 : Pl.opTo ps = Pl.keeps ps + Pl.puts ps := by rw [Pl.opTo, if_pos hp]
  refine ⟨?_, by omega, by omega⟩
  rw [Pl.opOk, hp]
  simp
  omega

/-- The state of a draw of an operation. -/
structure DSt (B g n : Nat) (m : Int) (w : World) (F : Nat → Prop) (wr : World) (u : Value) (ps : List Pt) (svs : List Value) (left room : Int) : Prop where
  out : OutAt F wr u ps svs
  dr : Dr m ps left room
  cur : CurAt B wr g n
  frame : Frame (fun k => k = g) w wr
  lo : ∀ b, F b → w.heap.size ≤ b ∧ b < wr.heap.size
  uo : ∀ b, u.ownBlock = some b → w.heap.size ≤ b
  lg : g < w.heap.size
section
variable {B g n : Nat} {m : Int} {w : World} {F : Nat → Prop} {wr : World} {u : Value} {ps : List Pt} {svs : List Value} {left room : Int}
theorem DSt.free {w2 : World} (h : DSt B g n m w F wr u ps svs left room) (hf : Frame (fun _ => False) wr w2) : DSt B g n m w F w2 u ps svs left room :=
  ⟨h.out.frame hf (fun _ _ hh => hh) (fun _ _ hh => hh), h.dr, h.cur.frame hf (fun hh => hh) (fun _ _ hh => hh), h.frame.trans hf (fun _ _ hh => hh.elim), fun b hb => ⟨(h.lo b hb).1, Nat.lt_of_lt_of_le (h.lo b hb).2 hf.size⟩, h.uo, h.lg⟩
theorem DSt.turn {w2 : World} (h : DSt B g n m w F wr u ps svs left room) (hc : CurAt B w2 g n) (hf : Frame (fun k => k = g) wr w2) : DSt B g n m w F w2 u ps svs left room := by
  have lg := h.lg
  exact ⟨h.out.frame hf (fun b hb e => by have := (h.lo b hb).1; omega) (fun b hb e => by have := h.uo b hb; omega), h.dr, hc, h.frame.trans hf (fun _ _ hh => hh), fun b hb => ⟨(h.lo b hb).1, Nat.lt_of_lt_of_le (h.lo b hb).2 hf.size⟩, h.uo, h.lg⟩
theorem DSt.signs {w2 : World} {v : Value} {xs : List Int} (h : DSt B g n m w F wr u ps svs left room) (ho : OwnI wr.heap.size w2.heap.size w2 v xs) (hc : CurAt B w2 g n) (hf : Frame (fun k => k = g) wr w2) :
    DSt B g n m w (Plus F wr w2) w2 u ps svs left room ∧ RdI (Plus F wr w2) w2 v xs := by
  have h2 := h.turn hc hf
  have sz := h.frame.size
  refine ⟨⟨h2.out.mono (fun _ hb => .inl hb) (fun b hb => plus_not (h2.out.far b hb) (h.out.lt b hb)), h2.dr, h2.cur, h2.frame, fun b hb => ?_, h2.uo, h2.lg⟩, ho.rd fun b h1 h3 => .inr ⟨h1, h3⟩⟩
  rcases hb with hb | hb
  · exact h2.lo b hb
  · exact ⟨by omega, hb.2⟩
theorem RdI.nil (F : Nat → Prop) (w : World) : RdI F w (.slice none 0 0) [] := ⟨none, 0, rfl, ⟨Nat.le_refl _, Nat.zero_le _⟩, fun _ hk => absurd hk (Nat.not_lt_zero _)⟩
theorem DSt.push {w3 : World} (h : DSt B g n m w F wr u ps svs left room) (p : Pt) {left' room' : Int} (hd : Dr m (ps ++ [p]) left' room') {sv : Value} {gg cap q K : Nat} (hn : ps.length = q)
    (hown : w3.ownsRow 0 62 3 (.slice (some ⟨gg, 0, none⟩) (q + 1) cap) (q + 1) (cellsP ps svs ++ [.int .i64 p.kind, .int .i64 p.n, sv])) (hg : wr.grownBy w3 u.ownBlock) (hat : u.ownBlock = some gg ∨ gg = K) (hK : K = wr.heap.size)
    (hs : RdI F wr sv p.signs) : DSt B g n m w F w3 (.slice (some ⟨gg, 0, none⟩) (q + 1) cap) (ps ++ [p]) (svs ++ [sv]) left' room' := by
  obtain ⟨a, b, c⟩ := h.out.push p hn hown hg hat hK hs (fun b hb => (h.lo b hb).2)
  have lg := h.lg
  have sz := h.frame.size
  have hlow := h.cur.low
  refine ⟨a, hd, h.cur.frame b (fun e => by have := h.uo g e; omega) (fun x hx e => by have := h.uo x e; omega), h.frame.trans b (fun x hx e => by have := h.uo x e; omega), fun x hx => ⟨(h.lo x hx).1, Nat.lt_of_lt_of_le (h.lo x hx).2 b.size⟩, fun x hx => ?_, lg⟩
  have : gg = x := by simpa [Value.ownBlock] using hx
  subst this
  rcases hat with e | e
  · exact h.uo gg e
  · omega
theorem DSt.fin (h : DSt B g n m w F wr u ps svs left room) (h0 : left = 0) (hm : m ≤ 188) (hl : ps.length ≤ 600) :
    ∃ v ps, Ending.returned u = .returned v ∧ RdP (fun b => w.heap.size ≤ b) wr v ps ∧ (Pl.opOk ps = true ∧ Pl.opFrom ps = m ∧ Pl.opTo ps ≤ m + 12) ∧ CurAt B wr g n ∧ Frame (fun k => k = g) w wr := by
  subst h0
  exact ⟨_, _, rfl, h.out.rd (fun b hb => (h.lo b hb).1) h.uo, h.dr.done hm hl, h.cur, h.frame⟩
end
end Go.Proofs.YtookcfpiegbafaaDoor
