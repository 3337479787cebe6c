/- Contracts of what draws operations and texts. Condition: at most 188 characters. -/
import Derived.Test.YtookcfpiegbafaaGreatDoorGen
import Derived.Test.YtookcfpiegbafaaGreatDoorGA
import Derived.Deep.LoopGhost
namespace Go.Proofs.YtookcfpiegbafaaGreatDoor
open Go.RowKit
set_option maxRecDepth 100000

/-- What an operation that is being drawn is: its parts are right, so many characters are left, and so many may still be put. -/
structure Dr (from' : Int) (ps : List Pt) (left room : Int) : Prop where
  ok : ∀ p ∈ ps, Pl.partOk p = true
  l0 : 0 ≤ left
  r0 : 0 ≤ room
  fr : Pl.keeps ps + Pl.drops ps = from' - left
  pu : Pl.puts ps = 12 - room
theorem Dr.init {m : Int} (h : 0 ≤ m) : Dr m [] m 12 := ⟨fun p hp => by simp at hp, h, by omega, by simp [Pl.keeps, Pl.drops], by simp [Pl.puts]⟩
theorem sums_snoc (ps : List Pt) (p : Pt) : Pl.keeps (ps ++ [p]) = Pl.keeps ps + Pl.keepsP p ∧ Pl.drops (ps ++ [p]) = Pl.drops ps + Pl.dropsP p ∧ Pl.puts (ps ++ [p]) = Pl.puts ps + Pl.putsP p := by
  simp [Pl.keeps, Pl.drops, Pl.puts]
theorem puts_nat (ps : List Pt) : 0 ≤ Pl.puts ps := by
  unfold Pl.puts
  induction ps with
  | nil => simp
  | cons p ps ih =>
    have : 0 ≤ Pl.putsP p := by unfold Pl.putsP; split <;> omega
    simp only [List.map_cons, List.sum_cons]
    omega
theorem drops_nat {ps : List Pt} (a : ∀ p ∈ ps, Pl.partOk p = true) : 0 ≤ Pl.drops ps := by
  unfold Pl.drops
  induction ps with
  | nil => simp
  | cons p ps ih =>
    have := ih fun q hq => a q (by simp [hq])
    have h0 := Pl.ok_n (a p (by simp))
    have : 0 ≤ Pl.dropsP p := by
      unfold Pl.dropsP
      split
      · omega
      · split <;> omega
    simp only [List.map_cons, List.sum_cons]
    omega
theorem keeps_nat {ps : List Pt} (a : ∀ p ∈ ps, Pl.partOk p = true) : 0 ≤ Pl.keeps ps := by
  unfold Pl.keeps
  induction ps with
  | nil => simp
  | cons p ps ih =>
    have := ih fun q hq => a q (by simp [hq])
    have h0 := Pl.ok_n (a p (by simp))
    have : 0 ≤ Pl.keepsP p := by unfold Pl.keepsP; split <;> omega
    simp only [List.map_cons, List.sum_cons]
    omega
theorem sums_nat {ps : List Pt} (a : ∀ p ∈ ps, Pl.partOk p = true) : 0 ≤ Pl.keeps ps + Pl.drops ps := by
  have := keeps_nat a
  have := drops_nat a
  omega
theorem Dr.put {m left room : Int} {ps : List Pt} (h : Dr m ps left room) {xs : List Int} (hx : Pl.signsOk xs = true) (hl : (xs.length : Int) ≤ room) : Dr m (ps ++ [⟨2, 0, xs⟩]) left (room - xs.length) := by
  obtain ⟨a, b, c, d, e⟩ := h
  obtain ⟨s1, s2, s3⟩ := sums_snoc ps ⟨2, 0, xs⟩
  have e1 : Pl.keepsP ⟨2, 0, xs⟩ = 0 := by simp [Pl.keepsP]
  have e2 : Pl.dropsP ⟨2, 0, xs⟩ = 0 := by simp [Pl.dropsP]
  have e3 : Pl.putsP ⟨2, 0, xs⟩ = xs.length := by simp [Pl.putsP]
  have hp0 := puts_nat ps
  refine ⟨fun p hp => ?_, b, by omega, by omega, by omega⟩
  rcases List.mem_append.1 hp with hp | hp
  · exact a p hp
  · simp at hp
    subst hp
    exact Pl.partOk_of (.inr (.inr ⟨rfl, rfl, by show xs.length ≤ 200; omega, hx⟩))
theorem Dr.drop {m left room n : Int} {ps : List Pt} (h : Dr m ps left room) (h0 : 0 ≤ n) (h1 : n ≤ left) (h2 : n ≤ 200) : Dr m (ps ++ [⟨3, n, []⟩]) (left - n) room := by
  obtain ⟨a, b, c, d, e⟩ := h
  obtain ⟨s1, s2, s3⟩ := sums_snoc ps ⟨3, n, []⟩
  have e1 : Pl.keepsP ⟨3, n, []⟩ = 0 := by simp [Pl.keepsP]
  have e2 : Pl.dropsP ⟨3, n, []⟩ = n := by simp [Pl.dropsP]
  have e3 : Pl.putsP ⟨3, n, []⟩ = 0 := by simp [Pl.putsP]
  refine ⟨fun p hp => ?_, by omega, c, by omega, by omega⟩
  rcases List.mem_append.1 hp with hp | hp
  · exact a p hp
  · simp at hp
    subst hp
    exact Pl.partOk_of (.inr (.inl ⟨rfl, h0, h2, rfl⟩))
theorem Dr.keep {m left room n : Int} {ps : List Pt} (h : Dr m ps left room) (h0 : 0 ≤ n) (h1 : n ≤ left) (h2 : n ≤ 200) : Dr m (ps ++ [⟨1, n, []⟩]) (left - n) room := by
  obtain ⟨a, b, c, d, e⟩ := h
  obtain ⟨s1, s2, s3⟩ := sums_snoc ps ⟨1, n, []⟩
  have e1 : Pl.keepsP ⟨1, n, []⟩ = n := by simp [Pl.keepsP]
  have e2 : Pl.dropsP ⟨1, n, []⟩ = 0 := by simp [Pl.dropsP]
  have e3 : Pl.putsP ⟨1, n, []⟩ = 0 := by simp [Pl.putsP]
  refine ⟨fun p hp => ?_, by omega, c, by omega, by omega⟩
  rcases List.mem_append.1 hp with hp | hp
  · exact a p hp
  · simp at hp
    subst hp
    exact Pl.partOk_of (.inl ⟨rfl, h0, h2, rfl⟩)
theorem Dr.done {m room : Int} {ps : List Pt} (h : Dr m ps 0 room) (hm : m ≤ 188) (hl : ps.length ≤ 600) : Pl.opOk ps = true ∧ Pl.opFrom ps = m ∧ Pl.opTo ps ≤ m + 12 := by
  obtain ⟨a, b, c, d, e⟩ := h
  have hp := Pl.partsOk_of a hl
  have hd := drops_nat a
  have e1 : Pl.opFrom ps = Pl.keeps ps + Pl.drops ps := by rw [Pl.opFrom, if_pos hp]
  have e2 : Pl.opTo ps = Pl.keeps ps + Pl.puts ps := by rw [Pl.opTo, if_pos hp]
  refine ⟨?_, by omega, by omega⟩
  rw [Pl.opOk, hp]
  simp
  omega

/-- The state of a draw of an operation. -/
structure DSt (B g n : Nat) (m : Int) (w : World) (F : Nat → Prop) (wr : World) (u : Value) (ps : List Pt) (svs : List Value) (left room : Int) : Prop where
  out : OutAt F wr u ps svs
  dr : Dr m ps left room
  cur : CurAt B wr g n
  frame : Frame (fun k => k = g) w wr
  lo : ∀ b, F b → w.heap.size ≤ b ∧ b < wr.heap.size
  uo : ∀ b, u.ownBlock = some b → w.heap.size ≤ b
  lg : g < w.heap.size
section
variable {B g n : Nat} {m : Int} {w : World} {F : Nat → Prop} {wr : World} {u : Value} {ps : List Pt} {svs : List Value} {left room : Int}
theorem DSt.free {w2 : World} (h : DSt B g n m w F wr u ps svs left room) (hf : Frame (fun _ => False) wr w2) : DSt B g n m w F w2 u ps svs left room :=
  ⟨h.out.frame hf (fun _ _ hh => hh) (fun _ _ hh => hh), h.dr, h.cur.frame hf (fun hh => hh) (fun _ _ hh => hh), h.frame.trans hf (fun _ _ hh => hh.elim), fun b hb => ⟨(h.lo b hb).1, Nat.lt_of_lt_of_le (h.lo b hb).2 hf.size⟩, h.uo, h.lg⟩
theorem DSt.turn {w2 : World} (h : DSt B g n m w F wr u ps svs left room) (hc : CurAt B w2 g n) (hf : Frame (fun k => k = g) wr w2) : DSt B g n m w F w2 u ps svs left room := by
  have lg := h.lg
  exact ⟨h.out.frame hf (fun b hb e => by have := (h.lo b hb).1; omega) (fun b hb e => by have := h.uo b hb; omega), h.dr, hc, h.frame.trans hf (fun _ _ hh => hh), fun b hb => ⟨(h.lo b hb).1, Nat.lt_of_lt_of_le (h.lo b hb).2 hf.size⟩, h.uo, h.lg⟩
theorem DSt.signs {w2 : World} {v : Value} {xs : List Int} (h : DSt B g n m w F wr u ps svs left room) (ho : OwnI wr.heap.size w2.heap.size w2 v xs) (hc : CurAt B w2 g n) (hf : Frame (fun k => k = g) wr w2) :
    DSt B g n m w (Plus F wr w2) w2 u ps svs left room ∧ RdI (Plus F wr w2) w2 v xs := by
  have h2 := h.turn hc hf
  have sz := h.frame.size
  refine ⟨⟨h2.out.mono (fun _ hb => .inl hb) (fun b hb => plus_not (h2.out.far b hb) (h.out.lt b hb)), h2.dr, h2.cur, h2.frame, fun b hb => ?_, h2.uo, h2.lg⟩, ho.rd fun b h1 h3 => .inr ⟨h1, h3⟩⟩
  rcases hb with hb | hb
  · exact h2.lo b hb
  · exact ⟨by omega, hb.2⟩
theorem RdI.nil (F : Nat → Prop) (w : World) : RdI F w (.slice none 0 0) [] := ⟨none, 0, rfl, ⟨Nat.le_refl _, Nat.zero_le _⟩, fun _ hk => absurd hk (Nat.not_lt_zero _)⟩
theorem DSt.push {w3 : World} (h : DSt B g n m w F wr u ps svs left room) (p : Pt) {left' room' : Int} (hd : Dr m (ps ++ [p]) left' room') {sv : Value} {gg cap q K : Nat} (hn : ps.length = q)
    (hown : w3.ownsRow 0 47 3 (.slice (some ⟨gg, 0, none⟩) (q + 1) cap) (q + 1) (cellsP ps svs ++ [.int .i64 p.kind, .int .i64 p.n, sv])) (hg : wr.grownBy w3 u.ownBlock) (hat : u.ownBlock = some gg ∨ gg = K) (hK : K = wr.heap.size)
    (hs : RdI F wr sv p.signs) : DSt B g n m w F w3 (.slice (some ⟨gg, 0, none⟩) (q + 1) cap) (ps ++ [p]) (svs ++ [sv]) left' room' := by
  obtain ⟨a, b, c⟩ := h.out.push p hn hown hg hat hK hs (fun b hb => (h.lo b hb).2)
  have lg := h.lg
  have sz := h.frame.size
  have hlow := h.cur.low
  refine ⟨a, hd, h.cur.frame b (fun e => by have := h.uo g e; omega) (fun x hx e => by have := h.uo x e; omega), h.frame.trans b (fun x hx e => by have := h.uo x e; omega), fun x hx => ⟨(h.lo x hx).1, Nat.lt_of_lt_of_le (h.lo x hx).2 b.size⟩, fun x hx => ?_, lg⟩
  have : gg = x := by simpa [Value.ownBlock] using hx
  subst this
  rcases hat with e | e
  · exact h.uo gg e
  · omega
theorem DSt.fin (h : DSt B g n m w F wr u ps svs left room) (h0 : left = 0) (hm : m ≤ 188) (hl : ps.length ≤ 600) :
    ∃ v ps, Ending.returned u = .returned v ∧ RdP (fun b => w.heap.size ≤ b) wr v ps ∧ (Pl.opOk ps = true ∧ Pl.opFrom ps = m ∧ Pl.opTo ps ≤ m + 12) ∧ CurAt B wr g n ∧ Frame (fun k => k = g) w wr := by
  subst h0
  exact ⟨_, _, rfl, h.out.rd (fun b hb => (h.lo b hb).1) h.uo, h.dr.done hm hl, h.cur, h.frame⟩
end
set_option maxHeartbeats 8000000 in
set_option maxRecDepth 100000 in
theorem draw_s (B g n : Nat) (m : Int) (w : World) (h : CurAt B w g n) (h0 : 0 ≤ m) (h1 : m ≤ 188) :
    Calls Tryz.prog 36 #[.pointer (some ⟨g, 0, none⟩), .int .i64 m] w fun e w' => ∃ v ps, e = .returned v ∧ RdP (fun b => w.heap.size ≤ b) w' v ps ∧ (Pl.opOk ps = true ∧ Pl.opFrom ps = m ∧ Pl.opTo ps ≤ m + 12) ∧ CurAt B w' g n ∧ Frame (fun k => k = g) w w' := by
  have lg := h.lt
  obtain ⟨i0, hi, hz0, hz1, hz2⟩ := info_parts partInfoB
  have H : Hid (DSt B g n m w (fun _ => False) (w.alloc (.cells #[] 47)) (.slice (some ⟨w.heap.size, 0, none⟩) 0 0) [] [] m 12) :=
    ⟨⟨World.ownsRow_made (base := 0) (e := 47) (size := 3) w #[] 0 (Nat.zero_le _) (Nat.zero_le _) rfl, rfl, fun k hk => absurd hk (Nat.not_lt_zero _), fun _ _ hh => hh⟩, Dr.init h0, h.frame (Frame.alloc (fun _ => False) w _) (fun hh => hh) (fun _ _ hh => hh), Frame.alloc _ w _, fun _ hh => hh.elim,
      fun b hb => by simp [Value.ownBlock] at hb; omega, lg⟩
  clear h
  go_enter Tryz.func36, Tryz.ntmps36
  go_wp2_with (fail)
  go_loopg [5, 6, 7] 41 (fun gk u lv rv wr => ∃ (F : Nat → Prop) (ps : List Pt) (svs : List Value) (left room : Int), gk + ps.length = 41 ∧ lv = .int .i64 left ∧ rv = .int .i64 room ∧ Hid (DSt B g n m w F wr u ps svs left room) ∧ ps.length ≤ 40)
  case atStart => exact ⟨_, [], [], m, 12, rfl, rfl, rfl, H.out, by simp⟩
  case round =>
    clear H
    obtain ⟨F, ps, svs, left, room, hgk, rfl, rfl, hst, hpl⟩ := hrel
    have hleft0 := hst.out.dr.l0
    have hroom0 := hst.out.dr.r0
    have hleft1 : left ≤ 188 := by
      have := hst.out.dr.fr
      have : 0 ≤ Pl.keeps ps + Pl.drops ps := sums_nat hst.out.dr.ok
      omega
    have hroom1 : room ≤ 12 := by
      have := hst.out.dr.pu
      have : 0 ≤ Pl.puts ps := puts_nat ps
      omega
    by_cases hz : left = 0
    · subst hz
      obtain ⟨A9, c9, rfl⟩ := hst.out.out.shape
      go_wp2_with (fail)
      refine (once_s B g n _ _ hst.out.cur).mono ?_
      rintro e w1 ⟨x, rfl, c1, f1⟩
      have HS := Lib.hid (hst.out.turn c1 f1)
      clear c1 f1 hst
      cases x with
      | false =>
        go_wp2_with (fail)
        go_ret
        exact HS.out.fin rfl h1 (by omega)
      | true =>
        go_wp2_with (fail)
        refine (below_s B g n _ _ HS.out.cur).mono ?_
        rintro e wa ⟨x, rfl, hx, ca, fa⟩
        obtain ⟨x0, x1⟩ := hx.2 (by omega)
        have HA := Lib.hid (HS.out.turn ca fa)
        clear ca fa hx HS
        by_cases hx0 : x = 0
        · subst hx0
          go_wp2_with (fail)
          refine (signs_s B g n _ _ HA.out.cur (by omega) (by omega)).mono ?_
          rintro e wb ⟨v, xs, rfl, ob, lb, kb, cb, fb⟩
          obtain ⟨db, rb⟩ := HA.out.signs ob cb fb
          obtain ⟨A7, c7, rfl, -, -⟩ := (show RdI _ _ _ _ from rb)
          have DB := Lib.hid db
          have KB := Lib.hid kb
          clear ob cb fb db kb HA
          by_cases hr : (xs.length : Int) ≤ room
          · have RB := Lib.hid rb
            clear rb
            go_wp2_with (at_builtin; refine wpList_append_lies _ rfl (.tmp 45) (.tmp 48) 22 rfl 0 47 i0 _ 3 40 Tryz.underlying22 hi hz0 hz1 hz2 rfl (by decide) _ _ _ (by rfl) (DB.out.out.row.alloc _) ⟨wb.heap.size, 0, none⟩ 1 1 [.int .i64 2, .int .i64 0, .slice A7 xs.length c7] (by rfl) rfl (World.news_of_block (heap_new_at _ _ rfl)) (by simp [Value.oneCell']) (by omega) (by unfold maxLen; first | omega | (simp only [List.length_append, List.length_cons, List.length_nil]; omega)) (by first | omega | (simp only [List.length_append, List.length_cons, List.length_nil]; omega)) (Nat.zero_le _) (wb.heap.size + 1) (by simp) ?_)
            intro gg cap w3 hown3 hg hat hlt
            have HN := Lib.hid ((DB.out.free (Frame.alloc (fun _ => False) _ _)).push ⟨2, 0, xs⟩ (DB.out.dr.put KB.out hr) rfl hown3 hg hat (by simp) (RB.out.frame (Frame.alloc (fun _ => False) _ _) (fun _ _ hh => hh)))
            clear hown3 hg hat hlt
            by_cases hlen : ps.length < 40
            · go_wp2_with (fail)
              go_roundg (40 - ps.length)
              case rel => exact ⟨_, _, _, _, _, by simp; omega, by first | rfl | go_num, by first | rfl | go_num, HN.out, by simp; omega⟩
              case measure => omega
            · have hl0 : (0 : Int) ≤ 0 := HN.out.dr.l0
              have hl1 : (0 : Int) ≤ 188 := by omega
              go_wp2_with (at_builtin; refine wpList_append_lies _ rfl (.tmp 69) (.tmp 72) 22 rfl 0 47 i0 _ 3 40 Tryz.underlying22 hi hz0 hz1 hz2 rfl (by decide) _ _ _ (by rfl) (HN.out.out.row.alloc _) ⟨w3.heap.size, 0, none⟩ 1 1 [.int .i64 1, .int .i64 (0), .slice none 0 0] (by rfl) rfl (World.news_of_block (heap_new_at _ _ rfl)) (by simp [Value.oneCell']) (by omega) (by unfold maxLen; first | omega | (simp only [List.length_append, List.length_cons, List.length_nil]; omega)) (by first | omega | (simp only [List.length_append, List.length_cons, List.length_nil]; omega)) (Nat.zero_le _) (w3.heap.size + 1) (by simp) ?_)
              intro gg2 cap2 w4 hown4 hg4 hat4 hlt4
              have HE := Lib.hid ((HN.out.free (Frame.alloc (fun _ => False) _ _)).push ⟨1, 0, []⟩ (HN.out.dr.keep hl0 (Int.le_refl _) (by omega)) (by simp) hown4 hg4 hat4 (by simp) (RdI.nil _ _))
              clear hown4 hg4 hat4 hlt4
              go_wp2_with (fail)
              go_ret
              exact HE.out.fin (by simp) (by omega) (by simp; omega)
          · clear rb
            go_wp2_with (at_builtin; refine wpList_append_lies _ rfl (.tmp 45) (.tmp 48) 22 rfl 0 47 i0 _ 3 40 Tryz.underlying22 hi hz0 hz1 hz2 rfl (by decide) _ _ _ (by rfl) (DB.out.out.row.alloc _) ⟨wb.heap.size, 0, none⟩ 1 1 [.int .i64 2, .int .i64 0, .slice none 0 0] (by rfl) rfl (World.news_of_block (heap_new_at _ _ rfl)) (by simp [Value.oneCell']) (by omega) (by unfold maxLen; first | omega | (simp only [List.length_append, List.length_cons, List.length_nil]; omega)) (by first | omega | (simp only [List.length_append, List.length_cons, List.length_nil]; omega)) (Nat.zero_le _) (wb.heap.size + 1) (by simp) ?_)
            intro gg cap w3 hown3 hg hat hlt
            have HN := Lib.hid ((DB.out.free (Frame.alloc (fun _ => False) _ _)).push ⟨2, 0, []⟩ (by simpa using DB.out.dr.put (xs := []) rfl (by simp; omega)) rfl hown3 hg hat (by simp) (RdI.nil _ _))
            clear hown3 hg hat hlt
            by_cases hlen : ps.length < 40
            · go_wp2_with (fail)
              go_roundg (40 - ps.length)
              case rel => exact ⟨_, _, _, _, _, by simp; omega, by first | rfl | go_num, by first | rfl | go_num, HN.out, by simp; omega⟩
              case measure => omega
            · have hl0 : (0 : Int) ≤ 0 := HN.out.dr.l0
              have hl1 : (0 : Int) ≤ 188 := by omega
              go_wp2_with (at_builtin; refine wpList_append_lies _ rfl (.tmp 69) (.tmp 72) 22 rfl 0 47 i0 _ 3 40 Tryz.underlying22 hi hz0 hz1 hz2 rfl (by decide) _ _ _ (by rfl) (HN.out.out.row.alloc _) ⟨w3.heap.size, 0, none⟩ 1 1 [.int .i64 1, .int .i64 (0), .slice none 0 0] (by rfl) rfl (World.news_of_block (heap_new_at _ _ rfl)) (by simp [Value.oneCell']) (by omega) (by unfold maxLen; first | omega | (simp only [List.length_append, List.length_cons, List.length_nil]; omega)) (by first | omega | (simp only [List.length_append, List.length_cons, List.length_nil]; omega)) (Nat.zero_le _) (w3.heap.size + 1) (by simp) ?_)
              intro gg2 cap2 w4 hown4 hg4 hat4 hlt4
              have HE := Lib.hid ((HN.out.free (Frame.alloc (fun _ => False) _ _)).push ⟨1, 0, []⟩ (HN.out.dr.keep hl0 (Int.le_refl _) (by omega)) (by simp) hown4 hg4 hat4 (by simp) (RdI.nil _ _))
              clear hown4 hg4 hat4 hlt4
              go_wp2_with (fail)
              go_ret
              exact HE.out.fin (by simp) (by omega) (by simp; omega)
        · by_cases hx1 : x = 1
          · subst hx1
            go_wp2_with (fail)
            refine (below_s B g n _ _ HA.out.cur).mono ?_
            rintro e wb ⟨y, rfl, hy, cb, fb⟩
            obtain ⟨y0, y1⟩ := hy.2 (by omega)
            have DB := Lib.hid (HA.out.turn cb fb)
            clear cb fb hy HA
            obtain rfl : y = 0 := by omega
            go_wp2_with (at_builtin; refine wpList_append_lies _ rfl (.tmp 61) (.tmp 64) 22 rfl 0 47 i0 _ 3 40 Tryz.underlying22 hi hz0 hz1 hz2 rfl (by decide) _ _ _ (by rfl) (DB.out.out.row.alloc _) ⟨wb.heap.size, 0, none⟩ 1 1 [.int .i64 3, .int .i64 0, .slice none 0 0] (by rfl) rfl (World.news_of_block (heap_new_at _ _ rfl)) (by simp [Value.oneCell']) (by omega) (by unfold maxLen; first | omega | (simp only [List.length_append, List.length_cons, List.length_nil]; omega)) (by first | omega | (simp only [List.length_append, List.length_cons, List.length_nil]; omega)) (Nat.zero_le _) (wb.heap.size + 1) (by simp) ?_)
            intro gg cap w3 hown3 hg hat hlt
            have HN := Lib.hid ((DB.out.free (Frame.alloc (fun _ => False) _ _)).push ⟨3, 0, []⟩ (by simpa using DB.out.dr.drop (n := 0) (by omega) (by omega) (by omega)) rfl hown3 hg hat (by simp) (RdI.nil _ _))
            clear hown3 hg hat hlt
            by_cases hlen : ps.length < 40
            · go_wp2_with (fail)
              go_roundg (40 - ps.length)
              case rel => exact ⟨_, _, _, _, _, by simp; omega, by first | rfl | go_num, by first | rfl | go_num, HN.out, by simp; omega⟩
              case measure => omega
            · have hl0 : (0 : Int) ≤ 0 := HN.out.dr.l0
              have hl1 : (0 : Int) ≤ 188 := by omega
              go_wp2_with (at_builtin; refine wpList_append_lies _ rfl (.tmp 69) (.tmp 72) 22 rfl 0 47 i0 _ 3 40 Tryz.underlying22 hi hz0 hz1 hz2 rfl (by decide) _ _ _ (by rfl) (HN.out.out.row.alloc _) ⟨w3.heap.size, 0, none⟩ 1 1 [.int .i64 1, .int .i64 (0), .slice none 0 0] (by rfl) rfl (World.news_of_block (heap_new_at _ _ rfl)) (by simp [Value.oneCell']) (by omega) (by unfold maxLen; first | omega | (simp only [List.length_append, List.length_cons, List.length_nil]; omega)) (by first | omega | (simp only [List.length_append, List.length_cons, List.length_nil]; omega)) (Nat.zero_le _) (w3.heap.size + 1) (by simp) ?_)
              intro gg2 cap2 w4 hown4 hg4 hat4 hlt4
              have HE := Lib.hid ((HN.out.free (Frame.alloc (fun _ => False) _ _)).push ⟨1, 0, []⟩ (HN.out.dr.keep hl0 (Int.le_refl _) (by omega)) (by simp) hown4 hg4 hat4 (by simp) (RdI.nil _ _))
              clear hown4 hg4 hat4 hlt4
              go_wp2_with (fail)
              go_ret
              exact HE.out.fin (by simp) (by omega) (by simp; omega)
          ·
            go_wp2_with (fail)
            refine (below_s B g n _ _ HA.out.cur).mono ?_
            rintro e wb ⟨y, rfl, hy, cb, fb⟩
            obtain ⟨y0, y1⟩ := hy.2 (by omega)
            have DB := Lib.hid (HA.out.turn cb fb)
            clear cb fb hy HA
            obtain rfl : y = 0 := by omega
            go_wp2_with (at_builtin; refine wpList_append_lies _ rfl (.tmp 28) (.tmp 31) 22 rfl 0 47 i0 _ 3 40 Tryz.underlying22 hi hz0 hz1 hz2 rfl (by decide) _ _ _ (by rfl) (DB.out.out.row.alloc _) ⟨wb.heap.size, 0, none⟩ 1 1 [.int .i64 1, .int .i64 0, .slice none 0 0] (by rfl) rfl (World.news_of_block (heap_new_at _ _ rfl)) (by simp [Value.oneCell']) (by omega) (by unfold maxLen; first | omega | (simp only [List.length_append, List.length_cons, List.length_nil]; omega)) (by first | omega | (simp only [List.length_append, List.length_cons, List.length_nil]; omega)) (Nat.zero_le _) (wb.heap.size + 1) (by simp) ?_)
            intro gg cap w3 hown3 hg hat hlt
            have HN := Lib.hid ((DB.out.free (Frame.alloc (fun _ => False) _ _)).push ⟨1, 0, []⟩ (by simpa using DB.out.dr.keep (n := 0) (by omega) (by omega) (by omega)) rfl hown3 hg hat (by simp) (RdI.nil _ _))
            clear hown3 hg hat hlt
            by_cases hlen : ps.length < 40
            · go_wp2_with (fail)
              go_roundg (40 - ps.length)
              case rel => exact ⟨_, _, _, _, _, by simp; omega, by first | rfl | go_num, by first | rfl | go_num, HN.out, by simp; omega⟩
              case measure => omega
            · have hl0 : (0 : Int) ≤ 0 := HN.out.dr.l0
              have hl1 : (0 : Int) ≤ 188 := by omega
              go_wp2_with (at_builtin; refine wpList_append_lies _ rfl (.tmp 69) (.tmp 72) 22 rfl 0 47 i0 _ 3 40 Tryz.underlying22 hi hz0 hz1 hz2 rfl (by decide) _ _ _ (by rfl) (HN.out.out.row.alloc _) ⟨w3.heap.size, 0, none⟩ 1 1 [.int .i64 1, .int .i64 (0), .slice none 0 0] (by rfl) rfl (World.news_of_block (heap_new_at _ _ rfl)) (by simp [Value.oneCell']) (by omega) (by unfold maxLen; first | omega | (simp only [List.length_append, List.length_cons, List.length_nil]; omega)) (by first | omega | (simp only [List.length_append, List.length_cons, List.length_nil]; omega)) (Nat.zero_le _) (w3.heap.size + 1) (by simp) ?_)
              intro gg2 cap2 w4 hown4 hg4 hat4 hlt4
              have HE := Lib.hid ((HN.out.free (Frame.alloc (fun _ => False) _ _)).push ⟨1, 0, []⟩ (HN.out.dr.keep hl0 (Int.le_refl _) (by omega)) (by simp) hown4 hg4 hat4 (by simp) (RdI.nil _ _))
              clear hown4 hg4 hat4 hlt4
              go_wp2_with (fail)
              go_ret
              exact HE.out.fin (by simp) (by omega) (by simp; omega)
    · have hst' := hst
      clear hst
      have HS := hst'
      clear hst'
      obtain ⟨A9, c9, rfl⟩ := HS.out.out.shape
      have hzl : 0 < left := by omega
      go_wp2_with (fail)
      refine (below_s B g n _ _ HS.out.cur).mono ?_
      rintro e wa ⟨x, rfl, hx, ca, fa⟩
      obtain ⟨x0, x1⟩ := hx.2 (by omega)
      have HA := Lib.hid (HS.out.turn ca fa)
      clear ca fa hx HS
      by_cases hx0 : x = 0
      · subst hx0
        go_wp2_with (fail)
        refine (signs_s B g n _ _ HA.out.cur (by omega) (by omega)).mono ?_
        rintro e wb ⟨v, xs, rfl, ob, lb, kb, cb, fb⟩
        obtain ⟨db, rb⟩ := HA.out.signs ob cb fb
        obtain ⟨A7, c7, rfl, -, -⟩ := (show RdI _ _ _ _ from rb)
        have DB := Lib.hid db
        have KB := Lib.hid kb
        clear ob cb fb db kb HA
        by_cases hr : (xs.length : Int) ≤ room
        · have RB := Lib.hid rb
          clear rb
          go_wp2_with (at_builtin; refine wpList_append_lies _ rfl (.tmp 45) (.tmp 48) 22 rfl 0 47 i0 _ 3 40 Tryz.underlying22 hi hz0 hz1 hz2 rfl (by decide) _ _ _ (by rfl) (DB.out.out.row.alloc _) ⟨wb.heap.size, 0, none⟩ 1 1 [.int .i64 2, .int .i64 0, .slice A7 xs.length c7] (by rfl) rfl (World.news_of_block (heap_new_at _ _ rfl)) (by simp [Value.oneCell']) (by omega) (by unfold maxLen; first | omega | (simp only [List.length_append, List.length_cons, List.length_nil]; omega)) (by first | omega | (simp only [List.length_append, List.length_cons, List.length_nil]; omega)) (Nat.zero_le _) (wb.heap.size + 1) (by simp) ?_)
          intro gg cap w3 hown3 hg hat hlt
          have HN := Lib.hid ((DB.out.free (Frame.alloc (fun _ => False) _ _)).push ⟨2, 0, xs⟩ (DB.out.dr.put KB.out hr) rfl hown3 hg hat (by simp) (RB.out.frame (Frame.alloc (fun _ => False) _ _) (fun _ _ hh => hh)))
          clear hown3 hg hat hlt
          by_cases hlen : ps.length < 40
          · go_wp2_with (fail)
            go_roundg (40 - ps.length)
            case rel => exact ⟨_, _, _, _, _, by simp; omega, by first | rfl | go_num, by first | rfl | go_num, HN.out, by simp; omega⟩
            case measure => omega
          · have hl0 : (0 : Int) ≤ left := HN.out.dr.l0
            have hl1 : (left : Int) ≤ 188 := by omega
            go_wp2_with (at_builtin; refine wpList_append_lies _ rfl (.tmp 69) (.tmp 72) 22 rfl 0 47 i0 _ 3 40 Tryz.underlying22 hi hz0 hz1 hz2 rfl (by decide) _ _ _ (by rfl) (HN.out.out.row.alloc _) ⟨w3.heap.size, 0, none⟩ 1 1 [.int .i64 1, .int .i64 (left), .slice none 0 0] (by rfl) rfl (World.news_of_block (heap_new_at _ _ rfl)) (by simp [Value.oneCell']) (by omega) (by unfold maxLen; first | omega | (simp only [List.length_append, List.length_cons, List.length_nil]; omega)) (by first | omega | (simp only [List.length_append, List.length_cons, List.length_nil]; omega)) (Nat.zero_le _) (w3.heap.size + 1) (by simp) ?_)
            intro gg2 cap2 w4 hown4 hg4 hat4 hlt4
            have HE := Lib.hid ((HN.out.free (Frame.alloc (fun _ => False) _ _)).push ⟨1, left, []⟩ (HN.out.dr.keep hl0 (Int.le_refl _) (by omega)) (by simp) hown4 hg4 hat4 (by simp) (RdI.nil _ _))
            clear hown4 hg4 hat4 hlt4
            go_wp2_with (fail)
            go_ret
            exact HE.out.fin (by simp) (by omega) (by simp; omega)
        · clear rb
          go_wp2_with (at_builtin; refine wpList_append_lies _ rfl (.tmp 45) (.tmp 48) 22 rfl 0 47 i0 _ 3 40 Tryz.underlying22 hi hz0 hz1 hz2 rfl (by decide) _ _ _ (by rfl) (DB.out.out.row.alloc _) ⟨wb.heap.size, 0, none⟩ 1 1 [.int .i64 2, .int .i64 0, .slice none 0 0] (by rfl) rfl (World.news_of_block (heap_new_at _ _ rfl)) (by simp [Value.oneCell']) (by omega) (by unfold maxLen; first | omega | (simp only [List.length_append, List.length_cons, List.length_nil]; omega)) (by first | omega | (simp only [List.length_append, List.length_cons, List.length_nil]; omega)) (Nat.zero_le _) (wb.heap.size + 1) (by simp) ?_)
          intro gg cap w3 hown3 hg hat hlt
          have HN := Lib.hid ((DB.out.free (Frame.alloc (fun _ => False) _ _)).push ⟨2, 0, []⟩ (by simpa using DB.out.dr.put (xs := []) rfl (by simp; omega)) rfl hown3 hg hat (by simp) (RdI.nil _ _))
          clear hown3 hg hat hlt
          by_cases hlen : ps.length < 40
          · go_wp2_with (fail)
            go_roundg (40 - ps.length)
            case rel => exact ⟨_, _, _, _, _, by simp; omega, by first | rfl | go_num, by first | rfl | go_num, HN.out, by simp; omega⟩
            case measure => omega
          · have hl0 : (0 : Int) ≤ left := HN.out.dr.l0
            have hl1 : (left : Int) ≤ 188 := by omega
            go_wp2_with (at_builtin; refine wpList_append_lies _ rfl (.tmp 69) (.tmp 72) 22 rfl 0 47 i0 _ 3 40 Tryz.underlying22 hi hz0 hz1 hz2 rfl (by decide) _ _ _ (by rfl) (HN.out.out.row.alloc _) ⟨w3.heap.size, 0, none⟩ 1 1 [.int .i64 1, .int .i64 (left), .slice none 0 0] (by rfl) rfl (World.news_of_block (heap_new_at _ _ rfl)) (by simp [Value.oneCell']) (by omega) (by unfold maxLen; first | omega | (simp only [List.length_append, List.length_cons, List.length_nil]; omega)) (by first | omega | (simp only [List.length_append, List.length_cons, List.length_nil]; omega)) (Nat.zero_le _) (w3.heap.size + 1) (by simp) ?_)
            intro gg2 cap2 w4 hown4 hg4 hat4 hlt4
            have HE := Lib.hid ((HN.out.free (Frame.alloc (fun _ => False) _ _)).push ⟨1, left, []⟩ (HN.out.dr.keep hl0 (Int.le_refl _) (by omega)) (by simp) hown4 hg4 hat4 (by simp) (RdI.nil _ _))
            clear hown4 hg4 hat4 hlt4
            go_wp2_with (fail)
            go_ret
            exact HE.out.fin (by simp) (by omega) (by simp; omega)
      · by_cases hx1 : x = 1
        · subst hx1
          go_wp2_with (fail)
          refine (below_s B g n _ _ HA.out.cur).mono ?_
          rintro e wb ⟨y, rfl, hy, cb, fb⟩
          obtain ⟨y0, y1⟩ := hy.2 (by omega)
          have DB := Lib.hid (HA.out.turn cb fb)
          clear cb fb hy HA
          by_cases hy4 : y ≤ 4
          ·
            go_wp2_with (at_builtin; refine wpList_append_lies _ rfl (.tmp 61) (.tmp 64) 22 rfl 0 47 i0 _ 3 40 Tryz.underlying22 hi hz0 hz1 hz2 rfl (by decide) _ _ _ (by rfl) (DB.out.out.row.alloc _) ⟨wb.heap.size, 0, none⟩ 1 1 [.int .i64 3, .int .i64 y, .slice none 0 0] (by rfl) rfl (World.news_of_block (heap_new_at _ _ rfl)) (by simp [Value.oneCell']) (by omega) (by unfold maxLen; first | omega | (simp only [List.length_append, List.length_cons, List.length_nil]; omega)) (by first | omega | (simp only [List.length_append, List.length_cons, List.length_nil]; omega)) (Nat.zero_le _) (wb.heap.size + 1) (by simp) ?_)
            intro gg cap w3 hown3 hg hat hlt
            have HN := Lib.hid ((DB.out.free (Frame.alloc (fun _ => False) _ _)).push ⟨3, y, []⟩ (DB.out.dr.drop y0 (by omega) (by omega)) rfl hown3 hg hat (by simp) (RdI.nil _ _))
            clear hown3 hg hat hlt
            by_cases hlen : ps.length < 40
            · go_wp2_with (fail)
              go_roundg (40 - ps.length)
              case rel => exact ⟨_, _, _, _, _, by simp; omega, by first | rfl | go_num, by first | rfl | go_num, HN.out, by simp; omega⟩
              case measure => omega
            · have hl0 : (0 : Int) ≤ (left - y) := HN.out.dr.l0
              have hl1 : ((left - y) : Int) ≤ 188 := by omega
              go_wp2_with (at_builtin; refine wpList_append_lies _ rfl (.tmp 69) (.tmp 72) 22 rfl 0 47 i0 _ 3 40 Tryz.underlying22 hi hz0 hz1 hz2 rfl (by decide) _ _ _ (by rfl) (HN.out.out.row.alloc _) ⟨w3.heap.size, 0, none⟩ 1 1 [.int .i64 1, .int .i64 ((left - y)), .slice none 0 0] (by rfl) rfl (World.news_of_block (heap_new_at _ _ rfl)) (by simp [Value.oneCell']) (by omega) (by unfold maxLen; first | omega | (simp only [List.length_append, List.length_cons, List.length_nil]; omega)) (by first | omega | (simp only [List.length_append, List.length_cons, List.length_nil]; omega)) (Nat.zero_le _) (w3.heap.size + 1) (by simp) ?_)
              intro gg2 cap2 w4 hown4 hg4 hat4 hlt4
              have HE := Lib.hid ((HN.out.free (Frame.alloc (fun _ => False) _ _)).push ⟨1, (left - y), []⟩ (HN.out.dr.keep hl0 (Int.le_refl _) (by omega)) (by simp) hown4 hg4 hat4 (by simp) (RdI.nil _ _))
              clear hown4 hg4 hat4 hlt4
              go_wp2_with (fail)
              go_ret
              exact HE.out.fin (by simp) (by omega) (by simp; omega)
          ·
            go_wp2_with (at_builtin; refine wpList_append_lies _ rfl (.tmp 61) (.tmp 64) 22 rfl 0 47 i0 _ 3 40 Tryz.underlying22 hi hz0 hz1 hz2 rfl (by decide) _ _ _ (by rfl) (DB.out.out.row.alloc _) ⟨wb.heap.size, 0, none⟩ 1 1 [.int .i64 3, .int .i64 4, .slice none 0 0] (by rfl) rfl (World.news_of_block (heap_new_at _ _ rfl)) (by simp [Value.oneCell']) (by omega) (by unfold maxLen; first | omega | (simp only [List.length_append, List.length_cons, List.length_nil]; omega)) (by first | omega | (simp only [List.length_append, List.length_cons, List.length_nil]; omega)) (Nat.zero_le _) (wb.heap.size + 1) (by simp) ?_)
            intro gg cap w3 hown3 hg hat hlt
            have HN := Lib.hid ((DB.out.free (Frame.alloc (fun _ => False) _ _)).push ⟨3, 4, []⟩ (DB.out.dr.drop (n := 4) (by omega) (by omega) (by omega)) rfl hown3 hg hat (by simp) (RdI.nil _ _))
            clear hown3 hg hat hlt
            by_cases hlen : ps.length < 40
            · go_wp2_with (fail)
              go_roundg (40 - ps.length)
              case rel => exact ⟨_, _, _, _, _, by simp; omega, by first | rfl | go_num, by first | rfl | go_num, HN.out, by simp; omega⟩
              case measure => omega
            · have hl0 : (0 : Int) ≤ (left - 4) := HN.out.dr.l0
              have hl1 : ((left - 4) : Int) ≤ 188 := by omega
              go_wp2_with (at_builtin; refine wpList_append_lies _ rfl (.tmp 69) (.tmp 72) 22 rfl 0 47 i0 _ 3 40 Tryz.underlying22 hi hz0 hz1 hz2 rfl (by decide) _ _ _ (by rfl) (HN.out.out.row.alloc _) ⟨w3.heap.size, 0, none⟩ 1 1 [.int .i64 1, .int .i64 ((left - 4)), .slice none 0 0] (by rfl) rfl (World.news_of_block (heap_new_at _ _ rfl)) (by simp [Value.oneCell']) (by omega) (by unfold maxLen; first | omega | (simp only [List.length_append, List.length_cons, List.length_nil]; omega)) (by first | omega | (simp only [List.length_append, List.length_cons, List.length_nil]; omega)) (Nat.zero_le _) (w3.heap.size + 1) (by simp) ?_)
              intro gg2 cap2 w4 hown4 hg4 hat4 hlt4
              have HE := Lib.hid ((HN.out.free (Frame.alloc (fun _ => False) _ _)).push ⟨1, (left - 4), []⟩ (HN.out.dr.keep hl0 (Int.le_refl _) (by omega)) (by simp) hown4 hg4 hat4 (by simp) (RdI.nil _ _))
              clear hown4 hg4 hat4 hlt4
              go_wp2_with (fail)
              go_ret
              exact HE.out.fin (by simp) (by omega) (by simp; omega)
        ·
          go_wp2_with (fail)
          refine (below_s B g n _ _ HA.out.cur).mono ?_
          rintro e wb ⟨y, rfl, hy, cb, fb⟩
          obtain ⟨y0, y1⟩ := hy.2 (by omega)
          have DB := Lib.hid (HA.out.turn cb fb)
          clear cb fb hy HA
          go_wp2_with (at_builtin; refine wpList_append_lies _ rfl (.tmp 28) (.tmp 31) 22 rfl 0 47 i0 _ 3 40 Tryz.underlying22 hi hz0 hz1 hz2 rfl (by decide) _ _ _ (by rfl) (DB.out.out.row.alloc _) ⟨wb.heap.size, 0, none⟩ 1 1 [.int .i64 1, .int .i64 y, .slice none 0 0] (by rfl) rfl (World.news_of_block (heap_new_at _ _ rfl)) (by simp [Value.oneCell']) (by omega) (by unfold maxLen; first | omega | (simp only [List.length_append, List.length_cons, List.length_nil]; omega)) (by first | omega | (simp only [List.length_append, List.length_cons, List.length_nil]; omega)) (Nat.zero_le _) (wb.heap.size + 1) (by simp) ?_)
          intro gg cap w3 hown3 hg hat hlt
          have HN := Lib.hid ((DB.out.free (Frame.alloc (fun _ => False) _ _)).push ⟨1, y, []⟩ (DB.out.dr.keep y0 (by omega) (by omega)) rfl hown3 hg hat (by simp) (RdI.nil _ _))
          clear hown3 hg hat hlt
          by_cases hlen : ps.length < 40
          · go_wp2_with (fail)
            go_roundg (40 - ps.length)
            case rel => exact ⟨_, _, _, _, _, by simp; omega, by first | rfl | go_num, by first | rfl | go_num, HN.out, by simp; omega⟩
            case measure => omega
          · have hl0 : (0 : Int) ≤ (left - y) := HN.out.dr.l0
            have hl1 : ((left - y) : Int) ≤ 188 := by omega
            go_wp2_with (at_builtin; refine wpList_append_lies _ rfl (.tmp 69) (.tmp 72) 22 rfl 0 47 i0 _ 3 40 Tryz.underlying22 hi hz0 hz1 hz2 rfl (by decide) _ _ _ (by rfl) (HN.out.out.row.alloc _) ⟨w3.heap.size, 0, none⟩ 1 1 [.int .i64 1, .int .i64 ((left - y)), .slice none 0 0] (by rfl) rfl (World.news_of_block (heap_new_at _ _ rfl)) (by simp [Value.oneCell']) (by omega) (by unfold maxLen; first | omega | (simp only [List.length_append, List.length_cons, List.length_nil]; omega)) (by first | omega | (simp only [List.length_append, List.length_cons, List.length_nil]; omega)) (Nat.zero_le _) (w3.heap.size + 1) (by simp) ?_)
            intro gg2 cap2 w4 hown4 hg4 hat4 hlt4
            have HE := Lib.hid ((HN.out.free (Frame.alloc (fun _ => False) _ _)).push ⟨1, (left - y), []⟩ (HN.out.dr.keep hl0 (Int.le_refl _) (by omega)) (by simp) hown4 hg4 hat4 (by simp) (RdI.nil _ _))
            clear hown4 hg4 hat4 hlt4
            go_wp2_with (fail)
            go_ret
            exact HE.out.fin (by simp) (by omega) (by simp; omega)
end Go.Proofs.YtookcfpiegbafaaGreatDoor
