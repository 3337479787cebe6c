/- Contracts of impl.normal and its closure: what they compute is the plain normal form. Condition: parts of at most 200 characters, at most 100000 parts. -/
import Derived.Test.YtookcfpiegbafaaGreatDoorBld
import Derived.Test.YtookcfpiegbafaaGreatDoorGB
import Derived.Test.YtookcfpiegbafaaGreatDoorOps2
namespace Go.Proofs.YtookcfpiegbafaaGreatDoor
open Go.RowKit
set_option maxRecDepth 100000

theorem partInfoB : (Tryz.prog.info? 47).map (fun i => (i.zero, i.size, i.bytes)) = some (some (.agg #[.int .i64 0, .int .i64 0, .slice none 0 0]), 3, 40) := by kernel_rfl
theorem intInfoB : (Tryz.prog.info? 3).map (fun i => (i.zero, i.size, i.bytes)) = some (some (.int .i64 0), 1, 8) := by kernel_rfl

/-- A part has been put behind those so far, out of a literal in a block of its own. -/
theorem BldAt.lit {F : Nat → Prop} {w w2 : World} {vo vp : Value} {b : Pl.Bd} {svs : List Value} (h : BldAt F w vo vp b svs) (o : Obj) (p : Pt) (sv vp' : Value) (put' : List Int) {g cap : Nat}
    (ho : w2.ownsRow 0 47 3 (.slice (some ⟨g, 0, none⟩) (b.list.length + 1) cap) (b.list.length + 1) (cellsP b.list svs ++ [.int .i64 p.kind, .int .i64 p.n, sv])) (hg : (w.alloc o).grownBy w2 vo.ownBlock)
    (hat : vo.ownBlock = some g ∨ g = w.heap.size + 1)
    (hc : (sv = vp ∧ p.signs = b.put ∧ vp' = .slice none 0 0 ∧ put' = []) ∨ (sv = .slice none 0 0 ∧ p.signs = [] ∧ vp' = vp ∧ put' = b.put)) (d : Int) :
    BldAt (Plus F w w2) w2 (.slice (some ⟨g, 0, none⟩) (b.list.length + 1) cap) vp' ⟨b.list ++ [p], put', d⟩ (svs ++ [sv]) ∧ Frame F w w2 := by
  have h1 : BldAt F (w.alloc o) vo vp b svs := h.frame (Frame.alloc (fun _ => False) w o) (fun _ _ hh => hh)
  have h2 := h1.addPart p sv vp' put' ho hg (by
    rcases hat with e | e
    · exact .inl e.symm
    · exact .inr (by simp [Value.ownBlock, e])) hc d
  have hs := hg.size
  rw [World.size_alloc] at hs
  refine ⟨h2.mono (fun k hk => ?_) (fun k hk => ?_), (Frame.alloc F w o).trans (Frame.grown (S := F) hg fun k hk => h.inF vo (by simp) k hk) (fun _ _ hk => hk)⟩
  · rcases hk with hk | hk
    · exact .inl hk
    · rw [World.size_alloc] at hk; exact .inr ⟨by omega, hk.2⟩
  · rcases hk with hk | hk
    · have := h.top k hk; omega
    · exact hk.2

/-- What the closure works on: three blocks of one cell, and the builder whose values they hold (vc: what the cell of the waiting characters holds). -/
structure NSt (F : Nat → Prop) (w : World) (gp go gd : Nat) (vo vc vp : Value) (b : Pl.Bd) (svs : List Value) : Prop where
  out : Cell1 w go 22 vo
  put : Cell1 w gp 29 vc
  drop : Cell1 w gd 3 (.int .i64 b.drop)
  bld : BldAt F w vo vp b svs
  no : ¬ F go
  np : ¬ F gp
  nd : ¬ F gd
  op : go ≠ gp
  od : go ≠ gd
  pd : gp ≠ gd

theorem BldAt.sub {F : Nat → Prop} {w : World} {vo vp : Value} {b : Pl.Bd} {svs : List Value} (h : BldAt F w vo vp b svs) (d : Int) : BldAt F w vo vp ⟨b.list, b.put, d⟩ svs :=
  ⟨h.row, h.len, h.each, h.put, h.inF, h.top, h.apart⟩
theorem BldAt.noPut {F : Nat → Prop} {w : World} {vo vp : Value} {b : Pl.Bd} {svs : List Value} (h : BldAt F w vo vp b svs) (d : Int) : BldAt F w vo (.slice none 0 0) ⟨b.list, [], d⟩ svs := by
  have hp := h.apart
  rw [List.pairwise_cons, List.pairwise_cons] at hp
  obtain ⟨p1, p2, p3⟩ := hp
  refine ⟨h.row, h.len, h.each, World.ownsRow_nil _ _ _ _, fun v hv g hg => ?_, h.top, ?_⟩
  · rcases List.mem_cons.1 hv with rfl | hv
    · exact h.inF _ (by simp) g hg
    · rcases List.mem_cons.1 hv with rfl | hv
      · simp [Value.ownBlock] at hg
      · exact h.inF v (by simp [hv]) g hg
  · rw [List.pairwise_cons, List.pairwise_cons]
    refine ⟨fun u hu => ?_, fun u _ => .nil_left _, p3⟩
    rcases List.mem_cons.1 hu with rfl | hu
    · exact (Apart.nil_left _).symm
    · exact p1 u (by simp [hu])
theorem NSt.lts {F : Nat → Prop} {w : World} {gp go gd : Nat} {vo vc vp : Value} {b : Pl.Bd} {svs : List Value} (h : NSt F w gp go gd vo vc vp b svs) : go < w.heap.size ∧ gp < w.heap.size ∧ gd < w.heap.size := ⟨h.out.lt, h.put.lt, h.drop.lt⟩
theorem plus_not {F : Nat → Prop} {w w' : World} {g : Nat} (h : ¬ F g) (hl : g < w.heap.size) : ¬ Plus F w w' g := fun hh => by
  rcases hh with hh | hh
  · exact h hh
  · omega
theorem NSt.frame {F S : Nat → Prop} {w w' : World} {gp go gd : Nat} {vo vc vp : Value} {b : Pl.Bd} {svs : List Value} (h : NSt F w gp go gd vo vc vp b svs) (hf : Frame S w w')
    (hF : ∀ g, F g → ¬ S g) (h1 : ¬ S go) (h2 : ¬ S gp) (h3 : ¬ S gd) : NSt F w' gp go gd vo vc vp b svs :=
  ⟨h.out.frame hf h1, h.put.frame hf h2, h.drop.frame hf h3, h.bld.frame hf hF, h.no, h.np, h.nd, h.op, h.od, h.pd⟩
theorem NSt.mono {F T : Nat → Prop} {w : World} {gp go gd : Nat} {vo vc vp : Value} {b : Pl.Bd} {svs : List Value} (h : NSt F w gp go gd vo vc vp b svs)
    (hT : ∀ g, F g → T g) (ht : ∀ g, T g → g < w.heap.size) (h1 : ¬ T go) (h2 : ¬ T gp) (h3 : ¬ T gd) : NSt T w gp go gd vo vc vp b svs :=
  ⟨h.out, h.put, h.drop, h.bld.mono hT ht, h1, h2, h3, h.op, h.od, h.pd⟩
theorem NSt.up {F S : Nat → Prop} {w w2 : World} {gp go gd : Nat} {vo vc vp : Value} {b : Pl.Bd} {svs : List Value} (h : NSt S w2 gp go gd vo vc vp b svs)
    (hS : ∀ g, S g → Plus F w w2 g) (hF : ∀ g, F g → g < w2.heap.size) (hg : ¬ F go ∧ ¬ F gp ∧ ¬ F gd ∧ go < w.heap.size ∧ gp < w.heap.size ∧ gd < w.heap.size) :
    NSt (Plus F w w2) w2 gp go gd vo vc vp b svs :=
  h.mono hS (fun g hg => by
    rcases hg with hg | hg
    · exact hF g hg
    · exact hg.2) (plus_not hg.1 hg.2.2.2.1) (plus_not hg.2.1 hg.2.2.2.2.1) (plus_not hg.2.2.1 hg.2.2.2.2.2)
theorem plus_up {F : Nat → Prop} {w w1 w2 : World} (h1 : w1.heap.size ≤ w2.heap.size) {g : Nat} (h : Plus F w w1 g) : Plus F w w2 g := by
  rcases h with h | h
  · exact .inl h
  · exact .inr ⟨h.1, by omega⟩
theorem plus_up2 {F : Nat → Prop} {w w0 w1 w2 : World} (h0 : w.heap.size ≤ w0.heap.size) (h1 : w0.heap.size ≤ w1.heap.size) (h2 : w1.heap.size ≤ w2.heap.size) {g : Nat} (h : Plus (Plus F w w0) w0 w1 g) : Plus F w w2 g := by
  rcases h with h | h
  · exact plus_up (Nat.le_trans h1 h2) h
  · exact .inr ⟨by omega, by omega⟩
theorem NSt.topup {F : Nat → Prop} {w w2 : World} {gp go gd : Nat} {vo vc vp : Value} {b : Pl.Bd} {svs : List Value} (h : NSt F w gp go gd vo vc vp b svs) (hs : w.heap.size ≤ w2.heap.size) : ∀ g, F g → g < w2.heap.size :=
  fun g hg => Nat.lt_of_lt_of_le (h.bld.top g hg) hs
theorem NSt.grow {F : Nat → Prop} {w w' : World} {gp go gd : Nat} {vo vc vp : Value} {b : Pl.Bd} {svs : List Value} (h : NSt F w' gp go gd vo vc vp b svs)
    (hl : go < w.heap.size ∧ gp < w.heap.size ∧ gd < w.heap.size) : NSt (Plus F w w') w' gp go gd vo vc vp b svs :=
  h.mono (fun _ hg => .inl hg) (fun g hg => by
    rcases hg with hg | hg
    · exact h.bld.top g hg
    · exact hg.2) (plus_not h.no hl.1) (plus_not h.np hl.2.1) (plus_not h.nd hl.2.2)

/-- A part has been put behind, and the cell says so. -/
theorem NSt.push {F : Nat → Prop} {w w2 : World} {gp go gd : Nat} {vo vc vp : Value} {b : Pl.Bd} {svs : List Value} (h : NSt F w gp go gd vo vc vp b svs) (o : Obj) (p : Pt) (sv vp' : Value) (put' : List Int) {g cap n K : Nat} (hn : b.list.length = n) (hK : w.heap.size + 1 = K)
    (ho : w2.ownsRow 0 47 3 (.slice (some ⟨g, 0, none⟩) (n + 1) cap) (n + 1) (cellsP b.list svs ++ [.int .i64 p.kind, .int .i64 p.n, sv])) (hg : (w.alloc o).grownBy w2 vo.ownBlock)
    (hat : vo.ownBlock = some g ∨ g = K)
    (hc : (sv = vp ∧ p.signs = b.put ∧ vp' = .slice none 0 0 ∧ put' = []) ∨ (sv = .slice none 0 0 ∧ p.signs = [] ∧ vp' = vp ∧ put' = b.put)) :
    (Cell1 w2 go 22 vo ∧ Cell1 w2 gp 29 vc ∧ Cell1 w2 gd 3 (.int .i64 b.drop)) ∧
    NSt (Plus F w (w2.setCell ⟨go, 0, none⟩ (.slice (some ⟨g, 0, none⟩) (n + 1) cap))) (w2.setCell ⟨go, 0, none⟩ (.slice (some ⟨g, 0, none⟩) (n + 1) cap)) gp go gd
      (.slice (some ⟨g, 0, none⟩) (n + 1) cap) vc vp' ⟨b.list ++ [p], put', b.drop⟩ (svs ++ [sv]) ∧
    Frame (fun k => F k ∨ k = go) w (w2.setCell ⟨go, 0, none⟩ (.slice (some ⟨g, 0, none⟩) (n + 1) cap)) := by
  subst hn
  subst hK
  obtain ⟨hB, hf⟩ := h.bld.lit o p sv vp' put' ho hg hat hc b.drop
  obtain ⟨l1, l2, l3⟩ := h.lts
  have c1 := h.out.frame hf h.no
  have c2 := h.put.frame hf h.np
  have c3 := h.drop.frame hf h.nd
  have hs : Frame (fun k => k = go) w2 (w2.setCell ⟨go, 0, none⟩ (.slice (some ⟨g, 0, none⟩) (b.list.length + 1) cap)) := Frame.setCell _ _ _ _ rfl
  have n1 : ¬ Plus F w w2 go := plus_not h.no l1
  have n2 : ¬ Plus F w w2 gp := plus_not h.np l2
  have n3 : ¬ Plus F w w2 gd := plus_not h.nd l3
  have e : (w2.setCell ⟨go, 0, none⟩ (.slice (some ⟨g, 0, none⟩) (b.list.length + 1) cap)).heap.size = w2.heap.size := by simp [World.setCell]
  have key : NSt (Plus F w w2) (w2.setCell ⟨go, 0, none⟩ (.slice (some ⟨g, 0, none⟩) (b.list.length + 1) cap)) gp go gd
      (.slice (some ⟨g, 0, none⟩) (b.list.length + 1) cap) vc vp' ⟨b.list ++ [p], put', b.drop⟩ (svs ++ [sv]) :=
    ⟨c1.set _, c2.frame hs (fun hh => h.op hh.symm), c3.frame hs (fun hh => h.od hh.symm), hB.frame hs (fun k hk hh => n1 (by rw [← hh]; exact hk)), n1, n2, n3, h.op, h.od, h.pd⟩
  refine ⟨⟨c1, c2, c3⟩, ?_, (hf.mono fun _ _ hk => .inl hk).trans hs fun _ _ hk => .inr hk⟩
  have ep : Plus F w (w2.setCell ⟨go, 0, none⟩ (.slice (some ⟨g, 0, none⟩) (b.list.length + 1) cap)) = Plus F w w2 := by unfold Plus; rw [e]
  rw [ep]
  exact key
/-- The waiting ones are forgotten. -/
theorem NSt.zero {F : Nat → Prop} {w : World} {gp go gd : Nat} {vo vc vp : Value} {b : Pl.Bd} {svs : List Value} (h : NSt F w gp go gd vo vc vp b svs) :
    NSt F ((w.setCell ⟨gp, 0, none⟩ (.slice none 0 0)).setCell ⟨gd, 0, none⟩ (.int .i64 0)) gp go gd vo (.slice none 0 0) (.slice none 0 0) ⟨b.list, [], 0⟩ svs ∧
    Frame (fun k => k = gp ∨ k = gd) w ((w.setCell ⟨gp, 0, none⟩ (.slice none 0 0)).setCell ⟨gd, 0, none⟩ (.int .i64 0)) := by
  have f1 : Frame (fun k => k = gp) w (w.setCell ⟨gp, 0, none⟩ (.slice none 0 0)) := Frame.setCell _ _ _ _ rfl
  have f2 : Frame (fun k => k = gd) (w.setCell ⟨gp, 0, none⟩ (.slice none 0 0)) ((w.setCell ⟨gp, 0, none⟩ (.slice none 0 0)).setCell ⟨gd, 0, none⟩ (.int .i64 0)) := Frame.setCell _ _ _ _ rfl
  have hB := h.bld.noPut 0
  refine ⟨⟨(h.out.frame f1 h.op).frame f2 h.od, (h.put.set _).frame f2 h.pd, (h.drop.frame f1 (fun e => h.pd e.symm)).set _,
    (hB.frame f1 (fun k hk e => h.np (by rw [← e]; exact hk))).frame f2 (fun k hk e => h.nd (by rw [← e]; exact hk)), h.no, h.np, h.nd, h.op, h.od, h.pd⟩,
    (f1.mono fun _ _ hk => .inl hk).trans (f2.mono fun _ _ hk => .inr hk) fun _ _ hk => hk⟩

/-- Where the closure ends. -/
def Flushed (F : Nat → Prop) (w : World) (gp go gd : Nat) (b : Pl.Bd) (e : Ending) (w' : World) : Prop :=
  e = .returned (.tuple #[]) ∧ ∃ vo' svs', NSt (Plus F w w') w' gp go gd vo' (.slice none 0 0) (.slice none 0 0) (Pl.flush b) svs' ∧ Frame (fun k => F k ∨ k = gp ∨ k = go ∨ k = gd) w w'

set_option maxHeartbeats 1000000 in
theorem flush_i (F : Nat → Prop) (w : World) (gp go gd : Nat) (vo vp : Value) (b : Pl.Bd) (svs : List Value) (m : Nat) (h : NSt F w gp go gd vo vp vp b svs) (hle : b.le m) (hm : m ≤ 1000000000) :
    Calls Tryz.prog 66 #[.pointer (some ⟨gp, 0, none⟩), .pointer (some ⟨go, 0, none⟩), .pointer (some ⟨gd, 0, none⟩)] w (Flushed F w gp go gd b) := by
  obtain ⟨i0, hi, hz0, hz1, hz2⟩ := info_parts partInfoB
  have lts := h.lts
  obtain ⟨lO, lP, lD⟩ := lts
  have cO := h.out.cell
  have fO := h.out.free
  have cP := h.put.cell
  have fP := h.put.free
  have cD := h.drop.cell
  have fD := h.drop.free
  have hop := h.op
  have hod := h.od
  have hpd := h.pd
  have hpl := hle.put
  have hll := hle.len
  obtain ⟨Ap, cp, rfl, -, -⟩ := OwnInts.slice h.bld.put
  have hrow := Lib.hid h.bld.row
  have H := Lib.hid h
  clear h
  by_cases hp : b.put = []
  · have hp0 : b.put.length ≤ 0 := by rw [hp]; exact Nat.le_refl _
    have HP := Lib.hid hp
    clear hp
    by_cases hd : 0 < b.drop
    · have HF : Hid (Pl.flush b = ⟨b.list ++ [⟨3, b.drop, []⟩], [], 0⟩) := by
        show _ = _
        rw [Pl.flush, Pl.flushL, if_pos HP.out, if_pos hd]; rfl
      go_enter Tryz.func66, Tryz.ntmps66
      go_wp2_with (at_builtin; refine wpList_append_lies _ rfl (.tmp 13) (.tmp 16) 22 rfl 0 47 i0 _ 3 40 Tryz.underlying22 hi hz0 hz1 hz2 rfl (by decide) _ _ _ (by rfl) (hrow.out.alloc _) ⟨w.heap.size, 0, none⟩ 1 1 [.int .i64 3, .int .i64 b.drop, .slice none 0 0] (by rfl) rfl (World.news_of_block (heap_new_at _ _ rfl)) (by simp [Value.oneCell']) (by omega) (by (try simp); unfold maxLen; omega) (by (try simp); omega) (Nat.zero_le _) (w.heap.size + 1) (by simp) ?_)
      intro g cap w2 hown hg hat hlt
      obtain ⟨⟨c1, c2, c3⟩, h2, f2⟩ := H.out.push _ ⟨3, b.drop, []⟩ _ _ b.put rfl rfl hown hg hat (.inr ⟨rfl, rfl, rfl, rfl⟩)
      obtain ⟨h3, f3⟩ := h2.zero
      have cO2 := c1.cell
      have fO2 := c1.free
      have cP2 := c2.cell
      have fP2 := c2.free
      have cD2 := c3.cell
      have fD2 := c3.free
      have sz := Nat.le_trans f2.size f3.size
      have H3 := Lib.hid (h3.up (fun g hg => plus_up f3.size hg) (H.out.topup sz) ⟨H.out.no, H.out.np, H.out.nd, lO, lP, lD⟩)
      have F3 := Lib.hid ((f2.mono (T := fun k => F k ∨ k = gp ∨ k = go ∨ k = gd) (fun _ _ hk => by rcases hk with hk | hk <;> simp [hk])).trans f3 (fun _ _ hk => by rcases hk with hk | hk <;> simp [hk]))
      clear c1 c2 c3 h2 f2 h3 f3 hown hg hat hlt cO cP cD fO fP fD sz
      go_wp2_with (fail)
      go_end0
      exact ⟨rfl, _, _, by rw [HF.out]; exact H3.out, F3.out⟩
    · have HF : Hid (Pl.flush b = ⟨b.list, [], 0⟩) := by
        show _ = _
        rw [Pl.flush, Pl.flushL, if_pos HP.out, if_neg hd]; simp
      have z := H.out.zero
      obtain ⟨h3, f3⟩ := z
      have H3 := Lib.hid (h3.grow (w := w) (by exact ⟨lO, lP, lD⟩))
      have F3 := Lib.hid (f3.mono (T := fun k => F k ∨ k = gp ∨ k = go ∨ k = gd) fun _ _ hk => by rcases hk with hk | hk <;> simp [hk])
      clear h3 f3
      go_enter Tryz.func66, Tryz.ntmps66
      go_wp2_with (fail)
      go_end0
      exact ⟨rfl, _, _, by rw [HF.out]; exact H3.out, F3.out⟩
  · have hp0 : 0 < b.put.length := List.length_pos_iff.2 hp
    have HP := Lib.hid hp
    clear hp
    by_cases hd : 0 < b.drop
    · have HF : Hid (Pl.flush b = ⟨b.list ++ [⟨2, 0, b.put⟩] ++ [⟨3, b.drop, []⟩], [], 0⟩) := by
        show _ = _
        rw [Pl.flush, Pl.flushL, if_neg HP.out, if_pos hd, List.append_assoc]
      go_enter Tryz.func66, Tryz.ntmps66
      go_wp2_with (at_builtin; refine wpList_append_lies _ rfl (.tmp 6) (.tmp 9) 22 rfl 0 47 i0 _ 3 40 Tryz.underlying22 hi hz0 hz1 hz2 rfl (by decide) _ _ _ (by rfl) (hrow.out.alloc _) ⟨w.heap.size, 0, none⟩ 1 1 [.int .i64 2, .int .i64 0, .slice Ap b.put.length cp] (by rfl) rfl (World.news_of_block (heap_new_at _ _ rfl)) (by simp [Value.oneCell']) (by omega) (by (try simp); unfold maxLen; omega) (by (try simp); omega) (Nat.zero_le _) (w.heap.size + 1) (by simp) ?_)
      intro g cap w2 hown hg hat hlt
      obtain ⟨⟨c1, c2, c3⟩, h2, f2⟩ := H.out.push _ ⟨2, 0, b.put⟩ _ (.slice none 0 0) [] rfl rfl hown hg hat (.inl ⟨rfl, rfl, rfl, rfl⟩)
      have cO2 := c1.cell
      have fO2 := c1.free
      have cD2 := c3.cell
      have H2 := Lib.hid h2
      have F2 := Lib.hid f2
      have hrow2 := Lib.hid h2.bld.row
      clear c1 c2 c3 h2 f2 hown hg hat hlt cO cP cD fO fP fD
      go_wp2_with (at_builtin; refine wpList_append_lies _ rfl (.tmp 13) (.tmp 16) 22 rfl 0 47 i0 _ 3 40 Tryz.underlying22 hi hz0 hz1 hz2 rfl (by decide) _ _ _ (by rfl) (hrow2.out.alloc _) ⟨w2.heap.size, 0, none⟩ 1 1 [.int .i64 3, .int .i64 b.drop, .slice none 0 0] (by rfl) rfl (World.news_of_block (heap_new_at _ _ (by simp))) (by simp [Value.oneCell']) (by omega) (by (try simp); unfold maxLen; omega) (by (try simp); omega) (Nat.zero_le _) (w2.heap.size + 1) (by simp) ?_)
      intro g2 cap2 w4 hown hg hat hlt
      obtain ⟨⟨c1, c2, c3⟩, h2, f2⟩ := H2.out.push _ ⟨3, b.drop, []⟩ _ _ _ (by simp) (by simp) hown hg hat (.inr ⟨rfl, rfl, rfl, rfl⟩)
      obtain ⟨h3, f3⟩ := h2.zero
      have cO4 := c1.cell
      have fO4 := c1.free
      have cP4 := c2.cell
      have fP4 := c2.free
      have cD4 := c3.cell
      have fD4 := c3.free
      have sz := Nat.le_trans (Nat.le_trans F2.out.size f2.size) f3.size
      have H3 := Lib.hid (h3.up (fun g hg => plus_up2 F2.out.size f2.size f3.size hg) (H.out.topup sz) ⟨H.out.no, H.out.np, H.out.nd, lO, lP, lD⟩)
      have F3 := Lib.hid (((F2.out.mono (T := fun k => F k ∨ k = gp ∨ k = go ∨ k = gd) (fun _ _ hk => by rcases hk with hk | hk <;> simp [hk])).trans f2 (fun k hk hh => by
        rcases hh with (hh | hh) | hh
        · exact .inl hh
        · exact absurd hh.1 (by omega)
        · simp [hh])).trans f3 (fun _ _ hk => by rcases hk with hk | hk <;> simp [hk]))
      clear c1 c2 c3 h2 f2 h3 f3 hown hg hat hlt sz
      go_wp2_with (fail)
      go_end0
      exact ⟨rfl, _, _, by rw [HF.out]; exact H3.out, F3.out⟩
    · have HF : Hid (Pl.flush b = ⟨b.list ++ [⟨2, 0, b.put⟩], [], 0⟩) := by
        show _ = _
        rw [Pl.flush, Pl.flushL, if_neg HP.out, if_neg hd]; simp
      go_enter Tryz.func66, Tryz.ntmps66
      go_wp2_with (at_builtin; refine wpList_append_lies _ rfl (.tmp 6) (.tmp 9) 22 rfl 0 47 i0 _ 3 40 Tryz.underlying22 hi hz0 hz1 hz2 rfl (by decide) _ _ _ (by rfl) (hrow.out.alloc _) ⟨w.heap.size, 0, none⟩ 1 1 [.int .i64 2, .int .i64 0, .slice Ap b.put.length cp] (by rfl) rfl (World.news_of_block (heap_new_at _ _ rfl)) (by simp [Value.oneCell']) (by omega) (by (try simp); unfold maxLen; omega) (by (try simp); omega) (Nat.zero_le _) (w.heap.size + 1) (by simp) ?_)
      intro g cap w2 hown hg hat hlt
      obtain ⟨⟨c1, c2, c3⟩, h2, f2⟩ := H.out.push _ ⟨2, 0, b.put⟩ _ (.slice none 0 0) [] rfl rfl hown hg hat (.inl ⟨rfl, rfl, rfl, rfl⟩)
      obtain ⟨h3, f3⟩ := h2.zero
      have cO2 := c1.cell
      have fO2 := c1.free
      have cP2 := c2.cell
      have fP2 := c2.free
      have cD2 := c3.cell
      have fD2 := c3.free
      have sz := Nat.le_trans f2.size f3.size
      have H3 := Lib.hid (h3.up (fun g hg => plus_up f3.size hg) (H.out.topup sz) ⟨H.out.no, H.out.np, H.out.nd, lO, lP, lD⟩)
      have F3 := Lib.hid ((f2.mono (T := fun k => F k ∨ k = gp ∨ k = go ∨ k = gd) (fun _ _ hk => by rcases hk with hk | hk <;> simp [hk])).trans f3 (fun _ _ hk => by rcases hk with hk | hk <;> simp [hk]))
      clear c1 c2 c3 h2 f2 h3 f3 hown hg hat hlt cO cP cD fO fP fD sz
      go_wp2_with (fail)
      go_end0
      exact ⟨rfl, _, _, by rw [HF.out]; exact H3.out, F3.out⟩
end Go.Proofs.YtookcfpiegbafaaGreatDoor
