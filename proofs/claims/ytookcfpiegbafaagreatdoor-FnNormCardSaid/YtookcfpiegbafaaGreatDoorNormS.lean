/- Contracts of the reference's builder of operations: flush, keep, put, drop, done. Condition: parts of at most 200 characters. -/
import Derived.Test.YtookcfpiegbafaaGreatDoorNormJ
import Derived.Deep.DrawnRows
import Derived.Deep.RegionLaw
namespace Go.Proofs.YtookcfpiegbafaaGreatDoor
open Go.RowKit
set_option maxRecDepth 100000
attribute [local go_sem ↓] Go.wp_at_zero Go.wp_at_succ

/-- A part has been put behind those so far. -/
theorem BldAt.lit2 {F : Nat → Prop} {w w1 w2 : World} {vo vp : Value} {b : Pl.Bd} {svs : List Value} (h : BldAt F w vo vp b svs) (h01 : Frame (fun _ => False) w w1) (p : Pt) (sv vp' : Value) (put' : List Int) {g cap n K : Nat} (hn : b.list.length = n) (hK : w1.heap.size = K)
    (ho : w2.ownsRow 0 47 3 (.slice (some ⟨g, 0, none⟩) (n + 1) cap) (n + 1) (cellsP b.list svs ++ [.int .i64 p.kind, .int .i64 p.n, sv])) (hg : w1.grownBy w2 vo.ownBlock)
    (hat : vo.ownBlock = some g ∨ g = K)
    (hc : (sv = vp ∧ p.signs = b.put ∧ vp' = .slice none 0 0 ∧ put' = []) ∨ (sv = .slice none 0 0 ∧ p.signs = [] ∧ vp' = vp ∧ put' = b.put)) (d : Int) :
    BldAt (Plus F w w2) w2 (.slice (some ⟨g, 0, none⟩) (n + 1) cap) vp' ⟨b.list ++ [p], put', d⟩ (svs ++ [sv]) ∧ Frame F w w2 := by
  subst hn
  subst hK
  have h1 : BldAt F w1 vo vp b svs := h.frame h01 (fun _ _ hh => hh)
  have h2 := h1.addPart p sv vp' put' ho hg (by
    rcases hat with e | e
    · exact .inl e.symm
    · exact .inr (by simp [Value.ownBlock, e])) hc d
  have hs := hg.size
  have h0 := h01.size
  refine ⟨h2.mono (fun k hk => ?_) (fun k hk => ?_), (h01.mono fun _ _ hh => hh.elim).trans (Frame.grown (S := F) hg fun k hk => h.inF vo (by simp) k hk) (fun _ _ hk => hk)⟩
  · rcases hk with hk | hk
    · exact .inl hk
    · exact .inr ⟨by omega, hk.2⟩
  · rcases hk with hk | hk
    · have := h.top k hk; omega
    · exact hk.2

/-- The builder at g: a block of three cells (vc: what the cell of the waiting characters holds). -/
structure SSt (F : Nat → Prop) (w : World) (g : Nat) (vo vc vp : Value) (b : Pl.Bd) (svs : List Value) : Prop where
  blk : w.heap[g]? = some (.cells #[vo, vc, .int .i64 b.drop] 87 (0, 0))
  bld : BldAt F w vo vp b svs
  ng : ¬ F g
theorem SSt.cells {F : Nat → Prop} {w : World} {g : Nat} {vo vc vp : Value} {b : Pl.Bd} {svs : List Value} (h : SSt F w g vo vc vp b svs) :
    w.cell? ⟨g, 0, none⟩ = some vo ∧ w.cell? ⟨g, 1, none⟩ = some vc ∧ w.cell? ⟨g, 2, none⟩ = some (.int .i64 b.drop) ∧ (∀ j, w.frozen? ⟨g, j, none⟩ = false) ∧ g < w.heap.size := blk3 h.blk
theorem SSt.frame {F S : Nat → Prop} {w w' : World} {g : Nat} {vo vc vp : Value} {b : Pl.Bd} {svs : List Value} (h : SSt F w g vo vc vp b svs) (hf : Frame S w w')
    (hF : ∀ g, F g → ¬ S g) (h1 : ¬ S g) : SSt F w' g vo vc vp b svs := ⟨hf.heap h.blk h1, h.bld.frame hf hF, h.ng⟩
theorem SSt.mono {F T : Nat → Prop} {w : World} {g : Nat} {vo vc vp : Value} {b : Pl.Bd} {svs : List Value} (h : SSt F w g vo vc vp b svs)
    (hT : ∀ g, F g → T g) (ht : ∀ g, T g → g < w.heap.size) (h1 : ¬ T g) : SSt T w g vo vc vp b svs := ⟨h.blk, h.bld.mono hT ht, h1⟩
theorem SSt.set0 {F : Nat → Prop} {w : World} {g : Nat} {vo vc vp : Value} {b : Pl.Bd} (hb : w.heap[g]? = some (.cells #[vo, vc, .int .i64 b.drop] 87 (0, 0))) (hF : ¬ F g) {vo' : Value} {b' : Pl.Bd} {svs : List Value}
    (h : BldAt F w vo' vp b' svs) (hd : b'.drop = b.drop) : SSt F (w.setCell ⟨g, 0, none⟩ vo') g vo' vc vp b' svs ∧ Frame (fun k => k = g) w (w.setCell ⟨g, 0, none⟩ vo') := by
  have hs : Frame (fun k => k = g) w (w.setCell ⟨g, 0, none⟩ vo') := Frame.setCell _ _ _ _ rfl
  refine ⟨⟨?_, h.frame hs (fun k hk hh => hF (by rw [← hh]; exact hk)), hF⟩, hs⟩
  rw [heap_setCell_same w g 0 _ _ vo' hb, hd]
  rfl
theorem SSt.zero {F : Nat → Prop} {w : World} {g : Nat} {vo vc vp : Value} {b : Pl.Bd} {svs : List Value} (h : SSt F w g vo vc vp b svs) :
    SSt F ((w.setCell ⟨g, 1, none⟩ (.slice none 0 0)).setCell ⟨g, 2, none⟩ (.int .i64 0)) g vo (.slice none 0 0) (.slice none 0 0) ⟨b.list, [], 0⟩ svs ∧
    Frame (fun k => k = g) w ((w.setCell ⟨g, 1, none⟩ (.slice none 0 0)).setCell ⟨g, 2, none⟩ (.int .i64 0)) := by
  have f1 : Frame (fun k => k = g) w (w.setCell ⟨g, 1, none⟩ (.slice none 0 0)) := Frame.setCell _ _ _ _ rfl
  have f2 : Frame (fun k => k = g) (w.setCell ⟨g, 1, none⟩ (.slice none 0 0)) ((w.setCell ⟨g, 1, none⟩ (.slice none 0 0)).setCell ⟨g, 2, none⟩ (.int .i64 0)) := Frame.setCell _ _ _ _ rfl
  refine ⟨⟨?_, ((h.bld.noPut 0).frame f1 (fun k hk hh => h.ng (by rw [← hh]; exact hk))).frame f2 (fun k hk hh => h.ng (by rw [← hh]; exact hk)), h.ng⟩, f1.trans f2 fun _ _ hk => hk⟩
  have e1 := heap_setCell_same w g 1 _ _ (.slice none 0 0) h.blk
  have e2 := heap_setCell_same _ g 2 _ _ (.int .i64 0) e1
  rw [e2]
  rfl
theorem SSt.mid {F : Nat → Prop} {w w1 w2 : World} {g : Nat} {vo vc vp : Value} {b : Pl.Bd} {svs : List Value} (h : SSt F w g vo vc vp b svs) (h01 : Frame (fun _ => False) w w1) (hg : w1.grownBy w2 vo.ownBlock) :
    w2.heap[g]? = some (.cells #[vo, vc, .int .i64 b.drop] 87 (0, 0)) :=
  (Frame.grown (S := F) hg fun k hk => h.bld.inF vo (by simp) k hk).heap (h01.heap h.blk (fun hh => hh)) h.ng
/-- A part has been put behind, and the cell says so. -/
theorem SSt.push {F : Nat → Prop} {w w1 w2 : World} {g : Nat} {vo vc vp : Value} {b : Pl.Bd} {svs : List Value} (h : SSt F w g vo vc vp b svs) (h01 : Frame (fun _ => False) w w1) (p : Pt) (sv vp' : Value) (put' : List Int) {gg cap n K : Nat} (hn : b.list.length = n) (hK : w1.heap.size = K)
    (ho : w2.ownsRow 0 47 3 (.slice (some ⟨gg, 0, none⟩) (n + 1) cap) (n + 1) (cellsP b.list svs ++ [.int .i64 p.kind, .int .i64 p.n, sv])) (hg : w1.grownBy w2 vo.ownBlock)
    (hat : vo.ownBlock = some gg ∨ gg = K)
    (hc : (sv = vp ∧ p.signs = b.put ∧ vp' = .slice none 0 0 ∧ put' = []) ∨ (sv = .slice none 0 0 ∧ p.signs = [] ∧ vp' = vp ∧ put' = b.put)) :
    SSt (Plus F w (w2.setCell ⟨g, 0, none⟩ (.slice (some ⟨gg, 0, none⟩) (n + 1) cap))) (w2.setCell ⟨g, 0, none⟩ (.slice (some ⟨gg, 0, none⟩) (n + 1) cap)) g
      (.slice (some ⟨gg, 0, none⟩) (n + 1) cap) vc vp' ⟨b.list ++ [p], put', b.drop⟩ (svs ++ [sv]) ∧
    Frame (fun k => F k ∨ k = g) w (w2.setCell ⟨g, 0, none⟩ (.slice (some ⟨gg, 0, none⟩) (n + 1) cap)) := by
  obtain ⟨hB, hf⟩ := h.bld.lit2 h01 p sv vp' put' hn hK ho hg hat hc b.drop
  have l1 := (blk3 h.blk).2.2.2.2
  have n1 : ¬ Plus F w w2 g := plus_not h.ng l1
  obtain ⟨k1, k2⟩ := SSt.set0 (F := Plus F w w2) (vc := vc) (h.mid h01 hg) n1 hB rfl
  have e : (w2.setCell ⟨g, 0, none⟩ (.slice (some ⟨gg, 0, none⟩) (n + 1) cap)).heap.size = w2.heap.size := by simp [World.setCell]
  have ep : Plus F w (w2.setCell ⟨g, 0, none⟩ (.slice (some ⟨gg, 0, none⟩) (n + 1) cap)) = Plus F w w2 := by unfold Plus; rw [e]
  refine ⟨by rw [ep]; exact k1, (hf.mono fun _ _ hk => .inl hk).trans k2 fun _ _ hk => .inr hk⟩
theorem SSt.up {F S : Nat → Prop} {w w2 : World} {g : Nat} {vo vc vp : Value} {b : Pl.Bd} {svs : List Value} (h : SSt S w2 g vo vc vp b svs)
    (hS : ∀ g, S g → Plus F w w2 g) (hF : ∀ g, F g → g < w2.heap.size) (hg : ¬ F g) (hl : g < w.heap.size) : SSt (Plus F w w2) w2 g vo vc vp b svs :=
  h.mono hS (fun g hg => by
    rcases hg with hg | hg
    · exact hF g hg
    · exact hg.2) (plus_not hg hl)
theorem SSt.topup {F : Nat → Prop} {w w2 : World} {g : Nat} {vo vc vp : Value} {b : Pl.Bd} {svs : List Value} (h : SSt F w g vo vc vp b svs) (hs : w.heap.size ≤ w2.heap.size) : ∀ g, F g → g < w2.heap.size :=
  fun g hg => Nat.lt_of_lt_of_le (h.bld.top g hg) hs
theorem frame_ad (w : World) (o : Obj) : Frame (fun _ => False) w (w.alloc o).drew := (Frame.alloc _ w o).trans (Frame.drew _ _) fun _ _ hh => hh
theorem frame_2 {F : Nat → Prop} {w w1 w2 : World} {g : Nat} (h1 : Frame (fun k => F k ∨ k = g) w w1) (h2 : Frame (fun k => k = g) w1 w2) : Frame (fun k => F k ∨ k = g) w w2 := h1.trans h2 fun _ _ hk => .inr hk
theorem frame_3 {F : Nat → Prop} {w w1 w2 : World} {g : Nat} (h1 : Frame (fun k => F k ∨ k = g) w w1) (h2 : Frame (fun k => Plus F w w1 k ∨ k = g) w1 w2) : Frame (fun k => F k ∨ k = g) w w2 := h1.trans h2 fun k hk hh => by
  rcases hh with (hh | hh) | hh
  · exact .inl hh
  · exact absurd hh.1 (by omega)
  · exact .inr hh

/-- Where a step of the builder ends. -/
def Built (F : Nat → Prop) (w : World) (g : Nat) (b : Pl.Bd) (e : Ending) (w' : World) : Prop :=
  e = .returned (.tuple #[]) ∧ ∃ vo' vp' svs', SSt (Plus F w w') w' g vo' vp' vp' b svs' ∧ Frame (fun k => F k ∨ k = g) w w'

set_option maxHeartbeats 4000000 in
set_option maxRecDepth 100000 in
theorem flush_s (F : Nat → Prop) (w : World) (g : Nat) (vo vp : Value) (b : Pl.Bd) (svs : List Value) (m : Nat) (h : SSt F w g vo vp vp b svs) (hle : b.le m) (hm : m ≤ 1000000000) :
    Calls Tryz.prog 93 #[.pointer (some ⟨g, 0, none⟩)] w (Built F w g (Pl.flush b)) := by
  obtain ⟨i0, hi, hz0, hz1, hz2⟩ := info_parts partInfoB
  obtain ⟨c0, c1, c2, fz, lg⟩ := h.cells
  have fz0 := fz 0
  have fz1 := fz 1
  have fz2 := fz 2
  clear fz
  have hpl := hle.put
  have hll := hle.len
  obtain ⟨Ap, cp, rfl, -, -⟩ := OwnInts.slice h.bld.put
  have hrow := Lib.hid h.bld.row
  have H := Lib.hid h
  clear h
  by_cases hp : b.put = []
  · have hp0 : b.put.length ≤ 0 := by rw [hp]; exact Nat.le_refl _
    have HP := Lib.hid hp
    clear hp
    by_cases hd : 0 < b.drop
    · have HF : Hid (Pl.flush b = ⟨b.list ++ [⟨3, b.drop, []⟩], [], 0⟩) := by
        show _ = _
        rw [Pl.flush, Pl.flushL, if_pos HP.out, if_pos hd]; rfl
      go_enter Tryz.func93, Tryz.ntmps93
      go_wp2_with (fail)
      go_region_law
        ((refine step_append_lies _ (by rfl) _ _ _ (by rfl) 0 47 i0 _ 3 40 Tryz.underlying22 hi hz0 hz1 hz2 rfl (by decide) _ _ _ (by rfl) ((hrow.out.alloc _).drew) ⟨w.heap.size, 0, none⟩ 1 1 [.int .i64 3, .int .i64 b.drop, .slice none 0 0] (by rfl) (by rfl) (World.news_of_block (cs := #[.int .i64 3, .int .i64 b.drop, .slice none 0 0]) (t := 47) (fr := (0, 0)) (heap_new_at _ _ rfl)) (by simp [Value.oneCell']) (by omega) (by unfold maxLen; first | omega | (simp; done) | (simp; omega)) (by first | omega | (simp; done) | (simp; omega)) (Nat.zero_le _) (w.heap.size + 1) (by simp) ?_; intro gg cap w2 hown hgrow hat hlt; obtain ⟨z0, z1, z2, zf, zl⟩ := blk3 (H.out.mid (frame_ad _ _) hgrow); have zf0 := zf 0; have zf1 := zf 1; have zf2 := zf 2; clear zf))
      all_goals
        obtain ⟨h2, f2⟩ := H.out.push (frame_ad w _) ⟨3, b.drop, []⟩ _ _ b.put rfl rfl hown hgrow (by simpa using hat) (.inr ⟨rfl, rfl, rfl, rfl⟩)
        obtain ⟨h3, f3⟩ := h2.zero
        have sz := Nat.le_trans f2.size f3.size
        have H3 := Lib.hid (h3.up (fun g hg => plus_up f3.size hg) (H.out.topup sz) H.out.ng lg)
        have F3 := Lib.hid (frame_2 f2 f3)
        clear h2 f2 h3 f3 hown hgrow hat hlt sz
        go_wp2
        go_end0
        exact ⟨rfl, _, _, _, by rw [HF.out]; exact H3.out, F3.out⟩
    · have HF : Hid (Pl.flush b = ⟨b.list, [], 0⟩) := by
        show _ = _
        rw [Pl.flush, Pl.flushL, if_pos HP.out, if_neg hd]; simp
      obtain ⟨h3, f3⟩ := H.out.zero
      have H3 := Lib.hid (h3.up (F := F) (w := w) (fun g hg => .inl hg) (H.out.topup f3.size) H.out.ng lg)
      have F3 := Lib.hid (f3.mono (T := fun k => F k ∨ k = g) fun _ _ hk => .inr hk)
      clear h3 f3
      go_enter Tryz.func93, Tryz.ntmps93
      go_wp2_with (fail)
      go_end0
      exact ⟨rfl, _, _, _, by rw [HF.out]; exact H3.out, F3.out⟩
  · have hp0 : 0 < b.put.length := List.length_pos_iff.2 hp
    have HP := Lib.hid hp
    clear hp
    by_cases hd : 0 < b.drop
    · have HF : Hid (Pl.flush b = ⟨b.list ++ [⟨2, 0, b.put⟩] ++ [⟨3, b.drop, []⟩], [], 0⟩) := by
        show _ = _
        rw [Pl.flush, Pl.flushL, if_neg HP.out, if_pos hd, List.append_assoc]
      go_enter Tryz.func93, Tryz.ntmps93
      go_wp2_with (fail)
      go_region_law
        ((refine step_append_lies _ (by rfl) _ _ _ (by rfl) 0 47 i0 _ 3 40 Tryz.underlying22 hi hz0 hz1 hz2 rfl (by decide) _ _ _ (by rfl) ((hrow.out.alloc _).drew) ⟨w.heap.size, 0, none⟩ 1 1 [.int .i64 2, .int .i64 0, .slice Ap b.put.length cp] (by rfl) (by rfl) (World.news_of_block (cs := #[.int .i64 2, .int .i64 0, .slice Ap b.put.length cp]) (t := 47) (fr := (0, 0)) (heap_new_at _ _ rfl)) (by simp [Value.oneCell']) (by omega) (by unfold maxLen; first | omega | (simp; done) | (simp; omega)) (by first | omega | (simp; done) | (simp; omega)) (Nat.zero_le _) (w.heap.size + 1) (by simp) ?_; intro gg cap w2 hown hgrow hat hlt; obtain ⟨z0, z1, z2, zf, zl⟩ := blk3 (H.out.mid (frame_ad _ _) hgrow); have zf0 := zf 0; have zf1 := zf 1; have zf2 := zf 2; clear zf))
      all_goals
        obtain ⟨h2, f2⟩ := H.out.push (frame_ad w _) ⟨2, 0, b.put⟩ _ (.slice none 0 0) [] rfl rfl hown hgrow (by simpa using hat) (.inl ⟨rfl, rfl, rfl, rfl⟩)
        have H2 := Lib.hid h2
        have F2 := Lib.hid f2
        have hr2 := h2.bld.row
        have hl2 : (b.list ++ [(⟨2, 0, b.put⟩ : Pt)]).length = b.list.length + 1 := by simp
        simp only [hl2] at hr2
        have hrow2 := Lib.hid hr2
        clear hr2 hl2
        clear h2 f2 hown hgrow hat hlt
        go_wp2_with (fail)
        go_region_law
          ((refine step_append_lies _ (by rfl) _ _ _ (by rfl) 0 47 i0 _ 3 40 Tryz.underlying22 hi hz0 hz1 hz2 rfl (by decide) _ _ _ (by rfl) ((hrow2.out.alloc _).drew) ⟨w2.heap.size, 0, none⟩ 1 1 [.int .i64 3, .int .i64 b.drop, .slice none 0 0] (by rfl) (by rfl) (World.news_of_block (cs := #[.int .i64 3, .int .i64 b.drop, .slice none 0 0]) (t := 47) (fr := (0, 0)) (heap_new_at _ _ (by simp))) (by simp [Value.oneCell']) (by omega) (by unfold maxLen; first | omega | (simp; done) | (simp; omega)) (by first | omega | (simp; done) | (simp; omega)) (Nat.zero_le _) (w2.heap.size + 1) (by simp) ?_; intro gg2 cap2 w4 hown hgrow hat hlt; obtain ⟨z0, z1, z2, zf, zl⟩ := blk3 (H2.out.mid (frame_ad _ _) hgrow); have zf0 := zf 0; have zf1 := zf 1; have zf2 := zf 2; clear zf))
        all_goals
          obtain ⟨h2, f2⟩ := H2.out.push (frame_ad _ _) ⟨3, b.drop, []⟩ _ _ _ (by simp) (by simp) hown hgrow hat (.inr ⟨rfl, rfl, rfl, rfl⟩)
          obtain ⟨h3, f3⟩ := h2.zero
          have sz := Nat.le_trans (Nat.le_trans F2.out.size f2.size) f3.size
          have H3 := Lib.hid (h3.up (fun g hg => plus_up2 F2.out.size f2.size f3.size hg) (H.out.topup sz) H.out.ng lg)
          have F3 := Lib.hid (frame_2 (frame_3 F2.out f2) f3)
          clear h2 f2 h3 f3 hown hgrow hat hlt sz
          go_wp2
          go_end0
          exact ⟨rfl, _, _, _, by rw [HF.out]; exact H3.out, F3.out⟩
    · have HF : Hid (Pl.flush b = ⟨b.list ++ [⟨2, 0, b.put⟩], [], 0⟩) := by
        show _ = _
        rw [Pl.flush, Pl.flushL, if_neg HP.out, if_neg hd]; simp
      go_enter Tryz.func93, Tryz.ntmps93
      go_wp2_with (fail)
      go_region_law
        ((refine step_append_lies _ (by rfl) _ _ _ (by rfl) 0 47 i0 _ 3 40 Tryz.underlying22 hi hz0 hz1 hz2 rfl (by decide) _ _ _ (by rfl) ((hrow.out.alloc _).drew) ⟨w.heap.size, 0, none⟩ 1 1 [.int .i64 2, .int .i64 0, .slice Ap b.put.length cp] (by rfl) (by rfl) (World.news_of_block (cs := #[.int .i64 2, .int .i64 0, .slice Ap b.put.length cp]) (t := 47) (fr := (0, 0)) (heap_new_at _ _ rfl)) (by simp [Value.oneCell']) (by omega) (by unfold maxLen; first | omega | (simp; done) | (simp; omega)) (by first | omega | (simp; done) | (simp; omega)) (Nat.zero_le _) (w.heap.size + 1) (by simp) ?_; intro gg cap w2 hown hgrow hat hlt; obtain ⟨z0, z1, z2, zf, zl⟩ := blk3 (H.out.mid (frame_ad _ _) hgrow); have zf0 := zf 0; have zf1 := zf 1; have zf2 := zf 2; clear zf))
      all_goals
        obtain ⟨h2, f2⟩ := H.out.push (frame_ad w _) ⟨2, 0, b.put⟩ _ (.slice none 0 0) [] rfl rfl hown hgrow (by simpa using hat) (.inl ⟨rfl, rfl, rfl, rfl⟩)
        obtain ⟨h3, f3⟩ := h2.zero
        have sz := Nat.le_trans f2.size f3.size
        have H3 := Lib.hid (h3.up (fun g hg => plus_up f3.size hg) (H.out.topup sz) H.out.ng lg)
        have F3 := Lib.hid (frame_2 f2 f3)
        clear h2 f2 h3 f3 hown hgrow hat hlt sz
        go_wp2
        go_end0
        exact ⟨rfl, _, _, _, by rw [HF.out]; exact H3.out, F3.out⟩
end Go.Proofs.YtookcfpiegbafaaGreatDoor
