/- Contracts of the reference's builder of operations: keep, put, drop, done. Condition: parts of at most 200 characters. -/
import Derived.Test.YtookcfpiegbafaaGreatDoorNormS
namespace Go.Proofs.YtookcfpiegbafaaGreatDoor
open Go.RowKit
set_option maxRecDepth 100000

theorem SSt.addPut {F : Nat → Prop} {w w2 : World} {g : Nat} {vo vp vp' : Value} {b : Pl.Bd} {svs : List Value} (h : SSt F w g vo vp vp b svs) {l : List Int}
    (ho : w2.ownsRow 0 3 1 vp' (b.put ++ l).length ((b.put ++ l).map (Value.int .i64))) (hg : w.grownBy w2 vp.ownBlock) (hn : vp'.ownBlock = vp.ownBlock ∨ vp'.ownBlock = some w.heap.size) :
    w2.heap[g]? = some (.cells #[vo, vp, .int .i64 b.drop] 87 (0, 0)) ∧
    SSt (Plus F w (w2.setCell ⟨g, 1, none⟩ vp')) (w2.setCell ⟨g, 1, none⟩ vp') g vo vp' vp' (Pl.bPut b l) svs ∧ Frame (fun k => F k ∨ k = g) w (w2.setCell ⟨g, 1, none⟩ vp') := by
  have l1 := (blk3 h.blk).2.2.2.2
  have hB := h.bld.addPut ho hg hn
  have hf : Frame F w w2 := Frame.grown (S := F) hg fun k hk => h.bld.inF vp (by simp) k hk
  have c1 := hf.heap h.blk h.ng
  have n1 : ¬ Plus F w w2 g := plus_not h.ng l1
  have hs : Frame (fun k => k = g) w2 (w2.setCell ⟨g, 1, none⟩ vp') := Frame.setCell _ _ _ _ rfl
  have e : (w2.setCell ⟨g, 1, none⟩ vp').heap.size = w2.heap.size := by simp [World.setCell]
  have ep : Plus F w (w2.setCell ⟨g, 1, none⟩ vp') = Plus F w w2 := by unfold Plus; rw [e]
  refine ⟨c1, ?_, (hf.mono fun _ _ hk => .inl hk).trans hs fun _ _ hk => .inr hk⟩
  rw [ep]
  refine ⟨?_, hB.frame hs (fun k hk hh => n1 (by rw [← hh]; exact hk)), n1⟩
  rw [heap_setCell_same w2 g 1 _ _ vp' c1]
  rfl
theorem SSt.addDrop {F : Nat → Prop} {w : World} {g : Nat} {vo vp : Value} {b : Pl.Bd} {svs : List Value} (h : SSt F w g vo vp vp b svs) (n : Int) :
    SSt F (w.setCell ⟨g, 2, none⟩ (.int .i64 (b.drop + n))) g vo vp vp (Pl.bDrop b n) svs ∧ Frame (fun k => k = g) w (w.setCell ⟨g, 2, none⟩ (.int .i64 (b.drop + n))) := by
  have hs : Frame (fun k => k = g) w (w.setCell ⟨g, 2, none⟩ (.int .i64 (b.drop + n))) := Frame.setCell _ _ _ _ rfl
  refine ⟨⟨?_, (h.bld.sub (b.drop + n)).frame hs (fun k hk hh => h.ng (by rw [← hh]; exact hk)), h.ng⟩, hs⟩
  rw [heap_setCell_same w g 2 _ _ _ h.blk]
  rfl
/-- The last part keeps more. -/
theorem SSt.more {F : Nat → Prop} {w : World} {g gg cap : Nat} {vp : Value} {l : List Pt} {p : Pt} {put : List Int} {d : Int} {svs : List Value}
    (h : SSt F w g (.slice (some ⟨gg, 0, none⟩) (l.length + 1) cap) vp vp ⟨l ++ [p], put, d⟩ svs) (n : Int) :
    SSt F (w.setCell ⟨gg, l.length * 3 + 1, none⟩ (.int .i64 n)) g (.slice (some ⟨gg, 0, none⟩) (l.length + 1) cap) vp vp ⟨l ++ [⟨p.kind, n, p.signs⟩], put, d⟩ svs ∧
    Frame F w (w.setCell ⟨gg, l.length * 3 + 1, none⟩ (.int .i64 n)) := by
  have hF : F gg := h.bld.inF _ List.mem_cons_self gg rfl
  have hs : Frame (fun k => k = gg) w (w.setCell ⟨gg, l.length * 3 + 1, none⟩ (.int .i64 n)) := Frame.setCell _ _ _ _ rfl
  exact ⟨⟨hs.heap h.blk (fun e => h.ng (by rw [e]; exact hF)), h.bld.setN n, h.ng⟩, hs.mono fun k _ hk => by rw [hk]; exact hF⟩
theorem built_of {F : Nat → Prop} {w w' : World} {g : Nat} {b b' : Pl.Bd} {vo vp : Value} {svs : List Value} (h : SSt (Plus F w w') w' g vo vp vp b svs) (e : b' = b) (hf : Frame (fun k => F k ∨ k = g) w w') :
    Built F w g b' (.returned (.tuple #[])) w' := by
  subst e
  exact ⟨rfl, _, _, _, h, hf⟩
theorem SSt.drew {F : Nat → Prop} {w : World} {g : Nat} {vo vc vp : Value} {b : Pl.Bd} {svs : List Value} (h : SSt F w g vo vc vp b svs) : SSt F w.drew g vo vc vp b svs :=
  h.frame (Frame.drew (fun _ => False) w) (fun _ _ hh => hh) (fun hh => hh)

set_option maxHeartbeats 1000000 in
theorem put_s (F : Nat → Prop) (w : World) (g : Nat) (vo vp : Value) (b : Pl.Bd) (svs : List Value) (v : Value) (xs : List Int) (h : SSt F w g vo vp vp b svs) (hv : SliceInts w.heap.size w v xs)
    (hle : b.put.length ≤ 1000000000) (hx : xs.length ≤ 1000000000) :
    Calls Tryz.prog 80 #[.pointer (some ⟨g, 0, none⟩), v] w (Built F w g (Pl.bPut b xs)) := by
  obtain ⟨j0, hj, hy0, hy1, hy2⟩ := info_parts intInfoB
  obtain ⟨A, c, rfl, -, hs⟩ := hv
  obtain ⟨c0, c1, c2, fz, lg⟩ := h.cells
  have fz1 := fz 1
  clear fz
  have hrow := Lib.hid h.bld.put
  have H := Lib.hid h
  have HS := Lib.hid hs
  clear h hs
  go_enter Tryz.func80, Tryz.ntmps80
  go_wp2_with (at_builtin; refine wpList_append_src _ rfl (.tmp 8) (.tmp 9) 29 rfl 0 3 j0 _ 1 8 Tryz.underlying29 hj hy0 hy1 hy2 rfl (by decide) vp b.put.length _ (by rfl) hrow.out A xs.length c (xs.map (Value.int .i64)) (by rfl) (by simp) HS.out.src (ints_one _) (by unfold maxLen; omega) (by omega) (Nat.zero_le _) ?_)
  intro vp' w2 hown hg hat
  have ho2 : OwnInts 0 w2 vp' (b.put ++ xs) := by
    show World.ownsRow _ _ _ _ _ _ _
    rw [List.length_append, List.map_append]
    exact hown
  obtain ⟨A7, c7, rfl⟩ := own_shape hown
  obtain ⟨e1, h2, f2⟩ := H.out.addPut ho2 hg hat
  obtain ⟨z0, z1, z2, zf, zl⟩ := blk3 e1
  have zf1 := zf 1
  have H2 := Lib.hid h2
  have F2 := Lib.hid f2
  clear hown hg hat ho2 e1 h2 f2 zf c0 c1 c2 fz1
  go_wp2
  go_end0
  exact built_of H2.out rfl F2.out
set_option maxHeartbeats 1000000 in
theorem drop_s (F : Nat → Prop) (w : World) (g : Nat) (vo vp : Value) (b : Pl.Bd) (svs : List Value) (n : Int) (h : SSt F w g vo vp vp b svs)
    (h0 : 0 ≤ b.drop) (h1 : b.drop ≤ 1000000000) (hn : 0 ≤ n) (hn1 : n ≤ 1000000000) :
    Calls Tryz.prog 81 #[.pointer (some ⟨g, 0, none⟩), .int .i64 n] w (Built F w g (Pl.bDrop b n)) := by
  obtain ⟨c0, c1, c2, fz, lg⟩ := h.cells
  have fz2 := fz 2
  clear fz
  obtain ⟨h2, f2⟩ := h.addDrop n
  have H2 := Lib.hid (h2.up (F := F) (w := w) (fun g hg => .inl hg) (h.topup f2.size) h.ng lg)
  have F2 := Lib.hid (f2.mono (T := fun k => F k ∨ k = g) fun _ _ hk => .inr hk)
  clear h h2 f2
  go_enter Tryz.func81, Tryz.ntmps81
  go_wp2
  go_end0
  exact built_of H2.out rfl F2.out
set_option maxHeartbeats 4000000 in
set_option maxRecDepth 100000 in
theorem keep_s (F : Nat → Prop) (w : World) (g : Nat) (vo vp : Value) (b : Pl.Bd) (svs : List Value) (n : Int) (m : Nat) (h : SSt F w g vo vp vp b svs) (hle : b.le m) (hm : m ≤ 100000000)
    (hn : 0 ≤ n) (hn1 : n ≤ 1000000000) :
    Calls Tryz.prog 79 #[.pointer (some ⟨g, 0, none⟩), .int .i64 n] w (Built F w g (Pl.bKeep b n)) := by
  obtain ⟨i0, hi, hz0, hz1, hz2⟩ := info_parts partInfoB
  have lg := (blk3 h.blk).2.2.2.2
  have H := Lib.hid h
  clear h
  by_cases hz : n = 0
  · have HK : Hid (Pl.bKeep b n = b) := by show _ = _; rw [Pl.bKeep, if_pos hz]
    have k0 : (n == 0) = true := by simp [hz]
    clear hz
    have H2 := Lib.hid (H.out.up (F := F) (w := w) (fun g hg => .inl hg) (H.out.topup (Nat.le_refl _)) H.out.ng lg)
    go_enter Tryz.func79, Tryz.ntmps79
    go_wp2
    go_end0
    exact built_of H2.out HK.out (Frame.refl _ _)
  · have k0 : (n == 0) = false := by simp [hz]
    have HK : Hid (Pl.bKeep b n = ⟨Pl.addKeep (Pl.flushL b) n, [], 0⟩) := by show _ = _; rw [Pl.bKeep, if_neg hz]
    clear hz
    obtain ⟨fl1, fl2, fl3⟩ := Pl.flushL_le hle
    have FL2 := Lib.hid fl2
    have FL3 := Lib.hid fl3
    clear fl2 fl3
    go_enter Tryz.func79, Tryz.ntmps79
    go_wp2_with (fail)
    refine (flush_s F _ g vo vp b svs m H.out hle (by omega)).mono ?_
    rintro e w1 ⟨rfl, vo', vp', svs', st, f1⟩
    have st1 : Hid (SSt (Plus F w w1) w1 g vo' vp' vp' ⟨Pl.flushL b, [], 0⟩ svs') := st
    obtain ⟨c0, c1, c2, fz, lg1⟩ := st.cells
    have fz0 := fz 0
    have F1 := Lib.hid f1
    have hrow1 : w1.ownsRow 0 47 3 vo' (Pl.flushL b).length (cellsP (Pl.flushL b) svs') := st.bld.row
    have hlen1 : svs'.length = (Pl.flushL b).length := st.bld.len
    have sz1 := f1.size
    clear st f1 fz
    generalize Pl.flushL b = L at HK FL2 FL3 st1 hrow1 hlen1 fl1
    rcases List.eq_nil_or_concat L with hL | ⟨l, q, hL⟩
    · subst hL
      obtain ⟨A5, c5, rfl⟩ := own_shape hrow1
      have hrow := Lib.hid hrow1
      clear hrow1 hlen1
      go_wp2_with (at_builtin; refine wpList_append_lies _ rfl (.tmp 51) (.tmp 54) 22 rfl 0 47 i0 _ 3 40 Tryz.underlying22 hi hz0 hz1 hz2 rfl (by decide) _ _ _ (by rfl) (hrow.out.alloc _) ⟨w1.heap.size, 0, none⟩ 1 1 [.int .i64 1, .int .i64 n, .slice none 0 0] (by rfl) rfl (World.news_of_block (heap_new_at _ _ rfl)) (by simp [Value.oneCell']) (by omega) (by unfold maxLen; first | omega | (simp; done) | (simp; omega)) (by first | omega | (simp; done) | (simp; omega)) (Nat.zero_le _) (w1.heap.size + 1) (by simp) ?_)
      intro gg cap2 w3 hown hgrow hat hlt
      obtain ⟨h2, f2⟩ := st1.out.push (Frame.alloc _ w1 _) ⟨1, n, []⟩ _ _ [] rfl (by simp) hown hgrow hat (.inr ⟨rfl, rfl, rfl, rfl⟩)
      obtain ⟨z0, z1, z2, zf, zl⟩ := blk3 (st1.out.mid (Frame.alloc _ w1 _) hgrow)
      have zf0 := zf 0
      have H2 := Lib.hid h2
      have FF := Lib.hid (frame_3 F1.out f2)
      have sz2 := f2.size
      clear hown hgrow hat hlt h2 f2 zf
      go_wp2
      go_end0
      exact built_of (H2.out.up (fun g hg => plus_up2 sz1 sz2 (Nat.le_refl _) hg) (H.out.topup (Nat.le_trans sz1 sz2)) H.out.ng lg) (HK.out.trans rfl) FF.out
    · rw [List.concat_eq_append] at hL
      subst hL
      obtain ⟨g0, cap0, rfl, -, -⟩ := hrow1.form (by simp)
      have hl1 : (l ++ [q]).length = l.length + 1 := by simp
      rw [hl1] at fl1
      simp only [hl1] at hrow1 c0 hlen1 st1
      obtain ⟨q0, q1, -⟩ := cellsP_at (l ++ [q]) svs' l.length (by rw [hl1]; exact hlen1) (by simp)
      have d0 := hrow1.cellAt (l.length * 3) (by omega)
      have d1 := hrow1.cellAt (l.length * 3 + 1) (by omega)
      have dz := hrow1.frozenAt (l.length * 3 + 1)
      rw [q0] at d0
      rw [q1] at d1
      have hgq : (l ++ [q]).getD l.length ⟨0, 0, []⟩ = q := by simp [List.getD]
      rw [hgq] at d0 d1
      have hqn0 := FL2.out q (by simp)
      have hqn1 := FL3.out q (by simp)
      have hrow := Lib.hid hrow1
      clear hrow1 hlen1 q0 q1 hgq hl1
      by_cases hq : q.kind = 1
      · have k9 : (q.kind == 1) = true := by simp [hq]
        have HQ := Lib.hid hq
        clear hq
        go_wp2_with (fail)
        have m0 : (0 : Int) ≤ ((l.length : Nat) : Int) := Int.natCast_nonneg _
        have m1 : ((l.length : Nat) : Int) < ((l.length : Nat) : Int) + 1 := by omega
        have s1 : IntKind.i64.wrap (((l.length : Nat) : Int) + 1 - 1) = ((l.length : Nat) : Int) := by rw [IntWalk.i64_in _ (by omega)]; omega
        have s3 : IntKind.i64.wrap ((l.length : Nat) : Int) = ((l.length : Nat) : Int) := IntWalk.i64_in _ (by omega)
        have s2 : IntKind.i64.wrap (q.n + n) = q.n + n := IntWalk.i64_in _ (by omega)
        go_region
        all_goals
          clear s1 s2 s3 m0 m1
          obtain ⟨h2, f2⟩ := st1.out.more (q.n + n)
          have H2 := Lib.hid h2.drew
          have FF := Lib.hid ((frame_3 F1.out (f2.mono fun _ _ hk => .inl hk)).trans (Frame.drew (fun _ => False) _) (fun _ _ hh => hh.elim))
          clear h2 f2
          go_wp2
          go_end0
          exact built_of (H2.out.up (fun g hg => plus_up (by simp) hg) (H.out.topup (by simp; omega)) H.out.ng lg) (HK.out.trans (by rw [Pl.addKeep_last, if_pos HQ.out, HQ.out])) FF.out
      · have k9 : (q.kind == 1) = false := by simp [hq]
        have HQ := Lib.hid hq
        clear hq
        go_wp2_with (at_builtin; refine wpList_append_lies _ rfl (.tmp 51) (.tmp 54) 22 rfl 0 47 i0 _ 3 40 Tryz.underlying22 hi hz0 hz1 hz2 rfl (by decide) _ _ _ (by rfl) (hrow.out.alloc _) ⟨w1.heap.size, 0, none⟩ 1 1 [.int .i64 1, .int .i64 n, .slice none 0 0] (by rfl) rfl (World.news_of_block (heap_new_at _ _ rfl)) (by simp [Value.oneCell']) (by omega) (by unfold maxLen; first | omega | (simp; done) | (simp; omega)) (by first | omega | (simp; done) | (simp; omega)) (Nat.zero_le _) (w1.heap.size + 1) (by simp) ?_)
        intro gg cap2 w3 hown hgrow hat hlt
        obtain ⟨h2, f2⟩ := st1.out.push (Frame.alloc _ w1 _) ⟨1, n, []⟩ _ _ [] (by simp) (by simp) hown hgrow hat (.inr ⟨rfl, rfl, rfl, rfl⟩)
        obtain ⟨z0, z1, z2, zf, zl⟩ := blk3 (st1.out.mid (Frame.alloc _ w1 _) hgrow)
        have zf0 := zf 0
        have H2 := Lib.hid h2
        have FF := Lib.hid (frame_3 F1.out f2)
        have sz2 := f2.size
        clear hown hgrow hat hlt h2 f2 zf
        go_wp2
        go_end0
        exact built_of (H2.out.up (fun g hg => plus_up2 sz1 sz2 (Nat.le_refl _) hg) (H.out.topup (Nat.le_trans sz1 sz2)) H.out.ng lg) (HK.out.trans (by rw [Pl.addKeep_last, if_neg HQ.out])) FF.out
/-- Where the builder ends. -/
def Done (F : Nat → Prop) (w : World) (g : Nat) (b : Pl.Bd) (e : Ending) (w' : World) : Prop :=
  ∃ vo' svs', e = .returned vo' ∧ BldAt (Plus F w w') w' vo' (.slice none 0 0) ⟨Pl.flushL b, [], 0⟩ svs' ∧ Frame (fun k => F k ∨ k = g) w w'
set_option maxHeartbeats 1000000 in
theorem done_s (F : Nat → Prop) (w : World) (g : Nat) (vo vp : Value) (b : Pl.Bd) (svs : List Value) (m : Nat) (h : SSt F w g vo vp vp b svs) (hle : b.le m) (hm : m ≤ 100000000) :
    Calls Tryz.prog 82 #[.pointer (some ⟨g, 0, none⟩)] w (Done F w g b) := by
  have H := Lib.hid h
  clear h
  go_enter Tryz.func82, Tryz.ntmps82
  go_wp2_with (fail)
  refine (flush_s F _ g vo vp b svs m H.out hle (by omega)).mono ?_
  rintro e w1 ⟨rfl, vo', vp', svs', st, f1⟩
  obtain ⟨c0, c1, c2, fz, lg1⟩ := st.cells
  obtain ⟨A5, c5, rfl⟩ := own_shape st.bld.row
  have ST := Lib.hid (st.bld.noPut 0)
  have F1 := Lib.hid f1
  clear st f1 fz
  go_wp2_with (fail)
  go_ret
  exact ⟨_, _, rfl, ST.out, F1.out⟩
end Go.Proofs.YtookcfpiegbafaaGreatDoor
