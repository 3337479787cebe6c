/- Contract of impl.normal. Condition: parts of at most 200 characters, at most 100000 parts. -/
import Derived.Test.YtookcfpiegbafaaGreatDoorNormI
import Derived.Deep.RegionHeld3
import Derived.IntWalk
import Derived.BigRegion
namespace Go.Proofs.YtookcfpiegbafaaGreatDoor
open Go.RowKit
set_option maxRecDepth 100000

/-- What normal is told of each part. -/
def Pl.Fine (p : Pt) : Prop := (p.kind = 1 ∨ p.kind = 2 ∨ p.kind = 3) ∧ 0 ≤ p.n ∧ p.n ≤ 200 ∧ p.signs.length ≤ 200
/-- The builder behind k parts. -/
def Pl.bAt (ps : List Pt) (k : Nat) : Pl.Bd := (ps.take k).foldl Pl.bPart Pl.Bd.init
theorem bAt_succ {ps : List Pt} {k : Nat} (h : k < ps.length) : Pl.bAt ps (k + 1) = Pl.bPart (Pl.bAt ps k) (ps.getD k ⟨0, 0, []⟩) := by
  rw [Pl.bAt, Pl.bAt, List.take_succ_eq_append_getElem h, List.foldl_append]
  simp [List.getD, h]
theorem bAt_le {ps : List Pt} (hp : ∀ p ∈ ps, Pl.Fine p) : ∀ k, k ≤ ps.length → (Pl.bAt ps k).le (300 * k)
  | 0, _ => Pl.Bd.le_init
  | k + 1, h => by
    rw [bAt_succ (by omega)]
    have hm := hp (ps.getD k ⟨0, 0, []⟩) (by simp [List.getD, show k < ps.length by omega])
    exact (Pl.bPart_le (k := 300) (bAt_le hp k (by omega)) (by omega) hm.2.1 (by have := hm.2.2.1; omega) (by have := hm.2.2.2; omega)).mono (by omega)

/-- Characters have been put behind those that wait, and the cell says so. -/
theorem NSt.addPut {F : Nat → Prop} {w w2 : World} {gp go gd : Nat} {vo vp vp' : Value} {b : Pl.Bd} {svs : List Value} (h : NSt F w gp go gd vo vp vp b svs) (o : Obj) {l : List Int}
    (ho : w2.ownsRow 0 3 1 vp' (b.put ++ l).length ((b.put ++ l).map (Value.int .i64))) (hg : (w.alloc o).grownBy w2 vp.ownBlock) (hn : vp'.ownBlock = vp.ownBlock ∨ vp'.ownBlock = some (w.alloc o).heap.size) :
    (Cell1 w2 go 22 vo ∧ Cell1 w2 gp 29 vp ∧ Cell1 w2 gd 3 (.int .i64 b.drop)) ∧
    NSt (Plus F w (w2.setCell ⟨gp, 0, none⟩ vp')) (w2.setCell ⟨gp, 0, none⟩ vp') gp go gd vo vp' vp' (Pl.bPut b l) svs ∧
    Frame (fun k => F k ∨ k = gp) w (w2.setCell ⟨gp, 0, none⟩ vp') := by
  obtain ⟨l1, l2, l3⟩ := h.lts
  have h1 : BldAt F (w.alloc o) vo vp b svs := h.bld.frame (Frame.alloc (fun _ => False) w o) (fun _ _ hh => hh)
  have hB := h1.addPut ho hg hn
  have hf : Frame F w w2 := (Frame.alloc F w o).trans (Frame.grown (S := F) hg fun k hk => h.bld.inF vp (by simp) k hk) (fun _ _ hk => hk)
  have c1 := h.out.frame hf h.no
  have c2 := h.put.frame hf h.np
  have c3 := h.drop.frame hf h.nd
  have hs : Frame (fun k => k = gp) w2 (w2.setCell ⟨gp, 0, none⟩ vp') := Frame.setCell _ _ _ _ rfl
  have hsz := hg.size
  rw [World.size_alloc] at hsz
  have e : (w2.setCell ⟨gp, 0, none⟩ vp').heap.size = w2.heap.size := by simp [World.setCell]
  have up : ∀ k, Plus F (w.alloc o) w2 k → Plus F w w2 k := fun k hk => by
    rcases hk with hk | hk
    · exact .inl hk
    · rw [World.size_alloc] at hk; exact .inr ⟨by omega, hk.2⟩
  have n1 : ¬ Plus F w w2 go := plus_not h.no l1
  have n2 : ¬ Plus F w w2 gp := plus_not h.np l2
  have n3 : ¬ Plus F w w2 gd := plus_not h.nd l3
  refine ⟨⟨c1, c2, c3⟩, ?_, (hf.mono fun _ _ hk => .inl hk).trans hs fun _ _ hk => .inr hk⟩
  have ep : Plus F w (w2.setCell ⟨gp, 0, none⟩ vp') = Plus F w w2 := by unfold Plus; rw [e]
  rw [ep]
  refine ⟨c1.frame hs h.op, c2.set _, c3.frame hs (fun hh => h.pd hh.symm), ?_, n1, n2, n3, h.op, h.od, h.pd⟩
  exact ((hB.mono up fun k hk => by
    rcases hk with hk | hk
    · have := h.bld.top k hk; omega
    · exact hk.2).frame hs (fun k hk hh => n2 (by rw [← hh]; exact hk)))
/-- More is to be dropped, and the cell says so. -/
theorem NSt.addDrop {F : Nat → Prop} {w : World} {gp go gd : Nat} {vo vp : Value} {b : Pl.Bd} {svs : List Value} (h : NSt F w gp go gd vo vp vp b svs) (n : Int) :
    NSt F (w.setCell ⟨gd, 0, none⟩ (.int .i64 (b.drop + n))) gp go gd vo vp vp (Pl.bDrop b n) svs ∧ Frame (fun k => k = gd) w (w.setCell ⟨gd, 0, none⟩ (.int .i64 (b.drop + n))) := by
  have hs : Frame (fun k => k = gd) w (w.setCell ⟨gd, 0, none⟩ (.int .i64 (b.drop + n))) := Frame.setCell _ _ _ _ rfl
  exact ⟨⟨h.out.frame hs h.od, h.put.frame hs h.pd, h.drop.set _, (h.bld.sub (b.drop + n)).frame hs (fun k hk hh => h.nd (by rw [← hh]; exact hk)), h.no, h.np, h.nd, h.op, h.od, h.pd⟩, hs⟩
theorem NSt.alloc {F : Nat → Prop} {w : World} {gp go gd : Nat} {vo vc vp : Value} {b : Pl.Bd} {svs : List Value} (h : NSt F w gp go gd vo vc vp b svs) (o : Obj) : NSt F (w.alloc o) gp go gd vo vc vp b svs :=
  h.frame (Frame.alloc (fun _ => False) w o) (fun _ _ hh => hh) (fun hh => hh) (fun hh => hh) (fun hh => hh)
/-- The last part keeps more. -/
theorem NSt.more {F : Nat → Prop} {w : World} {gp go gd g cap : Nat} {vp : Value} {l : List Pt} {p : Pt} {put : List Int} {d : Int} {svs : List Value}
    (h : NSt F w gp go gd (.slice (some ⟨g, 0, none⟩) (l.length + 1) cap) vp vp ⟨l ++ [p], put, d⟩ svs) (n : Int) :
    NSt F (w.setCell ⟨g, l.length * 3 + 1, none⟩ (.int .i64 n)) gp go gd (.slice (some ⟨g, 0, none⟩) (l.length + 1) cap) vp vp ⟨l ++ [⟨p.kind, n, p.signs⟩], put, d⟩ svs ∧
    Frame F w (w.setCell ⟨g, l.length * 3 + 1, none⟩ (.int .i64 n)) := by
  have hF : F g := h.bld.inF _ List.mem_cons_self g rfl
  have hs : Frame (fun k => k = g) w (w.setCell ⟨g, l.length * 3 + 1, none⟩ (.int .i64 n)) := Frame.setCell _ _ _ _ rfl
  exact ⟨⟨h.out.frame hs (fun e => h.no (by rw [e]; exact hF)), h.put.frame hs (fun e => h.np (by rw [e]; exact hF)), h.drop.frame hs (fun e => h.nd (by rw [e]; exact hF)), h.bld.setN n, h.no, h.np, h.nd, h.op, h.od, h.pd⟩,
    hs.mono fun k _ hk => by rw [hk]; exact hF⟩

/-- What a round of normal leaves to the next one. -/
theorem normRel {w wr w3 : World} {S : Nat → Prop} {ps : List Pt} {A : Option Addr} (hf : Frame S wr w3) (hS : ∀ g, S g → w.heap.size ≤ g) (hb : Below w.heap.size w wr) (hsz : w.heap.size + 1 + 1 < wr.heap.size) (hr : PartsAt w.heap.size wr A ps) :
    Hid (Below w.heap.size w w3) ∧ w.heap.size + 1 + 1 < w3.heap.size ∧ Hid (PartsAt w.heap.size w3 A ps) := by
  have h := hf.below hS (by omega)
  exact ⟨hb.trans h, by have := hf.size; omega, hr.below h⟩
theorem mkRel {F : Nat → Prop} {w3 : World} {gp go gd : Nat} {vo vp : Value} {b b' : Pl.Bd} {svs : List Value} (h : NSt F w3 gp go gd vo vp vp b svs) (e : b' = b) : Hid (NSt F w3 gp go gd vo vp vp b' svs) := by
  subst e
  exact h
theorem own_shape {base e size n : Nat} {w : World} {v : Value} {xs : List Value} (h : w.ownsRow base e size v n xs) : ∃ A c, v = .slice A n c := by
  rcases h.2 with ⟨rfl, rfl⟩ | ⟨g, cap, cur, rfl, _⟩
  · exact ⟨_, _, rfl⟩
  · exact ⟨_, _, rfl⟩
theorem hidLo {F : Nat → Prop} {w w' : World} {lo : Nat} (h : Hid (∀ g, F g → lo ≤ g)) (hs : lo ≤ w.heap.size) : Hid (∀ g, Plus F w w' g → lo ≤ g) := fun g hg => by
  rcases hg with hg | hg
  · exact h.out g hg
  · omega
theorem plus_lo {F : Nat → Prop} {w w' : World} {lo : Nat} (h : ∀ g, F g → lo ≤ g) (hs : lo ≤ w.heap.size) : ∀ g, Plus F w w' g → lo ≤ g := fun g hg => by
  rcases hg with hg | hg
  · exact h g hg
  · omega
theorem bPart_put {b : Pl.Bd} {p : Pt} (h : p.kind = 2) : Pl.bPart b p = Pl.bPut b p.signs := by rw [Pl.bPart, if_neg (by omega), if_pos h]
theorem bPart_drop {b : Pl.Bd} {p : Pt} (h : p.kind = 3) : Pl.bPart b p = Pl.bDrop b p.n := by rw [Pl.bPart, if_neg (by omega), if_neg (by omega)]
theorem bPart_zero {b : Pl.Bd} {p : Pt} (h : p.kind = 1) (h0 : p.n = 0) : Pl.bPart b p = b := by rw [Pl.bPart, if_pos h, Pl.bKeep, if_pos h0]
theorem bPart_keep {b : Pl.Bd} {p : Pt} (h : p.kind = 1) (h0 : 0 < p.n) : Pl.bPart b p = ⟨Pl.addKeep (Pl.flushL b) p.n, [], 0⟩ := by rw [Pl.bPart, if_pos h, Pl.bKeep, if_neg (by omega)]

set_option maxHeartbeats 4000000 in
set_option maxRecDepth 100000 in
theorem normal_i (v : Value) (ps : List Pt) (w : World) (h : SliceParts w.heap.size w v ps) (hps : ∀ p ∈ ps, Pl.Fine p) (hl : ps.length ≤ 100000) :
    Calls Tryz.prog 37 #[v] w fun e w' => ∃ v' svs, e = .returned v' ∧ OwnP w.heap.size w'.heap.size w' v' (Pl.norm ps) svs ∧ Below w.heap.size w w' := by
  obtain ⟨A, c, rfl, -, h⟩ := h
  have hmf : ∀ (fn : Fn) (first cap : Array Value) (w : World), (Instr.makeFunc fn first cap).run Tryz.prog w = .ok (.func fn first cap) w := fun _ _ _ _ => rfl
  obtain ⟨i0, hi, hz0, hz1, hz2⟩ := info_parts partInfoB
  obtain ⟨j0, hj, hy0, hy1, hy2⟩ := info_parts intInfoB
  have HLE := Lib.hid (bAt_le hps)
  have HPS := Lib.hid hps
  clear hps
  have st0 : NSt (fun _ => False) (((w.alloc (.cells #[.slice none 0 0] 22)).alloc (.cells #[.slice none 0 0] 29)).alloc (.cells #[.int .i64 0] 3)) (w.heap.size + 1) w.heap.size (w.heap.size + 1 + 1) (.slice none 0 0) (.slice none 0 0) (.slice none 0 0) (Pl.bAt ps 0) [] := by
    refine ⟨?_, ?_, ?_, BldAt.init _, fun hh => hh, fun hh => hh, fun hh => hh, by omega, by omega, by omega⟩
    · show _ = _
      rw [Below.heap_alloc _ _ _ (by simp; omega), Below.heap_alloc _ _ _ (by simp)]
      exact heap_new_at _ _ rfl
    · show _ = _
      rw [Below.heap_alloc _ _ _ (by simp)]
      exact heap_new_at _ _ (by simp)
    · exact heap_new_at _ _ (by simp)
  have b0 : Below w.heap.size w (((w.alloc (.cells #[.slice none 0 0] 22)).alloc (.cells #[.slice none 0 0] 29)).alloc (.cells #[.int .i64 0] 3)) :=
    (((Below.refl _ w).alloc (Nat.le_refl _) _).alloc (by simp) _).alloc (by simp; omega) _
  have h1 := h.below b0
  have ST0 := Lib.hid st0
  have H1 := Lib.hid h1
  have B0 := Lib.hid b0
  have cD := st0.drop.cell
  have fD := st0.drop.free
  clear st0 h1 b0 h
  go_enter Tryz.func37, Tryz.ntmps37
  go_wp2_with (fail)
  go_loopw [13] (fun i wr => ∃ (k : Nat) (F : Nat → Prop) (vo vp : Value) (svs : List Value), k ≤ ps.length ∧ i = .int .i64 k ∧ Hid (NSt F wr (w.heap.size + 1) w.heap.size (w.heap.size + 1 + 1) vo vp vp (Pl.bAt ps k) svs) ∧ Hid (∀ g, F g → w.heap.size + 3 ≤ g) ∧
    Hid (Below w.heap.size w wr) ∧ w.heap.size + 1 + 1 < wr.heap.size ∧ Hid (PartsAt w.heap.size wr A ps)) (fun i _ => ps.length - (intOf i).toNat)
  case atStart => exact ⟨0, _, _, _, _, Nat.zero_le _, rfl, ST0.out, fun _ hh => hh.elim, B0.out, by simp, H1.out⟩
  case round =>
    clear cD fD
    obtain ⟨k, F, vo, vp, svs, hk, rfl, hst, hF, hb, hsz, hr⟩ := hrel
    by_cases hlk : k < ps.length
    · obtain ⟨b, off, sv, rfl, hbB, c0, c1, c2, hs⟩ := hr.out k hlk
      have HS := Lib.hid (bAt_succ hlk)
      have hle := HLE.out k hk
      have hm := HPS.out (ps.getD k ⟨0, 0, []⟩) (by simp [List.getD, hlk])
      obtain ⟨pk, p0, p1, p2⟩ := hm
      generalize ps.getD k ⟨0, 0, []⟩ = p at c0 c1 hs HS p0 p1 p2 pk
      have hs0 := Lib.hid hs
      obtain ⟨A2, c3, rfl, -, -⟩ := hs
      have hst1 := Lib.hid (hst.out.alloc (.cells #[.int .i64 p.kind, .int .i64 p.n, .slice A2 p.signs.length c3] 47))
      have hbx : Below w.heap.size wr (wr.alloc (.cells #[.int .i64 p.kind, .int .i64 p.n, .slice A2 p.signs.length c3] 47)) := (Below.refl _ wr).alloc (by omega) _
      have HBX := Lib.hid hbx
      clear hbx
      have hpl := hle.put
      have hll := hle.len
      have hd0 := hle.d0
      have hdm := hle.dm
      have HLk := Lib.hid hle
      clear hle
      rcases pk with pk | pk | pk
      · have k2 : (p.kind == 2) = false := by simp [pk]
        have k3 : (p.kind == 3) = false := by simp [pk]
        by_cases hn : 0 < p.n
        · have HK := Lib.hid (bPart_keep (b := Pl.bAt ps k) pk hn)
          obtain ⟨fl1, fl2, fl3⟩ := Pl.flushL_le HLk.out
          have FL2 := Lib.hid fl2
          have FL3 := Lib.hid fl3
          clear pk fl2 fl3
          go_wp2_with (fail)
          refine (flush_i F _ _ _ _ vo vp (Pl.bAt ps k) svs (300 * k) hst1.out HLk.out (by omega)).mono ?_
          rintro e w1 ⟨rfl, vo', svs', st, f1⟩
          have bx := f1.heap (heap_new_at wr (.cells #[.int .i64 p.kind, .int .i64 p.n, .slice A2 p.signs.length c3] 47) rfl) (by
            rintro (hh | hh | hh | hh)
            · exact absurd (hst.out.bld.top _ hh) (Nat.lt_irrefl _)
            all_goals omega)
          obtain ⟨-, x1, -, -, xl⟩ := blk3 bx
          have st1 : Hid (NSt (Plus F (wr.alloc (.cells #[.int .i64 p.kind, .int .i64 p.n, .slice A2 p.signs.length c3] 47)) w1) w1 (w.heap.size + 1) w.heap.size (w.heap.size + 1 + 1) vo' (.slice none 0 0) (.slice none 0 0) ⟨Pl.flushL (Pl.bAt ps k), [], 0⟩ svs') := st
          have sz1 := f1.size
          simp only [World.size_alloc] at sz1
          have F1 : Hid (Frame (fun k => w.heap.size ≤ k) wr w1) := (Frame.alloc _ wr _).trans f1 (fun k hk hh => by
            rcases hh with hh | hh | hh | hh
            · exact Nat.le_trans (by omega) (hF.out k hh)
            all_goals omega)
          have cO1 := st.out.cell
          have fO1 := st.out.free
          have hrow0 := st.bld.row
          have hlen0 := st.bld.len
          clear st f1 bx
          have hrow1 : w1.ownsRow 0 47 3 vo' (Pl.flushL (Pl.bAt ps k)).length (cellsP (Pl.flushL (Pl.bAt ps k)) svs') := hrow0
          have hlen1 : svs'.length = (Pl.flushL (Pl.bAt ps k)).length := hlen0
          clear hrow0 hlen0
          generalize Pl.flushL (Pl.bAt ps k) = L at HK FL2 FL3 st1 hrow1 hlen1 fl1
          rcases List.eq_nil_or_concat L with hL | ⟨l, q, hL⟩
          · subst hL
            have hv : ∃ A c, vo' = .slice A 0 c := by
              rcases hrow1.2 with ⟨e, _⟩ | ⟨_, _, _, e, _⟩
              · exact ⟨_, _, e⟩
              · exact ⟨_, _, e⟩
            obtain ⟨A5, c5, rfl⟩ := hv
            have hrow := Lib.hid hrow1
            clear hrow1 hlen1
            go_wp2_with (at_builtin; refine wpList_append_lies _ rfl (.tmp 63) (.tmp 67) 22 rfl 0 47 i0 _ 3 40 Tryz.underlying22 hi hz0 hz1 hz2 rfl (by decide) _ _ _ (by rfl) (hrow.out.alloc _) ⟨w1.heap.size, 0, none⟩ 1 1 [.int .i64 1, .int .i64 p.n, .slice none 0 0] (by rfl) rfl (World.news_of_block (heap_new_at _ _ rfl)) (by simp [Value.oneCell']) (by omega) (by unfold maxLen; first | omega | (simp; done) | (simp; omega)) (by first | omega | (simp; done) | (simp; omega)) (Nat.zero_le _) (w1.heap.size + 1) (by simp) ?_)
            intro g cap2 w3 hown hg hat hlt
            obtain ⟨⟨e1, e2, e3⟩, h2, f2⟩ := st1.out.push _ ⟨1, p.n, []⟩ _ _ [] rfl rfl hown hg hat (.inr ⟨rfl, rfl, rfl, rfl⟩)
            have cO3 := e1.cell
            have fO3 := e1.free
            have H2 := Lib.hid h2
            have sz2 := f2.size
            have ff := (F1.out.trans (S := fun k => w.heap.size ≤ k) f2 (fun k hk hh => by
              rcases hh with hh | hh
              · exact plus_lo (w := wr.alloc _) (w' := w1) (lo := w.heap.size) (fun g hg => Nat.le_trans (by omega) (hF.out g hg)) (by simp; omega) k hh
              · omega))
            have FF := Lib.hid ff
            clear hown hg hat hlt e1 e2 e3 h2 f2 ff cO1 fO1
            go_wp2
            go_roundw
            case rel =>
              exact ⟨k + 1, _, _, _, _, by omega, by go_num, mkRel H2.out (HS.out.trans (HK.out.trans rfl)), hidLo (hidLo hF (by simp; omega)) (by omega), normRel FF.out (fun _ hh => hh) hb.out hsz hr.out⟩
            case measure => simp [intOf]; omega

          · rw [List.concat_eq_append] at hL
            subst hL
            obtain ⟨g0, cap0, rfl, -, -⟩ := hrow1.form (by simp)
            have hl1 : (l ++ [q]).length = l.length + 1 := by simp
            rw [hl1] at fl1
            simp only [hl1] at hrow1 cO1 hlen1 st1
            obtain ⟨q0, q1, -⟩ := cellsP_at (l ++ [q]) svs' l.length (by rw [hl1]; exact hlen1) (by simp)
            have d0 := hrow1.cellAt (l.length * 3) (by omega)
            have d1 := hrow1.cellAt (l.length * 3 + 1) (by omega)
            have dz := hrow1.frozenAt (l.length * 3 + 1)
            rw [q0] at d0
            rw [q1] at d1
            have hgq : (l ++ [q]).getD l.length ⟨0, 0, []⟩ = q := by simp [List.getD]
            rw [hgq] at d0 d1
            have hqn0 := FL2.out q (by simp)
            have hqn1 := FL3.out q (by simp)
            have hrow := Lib.hid hrow1
            clear hrow1 hlen1 q0 q1 hgq hl1
            by_cases hq : q.kind = 1
            · have k9 : (q.kind == 1) = true := by simp [hq]
              have HQ := Lib.hid hq
              clear hq
              go_wp2_with (fail)
              have m0 : (0 : Int) ≤ ((l.length : Nat) : Int) := Int.natCast_nonneg _
              have m1 : ((l.length : Nat) : Int) < ((l.length : Nat) : Int) + 1 := by omega
              have s1 : IntKind.i64.wrap (((l.length : Nat) : Int) + 1 - 1) = ((l.length : Nat) : Int) := by rw [IntWalk.i64_in _ (by omega)]; omega
              have s3 : IntKind.i64.wrap ((l.length : Nat) : Int) = ((l.length : Nat) : Int) := IntWalk.i64_in _ (by omega)
              have s2 : IntKind.i64.wrap (q.n + p.n) = q.n + p.n := IntWalk.i64_in _ (by omega)
              go_region
              clear s1 s2 s3 m0 m1
              obtain ⟨h2, f2⟩ := st1.out.more (q.n + p.n)
              have H2 := Lib.hid (h2.frame (Frame.drew (fun _ => False) _) (fun _ _ hh => hh) (fun hh => hh) (fun hh => hh) (fun hh => hh))
              have FF := Lib.hid ((F1.out.trans (S := fun k => w.heap.size ≤ k) f2 (fun k hk hh => plus_lo (w := wr.alloc _) (w' := w1) (lo := w.heap.size) (fun g hg => Nat.le_trans (by omega) (hF.out g hg)) (by simp; omega) k hh)).trans (Frame.drew (fun _ => False) _) (fun _ _ hh => hh.elim))
              clear h2 f2
              go_wp2
              go_roundw
              case rel =>
                exact ⟨k + 1, _, _, _, _, by omega, by go_num, mkRel H2.out (HS.out.trans (HK.out.trans (by rw [Pl.addKeep_last, if_pos HQ.out, HQ.out]))), hidLo hF (by simp; omega), normRel FF.out (fun _ hh => hh) hb.out hsz hr.out⟩
              case measure => simp [intOf]; omega
            · have k9 : (q.kind == 1) = false := by simp [hq]
              have HQ := Lib.hid hq
              clear hq
              go_wp2_with (at_builtin; refine wpList_append_lies _ rfl (.tmp 63) (.tmp 67) 22 rfl 0 47 i0 _ 3 40 Tryz.underlying22 hi hz0 hz1 hz2 rfl (by decide) _ _ _ (by rfl) (hrow.out.alloc _) ⟨w1.heap.size, 0, none⟩ 1 1 [.int .i64 1, .int .i64 p.n, .slice none 0 0] (by rfl) rfl (World.news_of_block (heap_new_at _ _ rfl)) (by simp [Value.oneCell']) (by omega) (by unfold maxLen; first | omega | (simp; done) | (simp; omega)) (by first | omega | (simp; done) | (simp; omega)) (Nat.zero_le _) (w1.heap.size + 1) (by simp) ?_)
              intro g cap2 w3 hown hg hat hlt
              obtain ⟨⟨e1, e2, e3⟩, h2, f2⟩ := st1.out.push _ ⟨1, p.n, []⟩ _ _ [] (by simp) rfl hown hg hat (.inr ⟨rfl, rfl, rfl, rfl⟩)
              have cO3 := e1.cell
              have fO3 := e1.free
              have H2 := Lib.hid h2
              have sz2 := f2.size
              have ff := (F1.out.trans (S := fun k => w.heap.size ≤ k) f2 (fun k hk hh => by
                rcases hh with hh | hh
                · exact plus_lo (w := wr.alloc _) (w' := w1) (lo := w.heap.size) (fun g hg => Nat.le_trans (by omega) (hF.out g hg)) (by simp; omega) k hh
                · omega))
              have FF := Lib.hid ff
              clear hown hg hat hlt e1 e2 e3 h2 f2 ff cO1 fO1
              go_wp2
              go_roundw
              case rel =>
                exact ⟨k + 1, _, _, _, _, by omega, by go_num, mkRel H2.out (HS.out.trans (HK.out.trans (by rw [Pl.addKeep_last, if_neg HQ.out]))), hidLo (hidLo hF (by simp; omega)) (by omega), normRel FF.out (fun _ hh => hh) hb.out hsz hr.out⟩
              case measure => simp [intOf]; omega

        · have hn0 : p.n ≤ 0 := by omega
          have HK := Lib.hid (bPart_zero (b := Pl.bAt ps k) pk (by omega))
          clear pk hn
          go_wp2
          go_roundw
          case rel => exact ⟨k + 1, F, _, _, _, by omega, by go_num, by show NSt _ _ _ _ _ _ _ _ _ _; rw [HS.out, HK.out]; exact hst1.out, hF, normRel (Frame.alloc (fun _ => False) wr _) (fun _ hh => hh.elim) hb.out hsz hr.out⟩
          case measure => simp [intOf]; omega
      · have k2 : (p.kind == 2) = true := by simp [pk]
        have HK := Lib.hid (bPart_put (b := Pl.bAt ps k) pk)
        clear pk
        have cP := hst1.out.put.cell
        have fP := hst1.out.put.free
        have hput := Lib.hid hst.out.bld.put
        have hsrc := hs0.out.below HBX.out
        obtain ⟨A9, c9, he, -, hsrc⟩ := hsrc
        injection he with hA hL hc
        subst hA hc
        have HSRC := Lib.hid hsrc
        clear hsrc hL
        go_wp2_with (at_builtin; refine wpList_append_src _ rfl (.tmp 21) (.tmp 23) 29 rfl 0 3 j0 _ 1 8 Tryz.underlying29 hj hy0 hy1 hy2 rfl (by decide) vp (Pl.bAt ps k).put.length _ (by rfl) (hput.out.alloc _) A2 p.signs.length c3 (p.signs.map (Value.int .i64)) (by rfl) (by simp) HSRC.out.src (ints_one _) (by unfold maxLen; omega) (by omega) (Nat.zero_le _) ?_)
        intro vp' w2 hown hg hat
        have ho2 : OwnInts 0 w2 vp' ((Pl.bAt ps k).put ++ p.signs) := by
          show World.ownsRow _ _ _ _ _ _ _
          rw [List.length_append, List.map_append]
          exact hown
        obtain ⟨A7, c7, rfl⟩ := own_shape hown
        obtain ⟨⟨e1, e2, e3⟩, h2, f2⟩ := hst.out.addPut _ ho2 hg (by simpa using hat)
        have cP2 := e2.cell
        have fP2 := e2.free
        have H2 := Lib.hid h2
        have F2 := Lib.hid f2
        clear hown hg hat ho2 e1 e2 e3 h2 f2 cP fP
        go_wp2
        go_roundw
        case rel =>
          exact ⟨k + 1, _, _, _, _, by omega, by go_num, mkRel H2.out (HS.out.trans HK.out), hidLo hF (by omega), normRel F2.out (fun g hh => by
            rcases hh with hh | hh
            · exact Nat.le_trans (by omega) (hF.out g hh)
            · omega) hb.out hsz hr.out⟩
        case measure => simp [intOf]; omega
      · have k2 : (p.kind == 2) = false := by simp [pk]
        have k3 : (p.kind == 3) = true := by simp [pk]
        have cD := hst1.out.drop.cell
        have fD := hst1.out.drop.free
        have HK := Lib.hid (bPart_drop (b := Pl.bAt ps k) pk)
        obtain ⟨h2, f2⟩ := hst.out.addDrop p.n
        have H2 := Lib.hid (h2.alloc (.cells #[.int .i64 p.kind, .int .i64 p.n, .slice A2 p.signs.length c3] 47))
        have F2 := Lib.hid (f2.trans (Frame.alloc (fun k => k = w.heap.size + 1 + 1) _ (.cells #[.int .i64 p.kind, .int .i64 p.n, .slice A2 p.signs.length c3] 47)) (fun _ _ hh => hh))
        clear pk h2 f2
        go_wp2
        go_roundw
        case rel =>
          exact ⟨k + 1, F, _, _, _, by omega, by go_num, mkRel H2.out (HS.out.trans HK.out), hF, normRel F2.out (fun g hh => by omega) hb.out hsz hr.out⟩
        case measure => simp [intOf]; omega
    · have hkk : k = ps.length := by omega
      subst hkk
      have hle := Lib.hid (HLE.out ps.length (Nat.le_refl _))
      have HN : Hid (Pl.flushL (Pl.bAt ps ps.length) = Pl.norm ps) := by show _ = _; rw [Pl.bAt, List.take_length, Pl.norm]
      go_wp2_with (fail)
      refine (flush_i F _ _ _ _ vo vp (Pl.bAt ps ps.length) svs (300 * ps.length) hst.out hle.out (by omega)).mono ?_
      rintro e w1 ⟨rfl, vo', svs', st, f1⟩
      obtain ⟨A5, c5, rfl⟩ := own_shape st.bld.row
      have cO1 := st.out.cell
      have ST := Lib.hid st
      have F1 := Lib.hid f1
      clear st f1
      go_wp2_with (fail)
      go_ret
      refine ⟨_, svs', rfl, ?_, hb.out.trans (F1.out.below (fun g hh => by
        rcases hh with hh | hh | hh | hh
        · exact Nat.le_trans (by omega) (hF.out g hh)
        all_goals omega) (by omega))⟩
      rw [← HN.out]
      exact ST.out.bld.own (plus_lo (fun g hg => Nat.le_trans (by omega) (hF.out g hg)) (by omega)) (Nat.le_refl _)
end Go.Proofs.YtookcfpiegbafaaGreatDoor
