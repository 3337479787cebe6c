/- Contract of the reference's Invert. Condition: none longer than any slice can be. -/
import Derived.Test.YtlidheodadoboaaInvert
namespace Go.Proofs.Ytlidheodadoboaa
open Go.RowKit

/-- A step of the builder beside a block that has just been made. -/
theorem SB.boxed {lo g : Nat} {w w' : World} {b b' : Pl.Bd} {F : Nat → Prop} {vo vp : Value} {svs : List Value} {e : Ending} {o : Obj} (h : SSt F w g vo vp vp b svs) (hF : ∀ k, F k → lo ≤ k) (hl : lo ≤ w.heap.size) (hb : Built F (w.alloc o) g b' e w') :
    e = .returned (.tuple #[]) ∧ SB lo g w' b' ∧ Frame (fun k => lo ≤ k ∨ k = g) w w' ∧ w'.heap[w.heap.size]? = some o := by
  obtain ⟨rfl, vo', vp', svs', st, f⟩ := hb
  have lg := (blk3 h.blk).2.2.2.2
  have hs := f.size
  rw [World.size_alloc] at hs
  refine ⟨rfl, ⟨_, _, _, _, st, plus_lo hF (by simp; omega)⟩, (Frame.alloc _ w o).trans f (fun k _ hk => ?_), f.heap (heap_new_at w o rfl) ?_⟩
  · rcases hk with hk | hk
    · exact .inl (hF k hk)
    · exact .inr hk
  · rintro (hk | hk)
    · exact absurd (h.bld.top _ hk) (Nat.lt_irrefl _)
    · omega
theorem SSt.alloc {F : Nat → Prop} {w : World} {g : Nat} {vo vc vp : Value} {b : Pl.Bd} {svs : List Value} (h : SSt F w g vo vc vp b svs) (o : Obj) : SSt F (w.alloc o) g vo vc vp b svs :=
  h.frame (Frame.alloc (fun _ => False) w o) (fun _ _ hh => hh) (fun hh => hh)
theorem keep_sx (lo g : Nat) (w : World) (o : Obj) (b : Pl.Bd) (n : Int) (m : Nat) (h : SB lo g w b) (hl : lo ≤ w.heap.size) (hle : b.le m) (hm : m ≤ 100000000) (hn : 0 ≤ n) (hn1 : n ≤ 1000000000) :
    Calls Try.prog 53 #[.pointer (some ⟨g, 0, none⟩), .int .i64 n] (w.alloc o) fun e w' => e = .returned (.tuple #[]) ∧ SB lo g w' (Pl.bKeep b n) ∧ Frame (fun k => lo ≤ k ∨ k = g) w w' ∧ w'.heap[w.heap.size]? = some o := by
  obtain ⟨F, vo, vp, svs, h, hF⟩ := h
  exact (keep_s F _ g vo vp b svs n m (h.alloc o) hle hm hn hn1).mono fun e w' hb => SB.boxed h hF hl hb
theorem put_sx (lo g : Nat) (w : World) (o : Obj) (b : Pl.Bd) (v : Value) (xs : List Int) (h : SB lo g w b) (hv : SliceInts w.heap.size w v xs) (hl : lo ≤ w.heap.size) (hle : b.put.length ≤ 1000000000) (hx : xs.length ≤ 1000000000) :
    Calls Try.prog 54 #[.pointer (some ⟨g, 0, none⟩), v] (w.alloc o) fun e w' => e = .returned (.tuple #[]) ∧ SB lo g w' (Pl.bPut b xs) ∧ Frame (fun k => lo ≤ k ∨ k = g) w w' ∧ w'.heap[w.heap.size]? = some o := by
  obtain ⟨F, vo, vp, svs, h, hF⟩ := h
  exact (put_s F _ g vo vp b svs v xs (h.alloc o) (hv.later ((Below.refl _ _).alloc (Nat.le_refl _) o)) hle hx).mono fun e w' hb => SB.boxed h hF hl hb
theorem drop_sx (lo g : Nat) (w : World) (o : Obj) (b : Pl.Bd) (n : Int) (h : SB lo g w b) (hl : lo ≤ w.heap.size) (h0 : 0 ≤ b.drop) (h1 : b.drop ≤ 1000000000) (hn : 0 ≤ n) (hn1 : n ≤ 1000000000) :
    Calls Try.prog 55 #[.pointer (some ⟨g, 0, none⟩), .int .i64 n] (w.alloc o) fun e w' => e = .returned (.tuple #[]) ∧ SB lo g w' (Pl.bDrop b n) ∧ Frame (fun k => lo ≤ k ∨ k = g) w w' ∧ w'.heap[w.heap.size]? = some o := by
  obtain ⟨F, vo, vp, svs, h, hF⟩ := h
  exact (drop_s F _ g vo vp b svs n (h.alloc o) h0 h1 hn hn1).mono fun e w' hb => SB.boxed h hF hl hb

theorem done_sx (lo g : Nat) (w : World) (b : Pl.Bd) (m : Nat) (h : SB lo g w b) (hl : lo ≤ w.heap.size) (hle : b.le m) (hm : m ≤ 100000000) :
    Calls Try.prog 56 #[.pointer (some ⟨g, 0, none⟩)] w fun e w' => ∃ v svs, e = .returned v ∧ OwnP lo w'.heap.size w' v (Pl.flushL b) svs ∧ Frame (fun k => lo ≤ k ∨ k = g) w w' := by
  obtain ⟨F, vo, vp, svs, h, hF⟩ := h
  refine (done_s F w g vo vp b svs m h hle hm).mono fun e w' hb => ?_
  obtain ⟨vo', svs', rfl, hB, f⟩ := hb
  exact ⟨vo', svs', rfl, hB.own (plus_lo hF hl) (Nat.le_refl _), f.mono (fun k _ hk => by
    rcases hk with hk | hk
    · exact .inl (hF k hk)
    · exact .inr hk)⟩
set_option maxHeartbeats 8000000 in
set_option maxRecDepth 100000 in
theorem invert_s (v v' : Value) (ps : List Pt) (ts : List Int) (w : World) (h : SliceParts w.heap.size w v ps) (h' : SliceInts w.heap.size w v' ts) :
    Calls Try.prog 39 #[v, v'] w fun e w' => ∃ u svs, e = .returned (.tuple #[u, .bool (Pl.fits ps ts)]) ∧ OwnP w.heap.size w'.heap.size w' u (Pl.invert ps ts) svs ∧ Below w.heap.size w w' := by
  have h0 := Lib.hid h
  have h0' := Lib.hid h'
  obtain ⟨A, c, rfl, -, -⟩ := h
  obtain ⟨A', c', rfl, hc2, -⟩ := h'
  by_cases hfit0 : Pl.fits ps ts = true
  rotate_left
  · have HFT : Hid (Pl.fits ps ts = false) := by show _ = _; simpa using hfit0
    have HV : Hid (Pl.invert ps ts = []) := by show _ = _; rw [Pl.invert, if_neg (by rw [HFT.out]; decide)]
    clear hfit0
    go_enter Try.func39, Try.ntmps39
    go_wp2_with (fail)
    refine (fits_s _ _ ps ts _ h0.out h0'.out).mono ?_
    rintro e w1 ⟨rfl, b1⟩
    rw [HFT.out]
    go_wp2_with (fail)
    go_ret2
    exact ⟨_, _, by rw [HFT.out]; rfl, by rw [HV.out]; exact OwnP.nil _ _ _, b1⟩
  have HFT := Lib.hid hfit0
  obtain ⟨ho, ht, hf, hlt⟩ := fits_facts hfit0
  have HV : Hid (Pl.invert ps ts = Pl.norm (Pl.invL (Pl.norm ps) ts)) := by show _ = _; rw [Pl.invert, if_pos hfit0]
  have HNF := Lib.hid ((norm_from ho).trans hf)
  have HNN := Lib.hid (opNorm_yes ho)
  have hpn := (Pl.opOk_units (Pl.opOk_norm ho)).1
  have HPN := Lib.hid hpn
  have hnl := partsOk_len hpn
  clear hfit0 ho ht hf hpn
  go_enter Try.func39, Try.ntmps39
  go_wp2_with (fail)
  refine (fits_s _ _ ps ts _ h0.out h0'.out).mono ?_
  rintro e w1 ⟨rfl, b1⟩
  rw [HFT.out]
  have sz1 := b1.size
  have b1a := b1.alloc sz1 (.cells #[.slice none 0 0, .slice none 0 0, .int .i64 0] 64)
  have B1A := Lib.hid b1a
  clear b1 b1a
  go_wp2_with (fail)
  refine (opNorm_s _ ps _ ((h0.out.below B1A.out).mono B1A.out.size)).mono ?_
  rintro e w2 ⟨v2, svs0, rfl, o2, b2⟩
  rw [HNN.out] at o2
  have b12 := B1A.out.trans (b2.mono B1A.out.size)
  have ST0 : Hid (SB w2.heap.size w1.heap.size w2 Pl.Bd.init) := by
    obtain ⟨F, vo, vp, svs, hst, hF⟩ : SB w1.heap.size w1.heap.size (w1.alloc (.cells #[.slice none 0 0, .slice none 0 0, .int .i64 0] 64)) Pl.Bd.init := SB.new
    exact ⟨fun _ => False, _, _, _, ⟨(b2.block _ (by simp)).trans (heap_new_at _ _ rfl), BldAt.init _, fun h => h⟩, fun _ h => h.elim⟩
  have sz2 : w1.heap.size < w2.heap.size := by have := b2.size; simp at this; omega
  obtain ⟨A1, c1, rfl, -, hr⟩ := o2.rd (F := fun x => w1.heap.size < x ∧ x < w2.heap.size) (fun b hb1 hb2 => ⟨by simp at hb1; omega, hb2⟩)
  obtain ⟨A9, c9, he, -, hr'⟩ := h0'.out.below b12
  injection he with hA hL hc
  subst hA hc
  clear hL
  have HR0 := Lib.hid hr
  have HR0' := Lib.hid hr'
  have B12 := Lib.hid b12
  have sz0 := b12.size
  clear b2 b12 o2 hr hr'
  generalize hns : Pl.norm ps = ns at HV HNF HPN hnl HR0 HNN
  clear hns
  go_wp2_with (fail)
  go_loopw [7, 19] (fun a i wr => ∃ (k t : Nat) (bd : Pl.Bd), k ≤ ns.length ∧ i = .int .i64 k ∧ a = .int .i64 t ∧ Hid (SB w2.heap.size w1.heap.size wr bd) ∧ Hid (bd.le (300 * k)) ∧
    Hid ((Pl.invL (ns.drop k) (ts.drop t)).foldl Pl.bPart bd = (Pl.invL ns ts).foldl Pl.bPart Pl.Bd.init) ∧ Hid ((t : Int) + (Pl.keeps (ns.drop k) + Pl.drops (ns.drop k)) = ts.length) ∧ t ≤ ts.length ∧ Hid (Below w.heap.size w wr) ∧ w2.heap.size ≤ wr.heap.size ∧
    Hid (PartsIn (fun x => w1.heap.size < x ∧ x < w2.heap.size) wr A1 ns) ∧ Hid (IntsAt w.heap.size wr A' ts)) (fun _ i _ => ns.length - (intOf i).toNat)
  case atStart => exact ⟨0, 0, _, Nat.zero_le _, rfl, rfl, ST0.out, Pl.Bd.le_init, by show _ = _; simp, by show _ = _; simpa using HNF.out, Nat.zero_le _, B12.out, Nat.le_refl _, HR0.out, HR0'.out⟩
  case round =>
    obtain ⟨k, t, bd, hk, rfl, rfl, hst, hle0, hap, hrest, htl, hb, hsz, hr, hr'⟩ := hrel
    by_cases hlk : k < ns.length
    · obtain ⟨b, off, sv, rfl, hbB, e0, e1, e2, hs⟩ := hr.out k hlk
      have HS := Lib.hid (invL_step hlk (ts.drop t))
      have HR := Lib.hid (fromRest hlk)
      have HN := Lib.hid (rest_nonneg HPN.out (k + 1))
      obtain ⟨pk, p0, p1, p2, -, -, -⟩ := partOk_facts (partOk_at hlk HPN.out)
      generalize ns.getD k ⟨0, 0, []⟩ = p at e0 e1 hs HS HR p0 p1 p2 pk
      obtain ⟨m, hm⟩ := Int.eq_ofNat_of_zero_le p0
      have HM := Lib.hid hm
      rw [hm] at e1 p1
      have hs0 := Lib.hid hs
      obtain ⟨A2, c3, rfl, -, -⟩ := hs
      have hbb := hbB.2
      have hpl := hle0.out.put
      have hd0 := hle0.out.d0
      have hdm := hle0.out.dm
      clear hm p0
      rcases pk with pk | pk | pk
      · have k1 : (p.kind == 1) = true := by simp [pk]
        have PK := Lib.hid pk
        clear pk
        have hle : t + m ≤ ts.length := by
          have h1 := HR.out
          have h2 := HN.out
          have h3 := hrest.out
          have h4 := HM.out
          rw [Pl.keepsP, if_pos PK.out, Pl.dropsP, if_pos PK.out] at h1
          omega
        go_wp2_with (fail)
        refine (keep_sx w2.heap.size w1.heap.size _ _ bd m (300 * k) hst.out hsz hle0.out (by omega) (by omega) (by omega)).mono ?_
        rintro e w4 ⟨rfl, st4, f4, bx⟩
        obtain ⟨x0, x1, x2, -, -⟩ := blk3 bx
        have ST4 := Lib.hid st4
        have F4 := Lib.hid f4
        clear st4 f4 bx
        go_wp2
        go_roundw
        case rel =>
          refine ⟨k + 1, t + m, (Pl.bKeep bd m), by omega, by go_num, by go_num, ST4.out, ((Pl.bKeep_le (k := 300) hle0.out (by omega) (by omega) (by omega))).mono (by omega), ?_, ?_, by omega, hb.out.trans (F4.out.below (fun x hx => by omega) (Nat.le_trans sz0 hsz)), Nat.le_trans hsz F4.out.size, hr.out.frame F4.out (fun x hx hh => by omega), hr'.out.below (F4.out.below (fun x hx => by omega) (Nat.le_trans sz0 hsz))⟩
          · show _ = _
            have h1 := hap.out
            rw [HS.out, if_pos PK.out, List.foldl_cons] at h1
            rw [← h1]
            simp [Pl.bPart, HM.out, PK.out]
          · show _ = _
            have h1 := HR.out
            have h3 := hrest.out
            have h4 := HM.out
            rw [Pl.keepsP, if_pos PK.out, Pl.dropsP, if_pos PK.out] at h1
            omega
        case measure => simp [intOf]; omega
      · have k1 : (p.kind == 1) = false := by simp [pk]
        have k2 : (p.kind == 2) = true := by simp [pk]
        have PK := Lib.hid pk
        clear pk
        go_wp2_with (fail)
        refine (drop_sx w2.heap.size w1.heap.size _ _ bd p.signs.length hst.out hsz hd0 (by omega) (by omega) (by omega)).mono ?_
        rintro e w4 ⟨rfl, st4, f4, bx⟩
        have ST4 := Lib.hid st4
        have F4 := Lib.hid f4
        clear st4 f4 bx
        go_wp2
        go_roundw
        case rel =>
          refine ⟨k + 1, t, (Pl.bDrop bd p.signs.length), by omega, by go_num, rfl, ST4.out, ((Pl.bDrop_le (k := 300) hle0.out (by omega) (by omega))).mono (by omega), ?_, ?_, by omega, hb.out.trans (F4.out.below (fun x hx => by omega) (Nat.le_trans sz0 hsz)), Nat.le_trans hsz F4.out.size, hr.out.frame F4.out (fun x hx hh => by omega), hr'.out.below (F4.out.below (fun x hx => by omega) (Nat.le_trans sz0 hsz))⟩
          · show _ = _
            have h1 := hap.out
            rw [HS.out, if_neg (by rw [PK.out]; decide), if_pos PK.out, List.foldl_cons] at h1
            rw [← h1]
            simp [Pl.bPart]
          · show _ = _
            have h1 := HR.out
            have h3 := hrest.out
            have h4 := HM.out
            rw [Pl.keepsP, if_neg (by rw [PK.out]; decide), Pl.dropsP, if_neg (by rw [PK.out]; decide), if_pos PK.out] at h1
            omega
        case measure => simp [intOf]; omega
      · have k1 : (p.kind == 1) = false := by simp [pk]
        have k2 : (p.kind == 2) = false := by simp [pk]
        have PK := Lib.hid pk
        clear pk
        have hle : t + m ≤ ts.length := by
          have h1 := HR.out
          have h2 := HN.out
          have h3 := hrest.out
          have h4 := HM.out
          rw [Pl.keepsP, if_neg (by rw [PK.out]; decide), Pl.dropsP, if_neg (by rw [PK.out]; decide), if_neg (by rw [PK.out]; decide)] at h1
          omega
        by_cases hct : c' = t
        · have hm0 : m ≤ 0 := by omega
          subst hct
          have hcut := Lib.hid (cut_slice (m := m) hr'.out hc2 hle)
          have hcv : Hid (SliceInts w.heap.size wr (.slice A' m 0) ((ts.drop c').take m)) := by
            have := hcut.out
            rw [if_pos rfl, Nat.sub_self] at this
            exact this
          go_wp2_with (fail)
          refine (put_sx w2.heap.size w1.heap.size _ _ bd _ _ hst.out (hcv.out.mono (Nat.le_trans sz0 hsz)) hsz (by omega) (by rw [List.length_take]; omega)).mono ?_
          rintro e w4 ⟨rfl, st4, f4, bx⟩
          obtain ⟨x0, x1, x2, -, -⟩ := blk3 bx
          have ST4 := Lib.hid st4
          have F4 := Lib.hid f4
          clear st4 f4 bx
          go_wp2
          go_roundw
          case rel =>
            refine ⟨k + 1, c' + m, (Pl.bPut bd ((ts.drop c').take m)), by omega, by go_num, by go_num, ST4.out, (Pl.bPut_le (k := 300) hle0.out (Nat.le_trans (List.length_take_le _ _) (by omega))).mono (by omega), ?_, ?_, by omega, hb.out.trans (F4.out.below (fun x hx => by omega) (Nat.le_trans sz0 hsz)), Nat.le_trans hsz F4.out.size, hr.out.frame F4.out (fun x hx hh => by omega), hr'.out.below (F4.out.below (fun x hx => by omega) (Nat.le_trans sz0 hsz))⟩
            · show _ = _
              have h1 := hap.out
              rw [HS.out, if_neg (by rw [PK.out]; decide), if_neg (by rw [PK.out]; decide), List.foldl_cons] at h1
              rw [← h1]
              simp [Pl.bPart, HM.out]
            · show _ = _
              have h1 := HR.out
              have h3 := hrest.out
              have h4 := HM.out
              rw [Pl.keepsP, if_neg (by rw [PK.out]; decide), Pl.dropsP, if_neg (by rw [PK.out]; decide), if_neg (by rw [PK.out]; decide)] at h1
              omega
          case measure => simp [intOf]; omega
        · have hcut := Lib.hid (cut_slice (m := m) hr'.out hc2 hle)
          have hcv : Hid (SliceInts w.heap.size wr (.slice (A'.map (·.add t)) m (c' - t)) ((ts.drop t).take m)) := by
            have := hcut.out
            rw [if_neg hct] at this
            exact this
          go_wp2_with (fail)
          refine (put_sx w2.heap.size w1.heap.size _ _ bd _ _ hst.out (hcv.out.mono (Nat.le_trans sz0 hsz)) hsz (by omega) (by rw [List.length_take]; omega)).mono ?_
          rintro e w4 ⟨rfl, st4, f4, bx⟩
          obtain ⟨x0, x1, x2, -, -⟩ := blk3 bx
          have ST4 := Lib.hid st4
          have F4 := Lib.hid f4
          clear st4 f4 bx
          go_wp2
          go_roundw
          case rel =>
            refine ⟨k + 1, t + m, (Pl.bPut bd ((ts.drop t).take m)), by omega, by go_num, by go_num, ST4.out, (Pl.bPut_le (k := 300) hle0.out (Nat.le_trans (List.length_take_le _ _) (by omega))).mono (by omega), ?_, ?_, by omega, hb.out.trans (F4.out.below (fun x hx => by omega) (Nat.le_trans sz0 hsz)), Nat.le_trans hsz F4.out.size, hr.out.frame F4.out (fun x hx hh => by omega), hr'.out.below (F4.out.below (fun x hx => by omega) (Nat.le_trans sz0 hsz))⟩
            · show _ = _
              have h1 := hap.out
              rw [HS.out, if_neg (by rw [PK.out]; decide), if_neg (by rw [PK.out]; decide), List.foldl_cons] at h1
              rw [← h1]
              simp [Pl.bPart, HM.out]
            · show _ = _
              have h1 := HR.out
              have h3 := hrest.out
              have h4 := HM.out
              rw [Pl.keepsP, if_neg (by rw [PK.out]; decide), Pl.dropsP, if_neg (by rw [PK.out]; decide), if_neg (by rw [PK.out]; decide)] at h1
              omega
          case measure => simp [intOf]; omega
    · have hx := hap.out
      rw [List.drop_eq_nil_of_le (by omega)] at hx
      have HX : Hid (Pl.flushL bd = Pl.norm (Pl.invL ns ts)) := by
        show _ = _
        rw [Pl.norm, ← hx]
        rfl
      clear hx
      go_wp2_with (fail)
      refine (done_sx w2.heap.size w1.heap.size _ bd (300 * k) hst.out hsz hle0.out (by omega)).mono ?_
      rintro e w5 ⟨v5, svs5, rfl, o5, f5⟩
      obtain ⟨A5, c5, rfl⟩ := own_shape o5.row
      have O5 := Lib.hid (o5.lower (lo' := w.heap.size) sz0)
      have F5 := Lib.hid f5
      clear o5 f5
      go_wp2_with (fail)
      go_ret2
      exact ⟨_, svs5, by rw [HFT.out]; rfl, by rw [HV.out, ← HX.out]; exact O5.out, hb.out.trans (F5.out.below (fun x hx => by omega) (Nat.le_trans sz0 hsz))⟩
end Go.Proofs.Ytlidheodadoboaa
