/- Contracts of OpNorm, IsNorm, normalOr: what they compute is the plain normal form. Condition: none longer than any slice can be. -/
import Derived.Test.YtookcfpiegbafaaGreatDoorNormT
import Derived.Test.YtookcfpiegbafaaGreatDoorGA
import Derived.Test.YtookcfpiegbafaaGreatDoorSame
namespace Go.Proofs.YtookcfpiegbafaaGreatDoor
open Go.RowKit
set_option maxRecDepth 100000

/-- A builder at g, all its blocks from lo on. -/
def SB (lo g : Nat) (w : World) (b : Pl.Bd) : Prop := ∃ F vo vp svs, SSt F w g vo vp vp b svs ∧ ∀ k, F k → lo ≤ k
theorem SB.later {lo g : Nat} {w w' : World} {b : Pl.Bd} (h : SB lo g w b) (hb : Below w.heap.size w w') : SB lo g w' b := by
  obtain ⟨F, vo, vp, svs, h, hF⟩ := h
  have lg := (blk3 h.blk).2.2.2.2
  refine ⟨F, vo, vp, svs, h.frame (S := fun k => w.heap.size ≤ k) (Frame.ofBelow hb) (fun k hk hh => ?_) (by omega), hF⟩
  have := h.bld.top k hk
  omega
theorem SB.lt {lo g : Nat} {w : World} {b : Pl.Bd} (h : SB lo g w b) : g < w.heap.size := by
  obtain ⟨F, vo, vp, svs, h, hF⟩ := h
  exact (blk3 h.blk).2.2.2.2
theorem SB.alloc {lo g : Nat} {w : World} {b : Pl.Bd} (h : SB lo g w b) (o : Obj) : SB lo g (w.alloc o) b := h.later ((Below.refl _ _).alloc (Nat.le_refl _) o)
theorem SB.new {w : World} {lo : Nat} : SB lo w.heap.size (w.alloc (.cells #[.slice none 0 0, .slice none 0 0, .int .i64 0] 87)) Pl.Bd.init :=
  ⟨fun _ => False, _, _, _, ⟨heap_new_at _ _ rfl, BldAt.init _, fun h => h⟩, fun _ h => h.elim⟩
theorem SB.built {lo g : Nat} {w w' : World} {b' : Pl.Bd} {F : Nat → Prop} {e : Ending} (hF : ∀ k, F k → lo ≤ k) (hg : lo ≤ g) (hl : lo ≤ w.heap.size) (h : Built F w g b' e w') :
    e = .returned (.tuple #[]) ∧ SB lo g w' b' ∧ Below lo w w' := by
  obtain ⟨rfl, vo', vp', svs', st, f⟩ := h
  refine ⟨rfl, ⟨_, _, _, _, st, plus_lo hF hl⟩, f.below (fun k hk => ?_) hl⟩
  rcases hk with hk | hk
  · exact hF k hk
  · omega

theorem keep_sb (lo g : Nat) (w : World) (b : Pl.Bd) (n : Int) (m : Nat) (h : SB lo g w b) (hg : lo ≤ g) (hl : lo ≤ w.heap.size) (hle : b.le m) (hm : m ≤ 100000000) (hn : 0 ≤ n) (hn1 : n ≤ 1000000000) :
    Calls Tryz.prog 79 #[.pointer (some ⟨g, 0, none⟩), .int .i64 n] w fun e w' => e = .returned (.tuple #[]) ∧ SB lo g w' (Pl.bKeep b n) ∧ Below lo w w' := by
  obtain ⟨F, vo, vp, svs, h, hF⟩ := h
  exact (keep_s F w g vo vp b svs n m h hle hm hn hn1).mono fun e w' hb => SB.built hF hg hl hb
theorem put_sb (lo g : Nat) (w : World) (b : Pl.Bd) (v : Value) (xs : List Int) (h : SB lo g w b) (hv : SliceInts w.heap.size w v xs) (hg : lo ≤ g) (hl : lo ≤ w.heap.size) (hle : b.put.length ≤ 1000000000) (hx : xs.length ≤ 1000000000) :
    Calls Tryz.prog 80 #[.pointer (some ⟨g, 0, none⟩), v] w fun e w' => e = .returned (.tuple #[]) ∧ SB lo g w' (Pl.bPut b xs) ∧ Below lo w w' := by
  obtain ⟨F, vo, vp, svs, h, hF⟩ := h
  exact (put_s F w g vo vp b svs v xs h hv hle hx).mono fun e w' hb => SB.built hF hg hl hb
theorem drop_sb (lo g : Nat) (w : World) (b : Pl.Bd) (n : Int) (h : SB lo g w b) (hg : lo ≤ g) (hl : lo ≤ w.heap.size) (h0 : 0 ≤ b.drop) (h1 : b.drop ≤ 1000000000) (hn : 0 ≤ n) (hn1 : n ≤ 1000000000) :
    Calls Tryz.prog 81 #[.pointer (some ⟨g, 0, none⟩), .int .i64 n] w fun e w' => e = .returned (.tuple #[]) ∧ SB lo g w' (Pl.bDrop b n) ∧ Below lo w w' := by
  obtain ⟨F, vo, vp, svs, h, hF⟩ := h
  exact (drop_s F w g vo vp b svs n h h0 h1 hn hn1).mono fun e w' hb => SB.built hF hg hl hb
theorem done_sb (lo g : Nat) (w : World) (b : Pl.Bd) (m : Nat) (h : SB lo g w b) (hg : lo ≤ g) (hl : lo ≤ w.heap.size) (hle : b.le m) (hm : m ≤ 100000000) :
    Calls Tryz.prog 82 #[.pointer (some ⟨g, 0, none⟩)] w fun e w' => ∃ v svs, e = .returned v ∧ OwnP lo w'.heap.size w' v (Pl.flushL b) svs ∧ Below lo w w' := by
  obtain ⟨F, vo, vp, svs, h, hF⟩ := h
  refine (done_s F w g vo vp b svs m h hle hm).mono fun e w' hb => ?_
  obtain ⟨vo', svs', rfl, hB, f⟩ := hb
  refine ⟨vo', svs', rfl, hB.own (plus_lo hF hl) (Nat.le_refl _), f.below (fun k hk => ?_) hl⟩
  rcases hk with hk | hk
  · exact hF k hk
  · omega

theorem fine_of {ps : List Pt} (h : Pl.partsOk ps = true) : ∀ p ∈ ps, Pl.Fine p := fun p hp => by
  obtain ⟨a, b, c, d, _⟩ := partOk_facts (partOk_mem h p hp)
  exact ⟨a, b, c, d⟩
theorem opNorm_yes {ps : List Pt} (h : Pl.opOk ps = true) : Pl.opNorm ps = Pl.norm ps := by rw [Pl.opNorm, if_pos h]
theorem opNorm_no {ps : List Pt} (h : Pl.opOk ps = false) : Pl.opNorm ps = [] := by rw [Pl.opNorm, if_neg (by rw [h]; decide)]

set_option maxHeartbeats 1000000 in
theorem opNorm_i (v : Value) (ps : List Pt) (w : World) (h : SliceParts w.heap.size w v ps) :
    Calls Tryz.prog 11 #[v] w fun e w' => ∃ v' svs, e = .returned v' ∧ OwnP w.heap.size w'.heap.size w' v' (Pl.opNorm ps) svs ∧ Below w.heap.size w w' := by
  have h0 := Lib.hid h
  obtain ⟨A, c, rfl, -, -⟩ := h
  by_cases ho : Pl.opOk ps = true
  · have HN := Lib.hid (opNorm_yes ho)
    have HO := Lib.hid ho
    go_enter Tryz.func11, Tryz.ntmps11
    go_wp2_with (fail)
    refine (opOk_i _ ps _ h0.out).mono ?_
    rintro e w1 ⟨rfl, b1⟩
    go_wp2_with (fail)
    refine (normal_i _ ps _ (h0.out.later b1) (fine_of (opOk_partsOk HO.out)) (Nat.le_trans (partsOk_len (opOk_partsOk HO.out)) (by omega))).mono ?_
    rintro e w2 ⟨v2, svs, rfl, o2, b2⟩
    obtain ⟨A2, c2, rfl⟩ := own_shape o2.row
    have O2 := Lib.hid o2
    have B2 := Lib.hid b2
    clear o2 b2
    have sz := b1.size
    go_wp2_with (fail)
    go_ret
    exact ⟨_, svs, rfl, by rw [HN.out]; exact ⟨World.ownsRow.base O2.out.row fun g hg => Nat.le_trans sz (O2.out.row.lt g hg).1, O2.out.top, O2.out.len, fun k hk => ⟨World.ownsRow.base (O2.out.each k hk).1 fun g hg => Nat.le_trans sz ((O2.out.each k hk).1.lt g hg).1, (O2.out.each k hk).2⟩, O2.out.apart⟩, b1.trans (B2.out.mono sz)⟩
  · have ho' : Pl.opOk ps = false := by simpa using ho
    have HN := Lib.hid (opNorm_no ho')
    clear ho
    go_enter Tryz.func11, Tryz.ntmps11
    go_wp2_with (fail)
    refine (opOk_i _ ps _ h0.out).mono ?_
    rintro e w1 ⟨rfl, b1⟩
    go_wp2_with (fail)
    go_ret
    exact ⟨_, _, rfl, by rw [HN.out]; exact OwnP.nil _ _ _, b1⟩
set_option maxHeartbeats 4000000 in
set_option maxRecDepth 100000 in
theorem opNorm_s (v : Value) (ps : List Pt) (w : World) (h : SliceParts w.heap.size w v ps) :
    Calls Tryz.prog 59 #[v] w fun e w' => ∃ v' svs, e = .returned v' ∧ OwnP w.heap.size w'.heap.size w' v' (Pl.opNorm ps) svs ∧ Below w.heap.size w w' := by
  have h0 := Lib.hid h
  obtain ⟨A, c, rfl, -, -⟩ := h
  by_cases ho : Pl.opOk ps = true
  · have HN := Lib.hid (opNorm_yes ho)
    have hpo := opOk_partsOk ho
    have hlen := partsOk_len hpo
    have HPO := Lib.hid hpo
    have HLE := Lib.hid (bAt_le (fine_of hpo))
    have HO := Lib.hid ho
    clear ho hpo
    go_enter Tryz.func59, Tryz.ntmps59
    go_wp2_with (fail)
    refine (opOk_s _ ps _ h0.out).mono ?_
    rintro e w1 ⟨rfl, b1⟩
    have ho := HO.out
    have sz1 := b1.size
    have st0 : SB w.heap.size w1.heap.size (w1.alloc (.cells #[.slice none 0 0, .slice none 0 0, .int .i64 0] 87)) (Pl.bAt ps 0) := SB.new
    have hb0 := (b1.alloc sz1 (.cells #[.slice none 0 0, .slice none 0 0, .int .i64 0] 87))
    obtain ⟨A1, c1, he, -, hr⟩ := h0.out.below hb0
    injection he with hA hL hc
    subst hA hc
    clear hL
    have HB0 := Lib.hid hb0
    have HR := Lib.hid hr
    have ST0 := Lib.hid st0
    have hsz0 := hb0.size
    clear hr st0 hb0 b1
    go_wp2_with (fail)
    clear ho
    go_loopw [13] (fun i wr => ∃ k : Nat, k ≤ ps.length ∧ i = .int .i64 k ∧ Hid (SB w.heap.size w1.heap.size wr (Pl.bAt ps k)) ∧ Hid (Below w.heap.size w wr) ∧ w.heap.size ≤ wr.heap.size ∧ Hid (PartsAt w.heap.size wr A ps)) (fun i _ => ps.length - (intOf i).toNat)
    case atStart => exact ⟨0, Nat.zero_le _, rfl, ST0.out, HB0.out, hsz0, HR.out⟩
    case round =>
      clear HR HB0 ST0 hsz0
      obtain ⟨k, hk, rfl, hst, hb, hsz, hr⟩ := hrel
      by_cases hlk : k < ps.length
      · obtain ⟨b, off, sv, rfl, hbB, c0, c1, c2, hs⟩ := hr.out k hlk
        have HS := Lib.hid (bAt_succ hlk)
        have hle := HLE.out k hk
        obtain ⟨pk, p0, p1, p2⟩ := fine_of HPO.out (ps.getD k ⟨0, 0, []⟩) (by simp [List.getD, hlk])
        generalize ps.getD k ⟨0, 0, []⟩ = p at c0 c1 hs HS p0 p1 p2 pk
        have hs0 := Lib.hid hs
        obtain ⟨A2, c3, rfl, -, -⟩ := hs
        have hbx : Below wr.heap.size wr (wr.alloc (.cells #[.int .i64 p.kind, .int .i64 p.n, .slice A2 p.signs.length c3] 47)) := (Below.refl _ wr).alloc (Nat.le_refl _) _
        have st1 := Lib.hid (hst.out.later hbx)
        have HBX := Lib.hid hbx
        clear hbx
        have hpl := hle.put
        have hd0 := hle.d0
        have hdm := hle.dm
        have HLk := Lib.hid hle
        clear hle
        rcases pk with pk | pk | pk
        · have k1 : (p.kind == 1) = true := by simp [pk]
          have HK : Hid (Pl.bPart (Pl.bAt ps k) p = Pl.bKeep (Pl.bAt ps k) p.n) := by show _ = _; rw [Pl.bPart, if_pos pk]
          clear pk
          go_wp2_with (fail)
          refine (keep_sb w.heap.size w1.heap.size _ (Pl.bAt ps k) p.n (300 * k) st1.out sz1 (by simp; omega) HLk.out (by omega) p0 (by omega)).mono ?_
          rintro e w2 ⟨rfl, st2, b2⟩
          have ST2 := Lib.hid st2
          have B2 := Lib.hid ((HBX.out.mono hsz).trans b2)
          clear st2 b2
          go_wp2_with (fail)
          go_roundw
          case rel => exact ⟨k + 1, by omega, by go_num, by show SB _ _ _ _; rw [HS.out, HK.out]; exact ST2.out, hb.out.trans B2.out, Nat.le_trans hsz B2.out.size, hr.out.below B2.out⟩
          case measure => simp [intOf]; omega
        · have k1 : (p.kind == 1) = false := by simp [pk]
          have k2 : (p.kind == 2) = true := by simp [pk]
          have HK := Lib.hid (bPart_put (b := Pl.bAt ps k) pk)
          clear pk
          go_wp2_with (fail)
          refine (put_sb w.heap.size w1.heap.size _ (Pl.bAt ps k) _ p.signs st1.out ((hs0.out.mono hsz).later HBX.out) sz1 (by simp; omega) (by omega) (by omega)).mono ?_
          rintro e w2 ⟨rfl, st2, b2⟩
          have ST2 := Lib.hid st2
          have B2 := Lib.hid ((HBX.out.mono hsz).trans b2)
          clear st2 b2
          go_wp2_with (fail)
          go_roundw
          case rel => exact ⟨k + 1, by omega, by go_num, by show SB _ _ _ _; rw [HS.out, HK.out]; exact ST2.out, hb.out.trans B2.out, Nat.le_trans hsz B2.out.size, hr.out.below B2.out⟩
          case measure => simp [intOf]; omega
        · have k1 : (p.kind == 1) = false := by simp [pk]
          have k2 : (p.kind == 2) = false := by simp [pk]
          have HK := Lib.hid (bPart_drop (b := Pl.bAt ps k) pk)
          clear pk
          go_wp2_with (fail)
          refine (drop_sb w.heap.size w1.heap.size _ (Pl.bAt ps k) p.n st1.out sz1 (by simp; omega) hd0 (by omega) p0 (by omega)).mono ?_
          rintro e w2 ⟨rfl, st2, b2⟩
          have ST2 := Lib.hid st2
          have B2 := Lib.hid ((HBX.out.mono hsz).trans b2)
          clear st2 b2
          go_wp2_with (fail)
          go_roundw
          case rel => exact ⟨k + 1, by omega, by go_num, by show SB _ _ _ _; rw [HS.out, HK.out]; exact ST2.out, hb.out.trans B2.out, Nat.le_trans hsz B2.out.size, hr.out.below B2.out⟩
          case measure => simp [intOf]; omega
      · have hkk : k = ps.length := by omega
        subst hkk
        have hle := Lib.hid (HLE.out ps.length (Nat.le_refl _))
        have HN2 : Hid (Pl.flushL (Pl.bAt ps ps.length) = Pl.norm ps) := by show _ = _; rw [Pl.bAt, List.take_length, Pl.norm]
        go_wp2_with (fail)
        refine (done_sb w.heap.size w1.heap.size _ (Pl.bAt ps ps.length) (300 * ps.length) hst.out sz1 hsz hle.out (by omega)).mono ?_
        rintro e w2 ⟨v2, svs, rfl, o2, b2⟩
        obtain ⟨A2, c2, rfl⟩ := own_shape o2.row
        have O2 := Lib.hid o2
        have B2 := Lib.hid b2
        clear o2 b2
        go_wp2_with (fail)
        go_ret
        exact ⟨_, svs, rfl, by rw [HN.out, ← HN2.out]; exact O2.out, hb.out.trans B2.out⟩
  · have ho' : Pl.opOk ps = false := by simpa using ho
    have HN := Lib.hid (opNorm_no ho')
    clear ho
    go_enter Tryz.func59, Tryz.ntmps59
    go_wp2_with (fail)
    refine (opOk_s _ ps _ h0.out).mono ?_
    rintro e w1 ⟨rfl, b1⟩
    go_wp2_with (fail)
    go_ret
    exact ⟨_, _, rfl, by rw [HN.out]; exact OwnP.nil _ _ _, b1⟩
end Go.Proofs.YtookcfpiegbafaaGreatDoor
