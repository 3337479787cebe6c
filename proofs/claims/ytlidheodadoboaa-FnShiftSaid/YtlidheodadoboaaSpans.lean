/- Contracts of Spans: where the put characters lie in the new text. Condition: none longer than any slice can be. -/
import Derived.Test.YtlidheodadoboaaIsNorm
import Derived.Test.YtlidheodadoboaaRead
namespace Go.Proofs.Ytlidheodadoboaa
open Go.RowKit
set_option maxRecDepth 100000

namespace Pl
def spanL : List Pt → Int → List Int
  | [], _ => []
  | p :: o, j => if p.kind = 1 then spanL o (j + p.n) else if p.kind = 2 then j :: (j + p.signs.length) :: spanL o (j + p.signs.length) else spanL o j
def spans (o : List Pt) : List Int := spanL (opNorm o) 0
theorem spanL_len (o : List Pt) : ∀ j, (spanL o j).length ≤ 2 * o.length := by
  induction o with
  | nil => intro j; simp [spanL]
  | cons p o ih =>
    intro j
    rw [spanL]
    split
    · have := ih (j + p.n); simp; omega
    · split
      · have := ih (j + p.signs.length); simp; omega
      · have := ih j; simp; omega
end Pl
theorem opNorm_ok (o : List Pt) : Pl.opOk (Pl.opNorm o) = true := by
  rw [Pl.opNorm]
  split
  · exact Pl.opOk_norm (by assumption)
  · decide
theorem opNorm_len (o : List Pt) : (Pl.opNorm o).length ≤ 600 := partsOk_len (opOk_partsOk (opNorm_ok o))
theorem spans_len (o : List Pt) : (Pl.spans o).length ≤ 1200 := by
  have h1 := Pl.spanL_len (Pl.opNorm o) 0
  have h2 := opNorm_len o
  unfold Pl.spans
  omega
theorem spanL_step {o : List Pt} {k : Nat} (h : k < o.length) (j : Int) : Pl.spanL (o.drop k) j =
    (if (o.getD k ⟨0, 0, []⟩).kind = 1 then Pl.spanL (o.drop (k + 1)) (j + (o.getD k ⟨0, 0, []⟩).n)
      else if (o.getD k ⟨0, 0, []⟩).kind = 2 then j :: (j + (o.getD k ⟨0, 0, []⟩).signs.length) :: Pl.spanL (o.drop (k + 1)) (j + (o.getD k ⟨0, 0, []⟩).signs.length) else Pl.spanL (o.drop (k + 1)) j) := by
  rw [List.drop_eq_getElem_cons h, Pl.spanL]
  simp [List.getD, h]

set_option maxHeartbeats 4000000 in
set_option maxRecDepth 100000 in
theorem spans_i (v : Value) (ps : List Pt) (w : World) (h : SliceParts w.heap.size w v ps) :
    Calls Try.prog 33 #[v] w fun e w' => ∃ u, e = .returned u ∧ OwnI w.heap.size w'.heap.size w' u (Pl.spans ps) ∧ Below w.heap.size w w' := by
  have h0 := Lib.hid h
  obtain ⟨A, c, rfl, -, -⟩ := h
  obtain ⟨j0, hj, hy0, hy1, hy2⟩ := info_parts intInfoB
  go_enter Try.func33, Try.ntmps33
  go_wp2_with (fail)
  refine (opNorm_i _ ps _ h0.out).mono ?_
  rintro e w1 ⟨v1, svs, rfl, o1, b1⟩
  have hns := opNorm_len ps
  have hfine := Lib.hid (fine_of (opOk_partsOk (opNorm_ok ps)))
  have HSP : Hid (Pl.spans ps = Pl.spanL (Pl.opNorm ps) 0) := rfl
  have rd := o1.rd (F := fun b => w.heap.size ≤ b ∧ b < w1.heap.size) (fun b hb1 hb2 => ⟨hb1, hb2⟩)
  have HB1 := Lib.hid b1
  have hsz1 : w.heap.size ≤ w1.heap.size := b1.size
  clear b1
  obtain ⟨A1, c1, rfl, -, hr⟩ := rd
  have HR := Lib.hid hr
  clear o1 hr
  generalize Pl.opNorm ps = ns at HR hns hfine HSP
  go_wp2_with (fail)
  go_loopw [3, 4, 10] (fun u a i wr => ∃ (k : Nat) (j : Int) (acc : List Int), k ≤ ns.length ∧ i = .int .i64 k ∧ a = .int .i64 j ∧ 0 ≤ j ∧ j ≤ 200 * k ∧ wr.ownsRow w.heap.size 3 1 u acc.length (acc.map (Value.int .i64)) ∧ acc.length ≤ 2 * k ∧
    Hid (acc ++ Pl.spanL (ns.drop k) j = Pl.spanL ns 0) ∧ Hid (∀ g, u.ownBlock = some g → w1.heap.size ≤ g) ∧ Hid (Below w.heap.size w wr) ∧ w1.heap.size ≤ wr.heap.size ∧ Hid (PartsIn (fun b => w.heap.size ≤ b ∧ b < w1.heap.size) wr A1 ns)) (fun _ _ i _ => ns.length - (intOf i).toNat)
  case atStart => exact ⟨0, 0, [], Nat.zero_le _, rfl, rfl, Int.le_refl _, by simp, World.ownsRow_nil _ _ _ _, by simp, by show _ = _; simp, (fun g hg => by simp [Value.ownBlock] at hg), HB1.out, Nat.le_refl _, HR.out⟩
  case round =>
    clear HR
    obtain ⟨k, j, acc, hk, rfl, rfl, hj0, hjk, hown, hal, hap, hob, hb, hsz, hr⟩ := hrel
    by_cases hlk : k < ns.length
    · obtain ⟨b, off, sv, rfl, hbB, c0, c1, c2, hs⟩ := hr.out k hlk
      have HS := Lib.hid (spanL_step hlk j)
      obtain ⟨pk, p0, p1, p2⟩ := hfine.out (ns.getD k ⟨0, 0, []⟩) (by simp [List.getD, hlk])
      generalize ns.getD k ⟨0, 0, []⟩ = p at c0 c1 hs HS p0 p1 p2 pk
      obtain ⟨A2, c3, rfl, -, -⟩ := hs
      have Hown := Lib.hid hown
      have lb := hbB.2
      clear hown
      rcases pk with pk | pk | pk
      · have k1 : (p.kind == 1) = true := by simp [pk]
        have PKx := Lib.hid pk
        clear pk
        go_wp2
        go_roundw
        case rel =>
          refine ⟨k + 1, j + p.n, acc, by omega, by go_num, rfl, by omega, by omega, Hown.out.alloc _, by omega, ?_, hob, hb.out.alloc (by omega) _, by simp; omega, hr.out.frame (Frame.alloc (fun _ => False) _ _) (fun _ _ hh => hh)⟩
          show _ = _
          have := hap.out
          rw [HS.out, if_pos PKx.out] at this
          exact this
        case measure => simp [intOf]; omega
      · have k1 : (p.kind == 1) = false := by simp [pk]
        have k2 : (p.kind == 2) = true := by simp [pk]
        have PKx := Lib.hid pk
        clear pk
        go_wp2_with (at_builtin; refine wpList_append_lies _ rfl (.tmp 24) (.tmp 31) 31 rfl w.heap.size 3 j0 _ 1 8 Try.underlying31 hj hy0 hy1 hy2 rfl (by decide) _ acc.length _ (by rfl) ((Hown.out.alloc _).alloc _) ⟨wr.heap.size + 1, 0, none⟩ 2 2 [.int .i64 j, .int .i64 (j + p.signs.length)] (by rfl) rfl (World.news_of_block (cs := #[.int .i64 j, .int .i64 (j + p.signs.length)]) (heap_new_at _ _ (by simp))) (by simp [Value.oneCell']) (by omega) (by unfold maxLen; omega) (by omega) (by simp; omega) (wr.heap.size + 1 + 1) (by simp) ?_)
        intro g cap w3 hown3 hg hat hlt
        have hf : Frame (fun x => u3.ownBlock = some x) wr w3 := ((Frame.alloc _ wr _).trans (Frame.alloc _ _ _) (fun _ _ hh => hh)).trans (Frame.grown hg fun _ e => e) (fun _ _ hh => hh)
        have hbel : Below w.heap.size wr w3 := hf.below (fun x hx => (Hown.out.lt x hx).1) (by omega)
        have bx : w3.heap[wr.heap.size]? = some (.cells #[.int .i64 p.kind, .int .i64 p.n, .slice A2 p.signs.length c3] 65 (0, 0)) := by
          have e1 := hg.block wr.heap.size (by simp; omega) (fun e => by have := (Hown.out.lt _ e.symm).2; omega)
          rw [e1, Below.heap_alloc _ _ _ (by simp)]
          exact heap_new_at _ _ rfl
        obtain ⟨x0, x1, x2, -, -⟩ := blk3 bx
        have hpi := hr.out.frame hf (fun x hx hh => by
          have := hob.out x hh
          omega)
        have HF := Lib.hid hbel
        have HPI := Lib.hid hpi
        have HO3 := Lib.hid hown3
        have sz3 := hf.size
        have hat' : Hid (∀ x, (Value.slice (some ⟨g, 0, none⟩) (acc.length + 2) cap).ownBlock = some x → w1.heap.size ≤ x) := fun x hx => by
          have : g = x := by simpa [Value.ownBlock] using hx
          subst this
          rcases hat with e | e
          · exact hob.out g e
          · omega
        clear hf hbel hpi hown3 hg hat hlt bx
        go_wp2
        go_roundw
        case rel =>
          refine ⟨k + 1, j + p.signs.length, acc ++ [j, j + p.signs.length], by omega, by go_num, rfl, by omega, by omega, ?_, by simp; omega, ?_, ?_, hb.out.trans HF.out, by omega, HPI.out⟩
          · simpa using HO3.out
          · show _ = _
            have := hap.out
            rw [HS.out, if_neg (by rw [PKx.out]; decide), if_pos PKx.out] at this
            rw [← this]
            simp
          · exact hat'.out
        case measure => simp [intOf]; omega
      · have k1 : (p.kind == 1) = false := by simp [pk]
        have k2 : (p.kind == 2) = false := by simp [pk]
        have PKx := Lib.hid pk
        clear pk
        go_wp2
        go_roundw
        case rel =>
          refine ⟨k + 1, j, acc, by omega, by go_num, rfl, by omega, by omega, Hown.out.alloc _, by omega, ?_, hob, hb.out.alloc (by omega) _, by simp; omega, hr.out.frame (Frame.alloc (fun _ => False) _ _) (fun _ _ hh => hh)⟩
          show _ = _
          have := hap.out
          rw [HS.out, if_neg (by rw [PKx.out]; decide), if_neg (by rw [PKx.out]; decide)] at this
          exact this
        case measure => simp [intOf]; omega
    · have hx := hap.out
      rw [List.drop_eq_nil_of_le (by omega)] at hx
      have HX : Hid (acc = Pl.spans ps) := by show _ = _; rw [HSP.out]; simpa [Pl.spanL] using hx
      obtain ⟨A9, c9, rfl⟩ := own_shape hown
      have Hown := Lib.hid hown
      clear hx hown
      go_wp2_with (fail)
      go_ret
      exact ⟨_, rfl, by rw [← HX.out]; exact OwnI.of Hown.out, hb.out⟩
set_option maxHeartbeats 4000000 in
set_option maxRecDepth 100000 in
theorem spans_s (v : Value) (ps : List Pt) (w : World) (h : SliceParts w.heap.size w v ps) :
    Calls Try.prog 32 #[v] w fun e w' => ∃ u, e = .returned u ∧ OwnI w.heap.size w'.heap.size w' u (Pl.spans ps) ∧ Below w.heap.size w w' := by
  have h0 := Lib.hid h
  obtain ⟨A, c, rfl, -, -⟩ := h
  obtain ⟨j0, hj, hy0, hy1, hy2⟩ := info_parts intInfoB
  have hb0 : Below w.heap.size w (w.alloc (.cells #[] 3)) := (Below.refl _ _).alloc (Nat.le_refl _) _
  have HB0 := Lib.hid hb0
  have hmade := Lib.hid (World.ownsRow_made (base := w.heap.size) (e := 3) (size := 1) w #[] 0 (Nat.le_refl _) (Nat.zero_le _) rfl)
  clear hb0
  go_enter Try.func32, Try.ntmps32
  go_wp2_with (fail)
  refine (opNorm_s _ ps _ ((h0.out.below HB0.out).mono HB0.out.size)).mono ?_
  rintro e w1 ⟨v1, svs, rfl, o1, b1⟩
  have hns := opNorm_len ps
  have hfine := Lib.hid (fine_of (opOk_partsOk (opNorm_ok ps)))
  have HSP : Hid (Pl.spans ps = Pl.spanL (Pl.opNorm ps) 0) := rfl
  have rd := o1.rd (F := fun b => w.heap.size + 1 ≤ b ∧ b < w1.heap.size) (fun b hb1 hb2 => ⟨by simpa using hb1, hb2⟩)
  have HB1 := Lib.hid (HB0.out.trans (b1.mono (by simp)))
  have hsz1 : w.heap.size + 1 ≤ w1.heap.size := by have := b1.size; simpa using this
  have HM := Lib.hid (World.ownsRow.below hmade.out b1)
  clear b1
  obtain ⟨A1, c1, rfl, -, hr⟩ := rd
  have HR := Lib.hid hr
  clear o1 hr
  generalize Pl.opNorm ps = ns at HR hns hfine HSP
  go_wp2_with (fail)
  go_loopw [3, 4, 11] (fun u a i wr => ∃ (k : Nat) (j : Int) (acc : List Int), k ≤ ns.length ∧ i = .int .i64 k ∧ a = .int .i64 j ∧ 0 ≤ j ∧ j ≤ 200 * k ∧ wr.ownsRow w.heap.size 3 1 u acc.length (acc.map (Value.int .i64)) ∧ acc.length ≤ 2 * k ∧
    Hid (acc ++ Pl.spanL (ns.drop k) j = Pl.spanL ns 0) ∧ Hid (∀ g, u.ownBlock = some g → g ≤ w.heap.size ∨ w1.heap.size ≤ g) ∧ Hid (Below w.heap.size w wr) ∧ w1.heap.size ≤ wr.heap.size ∧ Hid (PartsIn (fun b => w.heap.size + 1 ≤ b ∧ b < w1.heap.size) wr A1 ns)) (fun _ _ i _ => ns.length - (intOf i).toNat)
  case atStart => exact ⟨0, 0, [], Nat.zero_le _, rfl, rfl, Int.le_refl _, by simp, HM.out, by simp, by show _ = _; simp, (fun g hg => .inl (by simp [Value.ownBlock] at hg; omega)), HB1.out, Nat.le_refl _, HR.out⟩
  case round =>
    clear HR
    obtain ⟨k, j, acc, hk, rfl, rfl, hj0, hjk, hown, hal, hap, hob, hb, hsz, hr⟩ := hrel
    by_cases hlk : k < ns.length
    · obtain ⟨b, off, sv, rfl, hbB, c0, c1, c2, hs⟩ := hr.out k hlk
      have HS := Lib.hid (spanL_step hlk j)
      obtain ⟨pk, p0, p1, p2⟩ := hfine.out (ns.getD k ⟨0, 0, []⟩) (by simp [List.getD, hlk])
      generalize ns.getD k ⟨0, 0, []⟩ = p at c0 c1 hs HS p0 p1 p2 pk
      obtain ⟨A2, c3, rfl, -, -⟩ := hs
      have Hown := Lib.hid hown
      have lb := hbB.2
      clear hown
      rcases pk with pk | pk | pk
      · have k1 : (p.kind == 1) = true := by simp [pk]
        have PKx := Lib.hid pk
        clear pk
        go_wp2
        go_roundw
        case rel =>
          refine ⟨k + 1, j + p.n, acc, by omega, by go_num, rfl, by omega, by omega, Hown.out.alloc _, by omega, ?_, hob, hb.out.alloc (by omega) _, by simp; omega, hr.out.frame (Frame.alloc (fun _ => False) _ _) (fun _ _ hh => hh)⟩
          show _ = _
          have := hap.out
          rw [HS.out, if_pos PKx.out] at this
          exact this
        case measure => simp [intOf]; omega
      · have k1 : (p.kind == 1) = false := by simp [pk]
        have k2 : (p.kind == 2) = true := by simp [pk]
        have PKx := Lib.hid pk
        clear pk
        go_wp2_with (at_builtin; refine wpList_append_lies _ rfl (.tmp 25) (.tmp 32) 31 rfl w.heap.size 3 j0 _ 1 8 Try.underlying31 hj hy0 hy1 hy2 rfl (by decide) _ acc.length _ (by rfl) ((Hown.out.alloc _).alloc _) ⟨wr.heap.size + 1, 0, none⟩ 2 2 [.int .i64 j, .int .i64 (j + p.signs.length)] (by rfl) rfl (World.news_of_block (cs := #[.int .i64 j, .int .i64 (j + p.signs.length)]) (heap_new_at _ _ (by simp))) (by simp [Value.oneCell']) (by omega) (by unfold maxLen; omega) (by omega) (by simp; omega) (wr.heap.size + 1 + 1) (by simp) ?_)
        intro g cap w3 hown3 hg hat hlt
        have hf : Frame (fun x => u3.ownBlock = some x) wr w3 := ((Frame.alloc _ wr _).trans (Frame.alloc _ _ _) (fun _ _ hh => hh)).trans (Frame.grown hg fun _ e => e) (fun _ _ hh => hh)
        have hbel : Below w.heap.size wr w3 := hf.below (fun x hx => (Hown.out.lt x hx).1) (by omega)
        have bx : w3.heap[wr.heap.size]? = some (.cells #[.int .i64 p.kind, .int .i64 p.n, .slice A2 p.signs.length c3] 65 (0, 0)) := by
          have e1 := hg.block wr.heap.size (by simp; omega) (fun e => by have := (Hown.out.lt _ e.symm).2; omega)
          rw [e1, Below.heap_alloc _ _ _ (by simp)]
          exact heap_new_at _ _ rfl
        obtain ⟨x0, x1, x2, -, -⟩ := blk3 bx
        have hpi := hr.out.frame hf (fun x hx hh => by
          have := hob.out x hh
          omega)
        have HF := Lib.hid hbel
        have HPI := Lib.hid hpi
        have HO3 := Lib.hid hown3
        have sz3 := hf.size
        have hat' : Hid (∀ x, (Value.slice (some ⟨g, 0, none⟩) (acc.length + 2) cap).ownBlock = some x → x ≤ w.heap.size ∨ w1.heap.size ≤ x) := fun x hx => by
          have : g = x := by simpa [Value.ownBlock] using hx
          subst this
          rcases hat with e | e
          · exact hob.out g e
          · exact .inr (by omega)
        clear hf hbel hpi hown3 hg hat hlt bx
        go_wp2
        go_roundw
        case rel =>
          refine ⟨k + 1, j + p.signs.length, acc ++ [j, j + p.signs.length], by omega, by go_num, rfl, by omega, by omega, ?_, by simp; omega, ?_, ?_, hb.out.trans HF.out, by omega, HPI.out⟩
          · simpa using HO3.out
          · show _ = _
            have := hap.out
            rw [HS.out, if_neg (by rw [PKx.out]; decide), if_pos PKx.out] at this
            rw [← this]
            simp
          · exact hat'.out
        case measure => simp [intOf]; omega
      · have k1 : (p.kind == 1) = false := by simp [pk]
        have k2 : (p.kind == 2) = false := by simp [pk]
        have PKx := Lib.hid pk
        clear pk
        go_wp2
        go_roundw
        case rel =>
          refine ⟨k + 1, j, acc, by omega, by go_num, rfl, by omega, by omega, Hown.out.alloc _, by omega, ?_, hob, hb.out.alloc (by omega) _, by simp; omega, hr.out.frame (Frame.alloc (fun _ => False) _ _) (fun _ _ hh => hh)⟩
          show _ = _
          have := hap.out
          rw [HS.out, if_neg (by rw [PKx.out]; decide), if_neg (by rw [PKx.out]; decide)] at this
          exact this
        case measure => simp [intOf]; omega
    · have hx := hap.out
      rw [List.drop_eq_nil_of_le (by omega)] at hx
      have HX : Hid (acc = Pl.spans ps) := by show _ = _; rw [HSP.out]; simpa [Pl.spanL] using hx
      obtain ⟨A9, c9, rfl⟩ := own_shape hown
      have Hown := Lib.hid hown
      clear hx hown
      go_wp2_with (fail)
      go_ret
      exact ⟨_, rfl, by rw [← HX.out]; exact OwnI.of Hown.out, hb.out⟩
end Go.Proofs.Ytlidheodadoboaa
