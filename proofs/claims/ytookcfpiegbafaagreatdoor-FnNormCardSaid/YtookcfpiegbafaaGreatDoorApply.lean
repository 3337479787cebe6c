/- Contracts of Apply. Condition: none longer than any slice can be. -/
import Derived.Test.YtookcfpiegbafaaGreatDoorOps2
import Derived.Test.YtookcfpiegbafaaGreatDoorGB
namespace Go.Proofs.YtookcfpiegbafaaGreatDoor
open Go.RowKit
set_option maxRecDepth 100000

def Pl.applyL : List Pt → List Int → List Int
  | [], _ => []
  | p :: o, t => if p.kind = 1 then t.take p.n.toNat ++ Pl.applyL o (t.drop p.n.toNat) else if p.kind = 2 then p.signs ++ Pl.applyL o t else Pl.applyL o (t.drop p.n.toNat)
def Pl.fits (o : List Pt) (t : List Int) : Bool := Pl.opOk o && (Pl.textOk t && decide (Pl.opFrom o = t.length))
def Pl.apply (o : List Pt) (t : List Int) : List Int := if Pl.fits o t = true then Pl.applyL o t else []

/-- The cells of a cut of a slice of ints, as a source. -/
theorem IntsAt.cut {B : Nat} {w : World} {A : Option Addr} {xs : List Int} (h : IntsAt B w A xs) {lo m c : Nat} (hc : xs.length ≤ c) (hm : lo + m ≤ xs.length) :
    ∀ j u, (((xs.drop lo).take m).map (Value.int .i64))[j]? = some u → ∃ ad, (if c = lo then A else A.map (·.add lo)) = some ad ∧ w.cell? (ad.add j) = some u := by
  intro j u hu
  have hj : j < m ∧ lo + j < xs.length := by
    have := (List.getElem?_eq_some_iff.1 hu).1
    simp at this
    omega
  obtain ⟨b, off, rfl, _, hcell⟩ := h (lo + j) hj.2
  rw [if_neg (by omega)]
  refine ⟨⟨b, off + lo, none⟩, by simp [Addr.add_lit], ?_⟩
  rw [Addr.add_lit, Nat.add_assoc, hcell, ← hu]
  simp [List.getD, hj]
theorem applyL_step {o : List Pt} {k : Nat} (h : k < o.length) (t : List Int) : Pl.applyL (o.drop k) t =
    (if (o.getD k ⟨0, 0, []⟩).kind = 1 then t.take (o.getD k ⟨0, 0, []⟩).n.toNat ++ Pl.applyL (o.drop (k + 1)) (t.drop (o.getD k ⟨0, 0, []⟩).n.toNat)
      else if (o.getD k ⟨0, 0, []⟩).kind = 2 then (o.getD k ⟨0, 0, []⟩).signs ++ Pl.applyL (o.drop (k + 1)) t else Pl.applyL (o.drop (k + 1)) (t.drop (o.getD k ⟨0, 0, []⟩).n.toNat)) := by
  rw [List.drop_eq_getElem_cons h, Pl.applyL]
  simp [List.getD, h]
theorem fromRest {o : List Pt} {k : Nat} (h : k < o.length) : Pl.keeps (o.drop k) + Pl.drops (o.drop k) = Pl.keeps (o.drop (k + 1)) + Pl.drops (o.drop (k + 1)) + (Pl.keepsP (o.getD k ⟨0, 0, []⟩) + Pl.dropsP (o.getD k ⟨0, 0, []⟩)) := by
  rw [List.drop_eq_getElem_cons h]
  simp only [Pl.keeps, Pl.drops, List.map_cons, List.sum_cons]
  simp [List.getD, h]
  omega
theorem rest_nonneg {o : List Pt} (ho : Pl.partsOk o = true) (k : Nat) : 0 ≤ Pl.keeps (o.drop k) + Pl.drops (o.drop k) := by
  have h1 := @sum_bd Pl.keepsP (o.drop k) fun p hp => by
    obtain ⟨_, h0, h1, h2, _⟩ := partOk_facts (partOk_mem ho p (List.mem_of_mem_drop hp))
    unfold Pl.keepsP; split <;> omega
  have h3 := @sum_bd Pl.dropsP (o.drop k) fun p hp => by
    obtain ⟨_, h0, h1, h2, _⟩ := partOk_facts (partOk_mem ho p (List.mem_of_mem_drop hp))
    unfold Pl.dropsP; split <;> (try split) <;> omega
  unfold Pl.keeps Pl.drops
  omega

theorem applyL_len : ∀ (o : List Pt) (t : List Int), (∀ p ∈ o, Pl.partOk p = true) → (Pl.applyL o t).length ≤ 200 * o.length
  | [], _, _ => by simp [Pl.applyL]
  | p :: o, t, h => by
    obtain ⟨_, h0, h1, h2, _⟩ := partOk_facts (h p (by simp))
    have i1 := applyL_len o (t.drop p.n.toNat) fun q hq => h q (by simp [hq])
    have i2 := applyL_len o t fun q hq => h q (by simp [hq])
    rw [Pl.applyL, List.length_cons]
    split
    · rw [List.length_append, List.length_take]; omega
    · split
      · rw [List.length_append]; omega
      · omega
theorem apply_len (o : List Pt) (t : List Int) : (Pl.apply o t).length ≤ 120000 := by
  unfold Pl.apply
  split
  · rename_i h
    unfold Pl.fits at h
    simp only [Bool.and_eq_true] at h
    have hp := opOk_partsOk h.1
    have := applyL_len o t (partOk_mem hp)
    have := partsOk_len hp
    omega
  · simp
theorem intInfo' : (Tryz.prog.info? 3).map (fun i => (i.zero, i.size, i.bytes)) = some (some (.int .i64 0), 1, 8) := by kernel_rfl

set_option maxHeartbeats 2000000 in
set_option maxRecDepth 100000 in
theorem apply_i (v v' : Value) (ps : List Pt) (ts : List Int) (w : World) (h : SliceParts w.heap.size w v ps) (h' : SliceInts w.heap.size w v' ts) :
    Calls Tryz.prog 12 #[v, v'] w fun e w' => ∃ u, e = .returned (.tuple #[u, .bool (Pl.fits ps ts)]) ∧ OwnI w.heap.size w'.heap.size w' u (Pl.apply ps ts) ∧ Below w.heap.size w w' := by
  have h0 := h
  have h0' := h'
  obtain ⟨A, c, rfl, -, -⟩ := h
  obtain ⟨A', c', rfl, -, -⟩ := h'
  obtain ⟨i0, hi, hz0, hz1, hz2⟩ := info_parts intInfo'
  by_cases ho : Pl.opOk ps = true
  · by_cases ht : Pl.textOk ts = true
    · by_cases hf : Pl.opFrom ps = ts.length
      · have hfit : Hid (Pl.fits ps ts = true) := by show _ = _; rw [Pl.fits, ho, ht, decide_eq_true hf]; rfl
        have hlt : ts.length ≤ 200 := by
          unfold Pl.textOk at ht; simp only [Bool.and_eq_true, decide_eq_true_eq] at ht; exact ht.1
        have hfb : (Pl.opFrom ps != ((ts.length : Nat) : Int)) = false := by simp [hf]
        have HF := Lib.hid hf
        clear hf
        go_enter Tryz.func12, Tryz.ntmps12
        go_wp2_with (fail)
        refine (opOk_i _ ps _ h0).mono ?_
        rintro e w1 ⟨rfl, b1⟩
        go_wp2_with (fail)
        refine (textOk_i _ _ ts _ (h0'.later b1) (by unfold maxLen; omega)).mono ?_
        rintro e w2 ⟨rfl, rfl⟩
        go_wp2_with (fail)
        refine (opFrom_i _ ps _ (h0.later b1)).mono ?_
        rintro e w2 ⟨rfl, b2⟩
        have b12 := b1.trans (b2.mono b1.size)
        go_wp2_with (fail)
        have hr := h0.below b12
        have hr' := h0'.below b12
        obtain ⟨B, hB⟩ : ∃ B, B = w.heap.size := ⟨_, rfl⟩
        have HB := Lib.hid hB
        have hBs := b12.size
        rw [← hB] at hr hr' b12 hBs
        obtain ⟨A1, c1, he, -, hr⟩ := hr
        injection he with hA hL hc
        subst hA hc
        clear hL
        obtain ⟨A1, c1, he, hc2, hr'⟩ := hr'
        injection he with hA hL hc
        subst hA hc
        clear hL
        have hpo := opOk_partsOk ho
        have hlen := partsOk_len hpo
        have HO := Lib.hid hpo
        clear hB h0 h0' b1 b2 ho ht hpo
        go_loopw [6, 7, 27] (fun u a i wr => ∃ (k t : Nat) (acc : List Int), k ≤ ps.length ∧ i = .int .i64 k ∧ a = .int .i64 t ∧ wr.ownsRow B 3 1 u acc.length (acc.map (Value.int .i64)) ∧ acc.length ≤ 200 * k ∧
          Hid (acc ++ Pl.applyL (ps.drop k) (ts.drop t) = Pl.applyL ps ts) ∧ Hid ((t : Int) + (Pl.keeps (ps.drop k) + Pl.drops (ps.drop k)) = ts.length) ∧ t ≤ ts.length ∧ Below B w wr ∧ B ≤ wr.heap.size ∧ PartsAt B wr A ps ∧ IntsAt B wr A' ts) (fun _ _ i _ => ps.length - (intOf i).toNat)
        case atStart => exact ⟨0, 0, [], Nat.zero_le _, rfl, rfl, World.ownsRow_nil _ _ _ _, by simp, by show _ = _; simp, by show _ = _; have := HF.out; rw [Pl.opFrom, if_pos HO.out] at this; simpa using this, Nat.zero_le _, b12, hBs, hr, hr'⟩
        case round =>
          clear hr hr' b12 hBs
          obtain ⟨k, t, acc, hk, rfl, rfl, hown, hal, hap, hrest, htl, hb, hBs, hr, hr'⟩ := hrel
          by_cases hlk : k < ps.length
          · obtain ⟨b, off, sv, rfl, hbB, c0, c1, c2, hs⟩ := hr k hlk
            have HT := Lib.hid (hap.out)
            have HS := Lib.hid (applyL_step hlk (ts.drop t))
            have HR := Lib.hid (fromRest hlk)
            have HN := Lib.hid (rest_nonneg HO.out (k + 1))
            obtain ⟨pk, p0, p1, p2, -, -, -⟩ := partOk_facts (partOk_at hlk HO.out)
            have Hr := Lib.hid hr
            have Hr' := Lib.hid hr'
            have Hb := Lib.hid hb
            have Ho := Lib.hid hown
            clear hr hr' hb hown
            generalize ps.getD k ⟨0, 0, []⟩ = p at c0 c1 hs HS HR p0 p1 p2 pk
            obtain ⟨m, hm⟩ := Int.eq_ofNat_of_zero_le p0
            have HM := Lib.hid hm
            rw [hm] at c1 p1
            have hs0 := Lib.hid hs
            obtain ⟨A2, c3, rfl, -, -⟩ := hs
            clear hm p0
            rcases pk with pk | pk | pk
            · have k1 : (p.kind == 1) = true := by simp [pk]
              have hle : t + m ≤ ts.length := by
                have h1 := HR.out
                have h2 := HN.out
                have h3 := hrest.out
                have h4 := HM.out
                rw [Pl.keepsP, if_pos pk, Pl.dropsP, if_pos pk] at h1
                omega
              have PK := Lib.hid pk
              clear pk
              by_cases hct : c' = t
              · have hm0 : m ≤ 0 := by omega
                subst hct
                have hsrc := (Hr'.out.below ((Below.refl B wr).alloc hBs (.cells #[.int .i64 p.kind, .int .i64 m, .slice A2 p.signs.length c3] 47))).cut (lo := c') (m := m) hc2.1 hle
                rw [if_pos rfl] at hsrc
                have HSRC := Lib.hid hsrc
                clear hsrc
                go_wp2_with (at_builtin; refine wpList_append_src _ rfl (.tmp 39) (.tmp 46) 29 rfl B 3 i0 _ 1 8 Tryz.underlying29 hi hz0 hz1 hz2 rfl (by decide) _ acc.length (acc.map (Value.int .i64)) (by rfl) (Ho.out.alloc _) A' (c' + m - c') 0 (((ts.drop c').take m).map (Value.int .i64)) (by rfl) (by simp; omega) HSRC.out (ints_one _) (by unfold maxLen; omega) (by omega) (by simp; omega) ?_)
                intro u2 w4 hown4 hg4 _
                have hb4 : Below B wr w4 := ((Below.refl B wr).alloc hBs _).grown hg4 (by simp; omega) (fun g hg => (Ho.out.lt g hg).1)
                have ho4 : w4.ownsRow B 3 1 u2 (acc ++ (ts.drop c').take m).length ((acc ++ (ts.drop c').take m).map (Value.int .i64)) := by
                  have hll : (acc ++ (ts.drop c').take m).length = acc.length + m := by simp; omega
                  rw [hll, List.map_append, List.map_take, List.map_drop]
                  exact hown4
                have Ho4 := Lib.hid ho4
                have Hb4 := Lib.hid hb4
                have hp4 : w4.cell? ⟨wr.heap.size, 1, none⟩ = some (.int .i64 m) := by
                  rw [hg4.cell_far _ (by simp) (fun e => by have := (Ho.out.lt _ e.symm).2; exact absurd this (Nat.lt_irrefl _))]
                  exact cell_of_row _ _ _ _ _ _ (heap_new_at wr _ rfl)
                clear ho4 hb4 hown4 hg4 HSRC
                go_wp2
                go_roundw
                case rel =>
                  refine ⟨k + 1, c' + m, acc ++ (ts.drop c').take m, by omega, by go_num, by go_num, Ho4.out, by simp; omega, ?_, ?_, by omega, Hb.out.trans Hb4.out, Nat.le_trans hBs Hb4.out.size, Hr.out.below Hb4.out, Hr'.out.below Hb4.out⟩
                  · show _ = _
                    have := hap.out
                    rw [HS.out, if_pos PK.out] at this
                    rw [← this, HM.out]
                    simp
                  · show _ = _
                    have h1 := HR.out
                    have h3 := hrest.out
                    have h4 := HM.out
                    rw [Pl.keepsP, if_pos PK.out, Pl.dropsP, if_pos PK.out] at h1
                    omega
                case measure => simp [intOf]; omega
              · have hsrc := (Hr'.out.below ((Below.refl B wr).alloc hBs (.cells #[.int .i64 p.kind, .int .i64 m, .slice A2 p.signs.length c3] 47))).cut (lo := t) (m := m) hc2.1 hle
                rw [if_neg hct] at hsrc
                have HSRC := Lib.hid hsrc
                clear hsrc
                go_wp2_with (at_builtin; refine wpList_append_src _ rfl (.tmp 39) (.tmp 46) 29 rfl B 3 i0 _ 1 8 Tryz.underlying29 hi hz0 hz1 hz2 rfl (by decide) _ acc.length (acc.map (Value.int .i64)) (by rfl) (Ho.out.alloc _) (A'.map (·.add t)) (t + m - t) (c' - t) (((ts.drop t).take m).map (Value.int .i64)) (by rfl) (by simp; omega) HSRC.out (ints_one _) (by unfold maxLen; omega) (by omega) (by simp; omega) ?_)
                intro u2 w4 hown4 hg4 _
                have hb4 : Below B wr w4 := ((Below.refl B wr).alloc hBs _).grown hg4 (by simp; omega) (fun g hg => (Ho.out.lt g hg).1)
                have ho4 : w4.ownsRow B 3 1 u2 (acc ++ (ts.drop t).take m).length ((acc ++ (ts.drop t).take m).map (Value.int .i64)) := by
                  have hll : (acc ++ (ts.drop t).take m).length = acc.length + m := by simp; omega
                  rw [hll, List.map_append, List.map_take, List.map_drop]
                  exact hown4
                have Ho4 := Lib.hid ho4
                have Hb4 := Lib.hid hb4
                have hp4 : w4.cell? ⟨wr.heap.size, 1, none⟩ = some (.int .i64 m) := by
                  rw [hg4.cell_far _ (by simp) (fun e => by have := (Ho.out.lt _ e.symm).2; exact absurd this (Nat.lt_irrefl _))]
                  exact cell_of_row _ _ _ _ _ _ (heap_new_at wr _ rfl)
                clear ho4 hb4 hown4 hg4 HSRC
                go_wp2
                go_roundw
                case rel =>
                  refine ⟨k + 1, t + m, acc ++ (ts.drop t).take m, by omega, by go_num, by go_num, Ho4.out, by simp; omega, ?_, ?_, by omega, Hb.out.trans Hb4.out, Nat.le_trans hBs Hb4.out.size, Hr.out.below Hb4.out, Hr'.out.below Hb4.out⟩
                  · show _ = _
                    have := hap.out
                    rw [HS.out, if_pos PK.out] at this
                    rw [← this, HM.out]
                    simp
                  · show _ = _
                    have h1 := HR.out
                    have h3 := hrest.out
                    have h4 := HM.out
                    rw [Pl.keepsP, if_pos PK.out, Pl.dropsP, if_pos PK.out] at h1
                    omega
                case measure => simp [intOf]; omega
            · have k1 : (p.kind == 1) = false := by simp [pk]
              have k3 : (p.kind == 3) = false := by simp [pk]
              have PK := Lib.hid pk
              clear pk
              have hsrc := (hs0.out.below ((Below.refl B wr).alloc hBs (.cells #[.int .i64 p.kind, .int .i64 m, .slice A2 p.signs.length c3] 47)))
              obtain ⟨A9, c9, he, -, hsrc⟩ := hsrc
              injection he with hA hL hc
              subst hA hc
              have HSRC := Lib.hid hsrc
              clear hsrc hL
              go_wp2_with (at_builtin; refine wpList_append_src _ rfl (.tmp 33) (.tmp 35) 29 rfl B 3 i0 _ 1 8 Tryz.underlying29 hi hz0 hz1 hz2 rfl (by decide) _ acc.length (acc.map (Value.int .i64)) (by rfl) (Ho.out.alloc _) A2 p.signs.length c3 (p.signs.map (Value.int .i64)) (by rfl) (by simp) HSRC.out.src (ints_one _) (by unfold maxLen; omega) (by omega) (by simp; omega) ?_)
              intro u2 w4 hown4 hg4 _
              have hb4 : Below B wr w4 := ((Below.refl B wr).alloc hBs _).grown hg4 (by simp; omega) (fun g hg => (Ho.out.lt g hg).1)
              have ho4 : w4.ownsRow B 3 1 u2 (acc ++ p.signs).length ((acc ++ p.signs).map (Value.int .i64)) := by
                rw [List.length_append, List.map_append]
                exact hown4
              have Ho4 := Lib.hid ho4
              have Hb4 := Lib.hid hb4
              clear ho4 hb4 hown4 hg4 HSRC
              go_wp2
              go_roundw
              case rel =>
                refine ⟨k + 1, t, acc ++ p.signs, by omega, by go_num, by go_num, Ho4.out, by simp; omega, ?_, ?_, by omega, Hb.out.trans Hb4.out, Nat.le_trans hBs Hb4.out.size, Hr.out.below Hb4.out, Hr'.out.below Hb4.out⟩
                · show _ = _
                  have := hap.out
                  rw [HS.out, if_neg (by rw [PK.out]; decide), if_pos PK.out] at this
                  rw [← this]
                  simp
                · show _ = _
                  have h1 := HR.out
                  have h3 := hrest.out
                  rw [Pl.keepsP, if_neg (by rw [PK.out]; decide), Pl.dropsP, if_neg (by rw [PK.out]; decide), if_pos PK.out] at h1
                  omega
              case measure => simp [intOf]; omega
            · have k1 : (p.kind == 1) = false := by simp [pk]
              have k3 : (p.kind == 3) = true := by simp [pk]
              have hle : t + m ≤ ts.length := by
                have h1 := HR.out
                have h2 := HN.out
                have h3 := hrest.out
                have h4 := HM.out
                rw [Pl.keepsP, if_neg (by rw [pk]; decide), Pl.dropsP, if_neg (by rw [pk]; decide), if_neg (by rw [pk]; decide)] at h1
                omega
              have PK := Lib.hid pk
              clear pk
              have hb4 : Below B wr (wr.alloc (.cells #[.int .i64 p.kind, .int .i64 m, .slice A2 p.signs.length c3] 47)) := (Below.refl B wr).alloc hBs _
              have Hb4 := Lib.hid hb4
              clear hb4
              go_wp2
              go_roundw
              case rel =>
                refine ⟨k + 1, t + m, acc, by omega, by go_num, by go_num, Ho.out.alloc _, by omega, ?_, ?_, by omega, Hb.out.trans Hb4.out, Nat.le_trans hBs Hb4.out.size, Hr.out.below Hb4.out, Hr'.out.below Hb4.out⟩
                · show _ = _
                  have := hap.out
                  rw [HS.out, if_neg (by rw [PK.out]; decide), if_neg (by rw [PK.out]; decide)] at this
                  rw [← this, HM.out]
                  simp
                · show _ = _
                  have h1 := HR.out
                  have h3 := hrest.out
                  have h4 := HM.out
                  rw [Pl.keepsP, if_neg (by rw [PK.out]; decide), Pl.dropsP, if_neg (by rw [PK.out]; decide), if_neg (by rw [PK.out]; decide)] at h1
                  omega
              case measure => simp [intOf]; omega
          · have hx' := hap.out
            rw [List.drop_eq_nil_of_le (by omega)] at hx'
            have hx2 : acc = Pl.applyL ps ts := by simpa [Pl.applyL] using hx'
            have HX := Lib.hid hx2
            have HFIT := Lib.hid hfit
            clear hap hx' hx2 hr hr' hrest
            go_wp2_with (fail)
            go_ret2
            refine ⟨_, by rw [hfit.out]; rfl, ?_, by rw [← HB.out]; exact hb⟩
            rw [Pl.apply, if_pos hfit.out, ← HX.out, ← HB.out]
            exact OwnI.of hown
      · have hfit : Hid (Pl.fits ps ts = false) := by show _ = _; rw [Pl.fits, ho, ht, decide_eq_false hf]; rfl
        have hlt : ts.length ≤ 200 := by
          unfold Pl.textOk at ht; simp only [Bool.and_eq_true, decide_eq_true_eq] at ht; exact ht.1
        have hfb : (Pl.opFrom ps != ((ts.length : Nat) : Int)) = true := by simp [hf]
        have HF := Lib.hid hf
        clear hf hi hz0 hz1 hz2
        go_enter Tryz.func12, Tryz.ntmps12
        go_wp2_with (fail)
        refine (opOk_i _ ps _ h0).mono ?_
        rintro e w1 ⟨rfl, b1⟩
        go_wp2_with (fail)
        refine (textOk_i _ _ ts _ (h0'.later b1) (by unfold maxLen; omega)).mono ?_
        rintro e w2 ⟨rfl, rfl⟩
        go_wp2_with (fail)
        refine (opFrom_i _ ps _ (h0.later b1)).mono ?_
        rintro e w2 ⟨rfl, b2⟩
        go_wp2_with (fail)
        go_ret2
        exact ⟨_, by rw [hfit.out]; rfl, by rw [Pl.apply, if_neg (by rw [hfit.out]; decide)]; exact ⟨World.ownsRow_nil _ _ _ _, fun g hg => by simp [Value.ownBlock] at hg⟩, b1.trans (b2.mono b1.size)⟩
    · have ht' : Pl.textOk ts = false := by simpa using ht
      have hfit : Hid (Pl.fits ps ts = false) := by show _ = _; rw [Pl.fits, ho, ht']; rfl
      have hll := h0'.len
      clear ht hi hz0 hz1 hz2
      go_enter Tryz.func12, Tryz.ntmps12
      go_wp2_with (fail)
      refine (opOk_i _ ps _ h0).mono ?_
      rintro e w1 ⟨rfl, b1⟩
      go_wp2_with (fail)
      refine (textOk_i _ _ ts _ (h0'.later b1) hll).mono ?_
      rintro e w2 ⟨rfl, rfl⟩
      go_wp2_with (fail)
      go_ret2
      exact ⟨_, by rw [hfit.out]; rfl, by rw [Pl.apply, if_neg (by rw [hfit.out]; decide)]; exact ⟨World.ownsRow_nil _ _ _ _, fun g hg => by simp [Value.ownBlock] at hg⟩, b1⟩
  · have ho' : Pl.opOk ps = false := by simpa using ho
    have hfit : Hid (Pl.fits ps ts = false) := by show _ = _; rw [Pl.fits, ho']; rfl
    clear ho hi hz0 hz1 hz2
    go_enter Tryz.func12, Tryz.ntmps12
    go_wp2_with (fail)
    refine (opOk_i _ ps _ h0).mono ?_
    rintro e w1 ⟨rfl, b1⟩
    go_wp2_with (fail)
    go_ret2
    exact ⟨_, by rw [hfit.out]; rfl, by rw [Pl.apply, if_neg (by rw [hfit.out]; decide)]; exact ⟨World.ownsRow_nil _ _ _ _, fun g hg => by simp [Value.ownBlock] at hg⟩, b1⟩
end Go.Proofs.YtookcfpiegbafaaGreatDoor
