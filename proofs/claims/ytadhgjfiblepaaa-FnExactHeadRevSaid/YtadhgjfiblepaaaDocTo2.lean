/- Documents: the laws' copies of Seen: toSeen, toSeenS. Condition: at most 4194304 are copied. -/
import Derived.Test.YtadhgjfiblepaaaDocTo
namespace Go.Proofs.Ytadhgjfiblepaaa
open Go.RowKit
set_option maxRecDepth 100000

set_option maxHeartbeats 2000000 in
theorem toSeen_l (a b c : Int) (w : World) : Calls Try.prog 80 #[.agg #[.int .i64 a, .int .i64 b, .int .i64 c]] w fun e w' => e = .returned (.agg #[.int .i64 a, .int .i64 b, .int .i64 c]) ∧ Below w.heap.size w w' := by
  have hW : ∀ (a b c : Obj), Below w.heap.size w (((w.alloc a).alloc b).alloc c) := fun a b c => (((Below.refl _ _).alloc (Nat.le_refl _) a).alloc (by simp) b).alloc (by simp; omega) c
  have HW := Lib.hid hW
  clear hW
  go_enter Try.func80, Try.ntmps80
  go_wp2_with (fail)
  refine bodyPost_ret (v := .agg #[.int .i64 a, .int .i64 b, .int .i64 c]) (by simp [results, Try.results80, go_sem]) rfl ⟨rfl, ?_⟩
  repeat (first | exact HW.out _ _ _ | refine Below.setCell ?_ (by dsimp only; simp; omega) _)
/-- What a loop that copies three numbers each has written after k rounds. -/
def partZ (z : Value) (ps : List Pt) (svs : List Value) : List Value := cellsP (ps.take svs.length) svs ++ (List.replicate (ps.length - svs.length) [Value.int .i64 0, .int .i64 0, z]).flatten
theorem partZ_step (z : Value) (ps : List Pt) (svs : List Value) (sv : Value) (h : svs.length < ps.length) :
    (((partZ z ps svs).set (svs.length * 3) (.int .i64 (ps.getD svs.length ⟨0, 0, []⟩).kind)).set (svs.length * 3 + 1) (.int .i64 (ps.getD svs.length ⟨0, 0, []⟩).n)).set (svs.length * 3 + 2) sv = partZ z ps (svs ++ [sv]) := by
  have e : ps.length - svs.length = (ps.length - (svs.length + 1)) + 1 := by omega
  have ht : (ps.take svs.length).length = svs.length := by rw [List.length_take]; omega
  have hl := cellsP_length (ps.take svs.length) svs ht.symm
  rw [ht] at hl
  have hc : cellsP (ps.take (svs.length + 1)) (svs ++ [sv]) = cellsP (ps.take svs.length) svs ++ [.int .i64 (ps.getD svs.length ⟨0, 0, []⟩).kind, .int .i64 (ps.getD svs.length ⟨0, 0, []⟩).n, sv] := by
    rw [List.take_succ_eq_append_getElem h, cellsP_append _ _ _ _ ht.symm]
    simp [cellsP, List.getD, h]
  simp only [partZ, List.length_append, List.length_cons, List.length_nil]
  rw [hc, e, List.replicate_succ, List.flatten_cons]
  rw [List.set_append_right _ _ (by omega), List.set_append_right _ _ (by omega), List.set_append_right _ _ (by omega), hl]
  simp
theorem partZ_full (z : Value) (ps : List Pt) (svs : List Value) (h : svs.length = ps.length) : partZ z ps svs = cellsP ps svs := by
  simp [partZ, h]
theorem madeZ (z : Value) (n : Nat) : (madeCells #[Value.int .i64 0, .int .i64 0, z] (n * 3)).toList = (List.replicate n [Value.int .i64 0, .int .i64 0, z]).flatten := by
  have h : ∀ k, (madeCells #[Value.int .i64 0, .int .i64 0, z] k).toList = (List.range k).map fun j => (#[Value.int .i64 0, .int .i64 0, z] : Array Value)[j % 3]! := fun k => by
    simp [madeCells, List.range]
  rw [h]
  induction n with
  | zero => simp
  | succ n ih =>
    rw [show (n + 1) * 3 = n * 3 + 1 + 1 + 1 by omega, List.range_succ, List.range_succ, List.range_succ, List.replicate_succ', List.flatten_append, ← ih]
    have e0 : n * 3 % 3 = 0 := by omega
    have e1 : (n * 3 + 1) % 3 = 1 := by omega
    have e2 : (n * 3 + 1 + 1) % 3 = 2 := by omega
    simp [e0, e1, e2]
/-- The first two numbers of a Seen, as those of a part; the last ones as cells. -/
def hdS (e : Se) : Pt := ⟨e.1, e.2.1, []⟩
def tlS (ss : List Se) : List Value := ss.map fun s => .int .i64 s.2.2
theorem hdS_at (es : List Se) {k : Nat} (h : k < es.length) : (es.map hdS).getD k ⟨0, 0, []⟩ = hdS (es.getD k (0, 0, 0)) := by simp [List.getD, h]

set_option maxHeartbeats 1000000 in
theorem toSeenS_l (v : Value) (es : List Se) (w : World) (h : SliceSeen w.heap.size w v es) (hl : es.length ≤ 4194304) :
    Calls Try.prog 69 #[v] w fun e w' => ∃ A c, e = .returned (.slice A es.length c) ∧ OwnS w.heap.size w'.heap.size w' (.slice A es.length c) es ∧ Below w.heap.size w w' := by
  obtain ⟨i0, hi, hz0, hz1, hz2⟩ := info_parts seenInfo
  obtain ⟨A, c, rfl, -, h⟩ := h
  go_enter Try.func69, Try.ntmps69
  go_wp2_with (at_make; refine wpList_make_full _ rfl (.tmp 6) (.tmp 6) 47 (by rfl) w.heap.size 88 i0 _ 3 Try.underlying47 hi hz0 hz1 .i64 .i64 _ _ es.length (by rfl) (by rfl) rfl rfl (by rw [hz2]; omega) (by unfold maxLen; omega) (Nat.le_refl _) ?_)
  intro w1 hown hg
  have hb1 : Below w.heap.size w w1 := (Below.refl _ _).grown hg (Nat.le_refl _) (by simp)
  have h1 := h.below hb1
  clear hi hz0 hz1 hz2 hg h
  obtain ⟨B, hB⟩ : ∃ B, B = w.heap.size := ⟨_, rfl⟩
  have HB := Lib.hid hB
  have hc : Hid (w1.ownsRow B 88 3 (.slice (some ⟨B, 0, none⟩) es.length es.length) es.length (partZ (.int .i64 0) (es.map hdS) (tlS (es.take 0)))) := by
    subst hB
    show World.ownsRow _ _ _ _ _ _ _
    have hown2 : w1.ownsRow w.heap.size 88 3 (.slice (some ⟨w.heap.size, 0, none⟩) es.length es.length) es.length (madeCells #[Value.int .i64 0, .int .i64 0, .int .i64 0] (es.length * 3)).toList := hown
    rw [madeZ] at hown2
    simpa [partZ, cellsP, tlS] using hown2
  have hsz : B < w1.heap.size := by rw [hB]; exact (hown.lt _ rfl).2
  have HBw : Hid (Below B w w1) := by rw [hB]; exact hb1
  rw [← hB] at h1
  simp only [← hB]
  clear hB hown hb1
  go_wp2_with (fail)
  go_loopw [4] (fun i wr => ∃ k : Nat, k ≤ es.length ∧ i = .int .i64 k ∧ Hid (wr.ownsRow B 88 3 (.slice (some ⟨B, 0, none⟩) es.length es.length) es.length (partZ (.int .i64 0) (es.map hdS) (tlS (es.take k)))) ∧ SeenAt B wr A es ∧ B < wr.heap.size ∧ Hid (Below B w wr)) (fun i _ => es.length - (intOf i).toNat)
  case atStart => exact ⟨0, Nat.zero_le _, rfl, hc.out, h1, hsz, HBw.out⟩
  case round =>
    clear hc h1 hsz HBw
    obtain ⟨k, hk, rfl, hc, hr, hsz, hbw⟩ := hrel
    by_cases hlt : k < es.length
    · obtain ⟨b, off, rfl, hbB, c0, c1, c2⟩ := hr k hlt
      have Hr := Lib.hid hr
      have htl : (tlS (es.take k)).length = k := by simp [tlS]; omega
      have hst := partZ_step (.int .i64 0) (es.map hdS) (tlS (es.take k)) (.int .i64 (es.getD k (0, 0, 0)).2.2) (by rw [htl]; simpa using hlt)
      rw [htl, hdS_at es hlt] at hst
      have hsn : tlS (es.take k) ++ [.int .i64 (es.getD k (0, 0, 0)).2.2] = tlS (es.take (k + 1)) := by
        show List.map _ (es.take k) ++ _ = List.map _ (es.take (k + 1))
        rw [List.take_succ_eq_append_getElem hlt, List.map_append]
        congr 1
        simp [List.getD, hlt]
      rw [hsn] at hst
      have HST := Lib.hid hst
      clear hr hst hsn htl
      generalize es.getD k (0, 0, 0) = p at c0 c1 c2 HST
      go_wp2_with (fail)
      refine (toSeen_l p.1 p.2.1 p.2.2 _).mono ?_
      rintro e w1 ⟨rfl, b1⟩
      have hr1 := World.ownsRow.below hc.out b1
      have hlen : (partZ (.int .i64 0) (es.map hdS) (tlS (es.take k))).length = es.length * 3 := hr1.1
      obtain ⟨u0, e0⟩ := getElem?_of_lt (l := partZ (.int .i64 0) (es.map hdS) (tlS (es.take k))) (j := k * 3) (by omega)
      obtain ⟨u1, e1⟩ := getElem?_of_lt (l := partZ (.int .i64 0) (es.map hdS) (tlS (es.take k))) (j := k * 3 + 1) (by omega)
      obtain ⟨u2, e2⟩ := getElem?_of_lt (l := partZ (.int .i64 0) (es.map hdS) (tlS (es.take k))) (j := k * 3 + 2) (by omega)
      have d0 := (hr1.cellAt (k * 3) (by omega)).trans e0
      have d1 := (hr1.cellAt (k * 3 + 1) (by omega)).trans e1
      have d2 := (hr1.cellAt (k * 3 + 2) (by omega)).trans e2
      have hfz := hr1.frozenAt
      have hr2 := (((hr1.stored (k * 3) (.int .i64 p.1)).1.stored (k * 3 + 1) (.int .i64 p.2.1)).1.stored (k * 3 + 2) (.int .i64 p.2.2)).1
      have hh : (((partZ (.int .i64 0) (es.map hdS) (tlS (es.take k))).set (k * 3) (.int .i64 p.1)).set (k * 3 + 1) (.int .i64 p.2.1)).set (k * 3 + 2) (.int .i64 p.2.2) = partZ (.int .i64 0) (es.map hdS) (tlS (es.take (k + 1))) := HST.out
      rw [hh] at hr2
      have HR2 := Lib.hid hr2
      have Hb1 := Lib.hid b1
      have z1 := b1.size
      clear b1 hr1 hr2 hh hlen e0 e1 e2 c0 c1 c2 hc
      go_wp2_with (fail)
      go_roundw
      case rel => exact ⟨k + 1, by omega, by go_num, HR2.out, Hr.out.below (((((Hb1.out.mono (by omega)).setCell (by simp) _).setCell (by simp) _).setCell (by simp) _)), by simp [World.setCell]; omega, (hbw.out.trans (Hb1.out.mono (by omega))).setCell (by simp) _ |>.setCell (by simp) _ |>.setCell (by simp) _⟩
      case measure => simp [intOf]; omega
    · have e : k = es.length := by omega
      subst e
      have hrow := hc.out
      rw [List.take_of_length_le (Nat.le_refl _), partZ_full _ _ _ (by simp [tlS])] at hrow
      have HP : OwnS B wr.heap.size wr (.slice (some ⟨B, 0, none⟩) es.length es.length) es := by
        refine ⟨_, _, rfl, ⟨Nat.le_refl _, by unfold maxLen; omega⟩, fun k hk => ?_⟩
        obtain ⟨a0, a1, a2⟩ := cellsP_at (es.map hdS) (tlS es) k (by simp [tlS]) (by simpa using hk)
        rw [hdS_at es hk] at a0 a1
        have a3 : (tlS es).getD k undef = .int .i64 (es.getD k (0, 0, 0)).2.2 := by simp [tlS, List.getD, hk]
        rw [a3] at a2
        exact ⟨B, 0, rfl, Nat.le_refl _, (hrow.lt _ rfl).2, by rw [Nat.zero_add]; exact (hrow.cellAt (k * 3) (by omega)).trans a0, by rw [Nat.zero_add]; exact (hrow.cellAt (k * 3 + 1) (by omega)).trans a1, by rw [Nat.zero_add]; exact (hrow.cellAt (k * 3 + 2) (by omega)).trans a2⟩
      have HPP := Lib.hid HP
      clear hc hrow hr HP
      go_wp2_with (fail)
      go_ret
      obtain rfl := HB.out
      exact ⟨_, _, rfl, HPP.out, hbw.out⟩
end Go.Proofs.Ytadhgjfiblepaaa
