/- What is left of an operation: contracts of take and whole. Condition: right parts. -/
import Derived.Test.YtookcfpiegbafaaGreatDoorRest
import Derived.Test.YtookcfpiegbafaaGreatDoorGB
import Derived.Deep.RegionLaw
import Derived.Deep.DrawnRows
namespace Go.Proofs.YtookcfpiegbafaaGreatDoor
open Go.RowKit
set_option maxRecDepth 100000

/-- Where take ends: the part taken off, and what is left. -/
def Took (F : Nat → Prop) (g : Nat) (p : Pt) (q : List Pt) (n : Nat) (w : World) (e : Ending) (w' : World) : Prop :=
  ∃ pv, e = .returned pv ∧ PV (Plus F w w') w' pv (Pl.tk p n) ∧ RestAt (Plus F w w') w' g (Pl.lf p n :: q) ∧ Frame (fun k => k = g) w w'

theorem step_append_src {P : Program} {w : World} {ops : Array Oper} {o : Oper} {a : Act} {K : Act → World → Prop} {Q : Exit → Act → World → Prop} {E : Prop} (hgd : o.guard = none) (s x : Operand) (t : TypeId)
    (ho : o.op = .call { callee := .builtin .append, args := #[s, x], argTypes := #[t, t] })
    (base : Nat) (e : TypeId) (i : TypeInfo) (z : Value) (size bytes : Nat) (ht : P.underlying t = some (.slice e)) (hi : P.info? e = some i) (hz : i.zero = some z)
    (hsize : i.size = size) (hby : i.bytes = bytes) (hzs : z.cells.size = size) (hsz : 0 < size)
    (v : Value) (n : Nat) (xs : List Value) (hs : a.eval s = v) (hown : w.ownsRow base e size v n xs)
    (A : Option Addr) (m c : Nat) (news : List Value) (hx : a.eval x = .slice A m c) (hl : news.length = m * size) (hr : ∀ j u, news[j]? = some u → ∃ ad, A = some ad ∧ w.cell? (ad.add j) = some u)
    (h1 : ∀ u ∈ news, u.oneCell' = true) (h63 : n + m ≤ maxLen) (hbytes : (n + m) * bytes ≤ 140737488355328) (hbase : base ≤ w.heap.size)
    (h : ∀ v' w', w'.ownsRow base e size v' (n + m) (xs ++ news) → w.grownBy w' v.ownBlock → (v'.ownBlock = v.ownBlock ∨ v'.ownBlock = some w.heap.size) → K (a.put o.dst v') w') :
    if Region.wanted o (yielded ops a.tmps) = true then Oper.wp P o a w K Q else E := by
  have hw : Region.wanted o (yielded ops a.tmps) = true := by simp [Region.wanted, hgd]
  rw [if_pos hw]
  obtain ⟨v', w', hrun, h2, h3, h4⟩ := run_append_src (P := P) w base t o.type e i z size bytes ht hi hz hsize hby hzs hsz v n xs hown A m c news hl hr h1 h63 hbytes hbase
  unfold Oper.wp execOp
  simp only [ho, resolve, invoke, builtin, Sem.run_bind, Sem.run_pure, Result.andThen_ok, List.map_toArray, List.map_cons, List.map_nil, hs, hx, hrun]
  exact h v' w' h2 h3 h4

/-- What an append of the rest behind one part leaves. -/
theorem left_row {F : Nat → Prop} {w X w' : World} {L : Nat} {z v' : Value} {q : List Pt} {svs : List Value} (pl : Pt) (hF : ∀ x, F x → x < w.heap.size) (hX : Frame (fun _ => False) w X) (hL : w.heap.size ≤ L) (hLX : L ≤ X.heap.size)
    (hown : w'.ownsRow 0 47 3 v' (1 + q.length) ([.int .i64 pl.kind, .int .i64 pl.n, z] ++ cellsP q svs)) (hg : X.grownBy w' (some L)) (hat : v'.ownBlock = some L ∨ v'.ownBlock = some X.heap.size)
    (hz : RdI F w z pl.signs) (hsl : svs.length = q.length) (hse : ∀ k, k < q.length → RdI F w (svs.getD k undef) (q.getD k ⟨0, 0, []⟩).signs) :
    RdP (fun b => F b ∨ (L ≤ b ∧ b < w'.heap.size)) w' v' (pl :: q) ∧ Frame (fun _ => False) w w' := by
  have hf : Frame (fun _ => False) w w' := by
    have h1 : Frame (fun k => k = L) X w' := Frame.grown hg (fun k e => by injection e with e; exact e.symm)
    refine (hX.mono (T := fun k => k = L) (fun _ _ hh => hh.elim)).trans h1 (fun _ _ hh => hh) |>.mono (fun i hi e => ?_)
    omega
  have hvb : ∀ b, v'.ownBlock = some b → L ≤ b := fun b hb => by
    rcases hat with e | e
    · rw [e] at hb; injection hb with hb; omega
    · rw [e] at hb; injection hb with hb; omega
  have ho : OutAt F w' v' (pl :: q) (z :: svs) := by
    refine ⟨?_, by simp [hsl], fun k hk => ?_, fun b hb hh => by have := hvb b hb; have := hF b hh; omega⟩
    · rw [List.length_cons, Nat.add_comm]
      simpa [cellsP] using hown
    · cases k with
      | zero => simpa using hz.frame hf (fun _ _ hh => hh)
      | succ k => simpa using (hse k (by simpa using hk)).frame hf (fun _ _ hh => hh)
  exact ⟨ho.rd (fun b hb => .inl hb) (fun b hb => .inr ⟨hvb b hb, (ho.row.lt b hb).2⟩), hf⟩

/-- The world behind the two copies. -/
def Mid (w : World) (GL GO : Nat) (l o : Obj) (W : World) : Prop :=
  Frame (fun _ => False) w W ∧ W.heap.size = w.heap.size + 4 ∧ W.heap[GL]? = some l ∧ W.heap[GO]? = some o ∧ W.heap[w.heap.size]? = some (.cells #[.int .i64 0, .int .i64 0, .slice none 0 0] 47 (0, 0))
theorem mid_at (w : World) (X1 X2 X3 : Obj) : Frame (fun _ => False) w (((((w.alloc (.cells #[.int .i64 0, .int .i64 0, .slice none 0 0] 47)).alloc X1).alloc X2).alloc X3).drew.drew) ∧
    (((((w.alloc (.cells #[.int .i64 0, .int .i64 0, .slice none 0 0] 47)).alloc X1).alloc X2).alloc X3).drew.drew).heap.size = w.heap.size + 4 ∧
    (((((w.alloc (.cells #[.int .i64 0, .int .i64 0, .slice none 0 0] 47)).alloc X1).alloc X2).alloc X3).drew.drew).heap[w.heap.size + 1 + 1]? = some X2 ∧
    (((((w.alloc (.cells #[.int .i64 0, .int .i64 0, .slice none 0 0] 47)).alloc X1).alloc X2).alloc X3).drew.drew).heap[w.heap.size + 1 + 1 + 1]? = some X3 ∧
    (((((w.alloc (.cells #[.int .i64 0, .int .i64 0, .slice none 0 0] 47)).alloc X1).alloc X2).alloc X3).drew.drew).heap[w.heap.size]? = some (.cells #[.int .i64 0, .int .i64 0, .slice none 0 0] 47 (0, 0)) := by
  refine ⟨?_, by show (((((w.alloc _).alloc X1).alloc X2).alloc X3)).heap.size = _; simp, ?_, ?_, ?_⟩
  · exact ((((((Frame.refl _ w).andAlloc _).andAlloc _).andAlloc _).andAlloc _).andDrew).andDrew
  · show (((((w.alloc _).alloc X1).alloc X2).alloc X3)).heap[_]? = _
    rw [Below.heap_alloc _ _ _ (by simp)]
    exact heap_new_at _ _ (by simp)
  · show (((((w.alloc _).alloc X1).alloc X2).alloc X3)).heap[_]? = _
    exact heap_new_at _ _ (by simp)
  · show (((((w.alloc _).alloc X1).alloc X2).alloc X3)).heap[_]? = _
    rw [Below.heap_alloc _ _ _ (by simp; omega), Below.heap_alloc _ _ _ (by simp; omega), Below.heap_alloc _ _ _ (by simp)]
    exact heap_new_at _ _ rfl
theorem mid_a (w : World) (X1 X2 X3 : Obj) : Mid w (w.heap.size + 1 + 1 + 1) (w.heap.size + 1 + 1) X3 X2 (((((w.alloc (.cells #[.int .i64 0, .int .i64 0, .slice none 0 0] 47)).alloc X1).alloc X2).alloc X3).drew.drew) := by
  obtain ⟨a, b, c, d, e⟩ := mid_at w X1 X2 X3
  exact ⟨a, b, d, c, e⟩
theorem mid_b (w : World) (X1 X2 X3 : Obj) : Mid w (w.heap.size + 1 + 1) (w.heap.size + 1 + 1 + 1) X2 X3 (((((w.alloc (.cells #[.int .i64 0, .int .i64 0, .slice none 0 0] 47)).alloc X1).alloc X2).alloc X3).drew.drew) := mid_at w X1 X2 X3
theorem wp_gen {P : Program} {c : Code} {Q : Exit → Act → World → Prop} {a : Act} {W : World} (S : World → Prop) (hS : S W) (h : ∀ W', S W' → c.wp P Q a W') : c.wp P Q a W := h W hS
/-- The end of take. -/
theorem take_end {F : Nat → Prop} {g n L : Nat} {p : Pt} {q : List Pt} {w w3 : World} {v v' x y z : Value} (hC : Cell1 w g 61 v) (hg : ¬ F g) (hF : ∀ x, F x → x < w.heap.size) (hL : w.heap.size < L) (hr : RdP (fun b => F b ∨ (L ≤ b ∧ b < w3.heap.size)) w3 v' (Pl.lf p n :: q)) (hf : Frame (fun _ => False) w w3)
    (hx : x = .int .i64 (Pl.tk p n).kind) (hy : y = .int .i64 (Pl.tk p n).n) (hz : RdI F w z (Pl.tk p n).signs) :
    Took F g p q n w (.returned (.agg #[x, y, z])) ((((w3.setCell ⟨g, 0, none⟩ v').setCell ⟨w.heap.size, 0, none⟩ x).setCell ⟨w.heap.size, 1, none⟩ y).setCell ⟨w.heap.size, 2, none⟩ z) := by
  have lg := hC.lt
  have c4 : Cell1 (w3.setCell ⟨g, 0, none⟩ v') g 61 v' := (hC.frame hf (fun hh => hh)).set v'
  have f4 : Frame (fun k => k = g) w3 (w3.setCell ⟨g, 0, none⟩ v') := Frame.setCell _ _ _ _ rfl
  have f5 : Frame (fun k => k = w.heap.size) (w3.setCell ⟨g, 0, none⟩ v') ((((w3.setCell ⟨g, 0, none⟩ v').setCell ⟨w.heap.size, 0, none⟩ x).setCell ⟨w.heap.size, 1, none⟩ y).setCell ⟨w.heap.size, 2, none⟩ z) :=
    (((Frame.refl (fun k => k = w.heap.size) (w3.setCell ⟨g, 0, none⟩ v')).andSet ⟨w.heap.size, 0, none⟩ x rfl).andSet ⟨w.heap.size, 1, none⟩ y rfl).andSet ⟨w.heap.size, 2, none⟩ z rfl
  have hsz := hf.size
  have s5 : ((((w3.setCell ⟨g, 0, none⟩ v').setCell ⟨w.heap.size, 0, none⟩ x).setCell ⟨w.heap.size, 1, none⟩ y).setCell ⟨w.heap.size, 2, none⟩ z).heap.size = w3.heap.size := by simp [World.setCell]
  have fe : Frame (fun k => k = g) w ((((w3.setCell ⟨g, 0, none⟩ v').setCell ⟨w.heap.size, 0, none⟩ x).setCell ⟨w.heap.size, 1, none⟩ y).setCell ⟨w.heap.size, 2, none⟩ z) :=
    ((hf.mono (T := fun k => k = g) (fun _ _ hh => hh.elim)).trans f4 (fun _ _ hh => hh)).trans f5 (fun i hi e => by omega)
  subst hx hy
  refine ⟨_, rfl, ⟨z, rfl, ?_⟩, ⟨v', c4.frame f5 (by omega), ?_⟩, fe⟩
  · refine (((hz.frame hf (fun _ _ hh => hh)).frame f4 (fun b hb e => hg (e ▸ hb))).frame f5 (fun b hb e => ?_)).mono (fun b hb => .inl hb)
    have := hF b hb
    omega
  · refine ((hr.frame f4 (fun b hb e => ?_)).frame f5 (fun b hb e => ?_)).mono (fun b hb => ?_)
    · rcases hb with hb | hb
      · exact hg (e ▸ hb)
      · omega
    · rcases hb with hb | hb
      · have := hF b hb; omega
      · omega
    · rcases hb with hb | hb
      · exact .inl hb
      · exact .inr ⟨by omega, by rw [s5]; exact hb.2⟩

set_option maxHeartbeats 8000000 in
theorem take_i (F : Nat → Prop) (g n : Nat) (p : Pt) (q : List Pt) (w : World) (hrest : RestAt F w g (p :: q)) (hg : ¬ F g) (hF : ∀ x, F x → x < w.heap.size) (hok : Pl.partOk p = true) (hn : (n : Int) ≤ Pl.size p) (hl : q.length ≤ 100000) :
    Calls Tryz.prog 45 #[.pointer (some ⟨g, 0, none⟩), .int .i64 n] w (Took F g p q n w) := by
  obtain ⟨v, hc, hr⟩ := hrest
  have lg := hc.lt
  have cg := hc.cell
  have fg := hc.free
  obtain ⟨A1, c1, rfl, hcap⟩ := hr.shape
  simp only [List.length_cons] at cg hcap
  unfold maxLen at hcap
  obtain ⟨-, hc1, b, off, sv, rfl, hb, e0, e1, e2, hs⟩ := hr.head
  have HT := Lib.hid hr.tail
  obtain ⟨i0, hi, hz0, hz1, hz2⟩ := info_parts partInfoB
  have HS := Lib.hid hs
  obtain ⟨A2, c2, rfl, hc2, hsi⟩ := hs
  unfold maxLen at hc2
  have HOK := Lib.hid hok
  have HC := Lib.hid hc
  have HF := Lib.hid hF
  have HG := Lib.hid hg
  have hlen : 0 < q.length + 1 := Nat.succ_pos _
  have hlen1 : (1 : Int) ≤ (q.length : Int) + 1 := by omega
  have hp0 := (partOk_facts hok).2.1
  have hp1 := (partOk_facts hok).2.2.1
  clear hF hr hc hsi hg
  obtain ⟨Aq, cq, hq, hcq⟩ : ∃ Aq cq, Hid (RdP F w (.slice Aq q.length cq) q) ∧ Hid (Aq = (if c1 = 1 then some ⟨b, off, none⟩ else some ⟨b, off + 3, none⟩) ∧ cq = c1 - 1) := by
    refine ⟨_, _, ?_, ⟨rfl, rfl⟩⟩
    have := HT.out
    by_cases hcc : c1 = 1
    · rw [if_pos hcc] at this ⊢; exact this
    · rw [if_neg hcc] at this ⊢
      show RdP _ _ _ _
      simpa [Addr.add_lit] using this
  obtain ⟨svs, hsl, HSE, HSRC⟩ : ∃ svs : List Value, svs.length = q.length ∧ Hid (∀ k, k < q.length → RdI F w (svs.getD k undef) (q.getD k ⟨0, 0, []⟩).signs) ∧ Hid (∀ X, Frame (fun _ => False) w X → ∀ j u, (cellsP q svs)[j]? = some u → ∃ ad, Aq = some ad ∧ X.cell? (ad.add j) = some u) := by
    obtain ⟨Aq', cq', he, -, hpi⟩ := hq.out
    injection he with h1 h2 h3
    subst h1 h3
    obtain ⟨svs, a, b, c⟩ := hpi.src
    exact ⟨svs, a, b, c⟩
  clear hq HT
  by_cases hk : p.kind = 2
  · have k2 : (p.kind == 2) = true := by simp [hk]
    have HK := Lib.hid hk
    have hn2 : n ≤ p.signs.length := by have := Pl.size_2 hok hk; omega
    have hnc : n ≤ c2 := by omega
    have HRT := Lib.hid (HS.out.take hn2)
    have HRD := Lib.hid (HS.out.drop hn2)
    have EL : Hid (Pl.lf p n = ⟨p.kind, p.n, p.signs.drop n⟩) := by show _ = _; rw [Pl.lf, if_pos hk]
    have ET : Hid (Pl.tk p n = ⟨p.kind, p.n, p.signs.take n⟩) := by show _ = _; rw [Pl.tk, if_pos hk]
    clear hk hn
    by_cases hcn : c2 = n
    · subst hcn
      have HRD0 : Hid (RdI F w (.slice A2 0 0) (p.signs.drop c2)) := by
        have e0 : p.signs.length - c2 = 0 := by omega
        have := HRD.out
        rw [if_pos rfl, e0, Nat.sub_self] at this
        exact this
      by_cases hcc : c1 = 1
      · obtain ⟨ea, ec⟩ := hcq.out
        rw [if_pos hcc] at ea
        subst ea ec
        go_enter Tryz.func45, Tryz.ntmps45
        go_wp2_with (fail)
        go_region
        all_goals (go_wp2_with (fail); go_region)
        all_goals (go_wp2_with (fail))
        ·
          refine wp_gen (Mid w (w.heap.size + 1 + 1) (w.heap.size + 1 + 1 + 1) (.cells #[.int .i64 p.kind, .int .i64 p.n, .slice A2 0 0] 47) (.cells #[.int .i64 p.kind, .int .i64 p.n, .slice A2 c2 c2] 47)) (mid_b _ _ _ _) ?_
          rintro W ⟨mF, ms, mL, mO, m0⟩
          obtain ⟨l0, l1, l2, lf, ll⟩ := blk3 mL
          obtain ⟨o0, o1, o2, of, ol⟩ := blk3 mO
          have cg1 := (HC.out.frame mF (fun hh => hh)).cell
          have fg1 := (HC.out.frame mF (fun hh => hh)).free
          have lg1 := (HC.out.frame mF (fun hh => hh)).lt
          simp only [List.length_cons] at cg1
          have cgA : (W.alloc (.cells #[.int .i64 p.kind, .int .i64 p.n, .slice A2 0 0] 47)).cell? ⟨g, 0, none⟩ = _ := ((Frame.alloc (fun _ => False) W _).cell lg1 (fun hh => hh)).trans cg1
          have MO := Lib.hid mO
          have M0 := Lib.hid m0
          have MF := Lib.hid mF
          clear mL mO m0 mF lf of cg fg
          go_region_law
            ((refine step_append_src (by rfl) _ _ _ (by rfl) 0 47 i0 _ 3 40 Tryz.underlying22 hi hz0 hz1 hz2 rfl (by decide) _ 1 [.int .i64 p.kind, .int .i64 p.n, .slice A2 0 0] (by rfl) (lit_part (heap_new_at _ _ (by omega))) _ q.length _ (cellsP q svs) (by rfl) (by rw [cellsP_length _ _ hsl]) (HSRC.out _ ?_) (cellsP_one hsl HSE.out) (by unfold maxLen; omega) (by omega) (Nat.zero_le _) ?_; (focus (refine MF.out.trans (T := fun _ => False) ?_ (fun _ _ hh => hh); repeat (first | exact Frame.refl _ _ | refine Frame.andDrew ?_ | refine Frame.andAlloc ?_ _))); intro v' w' hown hg hat; obtain ⟨A5, c5, rfl⟩ := own_shape hown; obtain ⟨hrd, hfr⟩ := left_row (F := F) (w := w) (L := w.heap.size + 4) (⟨p.kind, p.n, p.signs.drop c2⟩) HF.out (by refine MF.out.trans (T := fun _ => False) ?_ (fun _ _ hh => hh); repeat (first | exact Frame.refl _ _ | refine Frame.andDrew ?_ | refine Frame.andAlloc ?_ _)) (by omega) (by simp; omega) hown hg hat HRD0.out hsl HSE.out; have hfr2 : Frame (fun k => W.heap.size ≤ k) W w' := (by refine Frame.andGrow ?_ hg (fun k e => by have e' : w.heap.size + 4 = k := Option.some.inj e; omega); repeat (first | exact Frame.refl _ _ | refine Frame.andDrew ?_ | refine Frame.andAlloc ?_ _)); have cg2 := (HC.out.frame hfr (fun hh => hh)).cell; have fg2 := (HC.out.frame hfr (fun hh => hh)).free; simp only [List.length_cons] at cg2; obtain ⟨p0, p1, p2, pf, pl⟩ := blk3 (hfr2.heap MO.out (by omega)); obtain ⟨r0, r1, r2, rf, rl⟩ := blk3 (hfr2.heap M0.out (by omega)); have rf0 := rf 0; have rf1 := rf 1; have rf2 := rf 2; rw [← EL.out] at hrd; have HRD2 := Lib.hid hrd; have HFR := Lib.hid hfr; clear hown hg hat hrd hfr hfr2 pf rf cg1 fg1 cgA))
          all_goals (go_wp2_with (fail))
          all_goals exact bodyPost_ret (v := .agg #[.int .i64 p.kind, .int .i64 p.n, .slice A2 c2 c2]) (by simp [results, Tryz.results45, go_sem, r0, r1, r2]) rfl (take_end HC.out HG.out HF.out (L := w.heap.size + 4) (by omega) HRD2.out HFR.out (by rw [ET.out]) (by rw [ET.out]) (by rw [ET.out]; exact HRT.out))
        ·
          refine wp_gen (Mid w (w.heap.size + 1 + 1 + 1) (w.heap.size + 1 + 1) (.cells #[.int .i64 p.kind, .int .i64 p.n, .slice A2 0 0] 47) (.cells #[.int .i64 p.kind, .int .i64 p.n, .slice A2 c2 c2] 47)) (mid_a _ _ _ _) ?_
          rintro W ⟨mF, ms, mL, mO, m0⟩
          obtain ⟨l0, l1, l2, lf, ll⟩ := blk3 mL
          obtain ⟨o0, o1, o2, of, ol⟩ := blk3 mO
          have cg1 := (HC.out.frame mF (fun hh => hh)).cell
          have fg1 := (HC.out.frame mF (fun hh => hh)).free
          have lg1 := (HC.out.frame mF (fun hh => hh)).lt
          simp only [List.length_cons] at cg1
          have cgA : (W.alloc (.cells #[.int .i64 p.kind, .int .i64 p.n, .slice A2 0 0] 47)).cell? ⟨g, 0, none⟩ = _ := ((Frame.alloc (fun _ => False) W _).cell lg1 (fun hh => hh)).trans cg1
          have MO := Lib.hid mO
          have M0 := Lib.hid m0
          have MF := Lib.hid mF
          clear mL mO m0 mF lf of cg fg
          go_region_law
            ((refine step_append_src (by rfl) _ _ _ (by rfl) 0 47 i0 _ 3 40 Tryz.underlying22 hi hz0 hz1 hz2 rfl (by decide) _ 1 [.int .i64 p.kind, .int .i64 p.n, .slice A2 0 0] (by rfl) (lit_part (heap_new_at _ _ (by omega))) _ q.length _ (cellsP q svs) (by rfl) (by rw [cellsP_length _ _ hsl]) (HSRC.out _ ?_) (cellsP_one hsl HSE.out) (by unfold maxLen; omega) (by omega) (Nat.zero_le _) ?_; (focus (refine MF.out.trans (T := fun _ => False) ?_ (fun _ _ hh => hh); repeat (first | exact Frame.refl _ _ | refine Frame.andDrew ?_ | refine Frame.andAlloc ?_ _))); intro v' w' hown hg hat; obtain ⟨A5, c5, rfl⟩ := own_shape hown; obtain ⟨hrd, hfr⟩ := left_row (F := F) (w := w) (L := w.heap.size + 4) (⟨p.kind, p.n, p.signs.drop c2⟩) HF.out (by refine MF.out.trans (T := fun _ => False) ?_ (fun _ _ hh => hh); repeat (first | exact Frame.refl _ _ | refine Frame.andDrew ?_ | refine Frame.andAlloc ?_ _)) (by omega) (by simp; omega) hown hg hat HRD0.out hsl HSE.out; have hfr2 : Frame (fun k => W.heap.size ≤ k) W w' := (by refine Frame.andGrow ?_ hg (fun k e => by have e' : w.heap.size + 4 = k := Option.some.inj e; omega); repeat (first | exact Frame.refl _ _ | refine Frame.andDrew ?_ | refine Frame.andAlloc ?_ _)); have cg2 := (HC.out.frame hfr (fun hh => hh)).cell; have fg2 := (HC.out.frame hfr (fun hh => hh)).free; simp only [List.length_cons] at cg2; obtain ⟨p0, p1, p2, pf, pl⟩ := blk3 (hfr2.heap MO.out (by omega)); obtain ⟨r0, r1, r2, rf, rl⟩ := blk3 (hfr2.heap M0.out (by omega)); have rf0 := rf 0; have rf1 := rf 1; have rf2 := rf 2; rw [← EL.out] at hrd; have HRD2 := Lib.hid hrd; have HFR := Lib.hid hfr; clear hown hg hat hrd hfr hfr2 pf rf cg1 fg1 cgA))
          all_goals (go_wp2_with (fail))
          all_goals exact bodyPost_ret (v := .agg #[.int .i64 p.kind, .int .i64 p.n, .slice A2 c2 c2]) (by simp [results, Tryz.results45, go_sem, r0, r1, r2]) rfl (take_end HC.out HG.out HF.out (L := w.heap.size + 4) (by omega) HRD2.out HFR.out (by rw [ET.out]) (by rw [ET.out]) (by rw [ET.out]; exact HRT.out))
      · obtain ⟨ea, ec⟩ := hcq.out
        rw [if_neg hcc] at ea
        subst ea ec
        go_enter Tryz.func45, Tryz.ntmps45
        go_wp2_with (fail)
        go_region
        all_goals (go_wp2_with (fail); go_region)
        all_goals (go_wp2_with (fail))
        ·
          refine wp_gen (Mid w (w.heap.size + 1 + 1) (w.heap.size + 1 + 1 + 1) (.cells #[.int .i64 p.kind, .int .i64 p.n, .slice A2 0 0] 47) (.cells #[.int .i64 p.kind, .int .i64 p.n, .slice A2 c2 c2] 47)) (mid_b _ _ _ _) ?_
          rintro W ⟨mF, ms, mL, mO, m0⟩
          obtain ⟨l0, l1, l2, lf, ll⟩ := blk3 mL
          obtain ⟨o0, o1, o2, of, ol⟩ := blk3 mO
          have cg1 := (HC.out.frame mF (fun hh => hh)).cell
          have fg1 := (HC.out.frame mF (fun hh => hh)).free
          have lg1 := (HC.out.frame mF (fun hh => hh)).lt
          simp only [List.length_cons] at cg1
          have cgA : (W.alloc (.cells #[.int .i64 p.kind, .int .i64 p.n, .slice A2 0 0] 47)).cell? ⟨g, 0, none⟩ = _ := ((Frame.alloc (fun _ => False) W _).cell lg1 (fun hh => hh)).trans cg1
          have MO := Lib.hid mO
          have M0 := Lib.hid m0
          have MF := Lib.hid mF
          clear mL mO m0 mF lf of cg fg
          go_region_law
            ((refine step_append_src (by rfl) _ _ _ (by rfl) 0 47 i0 _ 3 40 Tryz.underlying22 hi hz0 hz1 hz2 rfl (by decide) _ 1 [.int .i64 p.kind, .int .i64 p.n, .slice A2 0 0] (by rfl) (lit_part (heap_new_at _ _ (by omega))) _ q.length _ (cellsP q svs) (by rfl) (by rw [cellsP_length _ _ hsl]) (HSRC.out _ ?_) (cellsP_one hsl HSE.out) (by unfold maxLen; omega) (by omega) (Nat.zero_le _) ?_; (focus (refine MF.out.trans (T := fun _ => False) ?_ (fun _ _ hh => hh); repeat (first | exact Frame.refl _ _ | refine Frame.andDrew ?_ | refine Frame.andAlloc ?_ _))); intro v' w' hown hg hat; obtain ⟨A5, c5, rfl⟩ := own_shape hown; obtain ⟨hrd, hfr⟩ := left_row (F := F) (w := w) (L := w.heap.size + 4) (⟨p.kind, p.n, p.signs.drop c2⟩) HF.out (by refine MF.out.trans (T := fun _ => False) ?_ (fun _ _ hh => hh); repeat (first | exact Frame.refl _ _ | refine Frame.andDrew ?_ | refine Frame.andAlloc ?_ _)) (by omega) (by simp; omega) hown hg hat HRD0.out hsl HSE.out; have hfr2 : Frame (fun k => W.heap.size ≤ k) W w' := (by refine Frame.andGrow ?_ hg (fun k e => by have e' : w.heap.size + 4 = k := Option.some.inj e; omega); repeat (first | exact Frame.refl _ _ | refine Frame.andDrew ?_ | refine Frame.andAlloc ?_ _)); have cg2 := (HC.out.frame hfr (fun hh => hh)).cell; have fg2 := (HC.out.frame hfr (fun hh => hh)).free; simp only [List.length_cons] at cg2; obtain ⟨p0, p1, p2, pf, pl⟩ := blk3 (hfr2.heap MO.out (by omega)); obtain ⟨r0, r1, r2, rf, rl⟩ := blk3 (hfr2.heap M0.out (by omega)); have rf0 := rf 0; have rf1 := rf 1; have rf2 := rf 2; rw [← EL.out] at hrd; have HRD2 := Lib.hid hrd; have HFR := Lib.hid hfr; clear hown hg hat hrd hfr hfr2 pf rf cg1 fg1 cgA))
          all_goals (go_wp2_with (fail))
          all_goals exact bodyPost_ret (v := .agg #[.int .i64 p.kind, .int .i64 p.n, .slice A2 c2 c2]) (by simp [results, Tryz.results45, go_sem, r0, r1, r2]) rfl (take_end HC.out HG.out HF.out (L := w.heap.size + 4) (by omega) HRD2.out HFR.out (by rw [ET.out]) (by rw [ET.out]) (by rw [ET.out]; exact HRT.out))
        ·
          refine wp_gen (Mid w (w.heap.size + 1 + 1 + 1) (w.heap.size + 1 + 1) (.cells #[.int .i64 p.kind, .int .i64 p.n, .slice A2 0 0] 47) (.cells #[.int .i64 p.kind, .int .i64 p.n, .slice A2 c2 c2] 47)) (mid_a _ _ _ _) ?_
          rintro W ⟨mF, ms, mL, mO, m0⟩
          obtain ⟨l0, l1, l2, lf, ll⟩ := blk3 mL
          obtain ⟨o0, o1, o2, of, ol⟩ := blk3 mO
          have cg1 := (HC.out.frame mF (fun hh => hh)).cell
          have fg1 := (HC.out.frame mF (fun hh => hh)).free
          have lg1 := (HC.out.frame mF (fun hh => hh)).lt
          simp only [List.length_cons] at cg1
          have cgA : (W.alloc (.cells #[.int .i64 p.kind, .int .i64 p.n, .slice A2 0 0] 47)).cell? ⟨g, 0, none⟩ = _ := ((Frame.alloc (fun _ => False) W _).cell lg1 (fun hh => hh)).trans cg1
          have MO := Lib.hid mO
          have M0 := Lib.hid m0
          have MF := Lib.hid mF
          clear mL mO m0 mF lf of cg fg
          go_region_law
            ((refine step_append_src (by rfl) _ _ _ (by rfl) 0 47 i0 _ 3 40 Tryz.underlying22 hi hz0 hz1 hz2 rfl (by decide) _ 1 [.int .i64 p.kind, .int .i64 p.n, .slice A2 0 0] (by rfl) (lit_part (heap_new_at _ _ (by omega))) _ q.length _ (cellsP q svs) (by rfl) (by rw [cellsP_length _ _ hsl]) (HSRC.out _ ?_) (cellsP_one hsl HSE.out) (by unfold maxLen; omega) (by omega) (Nat.zero_le _) ?_; (focus (refine MF.out.trans (T := fun _ => False) ?_ (fun _ _ hh => hh); repeat (first | exact Frame.refl _ _ | refine Frame.andDrew ?_ | refine Frame.andAlloc ?_ _))); intro v' w' hown hg hat; obtain ⟨A5, c5, rfl⟩ := own_shape hown; obtain ⟨hrd, hfr⟩ := left_row (F := F) (w := w) (L := w.heap.size + 4) (⟨p.kind, p.n, p.signs.drop c2⟩) HF.out (by refine MF.out.trans (T := fun _ => False) ?_ (fun _ _ hh => hh); repeat (first | exact Frame.refl _ _ | refine Frame.andDrew ?_ | refine Frame.andAlloc ?_ _)) (by omega) (by simp; omega) hown hg hat HRD0.out hsl HSE.out; have hfr2 : Frame (fun k => W.heap.size ≤ k) W w' := (by refine Frame.andGrow ?_ hg (fun k e => by have e' : w.heap.size + 4 = k := Option.some.inj e; omega); repeat (first | exact Frame.refl _ _ | refine Frame.andDrew ?_ | refine Frame.andAlloc ?_ _)); have cg2 := (HC.out.frame hfr (fun hh => hh)).cell; have fg2 := (HC.out.frame hfr (fun hh => hh)).free; simp only [List.length_cons] at cg2; obtain ⟨p0, p1, p2, pf, pl⟩ := blk3 (hfr2.heap MO.out (by omega)); obtain ⟨r0, r1, r2, rf, rl⟩ := blk3 (hfr2.heap M0.out (by omega)); have rf0 := rf 0; have rf1 := rf 1; have rf2 := rf 2; rw [← EL.out] at hrd; have HRD2 := Lib.hid hrd; have HFR := Lib.hid hfr; clear hown hg hat hrd hfr hfr2 pf rf cg1 fg1 cgA))
          all_goals (go_wp2_with (fail))
          all_goals exact bodyPost_ret (v := .agg #[.int .i64 p.kind, .int .i64 p.n, .slice A2 c2 c2]) (by simp [results, Tryz.results45, go_sem, r0, r1, r2]) rfl (take_end HC.out HG.out HF.out (L := w.heap.size + 4) (by omega) HRD2.out HFR.out (by rw [ET.out]) (by rw [ET.out]) (by rw [ET.out]; exact HRT.out))
    ·
      by_cases hcc : c1 = 1
      · obtain ⟨ea, ec⟩ := hcq.out
        rw [if_pos hcc] at ea
        subst ea ec
        go_enter Tryz.func45, Tryz.ntmps45
        go_wp2_with (fail)
        go_region
        all_goals (go_wp2_with (fail); go_region)
        all_goals (go_wp2_with (fail))
        ·
          refine wp_gen (Mid w (w.heap.size + 1 + 1) (w.heap.size + 1 + 1 + 1) (.cells #[.int .i64 p.kind, .int .i64 p.n, .slice (Option.map (fun x => x.add n) A2) (p.signs.length - n) (c2 - n)] 47) (.cells #[.int .i64 p.kind, .int .i64 p.n, .slice A2 n c2] 47)) (mid_b _ _ _ _) ?_
          rintro W ⟨mF, ms, mL, mO, m0⟩
          obtain ⟨l0, l1, l2, lf, ll⟩ := blk3 mL
          obtain ⟨o0, o1, o2, of, ol⟩ := blk3 mO
          have cg1 := (HC.out.frame mF (fun hh => hh)).cell
          have fg1 := (HC.out.frame mF (fun hh => hh)).free
          have lg1 := (HC.out.frame mF (fun hh => hh)).lt
          simp only [List.length_cons] at cg1
          have cgA : (W.alloc (.cells #[.int .i64 p.kind, .int .i64 p.n, .slice (Option.map (fun x => x.add n) A2) (p.signs.length - n) (c2 - n)] 47)).cell? ⟨g, 0, none⟩ = _ := ((Frame.alloc (fun _ => False) W _).cell lg1 (fun hh => hh)).trans cg1
          have MO := Lib.hid mO
          have M0 := Lib.hid m0
          have MF := Lib.hid mF
          clear mL mO m0 mF lf of cg fg
          go_region_law
            ((refine step_append_src (by rfl) _ _ _ (by rfl) 0 47 i0 _ 3 40 Tryz.underlying22 hi hz0 hz1 hz2 rfl (by decide) _ 1 [.int .i64 p.kind, .int .i64 p.n, .slice (Option.map (fun x => x.add n) A2) (p.signs.length - n) (c2 - n)] (by rfl) (lit_part (heap_new_at _ _ (by omega))) _ q.length _ (cellsP q svs) (by rfl) (by rw [cellsP_length _ _ hsl]) (HSRC.out _ ?_) (cellsP_one hsl HSE.out) (by unfold maxLen; omega) (by omega) (Nat.zero_le _) ?_; (focus (refine MF.out.trans (T := fun _ => False) ?_ (fun _ _ hh => hh); repeat (first | exact Frame.refl _ _ | refine Frame.andDrew ?_ | refine Frame.andAlloc ?_ _))); intro v' w' hown hg hat; obtain ⟨A5, c5, rfl⟩ := own_shape hown; obtain ⟨hrd, hfr⟩ := left_row (F := F) (w := w) (L := w.heap.size + 4) (⟨p.kind, p.n, p.signs.drop n⟩) HF.out (by refine MF.out.trans (T := fun _ => False) ?_ (fun _ _ hh => hh); repeat (first | exact Frame.refl _ _ | refine Frame.andDrew ?_ | refine Frame.andAlloc ?_ _)) (by omega) (by simp; omega) hown hg hat (by simpa [hcn] using HRD.out) hsl HSE.out; have hfr2 : Frame (fun k => W.heap.size ≤ k) W w' := (by refine Frame.andGrow ?_ hg (fun k e => by have e' : w.heap.size + 4 = k := Option.some.inj e; omega); repeat (first | exact Frame.refl _ _ | refine Frame.andDrew ?_ | refine Frame.andAlloc ?_ _)); have cg2 := (HC.out.frame hfr (fun hh => hh)).cell; have fg2 := (HC.out.frame hfr (fun hh => hh)).free; simp only [List.length_cons] at cg2; obtain ⟨p0, p1, p2, pf, pl⟩ := blk3 (hfr2.heap MO.out (by omega)); obtain ⟨r0, r1, r2, rf, rl⟩ := blk3 (hfr2.heap M0.out (by omega)); have rf0 := rf 0; have rf1 := rf 1; have rf2 := rf 2; rw [← EL.out] at hrd; have HRD2 := Lib.hid hrd; have HFR := Lib.hid hfr; clear hown hg hat hrd hfr hfr2 pf rf cg1 fg1 cgA))
          all_goals (go_wp2_with (fail))
          all_goals exact bodyPost_ret (v := .agg #[.int .i64 p.kind, .int .i64 p.n, .slice A2 n c2]) (by simp [results, Tryz.results45, go_sem, r0, r1, r2]) rfl (take_end HC.out HG.out HF.out (L := w.heap.size + 4) (by omega) HRD2.out HFR.out (by rw [ET.out]) (by rw [ET.out]) (by rw [ET.out]; exact HRT.out))
        ·
          refine wp_gen (Mid w (w.heap.size + 1 + 1 + 1) (w.heap.size + 1 + 1) (.cells #[.int .i64 p.kind, .int .i64 p.n, .slice (Option.map (fun x => x.add n) A2) (p.signs.length - n) (c2 - n)] 47) (.cells #[.int .i64 p.kind, .int .i64 p.n, .slice A2 n c2] 47)) (mid_a _ _ _ _) ?_
          rintro W ⟨mF, ms, mL, mO, m0⟩
          obtain ⟨l0, l1, l2, lf, ll⟩ := blk3 mL
          obtain ⟨o0, o1, o2, of, ol⟩ := blk3 mO
          have cg1 := (HC.out.frame mF (fun hh => hh)).cell
          have fg1 := (HC.out.frame mF (fun hh => hh)).free
          have lg1 := (HC.out.frame mF (fun hh => hh)).lt
          simp only [List.length_cons] at cg1
          have cgA : (W.alloc (.cells #[.int .i64 p.kind, .int .i64 p.n, .slice (Option.map (fun x => x.add n) A2) (p.signs.length - n) (c2 - n)] 47)).cell? ⟨g, 0, none⟩ = _ := ((Frame.alloc (fun _ => False) W _).cell lg1 (fun hh => hh)).trans cg1
          have MO := Lib.hid mO
          have M0 := Lib.hid m0
          have MF := Lib.hid mF
          clear mL mO m0 mF lf of cg fg
          go_region_law
            ((refine step_append_src (by rfl) _ _ _ (by rfl) 0 47 i0 _ 3 40 Tryz.underlying22 hi hz0 hz1 hz2 rfl (by decide) _ 1 [.int .i64 p.kind, .int .i64 p.n, .slice (Option.map (fun x => x.add n) A2) (p.signs.length - n) (c2 - n)] (by rfl) (lit_part (heap_new_at _ _ (by omega))) _ q.length _ (cellsP q svs) (by rfl) (by rw [cellsP_length _ _ hsl]) (HSRC.out _ ?_) (cellsP_one hsl HSE.out) (by unfold maxLen; omega) (by omega) (Nat.zero_le _) ?_; (focus (refine MF.out.trans (T := fun _ => False) ?_ (fun _ _ hh => hh); repeat (first | exact Frame.refl _ _ | refine Frame.andDrew ?_ | refine Frame.andAlloc ?_ _))); intro v' w' hown hg hat; obtain ⟨A5, c5, rfl⟩ := own_shape hown; obtain ⟨hrd, hfr⟩ := left_row (F := F) (w := w) (L := w.heap.size + 4) (⟨p.kind, p.n, p.signs.drop n⟩) HF.out (by refine MF.out.trans (T := fun _ => False) ?_ (fun _ _ hh => hh); repeat (first | exact Frame.refl _ _ | refine Frame.andDrew ?_ | refine Frame.andAlloc ?_ _)) (by omega) (by simp; omega) hown hg hat (by simpa [hcn] using HRD.out) hsl HSE.out; have hfr2 : Frame (fun k => W.heap.size ≤ k) W w' := (by refine Frame.andGrow ?_ hg (fun k e => by have e' : w.heap.size + 4 = k := Option.some.inj e; omega); repeat (first | exact Frame.refl _ _ | refine Frame.andDrew ?_ | refine Frame.andAlloc ?_ _)); have cg2 := (HC.out.frame hfr (fun hh => hh)).cell; have fg2 := (HC.out.frame hfr (fun hh => hh)).free; simp only [List.length_cons] at cg2; obtain ⟨p0, p1, p2, pf, pl⟩ := blk3 (hfr2.heap MO.out (by omega)); obtain ⟨r0, r1, r2, rf, rl⟩ := blk3 (hfr2.heap M0.out (by omega)); have rf0 := rf 0; have rf1 := rf 1; have rf2 := rf 2; rw [← EL.out] at hrd; have HRD2 := Lib.hid hrd; have HFR := Lib.hid hfr; clear hown hg hat hrd hfr hfr2 pf rf cg1 fg1 cgA))
          all_goals (go_wp2_with (fail))
          all_goals exact bodyPost_ret (v := .agg #[.int .i64 p.kind, .int .i64 p.n, .slice A2 n c2]) (by simp [results, Tryz.results45, go_sem, r0, r1, r2]) rfl (take_end HC.out HG.out HF.out (L := w.heap.size + 4) (by omega) HRD2.out HFR.out (by rw [ET.out]) (by rw [ET.out]) (by rw [ET.out]; exact HRT.out))
      · obtain ⟨ea, ec⟩ := hcq.out
        rw [if_neg hcc] at ea
        subst ea ec
        go_enter Tryz.func45, Tryz.ntmps45
        go_wp2_with (fail)
        go_region
        all_goals (go_wp2_with (fail); go_region)
        all_goals (go_wp2_with (fail))
        ·
          refine wp_gen (Mid w (w.heap.size + 1 + 1) (w.heap.size + 1 + 1 + 1) (.cells #[.int .i64 p.kind, .int .i64 p.n, .slice (Option.map (fun x => x.add n) A2) (p.signs.length - n) (c2 - n)] 47) (.cells #[.int .i64 p.kind, .int .i64 p.n, .slice A2 n c2] 47)) (mid_b _ _ _ _) ?_
          rintro W ⟨mF, ms, mL, mO, m0⟩
          obtain ⟨l0, l1, l2, lf, ll⟩ := blk3 mL
          obtain ⟨o0, o1, o2, of, ol⟩ := blk3 mO
          have cg1 := (HC.out.frame mF (fun hh => hh)).cell
          have fg1 := (HC.out.frame mF (fun hh => hh)).free
          have lg1 := (HC.out.frame mF (fun hh => hh)).lt
          simp only [List.length_cons] at cg1
          have cgA : (W.alloc (.cells #[.int .i64 p.kind, .int .i64 p.n, .slice (Option.map (fun x => x.add n) A2) (p.signs.length - n) (c2 - n)] 47)).cell? ⟨g, 0, none⟩ = _ := ((Frame.alloc (fun _ => False) W _).cell lg1 (fun hh => hh)).trans cg1
          have MO := Lib.hid mO
          have M0 := Lib.hid m0
          have MF := Lib.hid mF
          clear mL mO m0 mF lf of cg fg
          go_region_law
            ((refine step_append_src (by rfl) _ _ _ (by rfl) 0 47 i0 _ 3 40 Tryz.underlying22 hi hz0 hz1 hz2 rfl (by decide) _ 1 [.int .i64 p.kind, .int .i64 p.n, .slice (Option.map (fun x => x.add n) A2) (p.signs.length - n) (c2 - n)] (by rfl) (lit_part (heap_new_at _ _ (by omega))) _ q.length _ (cellsP q svs) (by rfl) (by rw [cellsP_length _ _ hsl]) (HSRC.out _ ?_) (cellsP_one hsl HSE.out) (by unfold maxLen; omega) (by omega) (Nat.zero_le _) ?_; (focus (refine MF.out.trans (T := fun _ => False) ?_ (fun _ _ hh => hh); repeat (first | exact Frame.refl _ _ | refine Frame.andDrew ?_ | refine Frame.andAlloc ?_ _))); intro v' w' hown hg hat; obtain ⟨A5, c5, rfl⟩ := own_shape hown; obtain ⟨hrd, hfr⟩ := left_row (F := F) (w := w) (L := w.heap.size + 4) (⟨p.kind, p.n, p.signs.drop n⟩) HF.out (by refine MF.out.trans (T := fun _ => False) ?_ (fun _ _ hh => hh); repeat (first | exact Frame.refl _ _ | refine Frame.andDrew ?_ | refine Frame.andAlloc ?_ _)) (by omega) (by simp; omega) hown hg hat (by simpa [hcn] using HRD.out) hsl HSE.out; have hfr2 : Frame (fun k => W.heap.size ≤ k) W w' := (by refine Frame.andGrow ?_ hg (fun k e => by have e' : w.heap.size + 4 = k := Option.some.inj e; omega); repeat (first | exact Frame.refl _ _ | refine Frame.andDrew ?_ | refine Frame.andAlloc ?_ _)); have cg2 := (HC.out.frame hfr (fun hh => hh)).cell; have fg2 := (HC.out.frame hfr (fun hh => hh)).free; simp only [List.length_cons] at cg2; obtain ⟨p0, p1, p2, pf, pl⟩ := blk3 (hfr2.heap MO.out (by omega)); obtain ⟨r0, r1, r2, rf, rl⟩ := blk3 (hfr2.heap M0.out (by omega)); have rf0 := rf 0; have rf1 := rf 1; have rf2 := rf 2; rw [← EL.out] at hrd; have HRD2 := Lib.hid hrd; have HFR := Lib.hid hfr; clear hown hg hat hrd hfr hfr2 pf rf cg1 fg1 cgA))
          all_goals (go_wp2_with (fail))
          all_goals exact bodyPost_ret (v := .agg #[.int .i64 p.kind, .int .i64 p.n, .slice A2 n c2]) (by simp [results, Tryz.results45, go_sem, r0, r1, r2]) rfl (take_end HC.out HG.out HF.out (L := w.heap.size + 4) (by omega) HRD2.out HFR.out (by rw [ET.out]) (by rw [ET.out]) (by rw [ET.out]; exact HRT.out))
        ·
          refine wp_gen (Mid w (w.heap.size + 1 + 1 + 1) (w.heap.size + 1 + 1) (.cells #[.int .i64 p.kind, .int .i64 p.n, .slice (Option.map (fun x => x.add n) A2) (p.signs.length - n) (c2 - n)] 47) (.cells #[.int .i64 p.kind, .int .i64 p.n, .slice A2 n c2] 47)) (mid_a _ _ _ _) ?_
          rintro W ⟨mF, ms, mL, mO, m0⟩
          obtain ⟨l0, l1, l2, lf, ll⟩ := blk3 mL
          obtain ⟨o0, o1, o2, of, ol⟩ := blk3 mO
          have cg1 := (HC.out.frame mF (fun hh => hh)).cell
          have fg1 := (HC.out.frame mF (fun hh => hh)).free
          have lg1 := (HC.out.frame mF (fun hh => hh)).lt
          simp only [List.length_cons] at cg1
          have cgA : (W.alloc (.cells #[.int .i64 p.kind, .int .i64 p.n, .slice (Option.map (fun x => x.add n) A2) (p.signs.length - n) (c2 - n)] 47)).cell? ⟨g, 0, none⟩ = _ := ((Frame.alloc (fun _ => False) W _).cell lg1 (fun hh => hh)).trans cg1
          have MO := Lib.hid mO
          have M0 := Lib.hid m0
          have MF := Lib.hid mF
          clear mL mO m0 mF lf of cg fg
          go_region_law
            ((refine step_append_src (by rfl) _ _ _ (by rfl) 0 47 i0 _ 3 40 Tryz.underlying22 hi hz0 hz1 hz2 rfl (by decide) _ 1 [.int .i64 p.kind, .int .i64 p.n, .slice (Option.map (fun x => x.add n) A2) (p.signs.length - n) (c2 - n)] (by rfl) (lit_part (heap_new_at _ _ (by omega))) _ q.length _ (cellsP q svs) (by rfl) (by rw [cellsP_length _ _ hsl]) (HSRC.out _ ?_) (cellsP_one hsl HSE.out) (by unfold maxLen; omega) (by omega) (Nat.zero_le _) ?_; (focus (refine MF.out.trans (T := fun _ => False) ?_ (fun _ _ hh => hh); repeat (first | exact Frame.refl _ _ | refine Frame.andDrew ?_ | refine Frame.andAlloc ?_ _))); intro v' w' hown hg hat; obtain ⟨A5, c5, rfl⟩ := own_shape hown; obtain ⟨hrd, hfr⟩ := left_row (F := F) (w := w) (L := w.heap.size + 4) (⟨p.kind, p.n, p.signs.drop n⟩) HF.out (by refine MF.out.trans (T := fun _ => False) ?_ (fun _ _ hh => hh); repeat (first | exact Frame.refl _ _ | refine Frame.andDrew ?_ | refine Frame.andAlloc ?_ _)) (by omega) (by simp; omega) hown hg hat (by simpa [hcn] using HRD.out) hsl HSE.out; have hfr2 : Frame (fun k => W.heap.size ≤ k) W w' := (by refine Frame.andGrow ?_ hg (fun k e => by have e' : w.heap.size + 4 = k := Option.some.inj e; omega); repeat (first | exact Frame.refl _ _ | refine Frame.andDrew ?_ | refine Frame.andAlloc ?_ _)); have cg2 := (HC.out.frame hfr (fun hh => hh)).cell; have fg2 := (HC.out.frame hfr (fun hh => hh)).free; simp only [List.length_cons] at cg2; obtain ⟨p0, p1, p2, pf, pl⟩ := blk3 (hfr2.heap MO.out (by omega)); obtain ⟨r0, r1, r2, rf, rl⟩ := blk3 (hfr2.heap M0.out (by omega)); have rf0 := rf 0; have rf1 := rf 1; have rf2 := rf 2; rw [← EL.out] at hrd; have HRD2 := Lib.hid hrd; have HFR := Lib.hid hfr; clear hown hg hat hrd hfr hfr2 pf rf cg1 fg1 cgA))
          all_goals (go_wp2_with (fail))
          all_goals exact bodyPost_ret (v := .agg #[.int .i64 p.kind, .int .i64 p.n, .slice A2 n c2]) (by simp [results, Tryz.results45, go_sem, r0, r1, r2]) rfl (take_end HC.out HG.out HF.out (L := w.heap.size + 4) (by omega) HRD2.out HFR.out (by rw [ET.out]) (by rw [ET.out]) (by rw [ET.out]; exact HRT.out))
  · have k2 : (p.kind == 2) = false := by simp [hk]
    have HK := Lib.hid hk
    have hn2 : (n : Int) ≤ p.n := by have := Pl.size_13 hok hk; omega
    have EL : Hid (Pl.lf p n = ⟨p.kind, p.n - n, p.signs⟩) := by show _ = _; rw [Pl.lf, if_neg hk]
    have ET : Hid (Pl.tk p n = ⟨p.kind, n, p.signs⟩) := by show _ = _; rw [Pl.tk, if_neg hk]
    clear hk hn
    by_cases hcc : c1 = 1
    · obtain ⟨ea, ec⟩ := hcq.out
      rw [if_pos hcc] at ea
      subst ea ec
      go_enter Tryz.func45, Tryz.ntmps45
      go_wp2_with (fail)
      go_region
      all_goals (go_wp2_with (fail); go_region)
      all_goals (go_wp2_with (fail))
      ·
        refine wp_gen (Mid w (w.heap.size + 1 + 1) (w.heap.size + 1 + 1 + 1) (.cells #[.int .i64 p.kind, .int .i64 (p.n - n), .slice A2 p.signs.length c2] 47) (.cells #[.int .i64 p.kind, .int .i64 n, .slice A2 p.signs.length c2] 47)) (mid_b _ _ _ _) ?_
        rintro W ⟨mF, ms, mL, mO, m0⟩
        obtain ⟨l0, l1, l2, lf, ll⟩ := blk3 mL
        obtain ⟨o0, o1, o2, of, ol⟩ := blk3 mO
        have cg1 := (HC.out.frame mF (fun hh => hh)).cell
        have fg1 := (HC.out.frame mF (fun hh => hh)).free
        have lg1 := (HC.out.frame mF (fun hh => hh)).lt
        simp only [List.length_cons] at cg1
        have cgA : (W.alloc (.cells #[.int .i64 p.kind, .int .i64 (p.n - n), .slice A2 p.signs.length c2] 47)).cell? ⟨g, 0, none⟩ = _ := ((Frame.alloc (fun _ => False) W _).cell lg1 (fun hh => hh)).trans cg1
        have MO := Lib.hid mO
        have M0 := Lib.hid m0
        have MF := Lib.hid mF
        clear mL mO m0 mF lf of cg fg
        go_region_law
          ((refine step_append_src (by rfl) _ _ _ (by rfl) 0 47 i0 _ 3 40 Tryz.underlying22 hi hz0 hz1 hz2 rfl (by decide) _ 1 [.int .i64 p.kind, .int .i64 (p.n - n), .slice A2 p.signs.length c2] (by rfl) (lit_part (heap_new_at _ _ (by omega))) _ q.length _ (cellsP q svs) (by rfl) (by rw [cellsP_length _ _ hsl]) (HSRC.out _ ?_) (cellsP_one hsl HSE.out) (by unfold maxLen; omega) (by omega) (Nat.zero_le _) ?_; (focus (refine MF.out.trans (T := fun _ => False) ?_ (fun _ _ hh => hh); repeat (first | exact Frame.refl _ _ | refine Frame.andDrew ?_ | refine Frame.andAlloc ?_ _))); intro v' w' hown hg hat; obtain ⟨A5, c5, rfl⟩ := own_shape hown; obtain ⟨hrd, hfr⟩ := left_row (F := F) (w := w) (L := w.heap.size + 4) (⟨p.kind, p.n - n, p.signs⟩) HF.out (by refine MF.out.trans (T := fun _ => False) ?_ (fun _ _ hh => hh); repeat (first | exact Frame.refl _ _ | refine Frame.andDrew ?_ | refine Frame.andAlloc ?_ _)) (by omega) (by simp; omega) hown hg hat HS.out hsl HSE.out; have hfr2 : Frame (fun k => W.heap.size ≤ k) W w' := (by refine Frame.andGrow ?_ hg (fun k e => by have e' : w.heap.size + 4 = k := Option.some.inj e; omega); repeat (first | exact Frame.refl _ _ | refine Frame.andDrew ?_ | refine Frame.andAlloc ?_ _)); have cg2 := (HC.out.frame hfr (fun hh => hh)).cell; have fg2 := (HC.out.frame hfr (fun hh => hh)).free; simp only [List.length_cons] at cg2; obtain ⟨p0, p1, p2, pf, pl⟩ := blk3 (hfr2.heap MO.out (by omega)); obtain ⟨r0, r1, r2, rf, rl⟩ := blk3 (hfr2.heap M0.out (by omega)); have rf0 := rf 0; have rf1 := rf 1; have rf2 := rf 2; rw [← EL.out] at hrd; have HRD2 := Lib.hid hrd; have HFR := Lib.hid hfr; clear hown hg hat hrd hfr hfr2 pf rf cg1 fg1 cgA))
        all_goals (go_wp2_with (fail))
        all_goals exact bodyPost_ret (v := .agg #[.int .i64 p.kind, .int .i64 n, .slice A2 p.signs.length c2]) (by simp [results, Tryz.results45, go_sem, r0, r1, r2]) rfl (take_end HC.out HG.out HF.out (L := w.heap.size + 4) (by omega) HRD2.out HFR.out (by rw [ET.out]) (by rw [ET.out]) (by rw [ET.out]; exact HS.out))
      ·
        refine wp_gen (Mid w (w.heap.size + 1 + 1 + 1) (w.heap.size + 1 + 1) (.cells #[.int .i64 p.kind, .int .i64 (p.n - n), .slice A2 p.signs.length c2] 47) (.cells #[.int .i64 p.kind, .int .i64 n, .slice A2 p.signs.length c2] 47)) (mid_a _ _ _ _) ?_
        rintro W ⟨mF, ms, mL, mO, m0⟩
        obtain ⟨l0, l1, l2, lf, ll⟩ := blk3 mL
        obtain ⟨o0, o1, o2, of, ol⟩ := blk3 mO
        have cg1 := (HC.out.frame mF (fun hh => hh)).cell
        have fg1 := (HC.out.frame mF (fun hh => hh)).free
        have lg1 := (HC.out.frame mF (fun hh => hh)).lt
        simp only [List.length_cons] at cg1
        have cgA : (W.alloc (.cells #[.int .i64 p.kind, .int .i64 (p.n - n), .slice A2 p.signs.length c2] 47)).cell? ⟨g, 0, none⟩ = _ := ((Frame.alloc (fun _ => False) W _).cell lg1 (fun hh => hh)).trans cg1
        have MO := Lib.hid mO
        have M0 := Lib.hid m0
        have MF := Lib.hid mF
        clear mL mO m0 mF lf of cg fg
        go_region_law
          ((refine step_append_src (by rfl) _ _ _ (by rfl) 0 47 i0 _ 3 40 Tryz.underlying22 hi hz0 hz1 hz2 rfl (by decide) _ 1 [.int .i64 p.kind, .int .i64 (p.n - n), .slice A2 p.signs.length c2] (by rfl) (lit_part (heap_new_at _ _ (by omega))) _ q.length _ (cellsP q svs) (by rfl) (by rw [cellsP_length _ _ hsl]) (HSRC.out _ ?_) (cellsP_one hsl HSE.out) (by unfold maxLen; omega) (by omega) (Nat.zero_le _) ?_; (focus (refine MF.out.trans (T := fun _ => False) ?_ (fun _ _ hh => hh); repeat (first | exact Frame.refl _ _ | refine Frame.andDrew ?_ | refine Frame.andAlloc ?_ _))); intro v' w' hown hg hat; obtain ⟨A5, c5, rfl⟩ := own_shape hown; obtain ⟨hrd, hfr⟩ := left_row (F := F) (w := w) (L := w.heap.size + 4) (⟨p.kind, p.n - n, p.signs⟩) HF.out (by refine MF.out.trans (T := fun _ => False) ?_ (fun _ _ hh => hh); repeat (first | exact Frame.refl _ _ | refine Frame.andDrew ?_ | refine Frame.andAlloc ?_ _)) (by omega) (by simp; omega) hown hg hat HS.out hsl HSE.out; have hfr2 : Frame (fun k => W.heap.size ≤ k) W w' := (by refine Frame.andGrow ?_ hg (fun k e => by have e' : w.heap.size + 4 = k := Option.some.inj e; omega); repeat (first | exact Frame.refl _ _ | refine Frame.andDrew ?_ | refine Frame.andAlloc ?_ _)); have cg2 := (HC.out.frame hfr (fun hh => hh)).cell; have fg2 := (HC.out.frame hfr (fun hh => hh)).free; simp only [List.length_cons] at cg2; obtain ⟨p0, p1, p2, pf, pl⟩ := blk3 (hfr2.heap MO.out (by omega)); obtain ⟨r0, r1, r2, rf, rl⟩ := blk3 (hfr2.heap M0.out (by omega)); have rf0 := rf 0; have rf1 := rf 1; have rf2 := rf 2; rw [← EL.out] at hrd; have HRD2 := Lib.hid hrd; have HFR := Lib.hid hfr; clear hown hg hat hrd hfr hfr2 pf rf cg1 fg1 cgA))
        all_goals (go_wp2_with (fail))
        all_goals exact bodyPost_ret (v := .agg #[.int .i64 p.kind, .int .i64 n, .slice A2 p.signs.length c2]) (by simp [results, Tryz.results45, go_sem, r0, r1, r2]) rfl (take_end HC.out HG.out HF.out (L := w.heap.size + 4) (by omega) HRD2.out HFR.out (by rw [ET.out]) (by rw [ET.out]) (by rw [ET.out]; exact HS.out))
    · obtain ⟨ea, ec⟩ := hcq.out
      rw [if_neg hcc] at ea
      subst ea ec
      go_enter Tryz.func45, Tryz.ntmps45
      go_wp2_with (fail)
      go_region
      all_goals (go_wp2_with (fail); go_region)
      all_goals (go_wp2_with (fail))
      ·
        refine wp_gen (Mid w (w.heap.size + 1 + 1) (w.heap.size + 1 + 1 + 1) (.cells #[.int .i64 p.kind, .int .i64 (p.n - n), .slice A2 p.signs.length c2] 47) (.cells #[.int .i64 p.kind, .int .i64 n, .slice A2 p.signs.length c2] 47)) (mid_b _ _ _ _) ?_
        rintro W ⟨mF, ms, mL, mO, m0⟩
        obtain ⟨l0, l1, l2, lf, ll⟩ := blk3 mL
        obtain ⟨o0, o1, o2, of, ol⟩ := blk3 mO
        have cg1 := (HC.out.frame mF (fun hh => hh)).cell
        have fg1 := (HC.out.frame mF (fun hh => hh)).free
        have lg1 := (HC.out.frame mF (fun hh => hh)).lt
        simp only [List.length_cons] at cg1
        have cgA : (W.alloc (.cells #[.int .i64 p.kind, .int .i64 (p.n - n), .slice A2 p.signs.length c2] 47)).cell? ⟨g, 0, none⟩ = _ := ((Frame.alloc (fun _ => False) W _).cell lg1 (fun hh => hh)).trans cg1
        have MO := Lib.hid mO
        have M0 := Lib.hid m0
        have MF := Lib.hid mF
        clear mL mO m0 mF lf of cg fg
        go_region_law
          ((refine step_append_src (by rfl) _ _ _ (by rfl) 0 47 i0 _ 3 40 Tryz.underlying22 hi hz0 hz1 hz2 rfl (by decide) _ 1 [.int .i64 p.kind, .int .i64 (p.n - n), .slice A2 p.signs.length c2] (by rfl) (lit_part (heap_new_at _ _ (by omega))) _ q.length _ (cellsP q svs) (by rfl) (by rw [cellsP_length _ _ hsl]) (HSRC.out _ ?_) (cellsP_one hsl HSE.out) (by unfold maxLen; omega) (by omega) (Nat.zero_le _) ?_; (focus (refine MF.out.trans (T := fun _ => False) ?_ (fun _ _ hh => hh); repeat (first | exact Frame.refl _ _ | refine Frame.andDrew ?_ | refine Frame.andAlloc ?_ _))); intro v' w' hown hg hat; obtain ⟨A5, c5, rfl⟩ := own_shape hown; obtain ⟨hrd, hfr⟩ := left_row (F := F) (w := w) (L := w.heap.size + 4) (⟨p.kind, p.n - n, p.signs⟩) HF.out (by refine MF.out.trans (T := fun _ => False) ?_ (fun _ _ hh => hh); repeat (first | exact Frame.refl _ _ | refine Frame.andDrew ?_ | refine Frame.andAlloc ?_ _)) (by omega) (by simp; omega) hown hg hat HS.out hsl HSE.out; have hfr2 : Frame (fun k => W.heap.size ≤ k) W w' := (by refine Frame.andGrow ?_ hg (fun k e => by have e' : w.heap.size + 4 = k := Option.some.inj e; omega); repeat (first | exact Frame.refl _ _ | refine Frame.andDrew ?_ | refine Frame.andAlloc ?_ _)); have cg2 := (HC.out.frame hfr (fun hh => hh)).cell; have fg2 := (HC.out.frame hfr (fun hh => hh)).free; simp only [List.length_cons] at cg2; obtain ⟨p0, p1, p2, pf, pl⟩ := blk3 (hfr2.heap MO.out (by omega)); obtain ⟨r0, r1, r2, rf, rl⟩ := blk3 (hfr2.heap M0.out (by omega)); have rf0 := rf 0; have rf1 := rf 1; have rf2 := rf 2; rw [← EL.out] at hrd; have HRD2 := Lib.hid hrd; have HFR := Lib.hid hfr; clear hown hg hat hrd hfr hfr2 pf rf cg1 fg1 cgA))
        all_goals (go_wp2_with (fail))
        all_goals exact bodyPost_ret (v := .agg #[.int .i64 p.kind, .int .i64 n, .slice A2 p.signs.length c2]) (by simp [results, Tryz.results45, go_sem, r0, r1, r2]) rfl (take_end HC.out HG.out HF.out (L := w.heap.size + 4) (by omega) HRD2.out HFR.out (by rw [ET.out]) (by rw [ET.out]) (by rw [ET.out]; exact HS.out))
      ·
        refine wp_gen (Mid w (w.heap.size + 1 + 1 + 1) (w.heap.size + 1 + 1) (.cells #[.int .i64 p.kind, .int .i64 (p.n - n), .slice A2 p.signs.length c2] 47) (.cells #[.int .i64 p.kind, .int .i64 n, .slice A2 p.signs.length c2] 47)) (mid_a _ _ _ _) ?_
        rintro W ⟨mF, ms, mL, mO, m0⟩
        obtain ⟨l0, l1, l2, lf, ll⟩ := blk3 mL
        obtain ⟨o0, o1, o2, of, ol⟩ := blk3 mO
        have cg1 := (HC.out.frame mF (fun hh => hh)).cell
        have fg1 := (HC.out.frame mF (fun hh => hh)).free
        have lg1 := (HC.out.frame mF (fun hh => hh)).lt
        simp only [List.length_cons] at cg1
        have cgA : (W.alloc (.cells #[.int .i64 p.kind, .int .i64 (p.n - n), .slice A2 p.signs.length c2] 47)).cell? ⟨g, 0, none⟩ = _ := ((Frame.alloc (fun _ => False) W _).cell lg1 (fun hh => hh)).trans cg1
        have MO := Lib.hid mO
        have M0 := Lib.hid m0
        have MF := Lib.hid mF
        clear mL mO m0 mF lf of cg fg
        go_region_law
          ((refine step_append_src (by rfl) _ _ _ (by rfl) 0 47 i0 _ 3 40 Tryz.underlying22 hi hz0 hz1 hz2 rfl (by decide) _ 1 [.int .i64 p.kind, .int .i64 (p.n - n), .slice A2 p.signs.length c2] (by rfl) (lit_part (heap_new_at _ _ (by omega))) _ q.length _ (cellsP q svs) (by rfl) (by rw [cellsP_length _ _ hsl]) (HSRC.out _ ?_) (cellsP_one hsl HSE.out) (by unfold maxLen; omega) (by omega) (Nat.zero_le _) ?_; (focus (refine MF.out.trans (T := fun _ => False) ?_ (fun _ _ hh => hh); repeat (first | exact Frame.refl _ _ | refine Frame.andDrew ?_ | refine Frame.andAlloc ?_ _))); intro v' w' hown hg hat; obtain ⟨A5, c5, rfl⟩ := own_shape hown; obtain ⟨hrd, hfr⟩ := left_row (F := F) (w := w) (L := w.heap.size + 4) (⟨p.kind, p.n - n, p.signs⟩) HF.out (by refine MF.out.trans (T := fun _ => False) ?_ (fun _ _ hh => hh); repeat (first | exact Frame.refl _ _ | refine Frame.andDrew ?_ | refine Frame.andAlloc ?_ _)) (by omega) (by simp; omega) hown hg hat HS.out hsl HSE.out; have hfr2 : Frame (fun k => W.heap.size ≤ k) W w' := (by refine Frame.andGrow ?_ hg (fun k e => by have e' : w.heap.size + 4 = k := Option.some.inj e; omega); repeat (first | exact Frame.refl _ _ | refine Frame.andDrew ?_ | refine Frame.andAlloc ?_ _)); have cg2 := (HC.out.frame hfr (fun hh => hh)).cell; have fg2 := (HC.out.frame hfr (fun hh => hh)).free; simp only [List.length_cons] at cg2; obtain ⟨p0, p1, p2, pf, pl⟩ := blk3 (hfr2.heap MO.out (by omega)); obtain ⟨r0, r1, r2, rf, rl⟩ := blk3 (hfr2.heap M0.out (by omega)); have rf0 := rf 0; have rf1 := rf 1; have rf2 := rf 2; rw [← EL.out] at hrd; have HRD2 := Lib.hid hrd; have HFR := Lib.hid hfr; clear hown hg hat hrd hfr hfr2 pf rf cg1 fg1 cgA))
        all_goals (go_wp2_with (fail))
        all_goals exact bodyPost_ret (v := .agg #[.int .i64 p.kind, .int .i64 n, .slice A2 p.signs.length c2]) (by simp [results, Tryz.results45, go_sem, r0, r1, r2]) rfl (take_end HC.out HG.out HF.out (L := w.heap.size + 4) (by omega) HRD2.out HFR.out (by rw [ET.out]) (by rw [ET.out]) (by rw [ET.out]; exact HS.out))
end Go.Proofs.YtookcfpiegbafaaGreatDoor
