/- Contract of the reference's Transform. Condition: none longer than any slice can be. -/
import Derived.Test.YtlpjbbmjchfolaaComposeS
import Derived.Test.YtlpjbbmjchfolaaOwn2
import Derived.Deep.DeepCutAuto
namespace Go.Proofs.Ytlpjbbmjchfolaa
open Go.RowKit
set_option maxRecDepth 100000
set_option linter.unusedVariables false

/-- Two builders side by side, at g and g + 1; all else of them lies behind. -/
def SB2 (g : Nat) (w : World) (b c : Pl.Bd) : Prop :=
  ∃ F K vo vp svs ho hp hs, SSt F w g vo vp vp b svs ∧ SSt K w (g + 1) ho hp hp c hs ∧ (∀ k, F k → g + 2 ≤ k) ∧ (∀ k, K k → g + 2 ≤ k) ∧ ∀ k, F k → ¬ K k
theorem SB2.lt {g : Nat} {w : World} {b c : Pl.Bd} (h : SB2 g w b c) : g + 1 < w.heap.size := by
  obtain ⟨F, K, vo, vp, svs, ho, hp, hs, h, k, hF, hK, hd⟩ := h
  exact (blk3 k.blk).2.2.2.2
theorem SB2.frame {S : Nat → Prop} {g : Nat} {w w' : World} {b c : Pl.Bd} (h : SB2 g w b c) (f : Frame S w w') (hS : ∀ k, g ≤ k → ¬ S k) : SB2 g w' b c := by
  obtain ⟨F, K, vo, vp, svs, ho, hp, hs, h, k, hF, hK, hd⟩ := h
  exact ⟨F, K, vo, vp, svs, ho, hp, hs, h.frame f (fun x hx => hS x (by have := hF x hx; omega)) (hS _ (by omega)), k.frame f (fun x hx => hS x (by have := hK x hx; omega)) (hS _ (by omega)), hF, hK, hd⟩
theorem SB2.new {w : World} : SB2 w.heap.size ((w.alloc (.cells #[.slice none 0 0, .slice none 0 0, .int .i64 0] 94)).alloc (.cells #[.slice none 0 0, .slice none 0 0, .int .i64 0] 94)) Pl.Bd.init Pl.Bd.init :=
  ⟨fun _ => False, fun _ => False, _, _, _, _, _, _,
    ⟨by rw [Below.heap_alloc _ _ _ (by simp)]; exact heap_new_at _ _ rfl, BldAt.init _, fun h => h⟩,
    ⟨heap_new_at _ _ (by simp), BldAt.init _, fun h => h⟩, fun _ h => h.elim, fun _ h => h.elim, fun _ h => h.elim⟩
theorem SB2.built1 {g : Nat} {w w' : World} {b' c : Pl.Bd} {F K : Nat → Prop} {ho hp : Value} {hs : List Value} {e : Ending} (hF : ∀ k, F k → g + 2 ≤ k) (hK : ∀ k, K k → g + 2 ≤ k) (hd : ∀ k, F k → ¬ K k)
    (st2 : SSt K w (g + 1) ho hp hp c hs) (h : Built F w g b' e w') : e = .returned (.tuple #[]) ∧ SB2 g w' b' c ∧ Below g w w' := by
  obtain ⟨rfl, vo', vp', svs', st, f⟩ := h
  have l2 := (blk3 st2.blk).2.2.2.2
  refine ⟨rfl, ⟨_, K, _, _, _, _, _, _, st, st2.frame f (fun k hk hh => ?_) (fun hh => ?_), plus_lo hF (by omega), hK, fun k hk hk2 => ?_⟩, f.below (fun k hk => ?_) (by omega)⟩
  · rcases hh with hh | hh
    · exact hd k hh hk
    · have := hK k hk; omega
  · rcases hh with hh | hh
    · have := hF _ hh; omega
    · omega
  · rcases hk with hk | hk
    · exact hd k hk hk2
    · have := st2.bld.top k hk2; omega
  · rcases hk with hk | hk
    · have := hF k hk; omega
    · omega
theorem SB2.built2 {g : Nat} {w w' : World} {b c' : Pl.Bd} {F K : Nat → Prop} {vo vp : Value} {svs : List Value} {e : Ending} (hF : ∀ k, F k → g + 2 ≤ k) (hK : ∀ k, K k → g + 2 ≤ k) (hd : ∀ k, F k → ¬ K k) (hl : g + 1 < w.heap.size)
    (st1 : SSt F w g vo vp vp b svs) (h : Built K w (g + 1) c' e w') : e = .returned (.tuple #[]) ∧ SB2 g w' b c' ∧ Below g w w' := by
  obtain ⟨rfl, vo', vp', svs', st, f⟩ := h
  refine ⟨rfl, ⟨F, _, _, _, _, _, _, _, st1.frame f (fun k hk hh => ?_) (fun hh => ?_), st, hF, plus_lo hK (by omega), fun k hk hk2 => ?_⟩, f.below (fun k hk => ?_) (by omega)⟩
  · rcases hh with hh | hh
    · exact hd k hk hh
    · have := hF k hk; omega
  · rcases hh with hh | hh
    · have := hK _ hh; omega
    · omega
  · rcases hk2 with hk2 | hk2
    · exact hd k hk hk2
    · have := st1.bld.top k hk; omega
  · rcases hk with hk | hk
    · have := hK k hk; omega
    · omega
theorem keep1 (g : Nat) (w : World) (b c : Pl.Bd) (n : Int) (m : Nat) (h : SB2 g w b c) (hle : b.le m) (hm : m ≤ 100000000) (hn : 0 ≤ n) (hn1 : n ≤ 1000000000) :
    Calls Try.prog 76 #[.pointer (some ⟨g, 0, none⟩), .int .i64 n] w fun e w' => e = .returned (.tuple #[]) ∧ SB2 g w' (Pl.bKeep b n) c ∧ Below g w w' := by
  obtain ⟨F, K, vo, vp, svs, ho, hp, hs, h, k, hF, hK, hd⟩ := h
  exact (keep_s F w g vo vp b svs n m h hle hm hn hn1).mono fun e w' hb => SB2.built1 hF hK hd k hb
theorem keep2 (g : Nat) (w : World) (b c : Pl.Bd) (n : Int) (m : Nat) (h : SB2 g w b c) (hle : c.le m) (hm : m ≤ 100000000) (hn : 0 ≤ n) (hn1 : n ≤ 1000000000) :
    Calls Try.prog 76 #[.pointer (some ⟨g + 1, 0, none⟩), .int .i64 n] w fun e w' => e = .returned (.tuple #[]) ∧ SB2 g w' b (Pl.bKeep c n) ∧ Below g w w' := by
  have hl := h.lt
  obtain ⟨F, K, vo, vp, svs, ho, hp, hs, h, k, hF, hK, hd⟩ := h
  exact (keep_s K w (g + 1) ho hp c hs n m k hle hm hn hn1).mono fun e w' hb => SB2.built2 hF hK hd hl h hb
theorem put1 (g : Nat) (w : World) (b c : Pl.Bd) (v : Value) (xs : List Int) (h : SB2 g w b c) (hv : SliceInts w.heap.size w v xs) (hle : b.put.length ≤ 1000000000) (hx : xs.length ≤ 1000000000) :
    Calls Try.prog 73 #[.pointer (some ⟨g, 0, none⟩), v] w fun e w' => e = .returned (.tuple #[]) ∧ SB2 g w' (Pl.bPut b xs) c ∧ Below g w w' := by
  obtain ⟨F, K, vo, vp, svs, ho, hp, hs, h, k, hF, hK, hd⟩ := h
  exact (put_s F w g vo vp b svs v xs h hv hle hx).mono fun e w' hb => SB2.built1 hF hK hd k hb
theorem put2 (g : Nat) (w : World) (b c : Pl.Bd) (v : Value) (xs : List Int) (h : SB2 g w b c) (hv : SliceInts w.heap.size w v xs) (hle : c.put.length ≤ 1000000000) (hx : xs.length ≤ 1000000000) :
    Calls Try.prog 73 #[.pointer (some ⟨g + 1, 0, none⟩), v] w fun e w' => e = .returned (.tuple #[]) ∧ SB2 g w' b (Pl.bPut c xs) ∧ Below g w w' := by
  have hl := h.lt
  obtain ⟨F, K, vo, vp, svs, ho, hp, hs, h, k, hF, hK, hd⟩ := h
  exact (put_s K w (g + 1) ho hp c hs v xs k hv hle hx).mono fun e w' hb => SB2.built2 hF hK hd hl h hb
theorem drop1 (g : Nat) (w : World) (b c : Pl.Bd) (n : Int) (h : SB2 g w b c) (h0 : 0 ≤ b.drop) (h1 : b.drop ≤ 1000000000) (hn : 0 ≤ n) (hn1 : n ≤ 1000000000) :
    Calls Try.prog 72 #[.pointer (some ⟨g, 0, none⟩), .int .i64 n] w fun e w' => e = .returned (.tuple #[]) ∧ SB2 g w' (Pl.bDrop b n) c ∧ Below g w w' := by
  obtain ⟨F, K, vo, vp, svs, ho, hp, hs, h, k, hF, hK, hd⟩ := h
  exact (drop_s F w g vo vp b svs n h h0 h1 hn hn1).mono fun e w' hb => SB2.built1 hF hK hd k hb
theorem drop2 (g : Nat) (w : World) (b c : Pl.Bd) (n : Int) (h : SB2 g w b c) (h0 : 0 ≤ c.drop) (h1 : c.drop ≤ 1000000000) (hn : 0 ≤ n) (hn1 : n ≤ 1000000000) :
    Calls Try.prog 72 #[.pointer (some ⟨g + 1, 0, none⟩), .int .i64 n] w fun e w' => e = .returned (.tuple #[]) ∧ SB2 g w' b (Pl.bDrop c n) ∧ Below g w w' := by
  have hl := h.lt
  obtain ⟨F, K, vo, vp, svs, ho, hp, hs, h, k, hF, hK, hd⟩ := h
  exact (drop_s K w (g + 1) ho hp c hs n k h0 h1 hn hn1).mono fun e w' hb => SB2.built2 hF hK hd hl h hb
/-- The first of the two is done: its row is u. -/
def SD2 (g : Nat) (w : World) (u : Value) (l : List Pt) (c : Pl.Bd) : Prop :=
  ∃ F K svs ho hp hs, BldAt F w u (.slice none 0 0) ⟨l, [], 0⟩ svs ∧ SSt K w (g + 1) ho hp hp c hs ∧ (∀ k, F k → g + 2 ≤ k) ∧ (∀ k, K k → g + 2 ≤ k) ∧ ∀ k, F k → ¬ K k
theorem done1 (g : Nat) (w : World) (b c : Pl.Bd) (m : Nat) (h : SB2 g w b c) (hle : b.le m) (hm : m ≤ 100000000) :
    Calls Try.prog 77 #[.pointer (some ⟨g, 0, none⟩)] w fun e w' => ∃ A k, e = .returned (.slice A (Pl.flushL b).length k) ∧ SD2 g w' (.slice A (Pl.flushL b).length k) (Pl.flushL b) c ∧ Below g w w' := by
  have hl := h.lt
  obtain ⟨F, K, vo, vp, svs, ho, hp, hs, h, k, hF, hK, hd⟩ := h
  refine (done_s F w g vo vp b svs m h hle hm).mono fun e w' hb => ?_
  obtain ⟨vo', svs', rfl, hB, f⟩ := hb
  obtain ⟨A, kk, rfl⟩ := own_shape hB.row
  refine ⟨A, kk, rfl, ⟨_, K, _, _, _, _, hB, k.frame f (fun k hk hh => ?_) (fun hh => ?_), plus_lo hF (by omega), hK, fun x hx hx2 => ?_⟩, f.below (fun k hk => ?_) (by omega)⟩
  · rcases hh with hh | hh
    · exact hd k hh hk
    · have := hK k hk; omega
  · rcases hh with hh | hh
    · have := hF _ hh; omega
    · omega
  · rcases hx with hx | hx
    · exact hd x hx hx2
    · have := k.bld.top x hx2; omega
  · rcases hk with hk | hk
    · have := hF k hk; omega
    · omega
theorem done2 (g : Nat) (w : World) (u : Value) (l : List Pt) (c : Pl.Bd) (m : Nat) (h : SD2 g w u l c) (hle : c.le m) (hm : m ≤ 100000000) :
    Calls Try.prog 77 #[.pointer (some ⟨g + 1, 0, none⟩)] w fun e w' => ∃ A k s1 s2, e = .returned (.slice A (Pl.flushL c).length k) ∧ OwnP g w'.heap.size w' u l s1 ∧ OwnP g w'.heap.size w' (.slice A (Pl.flushL c).length k) (Pl.flushL c) s2 ∧ Below g w w' ∧ ApartP u s1 (.slice A (Pl.flushL c).length k) s2 := by
  obtain ⟨F, K, svs, ho, hp, hs, h, k, hF, hK, hd⟩ := h
  have l2 := (blk3 k.blk).2.2.2.2
  refine (done_s K w (g + 1) ho hp c hs m k hle hm).mono fun e w' hb => ?_
  obtain ⟨vo', svs', rfl, hB, f⟩ := hb
  obtain ⟨A, kk, rfl⟩ := own_shape hB.row
  refine ⟨A, kk, _, _, rfl, (h.frame f (fun k hk hh => ?_)).own (fun x hx => by have := hF x hx; omega) (Nat.le_refl _), hB.own (plus_lo (fun x hx => by have := hK x hx; omega) (by omega)) (Nat.le_refl _), f.below (fun k hk => ?_) (by omega), fun x hx hx2 => ?_⟩
  · rcases hh with hh | hh
    · exact hd k hk hh
    · have := hF k hk; omega
  · rcases hk with hk | hk
    · have := hK k hk; omega
    · omega
  · have f1 : F x := by
      rcases hx with hx | ⟨sv, hs, hx⟩
      · exact h.inF _ (by simp) _ hx
      · exact h.inF _ (by simp [hs]) _ hx
    have f2 : Plus K w w' x := by
      rcases hx2 with hx | ⟨sv, hs, hx⟩
      · exact hB.inF _ (by simp) _ hx
      · exact hB.inF _ (by simp [hs]) _ hx
    rcases f2 with f2 | f2
    · exact hd x f1 f2
    · have := h.top x f1; omega
/-- The reference's state: two cursors at G, G + 1, two builders at G + 2, G + 3. -/
structure XS (G : Nat) (ps qs : List Pt) (wr : World) (q r : List Pt) (b c : Pl.Bd) : Prop where
  x : CurS G wr G ps q
  y : CurS G wr (G + 1) qs r
  b : SB2 (G + 2) wr b c
theorem XS.hx {G : Nat} {ps qs : List Pt} {w w' : World} {q q' r : List Pt} {b c : Pl.Bd} (h : XS G ps qs w q r b c) (hx : CurS G w' G ps q') (f : Frame (fun k => k = G) w w') : XS G ps qs w' q' r b c :=
  ⟨hx, h.y.frame f (by omega) (fun k hk hh => by omega), h.b.frame f (fun k hk hh => by omega)⟩
theorem XS.hy {G : Nat} {ps qs : List Pt} {w w' : World} {q r r' : List Pt} {b c : Pl.Bd} (h : XS G ps qs w q r b c) (hy : CurS G w' (G + 1) qs r') (f : Frame (fun k => k = G + 1) w w') : XS G ps qs w' q r' b c :=
  ⟨h.x.frame f (by omega) (fun k hk hh => by omega), hy, h.b.frame f (fun k hk hh => by omega)⟩
theorem XS.hb {G : Nat} {ps qs : List Pt} {w w' : World} {q r : List Pt} {b b' c c' : Pl.Bd} (h : XS G ps qs w q r b c) (hb : SB2 (G + 2) w' b' c') (f : Below (G + 2) w w') : XS G ps qs w' q r b' c' :=
  ⟨h.x.frame (frame_lo f) (by omega) (fun k hk hh => by omega), h.y.frame (frame_lo f) (by omega) (fun k hk hh => by omega), hb⟩
theorem XS.free {G : Nat} {ps qs : List Pt} {w w' : World} {q r : List Pt} {b c : Pl.Bd} (h : XS G ps qs w q r b c) (f : Frame (fun _ => False) w w') : XS G ps qs w' q r b c :=
  ⟨h.x.frame f (fun hh => hh) (fun k hk hh => hh), h.y.frame f (fun hh => hh) (fun k hk hh => hh), h.b.frame f (fun k hk hh => hh)⟩
theorem XS.size {G : Nat} {ps qs : List Pt} {w : World} {q r : List Pt} {b c : Pl.Bd} (h : XS G ps qs w q r b c) : G + 3 < w.heap.size := h.b.lt
theorem XS.start {w4 : World} {A A' : Option Addr} {c c' : Nat} {ps qs : List Pt} (h4 : SliceParts w4.heap.size w4 (.slice A ps.length c) ps) (h4' : SliceParts w4.heap.size w4 (.slice A' qs.length c') qs)
    (hp : ∀ p ∈ ps, Pl.partOk p = true) (hq : ∀ p ∈ qs, Pl.partOk p = true) :
    XS w4.heap.size ps qs ((((w4.alloc (.cells #[.slice A ps.length c, .int .i64 0, .int .i64 0] 91)).alloc (.cells #[.slice A' qs.length c', .int .i64 0, .int .i64 0] 91)).alloc (.cells #[.slice none 0 0, .slice none 0 0, .int .i64 0] 94)).alloc (.cells #[.slice none 0 0, .slice none 0 0, .int .i64 0] 94)) ps qs Pl.Bd.init Pl.Bd.init := by
  have f1 : Frame (fun _ => False) w4 ((((w4.alloc (.cells #[.slice A ps.length c, .int .i64 0, .int .i64 0] 91)).alloc (.cells #[.slice A' qs.length c', .int .i64 0, .int .i64 0] 91)).alloc (.cells #[.slice none 0 0, .slice none 0 0, .int .i64 0] 94)).alloc (.cells #[.slice none 0 0, .slice none 0 0, .int .i64 0] 94)) := ((((Frame.refl _ w4).andAlloc _).andAlloc _).andAlloc _).andAlloc _
  refine ⟨curS_start h4 hp (Nat.le_refl _) f1 (Nat.le_refl _) ?_, curS_start h4' hq (by omega) f1 (Nat.le_refl _) ?_, ?_⟩
  · rw [Below.heap_alloc _ _ _ (by simp; omega), Below.heap_alloc _ _ _ (by simp; omega), Below.heap_alloc _ _ _ (by simp)]
    exact heap_new_at _ _ rfl
  · rw [Below.heap_alloc _ _ _ (by simp), Below.heap_alloc _ _ _ (by simp)]
    exact heap_new_at _ _ (by simp)
  · have := @SB2.new ((w4.alloc (.cells #[.slice A ps.length c, .int .i64 0, .int .i64 0] 91)).alloc (.cells #[.slice A' qs.length c', .int .i64 0, .int .i64 0] 91))
    simpa using this
theorem Pl.XSt.skip1 {a b x y : List Pl.U} {q r q0 : List Pt} (h : Pl.XSt a b x y q r) (e : Pl.skip q = q0) : Pl.XSt a b x y q0 r ∧ Pl.skip q0 = q0 ∧ (Pl.units q0).length = (Pl.units q).length := by
  subst e
  exact ⟨⟨Pl.skip_ok h.okq, h.okr, by rw [Pl.units_skip h.okq]; exact h.mid, by rw [Pl.units_skip h.okq]; exact h.all1, by rw [Pl.units_skip h.okq]; exact h.all2⟩, Pl.skip_idem q, by rw [Pl.units_skip h.okq]⟩
theorem Pl.XSt.skip2 {a b x y : List Pl.U} {q r r0 : List Pt} (h : Pl.XSt a b x y q r) (e : Pl.skip r = r0) : Pl.XSt a b x y q r0 ∧ Pl.skip r0 = r0 ∧ (Pl.units r0).length = (Pl.units r).length := by
  subst e
  exact ⟨⟨h.okq, Pl.skip_ok h.okr, by rw [Pl.units_skip h.okr]; exact h.mid, by rw [Pl.units_skip h.okr]; exact h.all1, by rw [Pl.units_skip h.okr]; exact h.all2⟩, Pl.skip_idem r, by rw [Pl.units_skip h.okr]⟩
set_option maxHeartbeats 40000000 in
set_option maxRecDepth 100000 in
theorem transform_sx (v v' : Value) (ps qs : List Pt) (w : World) (h : SliceParts w.heap.size w v ps) (h' : SliceParts w.heap.size w v' qs) :
    Calls Try.prog 36 #[v, v'] w fun e w' => ∃ u1 s1 u2 s2, e = .returned (.tuple #[u1, u2, .bool (Pl.xfOk ps qs)]) ∧ OwnP w.heap.size w'.heap.size w' u1 (Pl.trans1 ps qs) s1 ∧ OwnP w.heap.size w'.heap.size w' u2 (Pl.trans2 ps qs) s2 ∧ Below w.heap.size w w' ∧ ApartP u1 s1 u2 s2 := by
  have h0 := Lib.hid h
  have h0' := Lib.hid h'
  obtain ⟨A, c, rfl, -, -⟩ := h
  obtain ⟨A', c', rfl, -, -⟩ := h'
  by_cases ho1 : Pl.opOk ps = true
  rotate_left
  ·
    have HO1 : Hid (Pl.opOk ps = false) := by show _ = _; simpa using ho1
    have HN : Hid (Pl.xfOk ps qs = false) := by show _ = _; rw [Pl.xfOk, HO1.out, Bool.false_and, Bool.false_and]
    clear ho1
    have HV : Hid (Pl.trans1 ps qs = [] ∧ Pl.trans2 ps qs = []) := ⟨by rw [Pl.trans1, if_neg (by rw [HN.out]; decide)], by rw [Pl.trans2, if_neg (by rw [HN.out]; decide)]⟩
    go_enter Try.func36, Try.ntmps36
    go_wp2_with (fail)
    refine (opOk_s _ ps _ h0.out).mono ?_
    rintro e w1 ⟨rfl, b1⟩
    rw [HO1.out]
    have h1 := Lib.hid (h0.out.later b1)
    have h1' := Lib.hid (h0'.out.later b1)
    have B1 := Lib.hid b1
    clear b1
    go_wp2_with (fail)
    go_ret3
    exact ⟨_, [], _, [], by rw [HN.out]; rfl, by rw [HV.out.1]; exact OwnP.nil _ _ _, by rw [HV.out.2]; exact OwnP.nil _ _ _, B1.out, ApartP.nil _ _⟩
  by_cases ho2 : Pl.opOk qs = true
  rotate_left
  ·
    have HO1 := Lib.hid ho1
    have HO2 : Hid (Pl.opOk qs = false) := by show _ = _; simpa using ho2
    have HN : Hid (Pl.xfOk ps qs = false) := by show _ = _; rw [Pl.xfOk, HO1.out, HO2.out, Bool.false_and, Bool.and_false, Bool.false_and]
    clear ho1 ho2
    have HV : Hid (Pl.trans1 ps qs = [] ∧ Pl.trans2 ps qs = []) := ⟨by rw [Pl.trans1, if_neg (by rw [HN.out]; decide)], by rw [Pl.trans2, if_neg (by rw [HN.out]; decide)]⟩
    go_enter Try.func36, Try.ntmps36
    go_wp2_with (fail)
    refine (opOk_s _ ps _ h0.out).mono ?_
    rintro e w1 ⟨rfl, b1⟩
    rw [HO1.out]
    have h1 := Lib.hid (h0.out.later b1)
    have h1' := Lib.hid (h0'.out.later b1)
    have B1 := Lib.hid b1
    clear b1
    go_wp2_with (fail)
    refine (opOk_s _ qs _ h1'.out).mono ?_
    rintro e w2 ⟨rfl, b2⟩
    rw [HO2.out]
    have h2 := Lib.hid (h1.out.later b2)
    have h2' := Lib.hid (h1'.out.later b2)
    have B2 := Lib.hid (B1.out.trans (b2.mono B1.out.size))
    clear b2 h1 h1' B1
    go_wp2_with (fail)
    go_ret3
    exact ⟨_, [], _, [], by rw [HN.out]; rfl, by rw [HV.out.1]; exact OwnP.nil _ _ _, by rw [HV.out.2]; exact OwnP.nil _ _ _, B2.out, ApartP.nil _ _⟩
  by_cases hft : Pl.opFrom ps = Pl.opFrom qs
  rotate_left
  ·
    have HO1 := Lib.hid ho1
    have HO2 := Lib.hid ho2
    have HN : Hid (Pl.xfOk ps qs = false) := by show _ = _; rw [Pl.xfOk, HO1.out, HO2.out, decide_eq_false hft, Bool.and_false, Bool.and_false, Bool.false_and]
    clear ho1 ho2
    have HV : Hid (Pl.trans1 ps qs = [] ∧ Pl.trans2 ps qs = []) := ⟨by rw [Pl.trans1, if_neg (by rw [HN.out]; decide)], by rw [Pl.trans2, if_neg (by rw [HN.out]; decide)]⟩
    go_enter Try.func36, Try.ntmps36
    go_wp2_with (fail)
    refine (opOk_s _ ps _ h0.out).mono ?_
    rintro e w1 ⟨rfl, b1⟩
    rw [HO1.out]
    have h1 := Lib.hid (h0.out.later b1)
    have h1' := Lib.hid (h0'.out.later b1)
    have B1 := Lib.hid b1
    clear b1
    go_wp2_with (fail)
    refine (opOk_s _ qs _ h1'.out).mono ?_
    rintro e w2 ⟨rfl, b2⟩
    rw [HO2.out]
    have h2 := Lib.hid (h1.out.later b2)
    have h2' := Lib.hid (h1'.out.later b2)
    have B2 := Lib.hid (B1.out.trans (b2.mono B1.out.size))
    clear b2 h1 h1' B1
    go_wp2_with (fail)
    refine (opFrom_s _ ps _ h2.out).mono ?_
    rintro e w3 ⟨rfl, b3⟩
    have h3 := Lib.hid (h2.out.later b3)
    have h3' := Lib.hid (h2'.out.later b3)
    have B3 := Lib.hid (B2.out.trans (b3.mono B2.out.size))
    clear b3 h2 h2' B2
    go_wp2_with (fail)
    refine (opFrom_s _ qs _ h3'.out).mono ?_
    rintro e w4 ⟨rfl, b4⟩
    have h4 := Lib.hid (h3.out.later b4)
    have h4' := Lib.hid (h3'.out.later b4)
    have B4 := Lib.hid (B3.out.trans (b4.mono B3.out.size))
    clear b4 h3 h3' B3
    go_wp2_with (fail)
    go_ret3
    exact ⟨_, [], _, [], by rw [HN.out]; rfl, by rw [HV.out.1]; exact OwnP.nil _ _ _, by rw [HV.out.2]; exact OwnP.nil _ _ _, B4.out, ApartP.nil _ _⟩
  have HO1 := Lib.hid ho1
  have HO2 := Lib.hid ho2
  have HFT := Lib.hid hft
  have HC0 := Lib.hid (Pl.XSt.start ho1 ho2 hft)
  have HP1 := Lib.hid (Pl.partsOk_all (Pl.opOk_units ho1).1).1
  have HP2 := Lib.hid (Pl.partsOk_all (Pl.opOk_units ho2).1).1
  have ul1 := Pl.len_units ho1
  have ul2 := Pl.len_units ho2
  clear ho1 ho2
  go_enter Try.func36, Try.ntmps36
  go_wp2_with (fail)
  refine (opOk_s _ ps _ h0.out).mono ?_
  rintro e w1 ⟨rfl, b1⟩
  rw [HO1.out]
  have h1 := Lib.hid (h0.out.later b1)
  have h1' := Lib.hid (h0'.out.later b1)
  have B1 := Lib.hid b1
  clear b1
  go_wp2_with (fail)
  refine (opOk_s _ qs _ h1'.out).mono ?_
  rintro e w2 ⟨rfl, b2⟩
  rw [HO2.out]
  have h2 := Lib.hid (h1.out.later b2)
  have h2' := Lib.hid (h1'.out.later b2)
  have B2 := Lib.hid (B1.out.trans (b2.mono B1.out.size))
  clear b2 h1 h1' B1
  go_wp2_with (fail)
  refine (opFrom_s _ ps _ h2.out).mono ?_
  rintro e w3 ⟨rfl, b3⟩
  have h3 := Lib.hid (h2.out.later b3)
  have h3' := Lib.hid (h2'.out.later b3)
  have B3 := Lib.hid (B2.out.trans (b3.mono B2.out.size))
  clear b3 h2 h2' B2
  go_wp2_with (fail)
  refine (opFrom_s _ qs _ h3'.out).mono ?_
  rintro e w4 ⟨rfl, b4⟩
  have h4 := Lib.hid (h3.out.later b4)
  have h4' := Lib.hid (h3'.out.later b4)
  have B4 := Lib.hid (B3.out.trans (b4.mono B3.out.size))
  clear b4 h3 h3' B3
  go_wp2_with (fail)
  have hw4 := B4.out.size
  have S0 := Lib.hid (XS.start h4.out h4'.out HP1.out HP2.out)
  have B0 := Lib.hid ((((B4.out.alloc hw4 (.cells #[.slice A ps.length c, .int .i64 0, .int .i64 0] 91)).alloc (by simp; omega) (.cells #[.slice A' qs.length c', .int .i64 0, .int .i64 0] 91)).alloc (by simp; omega) (.cells #[.slice none 0 0, .slice none 0 0, .int .i64 0] 94)).alloc (by simp; omega) (.cells #[.slice none 0 0, .slice none 0 0, .int .i64 0] 94))
  clear h4 h4' h0 h0'
  go_loopg [] ((Pl.units ps).length + (Pl.units qs).length) (fun gk wr => ∃ (acc acc2 : List Pl.U) (q r : List Pt) (bd bz : Pl.Bd) (m : Nat), gk = (Pl.units q).length + (Pl.units r).length ∧ m + gk ≤ 800 ∧ Hid (XS w4.heap.size ps qs wr q r bd bz) ∧ Hid (Pl.XSt (Pl.units ps) (Pl.units qs) acc acc2 q r) ∧ Hid (bd = Pl.run Pl.Bd.init acc) ∧ Hid (bz = Pl.run Pl.Bd.init acc2) ∧ Hid (bd.le (300 * m)) ∧ Hid (bz.le (300 * m)) ∧ Hid (Below w.heap.size w wr))
  case atStart => exact ⟨[], [], ps, qs, _, _, 0, rfl, by omega, S0.out, HC0.out, rfl, rfl, Pl.Bd.le_init, Pl.Bd.le_init, B0.out⟩
  case round =>
    obtain ⟨acc, acc2, q, r, bd, bz, m, hgk, hm, S, hc, run1, run2, hle1, hle2, B⟩ := hrel
    have hd0 := hle1.out.d0
    have hdm := hle1.out.dm
    have hdp := hle1.out.put
    have hd1 := hle2.out.d0
    have hdm2 := hle2.out.dm
    have hdp2 := hle2.out.put
    rcases hq0 : Pl.skip q with _ | ⟨p, q1⟩
    · have EQ := Lib.hid hq0
      obtain ⟨c1, cq, uq⟩ := hc.out.skip1 hq0
      rcases hr0 : Pl.skip r with _ | ⟨s, r1⟩
      · have ER := Lib.hid hr0
        obtain ⟨c2, cr, ur⟩ := c1.skip2 hr0
        obtain ⟨st1, st2⟩ := c2.stop
        have HX1 : Hid (Pl.flushL bd = Pl.xf1 ps qs) := by show _ = _; rw [run1.out, st1]; rfl
        have HX2 : Hid (Pl.flushL bz = Pl.xf2 ps qs) := by show _ = _; rw [run2.out, st2]; rfl
        clear hq0 hr0 c1 cq uq c2 cr ur st1 st2
        -- PART z
        go_wp2_with (fail)
        refine (kind_0 _ _ _ _ _ S.out.x EQ).mono ?_
        rintro e wn1 ⟨rfl, cx, fx⟩
        have S' := Lib.hid (S.out.hx cx fx)
        have B' := Lib.hid (below_fr B.out fx (fun i hi => by omega))
        clear cx fx
        clear S B
        have S := S'
        have B := B'
        clear S' B'
        go_wp2_with (fail)
        refine (kind_0 _ _ _ _ _ S.out.y ER).mono ?_
        rintro e wn2 ⟨rfl, cx, fx⟩
        have S' := Lib.hid (S.out.hy cx fx)
        have B' := Lib.hid (below_fr B.out fx (fun i hi => by omega))
        clear cx fx
        clear S B
        have S := S'
        have B := B'
        clear S' B'
        go_wp2_with (fail)
        refine (done1 _ _ _ _ (300 * m) S.out.b hle1.out (by omega)).mono ?_
        rintro e w5 ⟨A5, c5, rfl, o5, f5⟩
        have O5 := Lib.hid o5
        have sz5 := S.out.size
        have B5 := Lib.hid (B.out.trans (f5.mono (by omega)))
        have sy5 := f5.size
        clear o5 f5 S B
        go_wp2_with (fail)
        refine (done2 _ _ _ _ _ (300 * m) O5.out hle2.out (by omega)).mono ?_
        rintro e w6 ⟨A6, c6, s1, s2, rfl, o6, v6, f6, ap⟩
        rw [HX1.out, HX2.out] at ap
        have AP := Lib.hid ap
        clear ap
        rw [HX1.out] at o6 ⊢
        rw [HX2.out] at v6 ⊢
        have O6 := Lib.hid (own_low (lo' := w.heap.size) o6 (by omega))
        have V6 := Lib.hid (own_low (lo' := w.heap.size) v6 (by omega))
        have sz6 := f6.size
        have B6 := Lib.hid (B5.out.trans (f6.mono (by omega)))
        have zv2 := B6.out.size
        clear o6 v6 f6 O5 B5
        by_cases f1 : Pl.opOk (Pl.xf1 ps qs) = true
        rotate_left
        · have F1 : Hid (Pl.opOk (Pl.xf1 ps qs) = false) := by show _ = _; simpa using f1
          have HN : Hid (Pl.xfOk ps qs = false) := by show _ = _; rw [Pl.xfOk, F1.out, Bool.false_and, Bool.and_false]
          have HV : Hid (Pl.trans1 ps qs = [] ∧ Pl.trans2 ps qs = []) := ⟨by rw [Pl.trans1, if_neg (by rw [HN.out]; decide)], by rw [Pl.trans2, if_neg (by rw [HN.out]; decide)]⟩
          clear f1
          go_wp2_with (fail)
          refine (opOk_s _ (Pl.xf1 ps qs) _ O6.out.slice).mono ?_
          rintro e wk ⟨rfl, bk⟩
          rw [F1.out]
          have BK := Lib.hid (B6.out.trans (bk.mono zv2))
          clear bk
          go_wp2_with (fail)
          go_ret3
          exact ⟨_, [], _, [], by rw [HN.out]; rfl, by rw [HV.out.1]; exact OwnP.nil _ _ _, by rw [HV.out.2]; exact OwnP.nil _ _ _, BK.out, ApartP.nil _ _⟩
        have F1 := Lib.hid f1
        clear f1
        go_wp2_with (fail)
        refine (opOk_s _ (Pl.xf1 ps qs) _ O6.out.slice).mono ?_
        rintro e wk ⟨rfl, bk⟩
        rw [F1.out]
        have BK := Lib.hid (B6.out.trans (bk.mono zv2))
        have OU3 := Lib.hid (O6.out.below bk)
        have OV3 := Lib.hid (V6.out.below bk)
        have zk := bk.size
        have zk2 := BK.out.size
        clear bk O6 V6 B6
        by_cases f2 : Pl.opOk (Pl.xf2 ps qs) = true
        ·
          have F2 := Lib.hid f2
          have HN : Hid (Pl.xfOk ps qs = true) := by show _ = _; rw [Pl.xfOk, HO1.out, HO2.out, decide_eq_true HFT.out, F1.out, F2.out]; rfl
          have HV : Hid (Pl.trans1 ps qs = Pl.xf1 ps qs ∧ Pl.trans2 ps qs = Pl.xf2 ps qs) := ⟨by rw [Pl.trans1, if_pos HN.out], by rw [Pl.trans2, if_pos HN.out]⟩
          clear f2
          go_wp2_with (fail)
          refine (opOk_s _ (Pl.xf2 ps qs) _ OV3.out.slice).mono ?_
          rintro e wl ⟨rfl, bl⟩
          rw [F2.out]
          have BL := Lib.hid (BK.out.trans (bl.mono zk2))
          have OU4 := Lib.hid (OU3.out.below bl)
          have OV4 := Lib.hid (OV3.out.below bl)
          have zl := bl.size
          clear bl
          go_wp2_with (fail)
          go_ret3
          exact ⟨_, _, _, _, by rw [HN.out]; rfl, by rw [HV.out.1]; exact OU4.out.upto (by omega), by rw [HV.out.2]; exact OV4.out.upto (by omega), BL.out, AP.out⟩
        ·
          have F2 : Hid (Pl.opOk (Pl.xf2 ps qs) = false) := by show _ = _; simpa using f2
          have HN : Hid (Pl.xfOk ps qs = false) := by show _ = _; rw [Pl.xfOk, F2.out, Bool.and_false, Bool.and_false]
          have HV : Hid (Pl.trans1 ps qs = [] ∧ Pl.trans2 ps qs = []) := ⟨by rw [Pl.trans1, if_neg (by rw [HN.out]; decide)], by rw [Pl.trans2, if_neg (by rw [HN.out]; decide)]⟩
          clear f2
          go_wp2_with (fail)
          refine (opOk_s _ (Pl.xf2 ps qs) _ OV3.out.slice).mono ?_
          rintro e wl ⟨rfl, bl⟩
          rw [F2.out]
          have BL := Lib.hid (BK.out.trans (bl.mono zk2))
          have OU4 := Lib.hid (OU3.out.below bl)
          have OV4 := Lib.hid (OV3.out.below bl)
          have zl := bl.size
          clear bl
          go_wp2_with (fail)
          go_ret3
          exact ⟨_, [], _, [], by rw [HN.out]; rfl, by rw [HV.out.1]; exact OwnP.nil _ _ _, by rw [HV.out.2]; exact OwnP.nil _ _ _, BL.out, ApartP.nil _ _⟩
        -- END z
      · have ER := Lib.hid hr0
        obtain ⟨c2, cr, ur⟩ := c1.skip2 hr0
        have hk2 : s.kind = 2 := by
          by_cases hh : s.kind = 2
          · exact hh
          · exact absurd (c2.noY cr hh) (by simp)
        have E1 : Hid (Pl.skip ([] : List Pt) = []) := rfl
        have oks := c2.okr s (by simp)
        obtain ⟨szs, uns⟩ := Pl.head_len (q := r1) oks (Pl.skip_head ER.out)
        obtain ⟨Ns, hNs⟩ : ∃ n : Nat, (n : Int) = Pl.size s := ⟨(Pl.size s).toNat, by omega⟩
        have hN2s := (Pl.size_nat oks).2
        have HNs := Lib.hid hNs
        have hN3s : 1 ≤ Ns ∧ Ns ≤ 200 := by omega
        obtain ⟨hN4s, hN5s⟩ := hN3s
        clear hNs hN2s
        have ERs := Lib.hid cr
        have HC' := Lib.hid (c2.put2 (n := Ns) HNs.out hk2 rfl (by simp [Pl.hd]))
        have cl := Pl.cut_len (q := r1) (n := Ns) oks (by rw [HNs.out]; exact Int.le_refl _)
        have HKs := Lib.hid hk2
        have hlt : (s.signs.take Ns).length ≤ 200 := by rw [List.length_take]; omega
        have HR1 : Hid (Pl.bKeep bd Ns = Pl.run Pl.Bd.init (acc ++ Pl.ks Ns)) := by show _ = _; rw [run1.out, Pl.run_append, Pl.ks, Pl.run_keeps]
        have HR2 : Hid (Pl.bPut bz (s.signs.take Ns) = Pl.run Pl.Bd.init (acc2 ++ Pl.unitsP (Pl.tk s Ns))) := by show _ = _; rw [run2.out, Pl.tk_2 HKs.out, Pl.run_append, Pl.pus, Pl.run_puts]
        have k0s : (s.kind != 0) = true := by simp [hk2]
        have k2s : (s.kind == 2) = true := by simp [hk2]
        clear hq0 hr0 c1 c2 cq cr hk2 oks
        -- PART a
        go_wp2_with (fail)
        refine (kind_0 _ _ _ _ _ S.out.x EQ).mono ?_
        rintro e wn3 ⟨rfl, cx, fx⟩
        have S' := Lib.hid (S.out.hx cx fx)
        have B' := Lib.hid (below_fr B.out fx (fun i hi => by omega))
        clear cx fx
        clear S B
        have S := S'
        have B := B'
        clear S' B'
        go_wp2_with (fail)
        refine (kind_p _ _ _ _ _ r1 s S.out.y ER).mono ?_
        rintro e wn4 ⟨rfl, cx, fx⟩
        have S' := Lib.hid (S.out.hy cx fx)
        have B' := Lib.hid (below_fr B.out fx (fun i hi => by omega))
        clear cx fx
        clear S B
        have S := S'
        have B := B'
        clear S' B'
        go_wp2_with (fail)
        refine (kind_0 _ _ _ _ _ S.out.x E1).mono ?_
        rintro e wn5 ⟨rfl, cx, fx⟩
        have S' := Lib.hid (S.out.hx cx fx)
        have B' := Lib.hid (below_fr B.out fx (fun i hi => by omega))
        clear cx fx
        clear S B
        have S := S'
        have B := B'
        clear S' B'
        go_wp2_with (fail)
        refine (kind_p _ _ _ _ _ r1 s S.out.y ERs).mono ?_
        rintro e wn6 ⟨rfl, cx, fx⟩
        have S' := Lib.hid (S.out.hy cx fx)
        have B' := Lib.hid (below_fr B.out fx (fun i hi => by omega))
        clear cx fx
        clear S B
        have S := S'
        have B := B'
        clear S' B'
        go_wp2_with (fail)
        refine (left_n _ _ _ _ r1 s Ns S.out.y HNs).mono ?_
        rintro e wn7 ⟨rfl, fx⟩
        have S' := Lib.hid (S.out.free fx)
        have B' := Lib.hid (below_fr B.out fx (fun i hi => hi.elim))
        clear fx
        clear S B
        have S := S'
        have B := B'
        clear S' B'
        go_wp2_with (fail)
        refine (take4_s _ _ _ _ r1 s Ns S.out.y HKs.out (by rw [HNs.out]; exact Int.le_refl _)).mono ?_
        rintro e wn8 ⟨vt, rfl, ht, cx, fx⟩
        have S' := Lib.hid (S.out.hy cx fx)
        have B' := Lib.hid (below_fr B.out fx (fun i hi => by omega))
        have HT := Lib.hid ht
        clear cx fx ht
        clear S B
        have S := S'
        have B := B'
        clear S' B'
        go_wp2_with (fail)
        refine (put2 _ _ _ _ _ (s.signs.take Ns) S.out.b (HT.out.mono (by have := S.out.size; omega)) (by omega) (by omega)).mono ?_
        rintro e wn9 ⟨rfl, st, bx⟩
        have S' := Lib.hid (S.out.hb st bx)
        have B' := Lib.hid (below_fr B.out (frame_lo bx) (fun i hi => by omega))
        clear st bx
        clear S B
        have S := S'
        have B := B'
        clear S' B'
        go_wp2_with (fail)
        refine (keep1 _ _ _ _ Ns (300 * m) S.out.b (hle1.out) (by omega) (by omega) (by omega)).mono ?_
        rintro e wn10 ⟨rfl, st, bx⟩
        have S' := Lib.hid (S.out.hb st bx)
        have B' := Lib.hid (below_fr B.out (frame_lo bx) (fun i hi => by omega))
        clear st bx
        clear S B
        have S := S'
        have B := B'
        clear S' B'
        go_wp2_with (fail)
        go_roundg ((Pl.units ([])).length + (Pl.units (Pl.lf s Ns :: r1)).length)
        case rel => exact ⟨_, _, [], Pl.lf s Ns :: r1, _, _, m + 1, rfl, by omega, S.out, HC'.out, HR1.out, HR2.out, (Pl.bKeep_le (k := 300) hle1.out (by omega) (by omega) (by omega)).mono (by omega), (Pl.bPut_le (k := 300) hle2.out (by omega)).mono (by omega), B.out⟩
        case measure => omega
        -- END a
    · have EQ := Lib.hid hq0
      obtain ⟨c1, cq, uq⟩ := hc.out.skip1 hq0
      have EQp := Lib.hid cq
      have okp := c1.okq p (by simp)
      obtain ⟨szp, unp⟩ := Pl.head_len (q := q1) okp (Pl.skip_head EQ.out)
      obtain ⟨Np, hNp⟩ : ∃ n : Nat, (n : Int) = Pl.size p := ⟨(Pl.size p).toNat, by omega⟩
      have hN2p := (Pl.size_nat okp).2
      have HNp := Lib.hid hNp
      have hN3p : 1 ≤ Np ∧ Np ≤ 200 := by omega
      obtain ⟨hN4p, hN5p⟩ := hN3p
      clear hNp hN2p
      have kdp := (partOk_facts okp).1
      have k0p : (p.kind != 0) = true := by rcases kdp with h | h | h <;> simp [h]
      by_cases hk3 : p.kind = 2
      · have k3p : (p.kind == 2) = true := by simp [hk3]
        have HC' := Lib.hid (c1.put1 (n := Np) HNp.out hk3)
        have cl := Pl.cut_len (q := q1) (n := Np) okp (by rw [HNp.out]; exact Int.le_refl _)
        have HKp := Lib.hid hk3
        have hlt : (p.signs.take Np).length ≤ 200 := by rw [List.length_take]; omega
        have HR1 : Hid (Pl.bPut bd (p.signs.take Np) = Pl.run Pl.Bd.init (acc ++ Pl.unitsP (Pl.tk p Np))) := by show _ = _; rw [run1.out, Pl.tk_2 HKp.out, Pl.run_append, Pl.pus, Pl.run_puts]
        have HR2 : Hid (Pl.bKeep bz Np = Pl.run Pl.Bd.init (acc2 ++ Pl.ks Np)) := by show _ = _; rw [run2.out, Pl.run_append, Pl.ks, Pl.run_keeps]
        clear hq0 c1 cq hk3 okp kdp
        -- PART b
        go_wp2_with (fail)
        refine (kind_p _ _ _ _ _ q1 p S.out.x EQ).mono ?_
        rintro e wn11 ⟨rfl, cx, fx⟩
        have S' := Lib.hid (S.out.hx cx fx)
        have B' := Lib.hid (below_fr B.out fx (fun i hi => by omega))
        clear cx fx
        clear S B
        have S := S'
        have B := B'
        clear S' B'
        go_wp2_with (fail)
        refine (kind_p _ _ _ _ _ q1 p S.out.x EQp).mono ?_
        rintro e wn12 ⟨rfl, cx, fx⟩
        have S' := Lib.hid (S.out.hx cx fx)
        have B' := Lib.hid (below_fr B.out fx (fun i hi => by omega))
        clear cx fx
        clear S B
        have S := S'
        have B := B'
        clear S' B'
        go_wp2_with (fail)
        refine (left_n _ _ _ _ q1 p Np S.out.x HNp).mono ?_
        rintro e wn13 ⟨rfl, fx⟩
        have S' := Lib.hid (S.out.free fx)
        have B' := Lib.hid (below_fr B.out fx (fun i hi => hi.elim))
        clear fx
        clear S B
        have S := S'
        have B := B'
        clear S' B'
        go_wp2_with (fail)
        refine (take4_s _ _ _ _ q1 p Np S.out.x HKp.out (by rw [HNp.out]; exact Int.le_refl _)).mono ?_
        rintro e wn14 ⟨vt, rfl, ht, cx, fx⟩
        have S' := Lib.hid (S.out.hx cx fx)
        have B' := Lib.hid (below_fr B.out fx (fun i hi => by omega))
        have HT := Lib.hid ht
        clear cx fx ht
        clear S B
        have S := S'
        have B := B'
        clear S' B'
        go_wp2_with (fail)
        refine (put1 _ _ _ _ _ (p.signs.take Np) S.out.b (HT.out.mono (by have := S.out.size; omega)) (by omega) (by omega)).mono ?_
        rintro e wn15 ⟨rfl, st, bx⟩
        have S' := Lib.hid (S.out.hb st bx)
        have B' := Lib.hid (below_fr B.out (frame_lo bx) (fun i hi => by omega))
        clear st bx
        clear S B
        have S := S'
        have B := B'
        clear S' B'
        go_wp2_with (fail)
        refine (keep2 _ _ _ _ Np (300 * m) S.out.b (hle2.out) (by omega) (by omega) (by omega)).mono ?_
        rintro e wn16 ⟨rfl, st, bx⟩
        have S' := Lib.hid (S.out.hb st bx)
        have B' := Lib.hid (below_fr B.out (frame_lo bx) (fun i hi => by omega))
        clear st bx
        clear S B
        have S := S'
        have B := B'
        clear S' B'
        go_wp2_with (fail)
        go_roundg ((Pl.units (Pl.lf p Np :: q1)).length + (Pl.units (r)).length)
        case rel => exact ⟨_, _, Pl.lf p Np :: q1, r, _, _, m + 1, rfl, by omega, S.out, HC'.out, HR1.out, HR2.out, (Pl.bPut_le (k := 300) hle1.out (by omega)).mono (by omega), (Pl.bKeep_le (k := 300) hle2.out (by omega) (by omega) (by omega)).mono (by omega), B.out⟩
        case measure => omega
        -- END b
      · have k3p : (p.kind == 2) = false := by simp [hk3]
        rcases hr0 : Pl.skip r with _ | ⟨s, r1⟩
        · obtain ⟨c2, cr, ur⟩ := c1.skip2 hr0
          exact absurd (c2.noX cq hk3) (by simp)
        have ER := Lib.hid hr0
        obtain ⟨c2, cr, ur⟩ := c1.skip2 hr0
        have oks := c2.okr s (by simp)
        obtain ⟨szs, uns⟩ := Pl.head_len (q := r1) oks (Pl.skip_head ER.out)
        obtain ⟨Ns, hNs⟩ : ∃ n : Nat, (n : Int) = Pl.size s := ⟨(Pl.size s).toNat, by omega⟩
        have hN2s := (Pl.size_nat oks).2
        have HNs := Lib.hid hNs
        have hN3s : 1 ≤ Ns ∧ Ns ≤ 200 := by omega
        obtain ⟨hN4s, hN5s⟩ := hN3s
        clear hNs hN2s
        have ERs := Lib.hid cr
        have kds := (partOk_facts oks).1
        by_cases hk2 : s.kind = 2
        · have k2s : (s.kind == 2) = true := by simp [hk2]
          have HC' := Lib.hid (c2.put2 (n := Ns) HNs.out hk2 cq hk3)
          have cl := Pl.cut_len (q := r1) (n := Ns) oks (by rw [HNs.out]; exact Int.le_refl _)
          have HKs := Lib.hid hk2
          have hlt : (s.signs.take Ns).length ≤ 200 := by rw [List.length_take]; omega
          have HR1 : Hid (Pl.bKeep bd Ns = Pl.run Pl.Bd.init (acc ++ Pl.ks Ns)) := by show _ = _; rw [run1.out, Pl.run_append, Pl.ks, Pl.run_keeps]
          have HR2 : Hid (Pl.bPut bz (s.signs.take Ns) = Pl.run Pl.Bd.init (acc2 ++ Pl.unitsP (Pl.tk s Ns))) := by show _ = _; rw [run2.out, Pl.tk_2 HKs.out, Pl.run_append, Pl.pus, Pl.run_puts]
          clear hq0 hr0 c1 c2 cq cr hk2 hk3 oks okp kdp kds
          -- PART c
          go_wp2_with (fail)
          refine (kind_p _ _ _ _ _ q1 p S.out.x EQ).mono ?_
          rintro e wn17 ⟨rfl, cx, fx⟩
          have S' := Lib.hid (S.out.hx cx fx)
          have B' := Lib.hid (below_fr B.out fx (fun i hi => by omega))
          clear cx fx
          clear S B
          have S := S'
          have B := B'
          clear S' B'
          go_wp2_with (fail)
          refine (kind_p _ _ _ _ _ q1 p S.out.x EQp).mono ?_
          rintro e wn18 ⟨rfl, cx, fx⟩
          have S' := Lib.hid (S.out.hx cx fx)
          have B' := Lib.hid (below_fr B.out fx (fun i hi => by omega))
          clear cx fx
          clear S B
          have S := S'
          have B := B'
          clear S' B'
          go_wp2_with (fail)
          refine (kind_p _ _ _ _ _ r1 s S.out.y ER).mono ?_
          rintro e wn19 ⟨rfl, cx, fx⟩
          have S' := Lib.hid (S.out.hy cx fx)
          have B' := Lib.hid (below_fr B.out fx (fun i hi => by omega))
          clear cx fx
          clear S B
          have S := S'
          have B := B'
          clear S' B'
          go_wp2_with (fail)
          refine (left_n _ _ _ _ r1 s Ns S.out.y HNs).mono ?_
          rintro e wn20 ⟨rfl, fx⟩
          have S' := Lib.hid (S.out.free fx)
          have B' := Lib.hid (below_fr B.out fx (fun i hi => hi.elim))
          clear fx
          clear S B
          have S := S'
          have B := B'
          clear S' B'
          go_wp2_with (fail)
          refine (take4_s _ _ _ _ r1 s Ns S.out.y HKs.out (by rw [HNs.out]; exact Int.le_refl _)).mono ?_
          rintro e wn21 ⟨vt, rfl, ht, cx, fx⟩
          have S' := Lib.hid (S.out.hy cx fx)
          have B' := Lib.hid (below_fr B.out fx (fun i hi => by omega))
          have HT := Lib.hid ht
          clear cx fx ht
          clear S B
          have S := S'
          have B := B'
          clear S' B'
          go_wp2_with (fail)
          refine (put2 _ _ _ _ _ (s.signs.take Ns) S.out.b (HT.out.mono (by have := S.out.size; omega)) (by omega) (by omega)).mono ?_
          rintro e wn22 ⟨rfl, st, bx⟩
          have S' := Lib.hid (S.out.hb st bx)
          have B' := Lib.hid (below_fr B.out (frame_lo bx) (fun i hi => by omega))
          clear st bx
          clear S B
          have S := S'
          have B := B'
          clear S' B'
          go_wp2_with (fail)
          refine (keep1 _ _ _ _ Ns (300 * m) S.out.b (hle1.out) (by omega) (by omega) (by omega)).mono ?_
          rintro e wn23 ⟨rfl, st, bx⟩
          have S' := Lib.hid (S.out.hb st bx)
          have B' := Lib.hid (below_fr B.out (frame_lo bx) (fun i hi => by omega))
          clear st bx
          clear S B
          have S := S'
          have B := B'
          clear S' B'
          go_wp2_with (fail)
          go_roundg ((Pl.units (p :: q1)).length + (Pl.units (Pl.lf s Ns :: r1)).length)
          case rel => exact ⟨_, _, p :: q1, Pl.lf s Ns :: r1, _, _, m + 1, rfl, by omega, S.out, HC'.out, HR1.out, HR2.out, (Pl.bKeep_le (k := 300) hle1.out (by omega) (by omega) (by omega)).mono (by omega), (Pl.bPut_le (k := 300) hle2.out (by omega)).mono (by omega), B.out⟩
          case measure => omega
          -- END c
        · have k2s : (s.kind == 2) = false := by simp [hk2]
          obtain ⟨M, hM⟩ : ∃ M, min Np Ns = M := ⟨_, rfl⟩
          have HM := Lib.hid hM
          have hM1 : M ≤ Np ∧ M ≤ Ns ∧ 1 ≤ M := by have := HNp.out; have := HNs.out; omega
          obtain ⟨hM1, hM2, hM3⟩ := hM1
          have MP : Hid ((M : Int) ≤ Pl.size p) := by show _ ≤ _; have := HNp.out; omega
          have MS : Hid ((M : Int) ≤ Pl.size s) := by show _ ≤ _; have := HNs.out; omega
          have hbo := c2.both (n := M) MP.out MS.out hk3 hk2
          have cl := Pl.cut_len (q := q1) (n := M) okp MP.out
          have cl2 := Pl.cut_len (q := r1) (n := M) oks MS.out
          have hpp : p.kind = 1 ∨ p.kind = 3 := by omega
          have hss : s.kind = 1 ∨ s.kind = 3 := by omega
          clear hM hq0 hr0 c1 c2 cq cr hk2 hk3 oks okp kdp kds
          rcases hpp with hp1 | hp1
          · rcases hss with hs1 | hs1
            · have k1p : (p.kind == 1) = true := by simp [hp1]
              have k1s : (s.kind == 1) = true := by simp [hs1]
              rw [Pl.xOut1, Pl.xOut2, if_pos hs1, if_pos hp1] at hbo
              have HC' := Lib.hid hbo
              have HR1 : Hid (Pl.bKeep bd M = Pl.run Pl.Bd.init (acc ++ Pl.unitsP (Pl.tk p M))) := by show _ = _; rw [run1.out, Pl.tk_1 hp1, Pl.run_append, Pl.ks, Pl.run_keeps]
              have HR2 : Hid (Pl.bKeep bz M = Pl.run Pl.Bd.init (acc2 ++ Pl.unitsP (Pl.tk s M))) := by show _ = _; rw [run2.out, Pl.tk_1 hs1, Pl.run_append, Pl.ks, Pl.run_keeps]
              clear hp1 hs1 hbo
              -- PART m11
              go_wp2_with (fail)
              refine (kind_p _ _ _ _ _ q1 p S.out.x EQ).mono ?_
              rintro e wn24 ⟨rfl, cx, fx⟩
              have S' := Lib.hid (S.out.hx cx fx)
              have B' := Lib.hid (below_fr B.out fx (fun i hi => by omega))
              clear cx fx
              clear S B
              have S := S'
              have B := B'
              clear S' B'
              go_wp2_with (fail)
              refine (kind_p _ _ _ _ _ q1 p S.out.x EQp).mono ?_
              rintro e wn25 ⟨rfl, cx, fx⟩
              have S' := Lib.hid (S.out.hx cx fx)
              have B' := Lib.hid (below_fr B.out fx (fun i hi => by omega))
              clear cx fx
              clear S B
              have S := S'
              have B := B'
              clear S' B'
              go_wp2_with (fail)
              refine (kind_p _ _ _ _ _ r1 s S.out.y ER).mono ?_
              rintro e wn26 ⟨rfl, cx, fx⟩
              have S' := Lib.hid (S.out.hy cx fx)
              have B' := Lib.hid (below_fr B.out fx (fun i hi => by omega))
              clear cx fx
              clear S B
              have S := S'
              have B := B'
              clear S' B'
              go_wp2_with (fail)
              refine (left_n _ _ _ _ q1 p Np S.out.x HNp).mono ?_
              rintro e wn27 ⟨rfl, fx⟩
              have S' := Lib.hid (S.out.free fx)
              have B' := Lib.hid (below_fr B.out fx (fun i hi => hi.elim))
              clear fx
              clear S B
              have S := S'
              have B := B'
              clear S' B'
              go_wp2_with (fail)
              refine (left_n _ _ _ _ r1 s Ns S.out.y HNs).mono ?_
              rintro e wn28 ⟨rfl, fx⟩
              have S' := Lib.hid (S.out.free fx)
              have B' := Lib.hid (below_fr B.out fx (fun i hi => hi.elim))
              clear fx
              clear S B
              have S := S'
              have B := B'
              clear S' B'
              go_wp2_with (fail)
              refine (min4_n Np Ns M _ HM).mono ?_
              rintro e wmin ⟨rfl, rfl⟩
              go_wp2_with (fail)
              refine (kind_p _ _ _ _ _ q1 p S.out.x EQp).mono ?_
              rintro e wn29 ⟨rfl, cx, fx⟩
              have S' := Lib.hid (S.out.hx cx fx)
              have B' := Lib.hid (below_fr B.out fx (fun i hi => by omega))
              clear cx fx
              clear S B
              have S := S'
              have B := B'
              clear S' B'
              go_wp2_with (fail)
              refine (kind_p _ _ _ _ _ r1 s S.out.y ERs).mono ?_
              rintro e wn30 ⟨rfl, cx, fx⟩
              have S' := Lib.hid (S.out.hy cx fx)
              have B' := Lib.hid (below_fr B.out fx (fun i hi => by omega))
              clear cx fx
              clear S B
              have S := S'
              have B := B'
              clear S' B'
              go_wp2_with (fail)
              refine (keep1 _ _ _ _ M (300 * m) S.out.b (hle1.out) (by omega) (by omega) (by omega)).mono ?_
              rintro e wn31 ⟨rfl, st, bx⟩
              have S' := Lib.hid (S.out.hb st bx)
              have B' := Lib.hid (below_fr B.out (frame_lo bx) (fun i hi => by omega))
              clear st bx
              clear S B
              have S := S'
              have B := B'
              clear S' B'
              go_wp2_with (fail)
              refine (keep2 _ _ _ _ M (300 * m) S.out.b (hle2.out) (by omega) (by omega) (by omega)).mono ?_
              rintro e wn32 ⟨rfl, st, bx⟩
              have S' := Lib.hid (S.out.hb st bx)
              have B' := Lib.hid (below_fr B.out (frame_lo bx) (fun i hi => by omega))
              clear st bx
              clear S B
              have S := S'
              have B := B'
              clear S' B'
              obtain ⟨-, -, fy0, -, ly0, -⟩ := S.out.y.bump
              obtain ⟨dx, ex, fx, h2x, lx, mx⟩ := S.out.x.bump
              obtain ⟨Wx, Cx⟩ := mx M MP.out
              have S1 := Lib.hid (S.out.hx Cx (Frame.setCell _ _ _ _ rfl))
              have B1 := Lib.hid (below_fr B.out (Frame.setCell (fun k => k = w4.heap.size) _ ⟨w4.heap.size, 2, none⟩ (.int .i64 ((dx + M : Nat) : Int)) rfl) (fun i hi => by omega))
              clear mx Cx
              obtain ⟨dy, ey, fy, h2y, ly, my⟩ := S1.out.y.bump
              obtain ⟨Wy, Cy⟩ := my M MS.out
              have S2 := Lib.hid (S1.out.hy Cy (Frame.setCell _ _ _ _ rfl))
              have B2 := Lib.hid (below_fr B1.out (Frame.setCell (fun k => k = w4.heap.size + 1) _ ⟨w4.heap.size + 1, 2, none⟩ (.int .i64 ((dy + M : Nat) : Int)) rfl) (fun i hi => by omega))
              replace ey := ((Frame.setCell (fun k => k = w4.heap.size) _ ⟨w4.heap.size, 2, none⟩ (.int .i64 ((dx + M : Nat) : Int)) rfl).cell (o := 2) ly0 (by omega)).symm.trans ey
              clear fy ly
              clear my Cy
              go_wp2_with (fail)
              rw [← Int.natCast_add dx M, ← Int.natCast_add dy M]
              clear S B ex Wx ey Wy
              have S := S2
              have B := B2
              go_roundg ((Pl.units (Pl.lf p M :: q1)).length + (Pl.units (Pl.lf s M :: r1)).length)
              case rel => exact ⟨_, _, Pl.lf p M :: q1, Pl.lf s M :: r1, _, _, m + 1, rfl, by omega, S.out, HC'.out, HR1.out, HR2.out, (Pl.bKeep_le (k := 300) hle1.out (by omega) (by omega) (by omega)).mono (by omega), (Pl.bKeep_le (k := 300) hle2.out (by omega) (by omega) (by omega)).mono (by omega), B.out⟩
              case measure => omega
              -- END m11
            · have k1p : (p.kind == 1) = true := by simp [hp1]
              have k1s : (s.kind == 1) = false := by simp [hs1]
              rw [Pl.xOut1, Pl.xOut2, if_neg (by rw [hs1]; decide), if_pos hp1] at hbo
              have HC' := Lib.hid hbo
              have HR1 : Hid (bd = Pl.run Pl.Bd.init (acc ++ [])) := by show _ = _; rw [run1.out, List.append_nil]
              have HR2 : Hid (Pl.bDrop bz M = Pl.run Pl.Bd.init (acc2 ++ Pl.unitsP (Pl.tk s M))) := by show _ = _; rw [run2.out, Pl.tk_3 hs1, Pl.run_append, Pl.ds, Pl.run_drops]
              clear hp1 hs1 hbo
              -- PART m13
              go_wp2_with (fail)
              refine (kind_p _ _ _ _ _ q1 p S.out.x EQ).mono ?_
              rintro e wn33 ⟨rfl, cx, fx⟩
              have S' := Lib.hid (S.out.hx cx fx)
              have B' := Lib.hid (below_fr B.out fx (fun i hi => by omega))
              clear cx fx
              clear S B
              have S := S'
              have B := B'
              clear S' B'
              go_wp2_with (fail)
              refine (kind_p _ _ _ _ _ q1 p S.out.x EQp).mono ?_
              rintro e wn34 ⟨rfl, cx, fx⟩
              have S' := Lib.hid (S.out.hx cx fx)
              have B' := Lib.hid (below_fr B.out fx (fun i hi => by omega))
              clear cx fx
              clear S B
              have S := S'
              have B := B'
              clear S' B'
              go_wp2_with (fail)
              refine (kind_p _ _ _ _ _ r1 s S.out.y ER).mono ?_
              rintro e wn35 ⟨rfl, cx, fx⟩
              have S' := Lib.hid (S.out.hy cx fx)
              have B' := Lib.hid (below_fr B.out fx (fun i hi => by omega))
              clear cx fx
              clear S B
              have S := S'
              have B := B'
              clear S' B'
              go_wp2_with (fail)
              refine (left_n _ _ _ _ q1 p Np S.out.x HNp).mono ?_
              rintro e wn36 ⟨rfl, fx⟩
              have S' := Lib.hid (S.out.free fx)
              have B' := Lib.hid (below_fr B.out fx (fun i hi => hi.elim))
              clear fx
              clear S B
              have S := S'
              have B := B'
              clear S' B'
              go_wp2_with (fail)
              refine (left_n _ _ _ _ r1 s Ns S.out.y HNs).mono ?_
              rintro e wn37 ⟨rfl, fx⟩
              have S' := Lib.hid (S.out.free fx)
              have B' := Lib.hid (below_fr B.out fx (fun i hi => hi.elim))
              clear fx
              clear S B
              have S := S'
              have B := B'
              clear S' B'
              go_wp2_with (fail)
              refine (min4_n Np Ns M _ HM).mono ?_
              rintro e wmin ⟨rfl, rfl⟩
              go_wp2_with (fail)
              refine (kind_p _ _ _ _ _ q1 p S.out.x EQp).mono ?_
              rintro e wn38 ⟨rfl, cx, fx⟩
              have S' := Lib.hid (S.out.hx cx fx)
              have B' := Lib.hid (below_fr B.out fx (fun i hi => by omega))
              clear cx fx
              clear S B
              have S := S'
              have B := B'
              clear S' B'
              go_wp2_with (fail)
              refine (kind_p _ _ _ _ _ r1 s S.out.y ERs).mono ?_
              rintro e wn39 ⟨rfl, cx, fx⟩
              have S' := Lib.hid (S.out.hy cx fx)
              have B' := Lib.hid (below_fr B.out fx (fun i hi => by omega))
              clear cx fx
              clear S B
              have S := S'
              have B := B'
              clear S' B'
              go_wp2_with (fail)
              refine (drop2 _ _ _ _ M S.out.b hd1 (by omega) (by omega) (by omega)).mono ?_
              rintro e wn40 ⟨rfl, st, bx⟩
              have S' := Lib.hid (S.out.hb st bx)
              have B' := Lib.hid (below_fr B.out (frame_lo bx) (fun i hi => by omega))
              clear st bx
              clear S B
              have S := S'
              have B := B'
              clear S' B'
              obtain ⟨-, -, fy0, -, ly0, -⟩ := S.out.y.bump
              obtain ⟨dx, ex, fx, h2x, lx, mx⟩ := S.out.x.bump
              obtain ⟨Wx, Cx⟩ := mx M MP.out
              have S1 := Lib.hid (S.out.hx Cx (Frame.setCell _ _ _ _ rfl))
              have B1 := Lib.hid (below_fr B.out (Frame.setCell (fun k => k = w4.heap.size) _ ⟨w4.heap.size, 2, none⟩ (.int .i64 ((dx + M : Nat) : Int)) rfl) (fun i hi => by omega))
              clear mx Cx
              obtain ⟨dy, ey, fy, h2y, ly, my⟩ := S1.out.y.bump
              obtain ⟨Wy, Cy⟩ := my M MS.out
              have S2 := Lib.hid (S1.out.hy Cy (Frame.setCell _ _ _ _ rfl))
              have B2 := Lib.hid (below_fr B1.out (Frame.setCell (fun k => k = w4.heap.size + 1) _ ⟨w4.heap.size + 1, 2, none⟩ (.int .i64 ((dy + M : Nat) : Int)) rfl) (fun i hi => by omega))
              replace ey := ((Frame.setCell (fun k => k = w4.heap.size) _ ⟨w4.heap.size, 2, none⟩ (.int .i64 ((dx + M : Nat) : Int)) rfl).cell (o := 2) ly0 (by omega)).symm.trans ey
              clear fy ly
              clear my Cy
              go_wp2_with (fail)
              rw [← Int.natCast_add dx M, ← Int.natCast_add dy M]
              clear S B ex Wx ey Wy
              have S := S2
              have B := B2
              go_roundg ((Pl.units (Pl.lf p M :: q1)).length + (Pl.units (Pl.lf s M :: r1)).length)
              case rel => exact ⟨_, _, Pl.lf p M :: q1, Pl.lf s M :: r1, _, _, m + 1, rfl, by omega, S.out, HC'.out, HR1.out, HR2.out, (hle1.out).mono (by omega), (Pl.bDrop_le (k := 300) hle2.out (by omega) (by omega)).mono (by omega), B.out⟩
              case measure => omega
              -- END m13
          · rcases hss with hs1 | hs1
            · have k1p : (p.kind == 1) = false := by simp [hp1]
              have k1s : (s.kind == 1) = true := by simp [hs1]
              rw [Pl.xOut1, Pl.xOut2, if_pos hs1, if_neg (by rw [hp1]; decide)] at hbo
              have HC' := Lib.hid hbo
              have HR1 : Hid (Pl.bDrop bd M = Pl.run Pl.Bd.init (acc ++ Pl.unitsP (Pl.tk p M))) := by show _ = _; rw [run1.out, Pl.tk_3 hp1, Pl.run_append, Pl.ds, Pl.run_drops]
              have HR2 : Hid (bz = Pl.run Pl.Bd.init (acc2 ++ [])) := by show _ = _; rw [run2.out, List.append_nil]
              clear hp1 hs1 hbo
              -- PART m31
              go_wp2_with (fail)
              refine (kind_p _ _ _ _ _ q1 p S.out.x EQ).mono ?_
              rintro e wn41 ⟨rfl, cx, fx⟩
              have S' := Lib.hid (S.out.hx cx fx)
              have B' := Lib.hid (below_fr B.out fx (fun i hi => by omega))
              clear cx fx
              clear S B
              have S := S'
              have B := B'
              clear S' B'
              go_wp2_with (fail)
              refine (kind_p _ _ _ _ _ q1 p S.out.x EQp).mono ?_
              rintro e wn42 ⟨rfl, cx, fx⟩
              have S' := Lib.hid (S.out.hx cx fx)
              have B' := Lib.hid (below_fr B.out fx (fun i hi => by omega))
              clear cx fx
              clear S B
              have S := S'
              have B := B'
              clear S' B'
              go_wp2_with (fail)
              refine (kind_p _ _ _ _ _ r1 s S.out.y ER).mono ?_
              rintro e wn43 ⟨rfl, cx, fx⟩
              have S' := Lib.hid (S.out.hy cx fx)
              have B' := Lib.hid (below_fr B.out fx (fun i hi => by omega))
              clear cx fx
              clear S B
              have S := S'
              have B := B'
              clear S' B'
              go_wp2_with (fail)
              refine (left_n _ _ _ _ q1 p Np S.out.x HNp).mono ?_
              rintro e wn44 ⟨rfl, fx⟩
              have S' := Lib.hid (S.out.free fx)
              have B' := Lib.hid (below_fr B.out fx (fun i hi => hi.elim))
              clear fx
              clear S B
              have S := S'
              have B := B'
              clear S' B'
              go_wp2_with (fail)
              refine (left_n _ _ _ _ r1 s Ns S.out.y HNs).mono ?_
              rintro e wn45 ⟨rfl, fx⟩
              have S' := Lib.hid (S.out.free fx)
              have B' := Lib.hid (below_fr B.out fx (fun i hi => hi.elim))
              clear fx
              clear S B
              have S := S'
              have B := B'
              clear S' B'
              go_wp2_with (fail)
              refine (min4_n Np Ns M _ HM).mono ?_
              rintro e wmin ⟨rfl, rfl⟩
              go_wp2_with (fail)
              refine (kind_p _ _ _ _ _ q1 p S.out.x EQp).mono ?_
              rintro e wn46 ⟨rfl, cx, fx⟩
              have S' := Lib.hid (S.out.hx cx fx)
              have B' := Lib.hid (below_fr B.out fx (fun i hi => by omega))
              clear cx fx
              clear S B
              have S := S'
              have B := B'
              clear S' B'
              go_wp2_with (fail)
              refine (kind_p _ _ _ _ _ r1 s S.out.y ERs).mono ?_
              rintro e wn47 ⟨rfl, cx, fx⟩
              have S' := Lib.hid (S.out.hy cx fx)
              have B' := Lib.hid (below_fr B.out fx (fun i hi => by omega))
              clear cx fx
              clear S B
              have S := S'
              have B := B'
              clear S' B'
              go_wp2_with (fail)
              refine (drop1 _ _ _ _ M S.out.b hd0 (by omega) (by omega) (by omega)).mono ?_
              rintro e wn48 ⟨rfl, st, bx⟩
              have S' := Lib.hid (S.out.hb st bx)
              have B' := Lib.hid (below_fr B.out (frame_lo bx) (fun i hi => by omega))
              clear st bx
              clear S B
              have S := S'
              have B := B'
              clear S' B'
              obtain ⟨-, -, fy0, -, ly0, -⟩ := S.out.y.bump
              obtain ⟨dx, ex, fx, h2x, lx, mx⟩ := S.out.x.bump
              obtain ⟨Wx, Cx⟩ := mx M MP.out
              have S1 := Lib.hid (S.out.hx Cx (Frame.setCell _ _ _ _ rfl))
              have B1 := Lib.hid (below_fr B.out (Frame.setCell (fun k => k = w4.heap.size) _ ⟨w4.heap.size, 2, none⟩ (.int .i64 ((dx + M : Nat) : Int)) rfl) (fun i hi => by omega))
              clear mx Cx
              obtain ⟨dy, ey, fy, h2y, ly, my⟩ := S1.out.y.bump
              obtain ⟨Wy, Cy⟩ := my M MS.out
              have S2 := Lib.hid (S1.out.hy Cy (Frame.setCell _ _ _ _ rfl))
              have B2 := Lib.hid (below_fr B1.out (Frame.setCell (fun k => k = w4.heap.size + 1) _ ⟨w4.heap.size + 1, 2, none⟩ (.int .i64 ((dy + M : Nat) : Int)) rfl) (fun i hi => by omega))
              replace ey := ((Frame.setCell (fun k => k = w4.heap.size) _ ⟨w4.heap.size, 2, none⟩ (.int .i64 ((dx + M : Nat) : Int)) rfl).cell (o := 2) ly0 (by omega)).symm.trans ey
              clear fy ly
              clear my Cy
              go_wp2_with (fail)
              rw [← Int.natCast_add dx M, ← Int.natCast_add dy M]
              clear S B ex Wx ey Wy
              have S := S2
              have B := B2
              go_roundg ((Pl.units (Pl.lf p M :: q1)).length + (Pl.units (Pl.lf s M :: r1)).length)
              case rel => exact ⟨_, _, Pl.lf p M :: q1, Pl.lf s M :: r1, _, _, m + 1, rfl, by omega, S.out, HC'.out, HR1.out, HR2.out, (Pl.bDrop_le (k := 300) hle1.out (by omega) (by omega)).mono (by omega), (hle2.out).mono (by omega), B.out⟩
              case measure => omega
              -- END m31
            · have k1p : (p.kind == 1) = false := by simp [hp1]
              have k1s : (s.kind == 1) = false := by simp [hs1]
              rw [Pl.xOut1, Pl.xOut2, if_neg (by rw [hs1]; decide), if_neg (by rw [hp1]; decide)] at hbo
              have HC' := Lib.hid hbo
              have HR1 : Hid (bd = Pl.run Pl.Bd.init (acc ++ [])) := by show _ = _; rw [run1.out, List.append_nil]
              have HR2 : Hid (bz = Pl.run Pl.Bd.init (acc2 ++ [])) := by show _ = _; rw [run2.out, List.append_nil]
              clear hp1 hs1 hbo
              -- PART m33
              go_wp2_with (fail)
              refine (kind_p _ _ _ _ _ q1 p S.out.x EQ).mono ?_
              rintro e wn49 ⟨rfl, cx, fx⟩
              have S' := Lib.hid (S.out.hx cx fx)
              have B' := Lib.hid (below_fr B.out fx (fun i hi => by omega))
              clear cx fx
              clear S B
              have S := S'
              have B := B'
              clear S' B'
              go_wp2_with (fail)
              refine (kind_p _ _ _ _ _ q1 p S.out.x EQp).mono ?_
              rintro e wn50 ⟨rfl, cx, fx⟩
              have S' := Lib.hid (S.out.hx cx fx)
              have B' := Lib.hid (below_fr B.out fx (fun i hi => by omega))
              clear cx fx
              clear S B
              have S := S'
              have B := B'
              clear S' B'
              go_wp2_with (fail)
              refine (kind_p _ _ _ _ _ r1 s S.out.y ER).mono ?_
              rintro e wn51 ⟨rfl, cx, fx⟩
              have S' := Lib.hid (S.out.hy cx fx)
              have B' := Lib.hid (below_fr B.out fx (fun i hi => by omega))
              clear cx fx
              clear S B
              have S := S'
              have B := B'
              clear S' B'
              go_wp2_with (fail)
              refine (left_n _ _ _ _ q1 p Np S.out.x HNp).mono ?_
              rintro e wn52 ⟨rfl, fx⟩
              have S' := Lib.hid (S.out.free fx)
              have B' := Lib.hid (below_fr B.out fx (fun i hi => hi.elim))
              clear fx
              clear S B
              have S := S'
              have B := B'
              clear S' B'
              go_wp2_with (fail)
              refine (left_n _ _ _ _ r1 s Ns S.out.y HNs).mono ?_
              rintro e wn53 ⟨rfl, fx⟩
              have S' := Lib.hid (S.out.free fx)
              have B' := Lib.hid (below_fr B.out fx (fun i hi => hi.elim))
              clear fx
              clear S B
              have S := S'
              have B := B'
              clear S' B'
              go_wp2_with (fail)
              refine (min4_n Np Ns M _ HM).mono ?_
              rintro e wmin ⟨rfl, rfl⟩
              go_wp2_with (fail)
              refine (kind_p _ _ _ _ _ q1 p S.out.x EQp).mono ?_
              rintro e wn54 ⟨rfl, cx, fx⟩
              have S' := Lib.hid (S.out.hx cx fx)
              have B' := Lib.hid (below_fr B.out fx (fun i hi => by omega))
              clear cx fx
              clear S B
              have S := S'
              have B := B'
              clear S' B'
              go_wp2_with (fail)
              refine (kind_p _ _ _ _ _ r1 s S.out.y ERs).mono ?_
              rintro e wn55 ⟨rfl, cx, fx⟩
              have S' := Lib.hid (S.out.hy cx fx)
              have B' := Lib.hid (below_fr B.out fx (fun i hi => by omega))
              clear cx fx
              clear S B
              have S := S'
              have B := B'
              clear S' B'
              obtain ⟨-, -, fy0, -, ly0, -⟩ := S.out.y.bump
              obtain ⟨dx, ex, fx, h2x, lx, mx⟩ := S.out.x.bump
              obtain ⟨Wx, Cx⟩ := mx M MP.out
              have S1 := Lib.hid (S.out.hx Cx (Frame.setCell _ _ _ _ rfl))
              have B1 := Lib.hid (below_fr B.out (Frame.setCell (fun k => k = w4.heap.size) _ ⟨w4.heap.size, 2, none⟩ (.int .i64 ((dx + M : Nat) : Int)) rfl) (fun i hi => by omega))
              clear mx Cx
              obtain ⟨dy, ey, fy, h2y, ly, my⟩ := S1.out.y.bump
              obtain ⟨Wy, Cy⟩ := my M MS.out
              have S2 := Lib.hid (S1.out.hy Cy (Frame.setCell _ _ _ _ rfl))
              have B2 := Lib.hid (below_fr B1.out (Frame.setCell (fun k => k = w4.heap.size + 1) _ ⟨w4.heap.size + 1, 2, none⟩ (.int .i64 ((dy + M : Nat) : Int)) rfl) (fun i hi => by omega))
              replace ey := ((Frame.setCell (fun k => k = w4.heap.size) _ ⟨w4.heap.size, 2, none⟩ (.int .i64 ((dx + M : Nat) : Int)) rfl).cell (o := 2) ly0 (by omega)).symm.trans ey
              clear fy ly
              clear my Cy
              go_wp2_with (fail)
              rw [← Int.natCast_add dx M, ← Int.natCast_add dy M]
              clear S B ex Wx ey Wy
              have S := S2
              have B := B2
              go_roundg ((Pl.units (Pl.lf p M :: q1)).length + (Pl.units (Pl.lf s M :: r1)).length)
              case rel => exact ⟨_, _, Pl.lf p M :: q1, Pl.lf s M :: r1, _, _, m + 1, rfl, by omega, S.out, HC'.out, HR1.out, HR2.out, (hle1.out).mono (by omega), (hle2.out).mono (by omega), B.out⟩
              case measure => omega
              -- END m33
theorem transform_s (v v' : Value) (ps qs : List Pt) (w : World) (h : SliceParts w.heap.size w v ps) (h' : SliceParts w.heap.size w v' qs) :
    Calls Try.prog 36 #[v, v'] w fun e w' => ∃ u1 s1 u2 s2, e = .returned (.tuple #[u1, u2, .bool (Pl.xfOk ps qs)]) ∧ OwnP w.heap.size w'.heap.size w' u1 (Pl.trans1 ps qs) s1 ∧ OwnP w.heap.size w'.heap.size w' u2 (Pl.trans2 ps qs) s2 ∧ Below w.heap.size w w' :=
  (transform_sx v v' ps qs w h h').mono fun e w' hh => by
    obtain ⟨u1, s1, u2, s2, h1, h2, h3, h4, -⟩ := hh
    exact ⟨u1, s1, u2, s2, h1, h2, h3, h4⟩
end Go.Proofs.Ytlpjbbmjchfolaa
