/- Contracts of what draws numbers and characters. Condition: none. -/
import Derived.Test.YtookcfpiegbafaaGreatDoorGB
import Derived.Test.YtookcfpiegbafaaGreatDoorNormI
import Derived.Test.YtookcfpiegbafaaGreatDoorGC
import Derived.Laws.Bits128
import Derived.Lib.Hide
import Derived.Deep.DeepCutAuto
import Derived.IntWalk
import Derived.BigRegion
import Derived.Deep.QuietTactic
import Derived.BigQuiet
namespace Go.Proofs.YtookcfpiegbafaaGreatDoor
open Go.RowKit
set_option maxRecDepth 100000

/-- n bytes can be read at A, in a block below B. -/
def BytesAt (B : Nat) (w : World) (A : Option Addr) (n : Nat) : Prop :=
  ∀ k, k < n → ∃ b off x, A = some ⟨b, off, none⟩ ∧ b < B ∧ w.cell? ⟨b, off + k, none⟩ = some (.int .u8 x) ∧ 0 ≤ x ∧ x ≤ 255
def SliceBytes (B : Nat) (w : World) (v : Value) (n : Nat) : Prop := ∃ A c, v = .slice A n c ∧ (n ≤ c ∧ c ≤ maxLen) ∧ BytesAt B w A n
theorem BytesAt.frame {B : Nat} {S : Nat → Prop} {w w' : World} {A : Option Addr} {n : Nat} (h : BytesAt B w A n) (hf : Frame S w w') (hB : B ≤ w.heap.size) (hs : ∀ g, g < B → ¬ S g) : BytesAt B w' A n := fun k hk => by
  obtain ⟨b, off, x, hA, hb, hc, hx⟩ := h k hk
  exact ⟨b, off, x, hA, hb, (hf.cell (by omega) (hs b hb)).trans hc, hx⟩
/-- A cursor of draws lies at block g, over n bytes below B. -/
structure CurAt (B : Nat) (w : World) (g n : Nat) : Prop where
  blk : ∃ A c i h, w.heap[g]? = some (.cells #[.slice A n c, .int .i64 i, .int .i64 h] 71 (0, 0)) ∧ (n ≤ c ∧ c ≤ maxLen) ∧ BytesAt B w A n ∧ 0 ≤ i ∧ i ≤ n
  low : B ≤ g
theorem CurAt.lt {B : Nat} {w : World} {g n : Nat} (h : CurAt B w g n) : g < w.heap.size := by
  obtain ⟨A, c, i, hh, hb, _⟩ := h.blk
  exact lt_of_block hb
theorem CurAt.frame {B : Nat} {S : Nat → Prop} {w w' : World} {g n : Nat} (h : CurAt B w g n) (hf : Frame S w w') (hg : ¬ S g) (hs : ∀ k, k < B → ¬ S k) : CurAt B w' g n := by
  have hl := h.lt
  have hlo := h.low
  obtain ⟨A, c, i, hh, hb, hc, hy, hi⟩ := h.blk
  exact ⟨⟨A, c, i, hh, hf.heap hb hg, hc, hy.frame hf (by omega) hs, hi⟩, hlo⟩
theorem i64_and255 (n : Int) : bits .and .i64 n 255 = n % 256 := by
  have h127 : (BitVec.ofInt 64 255).toNat = 2 ^ 8 - 1 := by decide
  have key : (BitVec.ofInt 64 n &&& BitVec.ofInt 64 255).toNat = (n % ((2 ^ 64 : Nat) : Int)).toNat % 2 ^ 8 := by
    rw [BitVec.toNat_and, BitVec.toNat_ofInt, h127, Nat.and_two_pow_sub_one_eq_mod]
  show IntKind.i64.wrap ((BitVec.ofInt 64 n &&& BitVec.ofInt 64 255).toNat : Nat) = n % 256
  rw [key, IntKind.wrap_i64]
  omega

theorem set3_1 {w : World} {g : Nat} {x y z : Value} {t : TypeId} (h : w.heap[g]? = some (.cells #[x, y, z] t (0, 0))) (u : Value) : (w.setCell ⟨g, 1, none⟩ u).heap[g]? = some (.cells #[x, u, z] t (0, 0)) := by
  rw [heap_setCell_same w g 1 _ _ u h]; rfl
theorem set3_2 {w : World} {g : Nat} {x y z : Value} {t : TypeId} (h : w.heap[g]? = some (.cells #[x, y, z] t (0, 0))) (u : Value) : (w.setCell ⟨g, 2, none⟩ u).heap[g]? = some (.cells #[x, y, u] t (0, 0)) := by
  rw [heap_setCell_same w g 2 _ _ u h]; rfl
theorem Frame.drewN (S : Nat → Prop) (w : World) (n : Nat) : Frame S w (w.drewN n) := Frame.ofBelow (below_drewN (Below.refl _ _) n)
/-- Another place and another number. -/
theorem CurAt.turn {B : Nat} {w : World} {g n : Nat} {A : Option Addr} {c : Nat} {i h : Int} {w' : World} (hlow : B ≤ g) (hl : g < w.heap.size) (hf : Frame (fun k => k = g) w w') (hc : n ≤ c ∧ c ≤ maxLen) (hy : BytesAt B w A n)
    (hb : w'.heap[g]? = some (.cells #[.slice A n c, .int .i64 i, .int .i64 h] 71 (0, 0))) (hi : 0 ≤ i ∧ i ≤ n) : CurAt B w' g n :=
  ⟨⟨A, c, i, h, hb, hc, hy.frame hf (by omega) (fun k hk e => by omega), hi⟩, hlow⟩

theorem byte_end {B : Nat} {w : World} {g n : Nat} {A : Option Addr} {c : Nat} {i h h' : Int} (m : Nat) (hlow : B ≤ g) (hc : n ≤ c ∧ c ≤ maxLen) (hy : BytesAt B w A n)
    (hb : w.heap[g]? = some (.cells #[.slice A n c, .int .i64 i, .int .i64 h] 71 (0, 0))) (h0 : 0 ≤ i) (h1 : i ≤ n) :
    CurAt B ((w.setCell ⟨g, 2, none⟩ (.int .i64 h')).drewN m) g n ∧ Frame (fun k => k = g) w ((w.setCell ⟨g, 2, none⟩ (.int .i64 h')).drewN m) ∧
    (i < n → CurAt B (((w.setCell ⟨g, 2, none⟩ (.int .i64 h')).drewN m).setCell ⟨g, 1, none⟩ (.int .i64 (i + 1))) g n ∧ Frame (fun k => k = g) w (((w.setCell ⟨g, 2, none⟩ (.int .i64 h')).drewN m).setCell ⟨g, 1, none⟩ (.int .i64 (i + 1)))) := by
  have f1 := Frame.setCell (fun k => k = g) w ⟨g, 2, none⟩ (.int .i64 h') rfl
  have f2 : Frame (fun k => k = g) w ((w.setCell ⟨g, 2, none⟩ (.int .i64 h')).drewN m) := f1.trans (Frame.drewN (fun k => k = g) _ m) fun _ _ hh => hh
  have e2 : ((w.setCell ⟨g, 2, none⟩ (.int .i64 h')).drewN m).heap[g]? = _ := (Frame.drewN (fun _ => False) (w.setCell ⟨g, 2, none⟩ (.int .i64 h')) m).heap (set3_2 hb (.int .i64 h')) (fun hh => hh)
  have f3 := f2.trans (Frame.setCell (fun k => k = g) _ ⟨g, 1, none⟩ (.int .i64 (i + 1)) rfl) fun _ _ hh => hh
  exact ⟨CurAt.turn hlow (lt_of_block hb) f2 hc hy e2 ⟨h0, h1⟩, f2, fun hlt => ⟨CurAt.turn hlow (lt_of_block hb) f3 hc hy (set3_1 e2 _) ⟨by omega, by omega⟩, f3⟩⟩
theorem and255 (x : Int) : 0 ≤ bits .and .i64 x 255 ∧ bits .and .i64 x 255 ≤ 255 := by rw [i64_and255]; omega

set_option maxHeartbeats 1600000 in
theorem new_s (v : Value) (n : Nat) (w : World) (h : SliceBytes w.heap.size w v n) :
    Calls Tryz.prog 34 #[v] w fun e w' => ∃ g, e = .returned (.pointer (some ⟨g, 0, none⟩)) ∧ w.heap.size ≤ g ∧ CurAt w.heap.size w' g n ∧ Below w.heap.size w w' := by
  obtain ⟨A, c, rfl, hc, hb⟩ := h
  have HB := Lib.hid hb
  clear hb
  have hm := hc.2
  unfold maxLen at hm
  go_enter Tryz.func34, Tryz.ntmps34
  go_wp2_with (fail)
  go_loopw [3, 4] (fun h i wr => wr = w ∧ ∃ (k : Nat) (x : Int), k ≤ n ∧ i = .int .i64 k ∧ h = .int .i64 x) (fun _ i _ => n - (intOf i).toNat)
  case atStart => exact ⟨rfl, 0, _, Nat.zero_le _, rfl, rfl⟩
  case round =>
    obtain ⟨rfl, k, x, hk, rfl, rfl⟩ := hrel
    by_cases hlk : k < n
    · by_cases h4 : k < 4000
      · obtain ⟨b, off, y, rfl, hbB, cx, hx0, hx1⟩ := HB.out k hlk
        go_wp2_with (fail)
        go_roundw
        case rel => exact ⟨trivial, k + 1, _, by omega, by go_num, rfl⟩
        case measure => simp [intOf]; omega
      · go_wp2_with (fail)
        go_ret
        exact ⟨_, rfl, Nat.le_refl _, ⟨⟨A, c, _, _, heap_new_at _ _ rfl, hc, HB.out.frame (Frame.alloc (fun _ => False) _ _) (Nat.le_refl _) (fun _ _ hh => hh), Int.le_refl _, by omega⟩, Nat.le_refl _⟩, (Below.refl _ _).alloc (Nat.le_refl _) _⟩
    · go_wp2_with (fail)
      go_ret
      exact ⟨_, rfl, Nat.le_refl _, ⟨⟨A, c, _, _, heap_new_at _ _ rfl, hc, HB.out.frame (Frame.alloc (fun _ => False) _ _) (Nat.le_refl _) (fun _ _ hh => hh), Int.le_refl _, by omega⟩, Nat.le_refl _⟩, (Below.refl _ _).alloc (Nat.le_refl _) _⟩
set_option maxHeartbeats 1600000 in
theorem byte_s (B g n : Nat) (w : World) (h : CurAt B w g n) :
    Calls Tryz.prog 85 #[.pointer (some ⟨g, 0, none⟩)] w fun e w' => ∃ x, e = .returned (.int .i64 x) ∧ (0 ≤ x ∧ x ≤ 255) ∧ CurAt B w' g n ∧ Frame (fun k => k = g) w w' := by
  have lg := h.lt
  have lo := h.low
  obtain ⟨A, c, i, hh, hb, hc, hy, hi0, hi1⟩ := h.blk
  have hm := hc.2
  unfold maxLen at hm
  obtain ⟨z0, z1, z2, zf, zl⟩ := blk3 hb
  have zf0 := zf 0
  have zf1 := zf 1
  have zf2 := zf 2
  have HBK := Lib.hid hb
  have HY := Lib.hid hy
  clear hb zf
  by_cases hin : i < n
  · obtain ⟨b, off, x, rfl, hbB, cx, hx0, hx1⟩ := hy i.toNat (by omega)
    have hne : b ≠ g := by omega
    clear hy h
    go_enter Tryz.func85, Tryz.ntmps85
    go_wp2
    go_quiet (fail)
    go_wp2
    go_quiet (fail)
    go_wp2
    go_quiet (fail)
    go_wp2
    go_ret
    obtain ⟨a, b⟩ := (byte_end _ lo hc HY.out HBK.out hi0 hi1).2.2 hin
    exact ⟨_, rfl, and255 _, a, b⟩
  · clear hy h
    go_enter Tryz.func85, Tryz.ntmps85
    go_wp2
    go_quiet (fail)
    go_wp2
    go_quiet (fail)
    go_wp2
    go_ret
    obtain ⟨a, b, -⟩ := byte_end _ lo hc HY.out HBK.out hi0 hi1
    rw [World.drewN_drewN]
    exact ⟨_, rfl, and255 _, a, b⟩
set_option maxHeartbeats 1600000 in
theorem below_s (B g n : Nat) (m : Int) (w : World) (h : CurAt B w g n) :
    Calls Tryz.prog 63 #[.pointer (some ⟨g, 0, none⟩), .int .i64 m] w fun e w' => ∃ x, e = .returned (.int .i64 x) ∧ ((m ≤ 0 → x = 0) ∧ (0 < m → 0 ≤ x ∧ x < m)) ∧ CurAt B w' g n ∧ Frame (fun k => k = g) w w' := by
  by_cases h0 : m ≤ 0
  · have H := Lib.hid h
    clear h
    go_enter Tryz.func63, Tryz.ntmps63
    go_wp2_with (fail)
    go_ret
    exact ⟨_, rfl, ⟨fun _ => rfl, fun hh => by omega⟩, H.out, Frame.refl _ _⟩
  · by_cases h1 : m ≤ 256
    · have H := Lib.hid h
      clear h
      go_enter Tryz.func63, Tryz.ntmps63
      go_wp2_with (fail)
      refine (byte_s B g n _ H.out).mono ?_
      rintro e w1 ⟨x, rfl, ⟨x0, x1⟩, c1, f1⟩
      have C1 := Lib.hid c1
      have F1 := Lib.hid f1
      clear c1 f1
      go_wp2_with (fail)
      go_ret
      exact ⟨_, rfl, ⟨fun hh => by omega, fun hh => ⟨Int.emod_nonneg _ (by omega), Int.emod_lt_of_pos _ hh⟩⟩, C1.out, F1.out⟩
    · have H := Lib.hid h
      clear h
      go_enter Tryz.func63, Tryz.ntmps63
      go_wp2_with (fail)
      refine (byte_s B g n _ H.out).mono ?_
      rintro e w1 ⟨x1, rfl, ⟨a1, b1⟩, c1, f1⟩
      have C1 := Lib.hid c1
      have F1 := Lib.hid f1
      clear c1 f1
      go_wp2_with (fail)
      refine (byte_s B g n _ C1.out).mono ?_
      rintro e w2 ⟨x2, rfl, ⟨a2, b2⟩, c2, f2⟩
      have C2 := Lib.hid c2
      have F2 := Lib.hid (F1.out.trans f2 fun _ _ hh => hh)
      clear c2 f2
      go_wp2_with (fail)
      refine (byte_s B g n _ C2.out).mono ?_
      rintro e w3 ⟨x3, rfl, ⟨a3, b3⟩, c3, f3⟩
      have C3 := Lib.hid c3
      have F3 := Lib.hid (F2.out.trans f3 fun _ _ hh => hh)
      clear c3 f3
      go_wp2_with (fail)
      refine (byte_s B g n _ C3.out).mono ?_
      rintro e w4 ⟨x4, rfl, ⟨a4, b4⟩, c4, f4⟩
      have C4 := Lib.hid c4
      have F4 := Lib.hid (F3.out.trans f4 fun _ _ hh => hh)
      clear c4 f4
      go_wp2_with (fail)
      go_ret
      exact ⟨_, rfl, ⟨fun hh => by omega, fun hh => ⟨Int.emod_nonneg _ (by omega), Int.emod_lt_of_pos _ hh⟩⟩, C4.out, F4.out⟩
theorem once_s (B g n : Nat) (m : Int) (w : World) (h : CurAt B w g n) :
    Calls Tryz.prog 65 #[.pointer (some ⟨g, 0, none⟩), .int .i64 m] w fun e w' => ∃ x, e = .returned (.bool x) ∧ CurAt B w' g n ∧ Frame (fun k => k = g) w w' := by
  have H := Lib.hid h
  clear h
  go_enter Tryz.func65, Tryz.ntmps65
  go_wp2_with (fail)
  refine (below_s B g n m _ H.out).mono ?_
  rintro e w1 ⟨x, rfl, hx, c1, f1⟩
  have C1 := Lib.hid c1
  have F1 := Lib.hid f1
  clear c1 f1 hx
  by_cases h0 : x = 0
  · subst h0
    go_wp2_with (fail)
    go_ret
    exact ⟨_, rfl, C1.out, F1.out⟩
  · have k0 : (x == 0) = false := by simp [h0]
    go_wp2_with (fail)
    go_ret
    exact ⟨_, rfl, C1.out, F1.out⟩
theorem pick_s (B g n : Nat) (v : Value) (xs : List Int) (w : World) (h : CurAt B w g n) (hv : SliceInts w.heap.size w v xs) (hg : ∀ A k c, v = .slice (some A) k c → A.block ≠ g) (h1 : 0 < xs.length) (h2 : xs.length ≤ 1000) :
    Calls Tryz.prog 86 #[.pointer (some ⟨g, 0, none⟩), v] w fun e w' => ∃ x, e = .returned (.int .i64 x) ∧ x ∈ xs ∧ CurAt B w' g n ∧ Frame (fun k => k = g) w w' := by
  have H := Lib.hid h
  obtain ⟨A, c, rfl, hc, hi⟩ := hv
  have hm := hc.2
  unfold maxLen at hm
  have HI := Lib.hid hi
  clear h hi
  go_enter Tryz.func86, Tryz.ntmps86
  go_wp2_with (fail)
  refine (below_s B g n _ _ H.out).mono ?_
  rintro e w1 ⟨x, rfl, hx, c1, f1⟩
  obtain ⟨x0, x1⟩ := hx.2 (by omega)
  obtain ⟨b, off, rfl, hb, hcell⟩ := HI.out x.toNat (by omega)
  have hne := hg _ _ _ rfl
  have hcell1 := (f1.cell (o := off + x.toNat) hb (fun e => hne e)).trans hcell
  have C1 := Lib.hid c1
  have F1 := Lib.hid f1
  have HM : Hid (xs.getD x.toNat 0 ∈ xs) := by
    show _ ∈ _
    simp [List.getD, show x.toNat < xs.length by omega]
  clear c1 f1 hx hcell
  generalize xs.getD x.toNat 0 = y at hcell1 HM
  go_wp2_with (fail)
  go_ret
  exact ⟨_, rfl, HM.out, C1.out, F1.out⟩
/-- A literal of ints that lies in a block. -/
theorem lit_ints {w : World} {b : Nat} {xs : List Int} {cs : Array Value} {t : TypeId} (h : w.heap[b]? = some (.cells cs t (0, 0))) (hc : cs.toList = xs.map (Value.int .i64)) (hl : xs.length ≤ maxLen) {n : Nat} (hn : n = xs.length) :
    SliceInts w.heap.size w (.slice (some ⟨b, 0, none⟩) n n) xs := by
  subst hn
  refine ⟨_, _, rfl, ⟨Nat.le_refl _, hl⟩, fun k hk => ⟨b, 0, rfl, lt_of_block h, ?_⟩⟩
  rw [cell_of_row w b _ cs t (0, 0) h]
  have : cs.toList[0 + k]? = some (.int .i64 (xs.getD k 0)) := by rw [hc]; simp [List.getD, hk]
  simpa using this
theorem sign_s (B g n : Nat) (w : World) (h : CurAt B w g n) :
    Calls Tryz.prog 64 #[.pointer (some ⟨g, 0, none⟩)] w fun e w' => ∃ x, e = .returned (.int .i64 x) ∧ Pl.signOk x = true ∧ CurAt B w' g n ∧ Frame (fun k => k = g) w w' := by
  have H := Lib.hid h
  clear h
  go_enter Tryz.func64, Tryz.ntmps64
  go_wp2_with (fail)
  refine (once_s B g n _ _ H.out).mono ?_
  rintro e w1 ⟨x, rfl, c1, f1⟩
  have l1 := c1.lt
  have C1 := Lib.hid c1
  have F1 := Lib.hid f1
  clear c1 f1
  cases x with
  | true =>
    go_wp2_with (fail)
    have ca := Frame.alloc (fun _ => False) w1 (.cells #[.int .i64 0, .int .i64 127, .int .i64 128, .int .i64 2047, .int .i64 2048, .int .i64 55295, .int .i64 57344, .int .i64 65535, .int .i64 65536, .int .i64 1114111, .int .i64 10, .int .i64 32] 3)
    refine (pick_s B g n _ [0, 127, 128, 2047, 2048, 55295, 57344, 65535, 65536, 1114111, 10, 32] _ (C1.out.frame ca (fun hh => hh) (fun _ _ hh => hh)) (lit_ints (heap_new_at _ _ rfl) rfl (by unfold maxLen; decide) rfl) (fun A k c e => by injection e with e1; injection e1 with e2; rw [← e2]; show w1.heap.size ≠ g; omega) (by decide) (by decide)).mono ?_
    rintro e w2 ⟨x, rfl, hx, c2, f2⟩
    have HX : Hid (Pl.signOk x = true) := by
      show _ = _
      simp only [List.mem_cons, List.not_mem_nil, or_false] at hx
      rcases hx with h | h | h | h | h | h | h | h | h | h | h | h <;> subst h <;> decide
    have C2 := Lib.hid c2
    have F2 := Lib.hid ((F1.out.trans ca (fun _ _ hh => hh.elim)).trans f2 fun _ _ hh => hh)
    clear c2 f2 hx ca
    go_wp2_with (fail)
    go_ret
    exact ⟨_, rfl, HX.out, C2.out, F2.out⟩
  | false =>
    go_wp2_with (fail)
    refine (below_s B g n _ _ C1.out).mono ?_
    rintro e w2 ⟨x, rfl, hx, c2, f2⟩
    obtain ⟨x0, x1⟩ := hx.2 (by omega)
    have C2 := Lib.hid c2
    have F2 := Lib.hid (F1.out.trans f2 fun _ _ hh => hh)
    clear c2 f2 hx
    go_wp2_with (fail)
    go_ret
    exact ⟨_, rfl, by unfold Pl.signOk; simp; omega, C2.out, F2.out⟩
set_option maxHeartbeats 2000000 in
theorem signs_s (B g n : Nat) (m : Int) (w : World) (h : CurAt B w g n) (h0 : 0 ≤ m) (h1 : m ≤ 100000) :
    Calls Tryz.prog 35 #[.pointer (some ⟨g, 0, none⟩), .int .i64 m] w fun e w' => ∃ v xs, e = .returned v ∧ OwnI w.heap.size w'.heap.size w' v xs ∧ (xs.length : Int) ≤ m ∧ Pl.signsOk xs = true ∧ CurAt B w' g n ∧ Frame (fun k => k = g) w w' := by
  have lg := h.lt
  obtain ⟨j0, hj, hy0, hy1, hy2⟩ := info_parts intInfoB
  have ca := Frame.alloc (fun k => k = g) w (.cells #[] 3)
  have H := Lib.hid (h.frame (Frame.alloc (fun _ => False) w (.cells #[] 3)) (fun hh => hh) (fun _ _ hh => hh))
  have HM := Lib.hid (World.ownsRow_made (base := w.heap.size) (e := 3) (size := 1) w #[] 0 (Nat.le_refl _) (Nat.zero_le _) rfl)
  have CA := Lib.hid ca
  clear h ca
  go_enter Tryz.func35, Tryz.ntmps35
  go_wp2_with (fail)
  refine (below_s B g n _ _ H.out).mono ?_
  rintro e w1 ⟨x, rfl, hx, c1, f1⟩
  obtain ⟨x0, x1⟩ := hx.2 (by omega)
  obtain ⟨k, rfl⟩ : ∃ k : Nat, x = k := ⟨x.toNat, by omega⟩
  have HM1 := Lib.hid (f1.row HM.out (fun b hb e => by simp [Value.ownBlock] at hb; omega))
  have C1 := Lib.hid c1
  have F1 := Lib.hid (CA.out.trans f1 fun _ _ hh => hh)
  have sz1 := f1.size
  simp only [World.size_alloc] at sz1
  clear c1 f1 hx
  go_wp2_with (fail)
  go_loopw [5, 6] (fun u i wr => ∃ (k : Nat) (xs : List Int), i = .int .i64 k ∧ Hid (wr.ownsRow w.heap.size 3 1 u xs.length (xs.map (Value.int .i64))) ∧ ((xs.length + k : Nat) : Int) ≤ m ∧ Hid (Pl.signsOk xs = true) ∧ Hid (CurAt B wr g n) ∧ Hid (Frame (fun k => k = g) w wr) ∧ w.heap.size ≤ wr.heap.size) (fun _ i _ => (intOf i).toNat)
  case atStart => exact ⟨k, [], rfl, HM1.out, by simp; omega, rfl, C1.out, F1.out, by omega⟩
  case round =>
    obtain ⟨k, xs, rfl, hown, hlen, hok, hc, hf, hsz⟩ := hrel
    by_cases hk : k = 0
    · subst hk
      obtain ⟨A9, c9, rfl⟩ : ∃ A c, u5 = .slice A xs.length c := by
        rcases hown.out.2 with ⟨e, e2⟩ | ⟨_, _, _, e, _⟩
        · exact ⟨_, _, by rw [e, e2]⟩
        · exact ⟨_, _, e⟩
      go_wp2_with (fail)
      go_ret
      exact ⟨_, xs, rfl, OwnI.of hown.out, by omega, hok.out, hc.out, hf.out⟩
    · have hk1 : 1 ≤ k := by omega
      go_wp2_with (fail)
      refine (sign_s B g n _ hc.out).mono ?_
      rintro e w2 ⟨x, rfl, hx, c2, f2⟩
      have HX := Lib.hid hx
      have ho2 := Lib.hid (f2.row hown.out (fun b hb e => by have := (hown.out.lt b hb).1; omega))
      have C2 := Lib.hid c2
      have F2 := Lib.hid (hf.out.trans f2 fun _ _ hh => hh)
      have sz2 := f2.size
      have lg2 := c2.lt
      clear c2 f2 hx
      have lo2 : ∀ b, u5.ownBlock = some b → w.heap.size ≤ b := fun b hb => (hown.out.lt b hb).1
      go_wp2_with (at_builtin; refine wpList_append_lies _ rfl (.tmp 16) (.tmp 19) 29 rfl w.heap.size 3 j0 _ 1 8 Tryz.underlying29 hj hy0 hy1 hy2 rfl (by decide) _ xs.length _ (by rfl) (ho2.out.alloc _) ⟨w2.heap.size, 0, none⟩ 1 1 [.int .i64 x] (by rfl) rfl (World.news_of_block (cs := #[.int .i64 x]) (heap_new_at _ _ rfl)) (by simp [Value.oneCell']) (by omega) (by unfold maxLen; omega) (by omega) (by simp; omega) (w2.heap.size + 1) (by simp) ?_)
      intro gg cap w3 hown3 hg hat hlt
      have hf3 : Frame (fun b => u5.ownBlock = some b) w2 w3 := (Frame.alloc _ w2 _).trans (Frame.grown hg fun _ e => e) (fun _ _ hh => hh)
      have sz3 := hf3.size
      have C3 := Lib.hid (C2.out.frame hf3 (fun e => by have := lo2 g e; omega) (fun b hb e => by have := lo2 b e; have := C2.out.low; omega))
      have F3 := Lib.hid (F2.out.trans hf3 fun b hb e => by have := lo2 b e; omega)
      have O3 := Lib.hid hown3
      clear hown3 hg hat hlt hf3
      go_wp2_with (fail)
      go_roundw
      case rel =>
        refine ⟨k - 1, xs ++ [x], by go_num, ?_, by simp; omega, ?_, C3.out, F3.out, by omega⟩
        · show World.ownsRow _ _ _ _ _ _ _
          simpa using O3.out
        · show _ = _
          have := hok.out
          unfold Pl.signsOk at this ⊢
          rw [List.all_append, this]
          simpa using HX.out
      case measure => simp [intOf]; omega
end Go.Proofs.YtookcfpiegbafaaGreatDoor
