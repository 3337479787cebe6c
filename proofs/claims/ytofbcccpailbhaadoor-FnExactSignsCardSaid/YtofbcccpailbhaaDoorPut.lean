/- Contracts of the functions that append a character's bytes: spec.l01Put, utf8.AppendRune. Condition: the character lies in 0 to 1114111; what is appended to has at most 2^40 bytes. -/
import Derived.Test.YtofbcccpailbhaaDoorSigns
import Derived.Lib.Hide
import Derived.Lib.RuneBytes
namespace Go.Proofs.YtofbcccpailbhaaDoor
open Go.RowKit
set_option maxRecDepth 100000

theorem byteInfo : (Tryd.prog.info? 5).map (fun i => (i.zero, i.size, i.bytes)) = some (some (.int .u8 0), 1, 1) := by kernel_rfl

/-- Behind an append to a row of the call's own: the new value's row, and that no other block has turned. -/
def Put (w : World) (B : Nat) (v : Value) (n : Nat) (xs : List Value) (r : Int) (e : Ending) (w' : World) : Prop :=
  ∃ v', e = .returned v' ∧ w'.ownsRow B 5 1 v' (n + (Lib.runeCells r).length) (xs ++ Lib.runeCells r) ∧ ∃ o, (w.alloc o).grownBy w' v.ownBlock

theorem cells1 (w : World) (x : Value) (t : TypeId) : ∀ j u, [x][j]? = some u → (w.alloc (.cells #[x] t)).cell? ((⟨w.heap.size, 0, none⟩ : Addr).add j) = some u := by
  intro j u hj
  match j, hj with
  | 0, hj => simp at hj; subst hj; simp [Addr.add]
  | (j + 1), hj => simp at hj
theorem cells2 (w : World) (x y : Value) (t : TypeId) : ∀ j u, [x, y][j]? = some u → (w.alloc (.cells #[x, y] t)).cell? ((⟨w.heap.size, 0, none⟩ : Addr).add j) = some u := by
  intro j u hj
  match j, hj with
  | 0, hj => simp at hj; subst hj; simp [Addr.add]
  | 1, hj => simp at hj; subst hj; simp [Addr.add]
  | (j + 2), hj => simp at hj
theorem cells3 (w : World) (x y z : Value) (t : TypeId) : ∀ j u, [x, y, z][j]? = some u → (w.alloc (.cells #[x, y, z] t)).cell? ((⟨w.heap.size, 0, none⟩ : Addr).add j) = some u := by
  intro j u hj
  match j, hj with
  | 0, hj => simp at hj; subst hj; simp [Addr.add]
  | 1, hj => simp at hj; subst hj; simp [Addr.add]
  | 2, hj => simp at hj; subst hj; simp [Addr.add]
  | (j + 3), hj => simp at hj
theorem cells4 (w : World) (x y z q : Value) (t : TypeId) : ∀ j u, [x, y, z, q][j]? = some u → (w.alloc (.cells #[x, y, z, q] t)).cell? ((⟨w.heap.size, 0, none⟩ : Addr).add j) = some u := by
  intro j u hj
  match j, hj with
  | 0, hj => simp at hj; subst hj; simp [Addr.add]
  | 1, hj => simp at hj; subst hj; simp [Addr.add]
  | 2, hj => simp at hj; subst hj; simp [Addr.add]
  | 3, hj => simp at hj; subst hj; simp [Addr.add]
  | (j + 4), hj => simp at hj

set_option maxHeartbeats 1000000 in
set_option maxRecDepth 100000 in
theorem l01Put_s (B : Nat) (v : Value) (n : Nat) (xs : List Value) (r : Int) (w : World) (h0 : 0 ≤ r) (h1 : r ≤ 1114111) (hs : ¬ (55296 ≤ r ∧ r ≤ 57343)) (hown : w.ownsRow B 5 1 v n xs) (hn : n ≤ 1099511627776) (hB : B ≤ w.heap.size) :
    Calls Tryd.prog 13 #[v, .int .i64 r] w (Put w B v n xs r) := by
  obtain ⟨i0, hi, hz0, hz1, hz2⟩ := info_parts byteInfo
  have HS := Lib.hid hs
  clear hs
  rcases (show r ≤ 127 ∨ (128 ≤ r ∧ r ≤ 2047) ∨ (2048 ≤ r ∧ r ≤ 65535) ∨ 65536 ≤ r by omega) with h | ⟨h, h'⟩ | ⟨h, h'⟩ | h
  · go_enter Tryd.func13, Tryd.ntmps13
    go_wp2_with (at_builtin; refine wpList_append_own _ rfl _ _ 32 rfl B 5 i0 (.int .u8 0) 1 1 Tryd.underlying32 hi hz0 hz1 hz2 rfl (by decide) _ _ _ (by rfl) (hown.alloc _) ⟨w.heap.size, 0, none⟩ 1 1 [.int .u8 r] (by rfl) (by rfl) (cells1 _ _ _) ?c2 (by unfold maxLen; omega) (by omega) (by simp; omega) ?_)
    case c2 => intro u hu; simp at hu; subst hu; rfl
    intro v' w2 hown' hgrow _
    go_wp2
    go_ret
    have e : Lib.runeCells r = [.int .u8 r] := by simp [Lib.runeCells, Lib.encodeRuneZ_one h0 h]
    exact ⟨_, rfl, by rw [e]; exact hown', _, hgrow⟩
  · go_enter Tryd.func13, Tryd.ntmps13
    go_wp2_with (at_builtin; refine wpList_append_own _ rfl _ _ 32 rfl B 5 i0 (.int .u8 0) 1 1 Tryd.underlying32 hi hz0 hz1 hz2 rfl (by decide) _ _ _ (by rfl) (hown.alloc _) ⟨w.heap.size, 0, none⟩ 2 2 [.int .u8 (192 + r / 64), .int .u8 (128 + r % 64)] (by rfl) (by rfl) (cells2 _ _ _ _) ?c2 (by unfold maxLen; omega) (by omega) (by simp; omega) ?_)
    case c2 => intro u hu; simp at hu; rcases hu with rfl | rfl <;> rfl
    intro v' w2 hown' hgrow _
    go_wp2
    go_ret
    have e : Lib.runeCells r = [.int .u8 (192 + r / 64), .int .u8 (128 + r % 64)] := by simp [Lib.runeCells, Lib.encodeRuneZ_two h h']
    exact ⟨_, rfl, by rw [e]; exact hown', _, hgrow⟩
  · go_enter Tryd.func13, Tryd.ntmps13
    go_wp2_with (at_builtin; refine wpList_append_own _ rfl _ _ 32 rfl B 5 i0 (.int .u8 0) 1 1 Tryd.underlying32 hi hz0 hz1 hz2 rfl (by decide) _ _ _ (by rfl) (hown.alloc _) ⟨w.heap.size, 0, none⟩ 3 3 [.int .u8 (224 + r / 4096), .int .u8 (128 + r / 64 % 64), .int .u8 (128 + r % 64)] (by rfl) (by rfl) (cells3 _ _ _ _ _) ?c2 (by unfold maxLen; omega) (by omega) (by simp; omega) ?_)
    case c2 => intro u hu; simp at hu; rcases hu with rfl | rfl | rfl <;> rfl
    intro v' w2 hown' hgrow _
    go_wp2
    go_ret
    have e : Lib.runeCells r = [.int .u8 (224 + r / 4096), .int .u8 (128 + r / 64 % 64), .int .u8 (128 + r % 64)] := by
      simp [Lib.runeCells, Lib.encodeRuneZ_three (show (2048 ≤ r ∧ r < 55296) ∨ (57343 < r ∧ r ≤ 65535) by have := HS.out; omega)]
    exact ⟨_, rfl, by rw [e]; exact hown', _, hgrow⟩
  · go_enter Tryd.func13, Tryd.ntmps13
    go_wp2_with (at_builtin; refine wpList_append_own _ rfl _ _ 32 rfl B 5 i0 (.int .u8 0) 1 1 Tryd.underlying32 hi hz0 hz1 hz2 rfl (by decide) _ _ _ (by rfl) (hown.alloc _) ⟨w.heap.size, 0, none⟩ 4 4 [.int .u8 (240 + r / 262144), .int .u8 (128 + r / 4096 % 64), .int .u8 (128 + r / 64 % 64), .int .u8 (128 + r % 64)] (by rfl) (by rfl) (cells4 _ _ _ _ _ _) ?c2 (by unfold maxLen; omega) (by omega) (by simp; omega) ?_)
    case c2 => intro u hu; simp at hu; rcases hu with rfl | rfl | rfl | rfl <;> rfl
    intro v' w2 hown' hgrow _
    go_wp2
    go_ret
    have e : Lib.runeCells r = [.int .u8 (240 + r / 262144), .int .u8 (128 + r / 4096 % 64), .int .u8 (128 + r / 64 % 64), .int .u8 (128 + r % 64)] := by
      simp [Lib.runeCells, Lib.encodeRuneZ_four h h1]
    exact ⟨_, rfl, by rw [e]; exact hown', _, hgrow⟩
end Go.Proofs.YtofbcccpailbhaaDoor
