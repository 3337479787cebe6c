/- Contracts of the laws' helpers on lists of ints: toIntS, szIntS. Condition: no list of more than 4194304 elements is copied. -/
import Derived.Test.YtookcfpiegbafaaGreatDoorEqInts
namespace Go.Proofs.YtookcfpiegbafaaGreatDoor
open Go.RowKit
set_option maxRecDepth 100000

theorem intInfo : (Tryz.prog.info? 3).map (fun i => (i.zero, i.size, i.bytes)) = some (some (.int .i64 0), 1, 8) := by kernel_rfl

/-- What a loop that copies has written after k rounds. -/
def Pl.part (xs : List Int) (k : Nat) : List Value := (xs.take k).map (Value.int .i64) ++ List.replicate (xs.length - k) (.int .i64 0)
theorem Pl.part_zero (xs : List Int) : Pl.part xs 0 = List.replicate xs.length (.int .i64 0) := by simp [Pl.part]
theorem Pl.part_all (xs : List Int) : Pl.part xs xs.length = xs.map (Value.int .i64) := by simp [Pl.part]
theorem Pl.part_succ (xs : List Int) (k : Nat) (h : k < xs.length) : (Pl.part xs k).set k (.int .i64 (xs.getD k 0)) = Pl.part xs (k + 1) := by
  have e : xs.length - k = (xs.length - (k + 1)) + 1 := by omega
  have hl : ((xs.take k).map (Value.int .i64)).length = k := by simp; omega
  rw [Pl.part, Pl.part, e, List.replicate_succ, List.set_append_right _ _ (by omega), hl, Nat.sub_self, List.set_cons_zero,
    List.take_succ_eq_append_getElem h, List.map_append]
  simp [List.getD, h]

theorem eqIntS_b (B : Nat) (v v' : Value) (xs ys : List Int) (w : World) (h : SliceInts B w v xs) (h' : SliceInts B w v' ys) (hl : xs.length ≤ maxLen) :
    Calls Tryz.prog 62 #[v, v'] w fun e w' => e = .returned (.bool (decide (xs = ys))) ∧ Below w.heap.size w w' :=
  (eqIntS_l B v v' xs ys w h h' hl).mono fun _ _ ⟨he, n, hn⟩ => ⟨he, hn ▸ below_drewN (Below.refl _ _) n⟩
theorem signsSame_ib (B : Nat) (v v' : Value) (xs ys : List Int) (w : World) (h : SliceInts B w v xs) (h' : SliceInts B w v' ys) (hl : xs.length ≤ maxLen) :
    Calls Tryz.prog 16 #[v, v'] w fun e w' => e = .returned (.bool (decide (xs = ys))) ∧ Below w.heap.size w w' :=
  (signsSame_i B v v' xs ys w h h' hl).mono fun _ _ ⟨he, n, hn⟩ => ⟨he, hn ▸ below_drewN (Below.refl _ _) n⟩
theorem signsSame_sb (B : Nat) (v v' : Value) (xs ys : List Int) (w : World) (h : SliceInts B w v xs) (h' : SliceInts B w v' ys) (hl : xs.length ≤ maxLen) :
    Calls Tryz.prog 78 #[v, v'] w fun e w' => e = .returned (.bool (decide (xs = ys))) ∧ Below w.heap.size w w' :=
  (signsSame_s B v v' xs ys w h h' hl).mono fun _ _ ⟨he, n, hn⟩ => ⟨he, hn ▸ below_drewN (Below.refl _ _) n⟩
end Go.Proofs.YtookcfpiegbafaaGreatDoor
