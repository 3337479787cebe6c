/- Contract of copyInts: a slice of the same ints in a block of its own. Condition: at most 4194304 ints. -/
import Derived.Test.YtookcfpiegbafaaDoorAppend
import Derived.Test.YtookcfpiegbafaaDoorToInts
namespace Go.Proofs.YtookcfpiegbafaaDoor
open Go.RowKit
set_option maxRecDepth 100000

set_option maxHeartbeats 400000 in
theorem copyInts_i (v : Value) (xs : List Int) (w : World) (h : SliceInts w.heap.size w v xs) (hl : xs.length ≤ 4194304) :
    Calls Tryd.prog 69 #[v] w fun e w' => ∃ v, e = .returned v ∧ OwnI w.heap.size w'.heap.size w' v xs ∧ Below w.heap.size w w' := by
  obtain ⟨i0, hi, hz0, hz1, hz2⟩ := info_parts intInfo
  obtain ⟨A, c, rfl, -, h⟩ := h
  go_enter Tryd.func69, Tryd.ntmps69
  go_wp2_with (at_builtin; refine wpList_append_src _ rfl _ _ 31 rfl w.heap.size 3 i0 _ 1 8 Tryd.underlying31 hi hz0 hz1 hz2 rfl (by decide) _ 0 [] (by rfl) (World.ownsRow_nil _ _ _ _) A xs.length c _ (by rfl) (by simp) h.src (ints_one xs) (by unfold maxLen; omega) (by omega) (Nat.le_refl _) ?_)
  intro v1 w1 hown hg _
  go_wp2
  go_ret
  refine ⟨_, rfl, OwnI.of ?_, (Below.refl _ _).grown hg (Nat.le_refl _) (by simp [Value.ownBlock])⟩
  simpa using hown
end Go.Proofs.YtookcfpiegbafaaDoor
