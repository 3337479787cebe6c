/- Contracts of the functions that read a list of characters. Condition: the list is no longer than any slice can be. -/
import Derived.Test.YtofbcccpailbhaaDoorSign
namespace Go.Proofs.YtofbcccpailbhaaDoor
open Go.RowKit
set_option maxRecDepth 100000

theorem all_take_succ {α : Type} (p : α → Bool) (l : List α) (d : α) (k : Nat) (h : k < l.length) : (l.take (k + 1)).all p = ((l.take k).all p && p (l.getD k d)) := by
  rw [List.take_succ_eq_append_getElem h, List.all_append]
  simp [List.getD, h]
theorem all_false_of {α : Type} {p : α → Bool} {l : List α} {d : α} {k : Nat} (h : k < l.length) (hp : p (l.getD k d) = false) : l.all p = false := by
  rw [List.all_eq_false]
  exact ⟨l[k], List.getElem_mem h, by simpa [List.getD, h] using hp⟩

end Go.Proofs.YtofbcccpailbhaaDoor
