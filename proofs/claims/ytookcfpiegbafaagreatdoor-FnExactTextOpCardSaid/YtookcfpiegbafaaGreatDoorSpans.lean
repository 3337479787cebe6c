/- Contracts of Spans: where the put characters lie in the new text. Condition: none longer than any slice can be. -/
import Derived.Test.YtookcfpiegbafaaGreatDoorIsNorm
import Derived.Test.YtookcfpiegbafaaGreatDoorGB
namespace Go.Proofs.YtookcfpiegbafaaGreatDoor
open Go.RowKit
set_option maxRecDepth 100000

namespace Pl
def spanL : List Pt → Int → List Int
  | [], _ => []
  | p :: o, j => if p.kind = 1 then spanL o (j + p.n) else if p.kind = 2 then j :: (j + p.signs.length) :: spanL o (j + p.signs.length) else spanL o j
def spans (o : List Pt) : List Int := spanL (opNorm o) 0
theorem spanL_len (o : List Pt) : ∀ j, (spanL o j).length ≤ 2 * o.length := by
  induction o with
  | nil => intro j; simp [spanL]
  | cons p o ih =>
    intro j
    rw [spanL]
    split
    · have := ih (j + p.n); simp; omega
    · split
      · have := ih (j + p.signs.length); simp; omega
      · have := ih j; simp; omega
end Pl
theorem opNorm_ok (o : List Pt) : Pl.opOk (Pl.opNorm o) = true := by
  rw [Pl.opNorm]
  split
  · exact Pl.opOk_norm (by assumption)
  · decide
theorem opNorm_len (o : List Pt) : (Pl.opNorm o).length ≤ 600 := partsOk_len (opOk_partsOk (opNorm_ok o))
theorem spans_len (o : List Pt) : (Pl.spans o).length ≤ 1200 := by
  have h1 := Pl.spanL_len (Pl.opNorm o) 0
  have h2 := opNorm_len o
  unfold Pl.spans
  omega
theorem spanL_step {o : List Pt} {k : Nat} (h : k < o.length) (j : Int) : Pl.spanL (o.drop k) j =
    (if (o.getD k ⟨0, 0, []⟩).kind = 1 then Pl.spanL (o.drop (k + 1)) (j + (o.getD k ⟨0, 0, []⟩).n)
      else if (o.getD k ⟨0, 0, []⟩).kind = 2 then j :: (j + (o.getD k ⟨0, 0, []⟩).signs.length) :: Pl.spanL (o.drop (k + 1)) (j + (o.getD k ⟨0, 0, []⟩).signs.length) else Pl.spanL (o.drop (k + 1)) j) := by
  rw [List.drop_eq_getElem_cons h, Pl.spanL]
  simp [List.getD, h]

end Go.Proofs.YtookcfpiegbafaaGreatDoor
