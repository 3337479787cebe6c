/- Contracts of Bytes: the UTF-8 form of a list of characters. Condition: at most 4194304 characters. -/
import Derived.Test.YtofbcccpailbhaaDoorPut
import Derived.Test.YtofbcccpailbhaaDoorToInts
import Derived.Laws.IdiomStrings
namespace Go.Proofs.YtofbcccpailbhaaDoor
open Go.RowKit
set_option maxRecDepth 100000

def Pl.enc (xs : List Int) : List UInt8 := xs.flatMap Lib.encodeRune
def Pl.bytes (xs : List Int) : List UInt8 := if Pl.signsOk xs = true then Pl.enc xs else []
def Pl.encCells (xs : List Int) : List Value := xs.flatMap Lib.runeCells
theorem encCells_eq (xs : List Int) : Pl.encCells xs = (Pl.enc xs).map fun b => Value.int .u8 (b.toNat : Int) := by
  induction xs with
  | nil => rfl
  | cons x xs ih =>
    simp only [Pl.encCells, Pl.enc, List.flatMap_cons, List.map_append] at ih ⊢
    rw [ih, ← Lib.byteCells_encodeRune]
    rfl
theorem encCells_take (xs : List Int) (k : Nat) (h : k < xs.length) : Pl.encCells (xs.take (k + 1)) = Pl.encCells (xs.take k) ++ Lib.runeCells (xs.getD k 0) := by
  rw [List.take_succ_eq_append_getElem h, Pl.encCells, List.flatMap_append]
  simp [Pl.encCells, List.getD, h]
theorem signOk_of {xs : List Int} {k : Nat} (h : k < xs.length) (hs : Pl.signsOk xs = true) : Pl.signOk (xs.getD k 0) = true := by
  have := List.all_eq_true.1 hs xs[k] (List.getElem_mem h)
  simpa [List.getD, h] using this
theorem signOk_iff (n : Int) : Pl.signOk n = true ↔ 0 ≤ n ∧ n ≤ 1114111 ∧ ¬ (55296 ≤ n ∧ n ≤ 57343) := by
  simp [Pl.signOk]; omega
theorem string_of_row {B : Nat} {w : World} {v : Value} {n : Nat} {l : List UInt8} (h : w.ownsRow B 5 1 v n (l.map fun b => Value.int .u8 (b.toNat : Int))) :
    (Go.convert 32 9 v).run Tryd.prog w = .ok (.string ⟨l.toArray⟩) w := by
  have hn : l.length = n := by have := h.1; simpa using this
  have hcell := @World.ownsRow.cells w B 5 1 v n _ h
  rcases h.2 with ⟨rfl, h0⟩ | ⟨g, cap, cur, rfl, _⟩
  · obtain rfl := h0
    have : l = [] := List.eq_nil_of_length_eq_zero hn
    subst this
    rw [run_convert_bytes_string w 32 9 5 none 0 0 Tryd.underlying32 Tryd.underlying5 Tryd.underlying9]
    simp [Conv.bytesToString]
    rfl
  · subst hn
    exact run_convert_bytes_back w 32 9 5 ⟨g, 0, none⟩ cap l Tryd.underlying32 Tryd.underlying5 Tryd.underlying9
      fun j hj => hcell (g := g) rfl j _ (by simp [hj])

end Go.Proofs.YtofbcccpailbhaaDoor
