/- The library's ValidString at this program. Condition: its two tables read as their initialisers lay them. -/
import Derived.Test.YtofbcccpailbhaaDoorSh4
import Derived.Test.YtofbcccpailbhaaDoorSignsI
import Derived.Lib.LaidU8T
import Derived.Shelf.Unicode.ValidAny
namespace Go.Proofs.YtofbcccpailbhaaDoor
open Go.RowKit
set_option maxRecDepth 100000

/-- The library's two tables of UTF-8. -/
abbrev Utf8T (w : World) : Prop := Lib.Utf8Tabs 0 1 w
theorem Utf8T.later {w w' : World} (h : Utf8T w) (hb : Below w.heap.size w w') : Utf8T w' := by
  refine ⟨fun c hc => ?_, fun i hi => ⟨?_, ?_⟩⟩
  · exact (hb.cell (p := ⟨0, c, none⟩) (World.block_lt_of_cell? _ _ (h.1 c hc))).trans (h.1 c hc)
  · exact (hb.cell (p := ⟨1, 2 * i, none⟩) (World.block_lt_of_cell? _ _ (h.2 i hi).1)).trans (h.2 i hi).1
  · exact (hb.cell (p := ⟨1, 2 * i + 1, none⟩) (World.block_lt_of_cell? _ _ (h.2 i hi).2)).trans (h.2 i hi).2
theorem utf8T_of {w : World} (h1 : Lib.VarReads Tryd.prog w "unicode/utf8.first" Lib.firstData) (h2 : Lib.VarReads Tryd.prog w "unicode/utf8.acceptRanges" Lib.acceptData) : Utf8T w :=
  Go.Proofs.utf8Tabs_of_readsT (Go.Proofs.U8Types.of196 Tryd.laysV196) ⟨by kernel_rfl, by kernel_rfl, by kernel_rfl, by kernel_rfl, by kernel_rfl, by kernel_rfl, by kernel_rfl⟩ h1 h2
theorem valid_lib (s : ByteArray) (w : World) (hs : s.size ≤ 9223372036854775807) (hU : Utf8T w) :
    Calls Tryd.prog 10 #[.string s] w fun e w' => e = .returned (.bool (Lib.validD s.data.toList)) ∧ Below w.heap.size w w' := Any.utf8_ValidString Tryd.laysV196 s w hs hU
theorem signs_iu (s : ByteArray) (w : World) (hs : s.size ≤ 1048576) (hU : Utf8T w) :
    Calls Tryd.prog 5 #[.string s] w fun e w' => ∃ u, e = .returned (.tuple #[u, .bool (Lib.validD s.data.toList)]) ∧ OwnI w.heap.size w'.heap.size w' u (Pl.signsV s.data.toList) ∧ Below w.heap.size w w' :=
  signs_i s w hs (valid_lib s w (by omega) hU)
end Go.Proofs.YtofbcccpailbhaaDoor
