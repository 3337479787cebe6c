/-
  DERIVED. GIVEN WITH THE SEED: THE CARDS: each row of YtofbcccpailbhaaDoorRows.lean that lists a variable, with what it lists TIED to the program's text (the seventh form; the later family's looks); each row that meets fmt, with fmt's text TOLD by the authors' own Lean function (tested against real Go, not proved from fmt's source: count such statements apart). THE CARD IS WHAT COUNTS. Prove the row's statement (the work); the ties are given (YtofbcccpailbhaaDoorTie.lean); close each card by the builder's one call (the guide's Derived/Test/ToyasCard.lean, 'card_holds'). Laid BY PROGRAM, IN A SANDBOX (cutbox-door.mjs). By AI agents, Wed Nov 11 2026. No macro, syntax, notation, axiom, sorry.
-/
import Derived.Test.YtofbcccpailbhaaDoorRows
import GoSem.ClaimSeven
namespace Go.Proofs.YtofbcccpailbhaaDoor
namespace Rows

/-- THE TIED CARD OF 'laws.FnExactSigns'. -/
def fnExactSignsCard : Claim7 := { stood := { row := fnExactSignsRow, standIns := [], harness := (true, "67c5612aa79d2dc4bfe3b6704f1caffeef601cc5efe6fcca7f65792e9d0d6602"), looks := false }, kinds := [], alts := [], laidByText := true, laidKinds := [.data, .pinned], laidTests := true, laidLooks := .later }
def FnExactSignsCardSaid : Prop := Claim7.holds Tryd.pinned (.plain (OpenSpec.ofChange fnExactSignsSpec)) fnExactSignsCard

/-- THE SECOND FORM's CARD OF 'laws.FnExactSigns'. -/
def fnExactSignsUptoCard : Claim7 := { stood := { row := fnExactSignsUptoRow, standIns := [], harness := (true, "67c5612aa79d2dc4bfe3b6704f1caffeef601cc5efe6fcca7f65792e9d0d6602"), looks := false }, kinds := [], alts := [], laidByText := true, laidKinds := [.data, .pinned], laidTests := true, laidLooks := .later }
def FnExactSignsUptoCardSaid : Prop := Claim7.holds Tryd.pinned (.plain (OpenSpec.upto fnExactSignsSpec)) fnExactSignsUptoCard
end Rows
end Go.Proofs.YtofbcccpailbhaaDoor
