/-
  DERIVED. GIVEN WITH THE SEED: THE CARDS: each row of YtookcfpiegbafaaGreatDoorRows.lean that lists a variable, with what it lists TIED to the program's text (the seventh form; the later family's looks); each row that meets fmt, with fmt's text TOLD by the authors' own Lean function (tested against real Go, not proved from fmt's source: count such statements apart). THE CARD IS WHAT COUNTS. Prove the row's statement (the work); the ties are given (YtookcfpiegbafaaGreatDoorTie.lean); close each card by the builder's one call (the guide's Derived/Test/ToyasCard.lean, 'card_holds'). Laid BY PROGRAM, IN A SANDBOX (cutbox-door.mjs). By AI agents, Wed Nov 11 2026. No macro, syntax, notation, axiom, sorry.
-/
import Derived.Test.YtookcfpiegbafaaGreatDoorRows
import GoSem.ClaimSeven
namespace Go.Proofs.YtookcfpiegbafaaGreatDoor
namespace Rows

/-- THE TIED CARD OF 'laws.FnExactTextOp'. -/
def fnExactTextOpCard : Claim7 := { stood := { row := fnExactTextOpRow, standIns := [], harness := (true, "ff462c0d617caa48ff35c2414d866653cc3827f1fbbeb1f4ea4c27cf43a496fa"), looks := true }, kinds := [], alts := [], laidByText := true, laidKinds := [.data, .data, .data, .data, .sentinel, .sentinel, .pinned], laidTests := true, laidLooks := .later }
def FnExactTextOpCardSaid : Prop := Claim7.holds Tryz.pinned (.plain (OpenSpec.ofChange fnExactTextOpSpec)) fnExactTextOpCard

/-- THE TIED CARD OF 'laws.FnNorm'. -/
def fnNormCard : Claim7 := { stood := { row := fnNormRow, standIns := [], harness := (true, "ff462c0d617caa48ff35c2414d866653cc3827f1fbbeb1f4ea4c27cf43a496fa"), looks := true }, kinds := [], alts := [], laidByText := true, laidKinds := [.data, .data, .data, .data, .sentinel, .sentinel, .pinned], laidTests := true, laidLooks := .later }
def FnNormCardSaid : Prop := Claim7.holds Tryz.pinned (.plain (OpenSpec.ofChange fnNormSpec)) fnNormCard

/-- THE SECOND FORM's CARD OF 'laws.FnExactTextOp'. -/
def fnExactTextOpUptoCard : Claim7 := { stood := { row := fnExactTextOpUptoRow, standIns := [], harness := (true, "ff462c0d617caa48ff35c2414d866653cc3827f1fbbeb1f4ea4c27cf43a496fa"), looks := true }, kinds := [], alts := [], laidByText := true, laidKinds := [.data, .data, .data, .data, .sentinel, .sentinel, .pinned], laidTests := true, laidLooks := .later }
def FnExactTextOpUptoCardSaid : Prop := Claim7.holds Tryz.pinned (.plain (OpenSpec.upto fnExactTextOpSpec)) fnExactTextOpUptoCard

/-- THE SECOND FORM's CARD OF 'laws.FnNorm'. -/
def fnNormUptoCard : Claim7 := { stood := { row := fnNormUptoRow, standIns := [], harness := (true, "ff462c0d617caa48ff35c2414d866653cc3827f1fbbeb1f4ea4c27cf43a496fa"), looks := true }, kinds := [], alts := [], laidByText := true, laidKinds := [.data, .data, .data, .data, .sentinel, .sentinel, .pinned], laidTests := true, laidLooks := .later }
def FnNormUptoCardSaid : Prop := Claim7.holds Tryz.pinned (.plain (OpenSpec.upto fnNormSpec)) fnNormUptoCard
end Rows
end Go.Proofs.YtookcfpiegbafaaGreatDoor
