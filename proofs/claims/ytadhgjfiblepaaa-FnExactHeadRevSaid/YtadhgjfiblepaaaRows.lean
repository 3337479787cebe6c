/-
  No cell of these rows narrows 'for every input' (looked for: loops, veiled, ifaces, maps, wideKeys, modest, calm, conditions, laid).
  DERIVED. THE GIVEN ROWS OF THIS SEAT. 11 by the template 'for every input the law returns true; each argument reads behind the call as it read before'; 0 by the template 'total and deterministic' (their statements: YtadhgjfiblepaaaTotals.lean).
  GIVEN WITH THE SEED: the statements are not yours to turn. If you find one false, say at which input.
  Laid BY PROGRAM, IN A SANDBOX (cutbox-rows.mjs): the forced cells as the released guide's own fill.sh prints them over the translation 701285c67511c190… (all of the seat's roots in one cut). By AI agents, Wed Nov 11 2026. No macro, syntax, notation, axiom, sorry.
-/
import Derived.Test.YtadhgjfiblepaaaChecked
import GoSem.Claim
import GoSem.ClaimJoined
import GoSem.ClaimMapViews
import Derived.JoinedTies
import Derived.KernelRfl
namespace Go.Proofs.Ytadhgjfiblepaaa
/- THE CELL 'sum', in the pinned program and in every row, IS THE sha256 OF THE DUMP (.gsa) THAT YtadhgjfiblepaaaProg.lean LOADS. Nothing in Lean hashes anything: it is a label: what it is worth is what the hold of that sum in a sandbox is worth. -/
noncomputable def Try.pinned : Pinned := { name := "ytadhgjfiblepaaa", sum := "701285c67511c1901dd912767718df53ce4012e0af10dc7c859897aa31bb5135", checked := Try.checked }
namespace Rows
def none {H : Type} : Left H := { results := [], args := [] }

/-- 'laws.FnExactOpSame': WHATEVER THE INPUT: true; the input reads as it did. -/
def fnExactOpSameSpec : ChangeSpec := { name := "fnExactOpSame", fn := fun _ => fun
  | [d1, d2] => { results := [.lit (.bool true)], args := [d1, d2] }
  | _ => none }
def fnExactOpSameRow : OpenClaim := { program := "ytadhgjfiblepaaa", sum := "701285c67511c1901dd912767718df53ce4012e0af10dc7c859897aa31bb5135", func := "loop.example/g00797/laws.FnExactOpSame", spec := "fnExactOpSame", unfollowed := true, recurses := true, apart := false }
def FnExactOpSameSaid : Prop := fnExactOpSameRow.holds Try.pinned (OpenSpec.ofChange fnExactOpSameSpec)

/-- ITS FALSE NEIGHBOUR: 'it returns false'. Refute it at one input. -/
def fnExactOpSameWrong : ChangeSpec := { name := "fnExactOpSame", fn := fun _ => fun
  | [d1, d2] => { results := [.lit (.bool false)], args := [d1, d2] }
  | _ => none }
def FnExactOpSameWrongFalsely : Prop := fnExactOpSameRow.holds Try.pinned (OpenSpec.ofChange fnExactOpSameWrong)

/-- 'laws.FnExactEntrySame': WHATEVER THE INPUT: true; the input reads as it did. -/
def fnExactEntrySameSpec : ChangeSpec := { name := "fnExactEntrySame", fn := fun _ => fun
  | [d1, d2] => { results := [.lit (.bool true)], args := [d1, d2] }
  | _ => none }
def fnExactEntrySameRow : OpenClaim := { program := "ytadhgjfiblepaaa", sum := "701285c67511c1901dd912767718df53ce4012e0af10dc7c859897aa31bb5135", func := "loop.example/g00797/laws.FnExactEntrySame", spec := "fnExactEntrySame", unfollowed := true, recurses := true, apart := false }
def FnExactEntrySameSaid : Prop := fnExactEntrySameRow.holds Try.pinned (OpenSpec.ofChange fnExactEntrySameSpec)

/-- ITS FALSE NEIGHBOUR: 'it returns false'. Refute it at one input. -/
def fnExactEntrySameWrong : ChangeSpec := { name := "fnExactEntrySame", fn := fun _ => fun
  | [d1, d2] => { results := [.lit (.bool false)], args := [d1, d2] }
  | _ => none }
def FnExactEntrySameWrongFalsely : Prop := fnExactEntrySameRow.holds Try.pinned (OpenSpec.ofChange fnExactEntrySameWrong)

/-- 'laws.FnExactOpFrom': WHATEVER THE INPUT: true; the input reads as it did. -/
def fnExactOpFromSpec : ChangeSpec := { name := "fnExactOpFrom", fn := fun _ => fun
  | [d] => { results := [.lit (.bool true)], args := [d] }
  | _ => none }
def fnExactOpFromRow : OpenClaim := { program := "ytadhgjfiblepaaa", sum := "701285c67511c1901dd912767718df53ce4012e0af10dc7c859897aa31bb5135", func := "loop.example/g00797/laws.FnExactOpFrom", spec := "fnExactOpFrom", apart := false }
def FnExactOpFromSaid : Prop := fnExactOpFromRow.holds Try.pinned (OpenSpec.ofChange fnExactOpFromSpec)

/-- ITS FALSE NEIGHBOUR: 'it returns false'. Refute it at one input. -/
def fnExactOpFromWrong : ChangeSpec := { name := "fnExactOpFrom", fn := fun _ => fun
  | [d] => { results := [.lit (.bool false)], args := [d] }
  | _ => none }
def FnExactOpFromWrongFalsely : Prop := fnExactOpFromRow.holds Try.pinned (OpenSpec.ofChange fnExactOpFromWrong)

/-- 'laws.FnExactOpTo': WHATEVER THE INPUT: true; the input reads as it did. -/
def fnExactOpToSpec : ChangeSpec := { name := "fnExactOpTo", fn := fun _ => fun
  | [d] => { results := [.lit (.bool true)], args := [d] }
  | _ => none }
def fnExactOpToRow : OpenClaim := { program := "ytadhgjfiblepaaa", sum := "701285c67511c1901dd912767718df53ce4012e0af10dc7c859897aa31bb5135", func := "loop.example/g00797/laws.FnExactOpTo", spec := "fnExactOpTo", apart := false }
def FnExactOpToSaid : Prop := fnExactOpToRow.holds Try.pinned (OpenSpec.ofChange fnExactOpToSpec)

/-- ITS FALSE NEIGHBOUR: 'it returns false'. Refute it at one input. -/
def fnExactOpToWrong : ChangeSpec := { name := "fnExactOpTo", fn := fun _ => fun
  | [d] => { results := [.lit (.bool false)], args := [d] }
  | _ => none }
def FnExactOpToWrongFalsely : Prop := fnExactOpToRow.holds Try.pinned (OpenSpec.ofChange fnExactOpToWrong)

/-- 'laws.FnExactOpOk': WHATEVER THE INPUT: true; the input reads as it did. -/
def fnExactOpOkSpec : ChangeSpec := { name := "fnExactOpOk", fn := fun _ => fun
  | [d] => { results := [.lit (.bool true)], args := [d] }
  | _ => none }
def fnExactOpOkRow : OpenClaim := { program := "ytadhgjfiblepaaa", sum := "701285c67511c1901dd912767718df53ce4012e0af10dc7c859897aa31bb5135", func := "loop.example/g00797/laws.FnExactOpOk", spec := "fnExactOpOk", apart := false }
def FnExactOpOkSaid : Prop := fnExactOpOkRow.holds Try.pinned (OpenSpec.ofChange fnExactOpOkSpec)

/-- ITS FALSE NEIGHBOUR: 'it returns false'. Refute it at one input. -/
def fnExactOpOkWrong : ChangeSpec := { name := "fnExactOpOk", fn := fun _ => fun
  | [d] => { results := [.lit (.bool false)], args := [d] }
  | _ => none }
def FnExactOpOkWrongFalsely : Prop := fnExactOpOkRow.holds Try.pinned (OpenSpec.ofChange fnExactOpOkWrong)

/-- 'laws.FnExactDrops': WHATEVER THE INPUT: true; the input reads as it did. -/
def fnExactDropsSpec : ChangeSpec := { name := "fnExactDrops", fn := fun _ => fun
  | [d] => { results := [.lit (.bool true)], args := [d] }
  | _ => none }
def fnExactDropsRow : OpenClaim := { program := "ytadhgjfiblepaaa", sum := "701285c67511c1901dd912767718df53ce4012e0af10dc7c859897aa31bb5135", func := "loop.example/g00797/laws.FnExactDrops", spec := "fnExactDrops", apart := false }
def FnExactDropsSaid : Prop := fnExactDropsRow.holds Try.pinned (OpenSpec.ofChange fnExactDropsSpec)

/-- ITS FALSE NEIGHBOUR: 'it returns false'. Refute it at one input. -/
def fnExactDropsWrong : ChangeSpec := { name := "fnExactDrops", fn := fun _ => fun
  | [d] => { results := [.lit (.bool false)], args := [d] }
  | _ => none }
def FnExactDropsWrongFalsely : Prop := fnExactDropsRow.holds Try.pinned (OpenSpec.ofChange fnExactDropsWrong)

/-- 'laws.FnExactPuts': WHATEVER THE INPUT: true; the input reads as it did. -/
def fnExactPutsSpec : ChangeSpec := { name := "fnExactPuts", fn := fun _ => fun
  | [d] => { results := [.lit (.bool true)], args := [d] }
  | _ => none }
def fnExactPutsRow : OpenClaim := { program := "ytadhgjfiblepaaa", sum := "701285c67511c1901dd912767718df53ce4012e0af10dc7c859897aa31bb5135", func := "loop.example/g00797/laws.FnExactPuts", spec := "fnExactPuts", apart := false }
def FnExactPutsSaid : Prop := fnExactPutsRow.holds Try.pinned (OpenSpec.ofChange fnExactPutsSpec)

/-- ITS FALSE NEIGHBOUR: 'it returns false'. Refute it at one input. -/
def fnExactPutsWrong : ChangeSpec := { name := "fnExactPuts", fn := fun _ => fun
  | [d] => { results := [.lit (.bool false)], args := [d] }
  | _ => none }
def FnExactPutsWrongFalsely : Prop := fnExactPutsRow.holds Try.pinned (OpenSpec.ofChange fnExactPutsWrong)

/-- 'laws.FnExactIdle': WHATEVER THE INPUT: true; the input reads as it did. -/
def fnExactIdleSpec : ChangeSpec := { name := "fnExactIdle", fn := fun _ => fun
  | [d] => { results := [.lit (.bool true)], args := [d] }
  | _ => none }
def fnExactIdleRow : OpenClaim := { program := "ytadhgjfiblepaaa", sum := "701285c67511c1901dd912767718df53ce4012e0af10dc7c859897aa31bb5135", func := "loop.example/g00797/laws.FnExactIdle", spec := "fnExactIdle", apart := false }
def FnExactIdleSaid : Prop := fnExactIdleRow.holds Try.pinned (OpenSpec.ofChange fnExactIdleSpec)

/-- ITS FALSE NEIGHBOUR: 'it returns false'. Refute it at one input. -/
def fnExactIdleWrong : ChangeSpec := { name := "fnExactIdle", fn := fun _ => fun
  | [d] => { results := [.lit (.bool false)], args := [d] }
  | _ => none }
def FnExactIdleWrongFalsely : Prop := fnExactIdleRow.holds Try.pinned (OpenSpec.ofChange fnExactIdleWrong)

/-- 'laws.FnExactHeadRev': WHATEVER THE INPUT: true; the input reads as it did. -/
def fnExactHeadRevSpec : ChangeSpec := { name := "fnExactHeadRev", fn := fun _ => fun
  | [d] => { results := [.lit (.bool true)], args := [d] }
  | _ => none }
def fnExactHeadRevRow : OpenClaim := { program := "ytadhgjfiblepaaa", sum := "701285c67511c1901dd912767718df53ce4012e0af10dc7c859897aa31bb5135", func := "loop.example/g00797/laws.FnExactHeadRev", spec := "fnExactHeadRev", apart := false }
def FnExactHeadRevSaid : Prop := fnExactHeadRevRow.holds Try.pinned (OpenSpec.ofChange fnExactHeadRevSpec)

/-- ITS FALSE NEIGHBOUR: 'it returns false'. Refute it at one input. -/
def fnExactHeadRevWrong : ChangeSpec := { name := "fnExactHeadRev", fn := fun _ => fun
  | [d] => { results := [.lit (.bool false)], args := [d] }
  | _ => none }
def FnExactHeadRevWrongFalsely : Prop := fnExactHeadRevRow.holds Try.pinned (OpenSpec.ofChange fnExactHeadRevWrong)

/-- 'laws.FnExactApply': WHATEVER THE INPUT: true; the input reads as it did. -/
def fnExactApplySpec : ChangeSpec := { name := "fnExactApply", fn := fun _ => fun
  | [d1, d2] => { results := [.lit (.bool true)], args := [d1, d2] }
  | _ => none }
def fnExactApplyRow : OpenClaim := { program := "ytadhgjfiblepaaa", sum := "701285c67511c1901dd912767718df53ce4012e0af10dc7c859897aa31bb5135", func := "loop.example/g00797/laws.FnExactApply", spec := "fnExactApply", apart := false }
def FnExactApplySaid : Prop := fnExactApplyRow.holds Try.pinned (OpenSpec.ofChange fnExactApplySpec)

/-- ITS FALSE NEIGHBOUR: 'it returns false'. Refute it at one input. -/
def fnExactApplyWrong : ChangeSpec := { name := "fnExactApply", fn := fun _ => fun
  | [d1, d2] => { results := [.lit (.bool false)], args := [d1, d2] }
  | _ => none }
def FnExactApplyWrongFalsely : Prop := fnExactApplyRow.holds Try.pinned (OpenSpec.ofChange fnExactApplyWrong)

/-- 'laws.FnExactApplyAll': WHATEVER THE INPUT: true; the input reads as it did. -/
def fnExactApplyAllSpec : ChangeSpec := { name := "fnExactApplyAll", fn := fun _ => fun
  | [d1, d2] => { results := [.lit (.bool true)], args := [d1, d2] }
  | _ => none }
def fnExactApplyAllRow : OpenClaim := { program := "ytadhgjfiblepaaa", sum := "701285c67511c1901dd912767718df53ce4012e0af10dc7c859897aa31bb5135", func := "loop.example/g00797/laws.FnExactApplyAll", spec := "fnExactApplyAll", apart := false }
def FnExactApplyAllSaid : Prop := fnExactApplyAllRow.holds Try.pinned (OpenSpec.ofChange fnExactApplyAllSpec)

/-- ITS FALSE NEIGHBOUR: 'it returns false'. Refute it at one input. -/
def fnExactApplyAllWrong : ChangeSpec := { name := "fnExactApplyAll", fn := fun _ => fun
  | [d1, d2] => { results := [.lit (.bool false)], args := [d1, d2] }
  | _ => none }
def FnExactApplyAllWrongFalsely : Prop := fnExactApplyAllRow.holds Try.pinned (OpenSpec.ofChange fnExactApplyAllWrong)

/- THE SECOND FORM. 'bulk': how many values and letters a reading holds, each counted each time it is reached (what is shared counts as often as it is met; a slice's spare places count too). A statement '..UptoSaid' is the law's where the arguments, and the package variables that the reading takes, are together of bulk at most 1048576: NARROWER than '..Said'. Prove '..Said' where nothing that the law and all that it calls make is longer than what came in: it says more and counts as full. Else prove '..UptoSaid'. A law counts once. -/
mutual
def uptoBulk {H : Type} : DataW H → Nat
  | .lit (.string bytes) => bytes.length + 1
  | .lit _ => 1
  | .nil => 1
  | .ptr d => uptoBulk d + 1
  | .slice elems spare => uptoBulkAll elems + uptoBulkAll spare + 1
  | .agg parts => uptoBulkAll parts + 1
  | .iface _ d => uptoBulk d + 1
  | .map entries => uptoBulkEntries entries + 1
  | .held _ => 1
def uptoBulkAll {H : Type} : List (DataW H) → Nat
  | [] => 0
  | d :: r => uptoBulk d + uptoBulkAll r
def uptoBulkEntries {H : Type} : List (Lit × DataW H) → Nat
  | [] => 0
  | x :: r => uptoBulkEntry x + uptoBulkEntries r
def uptoBulkEntry {H : Type} : Lit × DataW H → Nat
  | (.string bytes, d) => bytes.length + uptoBulk d + 1
  | (_, d) => uptoBulk d + 1
 end
def uptoSmall : (H : Type) → List (DataW H) → Bool := fun _ ds => decide (uptoBulkAll ds ≤ 1048576)
def OpenSpec.upto (s : _root_.Go.ChangeSpec) : _root_.Go.OpenSpec := { _root_.Go.OpenSpec.ofChange s with cond := some uptoSmall }

/-- 'laws.FnExactOpSame', WHERE WHAT IT READS IS OF BULK AT MOST 1048576: true; the input reads as it did. -/
def fnExactOpSameUptoRow : OpenClaim := { program := "ytadhgjfiblepaaa", sum := "701285c67511c1901dd912767718df53ce4012e0af10dc7c859897aa31bb5135", func := "loop.example/g00797/laws.FnExactOpSame", spec := "fnExactOpSame", unfollowed := true, recurses := true, apart := false, narrowed := true }
def FnExactOpSameUptoSaid : Prop := fnExactOpSameUptoRow.holds Try.pinned (OpenSpec.upto fnExactOpSameSpec)

/-- 'laws.FnExactEntrySame', WHERE WHAT IT READS IS OF BULK AT MOST 1048576: true; the input reads as it did. -/
def fnExactEntrySameUptoRow : OpenClaim := { program := "ytadhgjfiblepaaa", sum := "701285c67511c1901dd912767718df53ce4012e0af10dc7c859897aa31bb5135", func := "loop.example/g00797/laws.FnExactEntrySame", spec := "fnExactEntrySame", unfollowed := true, recurses := true, apart := false, narrowed := true }
def FnExactEntrySameUptoSaid : Prop := fnExactEntrySameUptoRow.holds Try.pinned (OpenSpec.upto fnExactEntrySameSpec)

/-- 'laws.FnExactOpFrom', WHERE WHAT IT READS IS OF BULK AT MOST 1048576: true; the input reads as it did. -/
def fnExactOpFromUptoRow : OpenClaim := { program := "ytadhgjfiblepaaa", sum := "701285c67511c1901dd912767718df53ce4012e0af10dc7c859897aa31bb5135", func := "loop.example/g00797/laws.FnExactOpFrom", spec := "fnExactOpFrom", apart := false, narrowed := true }
def FnExactOpFromUptoSaid : Prop := fnExactOpFromUptoRow.holds Try.pinned (OpenSpec.upto fnExactOpFromSpec)

/-- 'laws.FnExactOpTo', WHERE WHAT IT READS IS OF BULK AT MOST 1048576: true; the input reads as it did. -/
def fnExactOpToUptoRow : OpenClaim := { program := "ytadhgjfiblepaaa", sum := "701285c67511c1901dd912767718df53ce4012e0af10dc7c859897aa31bb5135", func := "loop.example/g00797/laws.FnExactOpTo", spec := "fnExactOpTo", apart := false, narrowed := true }
def FnExactOpToUptoSaid : Prop := fnExactOpToUptoRow.holds Try.pinned (OpenSpec.upto fnExactOpToSpec)

/-- 'laws.FnExactOpOk', WHERE WHAT IT READS IS OF BULK AT MOST 1048576: true; the input reads as it did. -/
def fnExactOpOkUptoRow : OpenClaim := { program := "ytadhgjfiblepaaa", sum := "701285c67511c1901dd912767718df53ce4012e0af10dc7c859897aa31bb5135", func := "loop.example/g00797/laws.FnExactOpOk", spec := "fnExactOpOk", apart := false, narrowed := true }
def FnExactOpOkUptoSaid : Prop := fnExactOpOkUptoRow.holds Try.pinned (OpenSpec.upto fnExactOpOkSpec)

/-- 'laws.FnExactDrops', WHERE WHAT IT READS IS OF BULK AT MOST 1048576: true; the input reads as it did. -/
def fnExactDropsUptoRow : OpenClaim := { program := "ytadhgjfiblepaaa", sum := "701285c67511c1901dd912767718df53ce4012e0af10dc7c859897aa31bb5135", func := "loop.example/g00797/laws.FnExactDrops", spec := "fnExactDrops", apart := false, narrowed := true }
def FnExactDropsUptoSaid : Prop := fnExactDropsUptoRow.holds Try.pinned (OpenSpec.upto fnExactDropsSpec)

/-- 'laws.FnExactPuts', WHERE WHAT IT READS IS OF BULK AT MOST 1048576: true; the input reads as it did. -/
def fnExactPutsUptoRow : OpenClaim := { program := "ytadhgjfiblepaaa", sum := "701285c67511c1901dd912767718df53ce4012e0af10dc7c859897aa31bb5135", func := "loop.example/g00797/laws.FnExactPuts", spec := "fnExactPuts", apart := false, narrowed := true }
def FnExactPutsUptoSaid : Prop := fnExactPutsUptoRow.holds Try.pinned (OpenSpec.upto fnExactPutsSpec)

/-- 'laws.FnExactIdle', WHERE WHAT IT READS IS OF BULK AT MOST 1048576: true; the input reads as it did. -/
def fnExactIdleUptoRow : OpenClaim := { program := "ytadhgjfiblepaaa", sum := "701285c67511c1901dd912767718df53ce4012e0af10dc7c859897aa31bb5135", func := "loop.example/g00797/laws.FnExactIdle", spec := "fnExactIdle", apart := false, narrowed := true }
def FnExactIdleUptoSaid : Prop := fnExactIdleUptoRow.holds Try.pinned (OpenSpec.upto fnExactIdleSpec)

/-- 'laws.FnExactHeadRev', WHERE WHAT IT READS IS OF BULK AT MOST 1048576: true; the input reads as it did. -/
def fnExactHeadRevUptoRow : OpenClaim := { program := "ytadhgjfiblepaaa", sum := "701285c67511c1901dd912767718df53ce4012e0af10dc7c859897aa31bb5135", func := "loop.example/g00797/laws.FnExactHeadRev", spec := "fnExactHeadRev", apart := false, narrowed := true }
def FnExactHeadRevUptoSaid : Prop := fnExactHeadRevUptoRow.holds Try.pinned (OpenSpec.upto fnExactHeadRevSpec)

/-- 'laws.FnExactApply', WHERE WHAT IT READS IS OF BULK AT MOST 1048576: true; the input reads as it did. -/
def fnExactApplyUptoRow : OpenClaim := { program := "ytadhgjfiblepaaa", sum := "701285c67511c1901dd912767718df53ce4012e0af10dc7c859897aa31bb5135", func := "loop.example/g00797/laws.FnExactApply", spec := "fnExactApply", apart := false, narrowed := true }
def FnExactApplyUptoSaid : Prop := fnExactApplyUptoRow.holds Try.pinned (OpenSpec.upto fnExactApplySpec)

/-- 'laws.FnExactApplyAll', WHERE WHAT IT READS IS OF BULK AT MOST 1048576: true; the input reads as it did. -/
def fnExactApplyAllUptoRow : OpenClaim := { program := "ytadhgjfiblepaaa", sum := "701285c67511c1901dd912767718df53ce4012e0af10dc7c859897aa31bb5135", func := "loop.example/g00797/laws.FnExactApplyAll", spec := "fnExactApplyAll", apart := false, narrowed := true }
def FnExactApplyAllUptoSaid : Prop := fnExactApplyAllUptoRow.holds Try.pinned (OpenSpec.upto fnExactApplyAllSpec)

end Rows
end Go.Proofs.Ytadhgjfiblepaaa
