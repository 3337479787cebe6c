/-
  No cell of these rows narrows 'for every input' (looked for: loops, veiled, ifaces, maps, wideKeys, modest, calm, conditions, laid).
  DERIVED. THE GIVEN ROWS OF THIS SEAT. 11 by the template 'for every input the law returns true; each argument reads behind the call as it read before'; 0 by the template 'total and deterministic' (their statements: YtlidheodadoboaaTotals.lean).
  GIVEN WITH THE SEED: the statements are not yours to turn. If you find one false, say at which input.
  Laid BY PROGRAM, IN A SANDBOX (cutbox-rows.mjs): the forced cells as the released guide's own fill.sh prints them over the translation 23c84c84e769010e… (all of the seat's roots in one cut). By AI agents, Wed Nov 11 2026. No macro, syntax, notation, axiom, sorry.
-/
import Derived.Test.YtlidheodadoboaaChecked
import GoSem.Claim
import GoSem.ClaimJoined
import GoSem.ClaimMapViews
import Derived.JoinedTies
import Derived.KernelRfl
namespace Go.Proofs.Ytlidheodadoboaa
/- THE CELL 'sum', in the pinned program and in every row, IS THE sha256 OF THE DUMP (.gsa) THAT YtlidheodadoboaaProg.lean LOADS. Nothing in Lean hashes anything: it is a label: what it is worth is what the hold of that sum in a sandbox is worth. -/
noncomputable def Try.pinned : Pinned := { name := "ytlidheodadoboaa", sum := "23c84c84e769010e6ed4e956f37a530d968f033ed3822d0c5589b9b0f311433d", checked := Try.checked }
namespace Rows
def none {H : Type} : Left H := { results := [], args := [] }

/-- 'laws.FnExactOpNorm': WHATEVER THE INPUT: true; the input reads as it did. -/
def fnExactOpNormSpec : ChangeSpec := { name := "fnExactOpNorm", fn := fun _ => fun
  | [d] => { results := [.lit (.bool true)], args := [d] }
  | _ => none }
def fnExactOpNormRow : OpenClaim := { program := "ytlidheodadoboaa", sum := "23c84c84e769010e6ed4e956f37a530d968f033ed3822d0c5589b9b0f311433d", func := "loop.example/g00797/laws.FnExactOpNorm", spec := "fnExactOpNorm", unfollowed := true, recurses := true, apart := false }
def FnExactOpNormSaid : Prop := fnExactOpNormRow.holds Try.pinned (OpenSpec.ofChange fnExactOpNormSpec)

/-- ITS FALSE NEIGHBOUR: 'it returns false'. Refute it at one input. -/
def fnExactOpNormWrong : ChangeSpec := { name := "fnExactOpNorm", fn := fun _ => fun
  | [d] => { results := [.lit (.bool false)], args := [d] }
  | _ => none }
def FnExactOpNormWrongFalsely : Prop := fnExactOpNormRow.holds Try.pinned (OpenSpec.ofChange fnExactOpNormWrong)

/-- 'laws.FnExactIsNorm': WHATEVER THE INPUT: true; the input reads as it did. -/
def fnExactIsNormSpec : ChangeSpec := { name := "fnExactIsNorm", fn := fun _ => fun
  | [d] => { results := [.lit (.bool true)], args := [d] }
  | _ => none }
def fnExactIsNormRow : OpenClaim := { program := "ytlidheodadoboaa", sum := "23c84c84e769010e6ed4e956f37a530d968f033ed3822d0c5589b9b0f311433d", func := "loop.example/g00797/laws.FnExactIsNorm", spec := "fnExactIsNorm", unfollowed := true, recurses := true, apart := false }
def FnExactIsNormSaid : Prop := fnExactIsNormRow.holds Try.pinned (OpenSpec.ofChange fnExactIsNormSpec)

/-- ITS FALSE NEIGHBOUR: 'it returns false'. Refute it at one input. -/
def fnExactIsNormWrong : ChangeSpec := { name := "fnExactIsNorm", fn := fun _ => fun
  | [d] => { results := [.lit (.bool false)], args := [d] }
  | _ => none }
def FnExactIsNormWrongFalsely : Prop := fnExactIsNormRow.holds Try.pinned (OpenSpec.ofChange fnExactIsNormWrong)

/-- 'laws.FnExactBetween': WHATEVER THE INPUT: true; the input reads as it did. -/
def fnExactBetweenSpec : ChangeSpec := { name := "fnExactBetween", fn := fun _ => fun
  | [d1, d2] => { results := [.lit (.bool true)], args := [d1, d2] }
  | _ => none }
def fnExactBetweenRow : OpenClaim := { program := "ytlidheodadoboaa", sum := "23c84c84e769010e6ed4e956f37a530d968f033ed3822d0c5589b9b0f311433d", func := "loop.example/g00797/laws.FnExactBetween", spec := "fnExactBetween", unfollowed := true, recurses := true, apart := false }
def FnExactBetweenSaid : Prop := fnExactBetweenRow.holds Try.pinned (OpenSpec.ofChange fnExactBetweenSpec)

/-- ITS FALSE NEIGHBOUR: 'it returns false'. Refute it at one input. -/
def fnExactBetweenWrong : ChangeSpec := { name := "fnExactBetween", fn := fun _ => fun
  | [d1, d2] => { results := [.lit (.bool false)], args := [d1, d2] }
  | _ => none }
def FnExactBetweenWrongFalsely : Prop := fnExactBetweenRow.holds Try.pinned (OpenSpec.ofChange fnExactBetweenWrong)

/-- 'laws.FnExactDropAt': WHATEVER THE INPUT: true; the input reads as it did. -/
def fnExactDropAtSpec : ChangeSpec := { name := "fnExactDropAt", fn := fun _ => fun
  | [d1, d2, d3] => { results := [.lit (.bool true)], args := [d1, d2, d3] }
  | _ => none }
def fnExactDropAtRow : OpenClaim := { program := "ytlidheodadoboaa", sum := "23c84c84e769010e6ed4e956f37a530d968f033ed3822d0c5589b9b0f311433d", func := "loop.example/g00797/laws.FnExactDropAt", spec := "fnExactDropAt", unfollowed := true, recurses := true, apart := false }
def FnExactDropAtSaid : Prop := fnExactDropAtRow.holds Try.pinned (OpenSpec.ofChange fnExactDropAtSpec)

/-- ITS FALSE NEIGHBOUR: 'it returns false'. Refute it at one input. -/
def fnExactDropAtWrong : ChangeSpec := { name := "fnExactDropAt", fn := fun _ => fun
  | [d1, d2, d3] => { results := [.lit (.bool false)], args := [d1, d2, d3] }
  | _ => none }
def FnExactDropAtWrongFalsely : Prop := fnExactDropAtRow.holds Try.pinned (OpenSpec.ofChange fnExactDropAtWrong)

/-- 'laws.FnExactPutAt': WHATEVER THE INPUT: true; the input reads as it did. -/
def fnExactPutAtSpec : ChangeSpec := { name := "fnExactPutAt", fn := fun _ => fun
  | [d1, d2, d3] => { results := [.lit (.bool true)], args := [d1, d2, d3] }
  | _ => none }
def fnExactPutAtRow : OpenClaim := { program := "ytlidheodadoboaa", sum := "23c84c84e769010e6ed4e956f37a530d968f033ed3822d0c5589b9b0f311433d", func := "loop.example/g00797/laws.FnExactPutAt", spec := "fnExactPutAt", unfollowed := true, recurses := true, apart := false }
def FnExactPutAtSaid : Prop := fnExactPutAtRow.holds Try.pinned (OpenSpec.ofChange fnExactPutAtSpec)

/-- ITS FALSE NEIGHBOUR: 'it returns false'. Refute it at one input. -/
def fnExactPutAtWrong : ChangeSpec := { name := "fnExactPutAt", fn := fun _ => fun
  | [d1, d2, d3] => { results := [.lit (.bool false)], args := [d1, d2, d3] }
  | _ => none }
def FnExactPutAtWrongFalsely : Prop := fnExactPutAtRow.holds Try.pinned (OpenSpec.ofChange fnExactPutAtWrong)

/-- 'laws.FnExactSpans': WHATEVER THE INPUT: true; the input reads as it did. -/
def fnExactSpansSpec : ChangeSpec := { name := "fnExactSpans", fn := fun _ => fun
  | [d] => { results := [.lit (.bool true)], args := [d] }
  | _ => none }
def fnExactSpansRow : OpenClaim := { program := "ytlidheodadoboaa", sum := "23c84c84e769010e6ed4e956f37a530d968f033ed3822d0c5589b9b0f311433d", func := "loop.example/g00797/laws.FnExactSpans", spec := "fnExactSpans", unfollowed := true, recurses := true, apart := false }
def FnExactSpansSaid : Prop := fnExactSpansRow.holds Try.pinned (OpenSpec.ofChange fnExactSpansSpec)

/-- ITS FALSE NEIGHBOUR: 'it returns false'. Refute it at one input. -/
def fnExactSpansWrong : ChangeSpec := { name := "fnExactSpans", fn := fun _ => fun
  | [d] => { results := [.lit (.bool false)], args := [d] }
  | _ => none }
def FnExactSpansWrongFalsely : Prop := fnExactSpansRow.holds Try.pinned (OpenSpec.ofChange fnExactSpansWrong)

/-- 'laws.FnExactShift': WHATEVER THE INPUT: true; the input reads as it did. -/
def fnExactShiftSpec : ChangeSpec := { name := "fnExactShift", fn := fun _ => fun
  | [d1, d2, d3] => { results := [.lit (.bool true)], args := [d1, d2, d3] }
  | _ => none }
def fnExactShiftRow : OpenClaim := { program := "ytlidheodadoboaa", sum := "23c84c84e769010e6ed4e956f37a530d968f033ed3822d0c5589b9b0f311433d", func := "loop.example/g00797/laws.FnExactShift", spec := "fnExactShift", unfollowed := true, recurses := true, apart := false }
def FnExactShiftSaid : Prop := fnExactShiftRow.holds Try.pinned (OpenSpec.ofChange fnExactShiftSpec)

/-- ITS FALSE NEIGHBOUR: 'it returns false'. Refute it at one input. -/
def fnExactShiftWrong : ChangeSpec := { name := "fnExactShift", fn := fun _ => fun
  | [d1, d2, d3] => { results := [.lit (.bool false)], args := [d1, d2, d3] }
  | _ => none }
def FnExactShiftWrongFalsely : Prop := fnExactShiftRow.holds Try.pinned (OpenSpec.ofChange fnExactShiftWrong)

/-- 'laws.FnExactBack': WHATEVER THE INPUT: true; the input reads as it did. -/
def fnExactBackSpec : ChangeSpec := { name := "fnExactBack", fn := fun _ => fun
  | [d1, d2] => { results := [.lit (.bool true)], args := [d1, d2] }
  | _ => none }
def fnExactBackRow : OpenClaim := { program := "ytlidheodadoboaa", sum := "23c84c84e769010e6ed4e956f37a530d968f033ed3822d0c5589b9b0f311433d", func := "loop.example/g00797/laws.FnExactBack", spec := "fnExactBack", unfollowed := true, recurses := true, apart := false }
def FnExactBackSaid : Prop := fnExactBackRow.holds Try.pinned (OpenSpec.ofChange fnExactBackSpec)

/-- ITS FALSE NEIGHBOUR: 'it returns false'. Refute it at one input. -/
def fnExactBackWrong : ChangeSpec := { name := "fnExactBack", fn := fun _ => fun
  | [d1, d2] => { results := [.lit (.bool false)], args := [d1, d2] }
  | _ => none }
def FnExactBackWrongFalsely : Prop := fnExactBackRow.holds Try.pinned (OpenSpec.ofChange fnExactBackWrong)

/-- 'laws.FnExactInvert': WHATEVER THE INPUT: true; the input reads as it did. -/
def fnExactInvertSpec : ChangeSpec := { name := "fnExactInvert", fn := fun _ => fun
  | [d1, d2] => { results := [.lit (.bool true)], args := [d1, d2] }
  | _ => none }
def fnExactInvertRow : OpenClaim := { program := "ytlidheodadoboaa", sum := "23c84c84e769010e6ed4e956f37a530d968f033ed3822d0c5589b9b0f311433d", func := "loop.example/g00797/laws.FnExactInvert", spec := "fnExactInvert", unfollowed := true, recurses := true, apart := false }
def FnExactInvertSaid : Prop := fnExactInvertRow.holds Try.pinned (OpenSpec.ofChange fnExactInvertSpec)

/-- ITS FALSE NEIGHBOUR: 'it returns false'. Refute it at one input. -/
def fnExactInvertWrong : ChangeSpec := { name := "fnExactInvert", fn := fun _ => fun
  | [d1, d2] => { results := [.lit (.bool false)], args := [d1, d2] }
  | _ => none }
def FnExactInvertWrongFalsely : Prop := fnExactInvertRow.holds Try.pinned (OpenSpec.ofChange fnExactInvertWrong)

/-- 'laws.FnShift': WHATEVER THE INPUT: true; the input reads as it did. -/
def fnShiftSpec : ChangeSpec := { name := "fnShift", fn := fun _ => fun
  | [d] => { results := [.lit (.bool true)], args := [d] }
  | _ => none }
def fnShiftRow : OpenClaim := { program := "ytlidheodadoboaa", sum := "23c84c84e769010e6ed4e956f37a530d968f033ed3822d0c5589b9b0f311433d", func := "loop.example/g00797/laws.FnShift", spec := "fnShift", unfollowed := true, recurses := true, apart := false }
def FnShiftSaid : Prop := fnShiftRow.holds Try.pinned (OpenSpec.ofChange fnShiftSpec)

/-- ITS FALSE NEIGHBOUR: 'it returns false'. Refute it at one input. -/
def fnShiftWrong : ChangeSpec := { name := "fnShift", fn := fun _ => fun
  | [d] => { results := [.lit (.bool false)], args := [d] }
  | _ => none }
def FnShiftWrongFalsely : Prop := fnShiftRow.holds Try.pinned (OpenSpec.ofChange fnShiftWrong)

/-- 'laws.FnPlace': WHATEVER THE INPUT: true; the input reads as it did. -/
def fnPlaceSpec : ChangeSpec := { name := "fnPlace", fn := fun _ => fun
  | [d] => { results := [.lit (.bool true)], args := [d] }
  | _ => none }
def fnPlaceRow : OpenClaim := { program := "ytlidheodadoboaa", sum := "23c84c84e769010e6ed4e956f37a530d968f033ed3822d0c5589b9b0f311433d", func := "loop.example/g00797/laws.FnPlace", spec := "fnPlace", unfollowed := true, recurses := true, apart := false }
def FnPlaceSaid : Prop := fnPlaceRow.holds Try.pinned (OpenSpec.ofChange fnPlaceSpec)

/-- ITS FALSE NEIGHBOUR: 'it returns false'. Refute it at one input. -/
def fnPlaceWrong : ChangeSpec := { name := "fnPlace", fn := fun _ => fun
  | [d] => { results := [.lit (.bool false)], args := [d] }
  | _ => none }
def FnPlaceWrongFalsely : Prop := fnPlaceRow.holds Try.pinned (OpenSpec.ofChange fnPlaceWrong)

/- THE SECOND FORM. 'bulk': how many values and letters a reading holds, each counted each time it is reached (what is shared counts as often as it is met; a slice's spare places count too). A statement '..UptoSaid' is the law's where the arguments, and the package variables that the reading takes, are together of bulk at most 1048576: NARROWER than '..Said'. Prove '..Said' where nothing that the law and all that it calls make is longer than what came in: it says more and counts as full. Else prove '..UptoSaid'. A law counts once. -/
mutual
def uptoBulk {H : Type} : DataW H → Nat
  | .lit (.string bytes) => bytes.length + 1
  | .lit _ => 1
  | .nil => 1
  | .ptr d => uptoBulk d + 1
  | .slice elems spare => uptoBulkAll elems + uptoBulkAll spare + 1
  | .agg parts => uptoBulkAll parts + 1
  | .iface _ d => uptoBulk d + 1
  | .map entries => uptoBulkEntries entries + 1
  | .held _ => 1
def uptoBulkAll {H : Type} : List (DataW H) → Nat
  | [] => 0
  | d :: r => uptoBulk d + uptoBulkAll r
def uptoBulkEntries {H : Type} : List (Lit × DataW H) → Nat
  | [] => 0
  | x :: r => uptoBulkEntry x + uptoBulkEntries r
def uptoBulkEntry {H : Type} : Lit × DataW H → Nat
  | (.string bytes, d) => bytes.length + uptoBulk d + 1
  | (_, d) => uptoBulk d + 1
 end
def uptoSmall : (H : Type) → List (DataW H) → Bool := fun _ ds => decide (uptoBulkAll ds ≤ 1048576)
def OpenSpec.upto (s : _root_.Go.ChangeSpec) : _root_.Go.OpenSpec := { _root_.Go.OpenSpec.ofChange s with cond := some uptoSmall }

/-- 'laws.FnExactOpNorm', WHERE WHAT IT READS IS OF BULK AT MOST 1048576: true; the input reads as it did. -/
def fnExactOpNormUptoRow : OpenClaim := { program := "ytlidheodadoboaa", sum := "23c84c84e769010e6ed4e956f37a530d968f033ed3822d0c5589b9b0f311433d", func := "loop.example/g00797/laws.FnExactOpNorm", spec := "fnExactOpNorm", unfollowed := true, recurses := true, apart := false, narrowed := true }
def FnExactOpNormUptoSaid : Prop := fnExactOpNormUptoRow.holds Try.pinned (OpenSpec.upto fnExactOpNormSpec)

/-- 'laws.FnExactIsNorm', WHERE WHAT IT READS IS OF BULK AT MOST 1048576: true; the input reads as it did. -/
def fnExactIsNormUptoRow : OpenClaim := { program := "ytlidheodadoboaa", sum := "23c84c84e769010e6ed4e956f37a530d968f033ed3822d0c5589b9b0f311433d", func := "loop.example/g00797/laws.FnExactIsNorm", spec := "fnExactIsNorm", unfollowed := true, recurses := true, apart := false, narrowed := true }
def FnExactIsNormUptoSaid : Prop := fnExactIsNormUptoRow.holds Try.pinned (OpenSpec.upto fnExactIsNormSpec)

/-- 'laws.FnExactBetween', WHERE WHAT IT READS IS OF BULK AT MOST 1048576: true; the input reads as it did. -/
def fnExactBetweenUptoRow : OpenClaim := { program := "ytlidheodadoboaa", sum := "23c84c84e769010e6ed4e956f37a530d968f033ed3822d0c5589b9b0f311433d", func := "loop.example/g00797/laws.FnExactBetween", spec := "fnExactBetween", unfollowed := true, recurses := true, apart := false, narrowed := true }
def FnExactBetweenUptoSaid : Prop := fnExactBetweenUptoRow.holds Try.pinned (OpenSpec.upto fnExactBetweenSpec)

/-- 'laws.FnExactDropAt', WHERE WHAT IT READS IS OF BULK AT MOST 1048576: true; the input reads as it did. -/
def fnExactDropAtUptoRow : OpenClaim := { program := "ytlidheodadoboaa", sum := "23c84c84e769010e6ed4e956f37a530d968f033ed3822d0c5589b9b0f311433d", func := "loop.example/g00797/laws.FnExactDropAt", spec := "fnExactDropAt", unfollowed := true, recurses := true, apart := false, narrowed := true }
def FnExactDropAtUptoSaid : Prop := fnExactDropAtUptoRow.holds Try.pinned (OpenSpec.upto fnExactDropAtSpec)

/-- 'laws.FnExactPutAt', WHERE WHAT IT READS IS OF BULK AT MOST 1048576: true; the input reads as it did. -/
def fnExactPutAtUptoRow : OpenClaim := { program := "ytlidheodadoboaa", sum := "23c84c84e769010e6ed4e956f37a530d968f033ed3822d0c5589b9b0f311433d", func := "loop.example/g00797/laws.FnExactPutAt", spec := "fnExactPutAt", unfollowed := true, recurses := true, apart := false, narrowed := true }
def FnExactPutAtUptoSaid : Prop := fnExactPutAtUptoRow.holds Try.pinned (OpenSpec.upto fnExactPutAtSpec)

/-- 'laws.FnExactSpans', WHERE WHAT IT READS IS OF BULK AT MOST 1048576: true; the input reads as it did. -/
def fnExactSpansUptoRow : OpenClaim := { program := "ytlidheodadoboaa", sum := "23c84c84e769010e6ed4e956f37a530d968f033ed3822d0c5589b9b0f311433d", func := "loop.example/g00797/laws.FnExactSpans", spec := "fnExactSpans", unfollowed := true, recurses := true, apart := false, narrowed := true }
def FnExactSpansUptoSaid : Prop := fnExactSpansUptoRow.holds Try.pinned (OpenSpec.upto fnExactSpansSpec)

/-- 'laws.FnExactShift', WHERE WHAT IT READS IS OF BULK AT MOST 1048576: true; the input reads as it did. -/
def fnExactShiftUptoRow : OpenClaim := { program := "ytlidheodadoboaa", sum := "23c84c84e769010e6ed4e956f37a530d968f033ed3822d0c5589b9b0f311433d", func := "loop.example/g00797/laws.FnExactShift", spec := "fnExactShift", unfollowed := true, recurses := true, apart := false, narrowed := true }
def FnExactShiftUptoSaid : Prop := fnExactShiftUptoRow.holds Try.pinned (OpenSpec.upto fnExactShiftSpec)

/-- 'laws.FnExactBack', WHERE WHAT IT READS IS OF BULK AT MOST 1048576: true; the input reads as it did. -/
def fnExactBackUptoRow : OpenClaim := { program := "ytlidheodadoboaa", sum := "23c84c84e769010e6ed4e956f37a530d968f033ed3822d0c5589b9b0f311433d", func := "loop.example/g00797/laws.FnExactBack", spec := "fnExactBack", unfollowed := true, recurses := true, apart := false, narrowed := true }
def FnExactBackUptoSaid : Prop := fnExactBackUptoRow.holds Try.pinned (OpenSpec.upto fnExactBackSpec)

/-- 'laws.FnExactInvert', WHERE WHAT IT READS IS OF BULK AT MOST 1048576: true; the input reads as it did. -/
def fnExactInvertUptoRow : OpenClaim := { program := "ytlidheodadoboaa", sum := "23c84c84e769010e6ed4e956f37a530d968f033ed3822d0c5589b9b0f311433d", func := "loop.example/g00797/laws.FnExactInvert", spec := "fnExactInvert", unfollowed := true, recurses := true, apart := false, narrowed := true }
def FnExactInvertUptoSaid : Prop := fnExactInvertUptoRow.holds Try.pinned (OpenSpec.upto fnExactInvertSpec)

/-- 'laws.FnShift', WHERE WHAT IT READS IS OF BULK AT MOST 1048576: true; the input reads as it did. -/
def fnShiftUptoRow : OpenClaim := { program := "ytlidheodadoboaa", sum := "23c84c84e769010e6ed4e956f37a530d968f033ed3822d0c5589b9b0f311433d", func := "loop.example/g00797/laws.FnShift", spec := "fnShift", unfollowed := true, recurses := true, apart := false, narrowed := true }
def FnShiftUptoSaid : Prop := fnShiftUptoRow.holds Try.pinned (OpenSpec.upto fnShiftSpec)

/-- 'laws.FnPlace', WHERE WHAT IT READS IS OF BULK AT MOST 1048576: true; the input reads as it did. -/
def fnPlaceUptoRow : OpenClaim := { program := "ytlidheodadoboaa", sum := "23c84c84e769010e6ed4e956f37a530d968f033ed3822d0c5589b9b0f311433d", func := "loop.example/g00797/laws.FnPlace", spec := "fnPlace", unfollowed := true, recurses := true, apart := false, narrowed := true }
def FnPlaceUptoSaid : Prop := fnPlaceUptoRow.holds Try.pinned (OpenSpec.upto fnPlaceSpec)

end Rows
end Go.Proofs.Ytlidheodadoboaa
