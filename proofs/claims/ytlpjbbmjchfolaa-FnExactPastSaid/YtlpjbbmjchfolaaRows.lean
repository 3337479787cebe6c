/-
  No cell of these rows narrows 'for every input' (looked for: loops, veiled, ifaces, maps, wideKeys, modest, calm, conditions, laid).
  DERIVED. THE GIVEN ROWS OF THIS SEAT. 10 by the template 'for every input the law returns true; each argument reads behind the call as it read before'; 0 by the template 'total and deterministic' (their statements: YtlpjbbmjchfolaaTotals.lean).
  GIVEN WITH THE SEED: the statements are not yours to turn. If you find one false, say at which input.
  Laid BY PROGRAM, IN A SANDBOX (cutbox-rows.mjs): the forced cells as the released guide's own fill.sh prints them over the translation 3c1ee923d5422a02… (all of the seat's roots in one cut). By AI agents, Wed Nov 11 2026. No macro, syntax, notation, axiom, sorry.
-/
import Derived.Test.YtlpjbbmjchfolaaChecked
import GoSem.Claim
import GoSem.ClaimJoined
import GoSem.ClaimMapViews
import Derived.JoinedTies
import Derived.KernelRfl
namespace Go.Proofs.Ytlpjbbmjchfolaa
/- THE CELL 'sum', in the pinned program and in every row, IS THE sha256 OF THE DUMP (.gsa) THAT YtlpjbbmjchfolaaProg.lean LOADS. Nothing in Lean hashes anything: it is a label: what it is worth is what the hold of that sum in a sandbox is worth. -/
noncomputable def Try.pinned : Pinned := { name := "ytlpjbbmjchfolaa", sum := "3c1ee923d5422a02b47176eb451f93afaa7f007b45f11213bbce43c5d8e42bdb", checked := Try.checked }
namespace Rows
def none {H : Type} : Left H := { results := [], args := [] }

/-- 'laws.FnMeet': WHATEVER THE INPUT: true; the input reads as it did. -/
def fnMeetSpec : ChangeSpec := { name := "fnMeet", fn := fun _ => fun
  | [d] => { results := [.lit (.bool true)], args := [d] }
  | _ => none }
def fnMeetRow : OpenClaim := { program := "ytlpjbbmjchfolaa", sum := "3c1ee923d5422a02b47176eb451f93afaa7f007b45f11213bbce43c5d8e42bdb", func := "loop.example/g00797/laws.FnMeet", spec := "fnMeet", unfollowed := true, recurses := true, apart := false }
def FnMeetSaid : Prop := fnMeetRow.holds Try.pinned (OpenSpec.ofChange fnMeetSpec)

/-- ITS FALSE NEIGHBOUR: 'it returns false'. Refute it at one input. -/
def fnMeetWrong : ChangeSpec := { name := "fnMeet", fn := fun _ => fun
  | [d] => { results := [.lit (.bool false)], args := [d] }
  | _ => none }
def FnMeetWrongFalsely : Prop := fnMeetRow.holds Try.pinned (OpenSpec.ofChange fnMeetWrong)

/-- 'laws.FnPast': WHATEVER THE INPUT: true; the input reads as it did. -/
def fnPastSpec : ChangeSpec := { name := "fnPast", fn := fun _ => fun
  | [d] => { results := [.lit (.bool true)], args := [d] }
  | _ => none }
def fnPastRow : OpenClaim := { program := "ytlpjbbmjchfolaa", sum := "3c1ee923d5422a02b47176eb451f93afaa7f007b45f11213bbce43c5d8e42bdb", func := "loop.example/g00797/laws.FnPast", spec := "fnPast", unfollowed := true, recurses := true, apart := false }
def FnPastSaid : Prop := fnPastRow.holds Try.pinned (OpenSpec.ofChange fnPastSpec)

/-- ITS FALSE NEIGHBOUR: 'it returns false'. Refute it at one input. -/
def fnPastWrong : ChangeSpec := { name := "fnPast", fn := fun _ => fun
  | [d] => { results := [.lit (.bool false)], args := [d] }
  | _ => none }
def FnPastWrongFalsely : Prop := fnPastRow.holds Try.pinned (OpenSpec.ofChange fnPastWrong)

/-- 'laws.FnCompose': WHATEVER THE INPUT: true; the input reads as it did. -/
def fnComposeSpec : ChangeSpec := { name := "fnCompose", fn := fun _ => fun
  | [d] => { results := [.lit (.bool true)], args := [d] }
  | _ => none }
def fnComposeRow : OpenClaim := { program := "ytlpjbbmjchfolaa", sum := "3c1ee923d5422a02b47176eb451f93afaa7f007b45f11213bbce43c5d8e42bdb", func := "loop.example/g00797/laws.FnCompose", spec := "fnCompose", unfollowed := true, recurses := true, apart := false }
def FnComposeSaid : Prop := fnComposeRow.holds Try.pinned (OpenSpec.ofChange fnComposeSpec)

/-- ITS FALSE NEIGHBOUR: 'it returns false'. Refute it at one input. -/
def fnComposeWrong : ChangeSpec := { name := "fnCompose", fn := fun _ => fun
  | [d] => { results := [.lit (.bool false)], args := [d] }
  | _ => none }
def FnComposeWrongFalsely : Prop := fnComposeRow.holds Try.pinned (OpenSpec.ofChange fnComposeWrong)

/-- 'laws.FnTie': WHATEVER THE INPUT: true; the input reads as it did. -/
def fnTieSpec : ChangeSpec := { name := "fnTie", fn := fun _ => fun
  | [d] => { results := [.lit (.bool true)], args := [d] }
  | _ => none }
def fnTieRow : OpenClaim := { program := "ytlpjbbmjchfolaa", sum := "3c1ee923d5422a02b47176eb451f93afaa7f007b45f11213bbce43c5d8e42bdb", func := "loop.example/g00797/laws.FnTie", spec := "fnTie", unfollowed := true, recurses := true, apart := false }
def FnTieSaid : Prop := fnTieRow.holds Try.pinned (OpenSpec.ofChange fnTieSpec)

/-- ITS FALSE NEIGHBOUR: 'it returns false'. Refute it at one input. -/
def fnTieWrong : ChangeSpec := { name := "fnTie", fn := fun _ => fun
  | [d] => { results := [.lit (.bool false)], args := [d] }
  | _ => none }
def FnTieWrongFalsely : Prop := fnTieRow.holds Try.pinned (OpenSpec.ofChange fnTieWrong)

/-- 'laws.FnInvert': WHATEVER THE INPUT: true; the input reads as it did. -/
def fnInvertSpec : ChangeSpec := { name := "fnInvert", fn := fun _ => fun
  | [d] => { results := [.lit (.bool true)], args := [d] }
  | _ => none }
def fnInvertRow : OpenClaim := { program := "ytlpjbbmjchfolaa", sum := "3c1ee923d5422a02b47176eb451f93afaa7f007b45f11213bbce43c5d8e42bdb", func := "loop.example/g00797/laws.FnInvert", spec := "fnInvert", unfollowed := true, recurses := true, apart := false }
def FnInvertSaid : Prop := fnInvertRow.holds Try.pinned (OpenSpec.ofChange fnInvertSpec)

/-- ITS FALSE NEIGHBOUR: 'it returns false'. Refute it at one input. -/
def fnInvertWrong : ChangeSpec := { name := "fnInvert", fn := fun _ => fun
  | [d] => { results := [.lit (.bool false)], args := [d] }
  | _ => none }
def FnInvertWrongFalsely : Prop := fnInvertRow.holds Try.pinned (OpenSpec.ofChange fnInvertWrong)

/-- 'laws.FnExactCompose': WHATEVER THE INPUT: true; the input reads as it did. -/
def fnExactComposeSpec : ChangeSpec := { name := "fnExactCompose", fn := fun _ => fun
  | [d1, d2] => { results := [.lit (.bool true)], args := [d1, d2] }
  | _ => none }
def fnExactComposeRow : OpenClaim := { program := "ytlpjbbmjchfolaa", sum := "3c1ee923d5422a02b47176eb451f93afaa7f007b45f11213bbce43c5d8e42bdb", func := "loop.example/g00797/laws.FnExactCompose", spec := "fnExactCompose", unfollowed := true, recurses := true, apart := false }
def FnExactComposeSaid : Prop := fnExactComposeRow.holds Try.pinned (OpenSpec.ofChange fnExactComposeSpec)

/-- ITS FALSE NEIGHBOUR: 'it returns false'. Refute it at one input. -/
def fnExactComposeWrong : ChangeSpec := { name := "fnExactCompose", fn := fun _ => fun
  | [d1, d2] => { results := [.lit (.bool false)], args := [d1, d2] }
  | _ => none }
def FnExactComposeWrongFalsely : Prop := fnExactComposeRow.holds Try.pinned (OpenSpec.ofChange fnExactComposeWrong)

/-- 'laws.FnExactTransform': WHATEVER THE INPUT: true; the input reads as it did. -/
def fnExactTransformSpec : ChangeSpec := { name := "fnExactTransform", fn := fun _ => fun
  | [d1, d2] => { results := [.lit (.bool true)], args := [d1, d2] }
  | _ => none }
def fnExactTransformRow : OpenClaim := { program := "ytlpjbbmjchfolaa", sum := "3c1ee923d5422a02b47176eb451f93afaa7f007b45f11213bbce43c5d8e42bdb", func := "loop.example/g00797/laws.FnExactTransform", spec := "fnExactTransform", unfollowed := true, recurses := true, apart := false }
def FnExactTransformSaid : Prop := fnExactTransformRow.holds Try.pinned (OpenSpec.ofChange fnExactTransformSpec)

/-- ITS FALSE NEIGHBOUR: 'it returns false'. Refute it at one input. -/
def fnExactTransformWrong : ChangeSpec := { name := "fnExactTransform", fn := fun _ => fun
  | [d1, d2] => { results := [.lit (.bool false)], args := [d1, d2] }
  | _ => none }
def FnExactTransformWrongFalsely : Prop := fnExactTransformRow.holds Try.pinned (OpenSpec.ofChange fnExactTransformWrong)

/-- 'laws.FnExactComposeAll': WHATEVER THE INPUT: true; the input reads as it did. -/
def fnExactComposeAllSpec : ChangeSpec := { name := "fnExactComposeAll", fn := fun _ => fun
  | [d1, d2] => { results := [.lit (.bool true)], args := [d1, d2] }
  | _ => none }
def fnExactComposeAllRow : OpenClaim := { program := "ytlpjbbmjchfolaa", sum := "3c1ee923d5422a02b47176eb451f93afaa7f007b45f11213bbce43c5d8e42bdb", func := "loop.example/g00797/laws.FnExactComposeAll", spec := "fnExactComposeAll", unfollowed := true, recurses := true, apart := false }
def FnExactComposeAllSaid : Prop := fnExactComposeAllRow.holds Try.pinned (OpenSpec.ofChange fnExactComposeAllSpec)

/-- ITS FALSE NEIGHBOUR: 'it returns false'. Refute it at one input. -/
def fnExactComposeAllWrong : ChangeSpec := { name := "fnExactComposeAll", fn := fun _ => fun
  | [d1, d2] => { results := [.lit (.bool false)], args := [d1, d2] }
  | _ => none }
def FnExactComposeAllWrongFalsely : Prop := fnExactComposeAllRow.holds Try.pinned (OpenSpec.ofChange fnExactComposeAllWrong)

/-- 'laws.FnExactPast': WHATEVER THE INPUT: true; the input reads as it did. -/
def fnExactPastSpec : ChangeSpec := { name := "fnExactPast", fn := fun _ => fun
  | [d1, d2] => { results := [.lit (.bool true)], args := [d1, d2] }
  | _ => none }
def fnExactPastRow : OpenClaim := { program := "ytlpjbbmjchfolaa", sum := "3c1ee923d5422a02b47176eb451f93afaa7f007b45f11213bbce43c5d8e42bdb", func := "loop.example/g00797/laws.FnExactPast", spec := "fnExactPast", unfollowed := true, recurses := true, apart := false }
def FnExactPastSaid : Prop := fnExactPastRow.holds Try.pinned (OpenSpec.ofChange fnExactPastSpec)

/-- ITS FALSE NEIGHBOUR: 'it returns false'. Refute it at one input. -/
def fnExactPastWrong : ChangeSpec := { name := "fnExactPast", fn := fun _ => fun
  | [d1, d2] => { results := [.lit (.bool false)], args := [d1, d2] }
  | _ => none }
def FnExactPastWrongFalsely : Prop := fnExactPastRow.holds Try.pinned (OpenSpec.ofChange fnExactPastWrong)

/-- 'laws.FnExactPastAll': WHATEVER THE INPUT: true; the input reads as it did. -/
def fnExactPastAllSpec : ChangeSpec := { name := "fnExactPastAll", fn := fun _ => fun
  | [d1, d2] => { results := [.lit (.bool true)], args := [d1, d2] }
  | _ => none }
def fnExactPastAllRow : OpenClaim := { program := "ytlpjbbmjchfolaa", sum := "3c1ee923d5422a02b47176eb451f93afaa7f007b45f11213bbce43c5d8e42bdb", func := "loop.example/g00797/laws.FnExactPastAll", spec := "fnExactPastAll", unfollowed := true, recurses := true, apart := false }
def FnExactPastAllSaid : Prop := fnExactPastAllRow.holds Try.pinned (OpenSpec.ofChange fnExactPastAllSpec)

/-- ITS FALSE NEIGHBOUR: 'it returns false'. Refute it at one input. -/
def fnExactPastAllWrong : ChangeSpec := { name := "fnExactPastAll", fn := fun _ => fun
  | [d1, d2] => { results := [.lit (.bool false)], args := [d1, d2] }
  | _ => none }
def FnExactPastAllWrongFalsely : Prop := fnExactPastAllRow.holds Try.pinned (OpenSpec.ofChange fnExactPastAllWrong)

/- THE SECOND FORM. 'bulk': how many values and letters a reading holds, each counted each time it is reached (what is shared counts as often as it is met; a slice's spare places count too). A statement '..UptoSaid' is the law's where the arguments, and the package variables that the reading takes, are together of bulk at most 1048576: NARROWER than '..Said'. Prove '..Said' where nothing that the law and all that it calls make is longer than what came in: it says more and counts as full. Else prove '..UptoSaid'. A law counts once. -/
mutual
def uptoBulk {H : Type} : DataW H → Nat
  | .lit (.string bytes) => bytes.length + 1
  | .lit _ => 1
  | .nil => 1
  | .ptr d => uptoBulk d + 1
  | .slice elems spare => uptoBulkAll elems + uptoBulkAll spare + 1
  | .agg parts => uptoBulkAll parts + 1
  | .iface _ d => uptoBulk d + 1
  | .map entries => uptoBulkEntries entries + 1
  | .held _ => 1
def uptoBulkAll {H : Type} : List (DataW H) → Nat
  | [] => 0
  | d :: r => uptoBulk d + uptoBulkAll r
def uptoBulkEntries {H : Type} : List (Lit × DataW H) → Nat
  | [] => 0
  | x :: r => uptoBulkEntry x + uptoBulkEntries r
def uptoBulkEntry {H : Type} : Lit × DataW H → Nat
  | (.string bytes, d) => bytes.length + uptoBulk d + 1
  | (_, d) => uptoBulk d + 1
 end
def uptoSmall : (H : Type) → List (DataW H) → Bool := fun _ ds => decide (uptoBulkAll ds ≤ 1048576)
def OpenSpec.upto (s : _root_.Go.ChangeSpec) : _root_.Go.OpenSpec := { _root_.Go.OpenSpec.ofChange s with cond := some uptoSmall }

/-- 'laws.FnMeet', WHERE WHAT IT READS IS OF BULK AT MOST 1048576: true; the input reads as it did. -/
def fnMeetUptoRow : OpenClaim := { program := "ytlpjbbmjchfolaa", sum := "3c1ee923d5422a02b47176eb451f93afaa7f007b45f11213bbce43c5d8e42bdb", func := "loop.example/g00797/laws.FnMeet", spec := "fnMeet", unfollowed := true, recurses := true, apart := false, narrowed := true }
def FnMeetUptoSaid : Prop := fnMeetUptoRow.holds Try.pinned (OpenSpec.upto fnMeetSpec)

/-- 'laws.FnPast', WHERE WHAT IT READS IS OF BULK AT MOST 1048576: true; the input reads as it did. -/
def fnPastUptoRow : OpenClaim := { program := "ytlpjbbmjchfolaa", sum := "3c1ee923d5422a02b47176eb451f93afaa7f007b45f11213bbce43c5d8e42bdb", func := "loop.example/g00797/laws.FnPast", spec := "fnPast", unfollowed := true, recurses := true, apart := false, narrowed := true }
def FnPastUptoSaid : Prop := fnPastUptoRow.holds Try.pinned (OpenSpec.upto fnPastSpec)

/-- 'laws.FnCompose', WHERE WHAT IT READS IS OF BULK AT MOST 1048576: true; the input reads as it did. -/
def fnComposeUptoRow : OpenClaim := { program := "ytlpjbbmjchfolaa", sum := "3c1ee923d5422a02b47176eb451f93afaa7f007b45f11213bbce43c5d8e42bdb", func := "loop.example/g00797/laws.FnCompose", spec := "fnCompose", unfollowed := true, recurses := true, apart := false, narrowed := true }
def FnComposeUptoSaid : Prop := fnComposeUptoRow.holds Try.pinned (OpenSpec.upto fnComposeSpec)

/-- 'laws.FnTie', WHERE WHAT IT READS IS OF BULK AT MOST 1048576: true; the input reads as it did. -/
def fnTieUptoRow : OpenClaim := { program := "ytlpjbbmjchfolaa", sum := "3c1ee923d5422a02b47176eb451f93afaa7f007b45f11213bbce43c5d8e42bdb", func := "loop.example/g00797/laws.FnTie", spec := "fnTie", unfollowed := true, recurses := true, apart := false, narrowed := true }
def FnTieUptoSaid : Prop := fnTieUptoRow.holds Try.pinned (OpenSpec.upto fnTieSpec)

/-- 'laws.FnInvert', WHERE WHAT IT READS IS OF BULK AT MOST 1048576: true; the input reads as it did. -/
def fnInvertUptoRow : OpenClaim := { program := "ytlpjbbmjchfolaa", sum := "3c1ee923d5422a02b47176eb451f93afaa7f007b45f11213bbce43c5d8e42bdb", func := "loop.example/g00797/laws.FnInvert", spec := "fnInvert", unfollowed := true, recurses := true, apart := false, narrowed := true }
def FnInvertUptoSaid : Prop := fnInvertUptoRow.holds Try.pinned (OpenSpec.upto fnInvertSpec)

/-- 'laws.FnExactCompose', WHERE WHAT IT READS IS OF BULK AT MOST 1048576: true; the input reads as it did. -/
def fnExactComposeUptoRow : OpenClaim := { program := "ytlpjbbmjchfolaa", sum := "3c1ee923d5422a02b47176eb451f93afaa7f007b45f11213bbce43c5d8e42bdb", func := "loop.example/g00797/laws.FnExactCompose", spec := "fnExactCompose", unfollowed := true, recurses := true, apart := false, narrowed := true }
def FnExactComposeUptoSaid : Prop := fnExactComposeUptoRow.holds Try.pinned (OpenSpec.upto fnExactComposeSpec)

/-- 'laws.FnExactTransform', WHERE WHAT IT READS IS OF BULK AT MOST 1048576: true; the input reads as it did. -/
def fnExactTransformUptoRow : OpenClaim := { program := "ytlpjbbmjchfolaa", sum := "3c1ee923d5422a02b47176eb451f93afaa7f007b45f11213bbce43c5d8e42bdb", func := "loop.example/g00797/laws.FnExactTransform", spec := "fnExactTransform", unfollowed := true, recurses := true, apart := false, narrowed := true }
def FnExactTransformUptoSaid : Prop := fnExactTransformUptoRow.holds Try.pinned (OpenSpec.upto fnExactTransformSpec)

/-- 'laws.FnExactComposeAll', WHERE WHAT IT READS IS OF BULK AT MOST 1048576: true; the input reads as it did. -/
def fnExactComposeAllUptoRow : OpenClaim := { program := "ytlpjbbmjchfolaa", sum := "3c1ee923d5422a02b47176eb451f93afaa7f007b45f11213bbce43c5d8e42bdb", func := "loop.example/g00797/laws.FnExactComposeAll", spec := "fnExactComposeAll", unfollowed := true, recurses := true, apart := false, narrowed := true }
def FnExactComposeAllUptoSaid : Prop := fnExactComposeAllUptoRow.holds Try.pinned (OpenSpec.upto fnExactComposeAllSpec)

/-- 'laws.FnExactPast', WHERE WHAT IT READS IS OF BULK AT MOST 1048576: true; the input reads as it did. -/
def fnExactPastUptoRow : OpenClaim := { program := "ytlpjbbmjchfolaa", sum := "3c1ee923d5422a02b47176eb451f93afaa7f007b45f11213bbce43c5d8e42bdb", func := "loop.example/g00797/laws.FnExactPast", spec := "fnExactPast", unfollowed := true, recurses := true, apart := false, narrowed := true }
def FnExactPastUptoSaid : Prop := fnExactPastUptoRow.holds Try.pinned (OpenSpec.upto fnExactPastSpec)

/-- 'laws.FnExactPastAll', WHERE WHAT IT READS IS OF BULK AT MOST 1048576: true; the input reads as it did. -/
def fnExactPastAllUptoRow : OpenClaim := { program := "ytlpjbbmjchfolaa", sum := "3c1ee923d5422a02b47176eb451f93afaa7f007b45f11213bbce43c5d8e42bdb", func := "loop.example/g00797/laws.FnExactPastAll", spec := "fnExactPastAll", unfollowed := true, recurses := true, apart := false, narrowed := true }
def FnExactPastAllUptoSaid : Prop := fnExactPastAllUptoRow.holds Try.pinned (OpenSpec.upto fnExactPastAllSpec)

end Rows
end Go.Proofs.Ytlpjbbmjchfolaa
