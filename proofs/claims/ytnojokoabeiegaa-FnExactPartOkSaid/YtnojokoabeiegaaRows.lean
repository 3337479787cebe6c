/-
  No cell of these rows narrows 'for every input' (looked for: loops, veiled, ifaces, maps, wideKeys, modest, calm, conditions, laid).
  DERIVED. THE GIVEN ROWS OF THIS SEAT. 12 by the template 'for every input the law returns true; each argument reads behind the call as it read before'; 0 by the template 'total and deterministic' (their statements: YtnojokoabeiegaaTotals.lean).
  GIVEN WITH THE SEED: the statements are not yours to turn. If you find one false, say at which input.
  Laid BY PROGRAM, IN A SANDBOX (cutbox-rows.mjs): the forced cells as the released guide's own fill.sh prints them over the translation 7a2791003cfd78be… (all of the seat's roots in one cut). By AI agents, Wed Nov 11 2026. No macro, syntax, notation, axiom, sorry.
-/
import Derived.Test.YtnojokoabeiegaaChecked
import GoSem.Claim
import GoSem.ClaimJoined
import GoSem.ClaimMapViews
import Derived.JoinedTies
import Derived.KernelRfl
namespace Go.Proofs.Ytnojokoabeiegaa
/- THE CELL 'sum', in the pinned program and in every row, IS THE sha256 OF THE DUMP (.gsa) THAT YtnojokoabeiegaaProg.lean LOADS. Nothing in Lean hashes anything: it is a label: what it is worth is what the hold of that sum in a sandbox is worth. -/
noncomputable def Try.pinned : Pinned := { name := "ytnojokoabeiegaa", sum := "7a2791003cfd78beb3be2615fbde90e1cfd4f8e0e5a0ed7fecd86e6ce0106659", checked := Try.checked }
namespace Rows
def none {H : Type} : Left H := { results := [], args := [] }

/-- 'laws.FnExactConstants': WHATEVER THE INPUT: true; the input reads as it did. -/
def fnExactConstantsSpec : ChangeSpec := { name := "fnExactConstants", fn := fun _ => fun
  | [] => { results := [.lit (.bool true)], args := [] }
  | _ => none }
def fnExactConstantsRow : OpenClaim := { program := "ytnojokoabeiegaa", sum := "7a2791003cfd78beb3be2615fbde90e1cfd4f8e0e5a0ed7fecd86e6ce0106659", func := "loop.example/g00797/laws.FnExactConstants", spec := "fnExactConstants", apart := false }
def FnExactConstantsSaid : Prop := fnExactConstantsRow.holds Try.pinned (OpenSpec.ofChange fnExactConstantsSpec)

/-- ITS FALSE NEIGHBOUR: 'it returns false'. Refute it at one input. -/
def fnExactConstantsWrong : ChangeSpec := { name := "fnExactConstants", fn := fun _ => fun
  | [] => { results := [.lit (.bool false)], args := [] }
  | _ => none }
def FnExactConstantsWrongFalsely : Prop := fnExactConstantsRow.holds Try.pinned (OpenSpec.ofChange fnExactConstantsWrong)

/-- 'laws.FnExactSignOk': WHATEVER THE INPUT: true; the input reads as it did. -/
def fnExactSignOkSpec : ChangeSpec := { name := "fnExactSignOk", fn := fun _ => fun
  | [d] => { results := [.lit (.bool true)], args := [d] }
  | _ => none }
def fnExactSignOkRow : OpenClaim := { program := "ytnojokoabeiegaa", sum := "7a2791003cfd78beb3be2615fbde90e1cfd4f8e0e5a0ed7fecd86e6ce0106659", func := "loop.example/g00797/laws.FnExactSignOk", spec := "fnExactSignOk", apart := false }
def FnExactSignOkSaid : Prop := fnExactSignOkRow.holds Try.pinned (OpenSpec.ofChange fnExactSignOkSpec)

/-- ITS FALSE NEIGHBOUR: 'it returns false'. Refute it at one input. -/
def fnExactSignOkWrong : ChangeSpec := { name := "fnExactSignOk", fn := fun _ => fun
  | [d] => { results := [.lit (.bool false)], args := [d] }
  | _ => none }
def FnExactSignOkWrongFalsely : Prop := fnExactSignOkRow.holds Try.pinned (OpenSpec.ofChange fnExactSignOkWrong)

/-- 'laws.FnExactFnv': WHATEVER THE INPUT: true; the input reads as it did. -/
def fnExactFnvSpec : ChangeSpec := { name := "fnExactFnv", fn := fun _ => fun
  | [d] => { results := [.lit (.bool true)], args := [d] }
  | _ => none }
def fnExactFnvRow : OpenClaim := { program := "ytnojokoabeiegaa", sum := "7a2791003cfd78beb3be2615fbde90e1cfd4f8e0e5a0ed7fecd86e6ce0106659", func := "loop.example/g00797/laws.FnExactFnv", spec := "fnExactFnv", apart := false }
def FnExactFnvSaid : Prop := fnExactFnvRow.holds Try.pinned (OpenSpec.ofChange fnExactFnvSpec)

/-- ITS FALSE NEIGHBOUR: 'it returns false'. Refute it at one input. -/
def fnExactFnvWrong : ChangeSpec := { name := "fnExactFnv", fn := fun _ => fun
  | [d] => { results := [.lit (.bool false)], args := [d] }
  | _ => none }
def FnExactFnvWrongFalsely : Prop := fnExactFnvRow.holds Try.pinned (OpenSpec.ofChange fnExactFnvWrong)

/-- 'laws.FnExactNameOk': WHATEVER THE INPUT: true; the input reads as it did. -/
def fnExactNameOkSpec : ChangeSpec := { name := "fnExactNameOk", fn := fun _ => fun
  | [d] => { results := [.lit (.bool true)], args := [d] }
  | _ => none }
def fnExactNameOkRow : OpenClaim := { program := "ytnojokoabeiegaa", sum := "7a2791003cfd78beb3be2615fbde90e1cfd4f8e0e5a0ed7fecd86e6ce0106659", func := "loop.example/g00797/laws.FnExactNameOk", spec := "fnExactNameOk", apart := false }
def FnExactNameOkSaid : Prop := fnExactNameOkRow.holds Try.pinned (OpenSpec.ofChange fnExactNameOkSpec)

/-- ITS FALSE NEIGHBOUR: 'it returns false'. Refute it at one input. -/
def fnExactNameOkWrong : ChangeSpec := { name := "fnExactNameOk", fn := fun _ => fun
  | [d] => { results := [.lit (.bool false)], args := [d] }
  | _ => none }
def FnExactNameOkWrongFalsely : Prop := fnExactNameOkRow.holds Try.pinned (OpenSpec.ofChange fnExactNameOkWrong)

/-- 'laws.FnExactSignsOk': WHATEVER THE INPUT: true; the input reads as it did. -/
def fnExactSignsOkSpec : ChangeSpec := { name := "fnExactSignsOk", fn := fun _ => fun
  | [d] => { results := [.lit (.bool true)], args := [d] }
  | _ => none }
def fnExactSignsOkRow : OpenClaim := { program := "ytnojokoabeiegaa", sum := "7a2791003cfd78beb3be2615fbde90e1cfd4f8e0e5a0ed7fecd86e6ce0106659", func := "loop.example/g00797/laws.FnExactSignsOk", spec := "fnExactSignsOk", apart := false }
def FnExactSignsOkSaid : Prop := fnExactSignsOkRow.holds Try.pinned (OpenSpec.ofChange fnExactSignsOkSpec)

/-- ITS FALSE NEIGHBOUR: 'it returns false'. Refute it at one input. -/
def fnExactSignsOkWrong : ChangeSpec := { name := "fnExactSignsOk", fn := fun _ => fun
  | [d] => { results := [.lit (.bool false)], args := [d] }
  | _ => none }
def FnExactSignsOkWrongFalsely : Prop := fnExactSignsOkRow.holds Try.pinned (OpenSpec.ofChange fnExactSignsOkWrong)

/-- 'laws.FnExactTextOk': WHATEVER THE INPUT: true; the input reads as it did. -/
def fnExactTextOkSpec : ChangeSpec := { name := "fnExactTextOk", fn := fun _ => fun
  | [d] => { results := [.lit (.bool true)], args := [d] }
  | _ => none }
def fnExactTextOkRow : OpenClaim := { program := "ytnojokoabeiegaa", sum := "7a2791003cfd78beb3be2615fbde90e1cfd4f8e0e5a0ed7fecd86e6ce0106659", func := "loop.example/g00797/laws.FnExactTextOk", spec := "fnExactTextOk", apart := false }
def FnExactTextOkSaid : Prop := fnExactTextOkRow.holds Try.pinned (OpenSpec.ofChange fnExactTextOkSpec)

/-- ITS FALSE NEIGHBOUR: 'it returns false'. Refute it at one input. -/
def fnExactTextOkWrong : ChangeSpec := { name := "fnExactTextOk", fn := fun _ => fun
  | [d] => { results := [.lit (.bool false)], args := [d] }
  | _ => none }
def FnExactTextOkWrongFalsely : Prop := fnExactTextOkRow.holds Try.pinned (OpenSpec.ofChange fnExactTextOkWrong)

/-- 'laws.FnExactSignsSame': WHATEVER THE INPUT: true; the input reads as it did. -/
def fnExactSignsSameSpec : ChangeSpec := { name := "fnExactSignsSame", fn := fun _ => fun
  | [d1, d2] => { results := [.lit (.bool true)], args := [d1, d2] }
  | _ => none }
def fnExactSignsSameRow : OpenClaim := { program := "ytnojokoabeiegaa", sum := "7a2791003cfd78beb3be2615fbde90e1cfd4f8e0e5a0ed7fecd86e6ce0106659", func := "loop.example/g00797/laws.FnExactSignsSame", spec := "fnExactSignsSame", apart := false }
def FnExactSignsSameSaid : Prop := fnExactSignsSameRow.holds Try.pinned (OpenSpec.ofChange fnExactSignsSameSpec)

/-- ITS FALSE NEIGHBOUR: 'it returns false'. Refute it at one input. -/
def fnExactSignsSameWrong : ChangeSpec := { name := "fnExactSignsSame", fn := fun _ => fun
  | [d1, d2] => { results := [.lit (.bool false)], args := [d1, d2] }
  | _ => none }
def FnExactSignsSameWrongFalsely : Prop := fnExactSignsSameRow.holds Try.pinned (OpenSpec.ofChange fnExactSignsSameWrong)

/-- 'laws.FnExactBytes': WHATEVER THE INPUT: true; the input reads as it did. -/
def fnExactBytesSpec : ChangeSpec := { name := "fnExactBytes", fn := fun _ => fun
  | [d] => { results := [.lit (.bool true)], args := [d] }
  | _ => none }
def fnExactBytesRow : OpenClaim := { program := "ytnojokoabeiegaa", sum := "7a2791003cfd78beb3be2615fbde90e1cfd4f8e0e5a0ed7fecd86e6ce0106659", func := "loop.example/g00797/laws.FnExactBytes", spec := "fnExactBytes", apart := false }
def FnExactBytesSaid : Prop := fnExactBytesRow.holds Try.pinned (OpenSpec.ofChange fnExactBytesSpec)

/-- ITS FALSE NEIGHBOUR: 'it returns false'. Refute it at one input. -/
def fnExactBytesWrong : ChangeSpec := { name := "fnExactBytes", fn := fun _ => fun
  | [d] => { results := [.lit (.bool false)], args := [d] }
  | _ => none }
def FnExactBytesWrongFalsely : Prop := fnExactBytesRow.holds Try.pinned (OpenSpec.ofChange fnExactBytesWrong)

/-- 'laws.FnExactPartOk': WHATEVER THE INPUT: true; the input reads as it did. -/
def fnExactPartOkSpec : ChangeSpec := { name := "fnExactPartOk", fn := fun _ => fun
  | [d] => { results := [.lit (.bool true)], args := [d] }
  | _ => none }
def fnExactPartOkRow : OpenClaim := { program := "ytnojokoabeiegaa", sum := "7a2791003cfd78beb3be2615fbde90e1cfd4f8e0e5a0ed7fecd86e6ce0106659", func := "loop.example/g00797/laws.FnExactPartOk", spec := "fnExactPartOk", apart := false }
def FnExactPartOkSaid : Prop := fnExactPartOkRow.holds Try.pinned (OpenSpec.ofChange fnExactPartOkSpec)

/-- ITS FALSE NEIGHBOUR: 'it returns false'. Refute it at one input. -/
def fnExactPartOkWrong : ChangeSpec := { name := "fnExactPartOk", fn := fun _ => fun
  | [d] => { results := [.lit (.bool false)], args := [d] }
  | _ => none }
def FnExactPartOkWrongFalsely : Prop := fnExactPartOkRow.holds Try.pinned (OpenSpec.ofChange fnExactPartOkWrong)

/-- 'laws.FnExactKeeping': WHATEVER THE INPUT: true; the input reads as it did. -/
def fnExactKeepingSpec : ChangeSpec := { name := "fnExactKeeping", fn := fun _ => fun
  | [d] => { results := [.lit (.bool true)], args := [d] }
  | _ => none }
def fnExactKeepingRow : OpenClaim := { program := "ytnojokoabeiegaa", sum := "7a2791003cfd78beb3be2615fbde90e1cfd4f8e0e5a0ed7fecd86e6ce0106659", func := "loop.example/g00797/laws.FnExactKeeping", spec := "fnExactKeeping", apart := false }
def FnExactKeepingSaid : Prop := fnExactKeepingRow.holds Try.pinned (OpenSpec.ofChange fnExactKeepingSpec)

/-- ITS FALSE NEIGHBOUR: 'it returns false'. Refute it at one input. -/
def fnExactKeepingWrong : ChangeSpec := { name := "fnExactKeeping", fn := fun _ => fun
  | [d] => { results := [.lit (.bool false)], args := [d] }
  | _ => none }
def FnExactKeepingWrongFalsely : Prop := fnExactKeepingRow.holds Try.pinned (OpenSpec.ofChange fnExactKeepingWrong)

/-- 'laws.FnExactPartCount': WHATEVER THE INPUT: true; the input reads as it did. -/
def fnExactPartCountSpec : ChangeSpec := { name := "fnExactPartCount", fn := fun _ => fun
  | [d1, d2] => { results := [.lit (.bool true)], args := [d1, d2] }
  | _ => none }
def fnExactPartCountRow : OpenClaim := { program := "ytnojokoabeiegaa", sum := "7a2791003cfd78beb3be2615fbde90e1cfd4f8e0e5a0ed7fecd86e6ce0106659", func := "loop.example/g00797/laws.FnExactPartCount", spec := "fnExactPartCount", apart := false }
def FnExactPartCountSaid : Prop := fnExactPartCountRow.holds Try.pinned (OpenSpec.ofChange fnExactPartCountSpec)

/-- ITS FALSE NEIGHBOUR: 'it returns false'. Refute it at one input. -/
def fnExactPartCountWrong : ChangeSpec := { name := "fnExactPartCount", fn := fun _ => fun
  | [d1, d2] => { results := [.lit (.bool false)], args := [d1, d2] }
  | _ => none }
def FnExactPartCountWrongFalsely : Prop := fnExactPartCountRow.holds Try.pinned (OpenSpec.ofChange fnExactPartCountWrong)

/-- 'laws.FnExactShow': WHATEVER THE INPUT: true; the input reads as it did. -/
def fnExactShowSpec : ChangeSpec := { name := "fnExactShow", fn := fun _ => fun
  | [d] => { results := [.lit (.bool true)], args := [d] }
  | _ => none }
def fnExactShowRow : OpenClaim := { program := "ytnojokoabeiegaa", sum := "7a2791003cfd78beb3be2615fbde90e1cfd4f8e0e5a0ed7fecd86e6ce0106659", func := "loop.example/g00797/laws.FnExactShow", spec := "fnExactShow", apart := false }
def FnExactShowSaid : Prop := fnExactShowRow.holds Try.pinned (OpenSpec.ofChange fnExactShowSpec)

/-- ITS FALSE NEIGHBOUR: 'it returns false'. Refute it at one input. -/
def fnExactShowWrong : ChangeSpec := { name := "fnExactShow", fn := fun _ => fun
  | [d] => { results := [.lit (.bool false)], args := [d] }
  | _ => none }
def FnExactShowWrongFalsely : Prop := fnExactShowRow.holds Try.pinned (OpenSpec.ofChange fnExactShowWrong)

/- THE SECOND FORM. 'bulk': how many values and letters a reading holds, each counted each time it is reached (what is shared counts as often as it is met; a slice's spare places count too). A statement '..UptoSaid' is the law's where the arguments, and the package variables that the reading takes, are together of bulk at most 1048576: NARROWER than '..Said'. Prove '..Said' where nothing that the law and all that it calls make is longer than what came in: it says more and counts as full. Else prove '..UptoSaid'. A law counts once. -/
mutual
def uptoBulk {H : Type} : DataW H → Nat
  | .lit (.string bytes) => bytes.length + 1
  | .lit _ => 1
  | .nil => 1
  | .ptr d => uptoBulk d + 1
  | .slice elems spare => uptoBulkAll elems + uptoBulkAll spare + 1
  | .agg parts => uptoBulkAll parts + 1
  | .iface _ d => uptoBulk d + 1
  | .map entries => uptoBulkEntries entries + 1
  | .held _ => 1
def uptoBulkAll {H : Type} : List (DataW H) → Nat
  | [] => 0
  | d :: r => uptoBulk d + uptoBulkAll r
def uptoBulkEntries {H : Type} : List (Lit × DataW H) → Nat
  | [] => 0
  | x :: r => uptoBulkEntry x + uptoBulkEntries r
def uptoBulkEntry {H : Type} : Lit × DataW H → Nat
  | (.string bytes, d) => bytes.length + uptoBulk d + 1
  | (_, d) => uptoBulk d + 1
 end
def uptoSmall : (H : Type) → List (DataW H) → Bool := fun _ ds => decide (uptoBulkAll ds ≤ 1048576)
def OpenSpec.upto (s : _root_.Go.ChangeSpec) : _root_.Go.OpenSpec := { _root_.Go.OpenSpec.ofChange s with cond := some uptoSmall }

/-- 'laws.FnExactConstants', WHERE WHAT IT READS IS OF BULK AT MOST 1048576: true; the input reads as it did. -/
def fnExactConstantsUptoRow : OpenClaim := { program := "ytnojokoabeiegaa", sum := "7a2791003cfd78beb3be2615fbde90e1cfd4f8e0e5a0ed7fecd86e6ce0106659", func := "loop.example/g00797/laws.FnExactConstants", spec := "fnExactConstants", apart := false, narrowed := true }
def FnExactConstantsUptoSaid : Prop := fnExactConstantsUptoRow.holds Try.pinned (OpenSpec.upto fnExactConstantsSpec)

/-- 'laws.FnExactSignOk', WHERE WHAT IT READS IS OF BULK AT MOST 1048576: true; the input reads as it did. -/
def fnExactSignOkUptoRow : OpenClaim := { program := "ytnojokoabeiegaa", sum := "7a2791003cfd78beb3be2615fbde90e1cfd4f8e0e5a0ed7fecd86e6ce0106659", func := "loop.example/g00797/laws.FnExactSignOk", spec := "fnExactSignOk", apart := false, narrowed := true }
def FnExactSignOkUptoSaid : Prop := fnExactSignOkUptoRow.holds Try.pinned (OpenSpec.upto fnExactSignOkSpec)

/-- 'laws.FnExactFnv', WHERE WHAT IT READS IS OF BULK AT MOST 1048576: true; the input reads as it did. -/
def fnExactFnvUptoRow : OpenClaim := { program := "ytnojokoabeiegaa", sum := "7a2791003cfd78beb3be2615fbde90e1cfd4f8e0e5a0ed7fecd86e6ce0106659", func := "loop.example/g00797/laws.FnExactFnv", spec := "fnExactFnv", apart := false, narrowed := true }
def FnExactFnvUptoSaid : Prop := fnExactFnvUptoRow.holds Try.pinned (OpenSpec.upto fnExactFnvSpec)

/-- 'laws.FnExactNameOk', WHERE WHAT IT READS IS OF BULK AT MOST 1048576: true; the input reads as it did. -/
def fnExactNameOkUptoRow : OpenClaim := { program := "ytnojokoabeiegaa", sum := "7a2791003cfd78beb3be2615fbde90e1cfd4f8e0e5a0ed7fecd86e6ce0106659", func := "loop.example/g00797/laws.FnExactNameOk", spec := "fnExactNameOk", apart := false, narrowed := true }
def FnExactNameOkUptoSaid : Prop := fnExactNameOkUptoRow.holds Try.pinned (OpenSpec.upto fnExactNameOkSpec)

/-- 'laws.FnExactSignsOk', WHERE WHAT IT READS IS OF BULK AT MOST 1048576: true; the input reads as it did. -/
def fnExactSignsOkUptoRow : OpenClaim := { program := "ytnojokoabeiegaa", sum := "7a2791003cfd78beb3be2615fbde90e1cfd4f8e0e5a0ed7fecd86e6ce0106659", func := "loop.example/g00797/laws.FnExactSignsOk", spec := "fnExactSignsOk", apart := false, narrowed := true }
def FnExactSignsOkUptoSaid : Prop := fnExactSignsOkUptoRow.holds Try.pinned (OpenSpec.upto fnExactSignsOkSpec)

/-- 'laws.FnExactTextOk', WHERE WHAT IT READS IS OF BULK AT MOST 1048576: true; the input reads as it did. -/
def fnExactTextOkUptoRow : OpenClaim := { program := "ytnojokoabeiegaa", sum := "7a2791003cfd78beb3be2615fbde90e1cfd4f8e0e5a0ed7fecd86e6ce0106659", func := "loop.example/g00797/laws.FnExactTextOk", spec := "fnExactTextOk", apart := false, narrowed := true }
def FnExactTextOkUptoSaid : Prop := fnExactTextOkUptoRow.holds Try.pinned (OpenSpec.upto fnExactTextOkSpec)

/-- 'laws.FnExactSignsSame', WHERE WHAT IT READS IS OF BULK AT MOST 1048576: true; the input reads as it did. -/
def fnExactSignsSameUptoRow : OpenClaim := { program := "ytnojokoabeiegaa", sum := "7a2791003cfd78beb3be2615fbde90e1cfd4f8e0e5a0ed7fecd86e6ce0106659", func := "loop.example/g00797/laws.FnExactSignsSame", spec := "fnExactSignsSame", apart := false, narrowed := true }
def FnExactSignsSameUptoSaid : Prop := fnExactSignsSameUptoRow.holds Try.pinned (OpenSpec.upto fnExactSignsSameSpec)

/-- 'laws.FnExactBytes', WHERE WHAT IT READS IS OF BULK AT MOST 1048576: true; the input reads as it did. -/
def fnExactBytesUptoRow : OpenClaim := { program := "ytnojokoabeiegaa", sum := "7a2791003cfd78beb3be2615fbde90e1cfd4f8e0e5a0ed7fecd86e6ce0106659", func := "loop.example/g00797/laws.FnExactBytes", spec := "fnExactBytes", apart := false, narrowed := true }
def FnExactBytesUptoSaid : Prop := fnExactBytesUptoRow.holds Try.pinned (OpenSpec.upto fnExactBytesSpec)

/-- 'laws.FnExactPartOk', WHERE WHAT IT READS IS OF BULK AT MOST 1048576: true; the input reads as it did. -/
def fnExactPartOkUptoRow : OpenClaim := { program := "ytnojokoabeiegaa", sum := "7a2791003cfd78beb3be2615fbde90e1cfd4f8e0e5a0ed7fecd86e6ce0106659", func := "loop.example/g00797/laws.FnExactPartOk", spec := "fnExactPartOk", apart := false, narrowed := true }
def FnExactPartOkUptoSaid : Prop := fnExactPartOkUptoRow.holds Try.pinned (OpenSpec.upto fnExactPartOkSpec)

/-- 'laws.FnExactKeeping', WHERE WHAT IT READS IS OF BULK AT MOST 1048576: true; the input reads as it did. -/
def fnExactKeepingUptoRow : OpenClaim := { program := "ytnojokoabeiegaa", sum := "7a2791003cfd78beb3be2615fbde90e1cfd4f8e0e5a0ed7fecd86e6ce0106659", func := "loop.example/g00797/laws.FnExactKeeping", spec := "fnExactKeeping", apart := false, narrowed := true }
def FnExactKeepingUptoSaid : Prop := fnExactKeepingUptoRow.holds Try.pinned (OpenSpec.upto fnExactKeepingSpec)

/-- 'laws.FnExactPartCount', WHERE WHAT IT READS IS OF BULK AT MOST 1048576: true; the input reads as it did. -/
def fnExactPartCountUptoRow : OpenClaim := { program := "ytnojokoabeiegaa", sum := "7a2791003cfd78beb3be2615fbde90e1cfd4f8e0e5a0ed7fecd86e6ce0106659", func := "loop.example/g00797/laws.FnExactPartCount", spec := "fnExactPartCount", apart := false, narrowed := true }
def FnExactPartCountUptoSaid : Prop := fnExactPartCountUptoRow.holds Try.pinned (OpenSpec.upto fnExactPartCountSpec)

/-- 'laws.FnExactShow', WHERE WHAT IT READS IS OF BULK AT MOST 1048576: true; the input reads as it did. -/
def fnExactShowUptoRow : OpenClaim := { program := "ytnojokoabeiegaa", sum := "7a2791003cfd78beb3be2615fbde90e1cfd4f8e0e5a0ed7fecd86e6ce0106659", func := "loop.example/g00797/laws.FnExactShow", spec := "fnExactShow", apart := false, narrowed := true }
def FnExactShowUptoSaid : Prop := fnExactShowUptoRow.holds Try.pinned (OpenSpec.upto fnExactShowSpec)

end Rows
end Go.Proofs.Ytnojokoabeiegaa
