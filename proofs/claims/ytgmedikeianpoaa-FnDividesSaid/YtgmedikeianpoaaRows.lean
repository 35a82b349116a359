/-
  No cell of these rows narrows 'for every input' (looked for: loops, veiled, ifaces, maps, wideKeys, modest, calm, conditions, laid).
  DERIVED. THE GIVEN ROWS OF THIS SEAT. 12 by the template 'for every input the law returns true; each argument reads behind the call as it read before'; 0 by the template 'total and deterministic' (their statements: YtgmedikeianpoaaTotals.lean).
  GIVEN WITH THE SEED: the statements are not yours to turn. If you find one false, say at which input.
  Laid BY PROGRAM, IN A SANDBOX (cutbox-rows.mjs): the forced cells as the released guide's own fill.sh prints them over the translation 5f0f21d4587ea1b9… (all of the seat's roots in one cut). By AI agents, Wed Nov 11 2026. No macro, syntax, notation, axiom, sorry.
-/
import Derived.Test.YtgmedikeianpoaaChecked
import GoSem.Claim
import GoSem.ClaimJoined
import GoSem.ClaimMapViews
import Derived.JoinedTies
import Derived.KernelRfl
namespace Go.Proofs.Ytgmedikeianpoaa
/- THE CELL 'sum', in the pinned program and in every row, IS THE sha256 OF THE DUMP (.gsa) THAT YtgmedikeianpoaaProg.lean LOADS. Nothing in Lean hashes anything: it is a label: what it is worth is what the hold of that sum in a sandbox is worth. -/
noncomputable def Try.pinned : Pinned := { name := "ytgmedikeianpoaa", sum := "5f0f21d4587ea1b9dafb9f2298e0f37d9c34b9627d09e575325313f7c22c2c4e", checked := Try.checked }
namespace Rows
def none {H : Type} : Left H := { results := [], args := [] }

/-- 'laws.FnExactConstants': WHATEVER THE INPUT: true; the input reads as it did. -/
def fnExactConstantsSpec : ChangeSpec := { name := "fnExactConstants", fn := fun _ => fun
  | [] => { results := [.lit (.bool true)], args := [] }
  | _ => none }
def fnExactConstantsRow : OpenClaim := { program := "ytgmedikeianpoaa", sum := "5f0f21d4587ea1b9dafb9f2298e0f37d9c34b9627d09e575325313f7c22c2c4e", func := "loop.example/g00112/laws.FnExactConstants", spec := "fnExactConstants", apart := false }
def FnExactConstantsSaid : Prop := fnExactConstantsRow.holds Try.pinned (OpenSpec.ofChange fnExactConstantsSpec)

/-- ITS FALSE NEIGHBOUR: 'it returns false'. Refute it at one input. -/
def fnExactConstantsWrong : ChangeSpec := { name := "fnExactConstants", fn := fun _ => fun
  | [] => { results := [.lit (.bool false)], args := [] }
  | _ => none }
def FnExactConstantsWrongFalsely : Prop := fnExactConstantsRow.holds Try.pinned (OpenSpec.ofChange fnExactConstantsWrong)

/-- 'laws.FnExactClamp': WHATEVER THE INPUT: true; the input reads as it did. -/
def fnExactClampSpec : ChangeSpec := { name := "fnExactClamp", fn := fun _ => fun
  | [d1, d2] => { results := [.lit (.bool true)], args := [d1, d2] }
  | _ => none }
def fnExactClampRow : OpenClaim := { program := "ytgmedikeianpoaa", sum := "5f0f21d4587ea1b9dafb9f2298e0f37d9c34b9627d09e575325313f7c22c2c4e", func := "loop.example/g00112/laws.FnExactClamp", spec := "fnExactClamp", apart := false }
def FnExactClampSaid : Prop := fnExactClampRow.holds Try.pinned (OpenSpec.ofChange fnExactClampSpec)

/-- ITS FALSE NEIGHBOUR: 'it returns false'. Refute it at one input. -/
def fnExactClampWrong : ChangeSpec := { name := "fnExactClamp", fn := fun _ => fun
  | [d1, d2] => { results := [.lit (.bool false)], args := [d1, d2] }
  | _ => none }
def FnExactClampWrongFalsely : Prop := fnExactClampRow.holds Try.pinned (OpenSpec.ofChange fnExactClampWrong)

/-- 'laws.FnExactFloorDiv': WHATEVER THE INPUT: true; the input reads as it did. -/
def fnExactFloorDivSpec : ChangeSpec := { name := "fnExactFloorDiv", fn := fun _ => fun
  | [d1, d2] => { results := [.lit (.bool true)], args := [d1, d2] }
  | _ => none }
def fnExactFloorDivRow : OpenClaim := { program := "ytgmedikeianpoaa", sum := "5f0f21d4587ea1b9dafb9f2298e0f37d9c34b9627d09e575325313f7c22c2c4e", func := "loop.example/g00112/laws.FnExactFloorDiv", spec := "fnExactFloorDiv", apart := false }
def FnExactFloorDivSaid : Prop := fnExactFloorDivRow.holds Try.pinned (OpenSpec.ofChange fnExactFloorDivSpec)

/-- ITS FALSE NEIGHBOUR: 'it returns false'. Refute it at one input. -/
def fnExactFloorDivWrong : ChangeSpec := { name := "fnExactFloorDiv", fn := fun _ => fun
  | [d1, d2] => { results := [.lit (.bool false)], args := [d1, d2] }
  | _ => none }
def FnExactFloorDivWrongFalsely : Prop := fnExactFloorDivRow.holds Try.pinned (OpenSpec.ofChange fnExactFloorDivWrong)

/-- 'laws.FnExactExp': WHATEVER THE INPUT: true; the input reads as it did. -/
def fnExactExpSpec : ChangeSpec := { name := "fnExactExp", fn := fun _ => fun
  | [d] => { results := [.lit (.bool true)], args := [d] }
  | _ => none }
def fnExactExpRow : OpenClaim := { program := "ytgmedikeianpoaa", sum := "5f0f21d4587ea1b9dafb9f2298e0f37d9c34b9627d09e575325313f7c22c2c4e", func := "loop.example/g00112/laws.FnExactExp", spec := "fnExactExp", apart := false }
def FnExactExpSaid : Prop := fnExactExpRow.holds Try.pinned (OpenSpec.ofChange fnExactExpSpec)

/-- ITS FALSE NEIGHBOUR: 'it returns false'. Refute it at one input. -/
def fnExactExpWrong : ChangeSpec := { name := "fnExactExp", fn := fun _ => fun
  | [d] => { results := [.lit (.bool false)], args := [d] }
  | _ => none }
def FnExactExpWrongFalsely : Prop := fnExactExpRow.holds Try.pinned (OpenSpec.ofChange fnExactExpWrong)

/-- 'laws.FnExactRoot': WHATEVER THE INPUT: true; the input reads as it did. -/
def fnExactRootSpec : ChangeSpec := { name := "fnExactRoot", fn := fun _ => fun
  | [d] => { results := [.lit (.bool true)], args := [d] }
  | _ => none }
def fnExactRootRow : OpenClaim := { program := "ytgmedikeianpoaa", sum := "5f0f21d4587ea1b9dafb9f2298e0f37d9c34b9627d09e575325313f7c22c2c4e", func := "loop.example/g00112/laws.FnExactRoot", spec := "fnExactRoot", apart := false }
def FnExactRootSaid : Prop := fnExactRootRow.holds Try.pinned (OpenSpec.ofChange fnExactRootSpec)

/-- ITS FALSE NEIGHBOUR: 'it returns false'. Refute it at one input. -/
def fnExactRootWrong : ChangeSpec := { name := "fnExactRoot", fn := fun _ => fun
  | [d] => { results := [.lit (.bool false)], args := [d] }
  | _ => none }
def FnExactRootWrongFalsely : Prop := fnExactRootRow.holds Try.pinned (OpenSpec.ofChange fnExactRootWrong)

/-- 'laws.FnExactMulShift': WHATEVER THE INPUT: true; the input reads as it did. -/
def fnExactMulShiftSpec : ChangeSpec := { name := "fnExactMulShift", fn := fun _ => fun
  | [d1, d2, d3] => { results := [.lit (.bool true)], args := [d1, d2, d3] }
  | _ => none }
def fnExactMulShiftRow : OpenClaim := { program := "ytgmedikeianpoaa", sum := "5f0f21d4587ea1b9dafb9f2298e0f37d9c34b9627d09e575325313f7c22c2c4e", func := "loop.example/g00112/laws.FnExactMulShift", spec := "fnExactMulShift", apart := false }
def FnExactMulShiftSaid : Prop := fnExactMulShiftRow.holds Try.pinned (OpenSpec.ofChange fnExactMulShiftSpec)

/-- ITS FALSE NEIGHBOUR: 'it returns false'. Refute it at one input. -/
def fnExactMulShiftWrong : ChangeSpec := { name := "fnExactMulShift", fn := fun _ => fun
  | [d1, d2, d3] => { results := [.lit (.bool false)], args := [d1, d2, d3] }
  | _ => none }
def FnExactMulShiftWrongFalsely : Prop := fnExactMulShiftRow.holds Try.pinned (OpenSpec.ofChange fnExactMulShiftWrong)

/-- 'laws.FnExactBend': WHATEVER THE INPUT: true; the input reads as it did. -/
def fnExactBendSpec : ChangeSpec := { name := "fnExactBend", fn := fun _ => fun
  | [d] => { results := [.lit (.bool true)], args := [d] }
  | _ => none }
def fnExactBendRow : OpenClaim := { program := "ytgmedikeianpoaa", sum := "5f0f21d4587ea1b9dafb9f2298e0f37d9c34b9627d09e575325313f7c22c2c4e", func := "loop.example/g00112/laws.FnExactBend", spec := "fnExactBend", apart := false }
def FnExactBendSaid : Prop := fnExactBendRow.holds Try.pinned (OpenSpec.ofChange fnExactBendSpec)

/-- ITS FALSE NEIGHBOUR: 'it returns false'. Refute it at one input. -/
def fnExactBendWrong : ChangeSpec := { name := "fnExactBend", fn := fun _ => fun
  | [d] => { results := [.lit (.bool false)], args := [d] }
  | _ => none }
def FnExactBendWrongFalsely : Prop := fnExactBendRow.holds Try.pinned (OpenSpec.ofChange fnExactBendWrong)

/-- 'laws.FnExactBits': WHATEVER THE INPUT: true; the input reads as it did. -/
def fnExactBitsSpec : ChangeSpec := { name := "fnExactBits", fn := fun _ => fun
  | [d] => { results := [.lit (.bool true)], args := [d] }
  | _ => none }
def fnExactBitsRow : OpenClaim := { program := "ytgmedikeianpoaa", sum := "5f0f21d4587ea1b9dafb9f2298e0f37d9c34b9627d09e575325313f7c22c2c4e", func := "loop.example/g00112/laws.FnExactBits", spec := "fnExactBits", apart := false }
def FnExactBitsSaid : Prop := fnExactBitsRow.holds Try.pinned (OpenSpec.ofChange fnExactBitsSpec)

/-- ITS FALSE NEIGHBOUR: 'it returns false'. Refute it at one input. -/
def fnExactBitsWrong : ChangeSpec := { name := "fnExactBits", fn := fun _ => fun
  | [d] => { results := [.lit (.bool false)], args := [d] }
  | _ => none }
def FnExactBitsWrongFalsely : Prop := fnExactBitsRow.holds Try.pinned (OpenSpec.ofChange fnExactBitsWrong)

/-- 'laws.FnExp': WHATEVER THE INPUT: true; the input reads as it did. -/
def fnExpSpec : ChangeSpec := { name := "fnExp", fn := fun _ => fun
  | [d] => { results := [.lit (.bool true)], args := [d] }
  | _ => none }
def fnExpRow : OpenClaim := { program := "ytgmedikeianpoaa", sum := "5f0f21d4587ea1b9dafb9f2298e0f37d9c34b9627d09e575325313f7c22c2c4e", func := "loop.example/g00112/laws.FnExp", spec := "fnExp", apart := false }
def FnExpSaid : Prop := fnExpRow.holds Try.pinned (OpenSpec.ofChange fnExpSpec)

/-- ITS FALSE NEIGHBOUR: 'it returns false'. Refute it at one input. -/
def fnExpWrong : ChangeSpec := { name := "fnExp", fn := fun _ => fun
  | [d] => { results := [.lit (.bool false)], args := [d] }
  | _ => none }
def FnExpWrongFalsely : Prop := fnExpRow.holds Try.pinned (OpenSpec.ofChange fnExpWrong)

/-- 'laws.FnExactTurn': WHATEVER THE INPUT: true; the input reads as it did. -/
def fnExactTurnSpec : ChangeSpec := { name := "fnExactTurn", fn := fun _ => fun
  | [d1, d2, d3, d4] => { results := [.lit (.bool true)], args := [d1, d2, d3, d4] }
  | _ => none }
def fnExactTurnRow : OpenClaim := { program := "ytgmedikeianpoaa", sum := "5f0f21d4587ea1b9dafb9f2298e0f37d9c34b9627d09e575325313f7c22c2c4e", func := "loop.example/g00112/laws.FnExactTurn", spec := "fnExactTurn", apart := false }
def FnExactTurnSaid : Prop := fnExactTurnRow.holds Try.pinned (OpenSpec.ofChange fnExactTurnSpec)

/-- ITS FALSE NEIGHBOUR: 'it returns false'. Refute it at one input. -/
def fnExactTurnWrong : ChangeSpec := { name := "fnExactTurn", fn := fun _ => fun
  | [d1, d2, d3, d4] => { results := [.lit (.bool false)], args := [d1, d2, d3, d4] }
  | _ => none }
def FnExactTurnWrongFalsely : Prop := fnExactTurnRow.holds Try.pinned (OpenSpec.ofChange fnExactTurnWrong)

/-- 'laws.FnBits': WHATEVER THE INPUT: true; the input reads as it did. -/
def fnBitsSpec : ChangeSpec := { name := "fnBits", fn := fun _ => fun
  | [d] => { results := [.lit (.bool true)], args := [d] }
  | _ => none }
def fnBitsRow : OpenClaim := { program := "ytgmedikeianpoaa", sum := "5f0f21d4587ea1b9dafb9f2298e0f37d9c34b9627d09e575325313f7c22c2c4e", func := "loop.example/g00112/laws.FnBits", spec := "fnBits", apart := false }
def FnBitsSaid : Prop := fnBitsRow.holds Try.pinned (OpenSpec.ofChange fnBitsSpec)

/-- ITS FALSE NEIGHBOUR: 'it returns false'. Refute it at one input. -/
def fnBitsWrong : ChangeSpec := { name := "fnBits", fn := fun _ => fun
  | [d] => { results := [.lit (.bool false)], args := [d] }
  | _ => none }
def FnBitsWrongFalsely : Prop := fnBitsRow.holds Try.pinned (OpenSpec.ofChange fnBitsWrong)

/-- 'laws.FnDivides': WHATEVER THE INPUT: true; the input reads as it did. -/
def fnDividesSpec : ChangeSpec := { name := "fnDivides", fn := fun _ => fun
  | [d] => { results := [.lit (.bool true)], args := [d] }
  | _ => none }
def fnDividesRow : OpenClaim := { program := "ytgmedikeianpoaa", sum := "5f0f21d4587ea1b9dafb9f2298e0f37d9c34b9627d09e575325313f7c22c2c4e", func := "loop.example/g00112/laws.FnDivides", spec := "fnDivides", apart := false }
def FnDividesSaid : Prop := fnDividesRow.holds Try.pinned (OpenSpec.ofChange fnDividesSpec)

/-- ITS FALSE NEIGHBOUR: 'it returns false'. Refute it at one input. -/
def fnDividesWrong : ChangeSpec := { name := "fnDivides", fn := fun _ => fun
  | [d] => { results := [.lit (.bool false)], args := [d] }
  | _ => none }
def FnDividesWrongFalsely : Prop := fnDividesRow.holds Try.pinned (OpenSpec.ofChange fnDividesWrong)

/- THE SECOND FORM. 'bulk': how many values and letters a reading holds, each counted each time it is reached (what is shared counts as often as it is met; a slice's spare places count too). A statement '..UptoSaid' is the law's where the arguments, and the package variables that the reading takes, are together of bulk at most 1048576: NARROWER than '..Said'. Prove '..Said' where nothing that the law and all that it calls make is longer than what came in: it says more and counts as full. Else prove '..UptoSaid'. A law counts once. -/
mutual
def uptoBulk {H : Type} : DataW H → Nat
  | .lit (.string bytes) => bytes.length + 1
  | .lit _ => 1
  | .nil => 1
  | .ptr d => uptoBulk d + 1
  | .slice elems spare => uptoBulkAll elems + uptoBulkAll spare + 1
  | .agg parts => uptoBulkAll parts + 1
  | .iface _ d => uptoBulk d + 1
  | .map entries => uptoBulkEntries entries + 1
  | .held _ => 1
def uptoBulkAll {H : Type} : List (DataW H) → Nat
  | [] => 0
  | d :: r => uptoBulk d + uptoBulkAll r
def uptoBulkEntries {H : Type} : List (Lit × DataW H) → Nat
  | [] => 0
  | x :: r => uptoBulkEntry x + uptoBulkEntries r
def uptoBulkEntry {H : Type} : Lit × DataW H → Nat
  | (.string bytes, d) => bytes.length + uptoBulk d + 1
  | (_, d) => uptoBulk d + 1
 end
def uptoSmall : (H : Type) → List (DataW H) → Bool := fun _ ds => decide (uptoBulkAll ds ≤ 1048576)
def OpenSpec.upto (s : _root_.Go.ChangeSpec) : _root_.Go.OpenSpec := { _root_.Go.OpenSpec.ofChange s with cond := some uptoSmall }

/-- 'laws.FnExactConstants', WHERE WHAT IT READS IS OF BULK AT MOST 1048576: true; the input reads as it did. -/
def fnExactConstantsUptoRow : OpenClaim := { program := "ytgmedikeianpoaa", sum := "5f0f21d4587ea1b9dafb9f2298e0f37d9c34b9627d09e575325313f7c22c2c4e", func := "loop.example/g00112/laws.FnExactConstants", spec := "fnExactConstants", apart := false, narrowed := true }
def FnExactConstantsUptoSaid : Prop := fnExactConstantsUptoRow.holds Try.pinned (OpenSpec.upto fnExactConstantsSpec)

/-- 'laws.FnExactClamp', WHERE WHAT IT READS IS OF BULK AT MOST 1048576: true; the input reads as it did. -/
def fnExactClampUptoRow : OpenClaim := { program := "ytgmedikeianpoaa", sum := "5f0f21d4587ea1b9dafb9f2298e0f37d9c34b9627d09e575325313f7c22c2c4e", func := "loop.example/g00112/laws.FnExactClamp", spec := "fnExactClamp", apart := false, narrowed := true }
def FnExactClampUptoSaid : Prop := fnExactClampUptoRow.holds Try.pinned (OpenSpec.upto fnExactClampSpec)

/-- 'laws.FnExactFloorDiv', WHERE WHAT IT READS IS OF BULK AT MOST 1048576: true; the input reads as it did. -/
def fnExactFloorDivUptoRow : OpenClaim := { program := "ytgmedikeianpoaa", sum := "5f0f21d4587ea1b9dafb9f2298e0f37d9c34b9627d09e575325313f7c22c2c4e", func := "loop.example/g00112/laws.FnExactFloorDiv", spec := "fnExactFloorDiv", apart := false, narrowed := true }
def FnExactFloorDivUptoSaid : Prop := fnExactFloorDivUptoRow.holds Try.pinned (OpenSpec.upto fnExactFloorDivSpec)

/-- 'laws.FnExactExp', WHERE WHAT IT READS IS OF BULK AT MOST 1048576: true; the input reads as it did. -/
def fnExactExpUptoRow : OpenClaim := { program := "ytgmedikeianpoaa", sum := "5f0f21d4587ea1b9dafb9f2298e0f37d9c34b9627d09e575325313f7c22c2c4e", func := "loop.example/g00112/laws.FnExactExp", spec := "fnExactExp", apart := false, narrowed := true }
def FnExactExpUptoSaid : Prop := fnExactExpUptoRow.holds Try.pinned (OpenSpec.upto fnExactExpSpec)

/-- 'laws.FnExactRoot', WHERE WHAT IT READS IS OF BULK AT MOST 1048576: true; the input reads as it did. -/
def fnExactRootUptoRow : OpenClaim := { program := "ytgmedikeianpoaa", sum := "5f0f21d4587ea1b9dafb9f2298e0f37d9c34b9627d09e575325313f7c22c2c4e", func := "loop.example/g00112/laws.FnExactRoot", spec := "fnExactRoot", apart := false, narrowed := true }
def FnExactRootUptoSaid : Prop := fnExactRootUptoRow.holds Try.pinned (OpenSpec.upto fnExactRootSpec)

/-- 'laws.FnExactMulShift', WHERE WHAT IT READS IS OF BULK AT MOST 1048576: true; the input reads as it did. -/
def fnExactMulShiftUptoRow : OpenClaim := { program := "ytgmedikeianpoaa", sum := "5f0f21d4587ea1b9dafb9f2298e0f37d9c34b9627d09e575325313f7c22c2c4e", func := "loop.example/g00112/laws.FnExactMulShift", spec := "fnExactMulShift", apart := false, narrowed := true }
def FnExactMulShiftUptoSaid : Prop := fnExactMulShiftUptoRow.holds Try.pinned (OpenSpec.upto fnExactMulShiftSpec)

/-- 'laws.FnExactBend', WHERE WHAT IT READS IS OF BULK AT MOST 1048576: true; the input reads as it did. -/
def fnExactBendUptoRow : OpenClaim := { program := "ytgmedikeianpoaa", sum := "5f0f21d4587ea1b9dafb9f2298e0f37d9c34b9627d09e575325313f7c22c2c4e", func := "loop.example/g00112/laws.FnExactBend", spec := "fnExactBend", apart := false, narrowed := true }
def FnExactBendUptoSaid : Prop := fnExactBendUptoRow.holds Try.pinned (OpenSpec.upto fnExactBendSpec)

/-- 'laws.FnExactBits', WHERE WHAT IT READS IS OF BULK AT MOST 1048576: true; the input reads as it did. -/
def fnExactBitsUptoRow : OpenClaim := { program := "ytgmedikeianpoaa", sum := "5f0f21d4587ea1b9dafb9f2298e0f37d9c34b9627d09e575325313f7c22c2c4e", func := "loop.example/g00112/laws.FnExactBits", spec := "fnExactBits", apart := false, narrowed := true }
def FnExactBitsUptoSaid : Prop := fnExactBitsUptoRow.holds Try.pinned (OpenSpec.upto fnExactBitsSpec)

/-- 'laws.FnExp', WHERE WHAT IT READS IS OF BULK AT MOST 1048576: true; the input reads as it did. -/
def fnExpUptoRow : OpenClaim := { program := "ytgmedikeianpoaa", sum := "5f0f21d4587ea1b9dafb9f2298e0f37d9c34b9627d09e575325313f7c22c2c4e", func := "loop.example/g00112/laws.FnExp", spec := "fnExp", apart := false, narrowed := true }
def FnExpUptoSaid : Prop := fnExpUptoRow.holds Try.pinned (OpenSpec.upto fnExpSpec)

/-- 'laws.FnExactTurn', WHERE WHAT IT READS IS OF BULK AT MOST 1048576: true; the input reads as it did. -/
def fnExactTurnUptoRow : OpenClaim := { program := "ytgmedikeianpoaa", sum := "5f0f21d4587ea1b9dafb9f2298e0f37d9c34b9627d09e575325313f7c22c2c4e", func := "loop.example/g00112/laws.FnExactTurn", spec := "fnExactTurn", apart := false, narrowed := true }
def FnExactTurnUptoSaid : Prop := fnExactTurnUptoRow.holds Try.pinned (OpenSpec.upto fnExactTurnSpec)

/-- 'laws.FnBits', WHERE WHAT IT READS IS OF BULK AT MOST 1048576: true; the input reads as it did. -/
def fnBitsUptoRow : OpenClaim := { program := "ytgmedikeianpoaa", sum := "5f0f21d4587ea1b9dafb9f2298e0f37d9c34b9627d09e575325313f7c22c2c4e", func := "loop.example/g00112/laws.FnBits", spec := "fnBits", apart := false, narrowed := true }
def FnBitsUptoSaid : Prop := fnBitsUptoRow.holds Try.pinned (OpenSpec.upto fnBitsSpec)

/-- 'laws.FnDivides', WHERE WHAT IT READS IS OF BULK AT MOST 1048576: true; the input reads as it did. -/
def fnDividesUptoRow : OpenClaim := { program := "ytgmedikeianpoaa", sum := "5f0f21d4587ea1b9dafb9f2298e0f37d9c34b9627d09e575325313f7c22c2c4e", func := "loop.example/g00112/laws.FnDivides", spec := "fnDivides", apart := false, narrowed := true }
def FnDividesUptoSaid : Prop := fnDividesUptoRow.holds Try.pinned (OpenSpec.upto fnDividesSpec)

end Rows
end Go.Proofs.Ytgmedikeianpoaa
