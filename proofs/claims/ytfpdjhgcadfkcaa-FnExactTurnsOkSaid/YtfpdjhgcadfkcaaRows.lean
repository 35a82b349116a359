/-
  No cell of these rows narrows 'for every input' (looked for: loops, veiled, ifaces, maps, wideKeys, modest, calm, conditions, laid).
  DERIVED. THE GIVEN ROWS OF THIS SEAT. 12 by the template 'for every input the law returns true; each argument reads behind the call as it read before'; 0 by the template 'total and deterministic' (their statements: YtfpdjhgcadfkcaaTotals.lean).
  GIVEN WITH THE SEED: the statements are not yours to turn. If you find one false, say at which input.
  Laid BY PROGRAM, IN A SANDBOX (cutbox-rows.mjs): the forced cells as the released guide's own fill.sh prints them over the translation 1baa51a3c28962b8… (all of the seat's roots in one cut). By AI agents, Wed Nov 11 2026. No macro, syntax, notation, axiom, sorry.
-/
import Derived.Test.YtfpdjhgcadfkcaaChecked
import GoSem.Claim
import GoSem.ClaimJoined
import GoSem.ClaimMapViews
import Derived.JoinedTies
import Derived.KernelRfl
namespace Go.Proofs.Ytfpdjhgcadfkcaa
/- THE CELL 'sum', in the pinned program and in every row, IS THE sha256 OF THE DUMP (.gsa) THAT YtfpdjhgcadfkcaaProg.lean LOADS. Nothing in Lean hashes anything: it is a label: what it is worth is what the hold of that sum in a sandbox is worth. -/
noncomputable def Try.pinned : Pinned := { name := "ytfpdjhgcadfkcaa", sum := "1baa51a3c28962b8e7abccec98d00f2b8856b804993c904da4e76902c5b4a821", checked := Try.checked }
namespace Rows
def none {H : Type} : Left H := { results := [], args := [] }

/-- 'laws.FnExactPackNibbles': WHATEVER THE INPUT: true; the input reads as it did. -/
def fnExactPackNibblesSpec : ChangeSpec := { name := "fnExactPackNibbles", fn := fun _ => fun
  | [d] => { results := [.lit (.bool true)], args := [d] }
  | _ => none }
def fnExactPackNibblesRow : OpenClaim := { program := "ytfpdjhgcadfkcaa", sum := "1baa51a3c28962b8e7abccec98d00f2b8856b804993c904da4e76902c5b4a821", func := "loop.example/g00112/laws.FnExactPackNibbles", spec := "fnExactPackNibbles", unfollowed := true, recurses := true, apart := false }
def FnExactPackNibblesSaid : Prop := fnExactPackNibblesRow.holds Try.pinned (OpenSpec.ofChange fnExactPackNibblesSpec)

/-- ITS FALSE NEIGHBOUR: 'it returns false'. Refute it at one input. -/
def fnExactPackNibblesWrong : ChangeSpec := { name := "fnExactPackNibbles", fn := fun _ => fun
  | [d] => { results := [.lit (.bool false)], args := [d] }
  | _ => none }
def FnExactPackNibblesWrongFalsely : Prop := fnExactPackNibblesRow.holds Try.pinned (OpenSpec.ofChange fnExactPackNibblesWrong)

/-- 'laws.FnExactWorst': WHATEVER THE INPUT: true; the input reads as it did. -/
def fnExactWorstSpec : ChangeSpec := { name := "fnExactWorst", fn := fun _ => fun
  | [d1, d2] => { results := [.lit (.bool true)], args := [d1, d2] }
  | _ => none }
def fnExactWorstRow : OpenClaim := { program := "ytfpdjhgcadfkcaa", sum := "1baa51a3c28962b8e7abccec98d00f2b8856b804993c904da4e76902c5b4a821", func := "loop.example/g00112/laws.FnExactWorst", spec := "fnExactWorst", unfollowed := true, recurses := true, apart := false }
def FnExactWorstSaid : Prop := fnExactWorstRow.holds Try.pinned (OpenSpec.ofChange fnExactWorstSpec)

/-- ITS FALSE NEIGHBOUR: 'it returns false'. Refute it at one input. -/
def fnExactWorstWrong : ChangeSpec := { name := "fnExactWorst", fn := fun _ => fun
  | [d1, d2] => { results := [.lit (.bool false)], args := [d1, d2] }
  | _ => none }
def FnExactWorstWrongFalsely : Prop := fnExactWorstRow.holds Try.pinned (OpenSpec.ofChange fnExactWorstWrong)

/-- 'laws.FnExactRowSum': WHATEVER THE INPUT: true; the input reads as it did. -/
def fnExactRowSumSpec : ChangeSpec := { name := "fnExactRowSum", fn := fun _ => fun
  | [d1, d2, d3] => { results := [.lit (.bool true)], args := [d1, d2, d3] }
  | _ => none }
def fnExactRowSumRow : OpenClaim := { program := "ytfpdjhgcadfkcaa", sum := "1baa51a3c28962b8e7abccec98d00f2b8856b804993c904da4e76902c5b4a821", func := "loop.example/g00112/laws.FnExactRowSum", spec := "fnExactRowSum", unfollowed := true, recurses := true, apart := false }
def FnExactRowSumSaid : Prop := fnExactRowSumRow.holds Try.pinned (OpenSpec.ofChange fnExactRowSumSpec)

/-- ITS FALSE NEIGHBOUR: 'it returns false'. Refute it at one input. -/
def fnExactRowSumWrong : ChangeSpec := { name := "fnExactRowSum", fn := fun _ => fun
  | [d1, d2, d3] => { results := [.lit (.bool false)], args := [d1, d2, d3] }
  | _ => none }
def FnExactRowSumWrongFalsely : Prop := fnExactRowSumRow.holds Try.pinned (OpenSpec.ofChange fnExactRowSumWrong)

/-- 'laws.FnExactUnpackNibbles': WHATEVER THE INPUT: true; the input reads as it did. -/
def fnExactUnpackNibblesSpec : ChangeSpec := { name := "fnExactUnpackNibbles", fn := fun _ => fun
  | [d1, d2] => { results := [.lit (.bool true)], args := [d1, d2] }
  | _ => none }
def fnExactUnpackNibblesRow : OpenClaim := { program := "ytfpdjhgcadfkcaa", sum := "1baa51a3c28962b8e7abccec98d00f2b8856b804993c904da4e76902c5b4a821", func := "loop.example/g00112/laws.FnExactUnpackNibbles", spec := "fnExactUnpackNibbles", apart := false }
def FnExactUnpackNibblesSaid : Prop := fnExactUnpackNibblesRow.holds Try.pinned (OpenSpec.ofChange fnExactUnpackNibblesSpec)

/-- ITS FALSE NEIGHBOUR: 'it returns false'. Refute it at one input. -/
def fnExactUnpackNibblesWrong : ChangeSpec := { name := "fnExactUnpackNibbles", fn := fun _ => fun
  | [d1, d2] => { results := [.lit (.bool false)], args := [d1, d2] }
  | _ => none }
def FnExactUnpackNibblesWrongFalsely : Prop := fnExactUnpackNibblesRow.holds Try.pinned (OpenSpec.ofChange fnExactUnpackNibblesWrong)

/-- 'laws.FnRows': WHATEVER THE INPUT: true; the input reads as it did. -/
def fnRowsSpec : ChangeSpec := { name := "fnRows", fn := fun _ => fun
  | [d] => { results := [.lit (.bool true)], args := [d] }
  | _ => none }
def fnRowsRow : OpenClaim := { program := "ytfpdjhgcadfkcaa", sum := "1baa51a3c28962b8e7abccec98d00f2b8856b804993c904da4e76902c5b4a821", func := "loop.example/g00112/laws.FnRows", spec := "fnRows", unfollowed := true, recurses := true, apart := false }
def FnRowsSaid : Prop := fnRowsRow.holds Try.pinned (OpenSpec.ofChange fnRowsSpec)

/-- ITS FALSE NEIGHBOUR: 'it returns false'. Refute it at one input. -/
def fnRowsWrong : ChangeSpec := { name := "fnRows", fn := fun _ => fun
  | [d] => { results := [.lit (.bool false)], args := [d] }
  | _ => none }
def FnRowsWrongFalsely : Prop := fnRowsRow.holds Try.pinned (OpenSpec.ofChange fnRowsWrong)

/-- 'laws.FnNibbles': WHATEVER THE INPUT: true; the input reads as it did. -/
def fnNibblesSpec : ChangeSpec := { name := "fnNibbles", fn := fun _ => fun
  | [d] => { results := [.lit (.bool true)], args := [d] }
  | _ => none }
def fnNibblesRow : OpenClaim := { program := "ytfpdjhgcadfkcaa", sum := "1baa51a3c28962b8e7abccec98d00f2b8856b804993c904da4e76902c5b4a821", func := "loop.example/g00112/laws.FnNibbles", spec := "fnNibbles", unfollowed := true, recurses := true, apart := false }
def FnNibblesSaid : Prop := fnNibblesRow.holds Try.pinned (OpenSpec.ofChange fnNibblesSpec)

/-- ITS FALSE NEIGHBOUR: 'it returns false'. Refute it at one input. -/
def fnNibblesWrong : ChangeSpec := { name := "fnNibbles", fn := fun _ => fun
  | [d] => { results := [.lit (.bool false)], args := [d] }
  | _ => none }
def FnNibblesWrongFalsely : Prop := fnNibblesRow.holds Try.pinned (OpenSpec.ofChange fnNibblesWrong)

/-- 'laws.FnExactMatrixOk': WHATEVER THE INPUT: true; the input reads as it did. -/
def fnExactMatrixOkSpec : ChangeSpec := { name := "fnExactMatrixOk", fn := fun _ => fun
  | [d] => { results := [.lit (.bool true)], args := [d] }
  | _ => none }
def fnExactMatrixOkRow : OpenClaim := { program := "ytfpdjhgcadfkcaa", sum := "1baa51a3c28962b8e7abccec98d00f2b8856b804993c904da4e76902c5b4a821", func := "loop.example/g00112/laws.FnExactMatrixOk", spec := "fnExactMatrixOk", unfollowed := true, recurses := true, apart := false }
def FnExactMatrixOkSaid : Prop := fnExactMatrixOkRow.holds Try.pinned (OpenSpec.ofChange fnExactMatrixOkSpec)

/-- ITS FALSE NEIGHBOUR: 'it returns false'. Refute it at one input. -/
def fnExactMatrixOkWrong : ChangeSpec := { name := "fnExactMatrixOk", fn := fun _ => fun
  | [d] => { results := [.lit (.bool false)], args := [d] }
  | _ => none }
def FnExactMatrixOkWrongFalsely : Prop := fnExactMatrixOkRow.holds Try.pinned (OpenSpec.ofChange fnExactMatrixOkWrong)

/-- 'laws.FnExactTurnsOk': WHATEVER THE INPUT: true; the input reads as it did. -/
def fnExactTurnsOkSpec : ChangeSpec := { name := "fnExactTurnsOk", fn := fun _ => fun
  | [d1, d2, d3] => { results := [.lit (.bool true)], args := [d1, d2, d3] }
  | _ => none }
def fnExactTurnsOkRow : OpenClaim := { program := "ytfpdjhgcadfkcaa", sum := "1baa51a3c28962b8e7abccec98d00f2b8856b804993c904da4e76902c5b4a821", func := "loop.example/g00112/laws.FnExactTurnsOk", spec := "fnExactTurnsOk", unfollowed := true, recurses := true, apart := false }
def FnExactTurnsOkSaid : Prop := fnExactTurnsOkRow.holds Try.pinned (OpenSpec.ofChange fnExactTurnsOkSpec)

/-- ITS FALSE NEIGHBOUR: 'it returns false'. Refute it at one input. -/
def fnExactTurnsOkWrong : ChangeSpec := { name := "fnExactTurnsOk", fn := fun _ => fun
  | [d1, d2, d3] => { results := [.lit (.bool false)], args := [d1, d2, d3] }
  | _ => none }
def FnExactTurnsOkWrongFalsely : Prop := fnExactTurnsOkRow.holds Try.pinned (OpenSpec.ofChange fnExactTurnsOkWrong)

/-- 'laws.FnExactShares': WHATEVER THE INPUT: true; the input reads as it did. -/
def fnExactSharesSpec : ChangeSpec := { name := "fnExactShares", fn := fun _ => fun
  | [d] => { results := [.lit (.bool true)], args := [d] }
  | _ => none }
def fnExactSharesRow : OpenClaim := { program := "ytfpdjhgcadfkcaa", sum := "1baa51a3c28962b8e7abccec98d00f2b8856b804993c904da4e76902c5b4a821", func := "loop.example/g00112/laws.FnExactShares", spec := "fnExactShares", unfollowed := true, recurses := true, apart := false }
def FnExactSharesSaid : Prop := fnExactSharesRow.holds Try.pinned (OpenSpec.ofChange fnExactSharesSpec)

/-- ITS FALSE NEIGHBOUR: 'it returns false'. Refute it at one input. -/
def fnExactSharesWrong : ChangeSpec := { name := "fnExactShares", fn := fun _ => fun
  | [d] => { results := [.lit (.bool false)], args := [d] }
  | _ => none }
def FnExactSharesWrongFalsely : Prop := fnExactSharesRow.holds Try.pinned (OpenSpec.ofChange fnExactSharesWrong)

/-- 'laws.FnExactNorm': WHATEVER THE INPUT: true; the input reads as it did. -/
def fnExactNormSpec : ChangeSpec := { name := "fnExactNorm", fn := fun _ => fun
  | [d1, d2] => { results := [.lit (.bool true)], args := [d1, d2] }
  | _ => none }
def fnExactNormRow : OpenClaim := { program := "ytfpdjhgcadfkcaa", sum := "1baa51a3c28962b8e7abccec98d00f2b8856b804993c904da4e76902c5b4a821", func := "loop.example/g00112/laws.FnExactNorm", spec := "fnExactNorm", unfollowed := true, recurses := true, apart := false }
def FnExactNormSaid : Prop := fnExactNormRow.holds Try.pinned (OpenSpec.ofChange fnExactNormSpec)

/-- ITS FALSE NEIGHBOUR: 'it returns false'. Refute it at one input. -/
def fnExactNormWrong : ChangeSpec := { name := "fnExactNorm", fn := fun _ => fun
  | [d1, d2] => { results := [.lit (.bool false)], args := [d1, d2] }
  | _ => none }
def FnExactNormWrongFalsely : Prop := fnExactNormRow.holds Try.pinned (OpenSpec.ofChange fnExactNormWrong)

/-- 'laws.FnShares': WHATEVER THE INPUT: true; the input reads as it did. -/
def fnSharesSpec : ChangeSpec := { name := "fnShares", fn := fun _ => fun
  | [d] => { results := [.lit (.bool true)], args := [d] }
  | _ => none }
def fnSharesRow : OpenClaim := { program := "ytfpdjhgcadfkcaa", sum := "1baa51a3c28962b8e7abccec98d00f2b8856b804993c904da4e76902c5b4a821", func := "loop.example/g00112/laws.FnShares", spec := "fnShares", unfollowed := true, recurses := true, apart := false }
def FnSharesSaid : Prop := fnSharesRow.holds Try.pinned (OpenSpec.ofChange fnSharesSpec)

/-- ITS FALSE NEIGHBOUR: 'it returns false'. Refute it at one input. -/
def fnSharesWrong : ChangeSpec := { name := "fnShares", fn := fun _ => fun
  | [d] => { results := [.lit (.bool false)], args := [d] }
  | _ => none }
def FnSharesWrongFalsely : Prop := fnSharesRow.holds Try.pinned (OpenSpec.ofChange fnSharesWrong)

/-- 'laws.FnNorms': WHATEVER THE INPUT: true; the input reads as it did. -/
def fnNormsSpec : ChangeSpec := { name := "fnNorms", fn := fun _ => fun
  | [d] => { results := [.lit (.bool true)], args := [d] }
  | _ => none }
def fnNormsRow : OpenClaim := { program := "ytfpdjhgcadfkcaa", sum := "1baa51a3c28962b8e7abccec98d00f2b8856b804993c904da4e76902c5b4a821", func := "loop.example/g00112/laws.FnNorms", spec := "fnNorms", unfollowed := true, recurses := true, apart := false }
def FnNormsSaid : Prop := fnNormsRow.holds Try.pinned (OpenSpec.ofChange fnNormsSpec)

/-- ITS FALSE NEIGHBOUR: 'it returns false'. Refute it at one input. -/
def fnNormsWrong : ChangeSpec := { name := "fnNorms", fn := fun _ => fun
  | [d] => { results := [.lit (.bool false)], args := [d] }
  | _ => none }
def FnNormsWrongFalsely : Prop := fnNormsRow.holds Try.pinned (OpenSpec.ofChange fnNormsWrong)

/- THE SECOND FORM. 'bulk': how many values and letters a reading holds, each counted each time it is reached (what is shared counts as often as it is met; a slice's spare places count too). A statement '..UptoSaid' is the law's where the arguments, and the package variables that the reading takes, are together of bulk at most 1048576: NARROWER than '..Said'. Prove '..Said' where nothing that the law and all that it calls make is longer than what came in: it says more and counts as full. Else prove '..UptoSaid'. A law counts once. -/
mutual
def uptoBulk {H : Type} : DataW H → Nat
  | .lit (.string bytes) => bytes.length + 1
  | .lit _ => 1
  | .nil => 1
  | .ptr d => uptoBulk d + 1
  | .slice elems spare => uptoBulkAll elems + uptoBulkAll spare + 1
  | .agg parts => uptoBulkAll parts + 1
  | .iface _ d => uptoBulk d + 1
  | .map entries => uptoBulkEntries entries + 1
  | .held _ => 1
def uptoBulkAll {H : Type} : List (DataW H) → Nat
  | [] => 0
  | d :: r => uptoBulk d + uptoBulkAll r
def uptoBulkEntries {H : Type} : List (Lit × DataW H) → Nat
  | [] => 0
  | x :: r => uptoBulkEntry x + uptoBulkEntries r
def uptoBulkEntry {H : Type} : Lit × DataW H → Nat
  | (.string bytes, d) => bytes.length + uptoBulk d + 1
  | (_, d) => uptoBulk d + 1
 end
def uptoSmall : (H : Type) → List (DataW H) → Bool := fun _ ds => decide (uptoBulkAll ds ≤ 1048576)
def OpenSpec.upto (s : _root_.Go.ChangeSpec) : _root_.Go.OpenSpec := { _root_.Go.OpenSpec.ofChange s with cond := some uptoSmall }

/-- 'laws.FnExactPackNibbles', WHERE WHAT IT READS IS OF BULK AT MOST 1048576: true; the input reads as it did. -/
def fnExactPackNibblesUptoRow : OpenClaim := { program := "ytfpdjhgcadfkcaa", sum := "1baa51a3c28962b8e7abccec98d00f2b8856b804993c904da4e76902c5b4a821", func := "loop.example/g00112/laws.FnExactPackNibbles", spec := "fnExactPackNibbles", unfollowed := true, recurses := true, apart := false, narrowed := true }
def FnExactPackNibblesUptoSaid : Prop := fnExactPackNibblesUptoRow.holds Try.pinned (OpenSpec.upto fnExactPackNibblesSpec)

/-- 'laws.FnExactWorst', WHERE WHAT IT READS IS OF BULK AT MOST 1048576: true; the input reads as it did. -/
def fnExactWorstUptoRow : OpenClaim := { program := "ytfpdjhgcadfkcaa", sum := "1baa51a3c28962b8e7abccec98d00f2b8856b804993c904da4e76902c5b4a821", func := "loop.example/g00112/laws.FnExactWorst", spec := "fnExactWorst", unfollowed := true, recurses := true, apart := false, narrowed := true }
def FnExactWorstUptoSaid : Prop := fnExactWorstUptoRow.holds Try.pinned (OpenSpec.upto fnExactWorstSpec)

/-- 'laws.FnExactRowSum', WHERE WHAT IT READS IS OF BULK AT MOST 1048576: true; the input reads as it did. -/
def fnExactRowSumUptoRow : OpenClaim := { program := "ytfpdjhgcadfkcaa", sum := "1baa51a3c28962b8e7abccec98d00f2b8856b804993c904da4e76902c5b4a821", func := "loop.example/g00112/laws.FnExactRowSum", spec := "fnExactRowSum", unfollowed := true, recurses := true, apart := false, narrowed := true }
def FnExactRowSumUptoSaid : Prop := fnExactRowSumUptoRow.holds Try.pinned (OpenSpec.upto fnExactRowSumSpec)

/-- 'laws.FnExactUnpackNibbles', WHERE WHAT IT READS IS OF BULK AT MOST 1048576: true; the input reads as it did. -/
def fnExactUnpackNibblesUptoRow : OpenClaim := { program := "ytfpdjhgcadfkcaa", sum := "1baa51a3c28962b8e7abccec98d00f2b8856b804993c904da4e76902c5b4a821", func := "loop.example/g00112/laws.FnExactUnpackNibbles", spec := "fnExactUnpackNibbles", apart := false, narrowed := true }
def FnExactUnpackNibblesUptoSaid : Prop := fnExactUnpackNibblesUptoRow.holds Try.pinned (OpenSpec.upto fnExactUnpackNibblesSpec)

/-- 'laws.FnRows', WHERE WHAT IT READS IS OF BULK AT MOST 1048576: true; the input reads as it did. -/
def fnRowsUptoRow : OpenClaim := { program := "ytfpdjhgcadfkcaa", sum := "1baa51a3c28962b8e7abccec98d00f2b8856b804993c904da4e76902c5b4a821", func := "loop.example/g00112/laws.FnRows", spec := "fnRows", unfollowed := true, recurses := true, apart := false, narrowed := true }
def FnRowsUptoSaid : Prop := fnRowsUptoRow.holds Try.pinned (OpenSpec.upto fnRowsSpec)

/-- 'laws.FnNibbles', WHERE WHAT IT READS IS OF BULK AT MOST 1048576: true; the input reads as it did. -/
def fnNibblesUptoRow : OpenClaim := { program := "ytfpdjhgcadfkcaa", sum := "1baa51a3c28962b8e7abccec98d00f2b8856b804993c904da4e76902c5b4a821", func := "loop.example/g00112/laws.FnNibbles", spec := "fnNibbles", unfollowed := true, recurses := true, apart := false, narrowed := true }
def FnNibblesUptoSaid : Prop := fnNibblesUptoRow.holds Try.pinned (OpenSpec.upto fnNibblesSpec)

/-- 'laws.FnExactMatrixOk', WHERE WHAT IT READS IS OF BULK AT MOST 1048576: true; the input reads as it did. -/
def fnExactMatrixOkUptoRow : OpenClaim := { program := "ytfpdjhgcadfkcaa", sum := "1baa51a3c28962b8e7abccec98d00f2b8856b804993c904da4e76902c5b4a821", func := "loop.example/g00112/laws.FnExactMatrixOk", spec := "fnExactMatrixOk", unfollowed := true, recurses := true, apart := false, narrowed := true }
def FnExactMatrixOkUptoSaid : Prop := fnExactMatrixOkUptoRow.holds Try.pinned (OpenSpec.upto fnExactMatrixOkSpec)

/-- 'laws.FnExactTurnsOk', WHERE WHAT IT READS IS OF BULK AT MOST 1048576: true; the input reads as it did. -/
def fnExactTurnsOkUptoRow : OpenClaim := { program := "ytfpdjhgcadfkcaa", sum := "1baa51a3c28962b8e7abccec98d00f2b8856b804993c904da4e76902c5b4a821", func := "loop.example/g00112/laws.FnExactTurnsOk", spec := "fnExactTurnsOk", unfollowed := true, recurses := true, apart := false, narrowed := true }
def FnExactTurnsOkUptoSaid : Prop := fnExactTurnsOkUptoRow.holds Try.pinned (OpenSpec.upto fnExactTurnsOkSpec)

/-- 'laws.FnExactShares', WHERE WHAT IT READS IS OF BULK AT MOST 1048576: true; the input reads as it did. -/
def fnExactSharesUptoRow : OpenClaim := { program := "ytfpdjhgcadfkcaa", sum := "1baa51a3c28962b8e7abccec98d00f2b8856b804993c904da4e76902c5b4a821", func := "loop.example/g00112/laws.FnExactShares", spec := "fnExactShares", unfollowed := true, recurses := true, apart := false, narrowed := true }
def FnExactSharesUptoSaid : Prop := fnExactSharesUptoRow.holds Try.pinned (OpenSpec.upto fnExactSharesSpec)

/-- 'laws.FnExactNorm', WHERE WHAT IT READS IS OF BULK AT MOST 1048576: true; the input reads as it did. -/
def fnExactNormUptoRow : OpenClaim := { program := "ytfpdjhgcadfkcaa", sum := "1baa51a3c28962b8e7abccec98d00f2b8856b804993c904da4e76902c5b4a821", func := "loop.example/g00112/laws.FnExactNorm", spec := "fnExactNorm", unfollowed := true, recurses := true, apart := false, narrowed := true }
def FnExactNormUptoSaid : Prop := fnExactNormUptoRow.holds Try.pinned (OpenSpec.upto fnExactNormSpec)

/-- 'laws.FnShares', WHERE WHAT IT READS IS OF BULK AT MOST 1048576: true; the input reads as it did. -/
def fnSharesUptoRow : OpenClaim := { program := "ytfpdjhgcadfkcaa", sum := "1baa51a3c28962b8e7abccec98d00f2b8856b804993c904da4e76902c5b4a821", func := "loop.example/g00112/laws.FnShares", spec := "fnShares", unfollowed := true, recurses := true, apart := false, narrowed := true }
def FnSharesUptoSaid : Prop := fnSharesUptoRow.holds Try.pinned (OpenSpec.upto fnSharesSpec)

/-- 'laws.FnNorms', WHERE WHAT IT READS IS OF BULK AT MOST 1048576: true; the input reads as it did. -/
def fnNormsUptoRow : OpenClaim := { program := "ytfpdjhgcadfkcaa", sum := "1baa51a3c28962b8e7abccec98d00f2b8856b804993c904da4e76902c5b4a821", func := "loop.example/g00112/laws.FnNorms", spec := "fnNorms", unfollowed := true, recurses := true, apart := false, narrowed := true }
def FnNormsUptoSaid : Prop := fnNormsUptoRow.holds Try.pinned (OpenSpec.upto fnNormsSpec)

end Rows
end Go.Proofs.Ytfpdjhgcadfkcaa
