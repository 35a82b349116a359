/-
  No cell of these rows narrows 'for every input' (looked for: loops, veiled, ifaces, maps, wideKeys, modest, calm, conditions, laid).
  DERIVED. THE GIVEN ROWS OF THIS SEAT. 13 by the template 'for every input the law returns true; each argument reads behind the call as it read before'; 0 by the template 'total and deterministic' (their statements: YtdcffnmpkmjliaaTotals.lean).
  GIVEN WITH THE SEED: the statements are not yours to turn. If you find one false, say at which input.
  Laid BY PROGRAM, IN A SANDBOX (cutbox-rows.mjs): the forced cells as the released guide's own fill.sh prints them over the translation 2c6abca727241a2c… (all of the seat's roots in one cut). By AI agents, Wed Nov 11 2026. No macro, syntax, notation, axiom, sorry.
-/
import Derived.Test.YtdcffnmpkmjliaaChecked
import GoSem.Claim
import GoSem.ClaimJoined
import GoSem.ClaimMapViews
import Derived.JoinedTies
import Derived.KernelRfl
namespace Go.Proofs.Ytdcffnmpkmjliaa
/- THE CELL 'sum', in the pinned program and in every row, IS THE sha256 OF THE DUMP (.gsa) THAT YtdcffnmpkmjliaaProg.lean LOADS. Nothing in Lean hashes anything: it is a label: what it is worth is what the hold of that sum in a sandbox is worth. -/
noncomputable def Try.pinned : Pinned := { name := "ytdcffnmpkmjliaa", sum := "2c6abca727241a2c37e16149734b8d72a000abe72f9a33462058c2aa7cc20959", checked := Try.checked }
namespace Rows
def none {H : Type} : Left H := { results := [], args := [] }

/-- 'laws.FnExactMergeOnce': WHATEVER THE INPUT: true; the input reads as it did. -/
def fnExactMergeOnceSpec : ChangeSpec := { name := "fnExactMergeOnce", fn := fun _ => fun
  | [d1, d2] => { results := [.lit (.bool true)], args := [d1, d2] }
  | _ => none }
def fnExactMergeOnceRow : OpenClaim := { program := "ytdcffnmpkmjliaa", sum := "2c6abca727241a2c37e16149734b8d72a000abe72f9a33462058c2aa7cc20959", func := "loop.example/g00112/laws.FnExactMergeOnce", spec := "fnExactMergeOnce", unfollowed := true, recurses := true, apart := false }
def FnExactMergeOnceSaid : Prop := fnExactMergeOnceRow.holds Try.pinned (OpenSpec.ofChange fnExactMergeOnceSpec)

/-- ITS FALSE NEIGHBOUR: 'it returns false'. Refute it at one input. -/
def fnExactMergeOnceWrong : ChangeSpec := { name := "fnExactMergeOnce", fn := fun _ => fun
  | [d1, d2] => { results := [.lit (.bool false)], args := [d1, d2] }
  | _ => none }
def FnExactMergeOnceWrongFalsely : Prop := fnExactMergeOnceRow.holds Try.pinned (OpenSpec.ofChange fnExactMergeOnceWrong)

/-- 'laws.FnExactMergesOk': WHATEVER THE INPUT: true; the input reads as it did. -/
def fnExactMergesOkSpec : ChangeSpec := { name := "fnExactMergesOk", fn := fun _ => fun
  | [d] => { results := [.lit (.bool true)], args := [d] }
  | _ => none }
def fnExactMergesOkRow : OpenClaim := { program := "ytdcffnmpkmjliaa", sum := "2c6abca727241a2c37e16149734b8d72a000abe72f9a33462058c2aa7cc20959", func := "loop.example/g00112/laws.FnExactMergesOk", spec := "fnExactMergesOk", unfollowed := true, recurses := true, apart := false }
def FnExactMergesOkSaid : Prop := fnExactMergesOkRow.holds Try.pinned (OpenSpec.ofChange fnExactMergesOkSpec)

/-- ITS FALSE NEIGHBOUR: 'it returns false'. Refute it at one input. -/
def fnExactMergesOkWrong : ChangeSpec := { name := "fnExactMergesOk", fn := fun _ => fun
  | [d] => { results := [.lit (.bool false)], args := [d] }
  | _ => none }
def FnExactMergesOkWrongFalsely : Prop := fnExactMergesOkRow.holds Try.pinned (OpenSpec.ofChange fnExactMergesOkWrong)

/-- 'laws.FnExactPieceOf': WHATEVER THE INPUT: true; the input reads as it did. -/
def fnExactPieceOfSpec : ChangeSpec := { name := "fnExactPieceOf", fn := fun _ => fun
  | [d1, d2] => { results := [.lit (.bool true)], args := [d1, d2] }
  | _ => none }
def fnExactPieceOfRow : OpenClaim := { program := "ytdcffnmpkmjliaa", sum := "2c6abca727241a2c37e16149734b8d72a000abe72f9a33462058c2aa7cc20959", func := "loop.example/g00112/laws.FnExactPieceOf", spec := "fnExactPieceOf", unfollowed := true, recurses := true, apart := false }
def FnExactPieceOfSaid : Prop := fnExactPieceOfRow.holds Try.pinned (OpenSpec.ofChange fnExactPieceOfSpec)

/-- ITS FALSE NEIGHBOUR: 'it returns false'. Refute it at one input. -/
def fnExactPieceOfWrong : ChangeSpec := { name := "fnExactPieceOf", fn := fun _ => fun
  | [d1, d2] => { results := [.lit (.bool false)], args := [d1, d2] }
  | _ => none }
def FnExactPieceOfWrongFalsely : Prop := fnExactPieceOfRow.holds Try.pinned (OpenSpec.ofChange fnExactPieceOfWrong)

/-- 'laws.FnExactLongest': WHATEVER THE INPUT: true; the input reads as it did. -/
def fnExactLongestSpec : ChangeSpec := { name := "fnExactLongest", fn := fun _ => fun
  | [d] => { results := [.lit (.bool true)], args := [d] }
  | _ => none }
def fnExactLongestRow : OpenClaim := { program := "ytdcffnmpkmjliaa", sum := "2c6abca727241a2c37e16149734b8d72a000abe72f9a33462058c2aa7cc20959", func := "loop.example/g00112/laws.FnExactLongest", spec := "fnExactLongest", unfollowed := true, recurses := true, apart := false }
def FnExactLongestSaid : Prop := fnExactLongestRow.holds Try.pinned (OpenSpec.ofChange fnExactLongestSpec)

/-- ITS FALSE NEIGHBOUR: 'it returns false'. Refute it at one input. -/
def fnExactLongestWrong : ChangeSpec := { name := "fnExactLongest", fn := fun _ => fun
  | [d] => { results := [.lit (.bool false)], args := [d] }
  | _ => none }
def FnExactLongestWrongFalsely : Prop := fnExactLongestRow.holds Try.pinned (OpenSpec.ofChange fnExactLongestWrong)

/-- 'laws.FnExactDecode': WHATEVER THE INPUT: true; the input reads as it did. -/
def fnExactDecodeSpec : ChangeSpec := { name := "fnExactDecode", fn := fun _ => fun
  | [d1, d2] => { results := [.lit (.bool true)], args := [d1, d2] }
  | _ => none }
def fnExactDecodeRow : OpenClaim := { program := "ytdcffnmpkmjliaa", sum := "2c6abca727241a2c37e16149734b8d72a000abe72f9a33462058c2aa7cc20959", func := "loop.example/g00112/laws.FnExactDecode", spec := "fnExactDecode", unfollowed := true, recurses := true, apart := false }
def FnExactDecodeSaid : Prop := fnExactDecodeRow.holds Try.pinned (OpenSpec.ofChange fnExactDecodeSpec)

/-- ITS FALSE NEIGHBOUR: 'it returns false'. Refute it at one input. -/
def fnExactDecodeWrong : ChangeSpec := { name := "fnExactDecode", fn := fun _ => fun
  | [d1, d2] => { results := [.lit (.bool false)], args := [d1, d2] }
  | _ => none }
def FnExactDecodeWrongFalsely : Prop := fnExactDecodeRow.holds Try.pinned (OpenSpec.ofChange fnExactDecodeWrong)

/-- 'laws.FnExactSplitsOf': WHATEVER THE INPUT: true; the input reads as it did. -/
def fnExactSplitsOfSpec : ChangeSpec := { name := "fnExactSplitsOf", fn := fun _ => fun
  | [d1, d2] => { results := [.lit (.bool true)], args := [d1, d2] }
  | _ => none }
def fnExactSplitsOfRow : OpenClaim := { program := "ytdcffnmpkmjliaa", sum := "2c6abca727241a2c37e16149734b8d72a000abe72f9a33462058c2aa7cc20959", func := "loop.example/g00112/laws.FnExactSplitsOf", spec := "fnExactSplitsOf", unfollowed := true, recurses := true, apart := false }
def FnExactSplitsOfSaid : Prop := fnExactSplitsOfRow.holds Try.pinned (OpenSpec.ofChange fnExactSplitsOfSpec)

/-- ITS FALSE NEIGHBOUR: 'it returns false'. Refute it at one input. -/
def fnExactSplitsOfWrong : ChangeSpec := { name := "fnExactSplitsOf", fn := fun _ => fun
  | [d1, d2] => { results := [.lit (.bool false)], args := [d1, d2] }
  | _ => none }
def FnExactSplitsOfWrongFalsely : Prop := fnExactSplitsOfRow.holds Try.pinned (OpenSpec.ofChange fnExactSplitsOfWrong)

/-- 'laws.FnExactMergeAt': WHATEVER THE INPUT: true; the input reads as it did. -/
def fnExactMergeAtSpec : ChangeSpec := { name := "fnExactMergeAt", fn := fun _ => fun
  | [d1, d2] => { results := [.lit (.bool true)], args := [d1, d2] }
  | _ => none }
def fnExactMergeAtRow : OpenClaim := { program := "ytdcffnmpkmjliaa", sum := "2c6abca727241a2c37e16149734b8d72a000abe72f9a33462058c2aa7cc20959", func := "loop.example/g00112/laws.FnExactMergeAt", spec := "fnExactMergeAt", unfollowed := true, recurses := true, apart := false }
def FnExactMergeAtSaid : Prop := fnExactMergeAtRow.holds Try.pinned (OpenSpec.ofChange fnExactMergeAtSpec)

/-- ITS FALSE NEIGHBOUR: 'it returns false'. Refute it at one input. -/
def fnExactMergeAtWrong : ChangeSpec := { name := "fnExactMergeAt", fn := fun _ => fun
  | [d1, d2] => { results := [.lit (.bool false)], args := [d1, d2] }
  | _ => none }
def FnExactMergeAtWrongFalsely : Prop := fnExactMergeAtRow.holds Try.pinned (OpenSpec.ofChange fnExactMergeAtWrong)

/-- 'laws.FnExactSteps': WHATEVER THE INPUT: true; the input reads as it did. -/
def fnExactStepsSpec : ChangeSpec := { name := "fnExactSteps", fn := fun _ => fun
  | [d1, d2] => { results := [.lit (.bool true)], args := [d1, d2] }
  | _ => none }
def fnExactStepsRow : OpenClaim := { program := "ytdcffnmpkmjliaa", sum := "2c6abca727241a2c37e16149734b8d72a000abe72f9a33462058c2aa7cc20959", func := "loop.example/g00112/laws.FnExactSteps", spec := "fnExactSteps", unfollowed := true, recurses := true, apart := false }
def FnExactStepsSaid : Prop := fnExactStepsRow.holds Try.pinned (OpenSpec.ofChange fnExactStepsSpec)

/-- ITS FALSE NEIGHBOUR: 'it returns false'. Refute it at one input. -/
def fnExactStepsWrong : ChangeSpec := { name := "fnExactSteps", fn := fun _ => fun
  | [d1, d2] => { results := [.lit (.bool false)], args := [d1, d2] }
  | _ => none }
def FnExactStepsWrongFalsely : Prop := fnExactStepsRow.holds Try.pinned (OpenSpec.ofChange fnExactStepsWrong)

/-- 'laws.FnExactEncode': WHATEVER THE INPUT: true; the input reads as it did. -/
def fnExactEncodeSpec : ChangeSpec := { name := "fnExactEncode", fn := fun _ => fun
  | [d1, d2] => { results := [.lit (.bool true)], args := [d1, d2] }
  | _ => none }
def fnExactEncodeRow : OpenClaim := { program := "ytdcffnmpkmjliaa", sum := "2c6abca727241a2c37e16149734b8d72a000abe72f9a33462058c2aa7cc20959", func := "loop.example/g00112/laws.FnExactEncode", spec := "fnExactEncode", unfollowed := true, recurses := true, apart := false }
def FnExactEncodeSaid : Prop := fnExactEncodeRow.holds Try.pinned (OpenSpec.ofChange fnExactEncodeSpec)

/-- ITS FALSE NEIGHBOUR: 'it returns false'. Refute it at one input. -/
def fnExactEncodeWrong : ChangeSpec := { name := "fnExactEncode", fn := fun _ => fun
  | [d1, d2] => { results := [.lit (.bool false)], args := [d1, d2] }
  | _ => none }
def FnExactEncodeWrongFalsely : Prop := fnExactEncodeRow.holds Try.pinned (OpenSpec.ofChange fnExactEncodeWrong)

/-- 'laws.FnPieces': WHATEVER THE INPUT: true; the input reads as it did. -/
def fnPiecesSpec : ChangeSpec := { name := "fnPieces", fn := fun _ => fun
  | [d] => { results := [.lit (.bool true)], args := [d] }
  | _ => none }
def fnPiecesRow : OpenClaim := { program := "ytdcffnmpkmjliaa", sum := "2c6abca727241a2c37e16149734b8d72a000abe72f9a33462058c2aa7cc20959", func := "loop.example/g00112/laws.FnPieces", spec := "fnPieces", unfollowed := true, recurses := true, apart := false }
def FnPiecesSaid : Prop := fnPiecesRow.holds Try.pinned (OpenSpec.ofChange fnPiecesSpec)

/-- ITS FALSE NEIGHBOUR: 'it returns false'. Refute it at one input. -/
def fnPiecesWrong : ChangeSpec := { name := "fnPieces", fn := fun _ => fun
  | [d] => { results := [.lit (.bool false)], args := [d] }
  | _ => none }
def FnPiecesWrongFalsely : Prop := fnPiecesRow.holds Try.pinned (OpenSpec.ofChange fnPiecesWrong)

/-- 'laws.FnSplits': WHATEVER THE INPUT: true; the input reads as it did. -/
def fnSplitsSpec : ChangeSpec := { name := "fnSplits", fn := fun _ => fun
  | [d] => { results := [.lit (.bool true)], args := [d] }
  | _ => none }
def fnSplitsRow : OpenClaim := { program := "ytdcffnmpkmjliaa", sum := "2c6abca727241a2c37e16149734b8d72a000abe72f9a33462058c2aa7cc20959", func := "loop.example/g00112/laws.FnSplits", spec := "fnSplits", unfollowed := true, recurses := true, apart := false }
def FnSplitsSaid : Prop := fnSplitsRow.holds Try.pinned (OpenSpec.ofChange fnSplitsSpec)

/-- ITS FALSE NEIGHBOUR: 'it returns false'. Refute it at one input. -/
def fnSplitsWrong : ChangeSpec := { name := "fnSplits", fn := fun _ => fun
  | [d] => { results := [.lit (.bool false)], args := [d] }
  | _ => none }
def FnSplitsWrongFalsely : Prop := fnSplitsRow.holds Try.pinned (OpenSpec.ofChange fnSplitsWrong)

/-- 'laws.FnTokens': WHATEVER THE INPUT: true; the input reads as it did. -/
def fnTokensSpec : ChangeSpec := { name := "fnTokens", fn := fun _ => fun
  | [d] => { results := [.lit (.bool true)], args := [d] }
  | _ => none }
def fnTokensRow : OpenClaim := { program := "ytdcffnmpkmjliaa", sum := "2c6abca727241a2c37e16149734b8d72a000abe72f9a33462058c2aa7cc20959", func := "loop.example/g00112/laws.FnTokens", spec := "fnTokens", unfollowed := true, recurses := true, apart := false }
def FnTokensSaid : Prop := fnTokensRow.holds Try.pinned (OpenSpec.ofChange fnTokensSpec)

/-- ITS FALSE NEIGHBOUR: 'it returns false'. Refute it at one input. -/
def fnTokensWrong : ChangeSpec := { name := "fnTokens", fn := fun _ => fun
  | [d] => { results := [.lit (.bool false)], args := [d] }
  | _ => none }
def FnTokensWrongFalsely : Prop := fnTokensRow.holds Try.pinned (OpenSpec.ofChange fnTokensWrong)

/-- 'laws.FnMergesOnce': WHATEVER THE INPUT: true; the input reads as it did. -/
def fnMergesOnceSpec : ChangeSpec := { name := "fnMergesOnce", fn := fun _ => fun
  | [d] => { results := [.lit (.bool true)], args := [d] }
  | _ => none }
def fnMergesOnceRow : OpenClaim := { program := "ytdcffnmpkmjliaa", sum := "2c6abca727241a2c37e16149734b8d72a000abe72f9a33462058c2aa7cc20959", func := "loop.example/g00112/laws.FnMergesOnce", spec := "fnMergesOnce", unfollowed := true, recurses := true, apart := false }
def FnMergesOnceSaid : Prop := fnMergesOnceRow.holds Try.pinned (OpenSpec.ofChange fnMergesOnceSpec)

/-- ITS FALSE NEIGHBOUR: 'it returns false'. Refute it at one input. -/
def fnMergesOnceWrong : ChangeSpec := { name := "fnMergesOnce", fn := fun _ => fun
  | [d] => { results := [.lit (.bool false)], args := [d] }
  | _ => none }
def FnMergesOnceWrongFalsely : Prop := fnMergesOnceRow.holds Try.pinned (OpenSpec.ofChange fnMergesOnceWrong)

/- THE SECOND FORM. 'bulk': how many values and letters a reading holds, each counted each time it is reached (what is shared counts as often as it is met; a slice's spare places count too). A statement '..UptoSaid' is the law's where the arguments, and the package variables that the reading takes, are together of bulk at most 1048576: NARROWER than '..Said'. Prove '..Said' where nothing that the law and all that it calls make is longer than what came in: it says more and counts as full. Else prove '..UptoSaid'. A law counts once. -/
mutual
def uptoBulk {H : Type} : DataW H → Nat
  | .lit (.string bytes) => bytes.length + 1
  | .lit _ => 1
  | .nil => 1
  | .ptr d => uptoBulk d + 1
  | .slice elems spare => uptoBulkAll elems + uptoBulkAll spare + 1
  | .agg parts => uptoBulkAll parts + 1
  | .iface _ d => uptoBulk d + 1
  | .map entries => uptoBulkEntries entries + 1
  | .held _ => 1
def uptoBulkAll {H : Type} : List (DataW H) → Nat
  | [] => 0
  | d :: r => uptoBulk d + uptoBulkAll r
def uptoBulkEntries {H : Type} : List (Lit × DataW H) → Nat
  | [] => 0
  | x :: r => uptoBulkEntry x + uptoBulkEntries r
def uptoBulkEntry {H : Type} : Lit × DataW H → Nat
  | (.string bytes, d) => bytes.length + uptoBulk d + 1
  | (_, d) => uptoBulk d + 1
 end
def uptoSmall : (H : Type) → List (DataW H) → Bool := fun _ ds => decide (uptoBulkAll ds ≤ 1048576)
def OpenSpec.upto (s : _root_.Go.ChangeSpec) : _root_.Go.OpenSpec := { _root_.Go.OpenSpec.ofChange s with cond := some uptoSmall }

/-- 'laws.FnExactMergeOnce', WHERE WHAT IT READS IS OF BULK AT MOST 1048576: true; the input reads as it did. -/
def fnExactMergeOnceUptoRow : OpenClaim := { program := "ytdcffnmpkmjliaa", sum := "2c6abca727241a2c37e16149734b8d72a000abe72f9a33462058c2aa7cc20959", func := "loop.example/g00112/laws.FnExactMergeOnce", spec := "fnExactMergeOnce", unfollowed := true, recurses := true, apart := false, narrowed := true }
def FnExactMergeOnceUptoSaid : Prop := fnExactMergeOnceUptoRow.holds Try.pinned (OpenSpec.upto fnExactMergeOnceSpec)

/-- 'laws.FnExactMergesOk', WHERE WHAT IT READS IS OF BULK AT MOST 1048576: true; the input reads as it did. -/
def fnExactMergesOkUptoRow : OpenClaim := { program := "ytdcffnmpkmjliaa", sum := "2c6abca727241a2c37e16149734b8d72a000abe72f9a33462058c2aa7cc20959", func := "loop.example/g00112/laws.FnExactMergesOk", spec := "fnExactMergesOk", unfollowed := true, recurses := true, apart := false, narrowed := true }
def FnExactMergesOkUptoSaid : Prop := fnExactMergesOkUptoRow.holds Try.pinned (OpenSpec.upto fnExactMergesOkSpec)

/-- 'laws.FnExactPieceOf', WHERE WHAT IT READS IS OF BULK AT MOST 1048576: true; the input reads as it did. -/
def fnExactPieceOfUptoRow : OpenClaim := { program := "ytdcffnmpkmjliaa", sum := "2c6abca727241a2c37e16149734b8d72a000abe72f9a33462058c2aa7cc20959", func := "loop.example/g00112/laws.FnExactPieceOf", spec := "fnExactPieceOf", unfollowed := true, recurses := true, apart := false, narrowed := true }
def FnExactPieceOfUptoSaid : Prop := fnExactPieceOfUptoRow.holds Try.pinned (OpenSpec.upto fnExactPieceOfSpec)

/-- 'laws.FnExactLongest', WHERE WHAT IT READS IS OF BULK AT MOST 1048576: true; the input reads as it did. -/
def fnExactLongestUptoRow : OpenClaim := { program := "ytdcffnmpkmjliaa", sum := "2c6abca727241a2c37e16149734b8d72a000abe72f9a33462058c2aa7cc20959", func := "loop.example/g00112/laws.FnExactLongest", spec := "fnExactLongest", unfollowed := true, recurses := true, apart := false, narrowed := true }
def FnExactLongestUptoSaid : Prop := fnExactLongestUptoRow.holds Try.pinned (OpenSpec.upto fnExactLongestSpec)

/-- 'laws.FnExactDecode', WHERE WHAT IT READS IS OF BULK AT MOST 1048576: true; the input reads as it did. -/
def fnExactDecodeUptoRow : OpenClaim := { program := "ytdcffnmpkmjliaa", sum := "2c6abca727241a2c37e16149734b8d72a000abe72f9a33462058c2aa7cc20959", func := "loop.example/g00112/laws.FnExactDecode", spec := "fnExactDecode", unfollowed := true, recurses := true, apart := false, narrowed := true }
def FnExactDecodeUptoSaid : Prop := fnExactDecodeUptoRow.holds Try.pinned (OpenSpec.upto fnExactDecodeSpec)

/-- 'laws.FnExactSplitsOf', WHERE WHAT IT READS IS OF BULK AT MOST 1048576: true; the input reads as it did. -/
def fnExactSplitsOfUptoRow : OpenClaim := { program := "ytdcffnmpkmjliaa", sum := "2c6abca727241a2c37e16149734b8d72a000abe72f9a33462058c2aa7cc20959", func := "loop.example/g00112/laws.FnExactSplitsOf", spec := "fnExactSplitsOf", unfollowed := true, recurses := true, apart := false, narrowed := true }
def FnExactSplitsOfUptoSaid : Prop := fnExactSplitsOfUptoRow.holds Try.pinned (OpenSpec.upto fnExactSplitsOfSpec)

/-- 'laws.FnExactMergeAt', WHERE WHAT IT READS IS OF BULK AT MOST 1048576: true; the input reads as it did. -/
def fnExactMergeAtUptoRow : OpenClaim := { program := "ytdcffnmpkmjliaa", sum := "2c6abca727241a2c37e16149734b8d72a000abe72f9a33462058c2aa7cc20959", func := "loop.example/g00112/laws.FnExactMergeAt", spec := "fnExactMergeAt", unfollowed := true, recurses := true, apart := false, narrowed := true }
def FnExactMergeAtUptoSaid : Prop := fnExactMergeAtUptoRow.holds Try.pinned (OpenSpec.upto fnExactMergeAtSpec)

/-- 'laws.FnExactSteps', WHERE WHAT IT READS IS OF BULK AT MOST 1048576: true; the input reads as it did. -/
def fnExactStepsUptoRow : OpenClaim := { program := "ytdcffnmpkmjliaa", sum := "2c6abca727241a2c37e16149734b8d72a000abe72f9a33462058c2aa7cc20959", func := "loop.example/g00112/laws.FnExactSteps", spec := "fnExactSteps", unfollowed := true, recurses := true, apart := false, narrowed := true }
def FnExactStepsUptoSaid : Prop := fnExactStepsUptoRow.holds Try.pinned (OpenSpec.upto fnExactStepsSpec)

/-- 'laws.FnExactEncode', WHERE WHAT IT READS IS OF BULK AT MOST 1048576: true; the input reads as it did. -/
def fnExactEncodeUptoRow : OpenClaim := { program := "ytdcffnmpkmjliaa", sum := "2c6abca727241a2c37e16149734b8d72a000abe72f9a33462058c2aa7cc20959", func := "loop.example/g00112/laws.FnExactEncode", spec := "fnExactEncode", unfollowed := true, recurses := true, apart := false, narrowed := true }
def FnExactEncodeUptoSaid : Prop := fnExactEncodeUptoRow.holds Try.pinned (OpenSpec.upto fnExactEncodeSpec)

/-- 'laws.FnPieces', WHERE WHAT IT READS IS OF BULK AT MOST 1048576: true; the input reads as it did. -/
def fnPiecesUptoRow : OpenClaim := { program := "ytdcffnmpkmjliaa", sum := "2c6abca727241a2c37e16149734b8d72a000abe72f9a33462058c2aa7cc20959", func := "loop.example/g00112/laws.FnPieces", spec := "fnPieces", unfollowed := true, recurses := true, apart := false, narrowed := true }
def FnPiecesUptoSaid : Prop := fnPiecesUptoRow.holds Try.pinned (OpenSpec.upto fnPiecesSpec)

/-- 'laws.FnSplits', WHERE WHAT IT READS IS OF BULK AT MOST 1048576: true; the input reads as it did. -/
def fnSplitsUptoRow : OpenClaim := { program := "ytdcffnmpkmjliaa", sum := "2c6abca727241a2c37e16149734b8d72a000abe72f9a33462058c2aa7cc20959", func := "loop.example/g00112/laws.FnSplits", spec := "fnSplits", unfollowed := true, recurses := true, apart := false, narrowed := true }
def FnSplitsUptoSaid : Prop := fnSplitsUptoRow.holds Try.pinned (OpenSpec.upto fnSplitsSpec)

/-- 'laws.FnTokens', WHERE WHAT IT READS IS OF BULK AT MOST 1048576: true; the input reads as it did. -/
def fnTokensUptoRow : OpenClaim := { program := "ytdcffnmpkmjliaa", sum := "2c6abca727241a2c37e16149734b8d72a000abe72f9a33462058c2aa7cc20959", func := "loop.example/g00112/laws.FnTokens", spec := "fnTokens", unfollowed := true, recurses := true, apart := false, narrowed := true }
def FnTokensUptoSaid : Prop := fnTokensUptoRow.holds Try.pinned (OpenSpec.upto fnTokensSpec)

/-- 'laws.FnMergesOnce', WHERE WHAT IT READS IS OF BULK AT MOST 1048576: true; the input reads as it did. -/
def fnMergesOnceUptoRow : OpenClaim := { program := "ytdcffnmpkmjliaa", sum := "2c6abca727241a2c37e16149734b8d72a000abe72f9a33462058c2aa7cc20959", func := "loop.example/g00112/laws.FnMergesOnce", spec := "fnMergesOnce", unfollowed := true, recurses := true, apart := false, narrowed := true }
def FnMergesOnceUptoSaid : Prop := fnMergesOnceUptoRow.holds Try.pinned (OpenSpec.upto fnMergesOnceSpec)

end Rows
end Go.Proofs.Ytdcffnmpkmjliaa
