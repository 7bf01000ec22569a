/-
  No cell of these rows narrows 'for every input' (looked for: loops, veiled, ifaces, maps, wideKeys, modest, calm, conditions, laid).
  DERIVED. THE GIVEN ROWS OF THIS SEAT. 15 by the template 'for every input the law returns true; each argument reads behind the call as it read before'; 0 by the template 'total and deterministic' (their statements: YtljmfmbfgggndaaTotals.lean).
  GIVEN WITH THE SEED: the statements are not yours to turn. If you find one false, say at which input.
  Laid BY PROGRAM, IN A SANDBOX (cutbox-rows.mjs): the forced cells as the released guide's own fill.sh prints them over the translation f650dab9083dc6f9… (all of the seat's roots in one cut). By AI agents, Wed Nov 11 2026. No macro, syntax, notation, axiom, sorry.
-/
import Derived.Test.YtljmfmbfgggndaaChecked
import GoSem.Claim
import GoSem.ClaimJoined
import GoSem.ClaimMapViews
import Derived.JoinedTies
import Derived.KernelRfl
namespace Go.Proofs.Ytljmfmbfgggndaa
/- THE CELL 'sum', in the pinned program and in every row, IS THE sha256 OF THE DUMP (.gsa) THAT YtljmfmbfgggndaaProg.lean LOADS. Nothing in Lean hashes anything: it is a label: what it is worth is what the hold of that sum in a sandbox is worth. -/
noncomputable def Try.pinned : Pinned := { name := "ytljmfmbfgggndaa", sum := "f650dab9083dc6f953db15a0c6b0a08c714aa72763622986791f5b64c96d1432", checked := Try.checked }
namespace Rows
def none {H : Type} : Left H := { results := [], args := [] }

/-- 'laws.FnExactSizeOfTurn': WHATEVER THE INPUT: true; the input reads as it did. -/
def fnExactSizeOfTurnSpec : ChangeSpec := { name := "fnExactSizeOfTurn", fn := fun _ => fun
  | [d] => { results := [.lit (.bool true)], args := [d] }
  | _ => none }
def fnExactSizeOfTurnRow : OpenClaim := { program := "ytljmfmbfgggndaa", sum := "f650dab9083dc6f953db15a0c6b0a08c714aa72763622986791f5b64c96d1432", func := "loop.example/g01204/laws.FnExactSizeOfTurn", spec := "fnExactSizeOfTurn", inPlace := ["math.sqrt"], apart := false }
def FnExactSizeOfTurnSaid : Prop := fnExactSizeOfTurnRow.holds Try.pinned (OpenSpec.ofChange fnExactSizeOfTurnSpec)

/-- ITS FALSE NEIGHBOUR: 'it returns false'. Refute it at one input. -/
def fnExactSizeOfTurnWrong : ChangeSpec := { name := "fnExactSizeOfTurn", fn := fun _ => fun
  | [d] => { results := [.lit (.bool false)], args := [d] }
  | _ => none }
def FnExactSizeOfTurnWrongFalsely : Prop := fnExactSizeOfTurnRow.holds Try.pinned (OpenSpec.ofChange fnExactSizeOfTurnWrong)

/-- 'laws.FnExactLengthOf': WHATEVER THE INPUT: true; the input reads as it did. -/
def fnExactLengthOfSpec : ChangeSpec := { name := "fnExactLengthOf", fn := fun _ => fun
  | [d] => { results := [.lit (.bool true)], args := [d] }
  | _ => none }
def fnExactLengthOfRow : OpenClaim := { program := "ytljmfmbfgggndaa", sum := "f650dab9083dc6f953db15a0c6b0a08c714aa72763622986791f5b64c96d1432", func := "loop.example/g01204/laws.FnExactLengthOf", spec := "fnExactLengthOf", inPlace := ["math.sqrt"], apart := false }
def FnExactLengthOfSaid : Prop := fnExactLengthOfRow.holds Try.pinned (OpenSpec.ofChange fnExactLengthOfSpec)

/-- ITS FALSE NEIGHBOUR: 'it returns false'. Refute it at one input. -/
def fnExactLengthOfWrong : ChangeSpec := { name := "fnExactLengthOf", fn := fun _ => fun
  | [d] => { results := [.lit (.bool false)], args := [d] }
  | _ => none }
def FnExactLengthOfWrongFalsely : Prop := fnExactLengthOfRow.holds Try.pinned (OpenSpec.ofChange fnExactLengthOfWrong)

/-- 'laws.FnExactNormTurn': WHATEVER THE INPUT: true; the input reads as it did. -/
def fnExactNormTurnSpec : ChangeSpec := { name := "fnExactNormTurn", fn := fun _ => fun
  | [d] => { results := [.lit (.bool true)], args := [d] }
  | _ => none }
def fnExactNormTurnRow : OpenClaim := { program := "ytljmfmbfgggndaa", sum := "f650dab9083dc6f953db15a0c6b0a08c714aa72763622986791f5b64c96d1432", func := "loop.example/g01204/laws.FnExactNormTurn", spec := "fnExactNormTurn", inPlace := ["math.sqrt"], apart := false }
def FnExactNormTurnSaid : Prop := fnExactNormTurnRow.holds Try.pinned (OpenSpec.ofChange fnExactNormTurnSpec)

/-- ITS FALSE NEIGHBOUR: 'it returns false'. Refute it at one input. -/
def fnExactNormTurnWrong : ChangeSpec := { name := "fnExactNormTurn", fn := fun _ => fun
  | [d] => { results := [.lit (.bool false)], args := [d] }
  | _ => none }
def FnExactNormTurnWrongFalsely : Prop := fnExactNormTurnRow.holds Try.pinned (OpenSpec.ofChange fnExactNormTurnWrong)

/-- 'laws.FnExactUnitOf': WHATEVER THE INPUT: true; the input reads as it did. -/
def fnExactUnitOfSpec : ChangeSpec := { name := "fnExactUnitOf", fn := fun _ => fun
  | [d] => { results := [.lit (.bool true)], args := [d] }
  | _ => none }
def fnExactUnitOfRow : OpenClaim := { program := "ytljmfmbfgggndaa", sum := "f650dab9083dc6f953db15a0c6b0a08c714aa72763622986791f5b64c96d1432", func := "loop.example/g01204/laws.FnExactUnitOf", spec := "fnExactUnitOf", inPlace := ["math.sqrt"], apart := false }
def FnExactUnitOfSaid : Prop := fnExactUnitOfRow.holds Try.pinned (OpenSpec.ofChange fnExactUnitOfSpec)

/-- ITS FALSE NEIGHBOUR: 'it returns false'. Refute it at one input. -/
def fnExactUnitOfWrong : ChangeSpec := { name := "fnExactUnitOf", fn := fun _ => fun
  | [d] => { results := [.lit (.bool false)], args := [d] }
  | _ => none }
def FnExactUnitOfWrongFalsely : Prop := fnExactUnitOfRow.holds Try.pinned (OpenSpec.ofChange fnExactUnitOfWrong)

/-- 'laws.FnExactCosineOf': WHATEVER THE INPUT: true; the input reads as it did. -/
def fnExactCosineOfSpec : ChangeSpec := { name := "fnExactCosineOf", fn := fun _ => fun
  | [d] => { results := [.lit (.bool true)], args := [d] }
  | _ => none }
def fnExactCosineOfRow : OpenClaim := { program := "ytljmfmbfgggndaa", sum := "f650dab9083dc6f953db15a0c6b0a08c714aa72763622986791f5b64c96d1432", func := "loop.example/g01204/laws.FnExactCosineOf", spec := "fnExactCosineOf", inPlace := ["math.Float64frombits", "math.archFloor", "math.Float64bits", "math.archTrunc"], apart := false }
def FnExactCosineOfSaid : Prop := fnExactCosineOfRow.holds Try.pinned (OpenSpec.ofChange fnExactCosineOfSpec)

/-- ITS FALSE NEIGHBOUR: 'it returns false'. Refute it at one input. -/
def fnExactCosineOfWrong : ChangeSpec := { name := "fnExactCosineOf", fn := fun _ => fun
  | [d] => { results := [.lit (.bool false)], args := [d] }
  | _ => none }
def FnExactCosineOfWrongFalsely : Prop := fnExactCosineOfRow.holds Try.pinned (OpenSpec.ofChange fnExactCosineOfWrong)

/-- 'laws.FnExactSineOf': WHATEVER THE INPUT: true; the input reads as it did. -/
def fnExactSineOfSpec : ChangeSpec := { name := "fnExactSineOf", fn := fun _ => fun
  | [d] => { results := [.lit (.bool true)], args := [d] }
  | _ => none }
def fnExactSineOfRow : OpenClaim := { program := "ytljmfmbfgggndaa", sum := "f650dab9083dc6f953db15a0c6b0a08c714aa72763622986791f5b64c96d1432", func := "loop.example/g01204/laws.FnExactSineOf", spec := "fnExactSineOf", inPlace := ["math.Float64frombits", "math.archFloor", "math.Float64bits", "math.archTrunc"], apart := false }
def FnExactSineOfSaid : Prop := fnExactSineOfRow.holds Try.pinned (OpenSpec.ofChange fnExactSineOfSpec)

/-- ITS FALSE NEIGHBOUR: 'it returns false'. Refute it at one input. -/
def fnExactSineOfWrong : ChangeSpec := { name := "fnExactSineOf", fn := fun _ => fun
  | [d] => { results := [.lit (.bool false)], args := [d] }
  | _ => none }
def FnExactSineOfWrongFalsely : Prop := fnExactSineOfRow.holds Try.pinned (OpenSpec.ofChange fnExactSineOfWrong)

/-- 'laws.FnExactSolveMat': WHATEVER THE INPUT: true; the input reads as it did. -/
def fnExactSolveMatSpec : ChangeSpec := { name := "fnExactSolveMat", fn := fun _ => fun
  | [d1, d2] => { results := [.lit (.bool true)], args := [d1, d2] }
  | _ => none }
def fnExactSolveMatRow : OpenClaim := { program := "ytljmfmbfgggndaa", sum := "f650dab9083dc6f953db15a0c6b0a08c714aa72763622986791f5b64c96d1432", func := "loop.example/g01204/laws.FnExactSolveMat", spec := "fnExactSolveMat", inPlace := ["math.Float32bits", "math.Float32frombits", "math.Float64bits", "math.Float64frombits"], apart := false }
def FnExactSolveMatSaid : Prop := fnExactSolveMatRow.holds Try.pinned (OpenSpec.ofChange fnExactSolveMatSpec)

/-- ITS FALSE NEIGHBOUR: 'it returns false'. Refute it at one input. -/
def fnExactSolveMatWrong : ChangeSpec := { name := "fnExactSolveMat", fn := fun _ => fun
  | [d1, d2] => { results := [.lit (.bool false)], args := [d1, d2] }
  | _ => none }
def FnExactSolveMatWrongFalsely : Prop := fnExactSolveMatRow.holds Try.pinned (OpenSpec.ofChange fnExactSolveMatWrong)

/-- 'laws.FnExactAngleOf': WHATEVER THE INPUT: true; the input reads as it did. -/
def fnExactAngleOfSpec : ChangeSpec := { name := "fnExactAngleOf", fn := fun _ => fun
  | [d1, d2] => { results := [.lit (.bool true)], args := [d1, d2] }
  | _ => none }
def fnExactAngleOfRow : OpenClaim := { program := "ytljmfmbfgggndaa", sum := "f650dab9083dc6f953db15a0c6b0a08c714aa72763622986791f5b64c96d1432", func := "loop.example/g01204/laws.FnExactAngleOf", spec := "fnExactAngleOf", inPlace := ["math.Float64frombits", "math.Float64bits", "math.sqrt"], apart := false }
def FnExactAngleOfSaid : Prop := fnExactAngleOfRow.holds Try.pinned (OpenSpec.ofChange fnExactAngleOfSpec)

/-- ITS FALSE NEIGHBOUR: 'it returns false'. Refute it at one input. -/
def fnExactAngleOfWrong : ChangeSpec := { name := "fnExactAngleOf", fn := fun _ => fun
  | [d1, d2] => { results := [.lit (.bool false)], args := [d1, d2] }
  | _ => none }
def FnExactAngleOfWrongFalsely : Prop := fnExactAngleOfRow.holds Try.pinned (OpenSpec.ofChange fnExactAngleOfWrong)

/-- 'laws.FnExactMixTurns': WHATEVER THE INPUT: true; the input reads as it did. -/
def fnExactMixTurnsSpec : ChangeSpec := { name := "fnExactMixTurns", fn := fun _ => fun
  | [d1, d2, d3] => { results := [.lit (.bool true)], args := [d1, d2, d3] }
  | _ => none }
def fnExactMixTurnsRow : OpenClaim := { program := "ytljmfmbfgggndaa", sum := "f650dab9083dc6f953db15a0c6b0a08c714aa72763622986791f5b64c96d1432", func := "loop.example/g01204/laws.FnExactMixTurns", spec := "fnExactMixTurns", inPlace := ["math.sqrt"], apart := false }
def FnExactMixTurnsSaid : Prop := fnExactMixTurnsRow.holds Try.pinned (OpenSpec.ofChange fnExactMixTurnsSpec)

/-- ITS FALSE NEIGHBOUR: 'it returns false'. Refute it at one input. -/
def fnExactMixTurnsWrong : ChangeSpec := { name := "fnExactMixTurns", fn := fun _ => fun
  | [d1, d2, d3] => { results := [.lit (.bool false)], args := [d1, d2, d3] }
  | _ => none }
def FnExactMixTurnsWrongFalsely : Prop := fnExactMixTurnsRow.holds Try.pinned (OpenSpec.ofChange fnExactMixTurnsWrong)

/-- 'laws.FnExactHeadingOf': WHATEVER THE INPUT: true; the input reads as it did. -/
def fnExactHeadingOfSpec : ChangeSpec := { name := "fnExactHeadingOf", fn := fun _ => fun
  | [d] => { results := [.lit (.bool true)], args := [d] }
  | _ => none }
def fnExactHeadingOfRow : OpenClaim := { program := "ytljmfmbfgggndaa", sum := "f650dab9083dc6f953db15a0c6b0a08c714aa72763622986791f5b64c96d1432", func := "loop.example/g01204/laws.FnExactHeadingOf", spec := "fnExactHeadingOf", inPlace := ["math.Float64frombits", "math.Float64bits", "math.sqrt"], apart := false }
def FnExactHeadingOfSaid : Prop := fnExactHeadingOfRow.holds Try.pinned (OpenSpec.ofChange fnExactHeadingOfSpec)

/-- ITS FALSE NEIGHBOUR: 'it returns false'. Refute it at one input. -/
def fnExactHeadingOfWrong : ChangeSpec := { name := "fnExactHeadingOf", fn := fun _ => fun
  | [d] => { results := [.lit (.bool false)], args := [d] }
  | _ => none }
def FnExactHeadingOfWrongFalsely : Prop := fnExactHeadingOfRow.holds Try.pinned (OpenSpec.ofChange fnExactHeadingOfWrong)

/-- 'laws.FnExactRootMat': WHATEVER THE INPUT: true; the input reads as it did. -/
def fnExactRootMatSpec : ChangeSpec := { name := "fnExactRootMat", fn := fun _ => fun
  | [d] => { results := [.lit (.bool true)], args := [d] }
  | _ => none }
def fnExactRootMatRow : OpenClaim := { program := "ytljmfmbfgggndaa", sum := "f650dab9083dc6f953db15a0c6b0a08c714aa72763622986791f5b64c96d1432", func := "loop.example/g01204/laws.FnExactRootMat", spec := "fnExactRootMat", inPlace := ["math.sqrt"], apart := false }
def FnExactRootMatSaid : Prop := fnExactRootMatRow.holds Try.pinned (OpenSpec.ofChange fnExactRootMatSpec)

/-- ITS FALSE NEIGHBOUR: 'it returns false'. Refute it at one input. -/
def fnExactRootMatWrong : ChangeSpec := { name := "fnExactRootMat", fn := fun _ => fun
  | [d] => { results := [.lit (.bool false)], args := [d] }
  | _ => none }
def FnExactRootMatWrongFalsely : Prop := fnExactRootMatRow.holds Try.pinned (OpenSpec.ofChange fnExactRootMatWrong)

/-- 'laws.FnExactTurnOfHeading': WHATEVER THE INPUT: true; the input reads as it did. -/
def fnExactTurnOfHeadingSpec : ChangeSpec := { name := "fnExactTurnOfHeading", fn := fun _ => fun
  | [d] => { results := [.lit (.bool true)], args := [d] }
  | _ => none }
def fnExactTurnOfHeadingRow : OpenClaim := { program := "ytljmfmbfgggndaa", sum := "f650dab9083dc6f953db15a0c6b0a08c714aa72763622986791f5b64c96d1432", func := "loop.example/g01204/laws.FnExactTurnOfHeading", spec := "fnExactTurnOfHeading", inPlace := ["math.Float64frombits", "math.archFloor", "math.Float64bits", "math.archTrunc"], apart := false }
def FnExactTurnOfHeadingSaid : Prop := fnExactTurnOfHeadingRow.holds Try.pinned (OpenSpec.ofChange fnExactTurnOfHeadingSpec)

/-- ITS FALSE NEIGHBOUR: 'it returns false'. Refute it at one input. -/
def fnExactTurnOfHeadingWrong : ChangeSpec := { name := "fnExactTurnOfHeading", fn := fun _ => fun
  | [d] => { results := [.lit (.bool false)], args := [d] }
  | _ => none }
def FnExactTurnOfHeadingWrongFalsely : Prop := fnExactTurnOfHeadingRow.holds Try.pinned (OpenSpec.ofChange fnExactTurnOfHeadingWrong)

/-- 'laws.FnExactAngleTo': WHATEVER THE INPUT: true; the input reads as it did. -/
def fnExactAngleToSpec : ChangeSpec := { name := "fnExactAngleTo", fn := fun _ => fun
  | [d1, d2] => { results := [.lit (.bool true)], args := [d1, d2] }
  | _ => none }
def fnExactAngleToRow : OpenClaim := { program := "ytljmfmbfgggndaa", sum := "f650dab9083dc6f953db15a0c6b0a08c714aa72763622986791f5b64c96d1432", func := "loop.example/g01204/laws.FnExactAngleTo", spec := "fnExactAngleTo", inPlace := ["math.Float64frombits", "math.Float64bits", "math.sqrt"], apart := false }
def FnExactAngleToSaid : Prop := fnExactAngleToRow.holds Try.pinned (OpenSpec.ofChange fnExactAngleToSpec)

/-- ITS FALSE NEIGHBOUR: 'it returns false'. Refute it at one input. -/
def fnExactAngleToWrong : ChangeSpec := { name := "fnExactAngleTo", fn := fun _ => fun
  | [d1, d2] => { results := [.lit (.bool false)], args := [d1, d2] }
  | _ => none }
def FnExactAngleToWrongFalsely : Prop := fnExactAngleToRow.holds Try.pinned (OpenSpec.ofChange fnExactAngleToWrong)

/-- 'laws.FnExactInverseMat': WHATEVER THE INPUT: true; the input reads as it did. -/
def fnExactInverseMatSpec : ChangeSpec := { name := "fnExactInverseMat", fn := fun _ => fun
  | [d] => { results := [.lit (.bool true)], args := [d] }
  | _ => none }
def fnExactInverseMatRow : OpenClaim := { program := "ytljmfmbfgggndaa", sum := "f650dab9083dc6f953db15a0c6b0a08c714aa72763622986791f5b64c96d1432", func := "loop.example/g01204/laws.FnExactInverseMat", spec := "fnExactInverseMat", inPlace := ["math.Float32bits", "math.Float32frombits", "math.Float64bits", "math.Float64frombits"], apart := false }
def FnExactInverseMatSaid : Prop := fnExactInverseMatRow.holds Try.pinned (OpenSpec.ofChange fnExactInverseMatSpec)

/-- ITS FALSE NEIGHBOUR: 'it returns false'. Refute it at one input. -/
def fnExactInverseMatWrong : ChangeSpec := { name := "fnExactInverseMat", fn := fun _ => fun
  | [d] => { results := [.lit (.bool false)], args := [d] }
  | _ => none }
def FnExactInverseMatWrongFalsely : Prop := fnExactInverseMatRow.holds Try.pinned (OpenSpec.ofChange fnExactInverseMatWrong)

/-- 'laws.FnExactAngleBetween': WHATEVER THE INPUT: true; the input reads as it did. -/
def fnExactAngleBetweenSpec : ChangeSpec := { name := "fnExactAngleBetween", fn := fun _ => fun
  | [d1, d2] => { results := [.lit (.bool true)], args := [d1, d2] }
  | _ => none }
def fnExactAngleBetweenRow : OpenClaim := { program := "ytljmfmbfgggndaa", sum := "f650dab9083dc6f953db15a0c6b0a08c714aa72763622986791f5b64c96d1432", func := "loop.example/g01204/laws.FnExactAngleBetween", spec := "fnExactAngleBetween", inPlace := ["math.sqrt", "math.Float32bits", "math.Float32frombits", "math.Float64frombits", "math.Float64bits"], apart := false }
def FnExactAngleBetweenSaid : Prop := fnExactAngleBetweenRow.holds Try.pinned (OpenSpec.ofChange fnExactAngleBetweenSpec)

/-- ITS FALSE NEIGHBOUR: 'it returns false'. Refute it at one input. -/
def fnExactAngleBetweenWrong : ChangeSpec := { name := "fnExactAngleBetween", fn := fun _ => fun
  | [d1, d2] => { results := [.lit (.bool false)], args := [d1, d2] }
  | _ => none }
def FnExactAngleBetweenWrongFalsely : Prop := fnExactAngleBetweenRow.holds Try.pinned (OpenSpec.ofChange fnExactAngleBetweenWrong)

/- THE SECOND FORM. 'bulk': how many values and letters a reading holds, each counted each time it is reached (what is shared counts as often as it is met; a slice's spare places count too). A statement '..UptoSaid' is the law's where the arguments, and the package variables that the reading takes, are together of bulk at most 1048576: NARROWER than '..Said'. Prove '..Said' where nothing that the law and all that it calls make is longer than what came in: it says more and counts as full. Else prove '..UptoSaid'. A law counts once. -/
mutual
def uptoBulk {H : Type} : DataW H → Nat
  | .lit (.string bytes) => bytes.length + 1
  | .lit _ => 1
  | .nil => 1
  | .ptr d => uptoBulk d + 1
  | .slice elems spare => uptoBulkAll elems + uptoBulkAll spare + 1
  | .agg parts => uptoBulkAll parts + 1
  | .iface _ d => uptoBulk d + 1
  | .map entries => uptoBulkEntries entries + 1
  | .held _ => 1
def uptoBulkAll {H : Type} : List (DataW H) → Nat
  | [] => 0
  | d :: r => uptoBulk d + uptoBulkAll r
def uptoBulkEntries {H : Type} : List (Lit × DataW H) → Nat
  | [] => 0
  | x :: r => uptoBulkEntry x + uptoBulkEntries r
def uptoBulkEntry {H : Type} : Lit × DataW H → Nat
  | (.string bytes, d) => bytes.length + uptoBulk d + 1
  | (_, d) => uptoBulk d + 1
 end
def uptoSmall : (H : Type) → List (DataW H) → Bool := fun _ ds => decide (uptoBulkAll ds ≤ 1048576)
def OpenSpec.upto (s : _root_.Go.ChangeSpec) : _root_.Go.OpenSpec := { _root_.Go.OpenSpec.ofChange s with cond := some uptoSmall }

/-- 'laws.FnExactSizeOfTurn', WHERE WHAT IT READS IS OF BULK AT MOST 1048576: true; the input reads as it did. -/
def fnExactSizeOfTurnUptoRow : OpenClaim := { program := "ytljmfmbfgggndaa", sum := "f650dab9083dc6f953db15a0c6b0a08c714aa72763622986791f5b64c96d1432", func := "loop.example/g01204/laws.FnExactSizeOfTurn", spec := "fnExactSizeOfTurn", inPlace := ["math.sqrt"], apart := false, narrowed := true }
def FnExactSizeOfTurnUptoSaid : Prop := fnExactSizeOfTurnUptoRow.holds Try.pinned (OpenSpec.upto fnExactSizeOfTurnSpec)

/-- 'laws.FnExactLengthOf', WHERE WHAT IT READS IS OF BULK AT MOST 1048576: true; the input reads as it did. -/
def fnExactLengthOfUptoRow : OpenClaim := { program := "ytljmfmbfgggndaa", sum := "f650dab9083dc6f953db15a0c6b0a08c714aa72763622986791f5b64c96d1432", func := "loop.example/g01204/laws.FnExactLengthOf", spec := "fnExactLengthOf", inPlace := ["math.sqrt"], apart := false, narrowed := true }
def FnExactLengthOfUptoSaid : Prop := fnExactLengthOfUptoRow.holds Try.pinned (OpenSpec.upto fnExactLengthOfSpec)

/-- 'laws.FnExactNormTurn', WHERE WHAT IT READS IS OF BULK AT MOST 1048576: true; the input reads as it did. -/
def fnExactNormTurnUptoRow : OpenClaim := { program := "ytljmfmbfgggndaa", sum := "f650dab9083dc6f953db15a0c6b0a08c714aa72763622986791f5b64c96d1432", func := "loop.example/g01204/laws.FnExactNormTurn", spec := "fnExactNormTurn", inPlace := ["math.sqrt"], apart := false, narrowed := true }
def FnExactNormTurnUptoSaid : Prop := fnExactNormTurnUptoRow.holds Try.pinned (OpenSpec.upto fnExactNormTurnSpec)

/-- 'laws.FnExactUnitOf', WHERE WHAT IT READS IS OF BULK AT MOST 1048576: true; the input reads as it did. -/
def fnExactUnitOfUptoRow : OpenClaim := { program := "ytljmfmbfgggndaa", sum := "f650dab9083dc6f953db15a0c6b0a08c714aa72763622986791f5b64c96d1432", func := "loop.example/g01204/laws.FnExactUnitOf", spec := "fnExactUnitOf", inPlace := ["math.sqrt"], apart := false, narrowed := true }
def FnExactUnitOfUptoSaid : Prop := fnExactUnitOfUptoRow.holds Try.pinned (OpenSpec.upto fnExactUnitOfSpec)

/-- 'laws.FnExactCosineOf', WHERE WHAT IT READS IS OF BULK AT MOST 1048576: true; the input reads as it did. -/
def fnExactCosineOfUptoRow : OpenClaim := { program := "ytljmfmbfgggndaa", sum := "f650dab9083dc6f953db15a0c6b0a08c714aa72763622986791f5b64c96d1432", func := "loop.example/g01204/laws.FnExactCosineOf", spec := "fnExactCosineOf", inPlace := ["math.Float64frombits", "math.archFloor", "math.Float64bits", "math.archTrunc"], apart := false, narrowed := true }
def FnExactCosineOfUptoSaid : Prop := fnExactCosineOfUptoRow.holds Try.pinned (OpenSpec.upto fnExactCosineOfSpec)

/-- 'laws.FnExactSineOf', WHERE WHAT IT READS IS OF BULK AT MOST 1048576: true; the input reads as it did. -/
def fnExactSineOfUptoRow : OpenClaim := { program := "ytljmfmbfgggndaa", sum := "f650dab9083dc6f953db15a0c6b0a08c714aa72763622986791f5b64c96d1432", func := "loop.example/g01204/laws.FnExactSineOf", spec := "fnExactSineOf", inPlace := ["math.Float64frombits", "math.archFloor", "math.Float64bits", "math.archTrunc"], apart := false, narrowed := true }
def FnExactSineOfUptoSaid : Prop := fnExactSineOfUptoRow.holds Try.pinned (OpenSpec.upto fnExactSineOfSpec)

/-- 'laws.FnExactSolveMat', WHERE WHAT IT READS IS OF BULK AT MOST 1048576: true; the input reads as it did. -/
def fnExactSolveMatUptoRow : OpenClaim := { program := "ytljmfmbfgggndaa", sum := "f650dab9083dc6f953db15a0c6b0a08c714aa72763622986791f5b64c96d1432", func := "loop.example/g01204/laws.FnExactSolveMat", spec := "fnExactSolveMat", inPlace := ["math.Float32bits", "math.Float32frombits", "math.Float64bits", "math.Float64frombits"], apart := false, narrowed := true }
def FnExactSolveMatUptoSaid : Prop := fnExactSolveMatUptoRow.holds Try.pinned (OpenSpec.upto fnExactSolveMatSpec)

/-- 'laws.FnExactAngleOf', WHERE WHAT IT READS IS OF BULK AT MOST 1048576: true; the input reads as it did. -/
def fnExactAngleOfUptoRow : OpenClaim := { program := "ytljmfmbfgggndaa", sum := "f650dab9083dc6f953db15a0c6b0a08c714aa72763622986791f5b64c96d1432", func := "loop.example/g01204/laws.FnExactAngleOf", spec := "fnExactAngleOf", inPlace := ["math.Float64frombits", "math.Float64bits", "math.sqrt"], apart := false, narrowed := true }
def FnExactAngleOfUptoSaid : Prop := fnExactAngleOfUptoRow.holds Try.pinned (OpenSpec.upto fnExactAngleOfSpec)

/-- 'laws.FnExactMixTurns', WHERE WHAT IT READS IS OF BULK AT MOST 1048576: true; the input reads as it did. -/
def fnExactMixTurnsUptoRow : OpenClaim := { program := "ytljmfmbfgggndaa", sum := "f650dab9083dc6f953db15a0c6b0a08c714aa72763622986791f5b64c96d1432", func := "loop.example/g01204/laws.FnExactMixTurns", spec := "fnExactMixTurns", inPlace := ["math.sqrt"], apart := false, narrowed := true }
def FnExactMixTurnsUptoSaid : Prop := fnExactMixTurnsUptoRow.holds Try.pinned (OpenSpec.upto fnExactMixTurnsSpec)

/-- 'laws.FnExactHeadingOf', WHERE WHAT IT READS IS OF BULK AT MOST 1048576: true; the input reads as it did. -/
def fnExactHeadingOfUptoRow : OpenClaim := { program := "ytljmfmbfgggndaa", sum := "f650dab9083dc6f953db15a0c6b0a08c714aa72763622986791f5b64c96d1432", func := "loop.example/g01204/laws.FnExactHeadingOf", spec := "fnExactHeadingOf", inPlace := ["math.Float64frombits", "math.Float64bits", "math.sqrt"], apart := false, narrowed := true }
def FnExactHeadingOfUptoSaid : Prop := fnExactHeadingOfUptoRow.holds Try.pinned (OpenSpec.upto fnExactHeadingOfSpec)

/-- 'laws.FnExactRootMat', WHERE WHAT IT READS IS OF BULK AT MOST 1048576: true; the input reads as it did. -/
def fnExactRootMatUptoRow : OpenClaim := { program := "ytljmfmbfgggndaa", sum := "f650dab9083dc6f953db15a0c6b0a08c714aa72763622986791f5b64c96d1432", func := "loop.example/g01204/laws.FnExactRootMat", spec := "fnExactRootMat", inPlace := ["math.sqrt"], apart := false, narrowed := true }
def FnExactRootMatUptoSaid : Prop := fnExactRootMatUptoRow.holds Try.pinned (OpenSpec.upto fnExactRootMatSpec)

/-- 'laws.FnExactTurnOfHeading', WHERE WHAT IT READS IS OF BULK AT MOST 1048576: true; the input reads as it did. -/
def fnExactTurnOfHeadingUptoRow : OpenClaim := { program := "ytljmfmbfgggndaa", sum := "f650dab9083dc6f953db15a0c6b0a08c714aa72763622986791f5b64c96d1432", func := "loop.example/g01204/laws.FnExactTurnOfHeading", spec := "fnExactTurnOfHeading", inPlace := ["math.Float64frombits", "math.archFloor", "math.Float64bits", "math.archTrunc"], apart := false, narrowed := true }
def FnExactTurnOfHeadingUptoSaid : Prop := fnExactTurnOfHeadingUptoRow.holds Try.pinned (OpenSpec.upto fnExactTurnOfHeadingSpec)

/-- 'laws.FnExactAngleTo', WHERE WHAT IT READS IS OF BULK AT MOST 1048576: true; the input reads as it did. -/
def fnExactAngleToUptoRow : OpenClaim := { program := "ytljmfmbfgggndaa", sum := "f650dab9083dc6f953db15a0c6b0a08c714aa72763622986791f5b64c96d1432", func := "loop.example/g01204/laws.FnExactAngleTo", spec := "fnExactAngleTo", inPlace := ["math.Float64frombits", "math.Float64bits", "math.sqrt"], apart := false, narrowed := true }
def FnExactAngleToUptoSaid : Prop := fnExactAngleToUptoRow.holds Try.pinned (OpenSpec.upto fnExactAngleToSpec)

/-- 'laws.FnExactInverseMat', WHERE WHAT IT READS IS OF BULK AT MOST 1048576: true; the input reads as it did. -/
def fnExactInverseMatUptoRow : OpenClaim := { program := "ytljmfmbfgggndaa", sum := "f650dab9083dc6f953db15a0c6b0a08c714aa72763622986791f5b64c96d1432", func := "loop.example/g01204/laws.FnExactInverseMat", spec := "fnExactInverseMat", inPlace := ["math.Float32bits", "math.Float32frombits", "math.Float64bits", "math.Float64frombits"], apart := false, narrowed := true }
def FnExactInverseMatUptoSaid : Prop := fnExactInverseMatUptoRow.holds Try.pinned (OpenSpec.upto fnExactInverseMatSpec)

/-- 'laws.FnExactAngleBetween', WHERE WHAT IT READS IS OF BULK AT MOST 1048576: true; the input reads as it did. -/
def fnExactAngleBetweenUptoRow : OpenClaim := { program := "ytljmfmbfgggndaa", sum := "f650dab9083dc6f953db15a0c6b0a08c714aa72763622986791f5b64c96d1432", func := "loop.example/g01204/laws.FnExactAngleBetween", spec := "fnExactAngleBetween", inPlace := ["math.sqrt", "math.Float32bits", "math.Float32frombits", "math.Float64frombits", "math.Float64bits"], apart := false, narrowed := true }
def FnExactAngleBetweenUptoSaid : Prop := fnExactAngleBetweenUptoRow.holds Try.pinned (OpenSpec.upto fnExactAngleBetweenSpec)

end Rows
end Go.Proofs.Ytljmfmbfgggndaa
