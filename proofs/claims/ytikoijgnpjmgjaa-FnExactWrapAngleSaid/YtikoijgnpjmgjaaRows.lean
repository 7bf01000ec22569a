/-
  No cell of these rows narrows 'for every input' (looked for: loops, veiled, ifaces, maps, wideKeys, modest, calm, conditions, laid).
  DERIVED. THE GIVEN ROWS OF THIS SEAT. 16 by the template 'for every input the law returns true; each argument reads behind the call as it read before'; 0 by the template 'total and deterministic' (their statements: YtikoijgnpjmgjaaTotals.lean).
  GIVEN WITH THE SEED: the statements are not yours to turn. If you find one false, say at which input.
  Laid BY PROGRAM, IN A SANDBOX (cutbox-rows.mjs): the forced cells as the released guide's own fill.sh prints them over the translation 6de620493723552a… (all of the seat's roots in one cut). By AI agents, Wed Nov 11 2026. No macro, syntax, notation, axiom, sorry.
-/
import Derived.Test.YtikoijgnpjmgjaaChecked
import GoSem.Claim
import GoSem.ClaimJoined
import GoSem.ClaimMapViews
import Derived.JoinedTies
import Derived.KernelRfl
namespace Go.Proofs.Ytikoijgnpjmgjaa
/- THE CELL 'sum', in the pinned program and in every row, IS THE sha256 OF THE DUMP (.gsa) THAT YtikoijgnpjmgjaaProg.lean LOADS. Nothing in Lean hashes anything: it is a label: what it is worth is what the hold of that sum in a sandbox is worth. -/
noncomputable def Try.pinned : Pinned := { name := "ytikoijgnpjmgjaa", sum := "6de620493723552ac718c50dc65fafbdf3d3b0a013b28469eab48d074b6ac98d", checked := Try.checked }
namespace Rows
def none {H : Type} : Left H := { results := [], args := [] }

/-- 'laws.FnExactAreNear': WHATEVER THE INPUT: true; the input reads as it did. -/
def fnExactAreNearSpec : ChangeSpec := { name := "fnExactAreNear", fn := fun _ => fun
  | [d1, d2, d3] => { results := [.lit (.bool true)], args := [d1, d2, d3] }
  | _ => none }
def fnExactAreNearRow : OpenClaim := { program := "ytikoijgnpjmgjaa", sum := "6de620493723552ac718c50dc65fafbdf3d3b0a013b28469eab48d074b6ac98d", func := "loop.example/g01204/laws.FnExactAreNear", spec := "fnExactAreNear", inPlace := ["math.Float32bits", "math.Float32frombits", "math.Float64bits", "math.Float64frombits"], apart := false }
def FnExactAreNearSaid : Prop := fnExactAreNearRow.holds Try.pinned (OpenSpec.ofChange fnExactAreNearSpec)

/-- ITS FALSE NEIGHBOUR: 'it returns false'. Refute it at one input. -/
def fnExactAreNearWrong : ChangeSpec := { name := "fnExactAreNear", fn := fun _ => fun
  | [d1, d2, d3] => { results := [.lit (.bool false)], args := [d1, d2, d3] }
  | _ => none }
def FnExactAreNearWrongFalsely : Prop := fnExactAreNearRow.holds Try.pinned (OpenSpec.ofChange fnExactAreNearWrong)

/-- 'laws.FnExactScaleVec': WHATEVER THE INPUT: true; the input reads as it did. -/
def fnExactScaleVecSpec : ChangeSpec := { name := "fnExactScaleVec", fn := fun _ => fun
  | [d1, d2] => { results := [.lit (.bool true)], args := [d1, d2] }
  | _ => none }
def fnExactScaleVecRow : OpenClaim := { program := "ytikoijgnpjmgjaa", sum := "6de620493723552ac718c50dc65fafbdf3d3b0a013b28469eab48d074b6ac98d", func := "loop.example/g01204/laws.FnExactScaleVec", spec := "fnExactScaleVec", apart := false }
def FnExactScaleVecSaid : Prop := fnExactScaleVecRow.holds Try.pinned (OpenSpec.ofChange fnExactScaleVecSpec)

/-- ITS FALSE NEIGHBOUR: 'it returns false'. Refute it at one input. -/
def fnExactScaleVecWrong : ChangeSpec := { name := "fnExactScaleVec", fn := fun _ => fun
  | [d1, d2] => { results := [.lit (.bool false)], args := [d1, d2] }
  | _ => none }
def FnExactScaleVecWrongFalsely : Prop := fnExactScaleVecRow.holds Try.pinned (OpenSpec.ofChange fnExactScaleVecWrong)

/-- 'laws.FnExactDotVec': WHATEVER THE INPUT: true; the input reads as it did. -/
def fnExactDotVecSpec : ChangeSpec := { name := "fnExactDotVec", fn := fun _ => fun
  | [d1, d2] => { results := [.lit (.bool true)], args := [d1, d2] }
  | _ => none }
def fnExactDotVecRow : OpenClaim := { program := "ytikoijgnpjmgjaa", sum := "6de620493723552ac718c50dc65fafbdf3d3b0a013b28469eab48d074b6ac98d", func := "loop.example/g01204/laws.FnExactDotVec", spec := "fnExactDotVec", apart := false }
def FnExactDotVecSaid : Prop := fnExactDotVecRow.holds Try.pinned (OpenSpec.ofChange fnExactDotVecSpec)

/-- ITS FALSE NEIGHBOUR: 'it returns false'. Refute it at one input. -/
def fnExactDotVecWrong : ChangeSpec := { name := "fnExactDotVec", fn := fun _ => fun
  | [d1, d2] => { results := [.lit (.bool false)], args := [d1, d2] }
  | _ => none }
def FnExactDotVecWrongFalsely : Prop := fnExactDotVecRow.holds Try.pinned (OpenSpec.ofChange fnExactDotVecWrong)

/-- 'laws.FnExactCrossVec': WHATEVER THE INPUT: true; the input reads as it did. -/
def fnExactCrossVecSpec : ChangeSpec := { name := "fnExactCrossVec", fn := fun _ => fun
  | [d1, d2] => { results := [.lit (.bool true)], args := [d1, d2] }
  | _ => none }
def fnExactCrossVecRow : OpenClaim := { program := "ytikoijgnpjmgjaa", sum := "6de620493723552ac718c50dc65fafbdf3d3b0a013b28469eab48d074b6ac98d", func := "loop.example/g01204/laws.FnExactCrossVec", spec := "fnExactCrossVec", apart := false }
def FnExactCrossVecSaid : Prop := fnExactCrossVecRow.holds Try.pinned (OpenSpec.ofChange fnExactCrossVecSpec)

/-- ITS FALSE NEIGHBOUR: 'it returns false'. Refute it at one input. -/
def fnExactCrossVecWrong : ChangeSpec := { name := "fnExactCrossVec", fn := fun _ => fun
  | [d1, d2] => { results := [.lit (.bool false)], args := [d1, d2] }
  | _ => none }
def FnExactCrossVecWrongFalsely : Prop := fnExactCrossVecRow.holds Try.pinned (OpenSpec.ofChange fnExactCrossVecWrong)

/-- 'laws.FnExactMulTurns': WHATEVER THE INPUT: true; the input reads as it did. -/
def fnExactMulTurnsSpec : ChangeSpec := { name := "fnExactMulTurns", fn := fun _ => fun
  | [d1, d2] => { results := [.lit (.bool true)], args := [d1, d2] }
  | _ => none }
def fnExactMulTurnsRow : OpenClaim := { program := "ytikoijgnpjmgjaa", sum := "6de620493723552ac718c50dc65fafbdf3d3b0a013b28469eab48d074b6ac98d", func := "loop.example/g01204/laws.FnExactMulTurns", spec := "fnExactMulTurns", apart := false }
def FnExactMulTurnsSaid : Prop := fnExactMulTurnsRow.holds Try.pinned (OpenSpec.ofChange fnExactMulTurnsSpec)

/-- ITS FALSE NEIGHBOUR: 'it returns false'. Refute it at one input. -/
def fnExactMulTurnsWrong : ChangeSpec := { name := "fnExactMulTurns", fn := fun _ => fun
  | [d1, d2] => { results := [.lit (.bool false)], args := [d1, d2] }
  | _ => none }
def FnExactMulTurnsWrongFalsely : Prop := fnExactMulTurnsRow.holds Try.pinned (OpenSpec.ofChange fnExactMulTurnsWrong)

/-- 'laws.FnExactSameMat': WHATEVER THE INPUT: true; the input reads as it did. -/
def fnExactSameMatSpec : ChangeSpec := { name := "fnExactSameMat", fn := fun _ => fun
  | [d1, d2] => { results := [.lit (.bool true)], args := [d1, d2] }
  | _ => none }
def fnExactSameMatRow : OpenClaim := { program := "ytikoijgnpjmgjaa", sum := "6de620493723552ac718c50dc65fafbdf3d3b0a013b28469eab48d074b6ac98d", func := "loop.example/g01204/laws.FnExactSameMat", spec := "fnExactSameMat", inPlace := ["math.Float32bits"], apart := false }
def FnExactSameMatSaid : Prop := fnExactSameMatRow.holds Try.pinned (OpenSpec.ofChange fnExactSameMatSpec)

/-- ITS FALSE NEIGHBOUR: 'it returns false'. Refute it at one input. -/
def fnExactSameMatWrong : ChangeSpec := { name := "fnExactSameMat", fn := fun _ => fun
  | [d1, d2] => { results := [.lit (.bool false)], args := [d1, d2] }
  | _ => none }
def FnExactSameMatWrongFalsely : Prop := fnExactSameMatRow.holds Try.pinned (OpenSpec.ofChange fnExactSameMatWrong)

/-- 'laws.FnExactDeterminantOf': WHATEVER THE INPUT: true; the input reads as it did. -/
def fnExactDeterminantOfSpec : ChangeSpec := { name := "fnExactDeterminantOf", fn := fun _ => fun
  | [d] => { results := [.lit (.bool true)], args := [d] }
  | _ => none }
def fnExactDeterminantOfRow : OpenClaim := { program := "ytikoijgnpjmgjaa", sum := "6de620493723552ac718c50dc65fafbdf3d3b0a013b28469eab48d074b6ac98d", func := "loop.example/g01204/laws.FnExactDeterminantOf", spec := "fnExactDeterminantOf", apart := false }
def FnExactDeterminantOfSaid : Prop := fnExactDeterminantOfRow.holds Try.pinned (OpenSpec.ofChange fnExactDeterminantOfSpec)

/-- ITS FALSE NEIGHBOUR: 'it returns false'. Refute it at one input. -/
def fnExactDeterminantOfWrong : ChangeSpec := { name := "fnExactDeterminantOf", fn := fun _ => fun
  | [d] => { results := [.lit (.bool false)], args := [d] }
  | _ => none }
def FnExactDeterminantOfWrongFalsely : Prop := fnExactDeterminantOfRow.holds Try.pinned (OpenSpec.ofChange fnExactDeterminantOfWrong)

/-- 'laws.FnExactOuterOf': WHATEVER THE INPUT: true; the input reads as it did. -/
def fnExactOuterOfSpec : ChangeSpec := { name := "fnExactOuterOf", fn := fun _ => fun
  | [d1, d2] => { results := [.lit (.bool true)], args := [d1, d2] }
  | _ => none }
def fnExactOuterOfRow : OpenClaim := { program := "ytikoijgnpjmgjaa", sum := "6de620493723552ac718c50dc65fafbdf3d3b0a013b28469eab48d074b6ac98d", func := "loop.example/g01204/laws.FnExactOuterOf", spec := "fnExactOuterOf", apart := false }
def FnExactOuterOfSaid : Prop := fnExactOuterOfRow.holds Try.pinned (OpenSpec.ofChange fnExactOuterOfSpec)

/-- ITS FALSE NEIGHBOUR: 'it returns false'. Refute it at one input. -/
def fnExactOuterOfWrong : ChangeSpec := { name := "fnExactOuterOf", fn := fun _ => fun
  | [d1, d2] => { results := [.lit (.bool false)], args := [d1, d2] }
  | _ => none }
def FnExactOuterOfWrongFalsely : Prop := fnExactOuterOfRow.holds Try.pinned (OpenSpec.ofChange fnExactOuterOfWrong)

/-- 'laws.FnExactTurnMatrix': WHATEVER THE INPUT: true; the input reads as it did. -/
def fnExactTurnMatrixSpec : ChangeSpec := { name := "fnExactTurnMatrix", fn := fun _ => fun
  | [d] => { results := [.lit (.bool true)], args := [d] }
  | _ => none }
def fnExactTurnMatrixRow : OpenClaim := { program := "ytikoijgnpjmgjaa", sum := "6de620493723552ac718c50dc65fafbdf3d3b0a013b28469eab48d074b6ac98d", func := "loop.example/g01204/laws.FnExactTurnMatrix", spec := "fnExactTurnMatrix", apart := false }
def FnExactTurnMatrixSaid : Prop := fnExactTurnMatrixRow.holds Try.pinned (OpenSpec.ofChange fnExactTurnMatrixSpec)

/-- ITS FALSE NEIGHBOUR: 'it returns false'. Refute it at one input. -/
def fnExactTurnMatrixWrong : ChangeSpec := { name := "fnExactTurnMatrix", fn := fun _ => fun
  | [d] => { results := [.lit (.bool false)], args := [d] }
  | _ => none }
def FnExactTurnMatrixWrongFalsely : Prop := fnExactTurnMatrixRow.holds Try.pinned (OpenSpec.ofChange fnExactTurnMatrixWrong)

/-- 'laws.FnExactTransposeMat': WHATEVER THE INPUT: true; the input reads as it did. -/
def fnExactTransposeMatSpec : ChangeSpec := { name := "fnExactTransposeMat", fn := fun _ => fun
  | [d] => { results := [.lit (.bool true)], args := [d] }
  | _ => none }
def fnExactTransposeMatRow : OpenClaim := { program := "ytikoijgnpjmgjaa", sum := "6de620493723552ac718c50dc65fafbdf3d3b0a013b28469eab48d074b6ac98d", func := "loop.example/g01204/laws.FnExactTransposeMat", spec := "fnExactTransposeMat", apart := false }
def FnExactTransposeMatSaid : Prop := fnExactTransposeMatRow.holds Try.pinned (OpenSpec.ofChange fnExactTransposeMatSpec)

/-- ITS FALSE NEIGHBOUR: 'it returns false'. Refute it at one input. -/
def fnExactTransposeMatWrong : ChangeSpec := { name := "fnExactTransposeMat", fn := fun _ => fun
  | [d] => { results := [.lit (.bool false)], args := [d] }
  | _ => none }
def FnExactTransposeMatWrongFalsely : Prop := fnExactTransposeMatRow.holds Try.pinned (OpenSpec.ofChange fnExactTransposeMatWrong)

/-- 'laws.FnExactAddMat': WHATEVER THE INPUT: true; the input reads as it did. -/
def fnExactAddMatSpec : ChangeSpec := { name := "fnExactAddMat", fn := fun _ => fun
  | [d1, d2] => { results := [.lit (.bool true)], args := [d1, d2] }
  | _ => none }
def fnExactAddMatRow : OpenClaim := { program := "ytikoijgnpjmgjaa", sum := "6de620493723552ac718c50dc65fafbdf3d3b0a013b28469eab48d074b6ac98d", func := "loop.example/g01204/laws.FnExactAddMat", spec := "fnExactAddMat", apart := false }
def FnExactAddMatSaid : Prop := fnExactAddMatRow.holds Try.pinned (OpenSpec.ofChange fnExactAddMatSpec)

/-- ITS FALSE NEIGHBOUR: 'it returns false'. Refute it at one input. -/
def fnExactAddMatWrong : ChangeSpec := { name := "fnExactAddMat", fn := fun _ => fun
  | [d1, d2] => { results := [.lit (.bool false)], args := [d1, d2] }
  | _ => none }
def FnExactAddMatWrongFalsely : Prop := fnExactAddMatRow.holds Try.pinned (OpenSpec.ofChange fnExactAddMatWrong)

/-- 'laws.FnExactScaleMat': WHATEVER THE INPUT: true; the input reads as it did. -/
def fnExactScaleMatSpec : ChangeSpec := { name := "fnExactScaleMat", fn := fun _ => fun
  | [d1, d2] => { results := [.lit (.bool true)], args := [d1, d2] }
  | _ => none }
def fnExactScaleMatRow : OpenClaim := { program := "ytikoijgnpjmgjaa", sum := "6de620493723552ac718c50dc65fafbdf3d3b0a013b28469eab48d074b6ac98d", func := "loop.example/g01204/laws.FnExactScaleMat", spec := "fnExactScaleMat", apart := false }
def FnExactScaleMatSaid : Prop := fnExactScaleMatRow.holds Try.pinned (OpenSpec.ofChange fnExactScaleMatSpec)

/-- ITS FALSE NEIGHBOUR: 'it returns false'. Refute it at one input. -/
def fnExactScaleMatWrong : ChangeSpec := { name := "fnExactScaleMat", fn := fun _ => fun
  | [d1, d2] => { results := [.lit (.bool false)], args := [d1, d2] }
  | _ => none }
def FnExactScaleMatWrongFalsely : Prop := fnExactScaleMatRow.holds Try.pinned (OpenSpec.ofChange fnExactScaleMatWrong)

/-- 'laws.FnExactMulMatVec': WHATEVER THE INPUT: true; the input reads as it did. -/
def fnExactMulMatVecSpec : ChangeSpec := { name := "fnExactMulMatVec", fn := fun _ => fun
  | [d1, d2] => { results := [.lit (.bool true)], args := [d1, d2] }
  | _ => none }
def fnExactMulMatVecRow : OpenClaim := { program := "ytikoijgnpjmgjaa", sum := "6de620493723552ac718c50dc65fafbdf3d3b0a013b28469eab48d074b6ac98d", func := "loop.example/g01204/laws.FnExactMulMatVec", spec := "fnExactMulMatVec", apart := false }
def FnExactMulMatVecSaid : Prop := fnExactMulMatVecRow.holds Try.pinned (OpenSpec.ofChange fnExactMulMatVecSpec)

/-- ITS FALSE NEIGHBOUR: 'it returns false'. Refute it at one input. -/
def fnExactMulMatVecWrong : ChangeSpec := { name := "fnExactMulMatVec", fn := fun _ => fun
  | [d1, d2] => { results := [.lit (.bool false)], args := [d1, d2] }
  | _ => none }
def FnExactMulMatVecWrongFalsely : Prop := fnExactMulMatVecRow.holds Try.pinned (OpenSpec.ofChange fnExactMulMatVecWrong)

/-- 'laws.FnExactTurnVec': WHATEVER THE INPUT: true; the input reads as it did. -/
def fnExactTurnVecSpec : ChangeSpec := { name := "fnExactTurnVec", fn := fun _ => fun
  | [d1, d2] => { results := [.lit (.bool true)], args := [d1, d2] }
  | _ => none }
def fnExactTurnVecRow : OpenClaim := { program := "ytikoijgnpjmgjaa", sum := "6de620493723552ac718c50dc65fafbdf3d3b0a013b28469eab48d074b6ac98d", func := "loop.example/g01204/laws.FnExactTurnVec", spec := "fnExactTurnVec", apart := false }
def FnExactTurnVecSaid : Prop := fnExactTurnVecRow.holds Try.pinned (OpenSpec.ofChange fnExactTurnVecSpec)

/-- ITS FALSE NEIGHBOUR: 'it returns false'. Refute it at one input. -/
def fnExactTurnVecWrong : ChangeSpec := { name := "fnExactTurnVec", fn := fun _ => fun
  | [d1, d2] => { results := [.lit (.bool false)], args := [d1, d2] }
  | _ => none }
def FnExactTurnVecWrongFalsely : Prop := fnExactTurnVecRow.holds Try.pinned (OpenSpec.ofChange fnExactTurnVecWrong)

/-- 'laws.FnExactWrapAngle': WHATEVER THE INPUT: true; the input reads as it did. -/
def fnExactWrapAngleSpec : ChangeSpec := { name := "fnExactWrapAngle", fn := fun _ => fun
  | [d] => { results := [.lit (.bool true)], args := [d] }
  | _ => none }
def fnExactWrapAngleRow : OpenClaim := { program := "ytikoijgnpjmgjaa", sum := "6de620493723552ac718c50dc65fafbdf3d3b0a013b28469eab48d074b6ac98d", func := "loop.example/g01204/laws.FnExactWrapAngle", spec := "fnExactWrapAngle", inPlace := ["math.Float64frombits", "math.RoundToEven"], apart := false }
def FnExactWrapAngleSaid : Prop := fnExactWrapAngleRow.holds Try.pinned (OpenSpec.ofChange fnExactWrapAngleSpec)

/-- ITS FALSE NEIGHBOUR: 'it returns false'. Refute it at one input. -/
def fnExactWrapAngleWrong : ChangeSpec := { name := "fnExactWrapAngle", fn := fun _ => fun
  | [d] => { results := [.lit (.bool false)], args := [d] }
  | _ => none }
def FnExactWrapAngleWrongFalsely : Prop := fnExactWrapAngleRow.holds Try.pinned (OpenSpec.ofChange fnExactWrapAngleWrong)

/-- 'laws.FnExactMulMat': WHATEVER THE INPUT: true; the input reads as it did. -/
def fnExactMulMatSpec : ChangeSpec := { name := "fnExactMulMat", fn := fun _ => fun
  | [d1, d2] => { results := [.lit (.bool true)], args := [d1, d2] }
  | _ => none }
def fnExactMulMatRow : OpenClaim := { program := "ytikoijgnpjmgjaa", sum := "6de620493723552ac718c50dc65fafbdf3d3b0a013b28469eab48d074b6ac98d", func := "loop.example/g01204/laws.FnExactMulMat", spec := "fnExactMulMat", apart := false }
def FnExactMulMatSaid : Prop := fnExactMulMatRow.holds Try.pinned (OpenSpec.ofChange fnExactMulMatSpec)

/-- ITS FALSE NEIGHBOUR: 'it returns false'. Refute it at one input. -/
def fnExactMulMatWrong : ChangeSpec := { name := "fnExactMulMat", fn := fun _ => fun
  | [d1, d2] => { results := [.lit (.bool false)], args := [d1, d2] }
  | _ => none }
def FnExactMulMatWrongFalsely : Prop := fnExactMulMatRow.holds Try.pinned (OpenSpec.ofChange fnExactMulMatWrong)

/- THE SECOND FORM. 'bulk': how many values and letters a reading holds, each counted each time it is reached (what is shared counts as often as it is met; a slice's spare places count too). A statement '..UptoSaid' is the law's where the arguments, and the package variables that the reading takes, are together of bulk at most 1048576: NARROWER than '..Said'. Prove '..Said' where nothing that the law and all that it calls make is longer than what came in: it says more and counts as full. Else prove '..UptoSaid'. A law counts once. -/
mutual
def uptoBulk {H : Type} : DataW H → Nat
  | .lit (.string bytes) => bytes.length + 1
  | .lit _ => 1
  | .nil => 1
  | .ptr d => uptoBulk d + 1
  | .slice elems spare => uptoBulkAll elems + uptoBulkAll spare + 1
  | .agg parts => uptoBulkAll parts + 1
  | .iface _ d => uptoBulk d + 1
  | .map entries => uptoBulkEntries entries + 1
  | .held _ => 1
def uptoBulkAll {H : Type} : List (DataW H) → Nat
  | [] => 0
  | d :: r => uptoBulk d + uptoBulkAll r
def uptoBulkEntries {H : Type} : List (Lit × DataW H) → Nat
  | [] => 0
  | x :: r => uptoBulkEntry x + uptoBulkEntries r
def uptoBulkEntry {H : Type} : Lit × DataW H → Nat
  | (.string bytes, d) => bytes.length + uptoBulk d + 1
  | (_, d) => uptoBulk d + 1
 end
def uptoSmall : (H : Type) → List (DataW H) → Bool := fun _ ds => decide (uptoBulkAll ds ≤ 1048576)
def OpenSpec.upto (s : _root_.Go.ChangeSpec) : _root_.Go.OpenSpec := { _root_.Go.OpenSpec.ofChange s with cond := some uptoSmall }

/-- 'laws.FnExactAreNear', WHERE WHAT IT READS IS OF BULK AT MOST 1048576: true; the input reads as it did. -/
def fnExactAreNearUptoRow : OpenClaim := { program := "ytikoijgnpjmgjaa", sum := "6de620493723552ac718c50dc65fafbdf3d3b0a013b28469eab48d074b6ac98d", func := "loop.example/g01204/laws.FnExactAreNear", spec := "fnExactAreNear", inPlace := ["math.Float32bits", "math.Float32frombits", "math.Float64bits", "math.Float64frombits"], apart := false, narrowed := true }
def FnExactAreNearUptoSaid : Prop := fnExactAreNearUptoRow.holds Try.pinned (OpenSpec.upto fnExactAreNearSpec)

/-- 'laws.FnExactScaleVec', WHERE WHAT IT READS IS OF BULK AT MOST 1048576: true; the input reads as it did. -/
def fnExactScaleVecUptoRow : OpenClaim := { program := "ytikoijgnpjmgjaa", sum := "6de620493723552ac718c50dc65fafbdf3d3b0a013b28469eab48d074b6ac98d", func := "loop.example/g01204/laws.FnExactScaleVec", spec := "fnExactScaleVec", apart := false, narrowed := true }
def FnExactScaleVecUptoSaid : Prop := fnExactScaleVecUptoRow.holds Try.pinned (OpenSpec.upto fnExactScaleVecSpec)

/-- 'laws.FnExactDotVec', WHERE WHAT IT READS IS OF BULK AT MOST 1048576: true; the input reads as it did. -/
def fnExactDotVecUptoRow : OpenClaim := { program := "ytikoijgnpjmgjaa", sum := "6de620493723552ac718c50dc65fafbdf3d3b0a013b28469eab48d074b6ac98d", func := "loop.example/g01204/laws.FnExactDotVec", spec := "fnExactDotVec", apart := false, narrowed := true }
def FnExactDotVecUptoSaid : Prop := fnExactDotVecUptoRow.holds Try.pinned (OpenSpec.upto fnExactDotVecSpec)

/-- 'laws.FnExactCrossVec', WHERE WHAT IT READS IS OF BULK AT MOST 1048576: true; the input reads as it did. -/
def fnExactCrossVecUptoRow : OpenClaim := { program := "ytikoijgnpjmgjaa", sum := "6de620493723552ac718c50dc65fafbdf3d3b0a013b28469eab48d074b6ac98d", func := "loop.example/g01204/laws.FnExactCrossVec", spec := "fnExactCrossVec", apart := false, narrowed := true }
def FnExactCrossVecUptoSaid : Prop := fnExactCrossVecUptoRow.holds Try.pinned (OpenSpec.upto fnExactCrossVecSpec)

/-- 'laws.FnExactMulTurns', WHERE WHAT IT READS IS OF BULK AT MOST 1048576: true; the input reads as it did. -/
def fnExactMulTurnsUptoRow : OpenClaim := { program := "ytikoijgnpjmgjaa", sum := "6de620493723552ac718c50dc65fafbdf3d3b0a013b28469eab48d074b6ac98d", func := "loop.example/g01204/laws.FnExactMulTurns", spec := "fnExactMulTurns", apart := false, narrowed := true }
def FnExactMulTurnsUptoSaid : Prop := fnExactMulTurnsUptoRow.holds Try.pinned (OpenSpec.upto fnExactMulTurnsSpec)

/-- 'laws.FnExactSameMat', WHERE WHAT IT READS IS OF BULK AT MOST 1048576: true; the input reads as it did. -/
def fnExactSameMatUptoRow : OpenClaim := { program := "ytikoijgnpjmgjaa", sum := "6de620493723552ac718c50dc65fafbdf3d3b0a013b28469eab48d074b6ac98d", func := "loop.example/g01204/laws.FnExactSameMat", spec := "fnExactSameMat", inPlace := ["math.Float32bits"], apart := false, narrowed := true }
def FnExactSameMatUptoSaid : Prop := fnExactSameMatUptoRow.holds Try.pinned (OpenSpec.upto fnExactSameMatSpec)

/-- 'laws.FnExactDeterminantOf', WHERE WHAT IT READS IS OF BULK AT MOST 1048576: true; the input reads as it did. -/
def fnExactDeterminantOfUptoRow : OpenClaim := { program := "ytikoijgnpjmgjaa", sum := "6de620493723552ac718c50dc65fafbdf3d3b0a013b28469eab48d074b6ac98d", func := "loop.example/g01204/laws.FnExactDeterminantOf", spec := "fnExactDeterminantOf", apart := false, narrowed := true }
def FnExactDeterminantOfUptoSaid : Prop := fnExactDeterminantOfUptoRow.holds Try.pinned (OpenSpec.upto fnExactDeterminantOfSpec)

/-- 'laws.FnExactOuterOf', WHERE WHAT IT READS IS OF BULK AT MOST 1048576: true; the input reads as it did. -/
def fnExactOuterOfUptoRow : OpenClaim := { program := "ytikoijgnpjmgjaa", sum := "6de620493723552ac718c50dc65fafbdf3d3b0a013b28469eab48d074b6ac98d", func := "loop.example/g01204/laws.FnExactOuterOf", spec := "fnExactOuterOf", apart := false, narrowed := true }
def FnExactOuterOfUptoSaid : Prop := fnExactOuterOfUptoRow.holds Try.pinned (OpenSpec.upto fnExactOuterOfSpec)

/-- 'laws.FnExactTurnMatrix', WHERE WHAT IT READS IS OF BULK AT MOST 1048576: true; the input reads as it did. -/
def fnExactTurnMatrixUptoRow : OpenClaim := { program := "ytikoijgnpjmgjaa", sum := "6de620493723552ac718c50dc65fafbdf3d3b0a013b28469eab48d074b6ac98d", func := "loop.example/g01204/laws.FnExactTurnMatrix", spec := "fnExactTurnMatrix", apart := false, narrowed := true }
def FnExactTurnMatrixUptoSaid : Prop := fnExactTurnMatrixUptoRow.holds Try.pinned (OpenSpec.upto fnExactTurnMatrixSpec)

/-- 'laws.FnExactTransposeMat', WHERE WHAT IT READS IS OF BULK AT MOST 1048576: true; the input reads as it did. -/
def fnExactTransposeMatUptoRow : OpenClaim := { program := "ytikoijgnpjmgjaa", sum := "6de620493723552ac718c50dc65fafbdf3d3b0a013b28469eab48d074b6ac98d", func := "loop.example/g01204/laws.FnExactTransposeMat", spec := "fnExactTransposeMat", apart := false, narrowed := true }
def FnExactTransposeMatUptoSaid : Prop := fnExactTransposeMatUptoRow.holds Try.pinned (OpenSpec.upto fnExactTransposeMatSpec)

/-- 'laws.FnExactAddMat', WHERE WHAT IT READS IS OF BULK AT MOST 1048576: true; the input reads as it did. -/
def fnExactAddMatUptoRow : OpenClaim := { program := "ytikoijgnpjmgjaa", sum := "6de620493723552ac718c50dc65fafbdf3d3b0a013b28469eab48d074b6ac98d", func := "loop.example/g01204/laws.FnExactAddMat", spec := "fnExactAddMat", apart := false, narrowed := true }
def FnExactAddMatUptoSaid : Prop := fnExactAddMatUptoRow.holds Try.pinned (OpenSpec.upto fnExactAddMatSpec)

/-- 'laws.FnExactScaleMat', WHERE WHAT IT READS IS OF BULK AT MOST 1048576: true; the input reads as it did. -/
def fnExactScaleMatUptoRow : OpenClaim := { program := "ytikoijgnpjmgjaa", sum := "6de620493723552ac718c50dc65fafbdf3d3b0a013b28469eab48d074b6ac98d", func := "loop.example/g01204/laws.FnExactScaleMat", spec := "fnExactScaleMat", apart := false, narrowed := true }
def FnExactScaleMatUptoSaid : Prop := fnExactScaleMatUptoRow.holds Try.pinned (OpenSpec.upto fnExactScaleMatSpec)

/-- 'laws.FnExactMulMatVec', WHERE WHAT IT READS IS OF BULK AT MOST 1048576: true; the input reads as it did. -/
def fnExactMulMatVecUptoRow : OpenClaim := { program := "ytikoijgnpjmgjaa", sum := "6de620493723552ac718c50dc65fafbdf3d3b0a013b28469eab48d074b6ac98d", func := "loop.example/g01204/laws.FnExactMulMatVec", spec := "fnExactMulMatVec", apart := false, narrowed := true }
def FnExactMulMatVecUptoSaid : Prop := fnExactMulMatVecUptoRow.holds Try.pinned (OpenSpec.upto fnExactMulMatVecSpec)

/-- 'laws.FnExactTurnVec', WHERE WHAT IT READS IS OF BULK AT MOST 1048576: true; the input reads as it did. -/
def fnExactTurnVecUptoRow : OpenClaim := { program := "ytikoijgnpjmgjaa", sum := "6de620493723552ac718c50dc65fafbdf3d3b0a013b28469eab48d074b6ac98d", func := "loop.example/g01204/laws.FnExactTurnVec", spec := "fnExactTurnVec", apart := false, narrowed := true }
def FnExactTurnVecUptoSaid : Prop := fnExactTurnVecUptoRow.holds Try.pinned (OpenSpec.upto fnExactTurnVecSpec)

/-- 'laws.FnExactWrapAngle', WHERE WHAT IT READS IS OF BULK AT MOST 1048576: true; the input reads as it did. -/
def fnExactWrapAngleUptoRow : OpenClaim := { program := "ytikoijgnpjmgjaa", sum := "6de620493723552ac718c50dc65fafbdf3d3b0a013b28469eab48d074b6ac98d", func := "loop.example/g01204/laws.FnExactWrapAngle", spec := "fnExactWrapAngle", inPlace := ["math.Float64frombits", "math.RoundToEven"], apart := false, narrowed := true }
def FnExactWrapAngleUptoSaid : Prop := fnExactWrapAngleUptoRow.holds Try.pinned (OpenSpec.upto fnExactWrapAngleSpec)

/-- 'laws.FnExactMulMat', WHERE WHAT IT READS IS OF BULK AT MOST 1048576: true; the input reads as it did. -/
def fnExactMulMatUptoRow : OpenClaim := { program := "ytikoijgnpjmgjaa", sum := "6de620493723552ac718c50dc65fafbdf3d3b0a013b28469eab48d074b6ac98d", func := "loop.example/g01204/laws.FnExactMulMat", spec := "fnExactMulMat", apart := false, narrowed := true }
def FnExactMulMatUptoSaid : Prop := fnExactMulMatUptoRow.holds Try.pinned (OpenSpec.upto fnExactMulMatSpec)

end Rows
end Go.Proofs.Ytikoijgnpjmgjaa
