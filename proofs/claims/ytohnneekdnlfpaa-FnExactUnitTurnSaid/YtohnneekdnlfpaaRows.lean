/-
  No cell of these rows narrows 'for every input' (looked for: loops, veiled, ifaces, maps, wideKeys, modest, calm, conditions, laid).
  DERIVED. THE GIVEN ROWS OF THIS SEAT. 13 by the template 'for every input the law returns true; each argument reads behind the call as it read before'; 0 by the template 'total and deterministic' (their statements: YtohnneekdnlfpaaTotals.lean).
  GIVEN WITH THE SEED: the statements are not yours to turn. If you find one false, say at which input.
  Laid BY PROGRAM, IN A SANDBOX (cutbox-rows.mjs): the forced cells as the released guide's own fill.sh prints them over the translation 16225ce9adf15884… (all of the seat's roots in one cut). By AI agents, Wed Nov 11 2026. No macro, syntax, notation, axiom, sorry.
-/
import Derived.Test.YtohnneekdnlfpaaChecked
import GoSem.Claim
import GoSem.ClaimJoined
import GoSem.ClaimMapViews
import Derived.JoinedTies
import Derived.KernelRfl
namespace Go.Proofs.Ytohnneekdnlfpaa
/- THE CELL 'sum', in the pinned program and in every row, IS THE sha256 OF THE DUMP (.gsa) THAT YtohnneekdnlfpaaProg.lean LOADS. Nothing in Lean hashes anything: it is a label: what it is worth is what the hold of that sum in a sandbox is worth. -/
noncomputable def Try.pinned : Pinned := { name := "ytohnneekdnlfpaa", sum := "16225ce9adf15884828456db6c25e49279cedb2625e8cdd20a19e6cf2af52235", checked := Try.checked }
namespace Rows
def none {H : Type} : Left H := { results := [], args := [] }

/-- 'laws.FnExactConstants': WHATEVER THE INPUT: true; the input reads as it did. -/
def fnExactConstantsSpec : ChangeSpec := { name := "fnExactConstants", fn := fun _ => fun
  | [] => { results := [.lit (.bool true)], args := [] }
  | _ => none }
def fnExactConstantsRow : OpenClaim := { program := "ytohnneekdnlfpaa", sum := "16225ce9adf15884828456db6c25e49279cedb2625e8cdd20a19e6cf2af52235", func := "loop.example/g01204/laws.FnExactConstants", spec := "fnExactConstants", apart := false }
def FnExactConstantsSaid : Prop := fnExactConstantsRow.holds Try.pinned (OpenSpec.ofChange fnExactConstantsSpec)

/-- ITS FALSE NEIGHBOUR: 'it returns false'. Refute it at one input. -/
def fnExactConstantsWrong : ChangeSpec := { name := "fnExactConstants", fn := fun _ => fun
  | [] => { results := [.lit (.bool false)], args := [] }
  | _ => none }
def FnExactConstantsWrongFalsely : Prop := fnExactConstantsRow.holds Try.pinned (OpenSpec.ofChange fnExactConstantsWrong)

/-- 'laws.FnExactSameNumber': WHATEVER THE INPUT: true; the input reads as it did. -/
def fnExactSameNumberSpec : ChangeSpec := { name := "fnExactSameNumber", fn := fun _ => fun
  | [d1, d2] => { results := [.lit (.bool true)], args := [d1, d2] }
  | _ => none }
def fnExactSameNumberRow : OpenClaim := { program := "ytohnneekdnlfpaa", sum := "16225ce9adf15884828456db6c25e49279cedb2625e8cdd20a19e6cf2af52235", func := "loop.example/g01204/laws.FnExactSameNumber", spec := "fnExactSameNumber", inPlace := ["math.Float32bits"], apart := false }
def FnExactSameNumberSaid : Prop := fnExactSameNumberRow.holds Try.pinned (OpenSpec.ofChange fnExactSameNumberSpec)

/-- ITS FALSE NEIGHBOUR: 'it returns false'. Refute it at one input. -/
def fnExactSameNumberWrong : ChangeSpec := { name := "fnExactSameNumber", fn := fun _ => fun
  | [d1, d2] => { results := [.lit (.bool false)], args := [d1, d2] }
  | _ => none }
def FnExactSameNumberWrongFalsely : Prop := fnExactSameNumberRow.holds Try.pinned (OpenSpec.ofChange fnExactSameNumberWrong)

/-- 'laws.FnExactIsFiniteVec': WHATEVER THE INPUT: true; the input reads as it did. -/
def fnExactIsFiniteVecSpec : ChangeSpec := { name := "fnExactIsFiniteVec", fn := fun _ => fun
  | [d] => { results := [.lit (.bool true)], args := [d] }
  | _ => none }
def fnExactIsFiniteVecRow : OpenClaim := { program := "ytohnneekdnlfpaa", sum := "16225ce9adf15884828456db6c25e49279cedb2625e8cdd20a19e6cf2af52235", func := "loop.example/g01204/laws.FnExactIsFiniteVec", spec := "fnExactIsFiniteVec", apart := false }
def FnExactIsFiniteVecSaid : Prop := fnExactIsFiniteVecRow.holds Try.pinned (OpenSpec.ofChange fnExactIsFiniteVecSpec)

/-- ITS FALSE NEIGHBOUR: 'it returns false'. Refute it at one input. -/
def fnExactIsFiniteVecWrong : ChangeSpec := { name := "fnExactIsFiniteVec", fn := fun _ => fun
  | [d] => { results := [.lit (.bool false)], args := [d] }
  | _ => none }
def FnExactIsFiniteVecWrongFalsely : Prop := fnExactIsFiniteVecRow.holds Try.pinned (OpenSpec.ofChange fnExactIsFiniteVecWrong)

/-- 'laws.FnExactUnitTurn': WHATEVER THE INPUT: true; the input reads as it did. -/
def fnExactUnitTurnSpec : ChangeSpec := { name := "fnExactUnitTurn", fn := fun _ => fun
  | [] => { results := [.lit (.bool true)], args := [] }
  | _ => none }
def fnExactUnitTurnRow : OpenClaim := { program := "ytohnneekdnlfpaa", sum := "16225ce9adf15884828456db6c25e49279cedb2625e8cdd20a19e6cf2af52235", func := "loop.example/g01204/laws.FnExactUnitTurn", spec := "fnExactUnitTurn", apart := false }
def FnExactUnitTurnSaid : Prop := fnExactUnitTurnRow.holds Try.pinned (OpenSpec.ofChange fnExactUnitTurnSpec)

/-- ITS FALSE NEIGHBOUR: 'it returns false'. Refute it at one input. -/
def fnExactUnitTurnWrong : ChangeSpec := { name := "fnExactUnitTurn", fn := fun _ => fun
  | [] => { results := [.lit (.bool false)], args := [] }
  | _ => none }
def FnExactUnitTurnWrongFalsely : Prop := fnExactUnitTurnRow.holds Try.pinned (OpenSpec.ofChange fnExactUnitTurnWrong)

/-- 'laws.FnExactIsFiniteTurn': WHATEVER THE INPUT: true; the input reads as it did. -/
def fnExactIsFiniteTurnSpec : ChangeSpec := { name := "fnExactIsFiniteTurn", fn := fun _ => fun
  | [d] => { results := [.lit (.bool true)], args := [d] }
  | _ => none }
def fnExactIsFiniteTurnRow : OpenClaim := { program := "ytohnneekdnlfpaa", sum := "16225ce9adf15884828456db6c25e49279cedb2625e8cdd20a19e6cf2af52235", func := "loop.example/g01204/laws.FnExactIsFiniteTurn", spec := "fnExactIsFiniteTurn", apart := false }
def FnExactIsFiniteTurnSaid : Prop := fnExactIsFiniteTurnRow.holds Try.pinned (OpenSpec.ofChange fnExactIsFiniteTurnSpec)

/-- ITS FALSE NEIGHBOUR: 'it returns false'. Refute it at one input. -/
def fnExactIsFiniteTurnWrong : ChangeSpec := { name := "fnExactIsFiniteTurn", fn := fun _ => fun
  | [d] => { results := [.lit (.bool false)], args := [d] }
  | _ => none }
def FnExactIsFiniteTurnWrongFalsely : Prop := fnExactIsFiniteTurnRow.holds Try.pinned (OpenSpec.ofChange fnExactIsFiniteTurnWrong)

/-- 'laws.FnExactTraceOf': WHATEVER THE INPUT: true; the input reads as it did. -/
def fnExactTraceOfSpec : ChangeSpec := { name := "fnExactTraceOf", fn := fun _ => fun
  | [d] => { results := [.lit (.bool true)], args := [d] }
  | _ => none }
def fnExactTraceOfRow : OpenClaim := { program := "ytohnneekdnlfpaa", sum := "16225ce9adf15884828456db6c25e49279cedb2625e8cdd20a19e6cf2af52235", func := "loop.example/g01204/laws.FnExactTraceOf", spec := "fnExactTraceOf", apart := false }
def FnExactTraceOfSaid : Prop := fnExactTraceOfRow.holds Try.pinned (OpenSpec.ofChange fnExactTraceOfSpec)

/-- ITS FALSE NEIGHBOUR: 'it returns false'. Refute it at one input. -/
def fnExactTraceOfWrong : ChangeSpec := { name := "fnExactTraceOf", fn := fun _ => fun
  | [d] => { results := [.lit (.bool false)], args := [d] }
  | _ => none }
def FnExactTraceOfWrongFalsely : Prop := fnExactTraceOfRow.holds Try.pinned (OpenSpec.ofChange fnExactTraceOfWrong)

/-- 'laws.FnExactBackTurn': WHATEVER THE INPUT: true; the input reads as it did. -/
def fnExactBackTurnSpec : ChangeSpec := { name := "fnExactBackTurn", fn := fun _ => fun
  | [d] => { results := [.lit (.bool true)], args := [d] }
  | _ => none }
def fnExactBackTurnRow : OpenClaim := { program := "ytohnneekdnlfpaa", sum := "16225ce9adf15884828456db6c25e49279cedb2625e8cdd20a19e6cf2af52235", func := "loop.example/g01204/laws.FnExactBackTurn", spec := "fnExactBackTurn", apart := false }
def FnExactBackTurnSaid : Prop := fnExactBackTurnRow.holds Try.pinned (OpenSpec.ofChange fnExactBackTurnSpec)

/-- ITS FALSE NEIGHBOUR: 'it returns false'. Refute it at one input. -/
def fnExactBackTurnWrong : ChangeSpec := { name := "fnExactBackTurn", fn := fun _ => fun
  | [d] => { results := [.lit (.bool false)], args := [d] }
  | _ => none }
def FnExactBackTurnWrongFalsely : Prop := fnExactBackTurnRow.holds Try.pinned (OpenSpec.ofChange fnExactBackTurnWrong)

/-- 'laws.FnExactUnitMat': WHATEVER THE INPUT: true; the input reads as it did. -/
def fnExactUnitMatSpec : ChangeSpec := { name := "fnExactUnitMat", fn := fun _ => fun
  | [] => { results := [.lit (.bool true)], args := [] }
  | _ => none }
def fnExactUnitMatRow : OpenClaim := { program := "ytohnneekdnlfpaa", sum := "16225ce9adf15884828456db6c25e49279cedb2625e8cdd20a19e6cf2af52235", func := "loop.example/g01204/laws.FnExactUnitMat", spec := "fnExactUnitMat", apart := false }
def FnExactUnitMatSaid : Prop := fnExactUnitMatRow.holds Try.pinned (OpenSpec.ofChange fnExactUnitMatSpec)

/-- ITS FALSE NEIGHBOUR: 'it returns false'. Refute it at one input. -/
def fnExactUnitMatWrong : ChangeSpec := { name := "fnExactUnitMat", fn := fun _ => fun
  | [] => { results := [.lit (.bool false)], args := [] }
  | _ => none }
def FnExactUnitMatWrongFalsely : Prop := fnExactUnitMatRow.holds Try.pinned (OpenSpec.ofChange fnExactUnitMatWrong)

/-- 'laws.FnExactSameTurn': WHATEVER THE INPUT: true; the input reads as it did. -/
def fnExactSameTurnSpec : ChangeSpec := { name := "fnExactSameTurn", fn := fun _ => fun
  | [d1, d2] => { results := [.lit (.bool true)], args := [d1, d2] }
  | _ => none }
def fnExactSameTurnRow : OpenClaim := { program := "ytohnneekdnlfpaa", sum := "16225ce9adf15884828456db6c25e49279cedb2625e8cdd20a19e6cf2af52235", func := "loop.example/g01204/laws.FnExactSameTurn", spec := "fnExactSameTurn", inPlace := ["math.Float32bits"], apart := false }
def FnExactSameTurnSaid : Prop := fnExactSameTurnRow.holds Try.pinned (OpenSpec.ofChange fnExactSameTurnSpec)

/-- ITS FALSE NEIGHBOUR: 'it returns false'. Refute it at one input. -/
def fnExactSameTurnWrong : ChangeSpec := { name := "fnExactSameTurn", fn := fun _ => fun
  | [d1, d2] => { results := [.lit (.bool false)], args := [d1, d2] }
  | _ => none }
def FnExactSameTurnWrongFalsely : Prop := fnExactSameTurnRow.holds Try.pinned (OpenSpec.ofChange fnExactSameTurnWrong)

/-- 'laws.FnExactSameVec': WHATEVER THE INPUT: true; the input reads as it did. -/
def fnExactSameVecSpec : ChangeSpec := { name := "fnExactSameVec", fn := fun _ => fun
  | [d1, d2] => { results := [.lit (.bool true)], args := [d1, d2] }
  | _ => none }
def fnExactSameVecRow : OpenClaim := { program := "ytohnneekdnlfpaa", sum := "16225ce9adf15884828456db6c25e49279cedb2625e8cdd20a19e6cf2af52235", func := "loop.example/g01204/laws.FnExactSameVec", spec := "fnExactSameVec", inPlace := ["math.Float32bits"], apart := false }
def FnExactSameVecSaid : Prop := fnExactSameVecRow.holds Try.pinned (OpenSpec.ofChange fnExactSameVecSpec)

/-- ITS FALSE NEIGHBOUR: 'it returns false'. Refute it at one input. -/
def fnExactSameVecWrong : ChangeSpec := { name := "fnExactSameVec", fn := fun _ => fun
  | [d1, d2] => { results := [.lit (.bool false)], args := [d1, d2] }
  | _ => none }
def FnExactSameVecWrongFalsely : Prop := fnExactSameVecRow.holds Try.pinned (OpenSpec.ofChange fnExactSameVecWrong)

/-- 'laws.FnExactIsFiniteMat': WHATEVER THE INPUT: true; the input reads as it did. -/
def fnExactIsFiniteMatSpec : ChangeSpec := { name := "fnExactIsFiniteMat", fn := fun _ => fun
  | [d] => { results := [.lit (.bool true)], args := [d] }
  | _ => none }
def fnExactIsFiniteMatRow : OpenClaim := { program := "ytohnneekdnlfpaa", sum := "16225ce9adf15884828456db6c25e49279cedb2625e8cdd20a19e6cf2af52235", func := "loop.example/g01204/laws.FnExactIsFiniteMat", spec := "fnExactIsFiniteMat", apart := false }
def FnExactIsFiniteMatSaid : Prop := fnExactIsFiniteMatRow.holds Try.pinned (OpenSpec.ofChange fnExactIsFiniteMatSpec)

/-- ITS FALSE NEIGHBOUR: 'it returns false'. Refute it at one input. -/
def fnExactIsFiniteMatWrong : ChangeSpec := { name := "fnExactIsFiniteMat", fn := fun _ => fun
  | [d] => { results := [.lit (.bool false)], args := [d] }
  | _ => none }
def FnExactIsFiniteMatWrongFalsely : Prop := fnExactIsFiniteMatRow.holds Try.pinned (OpenSpec.ofChange fnExactIsFiniteMatWrong)

/-- 'laws.FnExactAddVec': WHATEVER THE INPUT: true; the input reads as it did. -/
def fnExactAddVecSpec : ChangeSpec := { name := "fnExactAddVec", fn := fun _ => fun
  | [d1, d2] => { results := [.lit (.bool true)], args := [d1, d2] }
  | _ => none }
def fnExactAddVecRow : OpenClaim := { program := "ytohnneekdnlfpaa", sum := "16225ce9adf15884828456db6c25e49279cedb2625e8cdd20a19e6cf2af52235", func := "loop.example/g01204/laws.FnExactAddVec", spec := "fnExactAddVec", apart := false }
def FnExactAddVecSaid : Prop := fnExactAddVecRow.holds Try.pinned (OpenSpec.ofChange fnExactAddVecSpec)

/-- ITS FALSE NEIGHBOUR: 'it returns false'. Refute it at one input. -/
def fnExactAddVecWrong : ChangeSpec := { name := "fnExactAddVec", fn := fun _ => fun
  | [d1, d2] => { results := [.lit (.bool false)], args := [d1, d2] }
  | _ => none }
def FnExactAddVecWrongFalsely : Prop := fnExactAddVecRow.holds Try.pinned (OpenSpec.ofChange fnExactAddVecWrong)

/-- 'laws.FnExactSubVec': WHATEVER THE INPUT: true; the input reads as it did. -/
def fnExactSubVecSpec : ChangeSpec := { name := "fnExactSubVec", fn := fun _ => fun
  | [d1, d2] => { results := [.lit (.bool true)], args := [d1, d2] }
  | _ => none }
def fnExactSubVecRow : OpenClaim := { program := "ytohnneekdnlfpaa", sum := "16225ce9adf15884828456db6c25e49279cedb2625e8cdd20a19e6cf2af52235", func := "loop.example/g01204/laws.FnExactSubVec", spec := "fnExactSubVec", apart := false }
def FnExactSubVecSaid : Prop := fnExactSubVecRow.holds Try.pinned (OpenSpec.ofChange fnExactSubVecSpec)

/-- ITS FALSE NEIGHBOUR: 'it returns false'. Refute it at one input. -/
def fnExactSubVecWrong : ChangeSpec := { name := "fnExactSubVec", fn := fun _ => fun
  | [d1, d2] => { results := [.lit (.bool false)], args := [d1, d2] }
  | _ => none }
def FnExactSubVecWrongFalsely : Prop := fnExactSubVecRow.holds Try.pinned (OpenSpec.ofChange fnExactSubVecWrong)

/- THE SECOND FORM. 'bulk': how many values and letters a reading holds, each counted each time it is reached (what is shared counts as often as it is met; a slice's spare places count too). A statement '..UptoSaid' is the law's where the arguments, and the package variables that the reading takes, are together of bulk at most 1048576: NARROWER than '..Said'. Prove '..Said' where nothing that the law and all that it calls make is longer than what came in: it says more and counts as full. Else prove '..UptoSaid'. A law counts once. -/
mutual
def uptoBulk {H : Type} : DataW H → Nat
  | .lit (.string bytes) => bytes.length + 1
  | .lit _ => 1
  | .nil => 1
  | .ptr d => uptoBulk d + 1
  | .slice elems spare => uptoBulkAll elems + uptoBulkAll spare + 1
  | .agg parts => uptoBulkAll parts + 1
  | .iface _ d => uptoBulk d + 1
  | .map entries => uptoBulkEntries entries + 1
  | .held _ => 1
def uptoBulkAll {H : Type} : List (DataW H) → Nat
  | [] => 0
  | d :: r => uptoBulk d + uptoBulkAll r
def uptoBulkEntries {H : Type} : List (Lit × DataW H) → Nat
  | [] => 0
  | x :: r => uptoBulkEntry x + uptoBulkEntries r
def uptoBulkEntry {H : Type} : Lit × DataW H → Nat
  | (.string bytes, d) => bytes.length + uptoBulk d + 1
  | (_, d) => uptoBulk d + 1
 end
def uptoSmall : (H : Type) → List (DataW H) → Bool := fun _ ds => decide (uptoBulkAll ds ≤ 1048576)
def OpenSpec.upto (s : _root_.Go.ChangeSpec) : _root_.Go.OpenSpec := { _root_.Go.OpenSpec.ofChange s with cond := some uptoSmall }

/-- 'laws.FnExactConstants', WHERE WHAT IT READS IS OF BULK AT MOST 1048576: true; the input reads as it did. -/
def fnExactConstantsUptoRow : OpenClaim := { program := "ytohnneekdnlfpaa", sum := "16225ce9adf15884828456db6c25e49279cedb2625e8cdd20a19e6cf2af52235", func := "loop.example/g01204/laws.FnExactConstants", spec := "fnExactConstants", apart := false, narrowed := true }
def FnExactConstantsUptoSaid : Prop := fnExactConstantsUptoRow.holds Try.pinned (OpenSpec.upto fnExactConstantsSpec)

/-- 'laws.FnExactSameNumber', WHERE WHAT IT READS IS OF BULK AT MOST 1048576: true; the input reads as it did. -/
def fnExactSameNumberUptoRow : OpenClaim := { program := "ytohnneekdnlfpaa", sum := "16225ce9adf15884828456db6c25e49279cedb2625e8cdd20a19e6cf2af52235", func := "loop.example/g01204/laws.FnExactSameNumber", spec := "fnExactSameNumber", inPlace := ["math.Float32bits"], apart := false, narrowed := true }
def FnExactSameNumberUptoSaid : Prop := fnExactSameNumberUptoRow.holds Try.pinned (OpenSpec.upto fnExactSameNumberSpec)

/-- 'laws.FnExactIsFiniteVec', WHERE WHAT IT READS IS OF BULK AT MOST 1048576: true; the input reads as it did. -/
def fnExactIsFiniteVecUptoRow : OpenClaim := { program := "ytohnneekdnlfpaa", sum := "16225ce9adf15884828456db6c25e49279cedb2625e8cdd20a19e6cf2af52235", func := "loop.example/g01204/laws.FnExactIsFiniteVec", spec := "fnExactIsFiniteVec", apart := false, narrowed := true }
def FnExactIsFiniteVecUptoSaid : Prop := fnExactIsFiniteVecUptoRow.holds Try.pinned (OpenSpec.upto fnExactIsFiniteVecSpec)

/-- 'laws.FnExactUnitTurn', WHERE WHAT IT READS IS OF BULK AT MOST 1048576: true; the input reads as it did. -/
def fnExactUnitTurnUptoRow : OpenClaim := { program := "ytohnneekdnlfpaa", sum := "16225ce9adf15884828456db6c25e49279cedb2625e8cdd20a19e6cf2af52235", func := "loop.example/g01204/laws.FnExactUnitTurn", spec := "fnExactUnitTurn", apart := false, narrowed := true }
def FnExactUnitTurnUptoSaid : Prop := fnExactUnitTurnUptoRow.holds Try.pinned (OpenSpec.upto fnExactUnitTurnSpec)

/-- 'laws.FnExactIsFiniteTurn', WHERE WHAT IT READS IS OF BULK AT MOST 1048576: true; the input reads as it did. -/
def fnExactIsFiniteTurnUptoRow : OpenClaim := { program := "ytohnneekdnlfpaa", sum := "16225ce9adf15884828456db6c25e49279cedb2625e8cdd20a19e6cf2af52235", func := "loop.example/g01204/laws.FnExactIsFiniteTurn", spec := "fnExactIsFiniteTurn", apart := false, narrowed := true }
def FnExactIsFiniteTurnUptoSaid : Prop := fnExactIsFiniteTurnUptoRow.holds Try.pinned (OpenSpec.upto fnExactIsFiniteTurnSpec)

/-- 'laws.FnExactTraceOf', WHERE WHAT IT READS IS OF BULK AT MOST 1048576: true; the input reads as it did. -/
def fnExactTraceOfUptoRow : OpenClaim := { program := "ytohnneekdnlfpaa", sum := "16225ce9adf15884828456db6c25e49279cedb2625e8cdd20a19e6cf2af52235", func := "loop.example/g01204/laws.FnExactTraceOf", spec := "fnExactTraceOf", apart := false, narrowed := true }
def FnExactTraceOfUptoSaid : Prop := fnExactTraceOfUptoRow.holds Try.pinned (OpenSpec.upto fnExactTraceOfSpec)

/-- 'laws.FnExactBackTurn', WHERE WHAT IT READS IS OF BULK AT MOST 1048576: true; the input reads as it did. -/
def fnExactBackTurnUptoRow : OpenClaim := { program := "ytohnneekdnlfpaa", sum := "16225ce9adf15884828456db6c25e49279cedb2625e8cdd20a19e6cf2af52235", func := "loop.example/g01204/laws.FnExactBackTurn", spec := "fnExactBackTurn", apart := false, narrowed := true }
def FnExactBackTurnUptoSaid : Prop := fnExactBackTurnUptoRow.holds Try.pinned (OpenSpec.upto fnExactBackTurnSpec)

/-- 'laws.FnExactUnitMat', WHERE WHAT IT READS IS OF BULK AT MOST 1048576: true; the input reads as it did. -/
def fnExactUnitMatUptoRow : OpenClaim := { program := "ytohnneekdnlfpaa", sum := "16225ce9adf15884828456db6c25e49279cedb2625e8cdd20a19e6cf2af52235", func := "loop.example/g01204/laws.FnExactUnitMat", spec := "fnExactUnitMat", apart := false, narrowed := true }
def FnExactUnitMatUptoSaid : Prop := fnExactUnitMatUptoRow.holds Try.pinned (OpenSpec.upto fnExactUnitMatSpec)

/-- 'laws.FnExactSameTurn', WHERE WHAT IT READS IS OF BULK AT MOST 1048576: true; the input reads as it did. -/
def fnExactSameTurnUptoRow : OpenClaim := { program := "ytohnneekdnlfpaa", sum := "16225ce9adf15884828456db6c25e49279cedb2625e8cdd20a19e6cf2af52235", func := "loop.example/g01204/laws.FnExactSameTurn", spec := "fnExactSameTurn", inPlace := ["math.Float32bits"], apart := false, narrowed := true }
def FnExactSameTurnUptoSaid : Prop := fnExactSameTurnUptoRow.holds Try.pinned (OpenSpec.upto fnExactSameTurnSpec)

/-- 'laws.FnExactSameVec', WHERE WHAT IT READS IS OF BULK AT MOST 1048576: true; the input reads as it did. -/
def fnExactSameVecUptoRow : OpenClaim := { program := "ytohnneekdnlfpaa", sum := "16225ce9adf15884828456db6c25e49279cedb2625e8cdd20a19e6cf2af52235", func := "loop.example/g01204/laws.FnExactSameVec", spec := "fnExactSameVec", inPlace := ["math.Float32bits"], apart := false, narrowed := true }
def FnExactSameVecUptoSaid : Prop := fnExactSameVecUptoRow.holds Try.pinned (OpenSpec.upto fnExactSameVecSpec)

/-- 'laws.FnExactIsFiniteMat', WHERE WHAT IT READS IS OF BULK AT MOST 1048576: true; the input reads as it did. -/
def fnExactIsFiniteMatUptoRow : OpenClaim := { program := "ytohnneekdnlfpaa", sum := "16225ce9adf15884828456db6c25e49279cedb2625e8cdd20a19e6cf2af52235", func := "loop.example/g01204/laws.FnExactIsFiniteMat", spec := "fnExactIsFiniteMat", apart := false, narrowed := true }
def FnExactIsFiniteMatUptoSaid : Prop := fnExactIsFiniteMatUptoRow.holds Try.pinned (OpenSpec.upto fnExactIsFiniteMatSpec)

/-- 'laws.FnExactAddVec', WHERE WHAT IT READS IS OF BULK AT MOST 1048576: true; the input reads as it did. -/
def fnExactAddVecUptoRow : OpenClaim := { program := "ytohnneekdnlfpaa", sum := "16225ce9adf15884828456db6c25e49279cedb2625e8cdd20a19e6cf2af52235", func := "loop.example/g01204/laws.FnExactAddVec", spec := "fnExactAddVec", apart := false, narrowed := true }
def FnExactAddVecUptoSaid : Prop := fnExactAddVecUptoRow.holds Try.pinned (OpenSpec.upto fnExactAddVecSpec)

/-- 'laws.FnExactSubVec', WHERE WHAT IT READS IS OF BULK AT MOST 1048576: true; the input reads as it did. -/
def fnExactSubVecUptoRow : OpenClaim := { program := "ytohnneekdnlfpaa", sum := "16225ce9adf15884828456db6c25e49279cedb2625e8cdd20a19e6cf2af52235", func := "loop.example/g01204/laws.FnExactSubVec", spec := "fnExactSubVec", apart := false, narrowed := true }
def FnExactSubVecUptoSaid : Prop := fnExactSubVecUptoRow.holds Try.pinned (OpenSpec.upto fnExactSubVecSpec)

end Rows
end Go.Proofs.Ytohnneekdnlfpaa
