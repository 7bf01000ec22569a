/-
  'FnExactWrapAngle' returns true for all arguments, and leaves them as they were: the program's function returns what the reference's returns. Conditions: none.
-/
import Derived.Test.YtikoijgnpjmgjaaKnown
namespace Go.Proofs.Ytikoijgnpjmgjaa.fnExactWrapAngle
open Go.ChangeShapes Go.WideShapes Go.ChangeAt Go.RowKit Go.Sx

theorem own : ownKnob Try.prog.godebug = none := by kernel_rfl

set_option maxRecDepth 100000 in
theorem ran : runA Try.prog known 100 17 (argsV Try.prog 0 Try.f17.params.toList) [] isTrue = true := by kernel_rfl

set_option maxRecDepth 100000 in
theorem walk : LawRuns Try.prog 17 Try.f17.params.toList := law_runs mixed names g1 g2 known_ok ran

theorem spec {H : Type} (ds : List (DataW H)) (h : ds.length = Try.f17.params.size) : Rows.fnExactWrapAngleSpec.fn H (ds ++ []) = { results := [.lit (.bool true)], args := ds } := by
  have hn : ds.length = 1 := h
  match ds, hn with
  | [_], _ => rfl

set_option maxRecDepth 100000 in
theorem lifted (os : Os) (started : os.Started) (H : Type) (enc : TypeId × Value → H) :
    ReturnsInHanded {} Try.checked os 17 .any (Rows.fnExactWrapAngleSpec.pre6 enc Try.prog Try.f17 Rows.fnExactWrapAngleRow.domain false) (Rows.fnExactWrapAngleSpec.post enc Try.prog Try.f17 false true false false) := by
  refine returnsInHanded_of_change (C := Try.checked) own started (by kernel_rfl) Try.func17
    (ChangeSpec.witness6 (enc := enc) (C := Try.checked) false ⟨#[], #[.float .f32 0], []⟩ 8 (by kernel_rfl) (by kernel_rfl) (by kernel_rfl) (by kernel_rfl)) ?_
  intro W base args ds gs before hval hW _ _
  exact law_step (by kernel_rfl) rfl Try.underlying4 rfl spec walk hval hW

theorem over : Rows.fnExactWrapAngleRow.holds Try.pinned (OpenSpec.ofChange Rows.fnExactWrapAngleSpec) :=
  OpenClaim.holds_of_wide 17 Try.f17 rfl rfl rfl rfl rfl rfl rfl ⟨rfl, rfl, rfl, rfl, rfl⟩ rfl rfl rfl rfl rfl (by kernel_rfl) Try.func17 (by kernel_rfl)
    (of_decide_eq_true (by kernel_rfl)) (by unfold Func.isWrapper; first | (rw [if_pos (by decide +kernel)]; kernel_rfl) | (rw [if_neg (by decide +kernel)]; exact ⟨rfl, rfl⟩))
    (fun os started H enc _ => lifted os started H enc)

/-- The statement. -/
theorem proved : Rows.FnExactWrapAngleSaid := over
#print axioms proved
end Go.Proofs.Ytikoijgnpjmgjaa.fnExactWrapAngle
