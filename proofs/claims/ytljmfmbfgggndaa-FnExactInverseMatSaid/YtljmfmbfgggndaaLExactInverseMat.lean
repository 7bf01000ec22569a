/-
  'FnExactInverseMat' returns true for all arguments, and leaves them as they were: the program's function returns what the reference's returns. Conditions: none.
-/
import Derived.Test.YtljmfmbfgggndaaInverseMatx0
import Derived.Test.YtljmfmbfgggndaaInverseMatx1
import Derived.Test.YtljmfmbfgggndaaInverseMatx2
import Derived.Test.YtljmfmbfgggndaaInverseMatx3
import Derived.Test.YtljmfmbfgggndaaInverseMatx4
import Derived.Test.YtljmfmbfgggndaaInverseMatx5
import Derived.Test.YtljmfmbfgggndaaInverseMatx6
import Derived.Test.YtljmfmbfgggndaaInverseMatx7
namespace Go.Proofs.Ytljmfmbfgggndaa.fnExactInverseMat
open Go.ChangeShapes Go.WideShapes Go.ChangeAt Go.RowKit Go.Sx

theorem own : ownKnob Try.prog.godebug = none := by kernel_rfl

theorem rans (t u w : Bool) : runA Try.prog knownS 100 16 (argsV Try.prog 0 Try.f16.params.toList) (pivFacts t u w) isTrue = true :=
  match t, u, w with
  | false, false, false => ran0
  | false, false, true => ran1
  | false, true, false => ran2
  | false, true, true => ran3
  | true, false, false => ran4
  | true, false, true => ran5
  | true, true, false => ran6
  | true, true, true => ran7

set_option maxRecDepth 100000 in
theorem walk : LawRuns Try.prog 16 Try.f16.params.toList := law_runsR mixed names g1 g2 knownS_ok (piv_runs rans)

theorem spec {H : Type} (ds : List (DataW H)) (h : ds.length = Try.f16.params.size) : Rows.fnExactInverseMatSpec.fn H (ds ++ []) = { results := [.lit (.bool true)], args := ds } := by
  have hn : ds.length = 1 := h
  match ds, hn with
  | [_], _ => rfl

set_option maxRecDepth 100000 in
theorem lifted (os : Os) (started : os.Started) (H : Type) (enc : TypeId × Value → H) :
    ReturnsInHanded {} Try.checked os 16 .any (Rows.fnExactInverseMatSpec.pre6 enc Try.prog Try.f16 Rows.fnExactInverseMatRow.domain false) (Rows.fnExactInverseMatSpec.post enc Try.prog Try.f16 false true false false) := by
  refine returnsInHanded_of_change (C := Try.checked) own started (by kernel_rfl) Try.func16
    (ChangeSpec.witness6 (enc := enc) (C := Try.checked) false ⟨#[], #[.agg #[.float .f32 0, .float .f32 0, .float .f32 0, .float .f32 0, .float .f32 0, .float .f32 0, .float .f32 0, .float .f32 0, .float .f32 0]], []⟩ 8 (by kernel_rfl) (by kernel_rfl) (by kernel_rfl) (by kernel_rfl)) ?_
  intro W base args ds gs before hval hW _ _
  exact law_step (by kernel_rfl) rfl Try.underlying4 rfl spec walk hval hW

theorem over : Rows.fnExactInverseMatRow.holds Try.pinned (OpenSpec.ofChange Rows.fnExactInverseMatSpec) :=
  OpenClaim.holds_of_wide 16 Try.f16 rfl rfl rfl rfl rfl rfl rfl ⟨rfl, rfl, rfl, rfl, rfl⟩ rfl rfl rfl rfl rfl (by kernel_rfl) Try.func16 (by kernel_rfl)
    (of_decide_eq_true (by kernel_rfl)) (by unfold Func.isWrapper; first | (rw [if_pos (by decide +kernel)]; kernel_rfl) | (rw [if_neg (by decide +kernel)]; exact ⟨rfl, rfl⟩))
    (fun os started H enc _ => lifted os started H enc)

/-- The statement. -/
theorem proved : Rows.FnExactInverseMatSaid := over
#print axioms proved
end Go.Proofs.Ytljmfmbfgggndaa.fnExactInverseMat
