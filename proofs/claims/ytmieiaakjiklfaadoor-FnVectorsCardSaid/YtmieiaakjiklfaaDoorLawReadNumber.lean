/-
  The law 'FnExactReadNumber': its walk. Conditions: what the library's variables hold.
-/
import Derived.Test.YtmieiaakjiklfaaDoorReadNum2
namespace Go.Proofs.YtmieiaakjiklfaaDoor
open Go.RowKit Go.Sx

theorem run_widen (b : Nat) (W : World) : ∃ r n, (convert 24 86 (.float .f32 b)).run Tryd.prog W = .ok (.float .f64 r) (W.drewN n) ∧ canon .f64 r = cwide (canon .f32 b) := by
  obtain ⟨r, n, h1, h2⟩ := run_wide (P := Tryd.prog) b W
  exact ⟨r, n, (run_convert_ff Tryd.underlying24 Tryd.underlying86 W).trans h1, h2⟩

end Go.Proofs.YtmieiaakjiklfaaDoor
