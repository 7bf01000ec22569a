/-
  The run of 'FnMatrices' on symbols. Conditions: none.
-/
import Derived.Test.YtmieiaakjiklfaaDoorTable
namespace Go.Proofs.YtmieiaakjiklfaaDoor
open Go.Sx

/-- What the run asks. -/
def matFacts : Facts := [((.cmp 0 .f32 (.bin 1 (.arg 8) (.arg 8)) (.lit .f32 0)), true),
  ((.cmp 0 .f32 (.bin 1 (.arg 7) (.arg 7)) (.lit .f32 0)), true),
  ((.cmp 0 .f32 (.bin 1 (.arg 6) (.arg 6)) (.lit .f32 0)), true),
  ((.cmp 0 .f32 (.bin 1 (.arg 5) (.arg 5)) (.lit .f32 0)), true),
  ((.cmp 0 .f32 (.bin 1 (.arg 4) (.arg 4)) (.lit .f32 0)), true),
  ((.cmp 0 .f32 (.bin 1 (.arg 3) (.arg 3)) (.lit .f32 0)), true),
  ((.cmp 0 .f32 (.bin 1 (.arg 2) (.arg 2)) (.lit .f32 0)), true),
  ((.cmp 0 .f32 (.bin 1 (.arg 1) (.arg 1)) (.lit .f32 0)), true),
  ((.cmp 0 .f32 (.bin 1 (.arg 0) (.arg 0)) (.lit .f32 0)), true),
  ((.cmp 0 .f32 (.bin 0 (.bin 0 (.bin 2 (.arg 0) (.bin 1 (.bin 2 (.arg 4) (.arg 8)) (.bin 2 (.arg 7) (.arg 5)))) (.bin 2 (.arg 3) (.bin 1 (.bin 2 (.arg 7) (.arg 2)) (.bin 2 (.arg 1) (.arg 8))))) (.bin 2 (.arg 6) (.bin 1 (.bin 2 (.arg 1) (.arg 5)) (.bin 2 (.arg 4) (.arg 2))))) (.bin 0 (.bin 0 (.bin 2 (.arg 0) (.bin 1 (.bin 2 (.arg 4) (.arg 8)) (.bin 2 (.arg 5) (.arg 7)))) (.bin 2 (.arg 1) (.bin 1 (.bin 2 (.arg 5) (.arg 6)) (.bin 2 (.arg 3) (.arg 8))))) (.bin 2 (.arg 2) (.bin 1 (.bin 2 (.arg 3) (.arg 7)) (.bin 2 (.arg 4) (.arg 6)))))), true),
  ((.cmp 0 .f32 (.bin 0 (.bin 0 (.bin 2 (.arg 21) (.arg 18)) (.bin 2 (.arg 22) (.arg 19))) (.bin 2 (.arg 23) (.arg 20))) (.bin 0 (.bin 0 (.bin 2 (.arg 18) (.arg 21)) (.bin 2 (.arg 19) (.arg 22))) (.bin 2 (.arg 20) (.arg 23)))), true),
  ((.cmp 0 .f32 (.bin 0 (.bin 0 (.bin 2 (.bin 2 (.arg 21) (.arg 20)) (.arg 18)) (.bin 2 (.bin 2 (.arg 22) (.arg 20)) (.arg 19))) (.bin 2 (.bin 2 (.arg 23) (.arg 20)) (.arg 20))) (.bin 2 (.arg 20) (.bin 0 (.bin 0 (.bin 2 (.arg 21) (.arg 18)) (.bin 2 (.arg 22) (.arg 19))) (.bin 2 (.arg 23) (.arg 20))))), true),
  ((.cmp 0 .f32 (.bin 0 (.bin 0 (.bin 2 (.bin 2 (.arg 21) (.arg 19)) (.arg 18)) (.bin 2 (.bin 2 (.arg 22) (.arg 19)) (.arg 19))) (.bin 2 (.bin 2 (.arg 23) (.arg 19)) (.arg 20))) (.bin 2 (.arg 19) (.bin 0 (.bin 0 (.bin 2 (.arg 21) (.arg 18)) (.bin 2 (.arg 22) (.arg 19))) (.bin 2 (.arg 23) (.arg 20))))), true),
  ((.cmp 0 .f32 (.bin 0 (.bin 0 (.bin 2 (.bin 2 (.arg 21) (.arg 18)) (.arg 18)) (.bin 2 (.bin 2 (.arg 22) (.arg 18)) (.arg 19))) (.bin 2 (.bin 2 (.arg 23) (.arg 18)) (.arg 20))) (.bin 2 (.arg 18) (.bin 0 (.bin 0 (.bin 2 (.arg 21) (.arg 18)) (.bin 2 (.arg 22) (.arg 19))) (.bin 2 (.arg 23) (.arg 20))))), true),
  ((.cmp 0 .f32 (.bin 0 (.bin 0 (.bin 0 (.arg 0) (.arg 9)) (.bin 0 (.arg 4) (.arg 13))) (.bin 0 (.arg 8) (.arg 17))) (.bin 0 (.bin 0 (.bin 0 (.arg 0) (.arg 4)) (.arg 8)) (.bin 0 (.bin 0 (.arg 9) (.arg 13)) (.arg 17)))), true),
  ((.cmp 0 .f32 (.bin 0 (.arg 8) (.bin 2 (.arg 8) (.lit .f32 3212836864))) (.lit .f32 0)), true),
  ((.cmp 0 .f32 (.bin 0 (.arg 7) (.bin 2 (.arg 7) (.lit .f32 3212836864))) (.lit .f32 0)), true),
  ((.cmp 0 .f32 (.bin 0 (.arg 6) (.bin 2 (.arg 6) (.lit .f32 3212836864))) (.lit .f32 0)), true),
  ((.cmp 0 .f32 (.bin 0 (.arg 5) (.bin 2 (.arg 5) (.lit .f32 3212836864))) (.lit .f32 0)), true),
  ((.cmp 0 .f32 (.bin 0 (.arg 4) (.bin 2 (.arg 4) (.lit .f32 3212836864))) (.lit .f32 0)), true),
  ((.cmp 0 .f32 (.bin 0 (.arg 3) (.bin 2 (.arg 3) (.lit .f32 3212836864))) (.lit .f32 0)), true),
  ((.cmp 0 .f32 (.bin 0 (.arg 2) (.bin 2 (.arg 2) (.lit .f32 3212836864))) (.lit .f32 0)), true),
  ((.cmp 0 .f32 (.bin 0 (.arg 1) (.bin 2 (.arg 1) (.lit .f32 3212836864))) (.lit .f32 0)), true),
  ((.cmp 0 .f32 (.bin 0 (.arg 0) (.bin 2 (.arg 0) (.lit .f32 3212836864))) (.lit .f32 0)), true),
  ((.cmp 0 .f32 (.bin 0 (.bin 0 (.bin 2 (.bin 0 (.bin 0 (.bin 2 (.arg 6) (.arg 9)) (.bin 2 (.arg 7) (.arg 12))) (.bin 2 (.arg 8) (.arg 15))) (.arg 21)) (.bin 2 (.bin 0 (.bin 0 (.bin 2 (.arg 6) (.arg 10)) (.bin 2 (.arg 7) (.arg 13))) (.bin 2 (.arg 8) (.arg 16))) (.arg 22))) (.bin 2 (.bin 0 (.bin 0 (.bin 2 (.arg 6) (.arg 11)) (.bin 2 (.arg 7) (.arg 14))) (.bin 2 (.arg 8) (.arg 17))) (.arg 23))) (.bin 0 (.bin 0 (.bin 2 (.arg 6) (.bin 0 (.bin 0 (.bin 2 (.arg 9) (.arg 21)) (.bin 2 (.arg 10) (.arg 22))) (.bin 2 (.arg 11) (.arg 23)))) (.bin 2 (.arg 7) (.bin 0 (.bin 0 (.bin 2 (.arg 12) (.arg 21)) (.bin 2 (.arg 13) (.arg 22))) (.bin 2 (.arg 14) (.arg 23))))) (.bin 2 (.arg 8) (.bin 0 (.bin 0 (.bin 2 (.arg 15) (.arg 21)) (.bin 2 (.arg 16) (.arg 22))) (.bin 2 (.arg 17) (.arg 23)))))), true),
  ((.cmp 0 .f32 (.bin 0 (.bin 0 (.bin 2 (.bin 0 (.bin 0 (.bin 2 (.arg 3) (.arg 9)) (.bin 2 (.arg 4) (.arg 12))) (.bin 2 (.arg 5) (.arg 15))) (.arg 21)) (.bin 2 (.bin 0 (.bin 0 (.bin 2 (.arg 3) (.arg 10)) (.bin 2 (.arg 4) (.arg 13))) (.bin 2 (.arg 5) (.arg 16))) (.arg 22))) (.bin 2 (.bin 0 (.bin 0 (.bin 2 (.arg 3) (.arg 11)) (.bin 2 (.arg 4) (.arg 14))) (.bin 2 (.arg 5) (.arg 17))) (.arg 23))) (.bin 0 (.bin 0 (.bin 2 (.arg 3) (.bin 0 (.bin 0 (.bin 2 (.arg 9) (.arg 21)) (.bin 2 (.arg 10) (.arg 22))) (.bin 2 (.arg 11) (.arg 23)))) (.bin 2 (.arg 4) (.bin 0 (.bin 0 (.bin 2 (.arg 12) (.arg 21)) (.bin 2 (.arg 13) (.arg 22))) (.bin 2 (.arg 14) (.arg 23))))) (.bin 2 (.arg 5) (.bin 0 (.bin 0 (.bin 2 (.arg 15) (.arg 21)) (.bin 2 (.arg 16) (.arg 22))) (.bin 2 (.arg 17) (.arg 23)))))), true),
  ((.cmp 0 .f32 (.bin 0 (.bin 0 (.bin 2 (.bin 0 (.bin 0 (.bin 2 (.arg 0) (.arg 9)) (.bin 2 (.arg 1) (.arg 12))) (.bin 2 (.arg 2) (.arg 15))) (.arg 21)) (.bin 2 (.bin 0 (.bin 0 (.bin 2 (.arg 0) (.arg 10)) (.bin 2 (.arg 1) (.arg 13))) (.bin 2 (.arg 2) (.arg 16))) (.arg 22))) (.bin 2 (.bin 0 (.bin 0 (.bin 2 (.arg 0) (.arg 11)) (.bin 2 (.arg 1) (.arg 14))) (.bin 2 (.arg 2) (.arg 17))) (.arg 23))) (.bin 0 (.bin 0 (.bin 2 (.arg 0) (.bin 0 (.bin 0 (.bin 2 (.arg 9) (.arg 21)) (.bin 2 (.arg 10) (.arg 22))) (.bin 2 (.arg 11) (.arg 23)))) (.bin 2 (.arg 1) (.bin 0 (.bin 0 (.bin 2 (.arg 12) (.arg 21)) (.bin 2 (.arg 13) (.arg 22))) (.bin 2 (.arg 14) (.arg 23))))) (.bin 2 (.arg 2) (.bin 0 (.bin 0 (.bin 2 (.arg 15) (.arg 21)) (.bin 2 (.arg 16) (.arg 22))) (.bin 2 (.arg 17) (.arg 23)))))), true),
  ((.cmp 0 .f32 (.bin 0 (.bin 0 (.bin 2 (.arg 6) (.arg 11)) (.bin 2 (.arg 7) (.arg 14))) (.bin 2 (.arg 8) (.arg 17))) (.bin 0 (.bin 0 (.bin 2 (.arg 11) (.arg 6)) (.bin 2 (.arg 14) (.arg 7))) (.bin 2 (.arg 17) (.arg 8)))), true),
  ((.cmp 0 .f32 (.bin 0 (.bin 0 (.bin 2 (.arg 3) (.arg 11)) (.bin 2 (.arg 4) (.arg 14))) (.bin 2 (.arg 5) (.arg 17))) (.bin 0 (.bin 0 (.bin 2 (.arg 11) (.arg 3)) (.bin 2 (.arg 14) (.arg 4))) (.bin 2 (.arg 17) (.arg 5)))), true),
  ((.cmp 0 .f32 (.bin 0 (.bin 0 (.bin 2 (.arg 0) (.arg 11)) (.bin 2 (.arg 1) (.arg 14))) (.bin 2 (.arg 2) (.arg 17))) (.bin 0 (.bin 0 (.bin 2 (.arg 11) (.arg 0)) (.bin 2 (.arg 14) (.arg 1))) (.bin 2 (.arg 17) (.arg 2)))), true),
  ((.cmp 0 .f32 (.bin 0 (.bin 0 (.bin 2 (.arg 6) (.arg 10)) (.bin 2 (.arg 7) (.arg 13))) (.bin 2 (.arg 8) (.arg 16))) (.bin 0 (.bin 0 (.bin 2 (.arg 10) (.arg 6)) (.bin 2 (.arg 13) (.arg 7))) (.bin 2 (.arg 16) (.arg 8)))), true),
  ((.cmp 0 .f32 (.bin 0 (.bin 0 (.bin 2 (.arg 3) (.arg 10)) (.bin 2 (.arg 4) (.arg 13))) (.bin 2 (.arg 5) (.arg 16))) (.bin 0 (.bin 0 (.bin 2 (.arg 10) (.arg 3)) (.bin 2 (.arg 13) (.arg 4))) (.bin 2 (.arg 16) (.arg 5)))), true),
  ((.cmp 0 .f32 (.bin 0 (.bin 0 (.bin 2 (.arg 0) (.arg 10)) (.bin 2 (.arg 1) (.arg 13))) (.bin 2 (.arg 2) (.arg 16))) (.bin 0 (.bin 0 (.bin 2 (.arg 10) (.arg 0)) (.bin 2 (.arg 13) (.arg 1))) (.bin 2 (.arg 16) (.arg 2)))), true),
  ((.cmp 0 .f32 (.bin 0 (.bin 0 (.bin 2 (.arg 6) (.arg 9)) (.bin 2 (.arg 7) (.arg 12))) (.bin 2 (.arg 8) (.arg 15))) (.bin 0 (.bin 0 (.bin 2 (.arg 9) (.arg 6)) (.bin 2 (.arg 12) (.arg 7))) (.bin 2 (.arg 15) (.arg 8)))), true),
  ((.cmp 0 .f32 (.bin 0 (.bin 0 (.bin 2 (.arg 3) (.arg 9)) (.bin 2 (.arg 4) (.arg 12))) (.bin 2 (.arg 5) (.arg 15))) (.bin 0 (.bin 0 (.bin 2 (.arg 9) (.arg 3)) (.bin 2 (.arg 12) (.arg 4))) (.bin 2 (.arg 15) (.arg 5)))), true),
  ((.cmp 0 .f32 (.bin 0 (.bin 0 (.bin 2 (.arg 0) (.arg 9)) (.bin 2 (.arg 1) (.arg 12))) (.bin 2 (.arg 2) (.arg 15))) (.bin 0 (.bin 0 (.bin 2 (.arg 9) (.arg 0)) (.bin 2 (.arg 12) (.arg 1))) (.bin 2 (.arg 15) (.arg 2)))), true),
  ((.cmp 0 .f32 (.arg 8) (.arg 8)), true),
  ((.cmp 0 .f32 (.arg 7) (.arg 7)), true),
  ((.cmp 0 .f32 (.arg 6) (.arg 6)), true),
  ((.cmp 0 .f32 (.arg 5) (.arg 5)), true),
  ((.cmp 0 .f32 (.arg 4) (.arg 4)), true),
  ((.cmp 0 .f32 (.arg 3) (.arg 3)), true),
  ((.cmp 0 .f32 (.arg 2) (.arg 2)), true),
  ((.cmp 0 .f32 (.arg 1) (.arg 1)), true),
  ((.cmp 0 .f32 (.arg 0) (.arg 0)), true),
  ((.cmp 0 .f32 (.bin 0 (.bin 0 (.bin 2 (.lit .f32 0) (.arg 2)) (.bin 2 (.lit .f32 0) (.arg 5))) (.bin 2 (.lit .f32 1065353216) (.arg 8))) (.arg 8)), true),
  ((.cmp 0 .f32 (.bin 0 (.bin 0 (.bin 2 (.lit .f32 0) (.arg 1)) (.bin 2 (.lit .f32 0) (.arg 4))) (.bin 2 (.lit .f32 1065353216) (.arg 7))) (.arg 7)), true),
  ((.cmp 0 .f32 (.bin 0 (.bin 0 (.bin 2 (.lit .f32 0) (.arg 0)) (.bin 2 (.lit .f32 0) (.arg 3))) (.bin 2 (.lit .f32 1065353216) (.arg 6))) (.arg 6)), true),
  ((.cmp 0 .f32 (.bin 0 (.bin 0 (.bin 2 (.lit .f32 0) (.arg 2)) (.bin 2 (.lit .f32 1065353216) (.arg 5))) (.bin 2 (.lit .f32 0) (.arg 8))) (.arg 5)), true),
  ((.cmp 0 .f32 (.bin 0 (.bin 0 (.bin 2 (.lit .f32 0) (.arg 1)) (.bin 2 (.lit .f32 1065353216) (.arg 4))) (.bin 2 (.lit .f32 0) (.arg 7))) (.arg 4)), true),
  ((.cmp 0 .f32 (.bin 0 (.bin 0 (.bin 2 (.lit .f32 0) (.arg 0)) (.bin 2 (.lit .f32 1065353216) (.arg 3))) (.bin 2 (.lit .f32 0) (.arg 6))) (.arg 3)), true),
  ((.cmp 0 .f32 (.bin 0 (.bin 0 (.bin 2 (.lit .f32 1065353216) (.arg 2)) (.bin 2 (.lit .f32 0) (.arg 5))) (.bin 2 (.lit .f32 0) (.arg 8))) (.arg 2)), true),
  ((.cmp 0 .f32 (.bin 0 (.bin 0 (.bin 2 (.lit .f32 1065353216) (.arg 1)) (.bin 2 (.lit .f32 0) (.arg 4))) (.bin 2 (.lit .f32 0) (.arg 7))) (.arg 1)), true),
  ((.cmp 0 .f32 (.bin 0 (.bin 0 (.bin 2 (.lit .f32 1065353216) (.arg 0)) (.bin 2 (.lit .f32 0) (.arg 3))) (.bin 2 (.lit .f32 0) (.arg 6))) (.arg 0)), true),
  ((.cmp 0 .f32 (.bin 0 (.bin 0 (.bin 2 (.arg 6) (.lit .f32 0)) (.bin 2 (.arg 7) (.lit .f32 0))) (.bin 2 (.arg 8) (.lit .f32 1065353216))) (.arg 8)), true),
  ((.cmp 0 .f32 (.bin 0 (.bin 0 (.bin 2 (.arg 6) (.lit .f32 0)) (.bin 2 (.arg 7) (.lit .f32 1065353216))) (.bin 2 (.arg 8) (.lit .f32 0))) (.arg 7)), true),
  ((.cmp 0 .f32 (.bin 0 (.bin 0 (.bin 2 (.arg 6) (.lit .f32 1065353216)) (.bin 2 (.arg 7) (.lit .f32 0))) (.bin 2 (.arg 8) (.lit .f32 0))) (.arg 6)), true),
  ((.cmp 0 .f32 (.bin 0 (.bin 0 (.bin 2 (.arg 3) (.lit .f32 0)) (.bin 2 (.arg 4) (.lit .f32 0))) (.bin 2 (.arg 5) (.lit .f32 1065353216))) (.arg 5)), true),
  ((.cmp 0 .f32 (.bin 0 (.bin 0 (.bin 2 (.arg 3) (.lit .f32 0)) (.bin 2 (.arg 4) (.lit .f32 1065353216))) (.bin 2 (.arg 5) (.lit .f32 0))) (.arg 4)), true),
  ((.cmp 0 .f32 (.bin 0 (.bin 0 (.bin 2 (.arg 3) (.lit .f32 1065353216)) (.bin 2 (.arg 4) (.lit .f32 0))) (.bin 2 (.arg 5) (.lit .f32 0))) (.arg 3)), true),
  ((.cmp 0 .f32 (.bin 0 (.bin 0 (.bin 2 (.arg 0) (.lit .f32 0)) (.bin 2 (.arg 1) (.lit .f32 0))) (.bin 2 (.arg 2) (.lit .f32 1065353216))) (.arg 2)), true),
  ((.cmp 0 .f32 (.bin 0 (.bin 0 (.bin 2 (.arg 0) (.lit .f32 0)) (.bin 2 (.arg 1) (.lit .f32 1065353216))) (.bin 2 (.arg 2) (.lit .f32 0))) (.arg 1)), true),
  ((.cmp 0 .f32 (.bin 0 (.bin 0 (.bin 2 (.arg 0) (.lit .f32 1065353216)) (.bin 2 (.arg 1) (.lit .f32 0))) (.bin 2 (.arg 2) (.lit .f32 0))) (.arg 0)), true)]

set_option maxRecDepth 100000 in
theorem matFacts_exact : matFacts.all (factX 24) = true := by kernel_rfl

set_option maxRecDepth 100000 in
theorem run_matrices : runA Tryd.prog matS 200 3 [.opq 0, .opq 1] matFacts isTrue = true := by kernel_rfl
end Go.Proofs.YtmieiaakjiklfaaDoor
