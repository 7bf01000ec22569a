/-
  The run of 'FnVectors' on symbols. Conditions: none.
-/
import Derived.Test.YtmieiaakjiklfaaDoorTable
import Derived.Test.YtmieiaakjiklfaaDoorSx35
namespace Go.Proofs.YtmieiaakjiklfaaDoor
open Go.Sx

/-- What the run asks of exact numbers. -/
def vecExact : Facts := [((.cmp 0 .f32 (.bin 0 (.bin 0 (.bin 2 (.bin 0 (.arg 0) (.arg 3)) (.arg 0)) (.bin 2 (.bin 0 (.arg 1) (.arg 4)) (.arg 1))) (.bin 2 (.bin 0 (.arg 2) (.arg 5)) (.arg 2))) (.bin 0 (.bin 0 (.bin 0 (.bin 2 (.arg 0) (.arg 0)) (.bin 2 (.arg 1) (.arg 1))) (.bin 2 (.arg 2) (.arg 2))) (.bin 0 (.bin 0 (.bin 2 (.arg 3) (.arg 0)) (.bin 2 (.arg 4) (.arg 1))) (.bin 2 (.arg 5) (.arg 2))))), true),
  ((.cmp 0 .f32 (.bin 0 (.bin 0 (.bin 2 (.bin 1 (.bin 2 (.arg 1) (.arg 5)) (.bin 2 (.arg 2) (.arg 4))) (.arg 3)) (.bin 2 (.bin 1 (.bin 2 (.arg 2) (.arg 3)) (.bin 2 (.arg 0) (.arg 5))) (.arg 4))) (.bin 2 (.bin 1 (.bin 2 (.arg 0) (.arg 4)) (.bin 2 (.arg 1) (.arg 3))) (.arg 5))) (.lit .f32 0)), true),
  ((.cmp 0 .f32 (.bin 0 (.bin 0 (.bin 2 (.bin 1 (.bin 2 (.arg 1) (.arg 5)) (.bin 2 (.arg 2) (.arg 4))) (.arg 0)) (.bin 2 (.bin 1 (.bin 2 (.arg 2) (.arg 3)) (.bin 2 (.arg 0) (.arg 5))) (.arg 1))) (.bin 2 (.bin 1 (.bin 2 (.arg 0) (.arg 4)) (.bin 2 (.arg 1) (.arg 3))) (.arg 2))) (.lit .f32 0)), true),
  ((.cmp 0 .f32 (.bin 0 (.bin 0 (.bin 2 (.arg 0) (.bin 2 (.arg 3) (.arg 6))) (.bin 2 (.arg 1) (.bin 2 (.arg 4) (.arg 6)))) (.bin 2 (.arg 2) (.bin 2 (.arg 5) (.arg 6)))) (.bin 2 (.bin 0 (.bin 0 (.bin 2 (.arg 0) (.arg 3)) (.bin 2 (.arg 1) (.arg 4))) (.bin 2 (.arg 2) (.arg 5))) (.arg 6))), true),
  ((.cmp 0 .f32 (.bin 0 (.bin 1 (.bin 2 (.arg 0) (.arg 4)) (.bin 2 (.arg 1) (.arg 3))) (.bin 1 (.bin 2 (.arg 3) (.arg 1)) (.bin 2 (.arg 4) (.arg 0)))) (.lit .f32 0)), true),
  ((.cmp 0 .f32 (.bin 0 (.bin 1 (.bin 2 (.arg 2) (.arg 3)) (.bin 2 (.arg 0) (.arg 5))) (.bin 1 (.bin 2 (.arg 5) (.arg 0)) (.bin 2 (.arg 3) (.arg 2)))) (.lit .f32 0)), true),
  ((.cmp 0 .f32 (.bin 0 (.bin 1 (.bin 2 (.arg 1) (.arg 5)) (.bin 2 (.arg 2) (.arg 4))) (.bin 1 (.bin 2 (.arg 4) (.arg 2)) (.bin 2 (.arg 5) (.arg 1)))) (.lit .f32 0)), true),
  ((.cmp 0 .f32 (.bin 0 (.bin 0 (.bin 2 (.arg 0) (.arg 3)) (.bin 2 (.arg 1) (.arg 4))) (.bin 2 (.arg 2) (.arg 5))) (.bin 0 (.bin 0 (.bin 2 (.arg 3) (.arg 0)) (.bin 2 (.arg 4) (.arg 1))) (.bin 2 (.arg 5) (.arg 2)))), true),
  ((.cmp 0 .f32 (.bin 1 (.bin 0 (.arg 2) (.arg 5)) (.arg 5)) (.arg 2)), true),
  ((.cmp 0 .f32 (.bin 1 (.bin 0 (.arg 1) (.arg 4)) (.arg 4)) (.arg 1)), true),
  ((.cmp 0 .f32 (.bin 1 (.bin 0 (.arg 0) (.arg 3)) (.arg 3)) (.arg 0)), true)]

set_option maxRecDepth 100000 in
theorem vecExact_exact : vecExact.all (factX 7) = true := by kernel_rfl

def vecA : Facts := ((.cmp 0 .f32 (.arg 0) (.lit .f32 0)), false) :: (vecNear ++ vecExact)
def vecB : Facts := ((.cmp 0 .f32 (.arg 0) (.lit .f32 0)), true) :: ((.cmp 0 .f32 (.arg 1) (.lit .f32 0)), false) :: (vecNear ++ vecExact)
def vecC : Facts := ((.cmp 0 .f32 (.arg 0) (.lit .f32 0)), true) :: ((.cmp 0 .f32 (.arg 1) (.lit .f32 0)), true) :: ((.cmp 0 .f32 (.arg 2) (.lit .f32 0)), false) :: (vecNear ++ vecExact)
def vecZ : Facts := ((.cmp 0 .f32 (.arg 0) (.lit .f32 0)), true) :: ((.cmp 0 .f32 (.arg 1) (.lit .f32 0)), true) :: ((.cmp 0 .f32 (.arg 2) (.lit .f32 0)), true) :: ([((.cmp 0 .f32 nT (.lit .f32 0)), true)] ++ vecExact)

set_option maxRecDepth 100000 in
theorem run_vecA : runA Tryd.prog vecS 200 4 [.opq 0, .opq 1] vecA isTrue = true := by kernel_rfl
set_option maxRecDepth 100000 in
theorem run_vecB : runA Tryd.prog vecS 200 4 [.opq 0, .opq 1] vecB isTrue = true := by kernel_rfl
set_option maxRecDepth 100000 in
theorem run_vecC : runA Tryd.prog vecS 200 4 [.opq 0, .opq 1] vecC isTrue = true := by kernel_rfl
set_option maxRecDepth 100000 in
theorem run_vecZ : runA Tryd.prog vecS 200 4 [.opq 0, .opq 1] vecZ isTrue = true := by kernel_rfl
end Go.Proofs.YtmieiaakjiklfaaDoor
