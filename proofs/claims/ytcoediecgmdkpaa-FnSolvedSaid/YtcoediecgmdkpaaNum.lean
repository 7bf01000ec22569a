/-
  The bits of a number, one pattern for each NaN. Conditions: none.
-/
import Derived.Test.YtcoediecgmdkpaaHex
import Derived.Test.YtcoediecgmdkpaaProg
import Derived.WalkKit
import Derived.Below
import Derived.Lib.Hide
namespace Go.Proofs.Ytcoediecgmdkpaa
open Go.RowKit

/-- Is it a NaN? -/
def nanB (b : Nat) : Bool := (FloatKind.f32.format.read b).isNaN
/-- The bits that a text shows. -/
def txt (b : Nat) : Nat := if nanB b then 2143289344 else b

theorem order_nan {d : Ieee.Datum} (h : d.isNaN = true) : d.order d = none := by cases d <;> simp_all [Ieee.Datum.isNaN, Ieee.Datum.order]
theorem order_same {d : Ieee.Datum} (h : d.isNaN = false) : d.order d = some .eq := by
  cases d with
  | nan => simp [Ieee.Datum.isNaN] at h
  | number s m i =>
    simp only [Ieee.Datum.order, Option.some.injEq]
    exact Std.compare_self
  | infinity s => cases s <;> rfl

theorem run_ne (P : Program) (w : World) (t : TypeId) (b : Nat) :
    (binOp .neq t (.float .f32 b) (.float .f32 b)).run P w = .ok (.bool (nanB b)) w := by
  have : (FloatKind.f32.format.order b b != some .eq) = nanB b := by
    unfold Ieee.Format.order nanB
    cases h : (FloatKind.f32.format.read b).isNaN
    · rw [order_same h]; rfl
    · rw [order_nan h]; rfl
  rw [← this]
  simp [binOp, Op.floatCmp]

theorem run_ext {P : Program} {f : FuncId} {fn : Func} {e : Array Value → Sem Value} (hfn : P.funcs[f]? = some fn) (hne : (fn.name == "runtime.NumGoroutine") = false) (hb : fn.body = none) (h1 : Extern.findNext fn = none)
    (h2 : Extern.find fn = some e) {args : Array Value} {W W' : World} {v : Value} (h : (e args).run P W = .ok v W') : (callFunc f args).run P W = .ok (.value v) W' := by
  unfold callFunc
  rw [Sem.run_bind, run_program]
  simp only [Result.andThen_ok, hfn, hne, hb, Option.isNone_none, if_true, Bool.false_eq_true, if_false, h1, h2]
  rw [Sem.run_bind, run_mark]
  simp [h]

theorem run_bits (b : Nat) (w : World) : (callFunc 41 #[.float .f32 b]).run Try.prog w = .ok (.value (.int .u32 (b : Nat))) w :=
  run_ext (e := Extern.MathFloatBits.float32bits) Try.func41 (by kernel_rfl) rfl (by kernel_rfl) (by kernel_rfl) rfl

end Go.Proofs.Ytcoediecgmdkpaa
