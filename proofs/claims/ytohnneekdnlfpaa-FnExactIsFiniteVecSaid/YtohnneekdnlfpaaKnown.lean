/-
  The functions of this seat's program that the run on symbols takes as known: what each gives is proved here. Conditions: none.
-/
import Derived.Test.YtohnneekdnlfpaaRows
import Derived.Test.YtohnneekdnlfpaaSx12
namespace Go.Proofs.Ytohnneekdnlfpaa
open Go.Sx

theorem mixed : Try.prog.follows .mixedOrders = true := by kernel_rfl
theorem names (f : FuncId) (fn : Func) (h : Try.prog.funcs[f]? = some fn) : (fn.name == "runtime.NumGoroutine") = false :=
  names_ok (P := Try.prog) (by kernel_rfl) f fn h

theorem ext49 : IsExt Try.prog 49 (bitsE .f32) := ⟨Try.f49, Try.func49, by kernel_rfl, rfl, by kernel_rfl, by kernel_rfl⟩

def g1 : Nat → CF → CF := stdF1
def g2 : Nat → CF → CF → CF := fun _ x _ => x

/-- Functions without a Go body. -/
def exts (f : FuncId) (_args : List V) : Option Known :=
  match f with
  | 49 => bitsK .f32 _args
  | _ => none

theorem exts_ok (E : Env) (h1 : E.f1 = g1) : SumOK E Try.prog exts := by
  have _ := h1
  intro f args kn h
  unfold exts at h
  split at h
  · exact fun β vals W hv => bitsK_ok ext49 h hv
  · cases h

set_option maxRecDepth 100000 in
theorem ran30 : runA Try.prog (fun _ _ => none) 60 30 [.sc (.flt .f64 (.arg 0)), .sc (.flt .f64 (.arg 0))] [] isTrue = true := by kernel_rfl

set_option maxRecDepth 100000 in
theorem ran17 : runA Try.prog exts 60 17 [.sc (.flt .f32 (.arg 0)), .sc (.flt .f32 (.arg 1))] [] (sameOut .f32) = true := by kernel_rfl

set_option maxRecDepth 100000 in
theorem ran47 : runA Try.prog exts 60 47 [.sc (.flt .f32 (.arg 0)), .sc (.flt .f32 (.arg 1))] [] (sameOut .f32) = true := by kernel_rfl

def known (f : FuncId) (args : List V) : Option Known :=
  match f with
  | 30 => sameK .f64 args
  | 17 => sameT .f32 args
  | 47 => sameT .f32 args
  | _ => exts f args

theorem known_ok (E : Env) (h1 : E.f1 = g1) (h2 : E.f2 = g2) : SumOK E Try.prog known := by
  have _ := h2
  intro f args kn h
  unfold known at h
  split at h
  · exact fun β vals W hv => sameK_ok mixed names ran30 h hv
  · exact fun β vals W hv => sameT_ok mixed names (fun E' e1 _ => exts_ok E' (e1.trans h1)) ran17 h hv
  · exact fun β vals W hv => sameT_ok mixed names (fun E' e1 _ => exts_ok E' (e1.trans h1)) ran47 h hv
  · exact exts_ok E h1 f args kn h

end Go.Proofs.Ytohnneekdnlfpaa
