/-
  The functions of this seat's program that the run on symbols takes as known: what each gives is proved here. Conditions: none.
-/
import Derived.Test.YtikoijgnpjmgjaaRows
import Derived.Test.YtikoijgnpjmgjaaSx30
namespace Go.Proofs.Ytikoijgnpjmgjaa
open Go.Sx

theorem mixed : Try.prog.follows .mixedOrders = true := by kernel_rfl
theorem names (f : FuncId) (fn : Func) (h : Try.prog.funcs[f]? = some fn) : (fn.name == "runtime.NumGoroutine") = false :=
  names_ok (P := Try.prog) (by kernel_rfl) f fn h

theorem ext79 : IsExt Try.prog 79 (bitsE .f32) := ⟨Try.f79, Try.func79, by kernel_rfl, rfl, by kernel_rfl, by kernel_rfl⟩

theorem ext86 : IsExt Try.prog 86 (bitsE .f64) := ⟨Try.f86, Try.func86, by kernel_rfl, rfl, by kernel_rfl, by kernel_rfl⟩

theorem ext78 : IsExt Try.prog 78 (fromE .f32) := ⟨Try.f78, Try.func78, by kernel_rfl, rfl, by kernel_rfl, by kernel_rfl⟩

theorem ext85 : IsExt Try.prog 85 (fromE .f64) := ⟨Try.f85, Try.func85, by kernel_rfl, rfl, by kernel_rfl, by kernel_rfl⟩

theorem ext75 : IsExt Try.prog 75 ((Extern.MathFloor.toIntegral "math.RoundToEven" .even)) := ⟨Try.f75, Try.func75, by kernel_rfl, rfl, by kernel_rfl, by kernel_rfl⟩

def g1 : Nat → CF → CF := stdF3
def g2 : Nat → CF → CF → CF := fun _ x _ => x

/-- Functions without a Go body. -/
def exts (f : FuncId) (_args : List V) : Option Known :=
  match f with
  | 79 => bitsK .f32 _args
  | 86 => bitsK .f64 _args
  | 78 => fromK .f32 _args
  | 85 => fromK .f64 _args
  | 75 => un64K 4 _args
  | _ => none

set_option maxRecDepth 100000 in
theorem exts_ok (E : Env) (h1 : E.f1 = g1) : SumOK E Try.prog exts := by
  have _ := h1
  intro f args kn h
  unfold exts at h
  split at h
  · exact fun β vals W hv => bitsK_ok ext79 h hv
  · exact fun β vals W hv => bitsK_ok ext86 h hv
  · exact fun β vals W hv => fromK_ok ext78 h hv
  · exact fun β vals W hv => fromK_ok ext85 h hv
  · exact fun β vals W hv => un64K_ok ext75 (fun b W => by rw [h1]; exact run_toInt _ .even b W) h hv
  · cases h

set_option maxRecDepth 100000 in
theorem ran27 : runA Try.prog (fun _ _ => none) 60 27 [.sc (.flt .f64 (.arg 0)), .sc (.flt .f64 (.arg 0))] [] isTrue = true := by kernel_rfl

set_option maxRecDepth 100000 in
theorem ran82 : runA Try.prog exts 60 82 [.sc (.flt .f32 (.arg 0)), .sc (.flt .f32 (.arg 1))] [] (sameOut .f32) = true := by kernel_rfl

set_option maxRecDepth 100000 in
theorem ran87 : runA Try.prog exts 60 87 [.sc (.flt .f32 (.arg 0)), .sc (.flt .f32 (.arg 1))] [] (sameOut .f32) = true := by kernel_rfl

set_option maxRecDepth 100000 in
theorem ran55x1 : runA Try.prog exts 60 55 [.sc (.flt .f32 (.arg 0))] wrapF1 nanOut = true := by kernel_rfl

set_option maxRecDepth 100000 in
theorem ran55x2 : runA Try.prog exts 60 55 [.sc (.flt .f32 (.arg 0))] (wrapF3 true) (wrapMM true) = true := by kernel_rfl

set_option maxRecDepth 100000 in
theorem ran55x3 : runA Try.prog exts 60 55 [.sc (.flt .f32 (.arg 0))] (wrapF3 false) (wrapMM false) = true := by kernel_rfl

set_option maxRecDepth 100000 in
theorem ran54x1 : runA Try.prog exts 60 54 [.sc (.flt .f32 (.arg 0))] wrapF1 nanOut = true := by kernel_rfl

set_option maxRecDepth 100000 in
theorem ran54x2 : runA Try.prog exts 60 54 [.sc (.flt .f32 (.arg 0))] wrapF2 wrapIf = true := by kernel_rfl

def known (f : FuncId) (args : List V) : Option Known :=
  match f with
  | 27 => sameK .f64 args
  | 82 => sameT .f32 args
  | 87 => sameT .f32 args
  | 55 => wrapK args
  | 54 => wrapK args
  | _ => exts f args

set_option maxRecDepth 100000 in
theorem known_ok (E : Env) (h1 : E.f1 = g1) (h2 : E.f2 = g2) : SumOK E Try.prog known := by
  have _ := h2
  intro f args kn h
  unfold known at h
  split at h
  · exact fun β vals W hv => sameK_ok mixed names ran27 h hv
  · exact fun β vals W hv => sameT_ok mixed names (fun E' e1 _ => exts_ok E' (e1.trans h1)) ran82 h hv
  · exact fun β vals W hv => sameT_ok mixed names (fun E' e1 _ => exts_ok E' (e1.trans h1)) ran87 h hv
  · exact fun β vals W hv => wrapK_ok mixed names (fun E' e1 => exts_ok E' (e1.trans h1)) h1 (.mms ran55x1 ran55x2 ran55x3) h hv
  · exact fun β vals W hv => wrapK_ok mixed names (fun E' e1 => exts_ok E' (e1.trans h1)) h1 (.ifs ran54x1 ran54x2) h hv
  · exact exts_ok E h1 f args kn h

end Go.Proofs.Ytikoijgnpjmgjaa
