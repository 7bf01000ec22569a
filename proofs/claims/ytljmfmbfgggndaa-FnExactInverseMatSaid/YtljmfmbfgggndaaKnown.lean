/-
  The functions of this seat's program that the run on symbols takes as known: what each gives is proved here. Conditions: none.
-/
import Derived.Test.YtljmfmbfgggndaaRows
import Derived.Test.YtljmfmbfgggndaaSx22
namespace Go.Proofs.Ytljmfmbfgggndaa
open Go.Sx

theorem mixed : Try.prog.follows .mixedOrders = true := by kernel_rfl
theorem names (f : FuncId) (fn : Func) (h : Try.prog.funcs[f]? = some fn) : (fn.name == "runtime.NumGoroutine") = false :=
  names_ok (P := Try.prog) (by kernel_rfl) f fn h

theorem ext95 : IsExt Try.prog 95 (bitsE .f32) := ⟨Try.f95, Try.func95, by kernel_rfl, rfl, by kernel_rfl, by kernel_rfl⟩

theorem ext92 : IsExt Try.prog 92 (bitsE .f64) := ⟨Try.f92, Try.func92, by kernel_rfl, rfl, by kernel_rfl, by kernel_rfl⟩

theorem ext94 : IsExt Try.prog 94 (fromE .f32) := ⟨Try.f94, Try.func94, by kernel_rfl, rfl, by kernel_rfl, by kernel_rfl⟩

theorem ext91 : IsExt Try.prog 91 (fromE .f64) := ⟨Try.f91, Try.func91, by kernel_rfl, rfl, by kernel_rfl, by kernel_rfl⟩

theorem ext93 : IsExt Try.prog 93 (Extern.MathSqrt.sqrt) := ⟨Try.f93, Try.func93, by kernel_rfl, rfl, by kernel_rfl, by kernel_rfl⟩

theorem ext96 : IsExt Try.prog 96 ((Extern.MathFloor.toIntegral "math.archFloor" .down)) := ⟨Try.f96, Try.func96, by kernel_rfl, rfl, by kernel_rfl, by kernel_rfl⟩

def g1 : Nat → CF → CF := stdF1
def g2 : Nat → CF → CF → CF := stdF2

/-- Functions without a Go body. -/
def exts (f : FuncId) (_args : List V) : Option Known :=
  match f with
  | 95 => bitsK .f32 _args
  | 92 => bitsK .f64 _args
  | 94 => fromK .f32 _args
  | 91 => fromK .f64 _args
  | 93 => un64K 2 _args
  | 96 => un64K 3 _args
  | _ => none

set_option maxRecDepth 100000 in
theorem exts_ok (E : Env) (h1 : E.f1 = g1) : SumOK E Try.prog exts := by
  have _ := h1
  intro f args kn h
  unfold exts at h
  split at h
  · exact fun β vals W hv => bitsK_ok ext95 h hv
  · exact fun β vals W hv => bitsK_ok ext92 h hv
  · exact fun β vals W hv => fromK_ok ext94 h hv
  · exact fun β vals W hv => fromK_ok ext91 h hv
  · exact fun β vals W hv => un64K_ok ext93 (fun b W => by rw [h1]; exact run_sqrt b W) h hv
  · exact fun β vals W hv => un64K_ok ext96 (fun b W => by rw [h1]; exact run_toInt _ .down b W) h hv
  · cases h

set_option maxRecDepth 100000 in
theorem ran21 : runA Try.prog (fun _ _ => none) 60 21 [.sc (.flt .f64 (.arg 0)), .sc (.flt .f64 (.arg 0))] [] isTrue = true := by kernel_rfl

set_option maxRecDepth 100000 in
theorem ran73 : runA Try.prog exts 60 73 [.sc (.flt .f32 (.arg 0))] sizeFs (isFlt .f32 (sizeT)) = true := by kernel_rfl

set_option maxRecDepth 100000 in
theorem ran57 : runA Try.prog exts 60 57 [.sc (.flt .f32 (.arg 0))] rootFs (isFlt .f32 (rootMk (.arg 0))) = true := by kernel_rfl

set_option maxRecDepth 100000 in
theorem ran55 : runA Try.prog exts 60 55 [.sc (.flt .f32 (.arg 0))] rootFs (isFlt .f32 (rootMk (.arg 0))) = true := by kernel_rfl

set_option maxRecDepth 100000 in
theorem ran66 : runA Try.prog exts 60 66 [.sc (.flt .f64 (.arg 0))] sineFs sineOut = true := by kernel_rfl

set_option maxRecDepth 100000 in
theorem ran88 : runA Try.prog exts 60 88 [.sc (.flt .f64 (.arg 0))] sineFs sineOut = true := by kernel_rfl

set_option maxRecDepth 100000 in
theorem ran39x1 : runA Try.prog exts 60 39 [.sc (.flt .f32 (.arg 0)), .sc (.flt .f32 (.arg 1))] angF1 nanOut = true := by kernel_rfl

set_option maxRecDepth 100000 in
theorem ran39x2 : runA Try.prog exts 60 39 [.sc (.flt .f32 (.arg 0)), .sc (.flt .f32 (.arg 1))] angF2 nanOut = true := by kernel_rfl

set_option maxRecDepth 100000 in
theorem ran39x3 : runA Try.prog exts 60 39 [.sc (.flt .f32 (.arg 0)), .sc (.flt .f32 (.arg 1))] angF3 zeroOut = true := by kernel_rfl

set_option maxRecDepth 100000 in
theorem ran39x4 : runA Try.prog exts 60 39 [.sc (.flt .f32 (.arg 0)), .sc (.flt .f32 (.arg 1))] angF4 (angOut true) = true := by kernel_rfl

set_option maxRecDepth 100000 in
theorem ran39x5 : runA Try.prog exts 60 39 [.sc (.flt .f32 (.arg 0)), .sc (.flt .f32 (.arg 1))] angF5 (angOut false) = true := by kernel_rfl

set_option maxRecDepth 100000 in
theorem ran74x1 : runA Try.prog exts 60 74 [.sc (.flt .f32 (.arg 0)), .sc (.flt .f32 (.arg 1))] angF1 nanOut = true := by kernel_rfl

set_option maxRecDepth 100000 in
theorem ran74x2 : runA Try.prog exts 60 74 [.sc (.flt .f32 (.arg 0)), .sc (.flt .f32 (.arg 1))] angF2 nanOut = true := by kernel_rfl

set_option maxRecDepth 100000 in
theorem ran74x3 : runA Try.prog exts 60 74 [.sc (.flt .f32 (.arg 0)), .sc (.flt .f32 (.arg 1))] angF3 zeroOut = true := by kernel_rfl

set_option maxRecDepth 100000 in
theorem ran74x4 : runA Try.prog exts 60 74 [.sc (.flt .f32 (.arg 0)), .sc (.flt .f32 (.arg 1))] angF4 (angOut true) = true := by kernel_rfl

set_option maxRecDepth 100000 in
theorem ran74x5 : runA Try.prog exts 60 74 [.sc (.flt .f32 (.arg 0)), .sc (.flt .f32 (.arg 1))] angF5 (angOut false) = true := by kernel_rfl

def known (f : FuncId) (args : List V) : Option Known :=
  match f with
  | 21 => sameK .f64 args
  | 73 => un32K (T.abs .f32) args
  | 57 => un32K (rootMk) args
  | 55 => un32K (rootMk) args
  | 66 => sineK args
  | 88 => sineK args
  | 39 => angK args
  | 74 => angK args
  | _ => exts f args

set_option maxRecDepth 100000 in
theorem known_ok (E : Env) (h1 : E.f1 = g1) (h2 : E.f2 = g2) : SumOK E Try.prog known := by
  have _ := h2
  intro f args kn h
  unfold known at h
  split at h
  · exact fun β vals W hv => sameK_ok mixed names ran21 h hv
  · exact fun β vals W hv => un32K_ok mixed names (fun E' e1 _ => exts_ok E' (e1.trans h1)) ran73 (fun b E' _ _ e => sizeFs_ok b E' e) (fun b E' t _ _ e et => sizeT_val b E E' t e et) h hv
  · exact fun β vals W hv => un32K_ok mixed names (fun E' e1 _ => exts_ok E' (e1.trans h1)) ran57 (fun b E' e1 _ e => rootFs_ok b E' (e1.trans h1) e) (fun b E' t e1 _ e et => rootT_val b E E' t e1 e et) h hv
  · exact fun β vals W hv => un32K_ok mixed names (fun E' e1 _ => exts_ok E' (e1.trans h1)) ran55 (fun b E' e1 _ e => rootFs_ok b E' (e1.trans h1) e) (fun b E' t e1 _ e et => rootT_val b E E' t e1 e et) h hv
  · exact fun β vals W hv => sineK_ok mixed names (fun E' e1 _ => exts_ok E' (e1.trans h1)) h1 ran66 h hv
  · exact fun β vals W hv => sineK_ok mixed names (fun E' e1 _ => exts_ok E' (e1.trans h1)) h1 ran88 h hv
  · exact fun β vals W hv => angK_ok mixed names (fun E' e1 => exts_ok E' (e1.trans h1)) h1 h2 ⟨ran39x1, ran39x2, ran39x3, ran39x4, ran39x5⟩ h hv
  · exact fun β vals W hv => angK_ok mixed names (fun E' e1 => exts_ok E' (e1.trans h1)) h1 h2 ⟨ran74x1, ran74x2, ran74x3, ran74x4, ran74x5⟩ h hv
  · exact exts_ok E h1 f args kn h

end Go.Proofs.Ytljmfmbfgggndaa
