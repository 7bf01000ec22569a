/-
  The functions of this seat's program that the run on symbols takes as known: what each gives is proved here. Conditions: none.
-/
import Derived.Test.YtcoediecgmdkpaaRows
import Derived.Test.YtcoediecgmdkpaaKept
import Derived.Test.YtcoediecgmdkpaaSx15
namespace Go.Proofs.Ytcoediecgmdkpaa
open Go.Sx

theorem ext41 : IsExt Try.prog 41 (bitsE .f32) := ⟨Try.f41, Try.func41, by kernel_rfl, rfl, by kernel_rfl, by kernel_rfl⟩

theorem ext50 : IsExt Try.prog 50 (bitsE .f64) := ⟨Try.f50, Try.func50, by kernel_rfl, rfl, by kernel_rfl, by kernel_rfl⟩

theorem ext40 : IsExt Try.prog 40 (fromE .f32) := ⟨Try.f40, Try.func40, by kernel_rfl, rfl, by kernel_rfl, by kernel_rfl⟩

theorem ext49 : IsExt Try.prog 49 (fromE .f64) := ⟨Try.f49, Try.func49, by kernel_rfl, rfl, by kernel_rfl, by kernel_rfl⟩

theorem ext51 : IsExt Try.prog 51 (Extern.MathSqrt.sqrt) := ⟨Try.f51, Try.func51, by kernel_rfl, rfl, by kernel_rfl, by kernel_rfl⟩

def g1 : Nat → CF → CF := stdF1
def g2 : Nat → CF → CF → CF := fun _ x _ => x

/-- Functions without a Go body. -/
def exts (f : FuncId) (_args : List V) : Option Known :=
  match f with
  | 41 => bitsK .f32 _args
  | 50 => bitsK .f64 _args
  | 40 => fromK .f32 _args
  | 49 => fromK .f64 _args
  | 51 => un64K 2 _args
  | _ => none

set_option maxRecDepth 100000 in
theorem exts_ok (E : Env) (h1 : E.f1 = g1) : SumOK E Try.prog exts := by
  have _ := h1
  intro f args kn h
  unfold exts at h
  split at h
  · exact fun β vals W hv _ => bitsK_ok ext41 h hv
  · exact fun β vals W hv _ => bitsK_ok ext50 h hv
  · exact fun β vals W hv _ => fromK_ok ext40 h hv
  · exact fun β vals W hv _ => fromK_ok ext49 h hv
  · exact fun β vals W hv _ => un64K_ok ext51 (fun b W => by rw [h1]; exact run_sqrt b W) h hv
  · cases h

set_option maxRecDepth 100000 in
theorem ran45 : runA Try.prog exts 60 45 [.sc (.flt .f32 (.arg 0)), .sc (.flt .f32 (.arg 1))] [] (sameOut .f32) = true := by kernel_rfl

set_option maxRecDepth 100000 in
theorem ran28 : runA Try.prog exts 60 28 [.sc (.flt .f32 (.arg 0))] sizeFs (isFlt .f32 (sizeT)) = true := by kernel_rfl

set_option maxRecDepth 100000 in
theorem ran36 : runA Try.prog exts 60 36 [.sc (.flt .f32 (.arg 0))] rootFs (isFlt .f32 (rootMk (.arg 0))) = true := by kernel_rfl

set_option maxRecDepth 100000 in
theorem ran39 : runA Try.prog exts 60 39 [.sc (.flt .f32 (.arg 0))] rootFs (isFlt .f32 (rootMk (.arg 0))) = true := by kernel_rfl

def known (f : FuncId) (args : List V) : Option Known :=
  match f with
  | 45 => sameT .f32 args
  | 28 => un32K (T.abs .f32) args
  | 36 => un32K (rootMk) args
  | 39 => un32K (rootMk) args
  | _ => exts f args

set_option maxRecDepth 100000 in
theorem known_ok (E : Env) (h1 : E.f1 = g1) (h2 : E.f2 = g2) : SumOK E Try.prog known := by
  have _ := h2
  intro f args kn h
  unfold known at h
  split at h
  · exact fun β vals W hv _ => sameT_ok mixed names (fun E' e1 _ => exts_ok E' (e1.trans h1)) ran45 h hv
  · exact fun β vals W hv _ => un32K_ok mixed names (fun E' e1 _ => exts_ok E' (e1.trans h1)) ran28 (fun b E' _ _ e => sizeFs_ok b E' e) (fun b E' t _ _ e et => sizeT_val b E E' t e et) h hv
  · exact fun β vals W hv _ => un32K_ok mixed names (fun E' e1 _ => exts_ok E' (e1.trans h1)) ran36 (fun b E' e1 _ e => rootFs_ok b E' (e1.trans h1) e) (fun b E' t e1 _ e et => rootT_val b E E' t e1 e et) h hv
  · exact fun β vals W hv _ => un32K_ok mixed names (fun E' e1 _ => exts_ok E' (e1.trans h1)) ran39 (fun b E' e1 _ e => rootFs_ok b E' (e1.trans h1) e) (fun b E' t e1 _ e et => rootT_val b E E' t e1 e et) h hv
  · exact exts_ok E h1 f args kn h

end Go.Proofs.Ytcoediecgmdkpaa
