/-
  The functions of this seat's program that the run on symbols takes as known: what each gives is proved here. Conditions: none.
-/
import Derived.Test.YtmieiaakjiklfaaDoorRows
import Derived.Test.YtmieiaakjiklfaaDoorKept
import Derived.Test.YtmieiaakjiklfaaDoorSx15
namespace Go.Proofs.YtmieiaakjiklfaaDoor
open Go.Sx

theorem ext52 : IsExt Tryd.prog 52 (bitsE .f32) := ⟨Tryd.f52, Tryd.func52, by kernel_rfl, rfl, by kernel_rfl, by kernel_rfl⟩

theorem ext88 : IsExt Tryd.prog 88 (bitsE .f64) := ⟨Tryd.f88, Tryd.func88, by kernel_rfl, rfl, by kernel_rfl, by kernel_rfl⟩

theorem ext49 : IsExt Tryd.prog 49 (fromE .f32) := ⟨Tryd.f49, Tryd.func49, by kernel_rfl, rfl, by kernel_rfl, by kernel_rfl⟩

theorem ext76 : IsExt Tryd.prog 76 (fromE .f64) := ⟨Tryd.f76, Tryd.func76, by kernel_rfl, rfl, by kernel_rfl, by kernel_rfl⟩

theorem ext87 : IsExt Tryd.prog 87 (Extern.MathSqrt.sqrt) := ⟨Tryd.f87, Tryd.func87, by kernel_rfl, rfl, by kernel_rfl, by kernel_rfl⟩

def g1 : Nat → CF → CF := stdF1
def g2 : Nat → CF → CF → CF := fun _ x _ => x

/-- Functions without a Go body. -/
def exts (f : FuncId) (_args : List V) : Option Known :=
  match f with
  | 52 => bitsK .f32 _args
  | 88 => bitsK .f64 _args
  | 49 => fromK .f32 _args
  | 76 => fromK .f64 _args
  | 87 => un64K 2 _args
  | _ => none

set_option maxRecDepth 100000 in
theorem exts_ok (E : Env) (h1 : E.f1 = g1) : SumOK E Tryd.prog exts := by
  have _ := h1
  intro f args kn h
  unfold exts at h
  split at h
  · exact fun β vals W hv _ => bitsK_ok ext52 h hv
  · exact fun β vals W hv _ => bitsK_ok ext88 h hv
  · exact fun β vals W hv _ => fromK_ok ext49 h hv
  · exact fun β vals W hv _ => fromK_ok ext76 h hv
  · exact fun β vals W hv _ => un64K_ok ext87 (fun b W => by rw [h1]; exact run_sqrt b W) h hv
  · cases h

set_option maxRecDepth 100000 in
theorem ran26 : runA Tryd.prog exts 60 26 [.sc (.flt .f32 (.arg 0)), .sc (.flt .f32 (.arg 1))] [] (sameOut .f32) = true := by kernel_rfl

set_option maxRecDepth 100000 in
theorem ran54 : runA Tryd.prog exts 60 54 [.sc (.flt .f32 (.arg 0)), .sc (.flt .f32 (.arg 1))] [] (sameOut .f32) = true := by kernel_rfl

set_option maxRecDepth 100000 in
theorem ran57 : runA Tryd.prog exts 60 57 [.sc (.flt .f32 (.arg 0))] sizeFs (isFlt .f32 (sizeT)) = true := by kernel_rfl

set_option maxRecDepth 100000 in
theorem ran55 : runA Tryd.prog exts 60 55 [.sc (.flt .f32 (.arg 0))] rootFs (isFlt .f32 (rootMk (.arg 0))) = true := by kernel_rfl

def known (f : FuncId) (args : List V) : Option Known :=
  match f with
  | 26 => sameT .f32 args
  | 54 => sameT .f32 args
  | 57 => un32K (T.abs .f32) args
  | 55 => un32K (rootMk) args
  | _ => exts f args

set_option maxRecDepth 100000 in
theorem known_ok (E : Env) (h1 : E.f1 = g1) (h2 : E.f2 = g2) : SumOK E Tryd.prog known := by
  have _ := h2
  intro f args kn h
  unfold known at h
  split at h
  · exact fun β vals W hv _ => sameT_ok mixed names (fun E' e1 _ => exts_ok E' (e1.trans h1)) ran26 h hv
  · exact fun β vals W hv _ => sameT_ok mixed names (fun E' e1 _ => exts_ok E' (e1.trans h1)) ran54 h hv
  · exact fun β vals W hv _ => un32K_ok mixed names (fun E' e1 _ => exts_ok E' (e1.trans h1)) ran57 (fun b E' _ _ e => sizeFs_ok b E' e) (fun b E' t _ _ e et => sizeT_val b E E' t e et) h hv
  · exact fun β vals W hv _ => un32K_ok mixed names (fun E' e1 _ => exts_ok E' (e1.trans h1)) ran55 (fun b E' e1 _ e => rootFs_ok b E' (e1.trans h1) e) (fun b E' t e1 _ e et => rootT_val b E E' t e1 e et) h hv
  · exact exts_ok E h1 f args kn h

end Go.Proofs.YtmieiaakjiklfaaDoor
