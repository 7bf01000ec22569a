/-
  The functions 'size' and 'root' as the run on symbols knows them. Conditions: none.
-/
import Derived.Test.YtljmfmbfgggndaaSx14
namespace Go.Sx
open Go.RowKit

section
variable {P : Program} {E : Env}

def isFlt (k : FloatKind) (t : T) : V → Facts → Bool
  | .sc (.flt k1 u), _ => Nat.beq (fk k1) (fk k) && T.beq u t
  | _, _ => false
theorem isFlt_spec {k : FloatKind} {t : T} {sv : V} {fs : Facts} (h : isFlt k t sv fs = true) : sv = .sc (.flt k t) := by
  unfold isFlt at h
  split at h
  · simp only [Bool.and_eq_true] at h; rw [fk_inj h.1, T.beq_eq h.2]
  · cases h

/-- A function of one float that gives one float. -/
def un32K (mk : T → T) : List V → Option Known
  | [.sc (.flt .f32 t)] => some (.val (.sc (.flt .f32 (mk t))))
  | _ => none

theorem un32K_ok (hm : P.follows .mixedOrders = true) (hN : ∀ (f : FuncId) (fn : Func), P.funcs[f]? = some fn → (fn.name == "runtime.NumGoroutine") = false)
    {S : FuncId → List V → Option Known} (hS : ∀ E' : Env, E'.f1 = E.f1 → E'.f2 = E.f2 → SumOK E' P S) {n : Nat} {f : FuncId} {fs : Facts} {t0 : T} {mk : T → T}
    (h : runA P S n f [.sc (.flt .f32 (.arg 0))] fs (isFlt .f32 t0) = true)
    (hfs : ∀ (b : Nat) (E' : Env), E'.f1 = E.f1 → E'.f2 = E.f2 → E'.arg 0 = canon .f32 b → FactsOK E' fs)
    (hval : ∀ (b : Nat) (E' : Env) (t : T), E'.f1 = E.f1 → E'.f2 = E.f2 → E'.arg 0 = canon .f32 b → den E t = canon .f32 b → den E' t0 = den E (mk t))
    {args : List V} {kn : Known} (hs : un32K mk args = some kn) {β : Beta} {vals : List Value} {W : World} (hv : VsRel E β args vals) :
    CallRuns P f vals.toArray W fun v W' => Grown W W' ∧ KnownRel E β kn v := by
  unfold un32K at hs
  split at hs
  · rename_i t
    cases hs
    obtain ⟨v, rfl, b, rfl, hb⟩ := one_arg hv
    obtain ⟨fn, c, hfn, hbody⟩ := runA_body h
    let E' : Env := { arg := fun _ => den E t, f1 := E.f1, f2 := E.f2 }
    obtain ⟨sv, fs', h1, _, h3⟩ := runA_sound (E := E') hm hN (hS E' rfl rfl) h (hfs b E' rfl rfl hb.symm)
    have := isFlt_spec h1
    subst this
    refine callRuns_of_calls hN hfn hbody ((h3 [.float .f32 b] W ?_).mono fun e W' ⟨v, he, hr, hg⟩ => ⟨v, he, hg, ?_⟩)
    · refine ⟨rfl, fun i s v hs hvv => ?_⟩
      match i, hs with
      | 0, hs => simp at hs hvv; subst hs; subst hvv; exact ⟨b, rfl, hb⟩
    · obtain ⟨r, rfl, hr⟩ := hr
      exact ⟨r, rfl, by rw [hr]; exact hval b E' t rfl rfl hb.symm hb.symm⟩
  · cases hs

/-- 'size': the fact that it leans on, the term that it gives. -/
def sizeFs : Facts := [(.fits (.abs .f64 (.wide (.arg 0))), true)]
def sizeT : T := .narrow (.abs .f64 (.wide (.arg 0)))
theorem sizeFs_ok (b : Nat) (E' : Env) (h : E'.arg 0 = canon .f32 b) : FactsOK E' sizeFs := by
  intro p hp
  simp only [sizeFs, List.mem_singleton] at hp
  subst hp
  show fitsC (cabs .f64 (cwide (E'.arg 0))) = true
  rw [h]; exact (size_fact b).1
theorem sizeT_val (b : Nat) (E E' : Env) (t : T) (h : E'.arg 0 = canon .f32 b) (ht : den E t = canon .f32 b) : den E' sizeT = den E (.abs .f32 t) := by
  show cnarrow (cabs .f64 (cwide (E'.arg 0))) = cabs .f32 (den E t)
  rw [h, ht]; exact (size_fact b).2

/-- 'root'. -/
def rootMk (t : T) : T := .narrow (.f1 2 (.wide t))
def rootFs : Facts := [(.fits (.f1 2 (.wide (.arg 0))), true)]
theorem rootFs_ok (b : Nat) (E' : Env) (h1 : E'.f1 = stdF1) (h : E'.arg 0 = canon .f32 b) : FactsOK E' rootFs := by
  intro p hp
  simp only [rootFs, List.mem_singleton] at hp
  subst hp
  show fitsC (E'.f1 2 (cwide (E'.arg 0))) = true
  rw [h1, h]; exact root_fact b
theorem rootT_val (b : Nat) (E E' : Env) (t : T) (h1 : E'.f1 = E.f1) (h : E'.arg 0 = canon .f32 b) (ht : den E t = canon .f32 b) : den E' (rootMk (.arg 0)) = den E (rootMk t) := by
  show cnarrow (E'.f1 2 (cwide (E'.arg 0))) = cnarrow (E.f1 2 (cwide (den E t)))
  rw [h1, h, ht]

end
end Go.Sx
