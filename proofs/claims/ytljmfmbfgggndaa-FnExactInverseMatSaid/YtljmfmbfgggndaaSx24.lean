/-
  A law by runs that together cover all cases. Conditions: none.
-/
import Derived.Test.YtljmfmbfgggndaaSx23
namespace Go.Sx
open Go.RowKit Go.ChangeShapes Go.WideShapes Go.ChangeAt

/-- A law, by runs that together cover all cases. -/
theorem law_runsR {P : Program} (hm : P.follows .mixedOrders = true) (hN : ∀ (f : FuncId) (fn : Func), P.funcs[f]? = some fn → (fn.name == "runtime.NumGoroutine") = false)
    {S : FuncId → List V → Option Known} {n : Nat} {f : FuncId} {ts : List TypeId} (f1 : Nat → CF → CF) (f2 : Nat → CF → CF → CF)
    (hS : ∀ E : Env, E.f1 = f1 → E.f2 = f2 → SumOK E P S) (h : Runs P S n f (argsV P 0 ts) isTrue []) : LawRuns P f ts := by
  intro vals W hv
  obtain ⟨fs, hf, hr⟩ := h.some (envOf vals f1 f2) facts_nil
  obtain ⟨sv, fs', h1, _, h3⟩ := runA_sound (E := envOf vals f1 f2) hm hN (hS _ rfl rfl) hr hf
  have := isTrue_spec h1
  subst this
  exact (h3 vals W (hv f1 f2)).mono fun e W' ⟨v, he, hr, hg⟩ => ⟨by rw [he]; exact congrArg Ending.returned hr, hg⟩

end Go.Sx
