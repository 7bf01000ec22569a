/-
  The sine of so many turns, as the run on symbols knows it. Conditions: none.
-/
import Derived.Test.YtikoijgnpjmgjaaSx17
namespace Go.Sx
open Go.RowKit

/-- The result of the sine's run: the term of the branch taken. -/
def sineOut : V → Facts → Bool
  | .sc (.flt k u), fs => Nat.beq (fk k) 0 && match look sineA0 fs with
    | some b => match look (sineA1 b) fs with
      | some c => T.beqC u (sineT b c)
      | none => false
    | none => false
  | _, _ => false

def sineFs : Facts := [(.fits (sineW true true), true), (.fits (sineW true false), true), (.fits (sineW false true), true), (.fits (sineW false false), true)]

section
variable {P : Program} {E : Env}

theorem bd_half (E : Env) : Bd 1074 (den E sineHalf) := bd_lit (b := 4602678819172646912) (by decide +kernel)

theorem bd_sineF (E : Env) (h : E.f1 3 = cint .down) : Bd 1074 (den E sineF) := by
  show Bd 1074 (cbin .sub .f64 (E.arg 0) (E.f1 3 (E.arg 0)))
  rw [h]; exact bd_fract _
theorem bd_sineF1 (E : Env) (h : E.f1 3 = cint .down) (b : Bool) : Bd 1075 (den E (sineF1 b)) := by
  cases b
  · exact (bd_sineF E h).mono (by decide)
  · exact bd_sub (bd_sineF E h) (bd_half E) (by decide +kernel) (by decide) (by decide)
theorem bd_sineF2 (E : Env) (h : E.f1 3 = cint .down) (b c : Bool) : Bd 1076 (den E (sineF2 b c)) := by
  cases c
  · exact (bd_sineF1 E h b).mono (by decide)
  · exact bd_sub (bd_half E) (bd_sineF1 E h b) (by decide +kernel) (by decide) (by decide)
theorem bd_sineX (E : Env) (h : E.f1 3 = cint .down) (b c : Bool) : Bd 1079 (den E (sineX b c)) :=
  bd_mul (i := 1077) (bd_lit (b := 4618760256179416344) (by decide +kernel)) (bd_sineF2 E h b c) (by decide) (by decide) (by decide)
theorem bd_sineY (E : Env) (h : E.f1 3 = cint .down) (b c : Bool) : Bd 1084 (den E (.bin 6 (sineX b c) (sineX b c))) :=
  bd_mul (bd_sineX E h b c) (bd_sineX E h b c) (by decide) (by decide) (by decide)
/-- One round. -/
theorem bd_round {y s : T} {n k : Nat} (E : Env) (hy : Bd 1084 (den E y)) (hs : Bd (1074 + k) (den E s)) (hn : litLb n = true) (hk : k ≤ 90) :
    Bd (1074 + (k + 11)) (den E (.bin 5 (.lit .f64 4607182418800017408) (.bin 6 (.bin 7 y (.lit .f64 n)) s))) := by
  refine bd_sub (i := 1074) (j := 1084 + k) (bd_lit (b := 4607182418800017408) (by decide +kernel)) ?_ ?_ (by omega) (by omega)
  · exact bd_mul (i := 1084) (j := 1074 + k) (bd_div hy (lb_lit hn) (by decide) (by decide)) hs (by omega) (by omega) (by omega)
  · have h1 : 2 ^ 1074 ≤ 2 ^ (1084 + k) := pow_mono 1074 (1084 + k) (by omega)
    have h2 : 2 ^ (1074 + (k + 11)) = 2 ^ (1084 + k) + 2 ^ (1084 + k) := by
      rw [show 1074 + (k + 11) = (1084 + k) + 1 by omega, Nat.pow_succ]; omega
    omega
theorem bd_sineS {y : T} (E : Env) (hy : Bd 1084 (den E y)) : ∀ (ns : List Nat) (s : T) (k : Nat), ns.all litLb = true → Bd (1074 + k) (den E s) → k + 11 * ns.length ≤ 101 →
    Bd (1074 + (k + 11 * ns.length)) (den E (sineS y ns s))
  | [], s, k, _, hs, _ => by simpa [sineS] using hs
  | n :: r, s, k, hn, hs, hk => by
    simp only [List.all_cons, Bool.and_eq_true] at hn
    simp only [List.length_cons] at hk
    have := bd_sineS E hy r (.bin 5 (.lit .f64 4607182418800017408) (.bin 6 (.bin 7 y (.lit .f64 n)) s)) (k + 11) hn.2 (bd_round E hy hs hn.1 (by omega)) (by omega)
    rw [show k + 11 * (n :: r).length = k + 11 + 11 * r.length by simp only [List.length_cons]; omega]
    exact this
theorem bd_sineW (E : Env) (h : E.f1 3 = cint .down) (b c : Bool) : Bd 1170 (den E (sineW b c)) := by
  have h1 : Bd (1074 + (0 + 11 * sineNs.length)) (den E (sineS (.bin 6 (sineX b c) (sineX b c)) sineNs (.lit .f64 4607182418800017408))) :=
    bd_sineS E (bd_sineY E h b c) sineNs _ 0 (by decide +kernel) (bd_lit (b := 4607182418800017408) (by decide +kernel)) (by decide)
  have h2 : Bd 1170 (den E (sineB b c)) := (bd_mul (k := 1167) h1 (bd_sineX E h b c) (by decide) (by decide) (by decide)).mono (by decide)
  cases b
  · exact h2
  · exact bd_neg h2

theorem sineFs_ok (E : Env) (h : E.f1 = stdF1) : FactsOK E sineFs := by
  have h3 : E.f1 3 = cint .down := by rw [h]; rfl
  intro p hp
  simp only [sineFs, List.mem_cons, List.not_mem_nil, or_false] at hp
  rcases hp with rfl | rfl | rfl | rfl <;> exact bd_fits (bd_sineW E h3 _ _) (by decide)

theorem sine_den (E : Env) (h : E.f1 = stdF1) (b c : Bool) : den E (sineT b c) = den (env0 (E.arg 0) (E.arg 0)) (sineT b c) := by
  obtain ⟨arg, f1, f2⟩ := E
  obtain rfl : f1 = stdF1 := h
  cases b <;> cases c <;> rfl
theorem sine_h0 (E : Env) (h : E.f1 = stdF1) : holds E sineA0 = holds (env0 (E.arg 0) (E.arg 0)) sineA0 := by
  obtain ⟨arg, f1, f2⟩ := E
  obtain rfl : f1 = stdF1 := h
  rfl
theorem sine_h1 (E : Env) (h : E.f1 = stdF1) (b : Bool) : holds E (sineA1 b) = holds (env0 (E.arg 0) (E.arg 0)) (sineA1 b) := by
  obtain ⟨arg, f1, f2⟩ := E
  obtain rfl : f1 = stdF1 := h
  cases b <;> rfl

/-- A function of a float64 that gives the sine of so many turns. -/
def sineK : List V → Option Known
  | [.sc (.flt .f64 t)] => some (.val (.sc (.flt .f32 (.f1 5 t))))
  | _ => none

theorem sineK_ok (hm : P.follows .mixedOrders = true) (hN : ∀ (f : FuncId) (fn : Func), P.funcs[f]? = some fn → (fn.name == "runtime.NumGoroutine") = false)
    {S : FuncId → List V → Option Known} (hS : ∀ E' : Env, E'.f1 = E.f1 → E'.f2 = E.f2 → SumOK E' P S) (hE : E.f1 = stdF1) {n : Nat} {f : FuncId}
    (h : runA P S n f [.sc (.flt .f64 (.arg 0))] sineFs sineOut = true)
    {args : List V} {kn : Known} (hs : sineK args = some kn) {β : Beta} {vals : List Value} {W : World} (hv : VsRel E β args vals) :
    CallRuns P f vals.toArray W fun v W' => Grown W W' ∧ KnownRel E β kn v := by
  unfold sineK at hs
  split at hs
  · rename_i t
    cases hs
    obtain ⟨v, rfl, b, rfl, hb⟩ := one_arg hv
    obtain ⟨fn, c, hfn, hbody⟩ := runA_body h
    let E' : Env := { arg := fun _ => den E t, f1 := E.f1, f2 := E.f2 }
    obtain ⟨sv, fs', h1, hf, h3⟩ := runA_sound (E := E') hm hN (hS E' rfl rfl) h (sineFs_ok E' hE)
    have hres : ∃ u, sv = .sc (.flt .f32 u) ∧ den E' u = csine (den E t) := by
      unfold sineOut at h1
      split at h1
      · rename_i k u
        simp only [Bool.and_eq_true] at h1
        obtain ⟨hk, h1⟩ := h1
        have hk' : k = .f32 := fk_inj (k' := .f32) hk
        subst hk'
        refine ⟨u, rfl, ?_⟩
        split at h1
        · rename_i b0 l0
          split at h1
          · rename_i c0 l1
            have s0 := look_sound l0 hf
            have s1 := look_sound l1 hf
            rw [T.beqC_den E' h1, sine_den E' hE]
            rw [sine_h0 E' hE] at s0
            rw [sine_h1 E' hE] at s1
            subst s0
            subst s1
            rfl
          · cases h1
        · cases h1
      · cases h1
    obtain ⟨u, rfl, hu⟩ := hres
    refine callRuns_of_calls hN hfn hbody ((h3 [.float .f64 b] W ?_).mono fun e W' ⟨v, he, hr, hg⟩ => ⟨v, he, hg, ?_⟩)
    · refine ⟨rfl, fun i s v hs hvv => ?_⟩
      match i, hs with
      | 0, hs => simp at hs hvv; subst hs; subst hvv; exact ⟨b, rfl, hb⟩
    · obtain ⟨r, rfl, hr⟩ := hr
      refine ⟨r, rfl, ?_⟩
      rw [hr, hu]
      show csine (den E t) = E.f1 5 (den E t)
      rw [hE]; rfl
  · cases hs

end
end Go.Sx
