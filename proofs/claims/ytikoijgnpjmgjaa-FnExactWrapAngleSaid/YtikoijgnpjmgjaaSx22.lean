/-
  A function that gives the angle is what the table of the environment names. Conditions: none.
-/
import Derived.Test.YtikoijgnpjmgjaaSx21
namespace Go.Sx
open Go.RowKit Ieee

section
variable {P : Program} {E : Env}

theorem nanOut_spec {E : Env} {v : V} {fs : Facts} (h : nanOut v fs = true) : ∃ u, v = .sc (.flt .f32 u) ∧ den E u = none := by
  unfold nanOut at h
  split at h
  · rename_i k u
    simp only [Bool.and_eq_true] at h
    have hk : k = .f32 := fk_inj (k' := .f32) h.1
    subst hk
    refine ⟨u, rfl, ?_⟩
    rw [T.beq_eq h.2]
    show cnarrow (canon .f64 9221120237041090561) = none
    have : canon .f64 9221120237041090561 = none := canon_nan (by decide +kernel)
    rw [this]; rfl
  · cases h

theorem zeroOut_spec {E : Env} {v : V} {fs : Facts} (h : zeroOut v fs = true) : ∃ u, v = .sc (.flt .f32 u) ∧ den E u = some 0 := by
  unfold zeroOut at h
  split at h
  · rename_i k u
    simp only [Bool.and_eq_true] at h
    have hk : k = .f32 := fk_inj (k' := .f32) h.1
    subst hk
    refine ⟨u, rfl, ?_⟩
    rw [T.beq_eq h.2]
    exact canon_zero32
  · cases h

theorem angBody_congr {E : Env} {z z' : T} (h : den E z = den E z') (steep xn yn : Bool) : den E (angBody z steep xn yn) = den E (angBody z' steep xn yn) := by
  have h1 : ∀ {a b : T}, den E a = den E b → den E (angR a) = den E (angR b) := by
    intro a b hab
    show cbin _ _ (den E a) _ = cbin _ _ (den E b) _
    have : den E (.bin 6 a a) = den E (.bin 6 b b) := by show cbin _ _ _ _ = cbin _ _ _ _; rw [hab]
    have h2 : den E (.bin 4 angOne (.f1 2 (.bin 4 angOne (.bin 6 a a)))) = den E (.bin 4 angOne (.f1 2 (.bin 4 angOne (.bin 6 b b)))) := by
      show cbin _ _ _ (E.f1 2 (cbin _ _ _ (den E (.bin 6 a a)))) = cbin _ _ _ (E.f1 2 (cbin _ _ _ (den E (.bin 6 b b))))
      rw [this]
    rw [hab, h2]
  have h2 := h1 (h1 (h1 h))
  have h3 : ∀ (ns : List Nat) {q q' : T} {s s' : T}, den E q = den E q' → den E s = den E s' → den E (angS q ns s) = den E (angS q' ns s') := by
    intro ns
    induction ns with
    | nil => intro q q' s s' _ hs; exact hs
    | cons n r ih =>
      intro q q' s s' hq hs
      refine ih hq ?_
      show cbin _ _ _ (cbin _ _ (den E q) (den E s)) = cbin _ _ _ (cbin _ _ (den E q') (den E s'))
      rw [hq, hs]
  have h4 : ∀ {a b : T}, den E a = den E b → den E (angCore a) = den E (angCore b) := by
    intro a b hab
    have e1 : den E (.bin 6 a a) = den E (.bin 6 b b) := by show cbin _ _ _ _ = cbin _ _ _ _; rw [hab]
    have e2 := h3 angNs (s := .lit .f64 0) (s' := .lit .f64 0) e1 rfl
    show cbin _ _ (cbin _ _ _ (den E a)) (den E (angS _ _ _)) = cbin _ _ (cbin _ _ _ (den E b)) (den E (angS _ _ _))
    rw [hab, e2]
  have h5 := h4 h2
  have h6 : den E (angSteep steep (angCore (angR (angR (angR z))))) = den E (angSteep steep (angCore (angR (angR (angR z'))))) := by
    cases steep
    · exact h5
    · show cbin _ _ _ (den E (angCore _)) = cbin _ _ _ (den E (angCore _)); rw [h5]
  have h7 : den E (angLeft xn (angSteep steep (angCore (angR (angR (angR z)))))) = den E (angLeft xn (angSteep steep (angCore (angR (angR (angR z')))))) := by
    cases xn
    · exact h6
    · show cbin _ _ _ (den E (angSteep _ _)) = cbin _ _ _ (den E (angSteep _ _)); rw [h6]
  cases yn
  · exact h7
  · show cneg _ (den E (angLeft _ _)) = cneg _ (den E (angLeft _ _)); rw [h7]

theorem angFits_ok {E : Env} (h : E.f1 2 = csqrt) {z : T} (hz : Bd 1074 (den E z)) (steep : Bool) : FactsOK E (angFits z steep) := by
  intro p hp
  simp only [angFits, List.mem_cons, List.not_mem_nil, or_false] at hp
  rcases hp with rfl | rfl | rfl | rfl <;> exact bd_fits (bd_angBody E h hz _ _ _) (by decide)

theorem angOut_spec {E : Env} {steep : Bool} {v : V} {fs : Facts} (hz : den E angZM = den E (angZ steep)) (hf : FactsOK E fs) (h : angOut steep v fs = true) :
    ∃ u, v = .sc (.flt .f32 u) ∧ den E u = den E (.narrow (angBody (angZ steep) steep (holds E angXN) (holds E angYN))) := by
  unfold angOut at h
  split at h
  · rename_i k u
    simp only [Bool.and_eq_true] at h
    have hk : k = .f32 := fk_inj (k' := .f32) h.1
    subst hk
    refine ⟨u, rfl, ?_⟩
    have h2 := h.2
    split at h2
    · rename_i xn yn lx ly
      have sx := look_sound lx hf
      have sy := look_sound ly hf
      rw [sx, sy]
      rcases Bool.or_eq_true _ _ ▸ h2 with h3 | h3
      · exact T.beqC_den E h3
      · rw [T.beqC_den E h3]
        show cnarrow (den E (angBody _ _ _ _)) = cnarrow (den E (angBody _ _ _ _))
        rw [angBody_congr hz]
    · cases h2
  · cases h

/-- A function of two float32 numbers that gives the angle. -/
def angK : List V → Option Known
  | [.sc (.flt .f32 y), .sc (.flt .f32 x)] => some (.val (.sc (.flt .f32 (.f2 0 y x))))
  | _ => none

theorem facts_cons {E : Env} {a : Atom} {t : Bool} {fs : Facts} (h : holds E a = t) (hf : FactsOK E fs) : FactsOK E ((a, t) :: fs) := by
  intro p hp
  rcases List.mem_cons.1 hp with rfl | hp
  · exact h
  · exact hf p hp
theorem facts_app {E : Env} {fs gs : Facts} (hf : FactsOK E fs) (hg : FactsOK E gs) : FactsOK E (fs ++ gs) := by
  intro p hp
  rcases List.mem_append.1 hp with hp | hp
  · exact hf p hp
  · exact hg p hp
theorem facts_nil {E : Env} : FactsOK E [] := fun p hp => by cases hp

/-- One of the five runs fits the environment, and its answer is the angle. -/
theorem angle_case {S : FuncId → List V → Option Known} {n : Nat} {f : FuncId} (hr : AngRuns P S n f) (y x : Nat) :
    ∃ fs K, runA P S n f [.sc (.flt .f32 (.arg 0)), .sc (.flt .f32 (.arg 1))] fs K = true ∧ FactsOK (env1 (canon .f32 y) (canon .f32 x)) fs ∧
      ∀ v fs', K v fs' = true → FactsOK (env1 (canon .f32 y) (canon .f32 x)) fs' → ∃ u, v = .sc (.flt .f32 u) ∧ den (env1 (canon .f32 y) (canon .f32 x)) u = cangle (canon .f32 y) (canon .f32 x) := by
  unfold cangle
  generalize hEE : env1 (canon .f32 y) (canon .f32 x) = EE
  have ha0 : EE.arg 0 = canon .f32 y := by rw [← hEE]; rfl
  have ha1 : EE.arg 1 = canon .f32 x := by rw [← hEE]; rfl
  have hsq : EE.f1 2 = csqrt := by rw [← hEE]; rfl
  unfold cang
  cases hFY : holds EE angFY with
  | false =>
    refine ⟨angF1, nanOut, hr.r1, facts_cons hFY facts_nil, fun v fs' h _ => ?_⟩
    rw [if_pos (.inl rfl)]
    exact nanOut_spec h
  | true =>
    cases hFX : holds EE angFX with
    | false =>
      refine ⟨angF2, nanOut, hr.r2, facts_cons hFY (facts_cons hFX facts_nil), fun v fs' h _ => ?_⟩
      rw [if_pos (.inr rfl)]
      exact nanOut_spec h
    | true =>
      rw [if_neg (by simp)]
      have fy : ccmp .eql .f32 (cbin .sub .f32 (canon .f32 y) (canon .f32 y)) (canon .f32 0) = true := by rw [← ha0]; exact hFY
      have fx : ccmp .eql .f32 (cbin .sub .f32 (canon .f32 x) (canon .f32 x)) (canon .f32 0) = true := by rw [← ha1]; exact hFX
      obtain ⟨sy, my, ey, dy⟩ := finite_of fy
      obtain ⟨sx, mx, ex, dx⟩ := finite_of fx
      obtain ⟨A, ka, wA, lA, rA⟩ := abs_wide dy
      obtain ⟨B, kb, wB, lB, rB⟩ := abs_wide dx
      have dA : den EE angA = some A := by show cabs .f64 (cwide (EE.arg 0)) = _; rw [ha0]; exact wA
      have dB : den EE angB = some B := by show cabs .f64 (cwide (EE.arg 1)) = _; rw [ha1]; exact wB
      have hY0 : holds EE angY0 = decide (my = 0) := by show ccmp .eql .f32 (EE.arg 0) (canon .f32 0) = _; rw [ha0]; exact eq_zero32 dy
      have hX0 : holds EE angX0 = decide (mx = 0) := by show ccmp .eql .f32 (EE.arg 1) (canon .f32 0) = _; rw [ha1]; exact eq_zero32 dx
      have hA0 : holds EE angA0 = decide (my * 2 ^ ka = 0) := by show ccmp .eql .f64 (den EE angA) (canon .f64 0) = _; rw [dA]; exact eq_zero64 rA
      have hB0 : holds EE angB0 = decide (mx * 2 ^ kb = 0) := by show ccmp .eql .f64 (den EE angB) (canon .f64 0) = _; rw [dB]; exact eq_zero64 rB
      have hGT : holds EE angGT = ccmp .gtr .f64 (some A) (some B) := by show ccmp .gtr .f64 (den EE angA) (den EE angB) = _; rw [dA, dB]
      have pa : ∀ n k : Nat, n * 2 ^ k = 0 ↔ n = 0 := fun n k => by
        have := Nat.two_pow_pos k
        constructor
        · intro h; rcases Nat.mul_eq_zero.1 h with h | h
          · exact h
          · omega
        · intro h; subst h; simp
      have ho := order_pos rA rB
      have hgt : ccmp .gtr .f64 (some A) (some B) = (double.order A B == some .gt) := rfl
      rw [ho] at hgt
      have dZM : den EE angZM = if ccmp .gtr .f64 (some A) (some B) then cbin .quo .f64 (some B) (some A) else cbin .quo .f64 (some A) (some B) := by
        show cbin .quo .f64 (cmm false .f64 (den EE angA) (den EE angB)) (cmm true .f64 (den EE angA) (den EE angB)) = _
        rw [dA, dB]
        exact min_max_quo lA lB rA rB
      have dZ : ∀ st, den EE (angZ st) = if st then cbin .quo .f64 (some B) (some A) else cbin .quo .f64 (some A) (some B) := fun st => by
        cases st
        · show cbin .quo .f64 (den EE angA) (den EE angB) = _; rw [dA, dB]; rfl
        · show cbin .quo .f64 (den EE angB) (den EE angA) = _; rw [dA, dB]; rfl
      cases hg : ccmp .gtr .f64 (some A) (some B) with
      | true =>
        -- y is the greater: not zero
        rw [hg] at hGT hgt dZM
        have hcmp : compare (my * 2 ^ ka * 2 ^ ((ey - (ka : Int)) - min (ey - (ka : Int)) (ex - (kb : Int))).toNat) (mx * 2 ^ kb * 2 ^ ((ex - (kb : Int)) - min (ey - (ka : Int)) (ex - (kb : Int))).toNat) = .gt := by
          have := hgt.symm
          simpa using this
        have hlt := Nat.compare_eq_gt.1 hcmp
        have hmy : my ≠ 0 := by intro h0; subst h0; simp at hlt
        have hY0' : holds EE angY0 = false := by rw [hY0]; simp [hmy]
        have hA0' : holds EE angA0 = false := by rw [hA0]; simp [pa, hmy]
        have hz : den EE angZM = den EE (angZ true) := by rw [dZM, dZ]
        have hbd : Bd 1074 (den EE (angZ true)) := by
          rw [dZ]
          refine quo_le_one rB rA (by rw [Ne, pa]; exact hmy) ?_
          have ho2 := order_pos rB rA
          show (double.order B A == some .gt) = false
          rw [ho2, Int.min_comm]
          rw [Nat.compare_eq_lt.2 hlt]; rfl
        refine ⟨angF4, angOut true, hr.r4, facts_app (facts_cons hFY (facts_cons hFX (facts_cons hY0' (facts_cons hGT (facts_cons hA0' facts_nil))))) (facts_app (angFits_ok hsq hbd _) (angFits_ok hsq (by rw [hz]; exact hbd) _)), fun v fs' h hf => ?_⟩
        rw [if_neg (by rw [hY0']; simp), hGT]
        exact angOut_spec hz hf h
      | false =>
        rw [hg] at hGT hgt dZM
        have hle : my * 2 ^ ka * 2 ^ ((ey - (ka : Int)) - min (ey - (ka : Int)) (ex - (kb : Int))).toNat ≤ mx * 2 ^ kb * 2 ^ ((ex - (kb : Int)) - min (ey - (ka : Int)) (ex - (kb : Int))).toNat := by
          rcases Nat.lt_or_ge (mx * 2 ^ kb * 2 ^ ((ex - (kb : Int)) - min (ey - (ka : Int)) (ex - (kb : Int))).toNat) (my * 2 ^ ka * 2 ^ ((ey - (ka : Int)) - min (ey - (ka : Int)) (ex - (kb : Int))).toNat) with hlt | hge
          · rw [Nat.compare_eq_gt.2 hlt] at hgt; cases hgt
          · exact hge
        by_cases hmx : mx = 0
        · -- both are zero
          have hmy : my = 0 := by
            subst hmx
            simp only [Nat.zero_mul, Nat.le_zero_eq] at hle
            exact (pa my ka).1 ((pa _ _).1 hle)
          have hY0' : holds EE angY0 = true := by rw [hY0]; simp [hmy]
          have hX0' : holds EE angX0 = true := by rw [hX0]; simp [hmx]
          have hB0' : holds EE angB0 = true := by rw [hB0]; simp [hmx]
          refine ⟨angF3, zeroOut, hr.r3, facts_cons hFY (facts_cons hFX (facts_cons hY0' (facts_cons hX0' (facts_cons hGT (facts_cons hB0' facts_nil))))), fun v fs' h _ => ?_⟩
          rw [if_pos ⟨hY0', hX0'⟩]
          exact zeroOut_spec h
        · have hX0' : holds EE angX0 = false := by rw [hX0]; simp [hmx]
          have hB0' : holds EE angB0 = false := by rw [hB0]; simp [pa, hmx]
          have hz : den EE angZM = den EE (angZ false) := by rw [dZM, dZ]
          have hbd : Bd 1074 (den EE (angZ false)) := by
            rw [dZ]
            exact quo_le_one rA rB (by rw [Ne, pa]; exact hmx) hg
          refine ⟨angF5, angOut false, hr.r5, facts_app (facts_cons hFY (facts_cons hFX (facts_cons hX0' (facts_cons hGT (facts_cons hB0' facts_nil))))) (facts_app (angFits_ok hsq hbd _) (angFits_ok hsq (by rw [hz]; exact hbd) _)), fun v fs' h hf => ?_⟩
          rw [if_neg (by rw [hX0']; simp), hGT]
          exact angOut_spec hz hf h

theorem angK_ok (hm : P.follows .mixedOrders = true) (hN : ∀ (f : FuncId) (fn : Func), P.funcs[f]? = some fn → (fn.name == "runtime.NumGoroutine") = false)
    {S : FuncId → List V → Option Known} (hS : ∀ E' : Env, E'.f1 = E.f1 → SumOK E' P S) (hE : E.f1 = stdF1) (hE2 : E.f2 = stdF2) {n : Nat} {f : FuncId} (hr : AngRuns P S n f)
    {args : List V} {kn : Known} (hs : angK args = some kn) {β : Beta} {vals : List Value} {W : World} (hv : VsRel E β args vals) :
    CallRuns P f vals.toArray W fun v W' => Grown W W' ∧ KnownRel E β kn v := by
  unfold angK at hs
  split at hs
  · rename_i ty tx
    cases hs
    obtain ⟨hl, hv2⟩ := hv
    match vals, hl with
    | [v0, v1], _ =>
      obtain ⟨b0, rfl, hb0⟩ := hv2 0 _ v0 rfl rfl
      obtain ⟨b1, rfl, hb1⟩ := hv2 1 _ v1 rfl rfl
      obtain ⟨fs, K, hrun, hfs, hK⟩ := angle_case hr b0 b1
      obtain ⟨fn, c, hfn, hbody⟩ := runA_body hrun
      obtain ⟨sv, fs', h1, hf, h3⟩ := runA_sound (E := env1 (canon .f32 b0) (canon .f32 b1)) hm hN (hS _ hE.symm) hrun hfs
      obtain ⟨u, rfl, hu⟩ := hK sv fs' h1 hf
      refine callRuns_of_calls hN hfn hbody ((h3 [.float .f32 b0, .float .f32 b1] W ?_).mono fun e W' ⟨v, he, hr, hg⟩ => ⟨v, he, hg, ?_⟩)
      · refine ⟨rfl, fun i s v hs hvv => ?_⟩
        match i, hs with
        | 0, hs => simp at hs hvv; subst hs; subst hvv; exact ⟨b0, rfl, rfl⟩
        | 1, hs => simp at hs hvv; subst hs; subst hvv; exact ⟨b1, rfl, rfl⟩
      · obtain ⟨r, rfl, hr⟩ := hr
        refine ⟨r, rfl, ?_⟩
        rw [hr, hu, hb0, hb1]
        show cangle (den E ty) (den E tx) = E.f2 0 (den E ty) (den E tx)
        rw [hE2]; rfl
  · cases hs

end
end Go.Sx
