/-
  An angle brought between -Pi and Pi, as the run on symbols knows it. Conditions: none.
-/
import Derived.Test.YtikoijgnpjmgjaaSx29
namespace Go.Sx
open Go.RowKit Ieee

def wPi : Nat := 1078530011
def wNPi : Nat := 3226013659
theorem readPi : single.read wPi = .number false 13176795 (-22) := by decide +kernel
theorem readNPi : single.read wNPi = .number true 13176795 (-22) := by decide +kernel
theorem canonPi : canon .f32 wPi = some wPi := canon_num (show (single.read wPi).isNaN = false by rw [readPi]; rfl)
theorem canonNPi : canon .f32 wNPi = some wNPi := canon_num (show (single.read wNPi).isNaN = false by rw [readNPi]; rfl)

theorem narrow_num {r : Nat} {s : Bool} {m : Nat} {e : Int} (h : double.read r = .number s m e) (hf : fitsC (some r) = true) :
    ∃ c s' m' e', cnarrow (some r) = some c ∧ single.read c = .number s' m' e' := by
  have hd : FloatKind.f64.decode r = .number s m e := h
  unfold fitsC at hf
  simp only [hd] at hf
  have hni : (FloatKind.f32.decode (FloatKind.f32.encode (.number s m e))).isInfinity = false := by
    cases hh : (FloatKind.f32.decode (FloatKind.f32.encode (.number s m e))).isInfinity
    · rfl
    · rw [hh] at hf; cases hf
  have hnn : (single.read (single.nearest s m e)).isNaN = false := write_notNaN single (.number s m e) rfl
  have hni' : (single.read (single.nearest s m e)).isInfinity = false := hni
  cases hc : single.read (single.nearest s m e) with
  | nan s t => rw [hc] at hnn; cases hnn
  | infinity s => rw [hc] at hni'; cases hni'
  | number s' m' e' =>
    refine ⟨single.nearest s m e, s', m', e', ?_, hc⟩
    simp only [cnarrow, Option.bind_some, floatToFloatBits, hd, hni]
    rfl

/-- 'min' and 'max' against 'if'. -/
theorem clamp {c : Nat} {s : Bool} {m : Nat} {e : Int} (hc : single.read c = .number s m e) :
    cmm false .f32 (some wPi) (cmm true .f32 (some wNPi) (some c)) = if ccmp .gtr .f32 (some c) (some wPi) then some wPi else if ccmp .lss .f32 (some c) (some wNPi) then some wNPi else some c := by
  have e1 : signed false 13176795 (-22 - min e (-22)).toNat = ((13176795 * 2 ^ (-22 - min e (-22)).toNat : Nat) : Int) := by unfold signed; rw [Nat.shiftLeft_eq]; rfl
  have e2 : signed true 13176795 (-22 - min e (-22)).toNat = -((13176795 * 2 ^ (-22 - min e (-22)).toNat : Nat) : Int) := by unfold signed; rw [Nat.shiftLeft_eq]; rfl
  have hK : 0 < 13176795 * 2 ^ (-22 - min e (-22)).toNat := Nat.mul_pos (by decide) (Nat.two_pow_pos _)
  have o1 : single.order c wPi = some (compare (signed s m (e - min e (-22)).toNat) (signed false 13176795 (-22 - min e (-22)).toNat)) := by
    show Datum.order (single.read c) (single.read wPi) = _; rw [hc, readPi]; rfl
  have o2 : single.order c wNPi = some (compare (signed s m (e - min e (-22)).toNat) (signed true 13176795 (-22 - min e (-22)).toNat)) := by
    show Datum.order (single.read c) (single.read wNPi) = _; rw [hc, readNPi]; rfl
  have o3 : single.order wPi c = some (compare (signed false 13176795 (-22 - min e (-22)).toNat) (signed s m (e - min e (-22)).toNat)) := by
    show Datum.order (single.read wPi) (single.read c) = _; rw [hc, readPi]; simp only [Datum.order, Int.min_comm]
  have o4 : single.order wNPi c = some (compare (signed true 13176795 (-22 - min e (-22)).toNat) (signed s m (e - min e (-22)).toNat)) := by
    show Datum.order (single.read wNPi) (single.read c) = _; rw [hc, readNPi]; simp only [Datum.order, Int.min_comm]
  have o5 : single.order wPi wNPi = some .gt := by decide +kernel
  have n1 : (FloatKind.f32.decode wPi).neg = false := by decide +kernel
  have n2 : (FloatKind.f32.decode wNPi).neg = true := by decide +kernel
  rw [e1] at o1 o3
  rw [e2] at o2 o4
  generalize signed s m (e - min e (-22)).toNat = z at *
  generalize 13176795 * 2 ^ (-22 - min e (-22)).toNat = K at *
  have hm : ∀ big (x y : Nat), cmm big .f32 (some x) (some y) = match single.order x y with
    | none => none
    | some .lt => if big then some y else some x
    | some .gt => if big then some x else some y
    | some .eq => if (FloatKind.f32.decode x).neg == big then some y else some x := fun _ _ _ => rfl
  have g1 : ccmp .gtr .f32 (some c) (some wPi) = (single.order c wPi == some .gt) := rfl
  have g2 : ccmp .lss .f32 (some c) (some wNPi) = (single.order c wNPi == some .lt) := rfl
  rw [g1, g2, o1, o2, hm, o4]
  rcases Int.lt_trichotomy z (-(K : Int)) with h | h | h
  · rw [Int.compare_eq_gt.2 (show z < -(K : Int) from h), Int.compare_eq_lt.2 (show z < (K : Int) by omega), Int.compare_eq_lt.2 h]
    show cmm false .f32 (some wPi) (some wNPi) = _
    rw [hm, o5]
    rfl
  · rw [Int.compare_eq_eq.2 h.symm, Int.compare_eq_lt.2 (show z < (K : Int) by omega), Int.compare_eq_eq.2 h]
    simp only [n2]
    show cmm false .f32 (some wPi) (some c) = _
    rw [hm, o3, Int.compare_eq_gt.2 (show z < (K : Int) by omega)]
    rfl
  · rw [Int.compare_eq_lt.2 h, Int.compare_eq_gt.2 h]
    show cmm false .f32 (some wPi) (some c) = _
    rw [hm, o3]
    rcases Int.lt_trichotomy z (K : Int) with h2 | h2 | h2
    · rw [Int.compare_eq_gt.2 h2, Int.compare_eq_lt.2 h2]; rfl
    · rw [Int.compare_eq_eq.2 h2.symm, Int.compare_eq_eq.2 h2]
      simp only [n1]; rfl
    · rw [Int.compare_eq_lt.2 h2, Int.compare_eq_gt.2 h2]; rfl

/-! ### The terms -/
def wrapN : T := .bin 6 (.lit .f64 4618760256179416344) (.f1 4 (.bin 7 (.wide (.arg 0)) (.lit .f64 4618760256179416344)))
def wrapW : T := .bin 5 (.wide (.arg 0)) wrapN
def wrapW0 : Atom := .cmp 0 .f64 wrapW (.lit .f64 0)
def wrapGT : Atom := .cmp 3 .f32 (.narrow wrapW) (.lit .f32 1078530011)
def wrapLT : Atom := .cmp 1 .f32 (.narrow wrapW) (.lit .f32 3226013659)
def wrapIf : V → Facts → Bool
  | .sc (.flt k u), fs => Nat.beq (fk k) 0 && match look wrapGT fs with
    | some true => T.beq u (.lit .f32 1078530011)
    | some false => match look wrapLT fs with
      | some true => T.beq u (.lit .f32 3226013659)
      | some false => T.beqC u (.narrow wrapW)
      | none => false
    | none => false
  | _, _ => false
def wrapMM (zero : Bool) : V → Facts → Bool
  | .sc (.flt k u), _ => Nat.beq (fk k) 0 && T.beq u (.mm 0 (.lit .f32 1078530011) (.mm 1 (.lit .f32 3226013659) (.narrow (if zero then .lit .f64 0 else wrapW))))
  | _, _ => false
def wrapF1 : Facts := [(finA (.arg 0), false)]
def wrapF2 : Facts := [(finA (.arg 0), true), (.fits wrapW, true)]
def wrapF3 (zero : Bool) : Facts := [(finA (.arg 0), true), (wrapW0, zero), (.fits wrapW, true)]

def cwrapV (v : CF) : CF := if ccmp .gtr .f32 v (some wPi) then some wPi else if ccmp .lss .f32 v (some wNPi) then some wNPi else v
def cwrap (x : CF) : CF :=
  if ccmp .eql .f32 (cbin .sub .f32 x x) (some 0) then cwrapV (cnarrow (cbin .sub .f64 (cwide x) (wrapY (cwide x)))) else none

/-- What the table 'f1' of the environment names, with the angle. -/
def stdF3 (g : Nat) (x : CF) : CF :=
  match g with
  | 6 => cwrap x
  | g => stdF1 g x

inductive WrapRuns (P : Program) (S : FuncId → List V → Option Known) (n : Nat) (f : FuncId) : Prop where
  | ifs (r1 : runA P S n f [.sc (.flt .f32 (.arg 0))] wrapF1 nanOut = true) (r2 : runA P S n f [.sc (.flt .f32 (.arg 0))] wrapF2 wrapIf = true)
  | mms (r1 : runA P S n f [.sc (.flt .f32 (.arg 0))] wrapF1 nanOut = true) (r2 : runA P S n f [.sc (.flt .f32 (.arg 0))] (wrapF3 true) (wrapMM true) = true) (r3 : runA P S n f [.sc (.flt .f32 (.arg 0))] (wrapF3 false) (wrapMM false) = true)

section
variable {P : Program}

theorem wrapIf_spec {E : Env} {v : V} {fs : Facts} (hf : FactsOK E fs) (h : wrapIf v fs = true) : ∃ u, v = .sc (.flt .f32 u) ∧ den E u = cwrapV (den E (.narrow wrapW)) := by
  unfold wrapIf at h
  split at h
  · rename_i k u
    simp only [Bool.and_eq_true] at h
    have hk : k = .f32 := fk_inj (k' := .f32) h.1
    subst hk
    refine ⟨u, rfl, ?_⟩
    have h2 := h.2
    have hg : holds E wrapGT = ccmp .gtr .f32 (den E (.narrow wrapW)) (some wPi) := by rw [← canonPi]; rfl
    have hl : holds E wrapLT = ccmp .lss .f32 (den E (.narrow wrapW)) (some wNPi) := by rw [← canonNPi]; rfl
    unfold cwrapV
    split at h2
    · rename_i e
      have := look_sound e hf
      rw [hg] at this
      rw [if_pos this, T.beq_eq h2]
      exact canonPi
    · rename_i e
      have := look_sound e hf
      rw [hg] at this
      rw [if_neg (by rw [this]; decide)]
      split at h2
      · rename_i e
        have := look_sound e hf
        rw [hl] at this
        rw [if_pos this, T.beq_eq h2]
        exact canonNPi
      · rename_i e
        have := look_sound e hf
        rw [hl] at this
        rw [if_neg (by rw [this]; decide)]
        exact T.beqC_den E h2
      · cases h2
    · cases h2
  · cases h

theorem wrapMM_spec {E : Env} {zero : Bool} {v : V} {fs : Facts} (h : wrapMM zero v fs = true) :
    ∃ u, v = .sc (.flt .f32 u) ∧ den E u = cmm false .f32 (some wPi) (cmm true .f32 (some wNPi) (den E (.narrow (if zero then .lit .f64 0 else wrapW)))) := by
  unfold wrapMM at h
  split at h
  · rename_i k u
    simp only [Bool.and_eq_true] at h
    have hk : k = .f32 := fk_inj (k' := .f32) h.1
    subst hk
    refine ⟨u, rfl, ?_⟩
    rw [T.beq_eq h.2, ← canonPi, ← canonNPi]
    rfl
  · cases h

theorem wrap_case {E : Env} {S : FuncId → List V → Option Known} {n : Nat} {f : FuncId} (hr : WrapRuns P S n f) (b : Nat) (harg : E.arg 0 = canon .f32 b) (h4 : E.f1 4 = cint .even) :
    ∃ fs K, runA P S n f [.sc (.flt .f32 (.arg 0))] fs K = true ∧ FactsOK E fs ∧ ∀ v fs', K v fs' = true → FactsOK E fs' → ∃ u, v = .sc (.flt .f32 u) ∧ den E u = cwrap (canon .f32 b) := by
  have hfin : holds E (finA (.arg 0)) = ccmp .eql .f32 (cbin .sub .f32 (canon .f32 b) (canon .f32 b)) (some 0) := by
    rw [← harg, ← canon_zero32]; rfl
  have hW : den E wrapW = cbin .sub .f64 (cwide (canon .f32 b)) (wrapY (cwide (canon .f32 b))) := by
    show cbin .sub .f64 (cwide (E.arg 0)) (cbin .mul .f64 (canon .f64 wrapC) (E.f1 4 (cbin .quo .f64 (cwide (E.arg 0)) (canon .f64 wrapC)))) = _
    rw [h4, harg]; rfl
  unfold cwrap
  cases hF : ccmp .eql .f32 (cbin .sub .f32 (canon .f32 b) (canon .f32 b)) (some 0) with
  | false =>
    rw [hF] at hfin
    have hr1 : runA P S n f [.sc (.flt .f32 (.arg 0))] wrapF1 nanOut = true := by cases hr <;> assumption
    refine ⟨wrapF1, nanOut, hr1, facts_cons hfin facts_nil, fun v fs' h _ => ?_⟩
    rw [if_neg (by decide)]
    exact nanOut_spec h
  | true =>
    rw [hF] at hfin
    rw [if_pos rfl]
    obtain ⟨s, m, e, hd⟩ := finite_of (b := b) (by rw [canon_zero32]; exact hF)
    obtain ⟨r, sr, mr, er, w1, w2, w3, w4⟩ := wrap_fact hd
    rw [w1] at hW
    have hfit : holds E (.fits wrapW) = true := by show fitsC (den E wrapW) = true; rw [hW]; exact w3
    have hN : den E (.narrow wrapW) = cnarrow (some r) := by show cnarrow (den E wrapW) = _; rw [hW]
    rw [w1]
    obtain ⟨c, s', m', e', c1, c2⟩ := narrow_num w2 w3
    have hclamp := clamp c2
    cases hr with
    | ifs r1 r2 =>
      refine ⟨wrapF2, wrapIf, r2, facts_cons hfin (facts_cons hfit facts_nil), fun v fs' h hf => ?_⟩
      rw [← hN]
      exact wrapIf_spec hf h
    | mms r1 r2 r3 =>
      have h0 : holds E wrapW0 = decide (mr = 0) := by show ccmp .eql .f64 (den E wrapW) (canon .f64 0) = _; rw [hW]; exact eq_zero64 w2
      cases hz : decide (mr = 0) with
      | true =>
        rw [hz] at h0
        have hr0 := w4 (of_decide_eq_true hz)
        subst hr0
        refine ⟨wrapF3 true, wrapMM true, r2, facts_cons hfin (facts_cons h0 (facts_cons hfit facts_nil)), fun v fs' h hf => ?_⟩
        obtain ⟨u, hu, hu2⟩ := wrapMM_spec (E := E) h
        refine ⟨u, hu, ?_⟩
        have e0 : den E (.narrow (if true = true then .lit .f64 0 else wrapW)) = cnarrow (some 0) := by rw [← canon_zero64]; rfl
        rw [hu2, e0, c1, hclamp]
        rfl
      | false =>
        rw [hz] at h0
        refine ⟨wrapF3 false, wrapMM false, r3, facts_cons hfin (facts_cons h0 (facts_cons hfit facts_nil)), fun v fs' h hf => ?_⟩
        obtain ⟨u, hu, hu2⟩ := wrapMM_spec (E := E) h
        refine ⟨u, hu, ?_⟩
        have e0 : den E (.narrow (if false = true then .lit .f64 0 else wrapW)) = cnarrow (some r) := hN
        rw [hu2, e0, c1, hclamp]
        rfl

/-- A function of a float32 that brings it between -Pi and Pi. -/
def wrapK : List V → Option Known
  | [.sc (.flt .f32 t)] => some (.val (.sc (.flt .f32 (.f1 6 t))))
  | _ => none

theorem wrapK_ok {E : Env} (hm : P.follows .mixedOrders = true) (hN : ∀ (f : FuncId) (fn : Func), P.funcs[f]? = some fn → (fn.name == "runtime.NumGoroutine") = false)
    {S : FuncId → List V → Option Known} (hS : ∀ E' : Env, E'.f1 = E.f1 → SumOK E' P S) (hE : E.f1 = stdF3) {n : Nat} {f : FuncId} (hr : WrapRuns P S n f)
    {args : List V} {kn : Known} (hs : wrapK args = some kn) {β : Beta} {vals : List Value} {W : World} (hv : VsRel E β args vals) :
    CallRuns P f vals.toArray W fun v W' => Grown W W' ∧ KnownRel E β kn v := by
  unfold wrapK at hs
  split at hs
  · rename_i t
    cases hs
    obtain ⟨v, rfl, b, rfl, hb⟩ := one_arg hv
    let E' : Env := { arg := fun _ => canon .f32 b, f1 := E.f1, f2 := E.f2 }
    obtain ⟨fs, K, hrun, hfs, hK⟩ := wrap_case (E := E') hr b rfl (by show E.f1 4 = _; rw [hE]; rfl)
    obtain ⟨fn, c, hfn, hbody⟩ := runA_body hrun
    obtain ⟨sv, fs', h1, hf, h3⟩ := runA_sound (E := E') hm hN (hS E' rfl) hrun hfs
    obtain ⟨u, rfl, hu⟩ := hK sv fs' h1 hf
    refine callRuns_of_calls hN hfn hbody ((h3 [.float .f32 b] W ?_).mono fun e W' ⟨v, he, hr, hg⟩ => ⟨v, he, hg, ?_⟩)
    · refine ⟨rfl, fun i s v hs hvv => ?_⟩
      match i, hs with
      | 0, hs => simp at hs hvv; subst hs; subst hvv; exact ⟨b, rfl, rfl⟩
    · obtain ⟨r, rfl, hr⟩ := hr
      refine ⟨r, rfl, ?_⟩
      rw [hr, hu, hb]
      show cwrap (den E t) = E.f1 6 (den E t)
      rw [hE]; rfl
  · cases hs

end
end Go.Sx
