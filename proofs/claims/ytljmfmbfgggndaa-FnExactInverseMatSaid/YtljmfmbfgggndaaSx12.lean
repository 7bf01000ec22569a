/-
  Functions known beforehand: those without a Go body, and those that say whether two floats are the same. Conditions: none.
-/
import Derived.Test.YtljmfmbfgggndaaSx11
namespace Go.Sx
open Go.RowKit

section
variable {P : Program} {E : Env}

theorem callRuns_ext {f : FuncId} {fn : Func} {e : Array Value → Sem Value} (hfn : P.funcs[f]? = some fn) (hne : (fn.name == "runtime.NumGoroutine") = false) (hb : fn.body = none) (h1 : Extern.findNext fn = none)
    (h2 : Extern.find fn = some e) {args : Array Value} {W W' : World} {v : Value} {R : Value → World → Prop} (h : (e args).run P W = .ok v W') (hr : R v W') : CallRuns P f args W R := by
  unfold CallRuns
  have hrun : (callFunc f args).run P W = .ok (.value v) W' := by
    unfold callFunc
    rw [Sem.run_bind, run_program]
    simp only [Result.andThen_ok, hfn, hne, hb, Option.isNone_none, if_true, Bool.false_eq_true, if_false, h1, h2]
    rw [Sem.run_bind, run_mark]
    simp [h]
  rw [hrun]
  exact hr

/-- What is owed of a function without a Go body. -/
structure IsExt (P : Program) (f : FuncId) (e : Array Value → Sem Value) : Prop where
  ext : ∃ fn, P.funcs[f]? = some fn ∧ (fn.name == "runtime.NumGoroutine") = false ∧ fn.body = none ∧ Extern.findNext fn = none ∧ Extern.find fn = some e

theorem IsExt.runs {f : FuncId} {e : Array Value → Sem Value} (hx : IsExt P f e) {args : Array Value} {W W' : World} {v : Value} {R : Value → World → Prop} (h : (e args).run P W = .ok v W') (hr : R v W') : CallRuns P f args W R := by
  obtain ⟨fn, a, b, c, d, g⟩ := hx.ext
  exact callRuns_ext a b c d g h hr

theorem one_arg {β : Beta} {s : V} {vals : List Value} (h : VsRel E β [s] vals) : ∃ v, vals = [v] ∧ VRel E β s v := by
  obtain ⟨h1, h2⟩ := h
  match vals, h1 with
  | [v], _ => exact ⟨v, rfl, h2 0 s v rfl rfl⟩

/-- 'math.Float32bits', 'math.Float64bits'. -/
def bitsK (k : FloatKind) : List V → Option Known
  | [.sc (.flt k1 t)] => if Nat.beq (fk k1) (fk k) then some (.val (.sc (.bits k t))) else none
  | _ => none
def bitsE : FloatKind → Array Value → Sem Value
  | .f32 => Extern.MathFloatBits.float32bits
  | .f64 => Extern.MathFloatBits.float64bits
theorem bitsK_ok {k : FloatKind} {f : FuncId} (hx : IsExt P f (bitsE k)) {args : List V} {kn : Known} (hs : bitsK k args = some kn) {β : Beta} {vals : List Value} {W : World} (hv : VsRel E β args vals) :
    CallRuns P f vals.toArray W fun v W' => Grown W W' ∧ KnownRel E β kn v := by
  unfold bitsK at hs
  split at hs
  · rename_i k1 t
    split at hs
    · rename_i hk
      have := fk_inj hk
      subst this
      cases hs
      obtain ⟨v, rfl, b, rfl, hb⟩ := one_arg hv
      refine hx.runs (v := .int (uk k1) b) (W' := W) ?_ ⟨Grown.refl _, b, rfl, hb⟩
      cases k1 <;> rfl
    · cases hs
  · cases hs

/-- 'math.Float32frombits', 'math.Float64frombits'. -/
def fromK (k : FloatKind) : List V → Option Known
  | [.sc (.bits k1 t)] => if Nat.beq (fk k1) (fk k) then some (.val (.sc (.flt k t))) else none
  | [.sc (.int k1 (.ofNat n))] => if decide (k1 = uk k) then some (.val (.sc (.flt k (.lit k n)))) else none
  | _ => none
def fromE : FloatKind → Array Value → Sem Value
  | .f32 => Extern.MathFloatBits.float32frombits
  | .f64 => Extern.MathFloatBits.float64frombits
theorem fromK_ok {k : FloatKind} {f : FuncId} (hx : IsExt P f (fromE k)) {args : List V} {kn : Known} (hs : fromK k args = some kn) {β : Beta} {vals : List Value} {W : World} (hv : VsRel E β args vals) :
    CallRuns P f vals.toArray W fun v W' => Grown W W' ∧ KnownRel E β kn v := by
  unfold fromK at hs
  split at hs
  · rename_i k1 t
    split at hs
    · rename_i hk
      have := fk_inj hk
      subst this
      cases hs
      obtain ⟨v, rfl, b, rfl, hb⟩ := one_arg hv
      refine hx.runs (v := .float k1 b) (W' := W) ?_ ⟨Grown.refl _, b, rfl, hb⟩
      cases k1 <;> rfl
    · cases hs
  · rename_i k1 n
    split at hs
    · rename_i hk
      have hk' : k1 = uk k := by simpa using hk
      subst hk'
      cases hs
      obtain ⟨v, rfl, hv1⟩ := one_arg hv
      obtain rfl : v = _ := hv1
      refine hx.runs (v := .float k n) (W' := W) ?_ ⟨Grown.refl _, n, rfl, rfl⟩
      cases k <;> rfl
    · cases hs
  · cases hs

/-- A function of a float64 that the table 'f1' of the environment names. -/
def un64K (g : Nat) : List V → Option Known
  | [.sc (.flt .f64 t)] => some (.val (.sc (.flt .f64 (.f1 g t))))
  | _ => none
theorem un64K_ok {f : FuncId} {e : Array Value → Sem Value} (hx : IsExt P f e) {g : Nat} (he : ∀ (b : Nat) (W : World), ∃ r n, (e #[.float .f64 b]).run P W = .ok (.float .f64 r) (W.drewN n) ∧ canon .f64 r = E.f1 g (canon .f64 b))
    {args : List V} {kn : Known} (hs : un64K g args = some kn) {β : Beta} {vals : List Value} {W : World} (hv : VsRel E β args vals) :
    CallRuns P f vals.toArray W fun v W' => Grown W W' ∧ KnownRel E β kn v := by
  unfold un64K at hs
  split at hs
  · cases hs
    obtain ⟨v, rfl, b, rfl, hb⟩ := one_arg hv
    obtain ⟨r, n, h1, h2⟩ := he b W
    exact hx.runs h1 ⟨Grown.drewN (Grown.refl _) n, r, rfl, by rw [h2, hb]; rfl⟩
  · cases hs

theorem run_sqrt (b : Nat) (W : World) : ∃ r n, (Extern.MathSqrt.sqrt #[.float .f64 b]).run P W = .ok (.float .f64 r) (W.drewN n) ∧ canon .f64 r = csqrt (canon .f64 b) := by
  have hx : csqrt (canon .f64 b) = FloatKind.f64.format.sqrt b := by
    cases hb : (FloatKind.f64.format.read b).isNaN
    · rw [canon_num hb]; rfl
    · rw [canon_nan hb]
      unfold Ieee.Format.sqrt
      cases hd : FloatKind.f64.format.read b <;> rw [hd] at hb <;> first | (simp [Ieee.Datum.root, csqrt]; done) | (simp [Ieee.Datum.isNaN] at hb)
  rw [hx]
  have e0 : Extern.MathSqrt.sqrt #[.float .f64 b] = (match FloatKind.f64.format.sqrt b with
    | some r => pure (.float .f64 r)
    | none => do pure (.float .f64 (← choose (.nanBits .f64 b b)))) := rfl
  rw [e0]
  cases h : FloatKind.f64.format.sqrt b with
  | some r =>
    refine ⟨r, 0, by simp [World.drewN_zero], canon_num ?_⟩
    exact map_write_notNaN h fun d hd => root_notNaN hd
  | none => exact ⟨(Question.nanBits .f64 b b).cut (W.tape W.drawn (.nanBits .f64 b b)), 1, by simp [Question.forced, World.drewN], cut_nanBits ..⟩

theorem quiet_nan {b : Nat} {s : Bool} {t : Nat} (h : FloatKind.f64.decode b = .nan s t) : canon .f64 (FloatKind.f64.encode (.nan s (FloatKind.f64.format.quiet t))) = none := by
  have ht : t < 2 ^ 52 ∧ 0 < t := by
    have h' : Ieee.double.read b = .nan s t := h
    have s1 : Ieee.double.signWeight = 9223372036854775808 := by decide
    have s3 : Ieee.double.infRung = 9218868437227405312 := by decide
    unfold Ieee.Format.read at h'
    simp only [s1, s3] at h'
    have hm : b % 9223372036854775808 < 9223372036854775808 := Nat.mod_lt _ (by decide)
    split at h'
    · cases h'
    · split at h'
      · cases h'
      · split at h'
        · cases h'
        · simp only [Ieee.Datum.nan.injEq] at h'
          obtain ⟨_, rfl⟩ := h'
          omega
  refine canon_nan ?_
  rw [show FloatKind.f64.format = Ieee.double from rfl]
  show (Ieee.double.read (Ieee.double.word s (Ieee.double.infRung + (t ||| 2 ^ 51) % Ieee.double.binade))).isNaN = true
  have s1 : Ieee.double.signWeight = 9223372036854775808 := by decide
  have s2 : Ieee.double.binade = 4503599627370496 := by decide
  have s3 : Ieee.double.infRung = 9218868437227405312 := by decide
  have hor : t ||| 2 ^ 51 < 2 ^ 52 := Nat.or_lt_two_pow ht.1 (by decide)
  have hge : 2 ^ 51 ≤ t ||| 2 ^ 51 := Nat.right_le_or
  have hm : (t ||| 2 ^ 51) % Ieee.double.binade = t ||| 2 ^ 51 := by rw [s2]; exact Nat.mod_eq_of_lt hor
  rw [hm]
  have hlt : Ieee.double.infRung + (t ||| 2 ^ 51) < Ieee.double.signWeight := by rw [s1, s3]; omega
  unfold Ieee.Format.read
  simp only [read_word_rung _ s _ hlt]
  rw [if_neg (by rw [s2, s3]; omega), if_neg (by omega), if_neg (by omega)]
  rfl

theorem run_toInt (name : String) (way : Ieee.Toward) (b : Nat) (W : World) : ∃ r n, (Extern.MathFloor.toIntegral name way #[.float .f64 b]).run P W = .ok (.float .f64 r) (W.drewN n) ∧ canon .f64 r = cint way (canon .f64 b) := by
  have e0 : Extern.MathFloor.toIntegral name way #[.float .f64 b] = (match FloatKind.f64.decode b with
    | .nan s t =>
      if FloatKind.f64.format.quiet t = t then pure (.float .f64 b) else do
      let kept ← choose (.extern "math.Floor,Ceil,Trunc,RoundToEven.signallingNaN kept" 2)
      pure (.float .f64 (if kept == 1 then b else FloatKind.f64.encode (.nan s (FloatKind.f64.format.quiet t))))
    | d => pure (.float .f64 (FloatKind.f64.encode (d.integral way)))) := rfl
  rw [e0]
  cases hd : FloatKind.f64.decode b with
  | nan s t =>
    have hn : canon .f64 b = none := canon_nan (show (FloatKind.f64.decode b).isNaN = true by rw [hd]; rfl)
    rw [hn]
    by_cases hq : FloatKind.f64.format.quiet t = t
    · exact ⟨b, 0, by simp [hq, World.drewN_zero], hn⟩
    · have hq2 := quiet_nan hd
      refine ⟨if (Question.extern "math.Floor,Ceil,Trunc,RoundToEven.signallingNaN kept" 2).cut (W.tape W.drawn (.extern "math.Floor,Ceil,Trunc,RoundToEven.signallingNaN kept" 2)) == 1 then b else FloatKind.f64.encode (.nan s (FloatKind.f64.format.quiet t)), 1, ?_, ?_⟩
      · simp [hq, Question.forced, World.drewN]
      · split
        · exact hn
        · exact hq2
  | infinity s =>
    have hn : canon .f64 b = some b := canon_num (show (FloatKind.f64.decode b).isNaN = false by rw [hd]; rfl)
    refine ⟨FloatKind.f64.encode ((Ieee.Datum.infinity s).integral way), 0, by simp [World.drewN_zero], ?_⟩
    rw [hn]
    have : canon .f64 (FloatKind.f64.encode ((Ieee.Datum.infinity s).integral way)) = some (FloatKind.f64.encode ((Ieee.Datum.infinity s).integral way)) := canon_num (write_notNaN Ieee.double _ rfl)
    rw [this]
    simp [cint, hd]
  | number s m e =>
    have hn : canon .f64 b = some b := canon_num (show (FloatKind.f64.decode b).isNaN = false by rw [hd]; rfl)
    refine ⟨FloatKind.f64.encode ((Ieee.Datum.number s m e).integral way), 0, by simp [World.drewN_zero], ?_⟩
    rw [hn]
    have : canon .f64 (FloatKind.f64.encode ((Ieee.Datum.number s m e).integral way)) = some (FloatKind.f64.encode ((Ieee.Datum.number s m e).integral way)) := canon_num (write_notNaN Ieee.double _ rfl)
    rw [this]
    simp [cint, hd]

/-! ### Are two floats the same? -/
def sameT (k : FloatKind) : List V → Option Known
  | [.sc (.flt k1 a), .sc (.flt k2 b)] => if Nat.beq (fk k1) (fk k) && Nat.beq (fk k2) (fk k) then (if T.beqC a b then some (.val (.sc (.bool true))) else some (.test (.same a b))) else none
  | _ => none

def sameOf (k : FloatKind) (fs : Facts) : Option Bool :=
  match look (.cmp 0 k (.arg 0) (.arg 0)) fs, look (.cmp 0 k (.arg 1) (.arg 1)) fs with
  | some true, some true => look (.same (.arg 0) (.arg 1)) fs
  | some a, some b => some (a == b)
  | _, _ => none

def sameOut (k : FloatKind) : V → Facts → Bool
  | .sc (.bool r), fs => match sameOf k fs with
    | some r' => r == r'
    | none => false
  | _, _ => false

theorem sameT_ok (hm : P.follows .mixedOrders = true) (hN : ∀ (f : FuncId) (fn : Func), P.funcs[f]? = some fn → (fn.name == "runtime.NumGoroutine") = false)
    {S : FuncId → List V → Option Known} (hS : ∀ E' : Env, E'.f1 = E.f1 → E'.f2 = E.f2 → SumOK E' P S) {n : Nat} {f : FuncId} {k : FloatKind} (h : runA P S n f [.sc (.flt k (.arg 0)), .sc (.flt k (.arg 1))] [] (sameOut k) = true)
    {args : List V} {kn : Known} (hs : sameT k args = some kn) {β : Beta} {vals : List Value} {W : World} (hv : VsRel E β args vals) :
    CallRuns P f vals.toArray W fun v W' => Grown W W' ∧ KnownRel E β kn v := by
  unfold sameT at hs
  split at hs
  · rename_i k1 a k2 b
    split at hs
    · rename_i he
      simp only [Bool.and_eq_true] at he
      have e1 := fk_inj he.1
      have e2 := fk_inj he.2
      subst e1
      subst e2
      obtain ⟨fn, c, hfn, hb⟩ := runA_body h
      obtain ⟨x, hx1⟩ : ∃ x : Value, vals[0]? = some x := by have := hv.1; exact ⟨vals[0]'(by rw [← this]; simp), by simp⟩
      obtain ⟨y, hy1⟩ : ∃ y : Value, vals[1]? = some y := by have := hv.1; exact ⟨vals[1]'(by rw [← this]; simp), by simp⟩
      obtain ⟨u, rfl, hu⟩ := hv.2 0 _ x rfl hx1
      obtain ⟨w, rfl, hw⟩ := hv.2 1 _ y rfl hy1
      let E' : Env := { arg := fun i => if i = 0 then den E a else den E b, f1 := E.f1, f2 := E.f2 }
      obtain ⟨sv, fs', h1, hf, h3⟩ := runA_sound (E := E') hm hN (hS E' rfl rfl) h (fun p hp => by cases hp)
      have hres : sv = .sc (.bool (holds E (.same a b))) := by
        unfold sameOut at h1
        split at h1
        · rename_i r
          congr 2
          split at h1
          · rename_i r' hr'
            have hrr : r = r' := by simpa using h1
            rw [hrr]
            unfold sameOf at hr'
            have q0 : holds E' (.cmp 0 k2 (.arg 0) (.arg 0)) = (den E a).isSome := by rw [cmp_self E' k2 (a := .arg 0) (b := u) (by rw [hu]; rfl), hu]
            have q1 : holds E' (.cmp 0 k2 (.arg 1) (.arg 1)) = (den E b).isSome := by rw [cmp_self E' k2 (a := .arg 1) (b := w) (by rw [hw]; rfl), hw]
            have q2 : holds E' (.same (.arg 0) (.arg 1)) = holds E (.same a b) := rfl
            split at hr'
            · have := look_sound hr' hf
              rw [← this, q2]
            · rename_i p0 p1 hne l0 l1
              have s0 := look_sound l0 hf
              have s1 := look_sound l1 hf
              rw [q0] at s0
              rw [q1] at s1
              cases hr'
              show _ = (den E a == den E b)
              cases hda : den E a <;> cases hdb : den E b <;> rw [hda] at s0 <;> rw [hdb] at s1 <;> simp at s0 s1 <;> subst s0 <;> subst s1
              · rfl
              · rfl
              · rfl
              · exact (hne rfl rfl).elim
            · cases hr'
          · cases h1
        · cases h1
      subst hres
      have hcall : CallRuns P f vals.toArray W fun v W' => Grown W W' ∧ v = .bool (holds E (.same a b)) := by
        refine callRuns_of_calls hN hfn hb ((h3 vals W ?_).mono fun e W' ⟨v, he, hr, hg⟩ => ⟨v, he, hg, hr⟩)
        refine ⟨hv.1, fun i s v hs hvv => ?_⟩
        match i, hs with
        | 0, hs => simp at hs; subst hs; rw [hx1] at hvv; cases hvv; exact ⟨u, rfl, hu⟩
        | 1, hs => simp at hs; subst hs; rw [hy1] at hvv; cases hvv; exact ⟨w, rfl, hw⟩
      have hmono : ∀ {R R' : Value → World → Prop}, CallRuns P f vals.toArray W R → (∀ v W', R v W' → R' v W') → CallRuns P f vals.toArray W R' := by
        intro R R' hR himp
        unfold CallRuns at *
        split
        · rename_i e; rw [e] at hR; exact himp _ _ hR
        · rename_i e; rw [e] at hR; exact himp _ _ hR
        · rename_i e; rw [e] at hR; exact Calls.mono hR fun e W'' ⟨v, g1, g2⟩ => ⟨v, g1, himp _ _ g2⟩
        · rename_i n1 n2 n3
          split at hR
          · exact absurd (by assumption) (n1 _ _)
          · exact absurd (by assumption) (n2 _)
          · exact absurd (by assumption) (n3 _ _ _)
          · exact hR
      split at hs
      · rename_i hab
        cases hs
        have hd := T.beqC_den E hab
        refine hmono hcall fun v W' ⟨g, e⟩ => ⟨g, ?_⟩
        show v = _
        rw [e]
        simp [holds, hd]
      · cases hs
        exact hcall
    · cases hs
  · cases hs

/-- What the table 'f1' of the environment names: the functions without a Go body. -/
def stdF0 (g : Nat) (x : CF) : CF :=
  match g with
  | 2 => csqrt x
  | 3 => cint .down x
  | 4 => cint .even x
  | _ => x

/-! ### The sine of so many turns, as a term -/
def sineHalf : T := .lit .f64 4602678819172646912
def sineF : T := .bin 5 (.arg 0) (.f1 3 (.arg 0))
def sineA0 : Atom := .cmp 4 .f64 sineF sineHalf
def sineF1 (b : Bool) : T := if b then .bin 5 sineF sineHalf else sineF
def sineA1 (b : Bool) : Atom := .cmp 3 .f64 (sineF1 b) (.lit .f64 4598175219545276416)
def sineF2 (b c : Bool) : T := if c then .bin 5 sineHalf (sineF1 b) else sineF1 b
def sineX (b c : Bool) : T := .bin 6 (.lit .f64 4618760256179416344) (sineF2 b c)
def sineS (y : T) : List Nat → T → T
  | [], s => s
  | n :: r, s => sineS y r (.bin 5 (.lit .f64 4607182418800017408) (.bin 6 (.bin 7 y (.lit .f64 n)) s))
def sineNs : List Nat := [4643492690795692032, 4641592734702895104, 4639692778610098176, 4637440978796412928, 4634766966517661696, 4631107791820423168, 4626322717216342016, 4618441417868443648]
def sineB (b c : Bool) : T := .bin 6 (sineS (.bin 6 (sineX b c) (sineX b c)) sineNs (.lit .f64 4607182418800017408)) (sineX b c)
def sineW (b c : Bool) : T := if b then .neg .f64 (sineB b c) else sineB b c
def sineT (b c : Bool) : T := .narrow (sineW b c)
def env0 (x y : CF) : Env := { arg := fun i => if i = 0 then x else y, f1 := stdF0, f2 := fun _ x _ => x }
def csine (x : CF) : CF := den (env0 x x) (sineT (holds (env0 x x) sineA0) (holds (env0 x x) (sineA1 (holds (env0 x x) sineA0))))

/-- What the table 'f1' of the environment names. -/
def stdF1 (g : Nat) (x : CF) : CF :=
  match g with
  | 2 => csqrt x
  | 3 => cint .down x
  | 4 => cint .even x
  | 5 => csine x
  | _ => x

end
end Go.Sx
