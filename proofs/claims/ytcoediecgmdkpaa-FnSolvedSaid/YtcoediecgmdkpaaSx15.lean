/-
  The symbolic executor, texts 11 to 15. Conditions: none.
-/
import Derived.Test.YtcoediecgmdkpaaSx10
/-   The frame of a law's proof, and the functions known beforehand. Conditions: none. -/
namespace Go.Sx
open Go.RowKit Go.ChangeShapes Go.WideShapes Go.ChangeAt

section
variable {P : Program}

theorem trodAll_plain {H : Type} {enc : TypeId × Value → H} {W : World} {b : Nat} {sp : Nat → Bool} {hd : Bool} : ∀ {ts : List TypeId} {vs : List Value} {ds : List (DataW H)} {ps : List MemPlace},
    ts.all (plainT P 3) = true → DataW.TrodAll enc P W b sp hd ts vs ds ps →
    ps = [] ∧ ts.length = vs.length ∧ ds.length = ts.length ∧ (∀ (W' : World) (b' : Nat) (sp' : Nat → Bool) (hd' : Bool), DataW.TrodAll enc P W' b' sp' hd' ts vs ds []) ∧
      ∀ (j : Nat) (t : TypeId) (v : Value), ts[j]? = some t → vs[j]? = some v → (∀ c ∈ v.cells.toList, fltCell c) ∧ v.cells.size = P.cellsOf t
  | [], vs, ds, ps, _, h => by
    obtain ⟨rfl, rfl, rfl⟩ := trodAll_nil h
    exact ⟨rfl, rfl, rfl, fun _ _ _ _ => rfl, fun j t v ht => by simp at ht⟩
  | t :: ts, vs, ds, ps, hp, h => by
    obtain ⟨v, vs', d, ds', p, q, rfl, rfl, rfl, h1, h2⟩ := trodAll_cons h
    simp only [List.all_cons, Bool.and_eq_true] at hp
    obtain ⟨rfl, k1, k2, k3, k4⟩ := trodAll_plain hp.2 h2
    obtain ⟨fuel, hf⟩ := h1
    have hpt := plain_trod (enc := enc) 3 t hp.1 fuel W W b b sp sp hd hd v.cells.toList
    obtain ⟨e1, e2, e3⟩ := hpt.2 _ hf
    dsimp only at e1
    subst e1
    refine ⟨rfl, by simp [k1], by simp [k2], fun W' b' sp' hd' => ⟨[], [], ⟨fuel, ?_⟩, k3 W' b' sp' hd', rfl⟩, fun j t' v' ht hv => ?_⟩
    · rw [← (plain_trod (enc := enc) 3 t hp.1 fuel W W' b b' sp sp' hd hd' v.cells.toList).1]; exact hf
    · cases j with
      | zero => simp at ht hv; subst ht; subst hv; exact ⟨e3, by simpa using e2⟩
      | succ j => exact k4 j t' v' (by simpa using ht) (by simpa using hv)

/-- The walk of a law: whatever floats the arguments hold, the call returns true. -/
def LawRuns (P : Program) (f : FuncId) (ts : List TypeId) : Prop :=
  ∀ (vals : List Value) (W : World), (∀ f1 f2, VsRel (envOf vals f1 f2) (fun _ => none) (argsV P 0 ts) vals) →
    Calls P f vals.toArray W fun e W' => e = .returned (.bool true) ∧ Gr W W'

/-- Is it true, whatever is known? -/
def isTrue : V → Facts → Bool
  | .sc (.bool true), _ => true
  | _, _ => false

theorem isTrue_spec {sv : V} {fs : Facts} (h : isTrue sv fs = true) : sv = .sc (.bool true) := by
  unfold isTrue at h; split at h <;> first | rfl | cases h

/-- From the run on symbols. -/
theorem law_runs (hm : P.follows .mixedOrders = true) (hN : ∀ (f : FuncId) (fn : Func), P.funcs[f]? = some fn → (fn.name == "runtime.NumGoroutine") = false)
    {S : FuncId → List V → Option Known} {n : Nat} {f : FuncId} {ts : List TypeId} (f1 : Nat → CF → CF) (f2 : Nat → CF → CF → CF)
    (hS : ∀ E : Env, E.f1 = f1 → E.f2 = f2 → SumOK E P S) (h : runA P S n f (argsV P 0 ts) [] isTrue = true) : LawRuns P f ts := by
  intro vals W hv
  obtain ⟨sv, fs', h1, _, h3⟩ := runA_sound (E := envOf vals f1 f2) hm hN (hS _ rfl rfl) h (fun p hp => by cases hp)
  have := isTrue_spec h1
  subst this
  exact (h3 vals W (hv f1 f2) trivial).mono fun e W' ⟨v, he, hr, hg⟩ => ⟨by rw [he]; exact congrArg Ending.returned hr, hg⟩

theorem names_ok (h : (P.funcs.all fun fn => !(fn.name == "runtime.NumGoroutine")) = true) (f : FuncId) (fn : Func) (hf : P.funcs[f]? = some fn) : (fn.name == "runtime.NumGoroutine") = false := by
  have := Array.all_eq_true_iff_forall_mem.1 h fn (Array.mem_of_getElem? hf)
  simpa using this

/-! ### Terms up to the order of factors and of summands -/
theorem sum_comm (d e : Ieee.Datum) : d.sum e = e.sum d := by
  cases d <;> cases e <;> simp only [Ieee.Datum.sum]
  · rename_i s m i t n j
    rw [Int.min_comm, Int.add_comm, Bool.and_comm]
  · rename_i s t
    by_cases h : s = t
    · subst h; rfl
    · rw [if_neg h, if_neg (Ne.symm h)]

theorem product_comm (d e : Ieee.Datum) : d.product e = e.product d := by
  cases d <;> cases e <;> simp only [Ieee.Datum.product]
  · rw [Bool.xor_comm, Nat.mul_comm, Int.add_comm]
  · rw [Bool.xor_comm]

theorem cbin_comm {op : BinOp} (h : op = .add ∨ op = .mul) (k : FloatKind) (x y : CF) : cbin op k x y = cbin op k y x := by
  cases x <;> cases y <;> first | rfl | skip
  rename_i a b
  show floatBits op k a b = floatBits op k b a
  rcases h with rfl | rfl
  · show Ieee.Format.add _ a b = Ieee.Format.add _ b a
    unfold Ieee.Format.add; rw [sum_comm]
  · show Ieee.Format.mul _ a b = Ieee.Format.mul _ b a
    unfold Ieee.Format.mul; rw [product_comm]

def isComm (c : Nat) : Bool :=
  match opOf (c % 4) with
  | .add | .mul => true
  | _ => false

/-- The same term, up to the order of factors and of summands. -/
def T.beqC : T → T → Bool
  | .bin c x y, .bin c' x' y' => Nat.beq c c' && ((T.beqC x x' && T.beqC y y') || (isComm c && T.beqC x y' && T.beqC y x'))
  | .neg k x, .neg k' x' => Nat.beq (fk k) (fk k') && T.beqC x x'
  | .wide x, .wide x' => T.beqC x x'
  | .narrow x, .narrow x' => T.beqC x x'
  | .f1 g x, .f1 g' x' => Nat.beq g g' && T.beqC x x'
  | .f2 g x y, .f2 g' x' y' => Nat.beq g g' && T.beqC x x' && T.beqC y y'
  | .abs k x, .abs k' x' => Nat.beq (fk k) (fk k') && T.beqC x x'
  | x, y => T.beq x y

theorem T.beqC_den (E : Env) : ∀ {x y : T}, T.beqC x y = true → den E x = den E y := by
  intro x
  induction x with
  | bin c x y ihx ihy =>
    intro z h
    cases z with
    | bin c' x' y' =>
      simp only [T.beqC, Bool.and_eq_true, Bool.or_eq_true] at h
      obtain ⟨h1, h⟩ := h
      have e := Nat.eq_of_beq_eq_true h1
      subst e
      rcases h with ⟨h2, h3⟩ | ⟨⟨h0, h2⟩, h3⟩
      · show cbin _ _ _ _ = cbin _ _ _ _
        rw [ihx h2, ihy h3]
      · show cbin _ _ _ _ = cbin _ _ _ _
        rw [ihx h2, ihy h3, cbin_comm]
        unfold isComm at h0
        split at h0
        · rename_i e; exact .inl e
        · rename_i e; exact .inr e
        · cases h0
    | _ => exact congrArg _ (T.beq_eq h)
  | neg k x ih =>
    intro z h
    cases z with
    | neg k' x' => simp only [T.beqC, Bool.and_eq_true] at h; have e := fk_inj h.1; subst e; show cneg _ _ = cneg _ _; rw [ih h.2]
    | _ => exact congrArg _ (T.beq_eq h)
  | wide x ih =>
    intro z h
    cases z with
    | wide x' => show cwide _ = cwide _; rw [ih h]
    | _ => exact congrArg _ (T.beq_eq h)
  | narrow x ih =>
    intro z h
    cases z with
    | narrow x' => show cnarrow _ = cnarrow _; rw [ih h]
    | _ => exact congrArg _ (T.beq_eq h)
  | f1 g x ih =>
    intro z h
    cases z with
    | f1 g' x' => simp only [T.beqC, Bool.and_eq_true] at h; have e := Nat.eq_of_beq_eq_true h.1; subst e; show E.f1 _ _ = E.f1 _ _; rw [ih h.2]
    | _ => exact congrArg _ (T.beq_eq h)
  | f2 c x y ihx ihy =>
    intro z h
    cases z with
    | f2 c' x' y' =>
      simp only [T.beqC, Bool.and_eq_true] at h
      obtain ⟨⟨h1, h2⟩, h3⟩ := h
      have e := Nat.eq_of_beq_eq_true h1
      subst e
      show E.f2 _ _ _ = E.f2 _ _ _
      rw [ihx h2, ihy h3]
    | _ => exact congrArg _ (T.beq_eq h)
  | abs k x ih =>
    intro z h
    cases z with
    | abs k' x' => simp only [T.beqC, Bool.and_eq_true] at h; have e := fk_inj h.1; subst e; show cabs _ _ = cabs _ _; rw [ih h.2]
    | _ => exact congrArg _ (T.beq_eq h)
  | _ => intro z h; exact congrArg _ (T.beq_eq (by cases z <;> exact h))

/-! ### Functions known beforehand -/
/-- A function of two floats of kind k that says whether they are the same. -/
def sameK (k : FloatKind) : List V → Option Known
  | [.sc (.flt k1 a), .sc (.flt k2 b)] => if Nat.beq (fk k1) (fk k) && Nat.beq (fk k2) (fk k) && T.beqC a b then some (.val (.sc (.bool true))) else none
  | _ => none

theorem callRuns_of_calls {f : FuncId} {fn : Func} {c : Code} {args : Array Value} {W : World} {R : Value → World → Prop} (hN : ∀ (f : FuncId) (fn : Func), P.funcs[f]? = some fn → (fn.name == "runtime.NumGoroutine") = false)
    (hfn : P.funcs[f]? = some fn) (hb : fn.body = some c) (h : Calls P f args W fun e W' => ∃ v, e = .returned v ∧ R v W') : CallRuns P f args W R := by
  unfold CallRuns
  rw [run_callFunc hfn (hN f fn hfn) hb]
  exact h

theorem runA_body {S : FuncId → List V → Option Known} {n : Nat} {f : FuncId} {args : List V} {fs : Facts} {K : V → Facts → Bool} (h : runA P S n f args fs K = true) : ∃ fn c, P.funcs[f]? = some fn ∧ fn.body = some c := by
  unfold runA callA at h
  split at h
  · rename_i fn hfn
    split at h
    · rename_i c hc; exact ⟨fn, c, hfn, hc⟩
    · cases h
  · cases h

/-- The same float twice: 'sameFloat' and its like answer true. By a run on symbols of the function itself. -/
theorem sameK_ok {E : Env} (hm : P.follows .mixedOrders = true) (hN : ∀ (f : FuncId) (fn : Func), P.funcs[f]? = some fn → (fn.name == "runtime.NumGoroutine") = false)
    {n : Nat} {f : FuncId} {k : FloatKind} (h : runA P (fun _ _ => none) n f [.sc (.flt k (.arg 0)), .sc (.flt k (.arg 0))] [] isTrue = true)
    {args : List V} {kn : Known} (hs : sameK k args = some kn) {β : Beta} {vals : List Value} {W : World} (hv : VsRel E β args vals) :
    CallRuns P f vals.toArray W fun v W' => Gr W W' ∧ KnownRel E β kn v := by
  unfold sameK at hs
  split at hs
  · rename_i k1 a k2 b
    split at hs
    · rename_i he
      cases hs
      simp only [Bool.and_eq_true] at he
      obtain ⟨⟨q1, q2⟩, q3⟩ := he
      have hab := T.beqC_den E q3
      have e1 := fk_inj q1
      have e2 := fk_inj q2
      subst e1
      subst e2
      obtain ⟨fn, c, hfn, hb⟩ := runA_body h
      let E' : Env := { arg := fun _ => den E a, f1 := E.f1, f2 := E.f2 }
      obtain ⟨sv, fs', h1, _, h3⟩ := runA_sound (E := E') (S := fun _ _ => none) hm hN (fun _ _ _ h => by cases h) h (fun p hp => by cases hp)
      have := isTrue_spec h1
      subst this
      refine callRuns_of_calls hN hfn hb ((h3 vals W ?_ trivial).mono fun e W' ⟨v, he, hr, hg⟩ => ⟨v, he, hg, hr⟩)
      refine ⟨hv.1, fun i s v hs hvv => ?_⟩
      match i, hs with
      | 0, hs => simp at hs; subst hs; exact hv.2 0 _ v rfl hvv
      | 1, hs =>
        simp at hs; subst hs
        obtain ⟨w, e, hw⟩ := hv.2 1 _ v rfl hvv
        exact ⟨w, e, hw.trans hab.symm⟩
    · cases hs
  · cases hs

end
end Go.Sx

/-   Functions known beforehand: those without a Go body, and those that say whether two floats are the same. Conditions: none. -/
namespace Go.Sx
open Go.RowKit

section
variable {P : Program} {E : Env}

theorem callRuns_ext {f : FuncId} {fn : Func} {e : Array Value → Sem Value} (hfn : P.funcs[f]? = some fn) (hne : (fn.name == "runtime.NumGoroutine") = false) (hb : fn.body = none) (h1 : Extern.findNext fn = none)
    (h2 : Extern.find fn = some e) {args : Array Value} {W W' : World} {v : Value} {R : Value → World → Prop} (h : (e args).run P W = .ok v W') (hr : R v W') : CallRuns P f args W R := by
  unfold CallRuns
  have hrun : (callFunc f args).run P W = .ok (.value v) W' := by
    unfold callFunc
    rw [Sem.run_bind, run_program]
    simp only [Result.andThen_ok, hfn, hne, hb, Option.isNone_none, if_true, Bool.false_eq_true, if_false, h1, h2]
    rw [Sem.run_bind, run_mark]
    simp [h]
  rw [hrun]
  exact hr

/-- What is owed of a function without a Go body. -/
structure IsExt (P : Program) (f : FuncId) (e : Array Value → Sem Value) : Prop where
  ext : ∃ fn, P.funcs[f]? = some fn ∧ (fn.name == "runtime.NumGoroutine") = false ∧ fn.body = none ∧ Extern.findNext fn = none ∧ Extern.find fn = some e

theorem IsExt.runs {f : FuncId} {e : Array Value → Sem Value} (hx : IsExt P f e) {args : Array Value} {W W' : World} {v : Value} {R : Value → World → Prop} (h : (e args).run P W = .ok v W') (hr : R v W') : CallRuns P f args W R := by
  obtain ⟨fn, a, b, c, d, g⟩ := hx.ext
  exact callRuns_ext a b c d g h hr

theorem one_arg {β : Beta} {s : V} {vals : List Value} (h : VsRel E β [s] vals) : ∃ v, vals = [v] ∧ VRel E β s v := by
  obtain ⟨h1, h2⟩ := h
  match vals, h1 with
  | [v], _ => exact ⟨v, rfl, h2 0 s v rfl rfl⟩

/-- 'math.Float32bits', 'math.Float64bits'. -/
def bitsK (k : FloatKind) : List V → Option Known
  | [.sc (.flt k1 t)] => if Nat.beq (fk k1) (fk k) then some (.val (.sc (.bits k t))) else none
  | _ => none
def bitsE : FloatKind → Array Value → Sem Value
  | .f32 => Extern.MathFloatBits.float32bits
  | .f64 => Extern.MathFloatBits.float64bits
theorem bitsK_ok {k : FloatKind} {f : FuncId} (hx : IsExt P f (bitsE k)) {args : List V} {kn : Known} (hs : bitsK k args = some kn) {β : Beta} {vals : List Value} {W : World} (hv : VsRel E β args vals) :
    CallRuns P f vals.toArray W fun v W' => Gr W W' ∧ KnownRel E β kn v := by
  unfold bitsK at hs
  split at hs
  · rename_i k1 t
    split at hs
    · rename_i hk
      have := fk_inj hk
      subst this
      cases hs
      obtain ⟨v, rfl, b, rfl, hb⟩ := one_arg hv
      refine hx.runs (v := .int (uk k1) b) (W' := W) ?_ ⟨Gr.refl _, b, rfl, hb⟩
      cases k1 <;> rfl
    · cases hs
  · cases hs

/-- 'math.Float32frombits', 'math.Float64frombits'. -/
def fromK (k : FloatKind) : List V → Option Known
  | [.sc (.bits k1 t)] => if Nat.beq (fk k1) (fk k) then some (.val (.sc (.flt k t))) else none
  | [.sc (.int k1 (.ofNat n))] => if decide (k1 = uk k) then some (.val (.sc (.flt k (.lit k n)))) else none
  | _ => none
def fromE : FloatKind → Array Value → Sem Value
  | .f32 => Extern.MathFloatBits.float32frombits
  | .f64 => Extern.MathFloatBits.float64frombits
theorem fromK_ok {k : FloatKind} {f : FuncId} (hx : IsExt P f (fromE k)) {args : List V} {kn : Known} (hs : fromK k args = some kn) {β : Beta} {vals : List Value} {W : World} (hv : VsRel E β args vals) :
    CallRuns P f vals.toArray W fun v W' => Gr W W' ∧ KnownRel E β kn v := by
  unfold fromK at hs
  split at hs
  · rename_i k1 t
    split at hs
    · rename_i hk
      have := fk_inj hk
      subst this
      cases hs
      obtain ⟨v, rfl, b, rfl, hb⟩ := one_arg hv
      refine hx.runs (v := .float k1 b) (W' := W) ?_ ⟨Gr.refl _, b, rfl, hb⟩
      cases k1 <;> rfl
    · cases hs
  · rename_i k1 n
    split at hs
    · rename_i hk
      have hk' : k1 = uk k := by simpa using hk
      subst hk'
      cases hs
      obtain ⟨v, rfl, hv1⟩ := one_arg hv
      obtain rfl : v = _ := hv1
      refine hx.runs (v := .float k n) (W' := W) ?_ ⟨Gr.refl _, n, rfl, rfl⟩
      cases k <;> rfl
    · cases hs
  · cases hs

/-- A function of a float64 that the table 'f1' of the environment names. -/
def un64K (g : Nat) : List V → Option Known
  | [.sc (.flt .f64 t)] => some (.val (.sc (.flt .f64 (.f1 g t))))
  | _ => none
theorem un64K_ok {f : FuncId} {e : Array Value → Sem Value} (hx : IsExt P f e) {g : Nat} (he : ∀ (b : Nat) (W : World), ∃ r n, (e #[.float .f64 b]).run P W = .ok (.float .f64 r) (W.drewN n) ∧ canon .f64 r = E.f1 g (canon .f64 b))
    {args : List V} {kn : Known} (hs : un64K g args = some kn) {β : Beta} {vals : List Value} {W : World} (hv : VsRel E β args vals) :
    CallRuns P f vals.toArray W fun v W' => Gr W W' ∧ KnownRel E β kn v := by
  unfold un64K at hs
  split at hs
  · cases hs
    obtain ⟨v, rfl, b, rfl, hb⟩ := one_arg hv
    obtain ⟨r, n, h1, h2⟩ := he b W
    exact hx.runs h1 ⟨Gr.drewN (Gr.refl _) n, r, rfl, by rw [h2, hb]; rfl⟩
  · cases hs

theorem run_sqrt (b : Nat) (W : World) : ∃ r n, (Extern.MathSqrt.sqrt #[.float .f64 b]).run P W = .ok (.float .f64 r) (W.drewN n) ∧ canon .f64 r = csqrt (canon .f64 b) := by
  have hx : csqrt (canon .f64 b) = FloatKind.f64.format.sqrt b := by
    cases hb : (FloatKind.f64.format.read b).isNaN
    · rw [canon_num hb]; rfl
    · rw [canon_nan hb]
      unfold Ieee.Format.sqrt
      cases hd : FloatKind.f64.format.read b <;> rw [hd] at hb <;> first | (simp [Ieee.Datum.root, csqrt]; done) | (simp [Ieee.Datum.isNaN] at hb)
  rw [hx]
  have e0 : Extern.MathSqrt.sqrt #[.float .f64 b] = (match FloatKind.f64.format.sqrt b with
    | some r => pure (.float .f64 r)
    | none => do pure (.float .f64 (← choose (.nanBits .f64 b b)))) := rfl
  rw [e0]
  cases h : FloatKind.f64.format.sqrt b with
  | some r =>
    refine ⟨r, 0, by simp [World.drewN_zero], canon_num ?_⟩
    exact map_write_notNaN h fun d hd => root_notNaN hd
  | none => exact ⟨(Question.nanBits .f64 b b).cut (W.tape W.drawn (.nanBits .f64 b b)), 1, by simp [Question.forced, World.drewN], cut_nanBits ..⟩

theorem quiet_nan {b : Nat} {s : Bool} {t : Nat} (h : FloatKind.f64.decode b = .nan s t) : canon .f64 (FloatKind.f64.encode (.nan s (FloatKind.f64.format.quiet t))) = none := by
  have ht : t < 2 ^ 52 ∧ 0 < t := by
    have h' : Ieee.double.read b = .nan s t := h
    have s1 : Ieee.double.signWeight = 9223372036854775808 := by decide
    have s3 : Ieee.double.infRung = 9218868437227405312 := by decide
    unfold Ieee.Format.read at h'
    simp only [s1, s3] at h'
    have hm : b % 9223372036854775808 < 9223372036854775808 := Nat.mod_lt _ (by decide)
    split at h'
    · cases h'
    · split at h'
      · cases h'
      · split at h'
        · cases h'
        · simp only [Ieee.Datum.nan.injEq] at h'
          obtain ⟨_, rfl⟩ := h'
          omega
  refine canon_nan ?_
  rw [show FloatKind.f64.format = Ieee.double from rfl]
  show (Ieee.double.read (Ieee.double.word s (Ieee.double.infRung + (t ||| 2 ^ 51) % Ieee.double.binade))).isNaN = true
  have s1 : Ieee.double.signWeight = 9223372036854775808 := by decide
  have s2 : Ieee.double.binade = 4503599627370496 := by decide
  have s3 : Ieee.double.infRung = 9218868437227405312 := by decide
  have hor : t ||| 2 ^ 51 < 2 ^ 52 := Nat.or_lt_two_pow ht.1 (by decide)
  have hge : 2 ^ 51 ≤ t ||| 2 ^ 51 := Nat.right_le_or
  have hm : (t ||| 2 ^ 51) % Ieee.double.binade = t ||| 2 ^ 51 := by rw [s2]; exact Nat.mod_eq_of_lt hor
  rw [hm]
  have hlt : Ieee.double.infRung + (t ||| 2 ^ 51) < Ieee.double.signWeight := by rw [s1, s3]; omega
  unfold Ieee.Format.read
  simp only [read_word_rung _ s _ hlt]
  rw [if_neg (by rw [s2, s3]; omega), if_neg (by omega), if_neg (by omega)]
  rfl

theorem run_toInt (name : String) (way : Ieee.Toward) (b : Nat) (W : World) : ∃ r n, (Extern.MathFloor.toIntegral name way #[.float .f64 b]).run P W = .ok (.float .f64 r) (W.drewN n) ∧ canon .f64 r = cint way (canon .f64 b) := by
  have e0 : Extern.MathFloor.toIntegral name way #[.float .f64 b] = (match FloatKind.f64.decode b with
    | .nan s t =>
      if FloatKind.f64.format.quiet t = t then pure (.float .f64 b) else do
      let kept ← choose (.extern "math.Floor,Ceil,Trunc,RoundToEven.signallingNaN kept" 2)
      pure (.float .f64 (if kept == 1 then b else FloatKind.f64.encode (.nan s (FloatKind.f64.format.quiet t))))
    | d => pure (.float .f64 (FloatKind.f64.encode (d.integral way)))) := rfl
  rw [e0]
  cases hd : FloatKind.f64.decode b with
  | nan s t =>
    have hn : canon .f64 b = none := canon_nan (show (FloatKind.f64.decode b).isNaN = true by rw [hd]; rfl)
    rw [hn]
    by_cases hq : FloatKind.f64.format.quiet t = t
    · exact ⟨b, 0, by simp [hq, World.drewN_zero], hn⟩
    · have hq2 := quiet_nan hd
      refine ⟨if (Question.extern "math.Floor,Ceil,Trunc,RoundToEven.signallingNaN kept" 2).cut (W.tape W.drawn (.extern "math.Floor,Ceil,Trunc,RoundToEven.signallingNaN kept" 2)) == 1 then b else FloatKind.f64.encode (.nan s (FloatKind.f64.format.quiet t)), 1, ?_, ?_⟩
      · simp [hq, Question.forced, World.drewN]
      · split
        · exact hn
        · exact hq2
  | infinity s =>
    have hn : canon .f64 b = some b := canon_num (show (FloatKind.f64.decode b).isNaN = false by rw [hd]; rfl)
    refine ⟨FloatKind.f64.encode ((Ieee.Datum.infinity s).integral way), 0, by simp [World.drewN_zero], ?_⟩
    rw [hn]
    have : canon .f64 (FloatKind.f64.encode ((Ieee.Datum.infinity s).integral way)) = some (FloatKind.f64.encode ((Ieee.Datum.infinity s).integral way)) := canon_num (write_notNaN Ieee.double _ rfl)
    rw [this]
    simp [cint, hd]
  | number s m e =>
    have hn : canon .f64 b = some b := canon_num (show (FloatKind.f64.decode b).isNaN = false by rw [hd]; rfl)
    refine ⟨FloatKind.f64.encode ((Ieee.Datum.number s m e).integral way), 0, by simp [World.drewN_zero], ?_⟩
    rw [hn]
    have : canon .f64 (FloatKind.f64.encode ((Ieee.Datum.number s m e).integral way)) = some (FloatKind.f64.encode ((Ieee.Datum.number s m e).integral way)) := canon_num (write_notNaN Ieee.double _ rfl)
    rw [this]
    simp [cint, hd]

/-! ### Are two floats the same? -/
def sameT (k : FloatKind) : List V → Option Known
  | [.sc (.flt k1 a), .sc (.flt k2 b)] => if Nat.beq (fk k1) (fk k) && Nat.beq (fk k2) (fk k) then (if T.beqC a b then some (.val (.sc (.bool true))) else some (.test (.same a b))) else none
  | _ => none

def sameOf (k : FloatKind) (fs : Facts) : Option Bool :=
  match look (.cmp 0 k (.arg 0) (.arg 0)) fs, look (.cmp 0 k (.arg 1) (.arg 1)) fs with
  | some true, some true => look (.same (.arg 0) (.arg 1)) fs
  | some a, some b => some (a == b)
  | _, _ => none

def sameOut (k : FloatKind) : V → Facts → Bool
  | .sc (.bool r), fs => match sameOf k fs with
    | some r' => r == r'
    | none => false
  | _, _ => false

theorem sameT_ok (hm : P.follows .mixedOrders = true) (hN : ∀ (f : FuncId) (fn : Func), P.funcs[f]? = some fn → (fn.name == "runtime.NumGoroutine") = false)
    {S : FuncId → List V → Option Known} (hS : ∀ E' : Env, E'.f1 = E.f1 → E'.f2 = E.f2 → SumOK E' P S) {n : Nat} {f : FuncId} {k : FloatKind} (h : runA P S n f [.sc (.flt k (.arg 0)), .sc (.flt k (.arg 1))] [] (sameOut k) = true)
    {args : List V} {kn : Known} (hs : sameT k args = some kn) {β : Beta} {vals : List Value} {W : World} (hv : VsRel E β args vals) :
    CallRuns P f vals.toArray W fun v W' => Gr W W' ∧ KnownRel E β kn v := by
  unfold sameT at hs
  split at hs
  · rename_i k1 a k2 b
    split at hs
    · rename_i he
      simp only [Bool.and_eq_true] at he
      have e1 := fk_inj he.1
      have e2 := fk_inj he.2
      subst e1
      subst e2
      obtain ⟨fn, c, hfn, hb⟩ := runA_body h
      obtain ⟨x, hx1⟩ : ∃ x : Value, vals[0]? = some x := by have := hv.1; exact ⟨vals[0]'(by rw [← this]; simp), by simp⟩
      obtain ⟨y, hy1⟩ : ∃ y : Value, vals[1]? = some y := by have := hv.1; exact ⟨vals[1]'(by rw [← this]; simp), by simp⟩
      obtain ⟨u, rfl, hu⟩ := hv.2 0 _ x rfl hx1
      obtain ⟨w, rfl, hw⟩ := hv.2 1 _ y rfl hy1
      let E' : Env := { arg := fun i => if i = 0 then den E a else den E b, f1 := E.f1, f2 := E.f2 }
      obtain ⟨sv, fs', h1, hf, h3⟩ := runA_sound (E := E') hm hN (hS E' rfl rfl) h (fun p hp => by cases hp)
      have hres : sv = .sc (.bool (holds E (.same a b))) := by
        unfold sameOut at h1
        split at h1
        · rename_i r
          congr 2
          split at h1
          · rename_i r' hr'
            have hrr : r = r' := by simpa using h1
            rw [hrr]
            unfold sameOf at hr'
            have q0 : holds E' (.cmp 0 k2 (.arg 0) (.arg 0)) = (den E a).isSome := by rw [cmp_self E' k2 (a := .arg 0) (b := u) (by rw [hu]; rfl), hu]
            have q1 : holds E' (.cmp 0 k2 (.arg 1) (.arg 1)) = (den E b).isSome := by rw [cmp_self E' k2 (a := .arg 1) (b := w) (by rw [hw]; rfl), hw]
            have q2 : holds E' (.same (.arg 0) (.arg 1)) = holds E (.same a b) := rfl
            split at hr'
            · have := look_sound hr' hf
              rw [← this, q2]
            · rename_i p0 p1 hne l0 l1
              have s0 := look_sound l0 hf
              have s1 := look_sound l1 hf
              rw [q0] at s0
              rw [q1] at s1
              cases hr'
              show _ = (den E a == den E b)
              cases hda : den E a <;> cases hdb : den E b <;> rw [hda] at s0 <;> rw [hdb] at s1 <;> simp at s0 s1 <;> subst s0 <;> subst s1
              · rfl
              · rfl
              · rfl
              · exact (hne rfl rfl).elim
            · cases hr'
          · cases h1
        · cases h1
      subst hres
      have hcall : CallRuns P f vals.toArray W fun v W' => Gr W W' ∧ v = .bool (holds E (.same a b)) := by
        refine callRuns_of_calls hN hfn hb ((h3 vals W ?_ trivial).mono fun e W' ⟨v, he, hr, hg⟩ => ⟨v, he, hg, hr⟩)
        refine ⟨hv.1, fun i s v hs hvv => ?_⟩
        match i, hs with
        | 0, hs => simp at hs; subst hs; rw [hx1] at hvv; cases hvv; exact ⟨u, rfl, hu⟩
        | 1, hs => simp at hs; subst hs; rw [hy1] at hvv; cases hvv; exact ⟨w, rfl, hw⟩
      have hmono : ∀ {R R' : Value → World → Prop}, CallRuns P f vals.toArray W R → (∀ v W', R v W' → R' v W') → CallRuns P f vals.toArray W R' := by
        intro R R' hR himp
        unfold CallRuns at *
        split
        · rename_i e; rw [e] at hR; exact himp _ _ hR
        · rename_i e; rw [e] at hR; exact himp _ _ hR
        · rename_i e; rw [e] at hR; exact Calls.mono hR fun e W'' ⟨v, g1, g2⟩ => ⟨v, g1, himp _ _ g2⟩
        · rename_i n1 n2 n3
          split at hR
          · exact absurd (by assumption) (n1 _ _)
          · exact absurd (by assumption) (n2 _)
          · exact absurd (by assumption) (n3 _ _ _)
          · exact hR
      split at hs
      · rename_i hab
        cases hs
        have hd := T.beqC_den E hab
        refine hmono hcall fun v W' ⟨g, e⟩ => ⟨g, ?_⟩
        show v = _
        rw [e]
        simp [holds, hd]
      · cases hs
        exact hcall
    · cases hs
  · cases hs

/-- What the table 'f1' of the environment names: the functions without a Go body. -/
def stdF0 (g : Nat) (x : CF) : CF :=
  match g with
  | 2 => csqrt x
  | 3 => cint .down x
  | 4 => cint .even x
  | _ => x

/-! ### The sine of so many turns, as a term -/
def sineHalf : T := .lit .f64 4602678819172646912
def sineF : T := .bin 5 (.arg 0) (.f1 3 (.arg 0))
def sineA0 : Atom := .cmp 4 .f64 sineF sineHalf
def sineF1 (b : Bool) : T := if b then .bin 5 sineF sineHalf else sineF
def sineA1 (b : Bool) : Atom := .cmp 3 .f64 (sineF1 b) (.lit .f64 4598175219545276416)
def sineF2 (b c : Bool) : T := if c then .bin 5 sineHalf (sineF1 b) else sineF1 b
def sineX (b c : Bool) : T := .bin 6 (.lit .f64 4618760256179416344) (sineF2 b c)
def sineS (y : T) : List Nat → T → T
  | [], s => s
  | n :: r, s => sineS y r (.bin 5 (.lit .f64 4607182418800017408) (.bin 6 (.bin 7 y (.lit .f64 n)) s))
def sineNs : List Nat := [4643492690795692032, 4641592734702895104, 4639692778610098176, 4637440978796412928, 4634766966517661696, 4631107791820423168, 4626322717216342016, 4618441417868443648]
def sineB (b c : Bool) : T := .bin 6 (sineS (.bin 6 (sineX b c) (sineX b c)) sineNs (.lit .f64 4607182418800017408)) (sineX b c)
def sineW (b c : Bool) : T := if b then .neg .f64 (sineB b c) else sineB b c
def sineT (b c : Bool) : T := .narrow (sineW b c)
def env0 (x y : CF) : Env := { arg := fun i => if i = 0 then x else y, f1 := stdF0, f2 := fun _ x _ => x }
def csine (x : CF) : CF := den (env0 x x) (sineT (holds (env0 x x) sineA0) (holds (env0 x x) (sineA1 (holds (env0 x x) sineA0))))

/-- What the table 'f1' of the environment names. -/
def stdF1 (g : Nat) (x : CF) : CF :=
  match g with
  | 2 => csqrt x
  | 3 => cint .down x
  | 4 => cint .even x
  | 5 => csine x
  | _ => x

end
end Go.Sx

/-   What rounding keeps: a number that the format holds is written as it is; a bound that is a power of two stays. Conditions: none. -/
namespace Go.Sx
open Ieee

/-- The place of the last digit that is kept. -/
def lastPlace (f : Format) (mag : Nat) (place : Int) : Int := max (place + mag.log2 - f.fractionBits) f.leastPlace

/-- The digits that are kept. -/
def keptOf (f : Format) (mag : Nat) (place : Int) : Nat :=
  Toward.even.cut false (mag <<< (place - lastPlace f mag place).toNat) (lastPlace f mag place - place).toNat

theorem cut_even_sign (s t : Bool) (n d : Nat) : Toward.even.cut s n d = Toward.even.cut t n d := rfl

theorem nearest_eq (f : Format) (neg : Bool) {mag : Nat} (place : Int) (h : mag ≠ 0) :
    f.nearest neg mag place = f.word neg (min ((lastPlace f mag place - f.leastPlace).toNat * f.binade + keptOf f mag place) f.infRung) := by
  unfold Format.nearest
  rw [if_neg h]
  rfl

theorem cut_zero (n : Nat) : Toward.even.cut false n 0 = n := by
  unfold Toward.cut
  simp [Nat.mod_one]

theorem log2_shift {m : Nat} (h : m ≠ 0) (k : Nat) : (m * 2 ^ k).log2 = m.log2 + k := by
  rw [Nat.log2_eq_iff (by have := Nat.two_pow_pos k; exact Nat.mul_ne_zero h (by omega))]
  have h1 := Nat.log2_self_le h
  have h2 : m < 2 ^ (m.log2 + 1) := Nat.lt_log2_self
  constructor
  · rw [Nat.pow_add]; exact Nat.mul_le_mul_right _ h1
  · rw [show m.log2 + k + 1 = (m.log2 + 1) + k by omega, Nat.pow_add]; exact Nat.mul_lt_mul_of_pos_right h2 (Nat.two_pow_pos k)

theorem cut_mul {m : Nat} (h : m ≠ 0) (k : Nat) : Toward.even.cut false (m * 2 ^ k) k = m := by
  unfold Toward.cut
  dsimp only
  have hk : min k ((m * 2 ^ k).log2 + 2) = k := by rw [log2_shift h]; omega
  rw [hk, Nat.one_shiftLeft, Nat.mul_div_cancel _ (Nat.two_pow_pos k), Nat.mul_mod_left]
  have h2 : (2 ^ k == 2 * 0) = false := by
    have := Nat.two_pow_pos k
    simp only [Nat.mul_zero, beq_eq_false_iff_ne]; omega
  simp [h2]

/-- What is kept is at most what it should be, where that is whole. -/
theorem cut_le {n d N : Nat} (h : n ≤ N * 2 ^ d) : Toward.even.cut false n d ≤ N := by
  unfold Toward.cut
  dsimp only
  rw [Nat.one_shiftLeft]
  have hlog : n < 2 ^ (n.log2 + 1) := Nat.lt_log2_self
  by_cases hd : d ≤ n.log2 + 2
  · rw [Nat.min_eq_left hd]
    have hp := Nat.two_pow_pos d
    have hq : n / 2 ^ d ≤ N := Nat.div_le_of_le_mul (by rw [Nat.mul_comm]; exact h)
    by_cases he : n / 2 ^ d = N
    · have hr : n % 2 ^ d = 0 := by
        have hdm := Nat.div_add_mod n (2 ^ d)
        rw [he, Nat.mul_comm] at hdm
        omega
      rw [hr]
      have h2 : (2 ^ d == 2 * 0) = false := by simp only [Nat.mul_zero, beq_eq_false_iff_ne]; omega
      simp [h2, he]
    · generalize (_ || _ : Bool) = t
      have : t.toNat ≤ 1 := by cases t <;> decide
      omega
  · rw [Nat.min_eq_right (by omega)]
    have hpow : 2 ^ (n.log2 + 2) = 2 * 2 ^ (n.log2 + 1) := by rw [show n.log2 + 2 = (n.log2 + 1) + 1 by omega, Nat.pow_succ]; omega
    have h0 : n / 2 ^ (n.log2 + 2) = 0 := Nat.div_eq_of_lt (by omega)
    have hr : n % 2 ^ (n.log2 + 2) = n := Nat.mod_eq_of_lt (by omega)
    rw [h0, hr]
    have h1 : decide (2 ^ (n.log2 + 2) < 2 * n) = false := by simp; omega
    have h2 : (2 ^ (n.log2 + 2) == 2 * n) = false := by simp only [beq_eq_false_iff_ne]; omega
    simp [h1, h2]

/-- A rung, read: the number is what was written. -/
theorem read_rung (f : Format) (neg : Bool) {up kept : Nat} (hk : kept ≤ 2 * f.binade) (hlow : up = 0 ∨ f.binade ≤ kept) (hfin : up * f.binade + kept < f.infRung) :
    ∃ m e, f.read (f.word neg (up * f.binade + kept)) = .number neg m e ∧ f.leastPlace ≤ e ∧ m * 2 ^ (e - f.leastPlace).toNat = kept * 2 ^ up := by
  have hb : 0 < f.binade := Nat.two_pow_pos _
  have hlt : up * f.binade + kept < f.signWeight := Nat.lt_trans hfin f.infRung_lt
  have hneg : (f.word neg (up * f.binade + kept) / f.signWeight % 2 == 1) = neg := by
    have hw : 0 < f.signWeight := Nat.two_pow_pos _
    unfold Format.word
    cases neg
    · simp [Nat.div_eq_of_lt hlt]
    · simp [Nat.add_div_left _ hw, Nat.div_eq_of_lt hlt]
  unfold Format.read
  simp only [read_word_rung f neg _ hlt, hneg]
  by_cases h1 : up * f.binade + kept < f.binade
  · rw [if_pos h1]
    have hup : up = 0 := by
      rcases hlow with h | h
      · exact h
      · omega
    subst hup
    exact ⟨_, _, rfl, Int.le_refl _, by simp⟩
  · rw [if_neg h1, if_pos hfin]
    by_cases h2 : kept = 2 * f.binade
    · have hq : (up * f.binade + kept) / f.binade = up + 2 := by
        rw [h2, show up * f.binade + 2 * f.binade = (up + 2) * f.binade by rw [Nat.add_mul], Nat.mul_div_cancel _ hb]
      have hr : (up * f.binade + kept) % f.binade = 0 := by
        rw [h2, show up * f.binade + 2 * f.binade = (up + 2) * f.binade by rw [Nat.add_mul], Nat.mul_mod_left]
      refine ⟨_, _, rfl, by omega, ?_⟩
      rw [hq, hr, h2]
      have : (f.leastPlace + ((up + 2 - 1 : Nat) : Int) - f.leastPlace).toNat = up + 1 := by omega
      rw [this, Nat.pow_succ, Nat.add_zero, Nat.mul_comm (2 ^ up) 2, ← Nat.mul_assoc, Nat.mul_comm f.binade 2]
    · have hge : f.binade ≤ kept := by
        rcases hlow with h | h
        · subst h; omega
        · exact h
      have hq : (up * f.binade + kept) / f.binade = up + 1 := by
        rw [Nat.div_eq_iff hb]
        constructor
        · rw [Nat.add_mul]; omega
        · rw [Nat.add_mul]; omega
      have hr : (up * f.binade + kept) % f.binade = kept - f.binade := by
        have := Nat.div_add_mod (up * f.binade + kept) f.binade
        rw [hq, Nat.mul_comm, Nat.add_mul] at this
        omega
      refine ⟨_, _, rfl, by omega, ?_⟩
      rw [hq, hr]
      have : (f.leastPlace + ((up + 1 - 1 : Nat) : Int) - f.leastPlace).toNat = up := by omega
      rw [this, show f.binade + (kept - f.binade) = kept by omega]

/-- The digits that are kept lie in their binade. -/
theorem kept_bounds (f : Format) {mag : Nat} (place : Int) (h : mag ≠ 0) :
    keptOf f mag place ≤ 2 * f.binade ∧ (lastPlace f mag place = f.leastPlace ∨ f.binade ≤ keptOf f mag place) := by
  have hl1 : place + (mag.log2 : Int) - f.fractionBits ≤ lastPlace f mag place := Int.le_max_left _ _
  have hl2 : lastPlace f mag place = place + (mag.log2 : Int) - f.fractionBits ∨ lastPlace f mag place = f.leastPlace := by unfold lastPlace; omega
  have hmag : mag < 2 ^ (mag.log2 + 1) := Nat.lt_log2_self
  have hmag2 := Nat.log2_self_le h
  unfold keptOf
  generalize lastPlace f mag place = last at *
  have hb2 : 2 * f.binade = 2 ^ (f.fractionBits + 1) := by unfold Format.binade; rw [Nat.pow_succ]; omega
  by_cases hc : last ≤ place
  · have h0 : (last - place).toNat = 0 := by omega
    rw [h0, cut_zero, Nat.shiftLeft_eq]
    constructor
    · rw [hb2]
      have : mag * 2 ^ (place - last).toNat < 2 ^ (f.fractionBits + 1) := by
        calc mag * 2 ^ (place - last).toNat < 2 ^ (mag.log2 + 1) * 2 ^ (place - last).toNat := Nat.mul_lt_mul_of_pos_right hmag (Nat.two_pow_pos _)
          _ = 2 ^ (mag.log2 + 1 + (place - last).toNat) := by rw [← Nat.pow_add]
          _ ≤ 2 ^ (f.fractionBits + 1) := Nat.pow_le_pow_right (by decide) (by omega)
      omega
    · rcases hl2 with hl2 | hl2
      · right
        unfold Format.binade
        calc 2 ^ f.fractionBits = 2 ^ (mag.log2 + (place - last).toNat) := by congr 1; omega
          _ = 2 ^ mag.log2 * 2 ^ (place - last).toNat := by rw [Nat.pow_add]
          _ ≤ mag * 2 ^ (place - last).toNat := Nat.mul_le_mul_right _ hmag2
      · exact .inl hl2
  · have h0 : (place - last).toNat = 0 := by omega
    rw [h0, Nat.shiftLeft_zero]
    constructor
    · refine cut_le ?_
      rw [hb2, ← Nat.pow_add]
      exact Nat.le_trans (Nat.le_of_lt hmag) (Nat.pow_le_pow_right (by decide) (by omega))
    · rcases hl2 with hl2 | hl2
      · right
        have hd : (last - place).toNat ≤ mag.log2 + 2 := by omega
        unfold Toward.cut
        dsimp only
        rw [Nat.one_shiftLeft, Nat.min_eq_left hd]
        refine Nat.le_trans ?_ (Nat.le_add_right _ _)
        rw [Nat.le_div_iff_mul_le (Nat.two_pow_pos _)]
        unfold Format.binade
        rw [← Nat.pow_add]
        exact Nat.le_trans (Nat.pow_le_pow_right (by decide) (by omega)) hmag2
      · exact .inl hl2

/-- A number, in units of the least place, is at most 2 ^ k (k counted from there). -/
def magLe (f : Format) (b : Nat) (k : Nat) : Prop :=
  ∃ s m e, f.read b = .number s m e ∧ f.leastPlace ≤ e ∧ m * 2 ^ (e - f.leastPlace).toNat ≤ 2 ^ k

/-- A bound that is a power of two stays. -/
theorem nearest_le (f : Format) (neg : Bool) {mag : Nat} {place : Int} {k : Nat} (hk : f.fractionBits ≤ k) (hinf : k + 3 < f.fractionBits + 2 ^ f.exponentBits) (h : ∀ j : Nat, (j : Int) = f.leastPlace + k - place → mag ≤ 2 ^ j) (h' : mag ≠ 0 → place ≤ f.leastPlace + k) :
    magLe f (f.nearest neg mag place) k ∧ (f.read (f.nearest neg mag place)).neg = neg := by
  by_cases hm : mag = 0
  · subst hm
    have hread := read_rung f neg (up := 0) (kept := 0) (by omega) (.inl rfl) (by
      have hE : 2 ≤ 2 ^ f.exponentBits := by omega
      unfold Format.infRung
      have : 0 < f.binade := Nat.two_pow_pos _
      have := Nat.mul_le_mul_right f.binade (show 1 ≤ 2 ^ f.exponentBits - 1 by omega)
      omega)
    obtain ⟨m, e, h1, h2, h3⟩ := hread
    have : f.nearest neg 0 place = f.word neg (0 * f.binade + 0) := by unfold Format.nearest; simp
    rw [this, h1]
    exact ⟨⟨neg, m, e, h1, h2, by rw [h3]; simp⟩, rfl⟩
  · have hp := h' hm
    obtain ⟨j, hj⟩ : ∃ j : Nat, (j : Int) = f.leastPlace + k - place := ⟨(f.leastPlace + k - place).toNat, by omega⟩
    have hmj := h j hj
    have hlog : mag.log2 ≤ j := by
      have := Nat.log2_self_le hm
      exact (Nat.pow_le_pow_iff_right (by decide : 1 < 2)).1 (Nat.le_trans this hmj)
    have hlast1 : f.leastPlace ≤ lastPlace f mag place := Int.le_max_right _ _
    have hlast2 : lastPlace f mag place ≤ f.leastPlace + k - f.fractionBits := by unfold lastPlace; omega
    obtain ⟨hk1, hk2⟩ := kept_bounds f place hm
    -- what is kept, against the bound
    have hkept : keptOf f mag place ≤ 2 ^ (f.leastPlace + k - lastPlace f mag place).toNat := by
      unfold keptOf
      generalize lastPlace f mag place = last at *
      by_cases hc : last ≤ place
      · have h0 : (last - place).toNat = 0 := by omega
        rw [h0, cut_zero, Nat.shiftLeft_eq]
        calc mag * 2 ^ (place - last).toNat ≤ 2 ^ j * 2 ^ (place - last).toNat := Nat.mul_le_mul_right _ hmj
          _ = 2 ^ (j + (place - last).toNat) := by rw [← Nat.pow_add]
          _ = 2 ^ (f.leastPlace + k - last).toNat := by congr 1; omega
      · have h0 : (place - last).toNat = 0 := by omega
        rw [h0, Nat.shiftLeft_zero]
        refine cut_le ?_
        rw [← Nat.pow_add]
        exact Nat.le_trans hmj (Nat.pow_le_pow_right (by decide) (by omega))
    rw [nearest_eq f neg place hm]
    have hup : (lastPlace f mag place - f.leastPlace).toNat + f.fractionBits ≤ k := by omega
    have hfin : (lastPlace f mag place - f.leastPlace).toNat * f.binade + keptOf f mag place < f.infRung := by
      unfold Format.infRung
      obtain ⟨X, hX⟩ : ∃ X, 2 ^ f.exponentBits = X := ⟨_, rfl⟩
      rw [hX] at hinf ⊢
      calc (lastPlace f mag place - f.leastPlace).toNat * f.binade + keptOf f mag place ≤ (lastPlace f mag place - f.leastPlace).toNat * f.binade + 2 * f.binade := Nat.add_le_add_left hk1 _
        _ = ((lastPlace f mag place - f.leastPlace).toNat + 2) * f.binade := by rw [Nat.add_mul]
        _ < (X - 1) * f.binade := Nat.mul_lt_mul_of_pos_right (by omega) (Nat.two_pow_pos _)
    rw [Nat.min_eq_left (Nat.le_of_lt hfin)]
    have hlow : (lastPlace f mag place - f.leastPlace).toNat = 0 ∨ f.binade ≤ keptOf f mag place := by
      rcases hk2 with h2 | h2
      · left; rw [h2]; simp
      · exact .inr h2
    obtain ⟨m, e, h1, h2, h3⟩ := read_rung f neg hk1 hlow hfin
    rw [h1]
    refine ⟨⟨neg, m, e, h1, h2, ?_⟩, rfl⟩
    rw [h3]
    calc keptOf f mag place * 2 ^ (lastPlace f mag place - f.leastPlace).toNat ≤ 2 ^ (f.leastPlace + k - lastPlace f mag place).toNat * 2 ^ (lastPlace f mag place - f.leastPlace).toNat := Nat.mul_le_mul_right _ hkept
      _ = 2 ^ ((f.leastPlace + k - lastPlace f mag place).toNat + (lastPlace f mag place - f.leastPlace).toNat) := by rw [← Nat.pow_add]
      _ = 2 ^ k := by congr 1; omega

/-- A number that needs no rounding is read as it was written. -/
theorem nearest_exact (f : Format) (neg : Bool) {mag : Nat} {place : Int} (hm : mag ≠ 0) (h : lastPlace f mag place ≤ place) (hfin : place + mag.log2 < 2 ^ (f.exponentBits - 1) - 1) (he : 3 ≤ f.exponentBits) :
    f.read (f.nearest neg mag place) = .number neg (mag * 2 ^ (place - lastPlace f mag place).toNat) (lastPlace f mag place) ∧ ∃ rung, rung < f.infRung ∧ ∀ s, f.nearest s mag place = f.word s rung := by
  obtain ⟨rung0, r1, r2⟩ := nearest_fin f neg mag place he hfin
  have hkept : keptOf f mag place = mag * 2 ^ (place - lastPlace f mag place).toNat := by
    unfold keptOf
    have h0 : (lastPlace f mag place - place).toNat = 0 := by omega
    rw [h0, cut_zero, Nat.shiftLeft_eq]
  have hb : 0 < f.binade := Nat.two_pow_pos _
  have hmin : (lastPlace f mag place - f.leastPlace).toNat * f.binade + keptOf f mag place < f.infRung := by
    have hn := nearest_eq f false place hm
    rw [nearest_eq f neg place hm] at r2
    have h9 : min ((lastPlace f mag place - f.leastPlace).toNat * f.binade + keptOf f mag place) f.infRung = rung0 := by
      unfold Format.word at r2
      cases neg <;> simp at r2 <;> exact r2
    omega
  have hall : ∀ s, f.nearest s mag place = f.word s ((lastPlace f mag place - f.leastPlace).toNat * f.binade + keptOf f mag place) := fun s => by
    rw [nearest_eq f s place hm, Nat.min_eq_left (Nat.le_of_lt hmin)]
  refine ⟨?_, _, hmin, hall⟩
  rw [hall neg]
  obtain ⟨hk1, hk2⟩ := kept_bounds f place hm
  have hlast1 : f.leastPlace ≤ lastPlace f mag place := Int.le_max_right _ _
  have hlow : (lastPlace f mag place - f.leastPlace).toNat = 0 ∨ f.binade ≤ keptOf f mag place := by
    rcases hk2 with h2 | h2
    · left; rw [h2]; simp
    · exact .inr h2
  have hk3 : keptOf f mag place < 2 * f.binade := by
    rw [hkept]
    have hmag : mag < 2 ^ (mag.log2 + 1) := Nat.lt_log2_self
    have hl1 : place + (mag.log2 : Int) - f.fractionBits ≤ lastPlace f mag place := Int.le_max_left _ _
    have hb2 : 2 * f.binade = 2 ^ (f.fractionBits + 1) := by unfold Format.binade; rw [Nat.pow_succ]; omega
    rw [hb2]
    calc mag * 2 ^ (place - lastPlace f mag place).toNat < 2 ^ (mag.log2 + 1) * 2 ^ (place - lastPlace f mag place).toNat := Nat.mul_lt_mul_of_pos_right hmag (Nat.two_pow_pos _)
      _ = 2 ^ (mag.log2 + 1 + (place - lastPlace f mag place).toNat) := by rw [← Nat.pow_add]
      _ ≤ 2 ^ (f.fractionBits + 1) := Nat.pow_le_pow_right (by decide) (by omega)
  -- the reading, in full
  have hlt : (lastPlace f mag place - f.leastPlace).toNat * f.binade + keptOf f mag place < f.signWeight := Nat.lt_trans hmin f.infRung_lt
  have hneg : (f.word neg ((lastPlace f mag place - f.leastPlace).toNat * f.binade + keptOf f mag place) / f.signWeight % 2 == 1) = neg := by
    have hw : 0 < f.signWeight := Nat.two_pow_pos _
    unfold Format.word
    cases neg
    · simp [Nat.div_eq_of_lt hlt]
    · simp [Nat.add_div_left _ hw, Nat.div_eq_of_lt hlt]
  rw [← hkept]
  unfold Format.read
  simp only [read_word_rung f neg _ hlt, hneg]
  generalize hup : (lastPlace f mag place - f.leastPlace).toNat = up at *
  generalize keptOf f mag place = kept at *
  by_cases h1 : up * f.binade + kept < f.binade
  · rw [if_pos h1]
    have hup0 : up = 0 := by
      rcases hlow with h | h
      · exact h
      · omega
    subst hup0
    congr 1
    · omega
    · omega
  · rw [if_neg h1, if_pos hmin]
    have hge : f.binade ≤ kept := by
      rcases hlow with h | h
      · rw [h] at h1; omega
      · exact h
    have hq : (up * f.binade + kept) / f.binade = up + 1 := by
      rw [Nat.div_eq_iff hb]
      constructor
      · rw [Nat.add_mul]; omega
      · rw [Nat.add_mul]; omega
    have hr : (up * f.binade + kept) % f.binade = kept - f.binade := by
      have := Nat.div_add_mod (up * f.binade + kept) f.binade
      rw [hq, Nat.mul_comm, Nat.add_mul] at this
      omega
    rw [hq, hr]
    congr 1
    · omega
    · omega

end Go.Sx

/-   The size of a number and the root of a number, by way of the wider kind. Conditions: none. -/
namespace Go.Sx
open Ieee

theorem single_facts : single.signWeight = 2147483648 ∧ single.binade = 8388608 ∧ single.infRung = 2139095040 ∧ single.leastPlace = -149 ∧ single.fractionBits = 23 := by decide
theorem double_facts : double.signWeight = 9223372036854775808 ∧ double.binade = 4503599627370496 ∧ double.infRung = 9218868437227405312 ∧ double.leastPlace = -1074 ∧ double.fractionBits = 52 ∧ double.exponentBits = 11 := by decide

theorem dec32 {b : Nat} {s : Bool} {m : Nat} {e : Int} (h : single.read b = .number s m e) : ∃ r, b % 2147483648 = r ∧ r < 2139095040 ∧
    ((r < 8388608 ∧ m = r ∧ e = -149) ∨ (8388608 ≤ r ∧ m = 8388608 + r % 8388608 ∧ e = -149 + ((r / 8388608 - 1 : Nat) : Int))) := by
  obtain ⟨s1, s2, s3, s4, _⟩ := single_facts
  unfold Format.read at h
  simp only [s1, s2, s3, s4] at h
  refine ⟨_, rfl, ?_⟩
  obtain ⟨r, hr⟩ : ∃ r, b % 2147483648 = r := ⟨_, rfl⟩
  rw [hr] at h ⊢
  split at h
  · rename_i h1
    simp only [Datum.number.injEq] at h
    obtain ⟨_, rfl, rfl⟩ := h
    exact ⟨by omega, .inl ⟨h1, rfl, rfl⟩⟩
  · split at h
    · rename_i h1 h2
      simp only [Datum.number.injEq] at h
      obtain ⟨_, rfl, rfl⟩ := h
      exact ⟨h2, .inr ⟨by omega, rfl, rfl⟩⟩
    · split at h <;> cases h

theorem log2_lt {n k : Nat} (h : n < 2 ^ (k + 1)) : n.log2 ≤ k := by
  by_cases h0 : n = 0
  · subst h0; simp
  · have := (Nat.log2_lt h0).2 h; omega

theorem log2_ge {n k : Nat} (h : 2 ^ k ≤ n) : k ≤ n.log2 := by
  have h0 : n ≠ 0 := by have := Nat.two_pow_pos k; omega
  exact (Nat.le_log2 h0).2 h

/-- A number of 32 bits, written with more digits, is written back as it was. -/
theorem write32 {b : Nat} {s : Bool} {m : Nat} {e : Int} (h : single.read b = .number s m e) (t : Bool) (k : Nat) : single.nearest t (m * 2 ^ k) (e - k) = single.word t (b % 2147483648) := by
  obtain ⟨r, hr, hlt, hc⟩ := dec32 h
  obtain ⟨s1, s2, s3, s4, s5⟩ := single_facts
  rw [hr]
  by_cases hm : m = 0
  · subst hm
    have : r = 0 := by omega
    subst this
    unfold Format.nearest
    simp
  · have hm2 : m * 2 ^ k ≠ 0 := Nat.mul_ne_zero hm (by have := Nat.two_pow_pos k; omega)
    have hlast : lastPlace single (m * 2 ^ k) (e - k) = e := by
      unfold lastPlace
      rw [log2_shift hm, s4, s5]
      rcases hc with ⟨h1, rfl, rfl⟩ | ⟨h1, rfl, rfl⟩
      · have := log2_lt (n := m) (k := 22) (by omega)
        omega
      · have h2 := Nat.mod_lt r (by decide : 8388608 > 0)
        have l1 := log2_lt (n := 8388608 + r % 8388608) (k := 23) (by omega)
        have l2 := log2_ge (n := 8388608 + r % 8388608) (k := 23) (by omega)
        omega
    rw [nearest_eq single t _ hm2, hlast]
    have hk : keptOf single (m * 2 ^ k) (e - k) = m := by
      unfold keptOf
      rw [hlast]
      have h0 : (e - k - e).toNat = 0 := by omega
      have h1 : (e - (e - k)).toNat = k := by omega
      rw [h0, h1, Nat.shiftLeft_zero, cut_mul hm]
    rw [hk, s2, s3, s4]
    congr 1
    rcases hc with ⟨h1, rfl, rfl⟩ | ⟨h1, rfl, rfl⟩
    · have t : ((-149 : Int) - -149).toNat = 0 := by decide
      rw [t, Nat.zero_mul, Nat.zero_add]
      exact Nat.min_eq_left (Nat.le_of_lt hlt)
    · have hdm := Nat.div_add_mod r 8388608
      have hq : 1 ≤ r / 8388608 := (Nat.one_le_div_iff (by decide)).2 h1
      generalize r / 8388608 = q at *
      generalize r % 8388608 = rem at *
      have t : ((-149 : Int) + ((q - 1 : Nat) : Int) - -149).toNat = q - 1 := by omega
      rw [t]
      have t2 : (q - 1) * 8388608 + (8388608 + rem) = r := by omega
      rw [t2]
      exact Nat.min_eq_left (Nat.le_of_lt hlt)

/-- Widening a number. -/
theorem wide_num {b : Nat} {s : Bool} {m : Nat} {e : Int} (h : single.read b = .number s m e) :
    ∃ k : Nat, double.read (double.nearest s m e) = .number s (m * 2 ^ k) (e - k) ∧ (∀ t, double.nearest t m e % 9223372036854775808 = double.nearest false m e) ∧ e + m.log2 ≤ 127 ∧ -1074 ≤ e - k := by
  obtain ⟨r, hr, hlt, hc⟩ := dec32 h
  obtain ⟨s1, s2, s3, s4, s5, s6⟩ := double_facts
  have hb : -149 ≤ e ∧ e + m.log2 ≤ 127 := by
    rcases hc with ⟨h1, rfl, rfl⟩ | ⟨h1, rfl, rfl⟩
    · have := log2_lt (n := m) (k := 22) (by omega)
      omega
    · have h2 := Nat.mod_lt r (by decide : 8388608 > 0)
      have l1 := log2_lt (n := 8388608 + r % 8388608) (k := 23) (by omega)
      omega
  have hm23 : m.log2 ≤ 23 := by
    rcases hc with ⟨h1, rfl, rfl⟩ | ⟨h1, rfl, rfl⟩
    · exact Nat.le_trans (log2_lt (n := m) (k := 22) (by omega)) (by decide)
    · have h2 := Nat.mod_lt r (by decide : 8388608 > 0)
      exact log2_lt (n := 8388608 + r % 8388608) (k := 23) (by omega)
  by_cases hm : m = 0
  · subst hm
    have h0 : ∀ t, double.nearest t 0 e = double.word t 0 := fun t => by unfold Format.nearest; simp
    refine ⟨(e + 1074).toNat, ?_, fun t => ?_, hb.2, by omega⟩
    · rw [h0]
      have hneg : (double.word s 0 / double.signWeight % 2 == 1) = s := by cases s <;> decide
      unfold Format.read
      simp only [read_word_rung double s 0 (by decide), hneg]
      rw [if_pos (by decide), Nat.zero_mul, s4]
      congr 1
      omega
    · rw [h0, h0]
      exact read_word_rung double t 0 (by decide)
  · have hl : lastPlace double m e ≤ e := by unfold lastPlace; rw [s4, s5]; omega
    have hl2 : -1074 ≤ lastPlace double m e := by unfold lastPlace; rw [s4]; omega
    obtain ⟨q1, rung, q2, q3⟩ := nearest_exact double s hm hl (by rw [s6]; show _ < (2 : Int) ^ 10 - 1; omega) (by rw [s6]; decide)
    refine ⟨(e - lastPlace double m e).toNat, ?_, fun t => ?_, hb.2, by omega⟩
    · rw [q1]
      congr 1
      omega
    · rw [q3, q3]
      exact read_word_rung double t rung (Nat.lt_trans q2 double.infRung_lt)

theorem fits_of_le {b k : Nat} (h : magLe double b k) (hk : k ≤ 1200) : fitsC (canon .f64 b) = true := by
  obtain ⟨s, m, e, h1, h2, h3⟩ := h
  have hd : FloatKind.f64.decode b = .number s m e := h1
  have hc : canon .f64 b = some b := canon_num (show (double.read b).isNaN = false by rw [h1]; rfl)
  rw [hc]
  unfold fitsC
  simp only [hd]
  rw [Bool.not_eq_true']
  show (single.read (single.nearest s m e)).isInfinity = false
  by_cases hm : m = 0
  · subst hm
    have : single.nearest s 0 e = single.word s 0 := by unfold Format.nearest; simp
    rw [this]; exact read_word_notInf single s 0 (by decide)
  · have s4 : double.leastPlace = -1074 := by decide
    rw [s4] at h2 h3
    have hlog : m.log2 + (e - -1074).toNat ≤ k := by
      have h4 := Nat.log2_self_le hm
      have h5 : 2 ^ (m.log2 + (e - -1074).toNat) ≤ 2 ^ k := by
        rw [Nat.pow_add]
        exact Nat.le_trans (Nat.mul_le_mul_right _ h4) h3
      exact (Nat.pow_le_pow_iff_right (by decide : 1 < 2)).1 h5
    obtain ⟨rung, r1, r2⟩ := nearest_fin single s m e (by decide) (by show _ < (2 : Int) ^ 7 - 1; omega)
    rw [r2]; exact read_word_notInf single s rung r1

theorem cwide_num {b : Nat} {s : Bool} {m : Nat} {e : Int} (h : single.read b = .number s m e) : cwide (some b) = some (double.nearest s m e) := by
  have hd : FloatKind.f32.decode b = .number s m e := h
  have hi := wide_notInf hd
  simp only [cwide, Option.bind_some, floatToFloatBits, hd, hi]
  rfl

theorem cwide_inf {b : Nat} {s : Bool} (h : single.read b = .infinity s) : cwide (some b) = some (double.word s double.infRung) := by
  have hd : FloatKind.f32.decode b = .infinity s := h
  simp only [cwide, Option.bind_some, floatToFloatBits, hd]
  rfl

theorem read_inf (f : Format) (s : Bool) (hf : f.binade ≤ f.infRung) : f.read (f.word s f.infRung) = .infinity s := by
  have hneg : (f.word s f.infRung / f.signWeight % 2 == 1) = s := by
    have hw : 0 < f.signWeight := Nat.two_pow_pos _
    have hlt := f.infRung_lt
    unfold Format.word
    cases s
    · simp [Nat.div_eq_of_lt hlt]
    · simp [Nat.add_div_left _ hw, Nat.div_eq_of_lt hlt]
  unfold Format.read
  simp only [read_word_rung f s _ f.infRung_lt, hneg]
  rw [if_neg (by omega), if_neg (by omega)]
  simp

theorem inf_rung32 {b : Nat} {s : Bool} (h : single.read b = .infinity s) : b % 2147483648 = single.infRung := by
  obtain ⟨s1, s2, s3, s4, _⟩ := single_facts
  unfold Format.read at h
  simp only [s1] at h
  split at h
  · cases h
  · split at h
    · cases h
    · split at h
      · rename_i h1; exact h1
      · cases h

/-- The size of a number, by way of the wider kind. -/
theorem size_fact (x : Nat) : fitsC (cabs .f64 (cwide (canon .f32 x))) = true ∧ cnarrow (cabs .f64 (cwide (canon .f32 x))) = cabs .f32 (canon .f32 x) := by
  cases hd : single.read x with
  | nan s t =>
    have : canon .f32 x = none := canon_nan (show (single.read x).isNaN = true by rw [hd]; rfl)
    rw [this]; exact ⟨rfl, rfl⟩
  | infinity s =>
    have hc : canon .f32 x = some x := canon_num (show (single.read x).isNaN = false by rw [hd]; rfl)
    rw [hc, cwide_inf hd]
    have e1 : cabs .f64 (some (double.word s double.infRung)) = some (double.word false double.infRung) := by
      show some (_ % double.signWeight) = _
      rw [read_word_rung double s _ double.infRung_lt]; rfl
    rw [e1]
    have hr : FloatKind.f64.decode (double.word false double.infRung) = .infinity false := read_inf double false (by decide)
    refine ⟨by simp only [fitsC, hr], ?_⟩
    simp only [cnarrow, Option.bind_some, floatToFloatBits, hr]
    show some (single.word false single.infRung) = some (x % 2147483648)
    rw [inf_rung32 hd]; rfl
  | number s m e =>
    have hc : canon .f32 x = some x := canon_num (show (single.read x).isNaN = false by rw [hd]; rfl)
    rw [hc, cwide_num hd]
    obtain ⟨k, h1, h2, h3, h4⟩ := wide_num hd
    have e1 : cabs .f64 (some (double.nearest s m e)) = some (double.nearest false m e) := by
      show some (_ % double.signWeight) = _
      rw [double_facts.1, h2]
    rw [e1]
    have hpos : FloatKind.f64.decode (double.nearest false m e) = .number false (m * 2 ^ k) (e - k) := by
      show double.read _ = _
      have h5 := h2 s
      -- the sign struck, the number reads the same
      have h6 : double.read (double.nearest false m e) = match double.read (double.nearest s m e) with
          | .number _ a p => .number false a p
          | .infinity _ => .infinity false
          | .nan _ a => .nan false a := by
        have hq := h2 s
        have hq0 := h2 false
        have hlt0 : double.nearest false m e < 9223372036854775808 := by rw [← hq0]; exact Nat.mod_lt _ (by decide)
        unfold Format.read
        simp only [double_facts.1, hq, hq0]
        have hs0 : (double.nearest false m e / 9223372036854775808 % 2 == 1) = false := by rw [Nat.div_eq_of_lt hlt0]; rfl
        simp only [hs0]
        split
        · rfl
        · split
          · rfl
          · split <;> rfl
      rw [h6, h1]
    have hw := write32 hd false k
    have hnotinf : (single.read (single.word false (x % 2147483648))).isInfinity = false := by
      obtain ⟨r, hr, hlt, _⟩ := dec32 hd
      rw [hr]; exact read_word_notInf single false r (by rw [single_facts.2.2.1]; exact hlt)
    have hni : (FloatKind.f32.decode (FloatKind.f32.encode (.number false (m * 2 ^ k) (e - k)))).isInfinity = false := by
      show (single.read (single.nearest false (m * 2 ^ k) (e - k))).isInfinity = false
      rw [hw]; exact hnotinf
    refine ⟨by simp only [fitsC, hpos, hni]; rfl, ?_⟩
    simp only [cnarrow, Option.bind_some, floatToFloatBits, hpos, hni]
    show some (single.nearest false (m * 2 ^ k) (e - k)) = some (x % 2147483648)
    rw [hw]
    rfl

theorem rootFrom_lt (n : Nat) : ∀ (todo root : Nat), Datum.rootFrom n todo root < root + 2 ^ todo
  | 0, root => by simp [Datum.rootFrom]
  | todo + 1, root => by
    simp only [Datum.rootFrom]
    have hp : 2 ^ (todo + 1) = 2 ^ todo + 2 ^ todo := by rw [Nat.pow_succ]; omega
    rw [hp]
    split
    · have h1 := rootFrom_lt n todo (root + 1 <<< todo)
      rw [Nat.one_shiftLeft] at h1 ⊢
      exact Nat.lt_of_lt_of_le h1 (by rw [Nat.add_assoc]; exact Nat.le_refl _)
    · exact Nat.lt_of_lt_of_le (rootFrom_lt n todo root) (by rw [← Nat.add_assoc]; exact Nat.le_add_right _ _)

/-- The root of a number, by way of the wider kind, fits. -/
theorem root_fact (x : Nat) : fitsC (csqrt (cwide (canon .f32 x))) = true := by
  cases hd : single.read x with
  | nan s t =>
    have : canon .f32 x = none := canon_nan (show (single.read x).isNaN = true by rw [hd]; rfl)
    rw [this]; rfl
  | infinity s =>
    have hc : canon .f32 x = some x := canon_num (show (single.read x).isNaN = false by rw [hd]; rfl)
    rw [hc, cwide_inf hd]
    have hr : double.read (double.word s double.infRung) = .infinity s := read_inf double s (by decide)
    have e : csqrt (some (double.word s double.infRung)) = ((Datum.infinity s).root 54).map double.write := by
      show (Option.map double.write ((double.read _).root _)) = _
      rw [hr]; rfl
    rw [e]
    cases s
    · have hr2 : FloatKind.f64.decode (double.word false double.infRung) = .infinity false := read_inf double false (by decide)
      show fitsC (some (double.word false double.infRung)) = true
      simp only [fitsC, hr2]
    · rfl
  | number s m e =>
    have hc : canon .f32 x = some x := canon_num (show (single.read x).isNaN = false by rw [hd]; rfl)
    rw [hc, cwide_num hd]
    obtain ⟨k, h1, _, h3, h4⟩ := wide_num hd
    have eq : csqrt (some (double.nearest s m e)) = ((Datum.number s (m * 2 ^ k) (e - k)).root 54).map double.write := by
      show (Option.map double.write ((double.read _).root _)) = _
      rw [h1]; rfl
    rw [eq]
    obtain ⟨s1, s2, s3, s4, s5, s6⟩ := double_facts
    have fin : ∀ (t : Bool) (M : Nat) (p : Int), (∀ j : Nat, (j : Int) = 126 - p → M ≤ 2 ^ j) → (M ≠ 0 → p ≤ 126) → fitsC (some (double.nearest t M p)) = true := by
      intro t M p hM hp
      have hle := (nearest_le double t (mag := M) (place := p) (k := 1200) (by rw [s5]; decide) (by rw [s5, s6]; decide) (fun j hj => hM j (by rw [s4] at hj; omega)) (fun h => by rw [s4]; have := hp h; omega)).1
      have hnn : canon .f64 (double.nearest t M p) = some (double.nearest t M p) := canon_num (write_notNaN double (.number t M p) rfl)
      rw [← hnn]
      exact fits_of_le hle (by decide)
    simp only [Datum.root]
    by_cases hm : m * 2 ^ k = 0
    · rw [if_pos hm]
      show fitsC (some (double.nearest s (m * 2 ^ k) (e - k))) = true
      exact fin s _ _ (fun j _ => by rw [hm]; exact Nat.zero_le _) (fun h => absurd hm h)
    · rw [if_neg hm]
      cases s
      · simp only [Bool.false_eq_true, if_false]
        have hm0 : m ≠ 0 := fun h => hm (by rw [h]; simp)
        have hlog := log2_shift hm0 k
        generalize hM2 : m * 2 ^ k = m2 at *
        have hval : (e - (k : Int)) + m2.log2 ≤ 127 := by omega
        generalize e - (k : Int) = e2 at *
        generalize hmore : 2 * 54 - m2.log2 + ((e2 - ((2 * 54 - m2.log2 : Nat) : Int)) % 2).toNat = more at *
        have hlog2 : (m2 <<< more).log2 = m2.log2 + more := by rw [Nat.shiftLeft_eq, log2_shift hm]
        have hwh := rootFrom_lt (m2 <<< more) ((m2 <<< more).log2 / 2 + 1) 0
        rw [hlog2] at hwh ⊢
        generalize Datum.rootFrom (m2 <<< more) ((m2.log2 + more) / 2 + 1) 0 = whole at *
        refine fin false _ _ (fun j hj => ?_) (fun _ => by omega)
        have hbit : (whole * whole != m2 <<< more).toNat ≤ 1 := by cases (whole * whole != m2 <<< more) <;> decide
        have hlt : 2 * whole + (whole * whole != m2 <<< more).toNat < 2 ^ ((m2.log2 + more) / 2 + 2) := by
          rw [Nat.pow_succ]; omega
        refine Nat.le_trans (Nat.le_of_lt hlt) (Nat.pow_le_pow_right (by decide) ?_)
        omega
      · rfl

end Go.Sx

/-   The functions 'size' and 'root' as the run on symbols knows them. Conditions: none. -/
namespace Go.Sx
open Go.RowKit

section
variable {P : Program} {E : Env}

def isFlt (k : FloatKind) (t : T) : V → Facts → Bool
  | .sc (.flt k1 u), _ => Nat.beq (fk k1) (fk k) && T.beq u t
  | _, _ => false
theorem isFlt_spec {k : FloatKind} {t : T} {sv : V} {fs : Facts} (h : isFlt k t sv fs = true) : sv = .sc (.flt k t) := by
  unfold isFlt at h
  split at h
  · simp only [Bool.and_eq_true] at h; rw [fk_inj h.1, T.beq_eq h.2]
  · cases h

/-- A function of one float that gives one float. -/
def un32K (mk : T → T) : List V → Option Known
  | [.sc (.flt .f32 t)] => some (.val (.sc (.flt .f32 (mk t))))
  | _ => none

theorem un32K_ok (hm : P.follows .mixedOrders = true) (hN : ∀ (f : FuncId) (fn : Func), P.funcs[f]? = some fn → (fn.name == "runtime.NumGoroutine") = false)
    {S : FuncId → List V → Option Known} (hS : ∀ E' : Env, E'.f1 = E.f1 → E'.f2 = E.f2 → SumOK E' P S) {n : Nat} {f : FuncId} {fs : Facts} {t0 : T} {mk : T → T}
    (h : runA P S n f [.sc (.flt .f32 (.arg 0))] fs (isFlt .f32 t0) = true)
    (hfs : ∀ (b : Nat) (E' : Env), E'.f1 = E.f1 → E'.f2 = E.f2 → E'.arg 0 = canon .f32 b → FactsOK E' fs)
    (hval : ∀ (b : Nat) (E' : Env) (t : T), E'.f1 = E.f1 → E'.f2 = E.f2 → E'.arg 0 = canon .f32 b → den E t = canon .f32 b → den E' t0 = den E (mk t))
    {args : List V} {kn : Known} (hs : un32K mk args = some kn) {β : Beta} {vals : List Value} {W : World} (hv : VsRel E β args vals) :
    CallRuns P f vals.toArray W fun v W' => Gr W W' ∧ KnownRel E β kn v := by
  unfold un32K at hs
  split at hs
  · rename_i t
    cases hs
    obtain ⟨v, rfl, b, rfl, hb⟩ := one_arg hv
    obtain ⟨fn, c, hfn, hbody⟩ := runA_body h
    let E' : Env := { arg := fun _ => den E t, f1 := E.f1, f2 := E.f2 }
    obtain ⟨sv, fs', h1, _, h3⟩ := runA_sound (E := E') hm hN (hS E' rfl rfl) h (hfs b E' rfl rfl hb.symm)
    have := isFlt_spec h1
    subst this
    refine callRuns_of_calls hN hfn hbody ((h3 [.float .f32 b] W ?_ trivial).mono fun e W' ⟨v, he, hr, hg⟩ => ⟨v, he, hg, ?_⟩)
    · refine ⟨rfl, fun i s v hs hvv => ?_⟩
      match i, hs with
      | 0, hs => simp at hs hvv; subst hs; subst hvv; exact ⟨b, rfl, hb⟩
    · obtain ⟨r, rfl, hr⟩ := hr
      exact ⟨r, rfl, by rw [hr]; exact hval b E' t rfl rfl hb.symm hb.symm⟩
  · cases hs

/-- 'size': the fact that it leans on, the term that it gives. -/
def sizeFs : Facts := [(.fits (.abs .f64 (.wide (.arg 0))), true)]
def sizeT : T := .narrow (.abs .f64 (.wide (.arg 0)))
theorem sizeFs_ok (b : Nat) (E' : Env) (h : E'.arg 0 = canon .f32 b) : FactsOK E' sizeFs := by
  intro p hp
  simp only [sizeFs, List.mem_singleton] at hp
  subst hp
  show fitsC (cabs .f64 (cwide (E'.arg 0))) = true
  rw [h]; exact (size_fact b).1
theorem sizeT_val (b : Nat) (E E' : Env) (t : T) (h : E'.arg 0 = canon .f32 b) (ht : den E t = canon .f32 b) : den E' sizeT = den E (.abs .f32 t) := by
  show cnarrow (cabs .f64 (cwide (E'.arg 0))) = cabs .f32 (den E t)
  rw [h, ht]; exact (size_fact b).2

/-- 'root'. -/
def rootMk (t : T) : T := .narrow (.f1 2 (.wide t))
def rootFs : Facts := [(.fits (.f1 2 (.wide (.arg 0))), true)]
theorem rootFs_ok (b : Nat) (E' : Env) (h1 : E'.f1 = stdF1) (h : E'.arg 0 = canon .f32 b) : FactsOK E' rootFs := by
  intro p hp
  simp only [rootFs, List.mem_singleton] at hp
  subst hp
  show fitsC (E'.f1 2 (cwide (E'.arg 0))) = true
  rw [h1, h]; exact root_fact b
theorem rootT_val (b : Nat) (E E' : Env) (t : T) (h1 : E'.f1 = E.f1) (h : E'.arg 0 = canon .f32 b) (ht : den E t = canon .f32 b) : den E' (rootMk (.arg 0)) = den E (rootMk t) := by
  show cnarrow (E'.f1 2 (cwide (E'.arg 0))) = cnarrow (E.f1 2 (cwide (den E t)))
  rw [h1, h, ht]

end
end Go.Sx
