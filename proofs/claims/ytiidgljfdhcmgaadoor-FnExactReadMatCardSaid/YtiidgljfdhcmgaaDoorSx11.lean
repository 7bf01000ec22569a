/-
  The frame of a law's proof, and the functions known beforehand. Conditions: none.
-/
import Derived.Test.YtiidgljfdhcmgaaDoorSx10
namespace Go.Sx
open Go.RowKit Go.ChangeShapes Go.WideShapes Go.ChangeAt

section
variable {P : Program}

theorem trodAll_plain {H : Type} {enc : TypeId × Value → H} {W : World} {b : Nat} {sp : Nat → Bool} {hd : Bool} : ∀ {ts : List TypeId} {vs : List Value} {ds : List (DataW H)} {ps : List MemPlace},
    ts.all (plainT P 3) = true → DataW.TrodAll enc P W b sp hd ts vs ds ps →
    ps = [] ∧ ts.length = vs.length ∧ ds.length = ts.length ∧ (∀ (W' : World) (b' : Nat) (sp' : Nat → Bool) (hd' : Bool), DataW.TrodAll enc P W' b' sp' hd' ts vs ds []) ∧
      ∀ (j : Nat) (t : TypeId) (v : Value), ts[j]? = some t → vs[j]? = some v → (∀ c ∈ v.cells.toList, fltCell c) ∧ v.cells.size = P.cellsOf t
  | [], vs, ds, ps, _, h => by
    obtain ⟨rfl, rfl, rfl⟩ := trodAll_nil h
    exact ⟨rfl, rfl, rfl, fun _ _ _ _ => rfl, fun j t v ht => by simp at ht⟩
  | t :: ts, vs, ds, ps, hp, h => by
    obtain ⟨v, vs', d, ds', p, q, rfl, rfl, rfl, h1, h2⟩ := trodAll_cons h
    simp only [List.all_cons, Bool.and_eq_true] at hp
    obtain ⟨rfl, k1, k2, k3, k4⟩ := trodAll_plain hp.2 h2
    obtain ⟨fuel, hf⟩ := h1
    have hpt := plain_trod (enc := enc) 3 t hp.1 fuel W W b b sp sp hd hd v.cells.toList
    obtain ⟨e1, e2, e3⟩ := hpt.2 _ hf
    dsimp only at e1
    subst e1
    refine ⟨rfl, by simp [k1], by simp [k2], fun W' b' sp' hd' => ⟨[], [], ⟨fuel, ?_⟩, k3 W' b' sp' hd', rfl⟩, fun j t' v' ht hv => ?_⟩
    · rw [← (plain_trod (enc := enc) 3 t hp.1 fuel W W' b b' sp sp' hd hd' v.cells.toList).1]; exact hf
    · cases j with
      | zero => simp at ht hv; subst ht; subst hv; exact ⟨e3, by simpa using e2⟩
      | succ j => exact k4 j t' v' (by simpa using ht) (by simpa using hv)

/-- The walk of a law: whatever floats the arguments hold, the call returns true. -/
def LawRuns (P : Program) (f : FuncId) (ts : List TypeId) : Prop :=
  ∀ (vals : List Value) (W : World), (∀ f1 f2, VsRel (envOf vals f1 f2) (fun _ => none) (argsV P 0 ts) vals) →
    Calls P f vals.toArray W fun e W' => e = .returned (.bool true) ∧ Grown W W'

theorem law_step {H : Type} {enc : TypeId × Value → H} {fn : Func} {s : ChangeSpec} {f : FuncId} {W : World} {args : Array Value} {ds gs : List (DataW H)} {before : List MemPlace} {base : Nat} {tb : TypeId}
    (hpl : fn.params.toList.all (plainT P 3) = true) (hrt : fn.resultTypes = #[tb]) (htb : P.underlying tb = some .bool) (hvars : s.vars = [])
    (hspec : ∀ ds : List (DataW H), ds.length = fn.params.size → s.fn H (ds ++ []) = { results := [.lit (.bool true)], args := ds })
    (hrun : LawRuns P f fn.params.toList)
    (hval : ∀ (j : Nat) t v, fn.params[j]? = some t → args[j]? = some v → Value.okWide P W .any base t v)
    (hW : DataW.Whole enc P fn.params.toList s.vars false W args.toList ds gs before) :
    Calls P f args W fun e W' => ∃ v, e = .returned v ∧ s.post enc P fn false true false false W args v W' := by
  have hW' := hW
  obtain ⟨p, q, hA, hV, rfl, hfz, hnd⟩ := hW
  rw [hvars] at hV
  obtain ⟨rfl, rfl⟩ := trodVars_none hV
  obtain ⟨rfl, k1, k2, k3, k4⟩ := trodAll_plain hpl hA
  have hrel : ∀ f1 f2, VsRel (envOf args.toList f1 f2) (fun _ => none) (argsV P 0 fn.params.toList) args.toList := fun f1 f2 => by
    refine argsV_rel (floatsOf args.toList) (fun i => rfl) _ _ 0 k1 (fun j t v ht hv => ?_) (fun j _ => by simp)
    obtain ⟨c1, c2⟩ := k4 j t v ht hv
    have hp := List.all_eq_true.1 hpl t (List.mem_of_getElem? ht)
    have hok := hval j t v (by simpa using ht) (by simpa using hv)
    refine ⟨hp, c1, c2, fun ⟨n, e, hu⟩ => ?_, fun hu => okWide_float hu hok⟩
    unfold Value.okWide at hok
    rw [hu] at hok
    obtain ⟨cs, e, _⟩ := hok
    exact ⟨cs, e⟩
  have hc := hrun args.toList W hrel
  simp only [Array.toArray_toList] at hc
  refine hc.mono fun e W' ⟨he, hg⟩ => ?_
  subst he
  have e1 := hspec ds (by simpa using k2)
  refine ⟨_, rfl, post_of_same (pa := []) (pv := []) hW' (fun b sp hd => ?_) (fun sp _ => ?_) (fun _ _ => ?_) rfl (hg.frame _) hg.2.1 (ok_one hrt rfl (okWide_bool_mk htb _))⟩
  · rw [e1, hrt]; exact trodAll_cons_mk (shut_bool htb _) trodAll_mk0
  · rw [e1]; exact k3 W' 0 sp true
  · rw [e1, hvars]; rfl

/-- Is it true, whatever is known? -/
def isTrue : V → Facts → Bool
  | .sc (.bool true), _ => true
  | _, _ => false

theorem isTrue_spec {sv : V} {fs : Facts} (h : isTrue sv fs = true) : sv = .sc (.bool true) := by
  unfold isTrue at h; split at h <;> first | rfl | cases h

/-- From the run on symbols. -/
theorem law_runs (hm : P.follows .mixedOrders = true) (hN : ∀ (f : FuncId) (fn : Func), P.funcs[f]? = some fn → (fn.name == "runtime.NumGoroutine") = false)
    {S : FuncId → List V → Option Known} {n : Nat} {f : FuncId} {ts : List TypeId} (f1 : Nat → CF → CF) (f2 : Nat → CF → CF → CF)
    (hS : ∀ E : Env, E.f1 = f1 → E.f2 = f2 → SumOK E P S) (h : runA P S n f (argsV P 0 ts) [] isTrue = true) : LawRuns P f ts := by
  intro vals W hv
  obtain ⟨sv, fs', h1, _, h3⟩ := runA_sound (E := envOf vals f1 f2) hm hN (hS _ rfl rfl) h (fun p hp => by cases hp)
  have := isTrue_spec h1
  subst this
  exact (h3 vals W (hv f1 f2)).mono fun e W' ⟨v, he, hr, hg⟩ => ⟨by rw [he]; exact congrArg Ending.returned hr, hg⟩

theorem names_ok (h : (P.funcs.all fun fn => !(fn.name == "runtime.NumGoroutine")) = true) (f : FuncId) (fn : Func) (hf : P.funcs[f]? = some fn) : (fn.name == "runtime.NumGoroutine") = false := by
  have := Array.all_eq_true_iff_forall_mem.1 h fn (Array.mem_of_getElem? hf)
  simpa using this

/-! ### Terms up to the order of factors and of summands -/
theorem sum_comm (d e : Ieee.Datum) : d.sum e = e.sum d := by
  cases d <;> cases e <;> simp only [Ieee.Datum.sum]
  · rename_i s m i t n j
    rw [Int.min_comm, Int.add_comm, Bool.and_comm]
  · rename_i s t
    by_cases h : s = t
    · subst h; rfl
    · rw [if_neg h, if_neg (Ne.symm h)]

theorem product_comm (d e : Ieee.Datum) : d.product e = e.product d := by
  cases d <;> cases e <;> simp only [Ieee.Datum.product]
  · rw [Bool.xor_comm, Nat.mul_comm, Int.add_comm]
  · rw [Bool.xor_comm]

theorem cbin_comm {op : BinOp} (h : op = .add ∨ op = .mul) (k : FloatKind) (x y : CF) : cbin op k x y = cbin op k y x := by
  cases x <;> cases y <;> first | rfl | skip
  rename_i a b
  show floatBits op k a b = floatBits op k b a
  rcases h with rfl | rfl
  · show Ieee.Format.add _ a b = Ieee.Format.add _ b a
    unfold Ieee.Format.add; rw [sum_comm]
  · show Ieee.Format.mul _ a b = Ieee.Format.mul _ b a
    unfold Ieee.Format.mul; rw [product_comm]

def isComm (c : Nat) : Bool :=
  match opOf (c % 4) with
  | .add | .mul => true
  | _ => false

/-- The same term, up to the order of factors and of summands. -/
def T.beqC : T → T → Bool
  | .bin c x y, .bin c' x' y' => Nat.beq c c' && ((T.beqC x x' && T.beqC y y') || (isComm c && T.beqC x y' && T.beqC y x'))
  | .neg k x, .neg k' x' => Nat.beq (fk k) (fk k') && T.beqC x x'
  | .wide x, .wide x' => T.beqC x x'
  | .narrow x, .narrow x' => T.beqC x x'
  | .f1 g x, .f1 g' x' => Nat.beq g g' && T.beqC x x'
  | .f2 g x y, .f2 g' x' y' => Nat.beq g g' && T.beqC x x' && T.beqC y y'
  | .abs k x, .abs k' x' => Nat.beq (fk k) (fk k') && T.beqC x x'
  | x, y => T.beq x y

theorem T.beqC_den (E : Env) : ∀ {x y : T}, T.beqC x y = true → den E x = den E y := by
  intro x
  induction x with
  | bin c x y ihx ihy =>
    intro z h
    cases z with
    | bin c' x' y' =>
      simp only [T.beqC, Bool.and_eq_true, Bool.or_eq_true] at h
      obtain ⟨h1, h⟩ := h
      have e := Nat.eq_of_beq_eq_true h1
      subst e
      rcases h with ⟨h2, h3⟩ | ⟨⟨h0, h2⟩, h3⟩
      · show cbin _ _ _ _ = cbin _ _ _ _
        rw [ihx h2, ihy h3]
      · show cbin _ _ _ _ = cbin _ _ _ _
        rw [ihx h2, ihy h3, cbin_comm]
        unfold isComm at h0
        split at h0
        · rename_i e; exact .inl e
        · rename_i e; exact .inr e
        · cases h0
    | _ => exact congrArg _ (T.beq_eq h)
  | neg k x ih =>
    intro z h
    cases z with
    | neg k' x' => simp only [T.beqC, Bool.and_eq_true] at h; have e := fk_inj h.1; subst e; show cneg _ _ = cneg _ _; rw [ih h.2]
    | _ => exact congrArg _ (T.beq_eq h)
  | wide x ih =>
    intro z h
    cases z with
    | wide x' => show cwide _ = cwide _; rw [ih h]
    | _ => exact congrArg _ (T.beq_eq h)
  | narrow x ih =>
    intro z h
    cases z with
    | narrow x' => show cnarrow _ = cnarrow _; rw [ih h]
    | _ => exact congrArg _ (T.beq_eq h)
  | f1 g x ih =>
    intro z h
    cases z with
    | f1 g' x' => simp only [T.beqC, Bool.and_eq_true] at h; have e := Nat.eq_of_beq_eq_true h.1; subst e; show E.f1 _ _ = E.f1 _ _; rw [ih h.2]
    | _ => exact congrArg _ (T.beq_eq h)
  | f2 c x y ihx ihy =>
    intro z h
    cases z with
    | f2 c' x' y' =>
      simp only [T.beqC, Bool.and_eq_true] at h
      obtain ⟨⟨h1, h2⟩, h3⟩ := h
      have e := Nat.eq_of_beq_eq_true h1
      subst e
      show E.f2 _ _ _ = E.f2 _ _ _
      rw [ihx h2, ihy h3]
    | _ => exact congrArg _ (T.beq_eq h)
  | abs k x ih =>
    intro z h
    cases z with
    | abs k' x' => simp only [T.beqC, Bool.and_eq_true] at h; have e := fk_inj h.1; subst e; show cabs _ _ = cabs _ _; rw [ih h.2]
    | _ => exact congrArg _ (T.beq_eq h)
  | _ => intro z h; exact congrArg _ (T.beq_eq (by cases z <;> exact h))

/-! ### Functions known beforehand -/
/-- A function of two floats of kind k that says whether they are the same. -/
def sameK (k : FloatKind) : List V → Option Known
  | [.sc (.flt k1 a), .sc (.flt k2 b)] => if Nat.beq (fk k1) (fk k) && Nat.beq (fk k2) (fk k) && T.beqC a b then some (.val (.sc (.bool true))) else none
  | _ => none

theorem callRuns_of_calls {f : FuncId} {fn : Func} {c : Code} {args : Array Value} {W : World} {R : Value → World → Prop} (hN : ∀ (f : FuncId) (fn : Func), P.funcs[f]? = some fn → (fn.name == "runtime.NumGoroutine") = false)
    (hfn : P.funcs[f]? = some fn) (hb : fn.body = some c) (h : Calls P f args W fun e W' => ∃ v, e = .returned v ∧ R v W') : CallRuns P f args W R := by
  unfold CallRuns
  rw [run_callFunc hfn (hN f fn hfn) hb]
  exact h

theorem runA_body {S : FuncId → List V → Option Known} {n : Nat} {f : FuncId} {args : List V} {fs : Facts} {K : V → Facts → Bool} (h : runA P S n f args fs K = true) : ∃ fn c, P.funcs[f]? = some fn ∧ fn.body = some c := by
  unfold runA callA at h
  split at h
  · rename_i fn hfn
    split at h
    · rename_i c hc; exact ⟨fn, c, hfn, hc⟩
    · cases h
  · cases h

/-- The same float twice: 'sameFloat' and its like answer true. By a run on symbols of the function itself. -/
theorem sameK_ok {E : Env} (hm : P.follows .mixedOrders = true) (hN : ∀ (f : FuncId) (fn : Func), P.funcs[f]? = some fn → (fn.name == "runtime.NumGoroutine") = false)
    {n : Nat} {f : FuncId} {k : FloatKind} (h : runA P (fun _ _ => none) n f [.sc (.flt k (.arg 0)), .sc (.flt k (.arg 0))] [] isTrue = true)
    {args : List V} {kn : Known} (hs : sameK k args = some kn) {β : Beta} {vals : List Value} {W : World} (hv : VsRel E β args vals) :
    CallRuns P f vals.toArray W fun v W' => Grown W W' ∧ KnownRel E β kn v := by
  unfold sameK at hs
  split at hs
  · rename_i k1 a k2 b
    split at hs
    · rename_i he
      cases hs
      simp only [Bool.and_eq_true] at he
      obtain ⟨⟨q1, q2⟩, q3⟩ := he
      have hab := T.beqC_den E q3
      have e1 := fk_inj q1
      have e2 := fk_inj q2
      subst e1
      subst e2
      obtain ⟨fn, c, hfn, hb⟩ := runA_body h
      let E' : Env := { arg := fun _ => den E a, f1 := E.f1, f2 := E.f2 }
      obtain ⟨sv, fs', h1, _, h3⟩ := runA_sound (E := E') (S := fun _ _ => none) hm hN (fun _ _ _ h => by cases h) h (fun p hp => by cases hp)
      have := isTrue_spec h1
      subst this
      refine callRuns_of_calls hN hfn hb ((h3 vals W ?_).mono fun e W' ⟨v, he, hr, hg⟩ => ⟨v, he, hg, hr⟩)
      refine ⟨hv.1, fun i s v hs hvv => ?_⟩
      match i, hs with
      | 0, hs => simp at hs; subst hs; exact hv.2 0 _ v rfl hvv
      | 1, hs =>
        simp at hs; subst hs
        obtain ⟨w, e, hw⟩ := hv.2 1 _ v rfl hvv
        exact ⟨w, e, hw.trans hab.symm⟩
    · cases hs
  · cases hs

end
end Go.Sx
