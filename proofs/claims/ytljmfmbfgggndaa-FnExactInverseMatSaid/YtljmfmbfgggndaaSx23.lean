/-
  A function known beforehand by a tree of atoms; the tree of the elimination. Conditions: none.
-/
import Derived.Test.YtljmfmbfgggndaaSx22
namespace Go.Sx
open Go.RowKit

/-! ### Terms put for arguments -/
def T.subst (σ : List T) : T → T
  | .arg i => σ.getD i (.arg i)
  | .lit k b => .lit k b
  | .bin c x y => .bin c (x.subst σ) (y.subst σ)
  | .neg k x => .neg k (x.subst σ)
  | .wide x => .wide (x.subst σ)
  | .narrow x => .narrow (x.subst σ)
  | .f1 g x => .f1 g (x.subst σ)
  | .f2 g x y => .f2 g (x.subst σ) (y.subst σ)
  | .mm c x y => .mm c (x.subst σ) (y.subst σ)
  | .abs k x => .abs k (x.subst σ)
def Atom.subst (σ : List T) : Atom → Atom
  | .cmp c k x y => .cmp c k (x.subst σ) (y.subst σ)
  | .fits x => .fits (x.subst σ)
  | .same x y => .same (x.subst σ) (y.subst σ)
def SV.subst (σ : List T) : SV → SV
  | .flt k t => .flt k (t.subst σ)
  | s => s
def V.subst (σ : List T) : V → V
  | .sc s => .sc (s.subst σ)
  | .agg l => .agg (l.map (SV.subst σ))
  | .tup a b => .tup (a.subst σ) (b.subst σ)
  | .other v => .other v
def Tree.subst (σ : List T) : Tree → Tree
  | .leaf v => .leaf (v.subst σ)
  | .node a l r => .node (a.subst σ) (l.subst σ) (r.subst σ)

/-- The environment in which the arguments are these terms. -/
def Env.at (E : Env) (σ : List T) : Env := { arg := fun i => den E (σ.getD i (.arg i)), f1 := E.f1, f2 := E.f2 }

theorem den_subst (E : Env) (σ : List T) (t : T) : den E (t.subst σ) = den (E.at σ) t := by
  induction t with
  | arg i => rfl
  | lit k b => rfl
  | bin c x y ihx ihy => simp only [T.subst, den, ihx, ihy]
  | neg k x ih => simp only [T.subst, den, ih]
  | wide x ih => simp only [T.subst, den, ih]
  | narrow x ih => simp only [T.subst, den, ih]
  | f1 g x ih => simp only [T.subst, den, ih]; rfl
  | f2 g x y ihx ihy => simp only [T.subst, den, ihx, ihy]; rfl
  | mm c x y ihx ihy => simp only [T.subst, den, ihx, ihy]
  | abs k x ih => simp only [T.subst, den, ih]
theorem holds_subst (E : Env) (σ : List T) (a : Atom) : holds E (a.subst σ) = holds (E.at σ) a := by
  cases a <;> simp only [Atom.subst, holds, den_subst]
theorem pick_subst (E : Env) (σ : List T) : ∀ t : Tree, (t.subst σ).pick E = (t.pick (E.at σ)).subst σ
  | .leaf v => rfl
  | .node a l r => by
    simp only [Tree.subst, Tree.pick, holds_subst]
    cases holds (E.at σ) a
    · simpa using pick_subst E σ r
    · simpa using pick_subst E σ l

/-! ### Values compared -/
def SV.eqC : SV → SV → Bool
  | .int k n, .int k' n' => decide (k = k') && decide (n = n')
  | .bool b, .bool b' => b == b'
  | .flt k t, .flt k' t' => Nat.beq (fk k) (fk k') && T.beqC t t'
  | _, _ => false
def SV.eqL : List SV → List SV → Bool
  | [], [] => true
  | a :: r, b :: s => SV.eqC a b && SV.eqL r s
  | _, _ => false
def V.eqC : V → V → Bool
  | .sc a, .sc b => SV.eqC a b
  | .agg l, .agg r => SV.eqL l r
  | .tup a b, .tup a' b' => V.eqC a a' && V.eqC b b'
  | _, _ => false

theorem SV.eqC_rel {E : Env} {σ : List T} {β β' : Beta} {a b : SV} {v : Value} (h : SV.eqC a b = true) (hb : SRel (E.at σ) β b v) : SRel E β' (a.subst σ) v := by
  unfold SV.eqC at h
  split at h
  · rename_i k n k' n'
    simp only [Bool.and_eq_true, decide_eq_true_eq] at h
    obtain ⟨rfl, rfl⟩ := h
    exact hb
  · rename_i x y
    have : x = y := by simpa using h
    subst this; exact hb
  · rename_i k t k' t'
    simp only [Bool.and_eq_true] at h
    have hk := fk_inj h.1
    subst hk
    obtain ⟨c, e, hc⟩ := hb
    exact ⟨c, e, by rw [hc]; exact (den_subst E σ t).trans (T.beqC_den _ h.2) |>.symm⟩
  · cases h
theorem SV.eqL_rel {E : Env} {σ : List T} {β β' : Beta} : ∀ {l r : List SV} {vs : List Value}, SV.eqL l r = true → LRel (E.at σ) β r vs → LRel E β' (l.map (SV.subst σ)) vs
  | [], [], vs, _, h => by
    have : vs = [] := List.length_eq_zero_iff.1 h.1.symm
    subst this; exact LRel.nil
  | a :: l, b :: r, vs, h, hr => by
    simp only [SV.eqL, Bool.and_eq_true] at h
    match vs, hr with
    | [], hr => have := hr.1; simp at this
    | v :: vs, hr =>
      refine LRel.cons (SV.eqC_rel h.1 (hr.2 0 b v rfl rfl)) (SV.eqL_rel h.2 ⟨by have := hr.1; simpa using this, fun i s w h1 h2 => hr.2 (i + 1) s w (by simpa using h1) (by simpa using h2)⟩)
  | [], _ :: _, _, h, _ => by simp [SV.eqL] at h
  | _ :: _, [], _, h, _ => by simp [SV.eqL] at h
theorem V.eqC_rel {E : Env} {σ : List T} {β β' : Beta} : ∀ {a b : V} {v : Value}, V.eqC a b = true → VRel (E.at σ) β b v → VRel E β' (a.subst σ) v
  | .sc _, .sc _, v, h, hb => SV.eqC_rel h hb
  | .agg _, .agg _, v, h, ⟨arr, e, hl⟩ => ⟨arr, e, SV.eqL_rel h hl⟩
  | .tup _ _, .tup _ _, v, h, ⟨x, y, e, hx, hy⟩ => by
    simp only [V.eqC, Bool.and_eq_true] at h
    exact ⟨x, y, e, V.eqC_rel h.1 hx, V.eqC_rel h.2 hy⟩
  | .sc _, .agg _, _, h, _ => by simp [V.eqC] at h
  | .sc _, .tup _ _, _, h, _ => by simp [V.eqC] at h
  | .sc _, .other _, _, h, _ => by simp [V.eqC] at h
  | .agg _, .sc _, _, h, _ => by simp [V.eqC] at h
  | .agg _, .tup _ _, _, h, _ => by simp [V.eqC] at h
  | .agg _, .other _, _, h, _ => by simp [V.eqC] at h
  | .tup _ _, .sc _, _, h, _ => by simp [V.eqC] at h
  | .tup _ _, .agg _, _, h, _ => by simp [V.eqC] at h
  | .tup _ _, .other _, _, h, _ => by simp [V.eqC] at h
  | .other _, _, _, h, _ => by simp [V.eqC] at h

/-! ### A run against a tree -/
def treeOut : Tree → V → Facts → Bool
  | .leaf v, w, _ => V.eqC v w
  | .node a l r, w, fs => match look a fs with
    | some true => treeOut l w fs
    | some false => treeOut r w fs
    | none => treeOut l w fs && treeOut r w fs
theorem treeOut_spec {E : Env} {w : V} {fs : Facts} (hf : FactsOK E fs) : ∀ {t : Tree}, treeOut t w fs = true → V.eqC (t.pick E) w = true
  | .leaf v, h => h
  | .node a l r, h => by
    unfold treeOut at h
    unfold Tree.pick
    split at h
    · rename_i e; rw [look_sound e hf]; simpa using treeOut_spec hf h
    · rename_i e; rw [look_sound e hf]; simpa using treeOut_spec hf h
    · rw [Bool.and_eq_true] at h
      cases holds E a
      · simpa using treeOut_spec hf h.2
      · simpa using treeOut_spec hf h.1

/-! ### Arguments that are arrays of float32 -/
def fltsL : List SV → Option (List T)
  | [] => some []
  | .flt .f32 t :: r => match fltsL r with
    | some l => some (t :: l)
    | none => none
  | _ => none
def protoL (k : Nat) : Nat → List SV
  | 0 => []
  | n + 1 => .flt .f32 (.arg k) :: protoL (k + 1) n
def tree2K (n m : Nat) (tr : Tree) : List V → Option Known
  | [.agg a, .agg b] => match fltsL a, fltsL b with
    | some s, some t => if Nat.beq s.length n && Nat.beq t.length m then some (.tree (tr.subst (s ++ t))) else none
    | _, _ => none
  | _ => none

theorem proto_rel {E : Env} {β : Beta} {σ : List T} : ∀ {l : List SV} {s : List T} {vs : List Value} {k : Nat}, fltsL l = some s → LRel E β l vs → (∀ (i : Nat) (t : T), s[i]? = some t → σ[k + i]? = some t) →
    LRel (E.at σ) β (protoL k s.length) vs
  | [], s, vs, k, h, hl, _ => by
    cases h
    have : vs = [] := List.length_eq_zero_iff.1 hl.1.symm
    subst this; exact LRel.nil
  | .flt .f32 t :: r, s, vs, k, h, hl, hσ => by
    unfold fltsL at h
    split at h
    · rename_i l hr
      cases h
      match vs, hl with
      | [], hl => have := hl.1; simp at this
      | v :: vs, hl =>
        refine LRel.cons ?_ (proto_rel hr ⟨by have := hl.1; simpa using this, fun i s w h1 h2 => hl.2 (i + 1) s w (by simpa using h1) (by simpa using h2)⟩ (fun i t h => by rw [show k + 1 + i = k + (i + 1) by omega]; exact hσ (i + 1) t (by simpa using h)))
        obtain ⟨b, e, hb⟩ := hl.2 0 _ v rfl rfl
        refine ⟨b, e, hb.trans ?_⟩
        show den E t = den E (σ.getD k (.arg k))
        have := hσ 0 t rfl
        rw [List.getD_eq_getElem?_getD]
        rw [Nat.add_zero] at this
        rw [this]; rfl
    · cases h
  | .flt .f64 t :: r, s, vs, k, h, _, _ => by simp [fltsL] at h
  | .int .. :: r, s, vs, k, h, _, _ => by simp [fltsL] at h
  | .bool .. :: r, s, vs, k, h, _, _ => by simp [fltsL] at h
  | .ptr .. :: r, s, vs, k, h, _, _ => by simp [fltsL] at h
  | .slc .. :: r, s, vs, k, h, _, _ => by simp [fltsL] at h
  | .bits .. :: r, s, vs, k, h, _, _ => by simp [fltsL] at h

section
variable {P : Program} {E : Env}

/-- Runs that together cover all cases of some atoms. -/
inductive Runs (P : Program) (S : FuncId → List V → Option Known) (n : Nat) (f : FuncId) (args : List V) (K : V → Facts → Bool) : Facts → Prop where
  | run {fs : Facts} (h : runA P S n f args fs K = true) : Runs P S n f args K fs
  | split {fs : Facts} (a : Atom) (ht : Runs P S n f args K ((a, true) :: fs)) (hf : Runs P S n f args K ((a, false) :: fs)) : Runs P S n f args K fs
theorem Runs.some {S : FuncId → List V → Option Known} {n : Nat} {f : FuncId} {args : List V} {K : V → Facts → Bool} (E : Env) {fs : Facts} (h : Runs P S n f args K fs) :
    FactsOK E fs → ∃ fs', FactsOK E fs' ∧ runA P S n f args fs' K = true := by
  induction h with
  | run h => exact fun hf => ⟨_, hf, h⟩
  | split a _ _ iht ihf =>
    intro hf
    cases ha : holds E a
    · exact ihf (facts_cons ha hf)
    · exact iht (facts_cons ha hf)

theorem tree2K_ok (hm : P.follows .mixedOrders = true) (hN : ∀ (f : FuncId) (fn : Func), P.funcs[f]? = some fn → (fn.name == "runtime.NumGoroutine") = false)
    {S : FuncId → List V → Option Known} (hS : ∀ E' : Env, E'.f1 = E.f1 → E'.f2 = E.f2 → SumOK E' P S) {n : Nat} {f : FuncId} {p q : Nat} {tr : Tree}
    (hruns : Runs P S n f [.agg (protoL 0 p), .agg (protoL p q)] (treeOut tr) [])
    {args : List V} {kn : Known} (hs : tree2K p q tr args = some kn) {β : Beta} {vals : List Value} {W : World} (hv : VsRel E β args vals) :
    CallRuns P f vals.toArray W fun v W' => Grown W W' ∧ KnownRel E β kn v := by
  unfold tree2K at hs
  split at hs
  · rename_i a b
    split at hs
    · rename_i s t ha hb
      split at hs
      · rename_i hc
        cases hs
        simp only [Bool.and_eq_true] at hc
        have l1 := Nat.eq_of_beq_eq_true hc.1
        have l2 := Nat.eq_of_beq_eq_true hc.2
        obtain ⟨hl, hv2⟩ := hv
        match vals, hl with
        | [v0, v1], _ =>
          obtain ⟨arr0, rfl, r0⟩ := hv2 0 _ v0 rfl rfl
          obtain ⟨arr1, rfl, r1⟩ := hv2 1 _ v1 rfl rfl
          obtain ⟨fs0, hfs0, h⟩ := hruns.some (E.at (s ++ t)) facts_nil
          obtain ⟨fn, c, hfn, hbody⟩ := runA_body h
          obtain ⟨sv, fs', h1, hf, h3⟩ := runA_sound (E := E.at (s ++ t)) hm hN (hS _ rfl rfl) h hfs0
          have heq := treeOut_spec hf h1
          refine callRuns_of_calls hN hfn hbody ((h3 [.agg arr0, .agg arr1] W ?_).mono fun e W' ⟨v, he, hr, hg⟩ => ⟨v, he, hg, ?_⟩)
          · have p0 : LRel (E.at (s ++ t)) (fun _ => none) (protoL 0 s.length) arr0.toList :=
              (proto_rel ha r0 (fun i x hx => by rw [Nat.zero_add, List.getElem?_append_left (by have := (List.getElem?_eq_some_iff.1 hx).1; omega)]; exact hx)).noPtr (by
                have : ∀ k n, (protoL k n).all noPtrS = true := by
                  intro k n
                  induction n generalizing k with
                  | zero => rfl
                  | succ n ih => simp [protoL, ih, noPtrS]
                exact this _ _)
            have p1 : LRel (E.at (s ++ t)) (fun _ => none) (protoL s.length t.length) arr1.toList :=
              (proto_rel hb r1 (fun i x hx => by rw [List.getElem?_append_right (by omega), Nat.add_sub_cancel_left]; exact hx)).noPtr (by
                have : ∀ k n, (protoL k n).all noPtrS = true := by
                  intro k n
                  induction n generalizing k with
                  | zero => rfl
                  | succ n ih => simp [protoL, ih, noPtrS]
                exact this _ _)
            rw [l1] at p0
            rw [l1, l2] at p1
            refine ⟨rfl, fun i s v hs hvv => ?_⟩
            match i, hs with
            | 0, hs => simp at hs hvv; subst hs; subst hvv; exact ⟨arr0, rfl, p0⟩
            | 1, hs => simp at hs hvv; subst hs; subst hvv; exact ⟨arr1, rfl, p1⟩
          · show VRel E β ((tr.subst (s ++ t)).pick E) v
            rw [pick_subst]
            exact V.eqC_rel heq hr
      · cases hs
    · cases hs
  · cases hs

end

/-! ### The elimination -/
def finA (t : T) : Atom := .cmp 0 .f32 (.bin 1 t t) (.lit .f32 0)
def finAll (err : Tree) : List T → Tree → Tree
  | [], ok => ok
  | t :: r, ok => .node (finA t) (finAll err r ok) err
def zero3 : V := .agg [.flt .f32 (.lit .f32 0), .flt .f32 (.lit .f32 0), .flt .f32 (.lit .f32 0)]
def errT (n : Int) : Tree := .leaf (.tup zero3 (.sc (.int .i64 n)))
def sub32 (a b : T) : T := .bin 1 a b
def mul32 (a b : T) : T := .bin 2 a b
def quo32 (a b : T) : T := .bin 3 a b
def gtA (a b : T) : Atom := .cmp 3 .f32 (.abs .f32 a) (.abs .f32 b)
def zeroAt (a : T) : Atom := .cmp 0 .f32 a (.lit .f32 0)

/-- Back: the numbers of the solution from the last. -/
def backT (a0 a1 a2 b1 b2 c2 u v w : T) : Tree :=
  let z := quo32 w c2
  .node (zeroAt c2) (errT 4) (.node (finA z) (
    let y := quo32 (sub32 v (mul32 b2 z)) b1
    .node (finA y) (
      let x := quo32 (sub32 (sub32 u (mul32 a1 y)) (mul32 a2 z)) a0
      .node (finA x) (.leaf (.tup (.agg [.flt .f32 x, .flt .f32 y, .flt .f32 z]) (.sc (.int .i64 0)))) (errT 4)) (errT 4)) (errT 4))
/-- The last row cleared, the pivots chosen. -/
def lastT (a0 a1 a2 b1 b2 c1 c2 u v w : T) : Tree :=
  .node (zeroAt b1) (errT 4) (
    let f := quo32 c1 b1
    let c2' := sub32 c2 (mul32 f b2)
    let w' := sub32 w (mul32 f v)
    .node (finA f) (.node (finA c2') (.node (finA w') (backT a0 a1 a2 b1 b2 c2' u v w') (errT 4)) (errT 4)) (errT 4))
/-- The second pivot. -/
def secondT (a0 a1 a2 b1 b2 c1 c2 u v w : T) : Tree :=
  .node (gtA c1 b1) (lastT a0 a1 a2 c1 c2 b1 b2 u w v) (lastT a0 a1 a2 b1 b2 c1 c2 u v w)
/-- The first column cleared. -/
def firstT (a0 a1 a2 b0 b1 b2 c0 c1 c2 u v w : T) : Tree :=
  .node (zeroAt a0) (errT 4) (
    let f := quo32 b0 a0
    let b1' := sub32 b1 (mul32 f a1)
    let b2' := sub32 b2 (mul32 f a2)
    let v' := sub32 v (mul32 f u)
    let g := quo32 c0 a0
    let c1' := sub32 c1 (mul32 g a1)
    let c2' := sub32 c2 (mul32 g a2)
    let w' := sub32 w (mul32 g u)
    finAll (errT 4) [f, b1', b2', v', g, c1', c2', w'] (secondT a0 a1 a2 b1' b2' c1' c2' u v' w'))
/-- The elimination: rows a, b, c and the right side u, v, w. -/
def solveT (a0 a1 a2 b0 b1 b2 c0 c1 c2 u v w : T) : Tree :=
  finAll (errT 1) [a0, a1, a2, b0, b1, b2, c0, c1, c2, u, v, w] (
    .node (gtA b0 a0)
      (.node (gtA c0 b0) (firstT c0 c1 c2 b0 b1 b2 a0 a1 a2 w v u) (firstT b0 b1 b2 a0 a1 a2 c0 c1 c2 v u w))
      (.node (gtA c0 a0) (firstT c0 c1 c2 b0 b1 b2 a0 a1 a2 w v u) (firstT a0 a1 a2 b0 b1 b2 c0 c1 c2 u v w)))
def solveTree : Tree := solveT (.arg 0) (.arg 1) (.arg 2) (.arg 3) (.arg 4) (.arg 5) (.arg 6) (.arg 7) (.arg 8) (.arg 9) (.arg 10) (.arg 11)


/-! ### The cases of the pivots -/
/-- Which row is first, and the two others in their order behind the exchange. -/
def rowsOf : Nat → List Nat
  | 0 => [0, 1, 2]
  | 1 => [2, 1, 0]
  | _ => [1, 0, 2]
def elimA (p q : Nat) (j : Nat) : T := sub32 (.arg (3 * q + j)) (mul32 (quo32 (.arg (3 * q)) (.arg (3 * p))) (.arg (3 * p + j)))
/-- The second pivot's question, the first row being p, the others q and r. -/
def pivA (p q r : Nat) : Atom := gtA (elimA p r 1) (elimA p q 1)
def pivFirst (t u : Bool) : Facts :=
  if t then [(gtA (.arg 6) (.arg 3), u), (gtA (.arg 3) (.arg 0), true)] else [(gtA (.arg 6) (.arg 0), u), (gtA (.arg 3) (.arg 0), false)]
def pivLast (t u : Bool) : Atom :=
  if u then pivA 2 1 0 else if t then pivA 1 0 2 else pivA 0 1 2
def pivFacts (t u w : Bool) : Facts := (pivLast t u, w) :: pivFirst t u

theorem piv_runs {P : Program} {S : FuncId → List V → Option Known} {n : Nat} {f : FuncId} {args : List V} {K : V → Facts → Bool}
    (h : ∀ t u w, runA P S n f args (pivFacts t u w) K = true) : Runs P S n f args K [] :=
  .split (gtA (.arg 3) (.arg 0))
    (.split (gtA (.arg 6) (.arg 3)) (.split (pivLast true true) (.run (h true true true)) (.run (h true true false))) (.split (pivLast true false) (.run (h true false true)) (.run (h true false false))))
    (.split (gtA (.arg 6) (.arg 0)) (.split (pivLast false true) (.run (h false true true)) (.run (h false true false))) (.split (pivLast false false) (.run (h false false true)) (.run (h false false false))))

end Go.Sx
