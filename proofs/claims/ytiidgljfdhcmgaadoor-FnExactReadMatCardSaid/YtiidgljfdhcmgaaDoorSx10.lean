/-
  From a run on symbols to a law's statement: a law whose parameters are floats and arrays of floats. Conditions: none.
-/
import Derived.Test.YtiidgljfdhcmgaaDoorSx9
import Derived.ProofKit
import Derived.OpenShut
import Derived.Laws.Cover2
namespace Go.Sx
open Go.RowKit Go.ChangeShapes Go.WideShapes Go.ChangeAt

section
variable {P : Program}

/-- A type that is a float of 32 bits, or an array of such, or an array of arrays .. -/
def plainT (P : Program) : Nat → TypeId → Bool
  | 0, _ => false
  | k + 1, t =>
    match P.underlying t with
    | some (.float .f32) => Nat.beq (P.cellsOf t) 1
    | some (.array n e) => Nat.beq (P.cellsOf t) (n * P.cellsOf e) && plainT P k e
    | _ => false

def fltCell (v : Value) : Prop := ∃ b, v = .float .f32 b ∧ b < 4294967296

theorem mapM_opt_get {α β : Type} {f : α → Option β} : ∀ {l : List α} {r : List β}, l.mapM f = some r → ∀ (i : Nat) (x : α), l[i]? = some x → ∃ y, f x = some y ∧ r[i]? = some y
  | [], r, h, i, x, hx => by simp at hx
  | a :: l, r, h, i, x, hx => by
    rw [List.mapM_cons] at h
    cases ha : f a with
    | none => rw [ha] at h; cases h
    | some b =>
      rw [ha] at h
      cases hl : l.mapM f with
      | none => rw [hl] at h; cases h
      | some bs =>
        rw [hl] at h
        cases h
        cases i with
        | zero => simp at hx; subst hx; exact ⟨b, ha, rfl⟩
        | succ i => simp at hx; obtain ⟨y, h1, h2⟩ := mapM_opt_get hl i x hx; exact ⟨y, h1, by simpa using h2⟩

theorem plain_trod {H : Type} {enc : TypeId × Value → H} : ∀ (k : Nat) (t : TypeId), plainT P k t = true → ∀ (fuel : Nat) (W W' : World) (b b' : Nat) (sp sp' : Nat → Bool) (hd hd' : Bool) (cs : List Value),
    DataW.trod enc P W b sp hd fuel t cs = DataW.trod enc P W' b' sp' hd' fuel t cs ∧
      ∀ x, DataW.trod enc P W b sp hd fuel t cs = some x → x.2 = [] ∧ cs.length = P.cellsOf t ∧ ∀ c ∈ cs, fltCell c
  | 0, _, h, _, _, _, _, _, _, _, _, _, _ => by cases h
  | k + 1, t, h, fuel, W, W', b, b', sp, sp', hd, hd', cs => by
    cases fuel with
    | zero => exact ⟨rfl, fun x hx => by cases hx⟩
    | succ fuel =>
      unfold plainT at h
      split at h
      · rename_i hu
        have hcell := Nat.eq_of_beq_eq_true h
        unfold DataW.trod
        rw [hu]
        refine ⟨?_, fun x hx => ?_⟩
        · split <;> first | rfl | simp_all
        · have hs : ∃ b, cs = [.float .f32 b] ∧ x.2 = [] ∧ b < 4294967296 := by
            split at hx
            all_goals first
              | (rename_i heq _; cases heq; done)
              | (rename_i heq; cases heq; done)
              | (simp only [reduceCtorEq, Option.some.injEq] at *; done)
              | (rename_i k1 k2 b1 heq
                 cases heq
                 split at hx
                 · rename_i hw
                   obtain ⟨rfl, hw⟩ := hw
                   cases hx
                   exact ⟨b1, rfl, rfl, by simpa [Lit.wf] using hw⟩
                 · cases hx)
          obtain ⟨b0, rfl, h2, h3⟩ := hs
          exact ⟨h2, by simp [hcell], fun c hc => by simp at hc; exact ⟨b0, hc, h3⟩⟩
      · rename_i n e hu
        simp only [Bool.and_eq_true] at h
        obtain ⟨hc, hp⟩ := h
        have hcell := Nat.eq_of_beq_eq_true hc
        have ih := plain_trod (enc := enc) k e hp
        have h1 : DataW.trod enc P W b sp hd (fuel + 1) t cs = if cs.length = P.cellsOf t then ((List.range n).mapM fun i => DataW.trod enc P W b sp hd fuel e ((cs.drop (i * P.cellsOf e)).take (P.cellsOf e))).map fun xs => (.agg (xs.map (·.1)), xs.flatMap (·.2)) else none := by
          simp only [DataW.trod, hu]
        have h2 : DataW.trod enc P W' b' sp' hd' (fuel + 1) t cs = if cs.length = P.cellsOf t then ((List.range n).mapM fun i => DataW.trod enc P W' b' sp' hd' fuel e ((cs.drop (i * P.cellsOf e)).take (P.cellsOf e))).map fun xs => (.agg (xs.map (·.1)), xs.flatMap (·.2)) else none := by
          simp only [DataW.trod, hu]
        refine ⟨?_, fun x hx => ?_⟩
        · rw [h1, h2]
          congr 3
          funext i
          exact (ih fuel W W' b b' sp sp' hd hd' _).1
        · rw [h1] at hx
          split at hx
          · rename_i hlen
            cases hm : ((List.range n).mapM fun i => DataW.trod enc P W b sp hd fuel e ((cs.drop (i * P.cellsOf e)).take (P.cellsOf e))) with
            | none => rw [hm] at hx; cases hx
            | some xs =>
              rw [hm] at hx
              cases hx
              have hget := mapM_opt_get hm
              refine ⟨?_, hlen, fun c hcm => ?_⟩
              · dsimp only
                rw [List.flatMap_eq_nil_iff]
                intro y hy
                obtain ⟨i, hi, rfl⟩ := List.mem_iff_getElem.1 hy
                have hlen2 : xs.length = n := by simpa using mapM_some_length hm
                obtain ⟨z, hz1, hz2⟩ := hget i i (by rw [List.getElem?_range (by omega)])
                have hz3 : z = xs[i] := by rw [List.getElem?_eq_getElem hi] at hz2; cases hz2; rfl
                subst hz3
                exact ((ih fuel W W' b b' sp sp' hd hd' _).2 _ hz1).1
              · obtain ⟨j, hj, rfl⟩ := List.mem_iff_getElem.1 hcm
                have hsz : 0 < P.cellsOf e := by
                  rcases Nat.eq_zero_or_pos (P.cellsOf e) with h0 | h0
                  · rw [h0] at hcell; omega
                  · exact h0
                have hq : j / P.cellsOf e < n := by rw [Nat.div_lt_iff_lt_mul hsz]; omega
                obtain ⟨z, hz1, _⟩ := hget (j / P.cellsOf e) (j / P.cellsOf e) (by simp [hq])
                refine ((ih fuel W W' b b' sp sp' hd hd' _).2 _ hz1).2.2 cs[j] ?_
                have hmod := Nat.mod_lt j hsz
                have hdiv := Nat.div_add_mod j (P.cellsOf e)
                rw [List.mem_iff_getElem?]
                refine ⟨j % P.cellsOf e, ?_⟩
                rw [List.getElem?_take, if_pos hmod, List.getElem?_drop, Nat.mul_comm, hdiv]
                exact List.getElem?_eq_getElem hj
          · cases hx
      · cases h

/-- The symbols for the arguments: float number i is 'arg i'. -/
def argsV (P : Program) : Nat → List TypeId → List V
  | _, [] => []
  | i, t :: ts =>
    (match P.underlying t with
     | some (.array _ _) => .agg ((List.range (P.cellsOf t)).map fun j => .flt .f32 (.arg (i + j)))
     | _ => .sc (.flt .f32 (.arg i))) :: argsV P (i + P.cellsOf t) ts

def bitsOf (v : Value) : Nat :=
  match v with
  | .float _ b => b
  | _ => 0

/-- The floats of the arguments, one behind the other. -/
def floatsOf (vs : List Value) : List Nat := vs.flatMap fun v => v.cells.toList.map bitsOf

def envOf (vs : List Value) (f1 : Nat → CF → CF) (f2 : Nat → CF → CF → CF) : Env :=
  { arg := fun i => canon .f32 ((floatsOf vs).getD i 0), f1 := f1, f2 := f2 }

theorem argsV_rel {E : Env} {β : Beta} (all : List Nat) (hE : ∀ i, E.arg i = canon .f32 (all.getD i 0)) : ∀ (ts : List TypeId) (vs : List Value) (i : Nat),
    ts.length = vs.length → (∀ (j : Nat) (t : TypeId) (v : Value), ts[j]? = some t → vs[j]? = some v → plainT P 3 t = true ∧ (∀ c ∈ v.cells.toList, fltCell c) ∧ v.cells.size = P.cellsOf t ∧ ((∃ n e, P.underlying t = some (.array n e)) → ∃ arr, v = .agg arr) ∧ (P.underlying t = some (.float .f32) → ∃ b, v = .float .f32 b)) →
    (∀ j, j < (floatsOf vs).length → all.getD (i + j) 0 = (floatsOf vs).getD j 0) → VsRel E β (argsV P i ts) vs
  | [], vs, i, hl, _, _ => by
    have : vs = [] := by simpa using hl.symm
    subst this
    exact ⟨rfl, fun j s v h _ => by simp [argsV] at h⟩
  | t :: ts, [], i, hl, _, _ => by simp at hl
  | t :: ts, v :: vs, i, hl, hp, ha => by
    obtain ⟨hpl, hflt, hsz, hagg, hsc⟩ := hp 0 t v rfl rfl
    have hfl : floatsOf (v :: vs) = v.cells.toList.map bitsOf ++ floatsOf vs := rfl
    have ih := argsV_rel (E := E) (β := β) all hE ts vs (i + P.cellsOf t) (by simpa using hl) (fun j t' v' h1 h2 => hp (j + 1) t' v' (by simpa using h1) (by simpa using h2)) (fun j hj => by
      have := ha (P.cellsOf t + j) (by rw [hfl]; simp; omega)
      rw [hfl] at this
      rw [show i + P.cellsOf t + j = i + (P.cellsOf t + j) by omega, this]
      simp [List.getElem?_append_right, hsz])
    have hget : ∀ j, j < P.cellsOf t → ∃ b, v.cells.toList[j]? = some (.float .f32 b) ∧ canon .f32 b = E.arg (i + j) := by
      intro j hj
      have hj' : j < v.cells.toList.length := by simp [hsz, hj]
      obtain ⟨b, hb, _⟩ := hflt v.cells.toList[j] (List.getElem_mem hj')
      refine ⟨b, by rw [List.getElem?_eq_getElem hj', hb], ?_⟩
      have := ha j (by rw [hfl]; simp; omega)
      rw [hE, this, hfl]
      have hb2 : v.cells[j]'(by simpa using hj') = .float .f32 b := by simpa using hb
      simp [List.getElem?_append_left, hsz, hj, hb2, bitsOf]
    refine ⟨by simp [argsV, ih.1], fun j s w h1 h2 => ?_⟩
    cases j with
    | succ j => exact ih.2 j s w (by simpa [argsV] using h1) (by simpa using h2)
    | zero =>
      simp only [argsV, List.getElem?_cons_zero, Option.some.injEq] at h1 h2
      subst h2
      cases hu : P.underlying t with
      | none => simp [plainT, hu] at hpl
      | some d =>
        rw [hu] at h1
        cases d
        case array n e =>
          dsimp only at h1
          subst h1
          obtain ⟨arr, rfl⟩ := hagg ⟨n, e, hu⟩
          refine ⟨arr, rfl, by have h9 : arr.size = P.cellsOf t := hsz; simp [h9], fun k s' v' hs hv => ?_⟩
          rw [List.getElem?_map] at hs
          by_cases hk : k < P.cellsOf t
          · rw [List.getElem?_range hk] at hs
            cases hs
            obtain ⟨b, hb1, hb2⟩ := hget k hk
            have hb1' : arr.toList[k]? = some (.float .f32 b) := hb1
            rw [hb1'] at hv; cases hv
            exact ⟨b, rfl, hb2⟩
          · simp [hk] at hs
        case float fk =>
          dsimp only at h1
          subst h1
          have hc1 : P.cellsOf t = 1 := by
            simp only [plainT, hu] at hpl
            cases fk
            · exact Nat.eq_of_beq_eq_true hpl
            · cases hpl
          obtain ⟨b, hb1, hb2⟩ := hget 0 (by omega)
          have hk : fk = .f32 := by
            cases fk
            · rfl
            · simp [plainT, hu] at hpl
          subst hk
          obtain ⟨b', rfl⟩ := hsc hu
          have this : Value.float .f32 b' = .float .f32 b := by simpa [Value.cells] using hb1
          exact ⟨b, this, hb2⟩
        all_goals (simp [plainT, hu] at hpl)

end
end Go.Sx
