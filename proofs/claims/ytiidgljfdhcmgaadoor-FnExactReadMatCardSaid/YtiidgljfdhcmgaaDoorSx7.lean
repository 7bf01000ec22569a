/-
  A region, in whatever order the model takes its operations. Conditions: none.
-/
import Derived.Test.YtiidgljfdhcmgaaDoorSx6
namespace Go.Sx
open Go.RowKit

/-- The state of a function's run and the symbols that stand for it. 'W0': the world as the function was entered. -/
structure Rel (E : Env) (W0 : World) (β : Beta) (tmps : List V) (heap : List (List SV)) (old : Nat) (a : Act) (W : World) : Prop where
  size : a.tmps.size = tmps.length
  vals : ∀ (i : Nat) (v : V), tmps[i]? = some v → VRel E β v (a.tmps.getD i undef)
  defers : a.defers = []
  h : HRel E β heap W
  ge : ∀ id blk, old ≤ id → β id = some blk → W0.heap.size ≤ blk
  inj : ∀ id id' blk, old ≤ id → β id = some blk → β id' = some blk → id = id'
  grown : Grown W0 W
  fresh : ∀ id, heap.length ≤ id → β id = none
  le : old ≤ heap.length

section
variable {E : Env} {P : Program} {ops : Array Oper} {W0 W : World} {β : Beta} {old : Nat}

theorem getD_rel {tmps : List V} {a : Act} (hs : a.tmps.size = tmps.length) (hv : ∀ (i : Nat) (v : V), tmps[i]? = some v → VRel E β v (a.tmps.getD i undef)) (t : Nat) :
    VRel E β (tmps.getD t undefV) (a.tmps.getD t undef) := by
  rw [List.getD_eq_getElem?_getD]
  cases h : tmps[t]? with
  | some v => exact hv t v h
  | none =>
    have : tmps.length ≤ t := by simpa using h
    have e : a.tmps.getD t undef = undef := by
      rw [Array.getD_eq_getD_getElem?, Array.getElem?_eq_none (by omega)]; rfl
    rw [e]; rfl

theorem evA_rel {tmps : List V} {a : Act} (hv : ∀ t, VRel E β (tmps.getD t undefV) (a.tmps.getD t undef)) (x : Operand) : VRel E β (evA tmps x) (a.eval x) := by
  cases x with
  | tmp t => exact hv t
  | const v => exact absV_rel v
  | global g => rfl
  | func f => rfl

theorem evA_rel_of {tmps : List V} {a : Act} {x : Operand} (hv : ∀ t, x = .tmp t → VRel E β (tmps.getD t undefV) (a.tmps.getD t undef)) : VRel E β (evA tmps x) (a.eval x) := by
  cases x with
  | tmp t => exact hv t rfl
  | const v => exact absV_rel v
  | global g => rfl
  | func f => rfl

theorem wanted_sound {o : Oper} {tmps : List V} {a : Act} {b : Bool} (h : wantedA ops o tmps = some b)
    (hg : ∀ j want t, o.guard = some (j, want) → (ops[j]?).bind (·.dst) = some t → VRel E β (tmps.getD t undefV) (a.tmps.getD t undef)) :
    Region.wanted o (yielded ops a.tmps) = b := by
  unfold wantedA at h
  unfold Region.wanted
  split at h
  · rename_i hgd; rw [hgd]; simpa using h
  · rename_i j want hgd
    rw [hgd]
    split at h
    · rename_i t ht
      have hr := hg j want t hgd ht
      have hy : yielded ops a.tmps j = match a.tmps[t]? with | some (.bool b) => some b | _ => none := by
        unfold yielded; rw [ht]; rfl
      split at h
      · rename_i b0 hb
        rw [hb] at hr
        have hr' : a.tmps.getD t undef = .bool b0 := hr
        have hy2 : a.tmps[t]? = some (.bool b0) := by
          rw [Array.getD_eq_getD_getElem?] at hr'
          cases hq : a.tmps[t]? with
          | none => rw [hq] at hr'; simp [undef] at hr'
          | some v => rw [hq] at hr'; simp at hr'; rw [hr']
        dsimp only
        rw [hy, hy2]
        simpa using h
      · rename_i vs hb
        rw [hb] at hr
        have hr' : a.tmps.getD t undef = .tuple vs := hr
        dsimp only
        rw [hy]
        have hn : (match a.tmps[t]? with | some (.bool b) => some b | _ => none) = (none : Option Bool) := by
          rw [Array.getD_eq_getD_getElem?] at hr'
          cases hq : a.tmps[t]? with
          | none => rfl
          | some v => rw [hq] at hr'; simp at hr'; rw [hr']
        rw [hn]
        cases h; rfl
      · cases h
    · cases h

/-- A new block, anywhere. -/
theorem alloc_sound {heap : List (List SV)} {l : List SV} {cells : Array Value} {ty : TypeId} {id0 : Nat} (hr : HRel E β heap W) (hl : LRel E β l cells.toList) (hid : heap[id0]? = some l) (hfresh : β id0 = none) :
    HRel E (fun i => if i = id0 then some W.heap.size else β i) heap (W.alloc (.cells cells ty)) ∧ Ext β (fun i => if i = id0 then some W.heap.size else β i) := by
  have hext : Ext β (fun i => if i = id0 then some W.heap.size else β i) := fun i b hb => by
    dsimp only
    rw [if_neg (by intro e; subst e; rw [hfresh] at hb; cases hb)]
    exact hb
  refine ⟨⟨fun id blk hb => ?_, fun id blk l' hb hl' => ?_⟩, hext⟩
  · split at hb
    · cases hb; simp
    · have := hr.lt id blk hb; simp; omega
  · split at hb
    · rename_i he
      cases hb
      subst he
      rw [hid] at hl'
      cases hl'
      exact ⟨cells, ty, by show (W.heap.push _)[W.heap.size]? = _; simp, hl.mono hext⟩
    · rename_i he
      have hlt := hr.lt id blk hb
      obtain ⟨c, t, h1, h2⟩ := hr.ok id blk l' hb hl'
      refine ⟨c, t, ?_, h2.mono hext⟩
      simp only [World.alloc, Array.getElem?_push]
      rw [if_neg (by omega)]; exact h1

/-- One operation of a region, in the run on symbols. -/
def StepI (E : Env) (P : Program) (ops : Array Oper) (old : Nat) (o : Oper) (t : List V) (h : List (List SV)) (v : V) (h' : List (List SV)) : Prop :=
  (wantedA ops o t = some true ∧ isStore o.op = false ∧ Eff E P o t h v h') ∨
  (wantedA ops o t = some true ∧ v = undefV ∧ ∃ ty x y, o.op = .store ty x y ∧ storeA P h old ty (evA t x) (evA t y) = some h') ∨
  (wantedA ops o t = some false ∧ v = undefV ∧ h' = h)

/-- The run on symbols of a list of operations, in a row. -/
def Seq (E : Env) (P : Program) (ops : Array Oper) (old : Nat) (l : List Oper) (tm : Nat → List V) (hp : Nat → List (List SV)) (vl : Nat → V) : Prop :=
  ∀ i o, l[i]? = some o → tm (i + 1) = put (tm i) o.dst (vl i) ∧ StepI E P ops old o (tm i) (hp i) (vl i) (hp (i + 1))

theorem opsA_seq {S : FuncId → List V → Option Known} {call : FuncId → List V → St → (V → Facts → Bool) → Bool} (hS : SumOK E P S) (hcall : CallOK E P call) :
    ∀ (l : List Oper) (tmps : List V) (st : St) (K : List V → St → Bool), opsA P S call ops l tmps st K = true → FactsOK E st.facts →
      ∃ tm hp vl st', K (tm l.length) st' = true ∧ FactsOK E st'.facts ∧ st'.old = st.old ∧ st'.heap = hp l.length ∧ tm 0 = tmps ∧ hp 0 = st.heap ∧ Seq E P ops st.old l tm hp vl
  | [], tmps, st, K, h, hf => ⟨fun _ => tmps, fun _ => st.heap, fun _ => undefV, st, h, hf, rfl, rfl, rfl, rfl, fun i o ho => by simp at ho⟩
  | o :: r, tmps, st, K, h, hf => by
    have glue : ∀ (v : V) (st1 : St), opsA P S call ops r (put tmps o.dst v) st1 K = true → FactsOK E st1.facts → st1.old = st.old → StepI E P ops st.old o tmps st.heap v st1.heap →
        ∃ tm hp vl st', K (tm (o :: r).length) st' = true ∧ FactsOK E st'.facts ∧ st'.old = st.old ∧ st'.heap = hp (o :: r).length ∧ tm 0 = tmps ∧ hp 0 = st.heap ∧ Seq E P ops st.old (o :: r) tm hp vl := by
      intro v st1 h1 hf1 ho1 hstep
      obtain ⟨tm, hp, vl, st', hk, hf', ho', hh', ht0, hp0, hseq⟩ := opsA_seq hS hcall r _ st1 K h1 hf1
      refine ⟨fun i => match i with | 0 => tmps | i + 1 => tm i, fun i => match i with | 0 => st.heap | i + 1 => hp i, fun i => match i with | 0 => v | i + 1 => vl i, st', hk, hf', ho'.trans ho1, hh', rfl, rfl, ?_⟩
      intro i o' hi
      cases i with
      | zero =>
        simp at hi; subst hi
        refine ⟨ht0, ?_⟩
        dsimp only
        rw [hp0]; exact hstep
      | succ i =>
        simp at hi
        rw [ho1] at hseq
        exact hseq i o' hi
    unfold opsA at h
    split at h
    · rename_i hw
      split at h
      · rename_i hs
        unfold storeOp at h
        split at h
        · rename_i ty x y hop
          split at h
          · rename_i hh hst
            rw [forceL_eq] at h
            dsimp only at h
            rw [forceL_eq] at h
            exact glue undefV { st with heap := hh } h hf rfl (.inr (.inl ⟨hw, rfl, ty, x, y, hop, hst⟩))
          · cases h
        · cases h
      · rename_i hs
        obtain ⟨sv, st1, h1, hf1, ho1, heff⟩ := opA_sound hS hcall h hf
        rw [forceL_eq] at h1
        exact glue sv st1 h1 hf1 ho1 (.inl ⟨hw, by simpa using hs, heff⟩)
    · rename_i hw
      rw [forceL_eq] at h
      exact glue undefV st h hf rfl (.inr (.inr ⟨hw, rfl, rfl⟩))
    · cases h

theorem getD_put {a : Act} {d : Option Tmp} {v : Value} {t : Nat} : (a.put d v).tmps.getD t undef = if d = some t ∧ t < a.tmps.size then v else a.tmps.getD t undef := by
  cases d with
  | none => simp [Act.put]
  | some d =>
    simp only [Act.put, Array.getD_eq_getD_getElem?, Array.getElem?_setIfInBounds, Option.some.injEq]
    by_cases hd : d = t
    · subst hd
      by_cases hlt : d < a.tmps.size
      · simp [hlt]
      · simp [hlt]
    · simp [hd]

theorem size_put {a : Act} {d : Option Tmp} {v : Value} : (a.put d v).tmps.size = a.tmps.size := by cases d <;> simp [Act.put]
theorem length_put {t : List V} {d : Option Tmp} {v : V} : (put t d v).length = t.length := by cases d <;> simp [put]
theorem defers_put {a : Act} {d : Option Tmp} {v : Value} : (a.put d v).defers = a.defers := by cases d <;> rfl
theorem get_put {tmps : List V} {d : Option Tmp} {v : V} {t : Nat} : (put tmps d v)[t]? = if d = some t ∧ t < tmps.length then some v else tmps[t]? := by
  cases d with
  | none => simp [put]
  | some d =>
    simp only [put, List.getElem?_set, Option.some.injEq]
    by_cases hd : d = t
    · subst hd
      by_cases hlt : d < tmps.length
      · simp [hlt]
      · simp [hlt]
    · simp [hd]

theorem vals_put {tmps : List V} {a : Act} {d : Option Tmp} {sv : V} {v : Value} {β' : Beta} (hs : a.tmps.size = tmps.length) (hv : ∀ (i : Nat) (v : V), tmps[i]? = some v → VRel E β v (a.tmps.getD i undef))
    (hext : Ext β β') (hr : VRel E β' sv v) : ∀ (i : Nat) (u : V), (put tmps d sv)[i]? = some u → VRel E β' u ((a.put d v).tmps.getD i undef) := by
  intro i u hu
  rw [get_put] at hu
  rw [getD_put, hs]
  split at hu
  · rename_i hc; rw [if_pos hc]; cases hu; exact hr
  · rename_i hc; rw [if_neg hc]; exact (hv i u hu).mono hext

/-- One operation in the order of the text. -/
theorem step_text {o : Oper} {i : Nat} {t : List V} {h h' : List (List SV)} {v : V} {a : Act} {K : Act → World → Prop} {Q : Exit → Act → World → Prop} (hi : ops[i]? = some o)
    (hstep : StepI E P ops old o t h v h') (hR : Rel E W0 β t h old a W)
    (hK : ∀ β' a' W', Rel E W0 β' (put t o.dst v) h' old a' W' → K a' W') : wpOp P ops Q i K a W := by
  have hget := getD_rel hR.size hR.vals
  have hev := evA_rel (E := E) (β := β) (tmps := t) (a := a) hget
  unfold wpOp
  simp only [hi]
  rcases hstep with ⟨hw, hs, heff⟩ | ⟨hw, rfl, ty, x, y, hop, hst⟩ | ⟨hw, rfl, rfl⟩
  · rw [if_pos (wanted_sound (E := E) (β := β) (a := a) hw fun j want t _ _ => hget t)]
    refine .inl ?_
    cases heff with
    | pure hh =>
      refine (hh β a W (fun x _ => hev x) hR.h).wp fun u W' ⟨h1, h2⟩ => hK β _ W' ?_
      exact ⟨by rw [size_put, length_put]; exact hR.size, vals_put hR.size hR.vals (Ext.refl β) h1, by rw [defers_put]; exact hR.defers, hR.h.grown h2, hR.ge, hR.inj, Grown.trans' hR.grown h2, hR.fresh, hR.le⟩
    | new hh =>
      rename_i l
      refine (hh β a W (fun x _ => hev x) hR.h).wp fun u W' ⟨cells, ty, h1, h2, h3⟩ => ?_
      subst h1
      have hfr := hR.fresh h.length (Nat.le_refl _)
      obtain ⟨g1, g2⟩ := newRow_sound (ty := ty) hR.h h2 hfr
      refine hK _ _ _ ⟨by rw [size_put, length_put]; exact hR.size, vals_put hR.size hR.vals g2 (h3 _ g2 (by simp)), by rw [defers_put]; exact hR.defers, g1, ?_, ?_, hR.grown.alloc cells ty, ?_, by have := hR.le; simp; omega⟩
      · intro id blk hold hb
        split at hb
        · cases hb; exact hR.grown.2.2
        · exact hR.ge id blk hold hb
      · intro id id' blk hold hb hb'
        split at hb
        · rename_i e1
          cases hb
          split at hb'
          · rename_i e2; rw [e1, e2]
          · have := hR.h.lt _ _ hb'; omega
        · rename_i e1
          split at hb'
          · cases hb'
            have := hR.h.lt _ _ hb; omega
          · exact hR.inj id id' blk hold hb hb'
      · intro id hid
        simp at hid
        rw [if_neg (by omega)]
        exact hR.fresh id (by omega)
  · rw [if_pos (wanted_sound (E := E) (β := β) (a := a) hw fun j want t _ _ => hget t)]
    refine .inl ?_
    obtain ⟨W', h1, h2, h3, h4⟩ := storeA_sound hst (hev x) (hev y) hR.h hR.grown hR.ge hR.inj
    have hrun : OpRuns P o a W fun u W'' => u = undef ∧ W'' = W' := opRuns_skip (by unfold execOp; simp only [hop]; rw [Sem.run_bind, h1]; rfl) ⟨rfl, rfl⟩
    refine hrun.wp fun u W'' ⟨e1, e2⟩ => ?_
    subst e1; subst e2
    exact hK β _ _ ⟨by rw [size_put, length_put]; exact hR.size, vals_put hR.size hR.vals (Ext.refl β) rfl, by rw [defers_put]; exact hR.defers, h2, hR.ge, hR.inj, h3, fun id hid => hR.fresh id (by omega), by have := hR.le; omega⟩
  · rw [if_neg (by rw [wanted_sound (E := E) (β := β) (a := a) hw fun j want t _ _ => hget t]; simp)]
    exact hK β _ W ⟨by rw [size_put, length_put]; exact hR.size, vals_put hR.size hR.vals (Ext.refl β) rfl, by rw [defers_put]; exact hR.defers, hR.h, hR.ge, hR.inj, hR.grown, hR.fresh, hR.le⟩

/-- A region that does not draw. -/
theorem text_sound {tm : Nat → List V} {hp : Nat → List (List SV)} {vl : Nat → V} {Q : Exit → Act → World → Prop} (hseq : Seq E P ops old ops.toList tm hp vl)
    (hQ : ∀ β' a' W', Rel E W0 β' (tm ops.size) (hp ops.size) old a' W' → Q .normal a' W') :
    ∀ (k m : Nat) (β : Beta) (a : Act) (W : World), m + k = ops.size → Rel E W0 β (tm m) (hp m) old a W → wpOps P ops Q (List.range' m k) a W
  | 0, m, β, a, W, hm, hR => by
    have : m = ops.size := by omega
    subst this
    exact hQ β a W hR
  | k + 1, m, β, a, W, hm, hR => by
    have hlt : m < ops.size := by omega
    have hi : ops[m]? = some ops[m] := Array.getElem?_eq_getElem hlt
    obtain ⟨h1, h2⟩ := hseq m ops[m] (by simp)
    rw [List.range'_succ, wpOps_cons]
    refine step_text hi h2 hR fun β' a' W' hR' => ?_
    rw [← h1] at hR'
    exact text_sound hseq hQ k (m + 1) β' a' W' (by omega) hR'

theorem region_text {id : Nat} {tm : Nat → List V} {hp : Nat → List (List SV)} {vl : Nat → V} {a : Act} {Q : Exit → Act → World → Prop} (hseq : Seq E P ops old ops.toList tm hp vl)
    (hR : Rel E W0 β (tm 0) (hp 0) old a W) (hQ : ∀ β' a' W', Rel E W0 β' (tm ops.size) (hp ops.size) old a' W' → Q .normal a' W') : (Code.region id ops false).wp P Q a W :=
  wp_region (by rw [List.range_eq_range']; exact text_sound hseq hQ ops.size 0 β a W (by omega) hR)

end
end Go.Sx
