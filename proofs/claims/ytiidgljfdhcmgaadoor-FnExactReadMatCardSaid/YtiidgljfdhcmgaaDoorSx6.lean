/-
  One operation, whatever it is: what it leaves in its temporary and in memory stands for what the run on symbols says. Conditions: none.
-/
import Derived.Test.YtiidgljfdhcmgaaDoorSx5
namespace Go.Sx
open Go.RowKit

/-- One operation is carried out (a call as a whole) and leaves a value and a world of this kind. -/
def OpRuns (P : Program) (o : Oper) (a : Act) (W : World) (R : Value → World → Prop) : Prop :=
  match (execOp a.eval o).run P W with
  | .ok (.value v) W' => R v W'
  | .ok .skip W' => R undef W'
  | .ok (.enter f args) W' => Calls P f args W' fun e W'' => ∃ v, e = .returned v ∧ R v W''
  | _ => False

def CallRuns (P : Program) (f : FuncId) (args : Array Value) (W : World) (R : Value → World → Prop) : Prop :=
  match (callFunc f args).run P W with
  | .ok (.value v) W' => R v W'
  | .ok .skip W' => R undef W'
  | .ok (.enter g as) W' => Calls P g as W' fun e W'' => ∃ v, e = .returned v ∧ R v W''
  | _ => False

section
variable {P : Program}

theorem OpRuns.mono {o : Oper} {a : Act} {W : World} {R R' : Value → World → Prop} (h : OpRuns P o a W R) (hr : ∀ v W', R v W' → R' v W') : OpRuns P o a W R' := by
  unfold OpRuns at *
  split
  · rename_i e; rw [e] at h; exact hr _ _ h
  · rename_i e; rw [e] at h; exact hr _ _ h
  · rename_i e; rw [e] at h; exact Calls.mono h fun e W'' ⟨v, h1, h2⟩ => ⟨v, h1, hr _ _ h2⟩
  · rename_i n1 n2 n3
    split at h
    · exact absurd (by assumption) (n1 _ _)
    · exact absurd (by assumption) (n2 _)
    · exact absurd (by assumption) (n3 _ _ _)
    · exact h

theorem OpRuns.wp {o : Oper} {a : Act} {W : World} {R : Value → World → Prop} {next : Act → World → Prop} {Q : Exit → Act → World → Prop} (h : OpRuns P o a W R)
    (hn : ∀ v W', R v W' → next (a.put o.dst v) W') : o.wp P a W next Q := by
  unfold OpRuns at h
  unfold Oper.wp
  split at h
  · rename_i e; rw [e]; exact hn _ _ h
  · rename_i e; rw [e]; exact hn _ _ h
  · rename_i e; rw [e]; exact Calls.mono h fun e W'' ⟨v, h1, h2⟩ => by subst h1; exact hn _ _ h2
  · exact h.elim

theorem opRuns_value {o : Oper} {a : Act} {W W' : World} {R : Value → World → Prop} {v : Value} (h : (execOp a.eval o).run P W = .ok (.value v) W') (hr : R v W') : OpRuns P o a W R := by
  unfold OpRuns; rw [h]; exact hr
theorem opRuns_skip {o : Oper} {a : Act} {W W' : World} {R : Value → World → Prop} (h : (execOp a.eval o).run P W = .ok .skip W') (hr : R undef W') : OpRuns P o a W R := by
  unfold OpRuns; rw [h]; exact hr

/-- The frame: 'v'-operations of the table. -/
theorem run_v {s : Sem Value} {W W' : World} {v : Value} (h : s.run P W = .ok v W') : (do pure (Next.value (← s)) : Sem Next).run P W = .ok (.value v) W' := by
  rw [Sem.run_bind, h]; rfl

theorem exec_call {o : Oper} {c : Call} {f : FuncId} (ho : o.op = .call c) (hc : c.callee = .value (.func f)) (a : Act) (W : World) :
    (execOp a.eval o).run P W = (callFunc f (c.args.map a.eval)).run P W := by
  unfold execOp
  simp only [ho]
  unfold resolve
  simp only [hc, Act.eval, Deferred.ofValue]
  simp [invoke]

theorem opRuns_call {o : Oper} {c : Call} {f : FuncId} (ho : o.op = .call c) (hc : c.callee = .value (.func f)) {a : Act} {W : World} {R : Value → World → Prop}
    (h : CallRuns P f (c.args.map a.eval) W R) : OpRuns P o a W R := by
  unfold OpRuns CallRuns at *
  rw [exec_call ho hc]; exact h

end

def VsRel (E : Env) (β : Beta) (l : List V) (r : List Value) : Prop :=
  l.length = r.length ∧ ∀ (i : Nat) (s : V) (v : Value), l[i]? = some s → r[i]? = some v → VRel E β s v

theorem VsRel.map {E : Env} {β : Beta} {tmps : List V} {a : Act} {xs : List Operand} (h : ∀ x ∈ xs, VRel E β (evA tmps x) (a.eval x)) : VsRel E β (xs.map (evA tmps)) (xs.map a.eval) := by
  refine ⟨by simp, fun i s v h1 h2 => ?_⟩
  rw [List.getElem?_map] at h1 h2
  cases hx : xs[i]? with
  | none => rw [hx] at h1; cases h1
  | some x => rw [hx] at h1 h2; cases h1; cases h2; exact h x (List.mem_of_getElem? hx)

def KnownRel (E : Env) (β : Beta) (kn : Known) (v : Value) : Prop :=
  match kn with
  | .val sv => VRel E β sv v
  | .test a => v = .bool (holds E a)
  | .tree t => VRel E β (t.pick E) v

/-- What the table of functions known beforehand owes. -/
def SumOK (E : Env) (P : Program) (S : FuncId → List V → Option Known) : Prop :=
  ∀ f args kn, S f args = some kn → ∀ (β : Beta) (vals : List Value) (W : World), VsRel E β args vals → CallRuns P f vals.toArray W fun v W' => Grown W W' ∧ KnownRel E β kn v

def CallOK (E : Env) (P : Program) (call : FuncId → List V → St → (V → Facts → Bool) → Bool) : Prop :=
  ∀ f args st K, call f args st K = true → FactsOK E st.facts → ∃ sv fs, K sv fs = true ∧ FactsOK E fs ∧
    ∀ (β : Beta) (vals : List Value) (W : World), VsRel E β args vals → HRel E β st.heap W → CallRuns P f vals.toArray W fun v W' => VRel E β sv v ∧ Grown W W'

/-- What an operation that is no store does. -/
inductive Eff (E : Env) (P : Program) (o : Oper) (tmps : List V) (heap : List (List SV)) : V → List (List SV) → Prop where
  | pure {sv : V} (h : ∀ (β : Beta) (a : Act) (W : World), (∀ x ∈ o.op.operands, VRel E β (evA tmps x) (a.eval x)) → HRel E β heap W →
      OpRuns P o a W fun v W' => VRel E β sv v ∧ Grown W W') : Eff E P o tmps heap sv heap
  | new {sv : V} {l : List SV} (h : ∀ (β : Beta) (a : Act) (W : World), (∀ x ∈ o.op.operands, VRel E β (evA tmps x) (a.eval x)) → HRel E β heap W →
      OpRuns P o a W fun v W' => ∃ cells ty, W' = W.alloc (.cells cells ty) ∧ LRel E β l cells.toList ∧ ∀ β', Ext β β' → β' heap.length = some W.heap.size → VRel E β' sv v) :
      Eff E P o tmps heap sv (heap ++ [l])

section
variable {E : Env} {P : Program} {S : FuncId → List V → Option Known} {call : FuncId → List V → St → (V → Facts → Bool) → Bool}

theorem evParts_eq (tmps : List V) : ∀ l : List (Nat × Operand), evParts tmps l = l.map fun p => (p.1, evA tmps p.2)
  | [] => rfl
  | (i, x) :: r => by simp [evParts, evParts_eq tmps r]

theorem parts_rel {β : Beta} {tmps : List V} {a : Act} {l : List (Nat × Operand)} (h : ∀ x ∈ l.map (·.2), VRel E β (evA tmps x) (a.eval x)) :
    ∀ (i : Nat) (p : Nat × V) (q : Nat × Value), (evParts tmps l)[i]? = some p → (l.map fun p => (p.1, a.eval p.2))[i]? = some q → p.1 = q.1 ∧ VRel E β p.2 q.2 := by
  intro i p q hp hq
  rw [evParts_eq, List.getElem?_map] at hp
  rw [List.getElem?_map] at hq
  cases hx : l[i]? with
  | none => rw [hx] at hp; cases hp
  | some x =>
    rw [hx] at hp hq; cases hp; cases hq
    exact ⟨rfl, h x.2 (List.mem_map.2 ⟨x, List.mem_of_getElem? hx, rfl⟩)⟩

theorem buildSliceA_sound {t : TypeId} {n : Nat} {parts : List (Nat × V)} {vals : List (Nat × Value)} {l : List SV} {β : Beta} {W : World} (h : buildSliceA P t n parts = some l) (hn : parts.length = vals.length)
    (hp : ∀ (i : Nat) (p : Nat × V) (q : Nat × Value), parts[i]? = some p → vals[i]? = some q → p.1 = q.1 ∧ VRel E β p.2 q.2) :
    ∃ cells ty, (Instr.buildSlice t n vals.toArray).run P W = .ok (.slice (some ⟨W.heap.size, 0, none⟩) n n) (W.alloc (.cells cells ty)) ∧ LRel E β l cells.toList := by
  unfold buildSliceA at h
  split at h
  · rename_i elem hu
    split at h
    · rename_i i z hi hz
      split at h
      · rename_i hc
        simp only [Bool.and_eq_true] at hc
        have h1 := Nat.eq_of_beq_eq_true hc.1.1
        have h2 := Nat.le_of_ble_eq_true hc.1.2
        have h3 := Nat.le_of_ble_eq_true hc.2
        obtain ⟨zv, hz1, hz2⟩ := zeroA_sound (W := W) (E := E) (β := β) hz
        have hzs : zv.cells.size = 1 := by have := hz2.1; simpa using this.symm
        have hrow : ((Array.range (n * i.size)).map fun j => zv.cells[j % zv.cells.size]!).toList = List.replicate n zv.cells[0]! := by
          rw [h1, Nat.mul_one]
          apply List.ext_getElem?
          intro k
          simp only [Array.toList_map, Array.toList_range, List.getElem?_map, hzs, Nat.mod_one, List.getElem?_replicate]
          by_cases hk : k < n
          · simp [hk]
          · simp [hk]
        obtain ⟨arr', hf1, hf2⟩ := fillA_sound (arr := (Array.range (n * i.size)).map fun j => zv.cells[j % zv.cells.size]!) h (by
          rw [hrow]
          refine LRel.replicate ?_ n
          have hg := hz2.2 0 z zv.cells[0]! rfl (by simp [hzs])
          exact hg) hn hp
        refine ⟨arr', elem, ?_, hf2⟩
        have hnz : ¬ (n * i.size = 0) := by rw [h1]; omega
        have hle : ¬ (n * i.size > 2 ^ 24) := by rw [h1]; omega
        rw [h1] at hf1
        simp only [Nat.mul_one] at hf1
        simp only [Instr.buildSlice, Sem.run_bind, run_underlying hu, Result.andThen_ok, run_size hi]
        rw [if_neg hle, if_neg hnz]
        simp [hz1, h1, hf1, newRow]
      · cases h
    · cases h
  · cases h

theorem opA_sound {o : Oper} {tmps : List V} {st : St} {K : V → St → Bool} (hS : SumOK E P S) (hcall : CallOK E P call)
    (h : opA P S call o.op tmps st K = true) (hf : FactsOK E st.facts) :
    ∃ sv st', K sv st' = true ∧ FactsOK E st'.facts ∧ st'.old = st.old ∧ Eff E P o tmps st.heap sv st'.heap := by
  unfold opA at h
  split at h
  · -- move
    rename_i x ho
    rw [forceV_eq] at h
    exact ⟨_, st, h, hf, rfl, .pure fun β a W hx _ => opRuns_value (v := a.eval x) (by unfold execOp; simp only [ho]; rfl) ⟨hx x (by simp [ho, Op.operands]), Grown.refl _⟩⟩
  · rename_i x ho
    rw [forceV_eq] at h
    exact ⟨_, st, h, hf, rfl, .pure fun β a W hx _ => opRuns_value (v := a.eval x) (by unfold execOp; simp only [ho]; rfl) ⟨hx x (by simp [ho, Op.operands]), Grown.refl _⟩⟩
  · -- pick
    rename_i c x y ho
    split at h
    · rename_i hc
      rw [forceV_eq] at h
      refine ⟨_, st, h, hf, rfl, .pure fun β a W hx _ => ?_⟩
      have h1 := hx c (by simp [ho, Op.operands])
      rw [hc] at h1
      have h1' : a.eval c = .bool true := h1
      exact opRuns_value (v := a.eval x) (W' := W) (by unfold execOp; simp [ho, h1', asBool]) ⟨hx x (by simp [ho, Op.operands]), Grown.refl _⟩
    · rename_i hc
      rw [forceV_eq] at h
      refine ⟨_, st, h, hf, rfl, .pure fun β a W hx _ => ?_⟩
      have h1 := hx c (by simp [ho, Op.operands])
      rw [hc] at h1
      have h1' : a.eval c = .bool false := h1
      exact opRuns_value (v := a.eval y) (W' := W) (by unfold execOp; simp [ho, h1', asBool]) ⟨hx y (by simp [ho, Op.operands]), Grown.refl _⟩
    · cases h
  · -- alloc
    rename_i t ho
    split at h
    · rename_i l hl
      rw [forceSL_eq, forceL_eq, forceNat_eq] at h
      refine ⟨_, _, h, hf, rfl, .new fun β a W hx hr => ?_⟩
      obtain ⟨z, hz1, hz2⟩ := zeroA_sound (W := W) (E := E) (β := β) hl
      refine opRuns_value (v := .pointer (some ⟨W.heap.size, 0, none⟩)) (W' := W.alloc (.cells z.cells t)) ?_ ⟨z.cells, t, rfl, hz2, fun β' _ hb => ⟨_, hb, rfl⟩⟩
      unfold execOp
      simp [ho, Instr.alloc, hz1, newVar, newRow]
    · cases h
  · -- box
    rename_i t x ho
    split at h
    · rename_i l hl
      rw [forceSL_eq, forceL_eq, forceNat_eq] at h
      refine ⟨_, _, h, hf, rfl, .new fun β a W hx hr => ?_⟩
      refine opRuns_value (v := .pointer (some ⟨W.heap.size, 0, none⟩)) (W' := W.alloc (.cells (a.eval x).cells t)) ?_ ⟨(a.eval x).cells, t, rfl, cellsV_rel hl (hx x (by simp [ho, Op.operands])), fun β' _ hb => ⟨_, hb, rfl⟩⟩
      unfold execOp
      simp [ho, Instr.box, newVar, newRow]
    · cases h
  · -- build
    rename_i t parts ho
    split at h
    · rename_i v hv
      rw [forceV_eq] at h
      refine ⟨_, st, h, hf, rfl, .pure fun β a W hx _ => ?_⟩
      obtain ⟨y, h1, h2⟩ := buildA_sound (W := W) (E := E) (β := β) (vals := parts.toList.map fun p => (p.1, a.eval p.2)) hv (by simp [evParts_eq])
        (parts_rel fun x hx' => hx x (by simpa [ho, Op.operands] using hx'))
      refine opRuns_value (v := y) (W' := W) ?_ ⟨h2, Grown.refl _⟩
      unfold execOp
      simp only [ho]
      refine run_v ?_
      rw [← h1]
      congr 2
      apply Array.ext'
      simp
    · cases h
  · -- buildSlice
    rename_i t n parts ho
    split at h
    · rename_i l hl
      rw [forceSL_eq, forceL_eq, forceNat_eq] at h
      refine ⟨_, _, h, hf, rfl, .new fun β a W hx hr => ?_⟩
      obtain ⟨cells, ty, h1, h2⟩ := buildSliceA_sound (W := W) (E := E) (β := β) (vals := parts.toList.map fun p => (p.1, a.eval p.2)) hl (by simp [evParts_eq])
        (parts_rel fun x hx' => hx x (by simpa [ho, Op.operands] using hx'))
      refine opRuns_value (v := .slice (some ⟨W.heap.size, 0, none⟩) n n) (W' := W.alloc (.cells cells ty)) ?_ ⟨cells, ty, rfl, h2, fun β' _ hb => ⟨_, hb, rfl⟩⟩
      unfold execOp
      simp only [ho]
      refine run_v ?_
      rw [← h1]
      congr 2
      apply Array.ext'
      simp
    · cases h
  · -- load
    rename_i t x ho
    split at h
    · rename_i v hv
      rw [forceV_eq] at h
      refine ⟨_, st, h, hf, rfl, .pure fun β a W hx hr => ?_⟩
      obtain ⟨y, h1, h2⟩ := loadA_sound (W := W) hv (hx x (by simp [ho, Op.operands])) hr
      refine opRuns_value (v := y) (W' := W) ?_ ⟨h2, Grown.refl _⟩
      unfold execOp
      simp only [ho]
      exact run_v h1
    · cases h
  · -- binOp
    rename_i op t x y yt ho
    obtain ⟨sv, fs, h1, h2, h3⟩ := binA_sound h hf
    refine ⟨sv, { st with facts := fs }, h1, h2, rfl, .pure fun β a W hx _ => ?_⟩
    obtain ⟨v, n, h4, h5⟩ := h3 β x y (a.eval x) (a.eval y) W (hx x (by simp [ho, Op.operands])) (hx y (by simp [ho, Op.operands]))
    refine opRuns_value (v := v) (W' := W.drewN n) ?_ ⟨h5, Grown.drewN (Grown.refl _) n⟩
    unfold execOp
    simp only [ho]
    exact run_v h4
  · -- unOp
    rename_i op t x ho
    split at h
    · rename_i v hv
      rw [forceV_eq] at h
      refine ⟨_, st, h, hf, rfl, .pure fun β a W hx _ => ?_⟩
      obtain ⟨y, h1, h2⟩ := unA_sound (P := P) (W := W) hv (hx x (by simp [ho, Op.operands]))
      refine opRuns_value (v := y) (W' := W) ?_ ⟨h2, Grown.refl _⟩
      unfold execOp
      simp only [ho]
      exact run_v h1
    · cases h
  · -- convert
    rename_i src dst x ho
    split at h
    · rename_i v hv
      rw [forceV_eq] at h
      refine ⟨_, st, h, hf, rfl, .pure fun β a W hx _ => ?_⟩
      obtain ⟨y, n, h1, h2⟩ := convertA_sound (P := P) (W := W) hv hf (hx x (by simp [ho, Op.operands]))
      refine opRuns_value (v := y) (W' := W.drewN n) ?_ ⟨h2, Grown.drewN (Grown.refl _) n⟩
      unfold execOp
      simp only [ho]
      exact run_v h1
    · cases h
  · -- indexAddr
    rename_i t x i ho
    split at h
    · rename_i v hv
      rw [forceV_eq] at h
      refine ⟨_, st, h, hf, rfl, .pure fun β a W hx _ => ?_⟩
      obtain ⟨y, h1, h2⟩ := indexAddrA_sound (P := P) (W := W) hv (hx x (by simp [ho, Op.operands])) (hx i (by simp [ho, Op.operands]))
      refine opRuns_value (v := y) (W' := W) ?_ ⟨h2, Grown.refl _⟩
      unfold execOp
      simp only [ho]
      exact run_v h1
    · cases h
  · -- index
    rename_i t x i ho
    split at h
    · rename_i v hv
      rw [forceV_eq] at h
      refine ⟨_, st, h, hf, rfl, .pure fun β a W hx _ => ?_⟩
      obtain ⟨y, h1, h2⟩ := indexA_sound (P := P) (W := W) hv (hx x (by simp [ho, Op.operands])) (hx i (by simp [ho, Op.operands]))
      refine opRuns_value (v := y) (W' := W) ?_ ⟨h2, Grown.refl _⟩
      unfold execOp
      simp only [ho]
      exact run_v h1
    · cases h
  · -- slice
    rename_i t x ho
    split at h
    · rename_i v hv
      rw [forceV_eq] at h
      refine ⟨_, st, h, hf, rfl, .pure fun β a W hx _ => ?_⟩
      obtain ⟨y, h1, h2⟩ := sliceA_sound (P := P) (W := W) hv (hx x (by simp [ho, Op.operands]))
      refine opRuns_value (v := y) (W' := W) ?_ ⟨h2, Grown.refl _⟩
      unfold execOp
      simp only [ho]
      exact run_v h1
    · cases h
  · -- extract
    rename_i x i ho
    split at h
    · rename_i p q hx0
      split at h
      · refine ⟨_, st, h, hf, rfl, .pure fun β a W hx _ => ?_⟩
        have h1 := hx x (by simp [ho, Op.operands])
        rw [hx0] at h1
        obtain ⟨u, w, h2, h3, h4⟩ := h1
        refine opRuns_value (v := u) (W' := W) ?_ ⟨h3, Grown.refl _⟩
        unfold execOp
        simp only [ho]
        exact run_v (by rw [h2]; rfl)
      · refine ⟨_, st, h, hf, rfl, .pure fun β a W hx _ => ?_⟩
        have h1 := hx x (by simp [ho, Op.operands])
        rw [hx0] at h1
        obtain ⟨u, w, h2, h3, h4⟩ := h1
        refine opRuns_value (v := w) (W' := W) ?_ ⟨h4, Grown.refl _⟩
        unfold execOp
        simp only [ho]
        exact run_v (by rw [h2]; rfl)
      · cases h
    · cases h
  · -- call
    rename_i c ho
    split at h
    · rename_i f hc
      have hargs : ∀ (β : Beta) (a : Act), (∀ x ∈ o.op.operands, VRel E β (evA tmps x) (a.eval x)) → VsRel E β (c.args.toList.map (evA tmps)) (c.args.toList.map a.eval) := fun β a hx =>
        VsRel.map fun x hxm => hx x (by simp [ho, Op.operands, Call.operands, hc]; exact .inr (by simpa using hxm))
      have harr : ∀ a : Act, (c.args.toList.map a.eval).toArray = c.args.map a.eval := fun a => by apply Array.ext'; simp
      split at h
      · rename_i v hv
        rw [forceV_eq] at h
        refine ⟨_, st, h, hf, rfl, .pure fun β a W hx _ => ?_⟩
        have h1 := hS _ _ _ hv β _ W (hargs β a hx)
        rw [harr] at h1
        exact (opRuns_call ho hc h1).mono fun v W' hh => ⟨hh.2, hh.1⟩
      · rename_i atm hv
        obtain ⟨fs, h1, h2⟩ := ask_sound h hf
        rw [forceSV_eq] at h1
        refine ⟨_, { st with facts := fs }, h1, h2, rfl, .pure fun β a W hx _ => ?_⟩
        have h1 := hS _ _ _ hv β _ W (hargs β a hx)
        rw [harr] at h1
        exact (opRuns_call ho hc h1).mono fun v W' hh => ⟨hh.2, hh.1⟩
      · rename_i tr hv
        obtain ⟨fs, h1, h2⟩ := treeA_sound h hf
        rw [forceV_eq] at h1
        refine ⟨_, { st with facts := fs }, h1, h2, rfl, .pure fun β a W hx _ => ?_⟩
        have h1 := hS _ _ _ hv β _ W (hargs β a hx)
        rw [harr] at h1
        exact (opRuns_call ho hc h1).mono fun v W' hh => ⟨hh.2, hh.1⟩
      · obtain ⟨sv, fs, h1, h2, h3⟩ := hcall _ _ _ _ h hf
        refine ⟨sv, { st with facts := fs }, h1, h2, rfl, .pure fun β a W hx hr => ?_⟩
        have h4 := h3 β _ W (hargs β a hx) hr
        rw [harr] at h4
        exact opRuns_call ho hc h4
    · -- min
      rename_i hc
      split at h
      · rename_i x y hxs
        split at h
        · rename_i k p k' q hx0 hy0
          split at h
          · rename_i hk
            have hkk := fk_inj hk
            subst hkk
            rw [forceNat_eq] at h
            refine ⟨_, st, h, hf, rfl, .pure fun β a W hx _ => ?_⟩
            have hmx := hx x (by simp [ho, Op.operands, Call.operands, hc]; rw [← Array.mem_toList_iff, hxs]; simp)
            have hmy := hx y (by simp [ho, Op.operands, Call.operands, hc]; rw [← Array.mem_toList_iff, hxs]; simp)
            rw [hx0] at hmx; rw [hy0] at hmy
            obtain ⟨u, h1, h2⟩ := hmx
            obtain ⟨w, h3, h4⟩ := hmy
            obtain ⟨r, n, h5, h6⟩ := run_min2 (P := P) k u w W
            have hargs : c.args.map a.eval = #[.float k u, .float k w] := by apply Array.ext'; rw [Array.toList_map, hxs]; simp [h1, h3]
            refine opRuns_value (v := .float k r) (W' := W.drewN n) ?_ ⟨⟨r, rfl, ?_⟩, Grown.drewN (Grown.refl _) n⟩
            · unfold execOp
              simp [ho, resolve, hc, invoke, builtin, Builtin.min_, hargs, h5]
            · rw [h6, h2, h4]
              have e1 : (2 * fk k) % 2 = 0 := by omega
              have e2 : kindOf (2 * fk k / 2) = k := by cases k <;> rfl
              simp only [den, e2, e1]
              rfl
          · cases h
        · cases h
      · cases h
    · -- max
      rename_i hc
      split at h
      · rename_i x y hxs
        split at h
        · rename_i k p k' q hx0 hy0
          split at h
          · rename_i hk
            have hkk := fk_inj hk
            subst hkk
            rw [forceNat_eq] at h
            refine ⟨_, st, h, hf, rfl, .pure fun β a W hx _ => ?_⟩
            have hmx := hx x (by simp [ho, Op.operands, Call.operands, hc]; rw [← Array.mem_toList_iff, hxs]; simp)
            have hmy := hx y (by simp [ho, Op.operands, Call.operands, hc]; rw [← Array.mem_toList_iff, hxs]; simp)
            rw [hx0] at hmx; rw [hy0] at hmy
            obtain ⟨u, h1, h2⟩ := hmx
            obtain ⟨w, h3, h4⟩ := hmy
            obtain ⟨r, n, h5, h6⟩ := run_max2 (P := P) k u w W
            have hargs : c.args.map a.eval = #[.float k u, .float k w] := by apply Array.ext'; rw [Array.toList_map, hxs]; simp [h1, h3]
            refine opRuns_value (v := .float k r) (W' := W.drewN n) ?_ ⟨⟨r, rfl, ?_⟩, Grown.drewN (Grown.refl _) n⟩
            · unfold execOp
              simp [ho, resolve, hc, invoke, builtin, Builtin.max_, hargs, h5]
            · rw [h6, h2, h4]
              have e2 : kindOf ((2 * fk k + 1) / 2) = k := by cases k <;> rfl
              simp only [den, e2]
              congr 1
              have : (2 * fk k + 1) % 2 = 1 := by omega
              simp [this]
          · cases h
        · cases h
      · cases h
    · -- len
      rename_i hc
      split at h
      · rename_i x t hxs hts
        have hat : c.argTypes = #[t] := by apply Array.ext'; simpa using hts
        have haa : ∀ a : Act, c.args.map a.eval = #[a.eval x] := fun a => by apply Array.ext'; rw [Array.toList_map, hxs]; rfl
        split at h
        · rename_i el id off len cap hu hx0
          rw [forceSV_eq] at h
          refine ⟨_, st, h, hf, rfl, .pure fun β a W hx _ => ?_⟩
          have hmx := hx x (by simp [ho, Op.operands, Call.operands, hc]; rw [← Array.mem_toList_iff, hxs]; simp)
          rw [hx0] at hmx
          obtain ⟨blk, hb, h1⟩ := hmx
          refine opRuns_value (v := .int .i64 len) (W' := W) ?_ ⟨rfl, Grown.refl _⟩
          unfold execOp
          simp [ho, resolve, hc, invoke, builtin, Builtin.len_, hat, haa, h1, run_underlying hu, goInt]
        · rename_i n el hu
          rw [forceSV_eq] at h
          refine ⟨_, st, h, hf, rfl, .pure fun β a W hx _ => ?_⟩
          refine opRuns_value (v := .int .i64 n) (W' := W) ?_ ⟨rfl, Grown.refl _⟩
          unfold execOp
          simp [ho, resolve, hc, invoke, builtin, Builtin.len_, hat, haa, run_underlying hu, goInt]
        · cases h
      · cases h
    · cases h
  · cases h

end
end Go.Sx
