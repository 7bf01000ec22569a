/-
  The symbolic executor, texts 6 to 10. Conditions: none.
-/
import Derived.Test.YtcoediecgmdkpaaSx5
import Derived.LoopN
import Derived.Scope
import Derived.ProofKit
import Derived.OpenShut
import Derived.Laws.Cover2
/-   One operation, whatever it is: what it leaves in its temporary and in memory stands for what the run on symbols says. Conditions: none. -/
namespace Go.Sx
open Go.RowKit

/-- One operation is carried out (a call as a whole) and leaves a value and a world of this kind. -/
def OpRuns (P : Program) (o : Oper) (a : Act) (W : World) (R : Value → World → Prop) : Prop :=
  match (execOp a.eval o).run P W with
  | .ok (.value v) W' => R v W'
  | .ok .skip W' => R undef W'
  | .ok (.enter f args) W' => Calls P f args W' fun e W'' => ∃ v, e = .returned v ∧ R v W''
  | _ => False

def CallRuns (P : Program) (f : FuncId) (args : Array Value) (W : World) (R : Value → World → Prop) : Prop :=
  match (callFunc f args).run P W with
  | .ok (.value v) W' => R v W'
  | .ok .skip W' => R undef W'
  | .ok (.enter g as) W' => Calls P g as W' fun e W'' => ∃ v, e = .returned v ∧ R v W''
  | _ => False

section
variable {P : Program}

theorem OpRuns.mono {o : Oper} {a : Act} {W : World} {R R' : Value → World → Prop} (h : OpRuns P o a W R) (hr : ∀ v W', R v W' → R' v W') : OpRuns P o a W R' := by
  unfold OpRuns at *
  split
  · rename_i e; rw [e] at h; exact hr _ _ h
  · rename_i e; rw [e] at h; exact hr _ _ h
  · rename_i e; rw [e] at h; exact Calls.mono h fun e W'' ⟨v, h1, h2⟩ => ⟨v, h1, hr _ _ h2⟩
  · rename_i n1 n2 n3
    split at h
    · exact absurd (by assumption) (n1 _ _)
    · exact absurd (by assumption) (n2 _)
    · exact absurd (by assumption) (n3 _ _ _)
    · exact h

theorem OpRuns.wp {o : Oper} {a : Act} {W : World} {R : Value → World → Prop} {next : Act → World → Prop} {Q : Exit → Act → World → Prop} (h : OpRuns P o a W R)
    (hn : ∀ v W', R v W' → next (a.put o.dst v) W') : o.wp P a W next Q := by
  unfold OpRuns at h
  unfold Oper.wp
  split at h
  · rename_i e; rw [e]; exact hn _ _ h
  · rename_i e; rw [e]; exact hn _ _ h
  · rename_i e; rw [e]; exact Calls.mono h fun e W'' ⟨v, h1, h2⟩ => by subst h1; exact hn _ _ h2
  · exact h.elim

theorem opRuns_value {o : Oper} {a : Act} {W W' : World} {R : Value → World → Prop} {v : Value} (h : (execOp a.eval o).run P W = .ok (.value v) W') (hr : R v W') : OpRuns P o a W R := by
  unfold OpRuns; rw [h]; exact hr
theorem opRuns_skip {o : Oper} {a : Act} {W W' : World} {R : Value → World → Prop} (h : (execOp a.eval o).run P W = .ok .skip W') (hr : R undef W') : OpRuns P o a W R := by
  unfold OpRuns; rw [h]; exact hr

/-- The frame: 'v'-operations of the table. -/
theorem run_v {s : Sem Value} {W W' : World} {v : Value} (h : s.run P W = .ok v W') : (do pure (Next.value (← s)) : Sem Next).run P W = .ok (.value v) W' := by
  rw [Sem.run_bind, h]; rfl

theorem exec_call {o : Oper} {c : Call} {f : FuncId} (ho : o.op = .call c) (hc : c.callee = .value (.func f)) (a : Act) (W : World) :
    (execOp a.eval o).run P W = (callFunc f (c.args.map a.eval)).run P W := by
  unfold execOp
  simp only [ho]
  unfold resolve
  simp only [hc, Act.eval, Deferred.ofValue]
  simp [invoke]

theorem opRuns_call {o : Oper} {c : Call} {f : FuncId} (ho : o.op = .call c) (hc : c.callee = .value (.func f)) {a : Act} {W : World} {R : Value → World → Prop}
    (h : CallRuns P f (c.args.map a.eval) W R) : OpRuns P o a W R := by
  unfold OpRuns CallRuns at *
  rw [exec_call ho hc]; exact h

end

def VsRel (E : Env) (β : Beta) (l : List V) (r : List Value) : Prop :=
  l.length = r.length ∧ ∀ (i : Nat) (s : V) (v : Value), l[i]? = some s → r[i]? = some v → VRel E β s v

theorem VsRel.map {E : Env} {β : Beta} {tmps : List V} {a : Act} {xs : List Operand} (h : ∀ x ∈ xs, VRel E β (evA tmps x) (a.eval x)) : VsRel E β (xs.map (evA tmps)) (xs.map a.eval) := by
  refine ⟨by simp, fun i s v h1 h2 => ?_⟩
  rw [List.getElem?_map] at h1 h2
  cases hx : xs[i]? with
  | none => rw [hx] at h1; cases h1
  | some x => rw [hx] at h1 h2; cases h1; cases h2; exact h x (List.mem_of_getElem? hx)

def KnownRel (E : Env) (β : Beta) (kn : Known) (v : Value) : Prop :=
  match kn with
  | .val sv => VRel E β sv v
  | .test a => v = .bool (holds E a)
  | .tree t => VRel E β (t.pick E) v

/-- What the table of functions known beforehand owes. -/
def SumOK (E : Env) (P : Program) (S : FuncId → List V → Option Known) : Prop :=
  ∀ f args kn, S f args = some kn → ∀ (β : Beta) (vals : List Value) (W : World), VsRel E β args vals → E.inv W → CallRuns P f vals.toArray W fun v W' => Gr W W' ∧ KnownRel E β kn v

def CallOK (E : Env) (P : Program) (call : FuncId → List V → St → (V → Facts → Bool) → Bool) : Prop :=
  ∀ f args st K, call f args st K = true → FactsOK E st.facts → ∃ sv fs, K sv fs = true ∧ FactsOK E fs ∧
    ∀ (β : Beta) (vals : List Value) (W : World), VsRel E β args vals → HRel E β st.heap W → CallRuns P f vals.toArray W fun v W' => VRel E β sv v ∧ Gr W W'

/-- What an operation that is no store does. -/
inductive Eff (E : Env) (P : Program) (o : Oper) (tmps : List V) (heap : List (List SV)) : V → List (List SV) → Prop where
  | pure {sv : V} (h : ∀ (β : Beta) (a : Act) (W : World), (∀ x ∈ o.op.operands, VRel E β (evA tmps x) (a.eval x)) → HRel E β heap W →
      OpRuns P o a W fun v W' => VRel E β sv v ∧ Gr W W') : Eff E P o tmps heap sv heap
  | new {sv : V} {l : List SV} (h : ∀ (β : Beta) (a : Act) (W : World), (∀ x ∈ o.op.operands, VRel E β (evA tmps x) (a.eval x)) → HRel E β heap W →
      OpRuns P o a W fun v W' => ∃ cells ty, W' = W.alloc (.cells cells ty) ∧ LRel E β l cells.toList ∧ ∀ β', Ext β β' → β' heap.length = some W.heap.size → VRel E β' sv v) :
      Eff E P o tmps heap sv (heap ++ [l])

section
variable {E : Env} {P : Program} {S : FuncId → List V → Option Known} {call : FuncId → List V → St → (V → Facts → Bool) → Bool}

theorem evParts_eq (tmps : List V) : ∀ l : List (Nat × Operand), evParts tmps l = l.map fun p => (p.1, evA tmps p.2)
  | [] => rfl
  | (i, x) :: r => by simp [evParts, evParts_eq tmps r]

theorem parts_rel {β : Beta} {tmps : List V} {a : Act} {l : List (Nat × Operand)} (h : ∀ x ∈ l.map (·.2), VRel E β (evA tmps x) (a.eval x)) :
    ∀ (i : Nat) (p : Nat × V) (q : Nat × Value), (evParts tmps l)[i]? = some p → (l.map fun p => (p.1, a.eval p.2))[i]? = some q → p.1 = q.1 ∧ VRel E β p.2 q.2 := by
  intro i p q hp hq
  rw [evParts_eq, List.getElem?_map] at hp
  rw [List.getElem?_map] at hq
  cases hx : l[i]? with
  | none => rw [hx] at hp; cases hp
  | some x =>
    rw [hx] at hp hq; cases hp; cases hq
    exact ⟨rfl, h x.2 (List.mem_map.2 ⟨x, List.mem_of_getElem? hx, rfl⟩)⟩

theorem buildSliceA_sound {t : TypeId} {n : Nat} {parts : List (Nat × V)} {vals : List (Nat × Value)} {l : List SV} {β : Beta} {W : World} (h : buildSliceA P t n parts = some l) (hn : parts.length = vals.length)
    (hp : ∀ (i : Nat) (p : Nat × V) (q : Nat × Value), parts[i]? = some p → vals[i]? = some q → p.1 = q.1 ∧ VRel E β p.2 q.2) :
    ∃ cells ty, (Instr.buildSlice t n vals.toArray).run P W = .ok (.slice (some ⟨W.heap.size, 0, none⟩) n n) (W.alloc (.cells cells ty)) ∧ LRel E β l cells.toList := by
  unfold buildSliceA at h
  split at h
  · rename_i elem hu
    split at h
    · rename_i i z hi hz
      split at h
      · rename_i hc
        simp only [Bool.and_eq_true] at hc
        have h1 := Nat.eq_of_beq_eq_true hc.1.1
        have h2 := Nat.le_of_ble_eq_true hc.1.2
        have h3 := Nat.le_of_ble_eq_true hc.2
        obtain ⟨zv, hz1, hz2⟩ := zeroA_sound (W := W) (E := E) (β := β) hz
        have hzs : zv.cells.size = 1 := by have := hz2.1; simpa using this.symm
        have hrow : ((Array.range (n * i.size)).map fun j => zv.cells[j % zv.cells.size]!).toList = List.replicate n zv.cells[0]! := by
          rw [h1, Nat.mul_one]
          apply List.ext_getElem?
          intro k
          simp only [Array.toList_map, Array.toList_range, List.getElem?_map, hzs, Nat.mod_one, List.getElem?_replicate]
          by_cases hk : k < n
          · simp [hk]
          · simp [hk]
        obtain ⟨arr', hf1, hf2⟩ := fillA_sound (arr := (Array.range (n * i.size)).map fun j => zv.cells[j % zv.cells.size]!) h (by
          rw [hrow]
          refine LRel.replicate ?_ n
          have hg := hz2.2 0 z zv.cells[0]! rfl (by simp [hzs])
          exact hg) hn hp
        refine ⟨arr', elem, ?_, hf2⟩
        have hnz : ¬ (n * i.size = 0) := by rw [h1]; omega
        have hle : ¬ (n * i.size > 2 ^ 24) := by rw [h1]; omega
        rw [h1] at hf1
        simp only [Nat.mul_one] at hf1
        simp only [Instr.buildSlice, Sem.run_bind, run_underlying hu, Result.andThen_ok, run_size hi]
        rw [if_neg hle, if_neg hnz]
        simp [hz1, h1, hf1, newRow]
      · cases h
    · cases h
  · cases h

theorem opA_sound {o : Oper} {tmps : List V} {st : St} {K : V → St → Bool} (hS : SumOK E P S) (hcall : CallOK E P call)
    (h : opA P S call o.op tmps st K = true) (hf : FactsOK E st.facts) :
    ∃ sv st', K sv st' = true ∧ FactsOK E st'.facts ∧ st'.old = st.old ∧ Eff E P o tmps st.heap sv st'.heap := by
  unfold opA at h
  split at h
  · -- move
    rename_i x ho
    rw [forceV_eq] at h
    exact ⟨_, st, h, hf, rfl, .pure fun β a W hx _ => opRuns_value (v := a.eval x) (by unfold execOp; simp only [ho]; rfl) ⟨hx x (by simp [ho, Op.operands]), Gr.refl _⟩⟩
  · rename_i x ho
    rw [forceV_eq] at h
    exact ⟨_, st, h, hf, rfl, .pure fun β a W hx _ => opRuns_value (v := a.eval x) (by unfold execOp; simp only [ho]; rfl) ⟨hx x (by simp [ho, Op.operands]), Gr.refl _⟩⟩
  · -- pick
    rename_i c x y ho
    split at h
    · rename_i hc
      rw [forceV_eq] at h
      refine ⟨_, st, h, hf, rfl, .pure fun β a W hx _ => ?_⟩
      have h1 := hx c (by simp [ho, Op.operands])
      rw [hc] at h1
      have h1' : a.eval c = .bool true := h1
      exact opRuns_value (v := a.eval x) (W' := W) (by unfold execOp; simp [ho, h1', asBool]) ⟨hx x (by simp [ho, Op.operands]), Gr.refl _⟩
    · rename_i hc
      rw [forceV_eq] at h
      refine ⟨_, st, h, hf, rfl, .pure fun β a W hx _ => ?_⟩
      have h1 := hx c (by simp [ho, Op.operands])
      rw [hc] at h1
      have h1' : a.eval c = .bool false := h1
      exact opRuns_value (v := a.eval y) (W' := W) (by unfold execOp; simp [ho, h1', asBool]) ⟨hx y (by simp [ho, Op.operands]), Gr.refl _⟩
    · cases h
  · -- alloc
    rename_i t ho
    split at h
    · rename_i l hl
      rw [forceSL_eq, forceL_eq, forceNat_eq] at h
      refine ⟨_, _, h, hf, rfl, .new fun β a W hx hr => ?_⟩
      obtain ⟨z, hz1, hz2⟩ := zeroA_sound (W := W) (E := E) (β := β) hl
      refine opRuns_value (v := .pointer (some ⟨W.heap.size, 0, none⟩)) (W' := W.alloc (.cells z.cells t)) ?_ ⟨z.cells, t, rfl, hz2, fun β' _ hb => ⟨_, hb, rfl⟩⟩
      unfold execOp
      simp [ho, Instr.alloc, hz1, newVar, newRow]
    · cases h
  · -- box
    rename_i t x ho
    split at h
    · rename_i l hl
      rw [forceSL_eq, forceL_eq, forceNat_eq] at h
      refine ⟨_, _, h, hf, rfl, .new fun β a W hx hr => ?_⟩
      refine opRuns_value (v := .pointer (some ⟨W.heap.size, 0, none⟩)) (W' := W.alloc (.cells (a.eval x).cells t)) ?_ ⟨(a.eval x).cells, t, rfl, cellsV_rel hl (hx x (by simp [ho, Op.operands])), fun β' _ hb => ⟨_, hb, rfl⟩⟩
      unfold execOp
      simp [ho, Instr.box, newVar, newRow]
    · cases h
  · -- build
    rename_i t parts ho
    split at h
    · rename_i v hv
      rw [forceV_eq] at h
      refine ⟨_, st, h, hf, rfl, .pure fun β a W hx _ => ?_⟩
      obtain ⟨y, h1, h2⟩ := buildA_sound (W := W) (E := E) (β := β) (vals := parts.toList.map fun p => (p.1, a.eval p.2)) hv (by simp [evParts_eq])
        (parts_rel fun x hx' => hx x (by simpa [ho, Op.operands] using hx'))
      refine opRuns_value (v := y) (W' := W) ?_ ⟨h2, Gr.refl _⟩
      unfold execOp
      simp only [ho]
      refine run_v ?_
      rw [← h1]
      congr 2
      apply Array.ext'
      simp
    · cases h
  · -- buildSlice
    rename_i t n parts ho
    split at h
    · rename_i l hl
      rw [forceSL_eq, forceL_eq, forceNat_eq] at h
      refine ⟨_, _, h, hf, rfl, .new fun β a W hx hr => ?_⟩
      obtain ⟨cells, ty, h1, h2⟩ := buildSliceA_sound (W := W) (E := E) (β := β) (vals := parts.toList.map fun p => (p.1, a.eval p.2)) hl (by simp [evParts_eq])
        (parts_rel fun x hx' => hx x (by simpa [ho, Op.operands] using hx'))
      refine opRuns_value (v := .slice (some ⟨W.heap.size, 0, none⟩) n n) (W' := W.alloc (.cells cells ty)) ?_ ⟨cells, ty, rfl, h2, fun β' _ hb => ⟨_, hb, rfl⟩⟩
      unfold execOp
      simp only [ho]
      refine run_v ?_
      rw [← h1]
      congr 2
      apply Array.ext'
      simp
    · cases h
  · -- load
    rename_i t x ho
    split at h
    · rename_i v hv
      rw [forceV_eq] at h
      refine ⟨_, st, h, hf, rfl, .pure fun β a W hx hr => ?_⟩
      obtain ⟨y, h1, h2⟩ := loadA_sound (W := W) hv (hx x (by simp [ho, Op.operands])) hr
      refine opRuns_value (v := y) (W' := W) ?_ ⟨h2, Gr.refl _⟩
      unfold execOp
      simp only [ho]
      exact run_v h1
    · cases h
  · -- binOp
    rename_i op t x y yt ho
    obtain ⟨sv, fs, h1, h2, h3⟩ := binA_sound h hf
    refine ⟨sv, { st with facts := fs }, h1, h2, rfl, .pure fun β a W hx _ => ?_⟩
    obtain ⟨v, n, h4, h5⟩ := h3 β x y (a.eval x) (a.eval y) W (hx x (by simp [ho, Op.operands])) (hx y (by simp [ho, Op.operands]))
    refine opRuns_value (v := v) (W' := W.drewN n) ?_ ⟨h5, Gr.drewN (Gr.refl _) n⟩
    unfold execOp
    simp only [ho]
    exact run_v h4
  · -- unOp
    rename_i op t x ho
    split at h
    · rename_i v hv
      rw [forceV_eq] at h
      refine ⟨_, st, h, hf, rfl, .pure fun β a W hx _ => ?_⟩
      obtain ⟨y, h1, h2⟩ := unA_sound (P := P) (W := W) hv (hx x (by simp [ho, Op.operands]))
      refine opRuns_value (v := y) (W' := W) ?_ ⟨h2, Gr.refl _⟩
      unfold execOp
      simp only [ho]
      exact run_v h1
    · cases h
  · -- convert
    rename_i src dst x ho
    split at h
    · rename_i v hv
      rw [forceV_eq] at h
      refine ⟨_, st, h, hf, rfl, .pure fun β a W hx _ => ?_⟩
      obtain ⟨y, n, h1, h2⟩ := convertA_sound (P := P) (W := W) hv hf (hx x (by simp [ho, Op.operands]))
      refine opRuns_value (v := y) (W' := W.drewN n) ?_ ⟨h2, Gr.drewN (Gr.refl _) n⟩
      unfold execOp
      simp only [ho]
      exact run_v h1
    · cases h
  · -- indexAddr
    rename_i t x i ho
    split at h
    · rename_i v hv
      rw [forceV_eq] at h
      refine ⟨_, st, h, hf, rfl, .pure fun β a W hx _ => ?_⟩
      obtain ⟨y, h1, h2⟩ := indexAddrA_sound (P := P) (W := W) hv (hx x (by simp [ho, Op.operands])) (hx i (by simp [ho, Op.operands]))
      refine opRuns_value (v := y) (W' := W) ?_ ⟨h2, Gr.refl _⟩
      unfold execOp
      simp only [ho]
      exact run_v h1
    · cases h
  · -- index
    rename_i t x i ho
    split at h
    · rename_i v hv
      rw [forceV_eq] at h
      refine ⟨_, st, h, hf, rfl, .pure fun β a W hx _ => ?_⟩
      obtain ⟨y, h1, h2⟩ := indexA_sound (P := P) (W := W) hv (hx x (by simp [ho, Op.operands])) (hx i (by simp [ho, Op.operands]))
      refine opRuns_value (v := y) (W' := W) ?_ ⟨h2, Gr.refl _⟩
      unfold execOp
      simp only [ho]
      exact run_v h1
    · cases h
  · -- slice
    rename_i t x ho
    split at h
    · rename_i v hv
      rw [forceV_eq] at h
      refine ⟨_, st, h, hf, rfl, .pure fun β a W hx _ => ?_⟩
      obtain ⟨y, h1, h2⟩ := sliceA_sound (P := P) (W := W) hv (hx x (by simp [ho, Op.operands]))
      refine opRuns_value (v := y) (W' := W) ?_ ⟨h2, Gr.refl _⟩
      unfold execOp
      simp only [ho]
      exact run_v h1
    · cases h
  · -- extract
    rename_i x i ho
    split at h
    · rename_i p q hx0
      split at h
      · refine ⟨_, st, h, hf, rfl, .pure fun β a W hx _ => ?_⟩
        have h1 := hx x (by simp [ho, Op.operands])
        rw [hx0] at h1
        obtain ⟨u, w, h2, h3, h4⟩ := h1
        refine opRuns_value (v := u) (W' := W) ?_ ⟨h3, Gr.refl _⟩
        unfold execOp
        simp only [ho]
        exact run_v (by rw [h2]; rfl)
      · refine ⟨_, st, h, hf, rfl, .pure fun β a W hx _ => ?_⟩
        have h1 := hx x (by simp [ho, Op.operands])
        rw [hx0] at h1
        obtain ⟨u, w, h2, h3, h4⟩ := h1
        refine opRuns_value (v := w) (W' := W) ?_ ⟨h4, Gr.refl _⟩
        unfold execOp
        simp only [ho]
        exact run_v (by rw [h2]; rfl)
      · cases h
    · cases h
  · -- call
    rename_i c ho
    split at h
    · rename_i f hc
      have hargs : ∀ (β : Beta) (a : Act), (∀ x ∈ o.op.operands, VRel E β (evA tmps x) (a.eval x)) → VsRel E β (c.args.toList.map (evA tmps)) (c.args.toList.map a.eval) := fun β a hx =>
        VsRel.map fun x hxm => hx x (by simp [ho, Op.operands, Call.operands, hc]; exact .inr (by simpa using hxm))
      have harr : ∀ a : Act, (c.args.toList.map a.eval).toArray = c.args.map a.eval := fun a => by apply Array.ext'; simp
      split at h
      · rename_i v hv
        rw [forceV_eq] at h
        refine ⟨_, st, h, hf, rfl, .pure fun β a W hx hr => ?_⟩
        have h1 := hS _ _ _ hv β _ W (hargs β a hx) hr.inv
        rw [harr] at h1
        exact (opRuns_call ho hc h1).mono fun v W' hh => ⟨hh.2, hh.1⟩
      · rename_i atm hv
        obtain ⟨fs, h1, h2⟩ := ask_sound h hf
        rw [forceSV_eq] at h1
        refine ⟨_, { st with facts := fs }, h1, h2, rfl, .pure fun β a W hx hr => ?_⟩
        have h1 := hS _ _ _ hv β _ W (hargs β a hx) hr.inv
        rw [harr] at h1
        exact (opRuns_call ho hc h1).mono fun v W' hh => ⟨hh.2, hh.1⟩
      · rename_i tr hv
        obtain ⟨fs, h1, h2⟩ := treeA_sound h hf
        rw [forceV_eq] at h1
        refine ⟨_, { st with facts := fs }, h1, h2, rfl, .pure fun β a W hx hr => ?_⟩
        have h1 := hS _ _ _ hv β _ W (hargs β a hx) hr.inv
        rw [harr] at h1
        exact (opRuns_call ho hc h1).mono fun v W' hh => ⟨hh.2, hh.1⟩
      · obtain ⟨sv, fs, h1, h2, h3⟩ := hcall _ _ _ _ h hf
        refine ⟨sv, { st with facts := fs }, h1, h2, rfl, .pure fun β a W hx hr => ?_⟩
        have h4 := h3 β _ W (hargs β a hx) hr
        rw [harr] at h4
        exact opRuns_call ho hc h4
    · -- min
      rename_i hc
      split at h
      · rename_i x y hxs
        split at h
        · rename_i k p k' q hx0 hy0
          split at h
          · rename_i hk
            have hkk := fk_inj hk
            subst hkk
            rw [forceNat_eq] at h
            refine ⟨_, st, h, hf, rfl, .pure fun β a W hx _ => ?_⟩
            have hmx := hx x (by simp [ho, Op.operands, Call.operands, hc]; rw [← Array.mem_toList_iff, hxs]; simp)
            have hmy := hx y (by simp [ho, Op.operands, Call.operands, hc]; rw [← Array.mem_toList_iff, hxs]; simp)
            rw [hx0] at hmx; rw [hy0] at hmy
            obtain ⟨u, h1, h2⟩ := hmx
            obtain ⟨w, h3, h4⟩ := hmy
            obtain ⟨r, n, h5, h6⟩ := run_min2 (P := P) k u w W
            have hargs : c.args.map a.eval = #[.float k u, .float k w] := by apply Array.ext'; rw [Array.toList_map, hxs]; simp [h1, h3]
            refine opRuns_value (v := .float k r) (W' := W.drewN n) ?_ ⟨⟨r, rfl, ?_⟩, Gr.drewN (Gr.refl _) n⟩
            · unfold execOp
              simp [ho, resolve, hc, invoke, builtin, Builtin.min_, hargs, h5]
            · rw [h6, h2, h4]
              have e1 : (2 * fk k) % 2 = 0 := by omega
              have e2 : kindOf (2 * fk k / 2) = k := by cases k <;> rfl
              simp only [den, e2, e1]
              rfl
          · cases h
        · cases h
      · cases h
    · -- max
      rename_i hc
      split at h
      · rename_i x y hxs
        split at h
        · rename_i k p k' q hx0 hy0
          split at h
          · rename_i hk
            have hkk := fk_inj hk
            subst hkk
            rw [forceNat_eq] at h
            refine ⟨_, st, h, hf, rfl, .pure fun β a W hx _ => ?_⟩
            have hmx := hx x (by simp [ho, Op.operands, Call.operands, hc]; rw [← Array.mem_toList_iff, hxs]; simp)
            have hmy := hx y (by simp [ho, Op.operands, Call.operands, hc]; rw [← Array.mem_toList_iff, hxs]; simp)
            rw [hx0] at hmx; rw [hy0] at hmy
            obtain ⟨u, h1, h2⟩ := hmx
            obtain ⟨w, h3, h4⟩ := hmy
            obtain ⟨r, n, h5, h6⟩ := run_max2 (P := P) k u w W
            have hargs : c.args.map a.eval = #[.float k u, .float k w] := by apply Array.ext'; rw [Array.toList_map, hxs]; simp [h1, h3]
            refine opRuns_value (v := .float k r) (W' := W.drewN n) ?_ ⟨⟨r, rfl, ?_⟩, Gr.drewN (Gr.refl _) n⟩
            · unfold execOp
              simp [ho, resolve, hc, invoke, builtin, Builtin.max_, hargs, h5]
            · rw [h6, h2, h4]
              have e2 : kindOf ((2 * fk k + 1) / 2) = k := by cases k <;> rfl
              simp only [den, e2]
              congr 1
              have : (2 * fk k + 1) % 2 = 1 := by omega
              simp [this]
          · cases h
        · cases h
      · cases h
    · -- len
      rename_i hc
      split at h
      · rename_i x t hxs hts
        have hat : c.argTypes = #[t] := by apply Array.ext'; simpa using hts
        have haa : ∀ a : Act, c.args.map a.eval = #[a.eval x] := fun a => by apply Array.ext'; rw [Array.toList_map, hxs]; rfl
        split at h
        · rename_i el id off len cap hu hx0
          rw [forceSV_eq] at h
          refine ⟨_, st, h, hf, rfl, .pure fun β a W hx _ => ?_⟩
          have hmx := hx x (by simp [ho, Op.operands, Call.operands, hc]; rw [← Array.mem_toList_iff, hxs]; simp)
          rw [hx0] at hmx
          obtain ⟨blk, hb, h1⟩ := hmx
          refine opRuns_value (v := .int .i64 len) (W' := W) ?_ ⟨rfl, Gr.refl _⟩
          unfold execOp
          simp [ho, resolve, hc, invoke, builtin, Builtin.len_, hat, haa, h1, run_underlying hu, goInt]
        · rename_i n el hu
          rw [forceSV_eq] at h
          refine ⟨_, st, h, hf, rfl, .pure fun β a W hx _ => ?_⟩
          refine opRuns_value (v := .int .i64 n) (W' := W) ?_ ⟨rfl, Gr.refl _⟩
          unfold execOp
          simp [ho, resolve, hc, invoke, builtin, Builtin.len_, hat, haa, run_underlying hu, goInt]
        · cases h
      · cases h
    · cases h
  · cases h

end
end Go.Sx

/-   A region, in whatever order the model takes its operations. Conditions: none. -/
namespace Go.Sx
open Go.RowKit

/-- The state of a function's run and the symbols that stand for it. 'W0': the world as the function was entered. -/
structure Rel (E : Env) (W0 : World) (β : Beta) (tmps : List V) (heap : List (List SV)) (old : Nat) (a : Act) (W : World) : Prop where
  size : a.tmps.size = tmps.length
  vals : ∀ (i : Nat) (v : V), tmps[i]? = some v → VRel E β v (a.tmps.getD i undef)
  defers : a.defers = []
  h : HRel E β heap W
  ge : ∀ id blk, old ≤ id → β id = some blk → W0.heap.size ≤ blk
  inj : ∀ id id' blk, old ≤ id → β id = some blk → β id' = some blk → id = id'
  grown : Gr W0 W
  inv0 : E.inv W0
  fresh : ∀ id, heap.length ≤ id → β id = none
  le : old ≤ heap.length

section
variable {E : Env} {P : Program} {ops : Array Oper} {W0 W : World} {β : Beta} {old : Nat}

theorem getD_rel {tmps : List V} {a : Act} (hs : a.tmps.size = tmps.length) (hv : ∀ (i : Nat) (v : V), tmps[i]? = some v → VRel E β v (a.tmps.getD i undef)) (t : Nat) :
    VRel E β (tmps.getD t undefV) (a.tmps.getD t undef) := by
  rw [List.getD_eq_getElem?_getD]
  cases h : tmps[t]? with
  | some v => exact hv t v h
  | none =>
    have : tmps.length ≤ t := by simpa using h
    have e : a.tmps.getD t undef = undef := by
      rw [Array.getD_eq_getD_getElem?, Array.getElem?_eq_none (by omega)]; rfl
    rw [e]; rfl

theorem evA_rel {tmps : List V} {a : Act} (hv : ∀ t, VRel E β (tmps.getD t undefV) (a.tmps.getD t undef)) (x : Operand) : VRel E β (evA tmps x) (a.eval x) := by
  cases x with
  | tmp t => exact hv t
  | const v => exact absV_rel v
  | global g => rfl
  | func f => rfl

theorem evA_rel_of {tmps : List V} {a : Act} {x : Operand} (hv : ∀ t, x = .tmp t → VRel E β (tmps.getD t undefV) (a.tmps.getD t undef)) : VRel E β (evA tmps x) (a.eval x) := by
  cases x with
  | tmp t => exact hv t rfl
  | const v => exact absV_rel v
  | global g => rfl
  | func f => rfl

theorem wanted_sound {o : Oper} {tmps : List V} {a : Act} {b : Bool} (h : wantedA ops o tmps = some b)
    (hg : ∀ j want t, o.guard = some (j, want) → (ops[j]?).bind (·.dst) = some t → VRel E β (tmps.getD t undefV) (a.tmps.getD t undef)) :
    Region.wanted o (yielded ops a.tmps) = b := by
  unfold wantedA at h
  unfold Region.wanted
  split at h
  · rename_i hgd; rw [hgd]; simpa using h
  · rename_i j want hgd
    rw [hgd]
    split at h
    · rename_i t ht
      have hr := hg j want t hgd ht
      have hy : yielded ops a.tmps j = match a.tmps[t]? with | some (.bool b) => some b | _ => none := by
        unfold yielded; rw [ht]; rfl
      split at h
      · rename_i b0 hb
        rw [hb] at hr
        have hr' : a.tmps.getD t undef = .bool b0 := hr
        have hy2 : a.tmps[t]? = some (.bool b0) := by
          rw [Array.getD_eq_getD_getElem?] at hr'
          cases hq : a.tmps[t]? with
          | none => rw [hq] at hr'; simp [undef] at hr'
          | some v => rw [hq] at hr'; simp at hr'; rw [hr']
        dsimp only
        rw [hy, hy2]
        simpa using h
      · rename_i vs hb
        rw [hb] at hr
        have hr' : a.tmps.getD t undef = .tuple vs := hr
        dsimp only
        rw [hy]
        have hn : (match a.tmps[t]? with | some (.bool b) => some b | _ => none) = (none : Option Bool) := by
          rw [Array.getD_eq_getD_getElem?] at hr'
          cases hq : a.tmps[t]? with
          | none => rfl
          | some v => rw [hq] at hr'; simp at hr'; rw [hr']
        rw [hn]
        cases h; rfl
      · cases h
    · cases h

/-- A new block, anywhere. -/
theorem alloc_sound {heap : List (List SV)} {l : List SV} {cells : Array Value} {ty : TypeId} {id0 : Nat} (hr : HRel E β heap W) (hl : LRel E β l cells.toList) (hid : heap[id0]? = some l) (hfresh : β id0 = none) :
    HRel E (fun i => if i = id0 then some W.heap.size else β i) heap (W.alloc (.cells cells ty)) ∧ Ext β (fun i => if i = id0 then some W.heap.size else β i) := by
  have hext : Ext β (fun i => if i = id0 then some W.heap.size else β i) := fun i b hb => by
    dsimp only
    rw [if_neg (by intro e; subst e; rw [hfresh] at hb; cases hb)]
    exact hb
  refine ⟨⟨E.stable _ _ ((Gr.refl W).alloc cells ty) hr.inv, fun id blk hb => ?_, fun id blk l' hb hl' => ?_⟩, hext⟩
  · split at hb
    · cases hb; simp
    · have := hr.lt id blk hb; simp; omega
  · split at hb
    · rename_i he
      cases hb
      subst he
      rw [hid] at hl'
      cases hl'
      exact ⟨cells, ty, by show (W.heap.push _)[W.heap.size]? = _; simp, hl.mono hext⟩
    · rename_i he
      have hlt := hr.lt id blk hb
      obtain ⟨c, t, h1, h2⟩ := hr.ok id blk l' hb hl'
      refine ⟨c, t, ?_, h2.mono hext⟩
      simp only [World.alloc, Array.getElem?_push]
      rw [if_neg (by omega)]; exact h1

/-- One operation of a region, in the run on symbols. -/
def StepI (E : Env) (P : Program) (ops : Array Oper) (old : Nat) (o : Oper) (t : List V) (h : List (List SV)) (v : V) (h' : List (List SV)) : Prop :=
  (wantedA ops o t = some true ∧ isStore o.op = false ∧ Eff E P o t h v h') ∨
  (wantedA ops o t = some true ∧ v = undefV ∧ ∃ ty x y, o.op = .store ty x y ∧ storeA P h old ty (evA t x) (evA t y) = some h') ∨
  (wantedA ops o t = some false ∧ v = undefV ∧ h' = h)

/-- The run on symbols of a list of operations, in a row. -/
def Seq (E : Env) (P : Program) (ops : Array Oper) (old : Nat) (l : List Oper) (tm : Nat → List V) (hp : Nat → List (List SV)) (vl : Nat → V) : Prop :=
  ∀ i o, l[i]? = some o → tm (i + 1) = put (tm i) o.dst (vl i) ∧ StepI E P ops old o (tm i) (hp i) (vl i) (hp (i + 1))

theorem opsA_seq {S : FuncId → List V → Option Known} {call : FuncId → List V → St → (V → Facts → Bool) → Bool} (hS : SumOK E P S) (hcall : CallOK E P call) :
    ∀ (l : List Oper) (tmps : List V) (st : St) (K : List V → St → Bool), opsA P S call ops l tmps st K = true → FactsOK E st.facts →
      ∃ tm hp vl st', K (tm l.length) st' = true ∧ FactsOK E st'.facts ∧ st'.old = st.old ∧ st'.heap = hp l.length ∧ tm 0 = tmps ∧ hp 0 = st.heap ∧ Seq E P ops st.old l tm hp vl
  | [], tmps, st, K, h, hf => ⟨fun _ => tmps, fun _ => st.heap, fun _ => undefV, st, h, hf, rfl, rfl, rfl, rfl, fun i o ho => by simp at ho⟩
  | o :: r, tmps, st, K, h, hf => by
    have glue : ∀ (v : V) (st1 : St), opsA P S call ops r (put tmps o.dst v) st1 K = true → FactsOK E st1.facts → st1.old = st.old → StepI E P ops st.old o tmps st.heap v st1.heap →
        ∃ tm hp vl st', K (tm (o :: r).length) st' = true ∧ FactsOK E st'.facts ∧ st'.old = st.old ∧ st'.heap = hp (o :: r).length ∧ tm 0 = tmps ∧ hp 0 = st.heap ∧ Seq E P ops st.old (o :: r) tm hp vl := by
      intro v st1 h1 hf1 ho1 hstep
      obtain ⟨tm, hp, vl, st', hk, hf', ho', hh', ht0, hp0, hseq⟩ := opsA_seq hS hcall r _ st1 K h1 hf1
      refine ⟨fun i => match i with | 0 => tmps | i + 1 => tm i, fun i => match i with | 0 => st.heap | i + 1 => hp i, fun i => match i with | 0 => v | i + 1 => vl i, st', hk, hf', ho'.trans ho1, hh', rfl, rfl, ?_⟩
      intro i o' hi
      cases i with
      | zero =>
        simp at hi; subst hi
        refine ⟨ht0, ?_⟩
        dsimp only
        rw [hp0]; exact hstep
      | succ i =>
        simp at hi
        rw [ho1] at hseq
        exact hseq i o' hi
    unfold opsA at h
    split at h
    · rename_i hw
      split at h
      · rename_i hs
        unfold storeOp at h
        split at h
        · rename_i ty x y hop
          split at h
          · rename_i hh hst
            rw [forceL_eq] at h
            dsimp only at h
            rw [forceL_eq] at h
            exact glue undefV { st with heap := hh } h hf rfl (.inr (.inl ⟨hw, rfl, ty, x, y, hop, hst⟩))
          · cases h
        · cases h
      · rename_i hs
        obtain ⟨sv, st1, h1, hf1, ho1, heff⟩ := opA_sound hS hcall h hf
        rw [forceL_eq] at h1
        exact glue sv st1 h1 hf1 ho1 (.inl ⟨hw, by simpa using hs, heff⟩)
    · rename_i hw
      rw [forceL_eq] at h
      exact glue undefV st h hf rfl (.inr (.inr ⟨hw, rfl, rfl⟩))
    · cases h

theorem getD_put {a : Act} {d : Option Tmp} {v : Value} {t : Nat} : (a.put d v).tmps.getD t undef = if d = some t ∧ t < a.tmps.size then v else a.tmps.getD t undef := by
  cases d with
  | none => simp [Act.put]
  | some d =>
    simp only [Act.put, Array.getD_eq_getD_getElem?, Array.getElem?_setIfInBounds, Option.some.injEq]
    by_cases hd : d = t
    · subst hd
      by_cases hlt : d < a.tmps.size
      · simp [hlt]
      · simp [hlt]
    · simp [hd]

theorem size_put {a : Act} {d : Option Tmp} {v : Value} : (a.put d v).tmps.size = a.tmps.size := by cases d <;> simp [Act.put]
theorem length_put {t : List V} {d : Option Tmp} {v : V} : (put t d v).length = t.length := by cases d <;> simp [put]
theorem defers_put {a : Act} {d : Option Tmp} {v : Value} : (a.put d v).defers = a.defers := by cases d <;> rfl
theorem get_put {tmps : List V} {d : Option Tmp} {v : V} {t : Nat} : (put tmps d v)[t]? = if d = some t ∧ t < tmps.length then some v else tmps[t]? := by
  cases d with
  | none => simp [put]
  | some d =>
    simp only [put, List.getElem?_set, Option.some.injEq]
    by_cases hd : d = t
    · subst hd
      by_cases hlt : d < tmps.length
      · simp [hlt]
      · simp [hlt]
    · simp [hd]

theorem vals_put {tmps : List V} {a : Act} {d : Option Tmp} {sv : V} {v : Value} {β' : Beta} (hs : a.tmps.size = tmps.length) (hv : ∀ (i : Nat) (v : V), tmps[i]? = some v → VRel E β v (a.tmps.getD i undef))
    (hext : Ext β β') (hr : VRel E β' sv v) : ∀ (i : Nat) (u : V), (put tmps d sv)[i]? = some u → VRel E β' u ((a.put d v).tmps.getD i undef) := by
  intro i u hu
  rw [get_put] at hu
  rw [getD_put, hs]
  split at hu
  · rename_i hc; rw [if_pos hc]; cases hu; exact hr
  · rename_i hc; rw [if_neg hc]; exact (hv i u hu).mono hext

/-- One operation in the order of the text. -/
theorem step_text {o : Oper} {i : Nat} {t : List V} {h h' : List (List SV)} {v : V} {a : Act} {K : Act → World → Prop} {Q : Exit → Act → World → Prop} (hi : ops[i]? = some o)
    (hstep : StepI E P ops old o t h v h') (hR : Rel E W0 β t h old a W)
    (hK : ∀ β' a' W', Rel E W0 β' (put t o.dst v) h' old a' W' → K a' W') : wpOp P ops Q i K a W := by
  have hget := getD_rel hR.size hR.vals
  have hev := evA_rel (E := E) (β := β) (tmps := t) (a := a) hget
  unfold wpOp
  simp only [hi]
  rcases hstep with ⟨hw, hs, heff⟩ | ⟨hw, rfl, ty, x, y, hop, hst⟩ | ⟨hw, rfl, rfl⟩
  · rw [if_pos (wanted_sound (E := E) (β := β) (a := a) hw fun j want t _ _ => hget t)]
    refine .inl ?_
    cases heff with
    | pure hh =>
      refine (hh β a W (fun x _ => hev x) hR.h).wp fun u W' ⟨h1, h2⟩ => hK β _ W' ?_
      exact ⟨by rw [size_put, length_put]; exact hR.size, vals_put hR.size hR.vals (Ext.refl β) h1, by rw [defers_put]; exact hR.defers, hR.h.grown h2, hR.ge, hR.inj, Gr.trans' hR.grown h2, hR.inv0, hR.fresh, hR.le⟩
    | new hh =>
      rename_i l
      refine (hh β a W (fun x _ => hev x) hR.h).wp fun u W' ⟨cells, ty, h1, h2, h3⟩ => ?_
      subst h1
      have hfr := hR.fresh h.length (Nat.le_refl _)
      obtain ⟨g1, g2⟩ := newRow_sound (ty := ty) hR.h h2 hfr
      refine hK _ _ _ ⟨by rw [size_put, length_put]; exact hR.size, vals_put hR.size hR.vals g2 (h3 _ g2 (by simp)), by rw [defers_put]; exact hR.defers, g1, ?_, ?_, hR.grown.alloc cells ty, hR.inv0, ?_, by have := hR.le; simp; omega⟩
      · intro id blk hold hb
        split at hb
        · cases hb; exact hR.grown.size
        · exact hR.ge id blk hold hb
      · intro id id' blk hold hb hb'
        split at hb
        · rename_i e1
          cases hb
          split at hb'
          · rename_i e2; rw [e1, e2]
          · have := hR.h.lt _ _ hb'; omega
        · rename_i e1
          split at hb'
          · cases hb'
            have := hR.h.lt _ _ hb; omega
          · exact hR.inj id id' blk hold hb hb'
      · intro id hid
        simp at hid
        rw [if_neg (by omega)]
        exact hR.fresh id (by omega)
  · rw [if_pos (wanted_sound (E := E) (β := β) (a := a) hw fun j want t _ _ => hget t)]
    refine .inl ?_
    obtain ⟨W', h1, h2, h3, h4⟩ := storeA_sound hst (hev x) (hev y) hR.h hR.inv0 hR.grown hR.ge hR.inj
    have hrun : OpRuns P o a W fun u W'' => u = undef ∧ W'' = W' := opRuns_skip (by unfold execOp; simp only [hop]; rw [Sem.run_bind, h1]; rfl) ⟨rfl, rfl⟩
    refine hrun.wp fun u W'' ⟨e1, e2⟩ => ?_
    subst e1; subst e2
    exact hK β _ _ ⟨by rw [size_put, length_put]; exact hR.size, vals_put hR.size hR.vals (Ext.refl β) rfl, by rw [defers_put]; exact hR.defers, h2, hR.ge, hR.inj, h3, hR.inv0, fun id hid => hR.fresh id (by omega), by have := hR.le; omega⟩
  · rw [if_neg (by rw [wanted_sound (E := E) (β := β) (a := a) hw fun j want t _ _ => hget t]; simp)]
    exact hK β _ W ⟨by rw [size_put, length_put]; exact hR.size, vals_put hR.size hR.vals (Ext.refl β) rfl, by rw [defers_put]; exact hR.defers, hR.h, hR.ge, hR.inj, hR.grown, hR.inv0, hR.fresh, hR.le⟩

/-- A region that does not draw. -/
theorem text_sound {tm : Nat → List V} {hp : Nat → List (List SV)} {vl : Nat → V} {Q : Exit → Act → World → Prop} (hseq : Seq E P ops old ops.toList tm hp vl)
    (hQ : ∀ β' a' W', Rel E W0 β' (tm ops.size) (hp ops.size) old a' W' → Q .normal a' W') :
    ∀ (k m : Nat) (β : Beta) (a : Act) (W : World), m + k = ops.size → Rel E W0 β (tm m) (hp m) old a W → wpOps P ops Q (List.range' m k) a W
  | 0, m, β, a, W, hm, hR => by
    have : m = ops.size := by omega
    subst this
    exact hQ β a W hR
  | k + 1, m, β, a, W, hm, hR => by
    have hlt : m < ops.size := by omega
    have hi : ops[m]? = some ops[m] := Array.getElem?_eq_getElem hlt
    obtain ⟨h1, h2⟩ := hseq m ops[m] (by simp)
    rw [List.range'_succ, wpOps_cons]
    refine step_text hi h2 hR fun β' a' W' hR' => ?_
    rw [← h1] at hR'
    exact text_sound hseq hQ k (m + 1) β' a' W' (by omega) hR'

theorem region_text {id : Nat} {tm : Nat → List V} {hp : Nat → List (List SV)} {vl : Nat → V} {a : Act} {Q : Exit → Act → World → Prop} (hseq : Seq E P ops old ops.toList tm hp vl)
    (hR : Rel E W0 β (tm 0) (hp 0) old a W) (hQ : ∀ β' a' W', Rel E W0 β' (tm ops.size) (hp ops.size) old a' W' → Q .normal a' W') : (Code.region id ops false).wp P Q a W :=
  wp_region (by rw [List.range_eq_range']; exact text_sound hseq hQ ops.size 0 β a W (by omega) hR)

end
end Go.Sx

/-   A region that draws its order: whatever order is drawn, the run in the order of the text tells the outcome. Conditions: none. -/
namespace Go.Sx
open Go.RowKit

section
variable {E : Env} {P : Program} {ops : Array Oper} {W0 : World} {old : Nat}

/-! ### What 'drawOK' says -/
theorem edge_spec {o : Oper} {i : Nat} (h : edge o i = true) : ∃ e ∈ o.after, Region.binds .any e = true ∧ e.on = i := by
  unfold edge at h
  obtain ⟨e, he, hb⟩ := Array.any_eq_true'.1 h
  rw [Bool.and_eq_true] at hb
  exact ⟨e, he, hb.1, Nat.eq_of_beq_eq_true hb.2⟩

theorem optBeq_some {d : Option Nat} {t : Nat} (h : d = some t) : optBeq d (some t) = true := by subst h; simp [optBeq]

theorem pairsFrom_spec {n i : Nat} {x : Oper} : ∀ {k : Nat} {r : List Oper}, pairsFrom ops n i x k r = true → ∀ (j : Nat) (y : Oper), r[j]? = some y → pairOK ops i (Nat.ble n i) (Nat.ble n (k + j)) x y = true
  | _, [], _, j, y, hy => by simp at hy
  | k, z :: r, h, j, y, hy => by
    simp only [pairsFrom, Bool.and_eq_true] at h
    cases j with
    | zero => simp at hy; subst hy; exact h.1
    | succ j =>
      simp at hy
      have := pairsFrom_spec h.2 j y hy
      rwa [show k + 1 + j = k + (j + 1) by omega] at this

theorem allPairs_spec {n : Nat} : ∀ {k : Nat} {r : List Oper}, allPairs ops n k r = true → ∀ (i j : Nat) (x y : Oper), i < j → r[i]? = some x → r[j]? = some y → pairOK ops (k + i) (Nat.ble n (k + i)) (Nat.ble n (k + j)) x y = true
  | _, [], _, i, j, x, y, _, hx, _ => by simp at hx
  | k, z :: r, h, i, j, x, y, hij, hx, hy => by
    simp only [allPairs, Bool.and_eq_true] at h
    cases j with
    | zero => omega
    | succ j =>
      simp at hy
      cases i with
      | zero =>
        simp at hx; subst hx
        have := pairsFrom_spec h.1 j y hy
        rwa [show k + 1 + j = k + (j + 1) by omega] at this
      | succ i =>
        simp at hx
        have := allPairs_spec h.2 i j x y (by omega) hx hy
        rwa [show k + 1 + i = k + (i + 1) by omega, show k + 1 + j = k + (j + 1) by omega] at this

theorem backFrom_spec : ∀ {k : Nat} {r : List Oper}, backFrom k r = true → ∀ (i : Nat) (o : Oper), r[i]? = some o → ∀ e ∈ o.after, Region.binds .any e = true → e.on < k + i
  | _, [], _, i, o, ho, _, _, _ => by simp at ho
  | k, z :: r, h, i, o, ho, e, he, hb => by
    simp only [backFrom, Bool.and_eq_true] at h
    cases i with
    | zero =>
      simp at ho; subst ho
      have := Array.all_eq_true_iff_forall_mem.1 h.1 e he
      rw [hb] at this
      have h3 : Nat.blt e.on k = true := by simpa using this
      rw [Nat.blt_eq] at h3
      omega
    | succ i =>
      simp at ho
      have := backFrom_spec h.2 i o ho e he hb
      omega

theorem leads_spec : ∀ {l : List Oper} (i : Nat) (o : Oper), l[i]? = some o → i < leads l → isStore o.op = false
  | [], i, o, h, _ => by simp at h
  | z :: r, i, o, h, hl => by
    simp only [leads] at hl
    split at hl
    · omega
    · rename_i hz
      cases i with
      | zero => simp at h; subst h; simpa using hz
      | succ i => simp at h; exact leads_spec i o h (by omega)
theorem leads_le : ∀ (l : List Oper), leads l ≤ l.length
  | [] => Nat.le_refl _
  | z :: r => by simp only [leads]; split <;> simp; exact leads_le r

structure DrawOK (ops : Array Oper) (n : Nat) : Prop where
  le : n ≤ ops.size
  comp : ∀ (i : Nat) (o : Oper), ops[i]? = some o → i < n → isStore o.op = false
  dst : ∀ (i j : Nat) (x y : Oper) (t : Nat), i < j → ops[i]? = some x → ops[j]? = some y → x.dst = some t → y.dst = some t → False
  war : ∀ (i j : Nat) (x y : Oper) (t : Nat), i < j → ops[i]? = some x → ops[j]? = some y → t ∈ x.looksAt ops → y.dst = some t → edge y i = true
  raw : ∀ (i j : Nat) (x y : Oper) (t : Nat), i < j → ops[i]? = some x → ops[j]? = some y → t ∈ y.looksAt ops → x.dst = some t → edge y i = true
  anc : ∀ (i j : Nat) (x y : Oper), i < j → ops[i]? = some x → ops[j]? = some y → n ≤ j → anc ops 3 y i = true ∨ (i < n ∧ isEager x.op = true ∧ ∀ e ∈ x.after, Region.binds .any e = true → anc ops 3 y e.on = true)
  nosel : Region.noSelect ops = true
  back : ∀ (i : Nat) (o : Oper), ops[i]? = some o → ∀ e ∈ o.after, Region.binds .any e = true → e.on < i

theorem drawOK_spec (h : drawOK ops = true) : DrawOK ops (leads ops.toList) := by
  unfold drawOK at h
  rw [forceNat_eq] at h
  simp only [Bool.and_eq_true] at h
  obtain ⟨⟨h2, h3⟩, h5⟩ := h
  have tl : ∀ {i : Nat} {o : Oper}, ops[i]? = some o → ops.toList[i]? = some o := fun h => by simpa using h
  have pr : ∀ (i j : Nat) (x y : Oper), i < j → ops[i]? = some x → ops[j]? = some y → pairOK ops i (Nat.ble (leads ops.toList) i) (Nat.ble (leads ops.toList) j) x y = true := fun i j x y hij hx hy => by
    simpa using allPairs_spec h2 i j x y hij (tl hx) (tl hy)
  refine ⟨by simpa using leads_le ops.toList, fun i o ho hi => leads_spec i o (tl ho) hi, ?_, ?_, ?_, ?_, h5, fun i o ho e he hb => by simpa using backFrom_spec h3 i o (tl ho) e he hb⟩
  · intro i j x y t hij hx hy ht ht'
    have := pr i j x y hij hx hy
    simp only [pairOK, Bool.and_eq_true, Bool.not_eq_true'] at this
    rw [ht, ht'] at this
    simp [optBeq] at this
  · intro i j x y t hij hx hy ht hd
    have := pr i j x y hij hx hy
    simp only [pairOK, Bool.and_eq_true] at this
    have h4 := List.all_eq_true.1 this.1.2 t ht
    rw [optBeq_some hd] at h4
    simpa using h4
  · intro i j x y t hij hx hy ht hd
    have := pr i j x y hij hx hy
    simp only [pairOK, Bool.and_eq_true] at this
    have h4 := List.all_eq_true.1 this.1.1.2 t ht
    rw [optBeq_some hd] at h4
    simpa using h4
  · intro i j x y hij hx hy hs
    have := pr i j x y hij hx hy
    simp only [pairOK, Bool.and_eq_true] at this
    have h4 := this.2
    rw [Nat.ble_eq_true_of_le hs] at h4
    simp only [Bool.not_true, Bool.false_or, Bool.or_eq_true, Bool.and_eq_true, Bool.not_eq_true'] at h4
    rcases h4 with h4 | ⟨⟨q1, q2⟩, q3⟩
    · exact .inl h4
    · refine .inr ⟨?_, q2, fun e he hb => ?_⟩
      · rcases Nat.lt_or_ge i (leads ops.toList) with h6 | h6
        · exact h6
        · rw [Nat.ble_eq_true_of_le h6] at q1; cases q1
      · have := Array.all_eq_true_iff_forall_mem.1 q3 e he
        rw [hb] at this
        simpa using this

/-! ### Listed operations -/
def Closed (ops : Array Oper) (listed : Array Bool) : Prop :=
  ∀ (j : Nat) (o : Oper), ops[j]? = some o → listed.getD j false = true → ∀ e ∈ o.after, Region.binds .any e = true → listed.getD e.on false = true

theorem anc_listed {listed : Array Bool} (hc : Closed ops listed) : ∀ (n : Nat) (y : Oper) (i : Nat), anc ops n y i = true → (∀ e ∈ y.after, Region.binds .any e = true → listed.getD e.on false = true) → listed.getD i false = true
  | 0, y, i, h, hy => by
    obtain ⟨e, he, hb, rfl⟩ := edge_spec (show edge y i = true from h)
    exact hy e he hb
  | n + 1, y, i, h, hy => by
    simp only [anc, Bool.or_eq_true] at h
    rcases h with h | h
    · obtain ⟨e, he, hb, rfl⟩ := edge_spec h
      exact hy e he hb
    · obtain ⟨e, he, hb⟩ := Array.any_eq_true'.1 h
      rw [Bool.and_eq_true] at hb
      obtain ⟨hb1, hb2⟩ := hb
      split at hb2
      · rename_i z hz
        exact anc_listed hc n z i hb2 (hc e.on z hz (hy e he hb1))
      · cases hb2

theorem closed_set {listed : Array Bool} {i : Nat} (hc : Closed ops listed) (hr : i ∈ Region.ready .any ops listed) : Closed ops (listed.setIfInBounds i true) := by
  intro j o ho hj e he hb
  by_cases hij : i = j
  · subst hij
    obtain ⟨_, o', ho', hall⟩ := mem_ready.1 hr
    rw [ho] at ho'; cases ho'
    exact getD_set_true (hall e he hb)
  · rw [getD_set_ne false hij] at hj
    exact getD_set_true (hc j o ho hj e he hb)

/-- Some operation is left, so one may come up. -/
theorem ready_of_unlisted {n : Nat} (hd : DrawOK ops n) {listed : Array Bool} : ∀ (k i : Nat), i ≤ k → i < ops.size → listed.getD i true = false → Region.ready .any ops listed ≠ []
  | 0, i, hik, hi, hl => by
    have h0 : i = 0 := by omega
    subst h0
    intro hn
    have : 0 ∈ Region.ready .any ops listed := mem_ready.2 ⟨hl, ops[0], Array.getElem?_eq_getElem hi, fun e he hb => by
      have := hd.back 0 _ (Array.getElem?_eq_getElem hi) e he hb; omega⟩
    rw [hn] at this; cases this
  | k + 1, i, hik, hi, hl => by
    by_cases hall : ∀ e ∈ ops[i].after, Region.binds .any e = true → listed.getD e.on false = true
    · intro hn
      have : i ∈ Region.ready .any ops listed := mem_ready.2 ⟨hl, ops[i], Array.getElem?_eq_getElem hi, hall⟩
      rw [hn] at this; cases this
    · have hex : ∃ e ∈ ops[i].after, Region.binds .any e = true ∧ listed.getD e.on false = false := by
        apply Classical.byContradiction
        intro hne
        refine hall fun e he hb => ?_
        cases hl2 : listed.getD e.on false with
        | true => rfl
        | false => exact absurd ⟨e, he, hb, hl2⟩ hne
      obtain ⟨e, he, hb, hl2⟩ := hex
      have hlt := hd.back i _ (Array.getElem?_eq_getElem hi) e he hb
      by_cases hsz : e.on < listed.size
      · refine ready_of_unlisted hd k e.on (by omega) (by omega) ?_
        rw [Array.getD_eq_getD_getElem?, Array.getElem?_eq_getElem hsz] at hl2 ⊢
        simpa using hl2
      · exfalso
        have : ¬ i < listed.size := by omega
        rw [Array.getD_eq_getD_getElem?, Array.getElem?_eq_none (by omega)] at hl
        cases hl

variable {tm : Nat → List V} {hp : Nat → List (List SV)} {vl : Nat → V}

theorem tm_length (hseq : Seq E P ops old ops.toList tm hp vl) : ∀ i, i ≤ ops.size → (tm i).length = (tm 0).length
  | 0, _ => rfl
  | i + 1, hi => by
    obtain ⟨h1, _⟩ := hseq i ops[i] (by simp)
    rw [h1, length_put]; exact tm_length hseq i (by omega)

theorem tm_get (hseq : Seq E P ops old ops.toList tm hp vl) (t : Nat) (ht : t < (tm 0).length) : ∀ j, j ≤ ops.size →
    (∃ i x, i < j ∧ ops[i]? = some x ∧ x.dst = some t ∧ (tm j)[t]? = some (vl i)) ∨ ((∀ i x, i < j → ops[i]? = some x → x.dst ≠ some t) ∧ (tm j)[t]? = (tm 0)[t]?)
  | 0, _ => .inr ⟨fun i x h => absurd h (Nat.not_lt_zero i), rfl⟩
  | j + 1, hj => by
    have hlt : j < ops.size := by omega
    obtain ⟨h1, _⟩ := hseq j ops[j] (by simp)
    rw [h1, get_put, tm_length hseq j (by omega)]
    by_cases hd : ops[j].dst = some t
    · exact .inl ⟨j, ops[j], by omega, Array.getElem?_eq_getElem hlt, hd, by rw [if_pos ⟨hd, ht⟩]⟩
    · rw [if_neg (fun h => hd h.1)]
      rcases tm_get hseq t ht j (by omega) with ⟨i, x, hi, hx, hxd, hv⟩ | ⟨hno, hv⟩
      · exact .inl ⟨i, x, by omega, hx, hxd, hv⟩
      · refine .inr ⟨fun i x hi hx hxd => ?_, hv⟩
        by_cases hij : i = j
        · subst hij; rw [Array.getElem?_eq_getElem hlt] at hx; cases hx; exact hd hxd
        · exact hno i x (by omega) hx hxd

/-- Ahead of the stores memory only grows. -/
theorem hp_mono {n : Nat} (hd : DrawOK ops n) (hseq : Seq E P ops old ops.toList tm hp vl) {i : Nat} (hi : i < n) :
    (hp i).length ≤ (hp (i + 1)).length ∧ ∀ (id : Nat) (l : List SV), (hp i)[id]? = some l → (hp (i + 1))[id]? = some l := by
  have hlt : i < ops.size := by have := hd.le; omega
  have hi' : ops[i]? = some ops[i] := Array.getElem?_eq_getElem hlt
  obtain ⟨_, h2⟩ := hseq i ops[i] (by simp)
  rcases h2 with ⟨_, _, heff⟩ | ⟨_, _, ty, x, y, hop, _⟩ | ⟨_, _, he⟩
  · generalize hp (i + 1) = h' at heff
    cases heff with
    | pure _ => exact ⟨Nat.le_refl _, fun _ _ h => h⟩
    | new _ => exact ⟨by simp, fun id l h => by rw [List.getElem?_append_left (List.getElem?_eq_some_iff.1 h).1]; exact h⟩
  · have := hd.comp i _ hi' hi
    rw [hop] at this
    cases this
  · rw [he]; exact ⟨Nat.le_refl _, fun _ _ h => h⟩

theorem hp_le {n : Nat} (hd : DrawOK ops n) (hseq : Seq E P ops old ops.toList tm hp vl) {i : Nat} : ∀ {j : Nat}, i ≤ j → j ≤ n →
    (hp i).length ≤ (hp j).length ∧ ∀ (id : Nat) (l : List SV), (hp i)[id]? = some l → (hp j)[id]? = some l
  | 0, hij, _ => by have : i = 0 := by omega
                    subst this; exact ⟨Nat.le_refl _, fun _ _ h => h⟩
  | j + 1, hij, hj => by
    by_cases he : i = j + 1
    · subst he; exact ⟨Nat.le_refl _, fun _ _ h => h⟩
    · have h1 := hp_le hd hseq (i := i) (j := j) (by omega) (by omega)
      have h2 := hp_mono hd hseq (i := j) (by omega)
      exact ⟨Nat.le_trans h1.1 h2.1, fun id l h => h2.2 id l (h1.2 id l h)⟩

/-- Ahead of the stores: some operations are carried out, others not. -/
structure Mid (E : Env) (ops : Array Oper) (W0 : World) (old n : Nat) (tm : Nat → List V) (hp : Nat → List (List SV)) (vl : Nat → V) (listed : Array Bool) (β : Beta) (a : Act) (W : World) : Prop where
  lsize : listed.size = ops.size
  closed : Closed ops listed
  rest : ∀ i, n ≤ i → listed.getD i false = false
  size : a.tmps.size = (tm 0).length
  defers : a.defers = []
  valL : ∀ (i : Nat) (o : Oper) (t : Nat), i < n → ops[i]? = some o → listed.getD i false = true → o.dst = some t → t < (tm 0).length → VRel E β (vl i) (a.tmps.getD t undef)
  valU : ∀ (t : Nat) (v : V), (tm 0)[t]? = some v → (∀ (i : Nat) (o : Oper), i < n → ops[i]? = some o → listed.getD i false = true → o.dst ≠ some t) → VRel E β v (a.tmps.getD t undef)
  h : HRel E β (hp n) W
  ge : ∀ id blk, old ≤ id → β id = some blk → W0.heap.size ≤ blk
  inj : ∀ id id' blk, old ≤ id → β id = some blk → β id' = some blk → id = id'
  grown : Gr W0 W
  inv0 : E.inv W0
  fresh : ∀ (i id : Nat), i < n → listed.getD i false = false → (hp i).length ≤ id → id < (hp (i + 1)).length → β id = none
  top : ∀ id, (hp n).length ≤ id → β id = none
  le : old ≤ (hp 0).length

theorem getD_false_true {listed : Array Bool} {i : Nat} (h : listed.getD i true = false) : i < listed.size ∧ listed.getD i false = false := by
  rw [Array.getD_eq_getD_getElem?] at h ⊢
  by_cases hi : i < listed.size
  · rw [Array.getElem?_eq_getElem hi] at h ⊢; exact ⟨hi, by simpa using h⟩
  · rw [Array.getElem?_eq_none (by omega)] at h; cases h

theorem getD_set_self {listed : Array Bool} {i : Nat} (h : i < listed.size) : (listed.setIfInBounds i true).getD i false = true := by simp [h]

/-- One operation ahead of the stores, at whatever moment. -/
theorem mid_step {n : Nat} (hd : DrawOK ops n) (hseq : Seq E P ops old ops.toList tm hp vl) {listed : Array Bool} {β : Beta} {a : Act} {W : World} {j : Nat} {K : Act → World → Prop} {Q : Exit → Act → World → Prop}
    (hM : Mid E ops W0 old n tm hp vl listed β a W) (hj : j ∈ Region.ready .any ops listed) (hjn : j < n)
    (hK : ∀ β' a' W', Mid E ops W0 old n tm hp vl (listed.setIfInBounds j true) β' a' W' → K a' W') : wpOp P ops Q j K a W := by
  obtain ⟨hjun, o, ho, hall⟩ := mem_ready.1 hj
  obtain ⟨hjs, hjf⟩ := getD_false_true hjun
  have hjlt : j < ops.size := by rw [← hM.lsize]; exact hjs
  have hoj : ops[j]? = some ops[j] := Array.getElem?_eq_getElem hjlt
  have hoe : o = ops[j] := by rw [hoj] at ho; cases ho; rfl
  obtain ⟨ht, hstep⟩ := hseq j ops[j] (by simp)
  rw [← hoe] at ht hstep
  -- what an operation looks at
  have look : ∀ t, t ∈ o.looksAt ops → VRel E β ((tm j).getD t undefV) (a.tmps.getD t undef) := by
    intro t htl
    by_cases hlen : t < (tm 0).length
    · rw [List.getD_eq_getElem?_getD]
      rcases tm_get hseq t hlen j (by omega) with ⟨i, x, hi, hx, hxd, hv⟩ | ⟨hno, hv⟩
      · rw [hv]
        have he := hd.raw i j x o t hi hx ho htl hxd
        obtain ⟨e, hem, hb, heq⟩ := edge_spec he
        have hl := hall e hem hb
        rw [heq] at hl
        exact hM.valL i x t (by omega) hx hl hxd hlen
      · rw [hv]
        have h0 : (tm 0)[t]? = some (tm 0)[t] := List.getElem?_eq_getElem hlen
        rw [h0]
        refine hM.valU t _ h0 fun i x hi hx hl hxd => ?_
        rcases Nat.lt_trichotomy i j with hij | hij | hij
        · exact hno i x hij hx hxd
        · subst hij; rw [hjf] at hl; cases hl
        · have he := hd.war j i o x t hij ho hx htl hxd
          obtain ⟨e, hem, hb, heq⟩ := edge_spec he
          have hl2 := hM.closed i x hx hl e hem hb
          rw [heq, hjf] at hl2; cases hl2
    · have e1 : (tm j).getD t undefV = undefV := by
        have h0 : (tm j).length ≤ t := by rw [tm_length hseq j (by omega)]; exact Nat.not_lt.1 hlen
        rw [List.getD_eq_getElem?_getD, List.getElem?_eq_none h0]; rfl
      have e2 : a.tmps.getD t undef = undef := by
        have h0 : a.tmps.size ≤ t := by rw [hM.size]; exact Nat.not_lt.1 hlen
        rw [Array.getD_eq_getD_getElem?, Array.getElem?_eq_none h0]; rfl
      rw [e1, e2]; rfl
  have hev : ∀ x ∈ o.op.operands, VRel E β (evA (tm j) x) (a.eval x) := fun x hx => evA_rel_of fun t hxt => by
    subst hxt
    exact look t (List.mem_append_left _ (List.mem_filterMap.2 ⟨.tmp t, by simpa using hx, rfl⟩))
  have hwant : ∀ b, wantedA ops o (tm j) = some b → Region.wanted o (yielded ops a.tmps) = b := fun b hb => wanted_sound hb fun g want t hgd hgt => by
    refine look t (List.mem_append_right _ ?_)
    rw [hgd]; simp [hgt]
  have hj1 := hp_mono hd hseq hjn
  have hjn' := hp_le hd hseq (i := j) (j := n) (by omega) (Nat.le_refl _)
  have hjn1 := hp_le hd hseq (i := j + 1) (j := n) (by omega) (Nat.le_refl _)
  have hHj : HRel E β (hp j) W := ⟨hM.h.inv, hM.h.lt, fun id blk l hb hl => hM.h.ok id blk l hb (hjn'.2 id l hl)⟩
  -- the state behind it
  have after : ∀ (β' : Beta) (u : Value) (W' : World), Ext β β' → VRel E β' (vl j) u → HRel E β' (hp n) W' → Gr W0 W' →
      (∀ id blk, old ≤ id → β' id = some blk → W0.heap.size ≤ blk) → (∀ id id' blk, old ≤ id → β' id = some blk → β' id' = some blk → id = id') →
      (∀ id, β' id ≠ β id → (hp j).length ≤ id ∧ id < (hp (j + 1)).length) →
      Mid E ops W0 old n tm hp vl (listed.setIfInBounds j true) β' (a.put o.dst u) W' := by
    intro β' u W' hext hu hH hG hge hinj hnew
    refine ⟨by simpa using hM.lsize, closed_set hM.closed hj, ?_, by rw [size_put]; exact hM.size, by rw [defers_put]; exact hM.defers, ?_, ?_, hH, hge, hinj, hG, hM.inv0, ?_, ?_, hM.le⟩
    · intro i hi
      rw [getD_set_ne false (by omega)]; exact hM.rest i hi
    · intro i x t hi hx hl hxd hlen
      by_cases hij : j = i
      · subst hij
        rw [ho] at hx; cases hx
        rw [getD_put, if_pos ⟨hxd, by rw [hM.size]; exact hlen⟩]; exact hu
      · rw [getD_set_ne false hij] at hl
        have hne : o.dst ≠ some t := fun hod => by
          rcases Nat.lt_or_ge i j with h1 | h1
          · exact hd.dst i j x o t h1 hx ho hxd hod
          · exact hd.dst j i o x t (by omega) ho hx hod hxd
        rw [getD_put, if_neg (fun h => hne h.1)]
        exact (hM.valL i x t hi hx hl hxd hlen).mono hext
    · intro t v hv hno
      have hne : o.dst ≠ some t := hno j o hjn ho (getD_set_self hjs)
      rw [getD_put, if_neg (fun h => hne h.1)]
      refine (hM.valU t v hv fun i x hi hx hl => hno i x hi hx (getD_set_true hl)).mono hext
    · intro i id hi hl h1 h2
      have hij : j ≠ i := fun e => by subst e; rw [getD_set_self hjs] at hl; cases hl
      rw [getD_set_ne false hij] at hl
      have h0 := hM.fresh i id hi hl h1 h2
      by_cases hc : β' id = β id
      · rw [hc]; exact h0
      · have h3 := hnew id hc
        rcases Nat.lt_or_ge i j with hlt | hge'
        · have := (hp_le hd hseq (i := i + 1) (j := j) (by omega) (by omega)).1
          omega
        · have := (hp_le hd hseq (i := j + 1) (j := i) (by omega) (by omega)).1
          omega
    · intro id hid
      have h0 := hM.top id hid
      by_cases hc : β' id = β id
      · rw [hc]; exact h0
      · have h3 := hnew id hc
        have := hjn1.1
        omega
  unfold wpOp
  simp only [ho]
  rcases hstep with ⟨hw, hs, heff⟩ | ⟨_, _, ty, x, y, hop, _⟩ | ⟨hw, hv, hh⟩
  · rw [if_pos (hwant true hw)]
    refine .inl ?_
    generalize hq : hp (j + 1) = h' at heff
    cases heff with
    | pure hh =>
      refine (hh β a W hev hHj).wp fun u W' ⟨h1, h2⟩ => hK β _ W' ?_
      exact after β u W' (Ext.refl β) h1 (hM.h.grown h2) (Gr.trans' hM.grown h2) hM.ge hM.inj (fun id h => absurd rfl h)
    | new hh =>
      rename_i l
      refine (hh β a W hev hHj).wp fun u W' ⟨cells, ty, h1, h2, h3⟩ => ?_
      subst h1
      have hidn : (hp n)[(hp j).length]? = some l := hjn1.2 _ _ (by rw [hq]; simp)
      have hfr : β (hp j).length = none := hM.fresh j _ hjn hjf (Nat.le_refl _) (by rw [hq]; simp)
      obtain ⟨g1, g2⟩ := alloc_sound (ty := ty) hM.h h2 hidn hfr
      have hole : old ≤ (hp j).length := Nat.le_trans hM.le (hp_le hd hseq (i := 0) (j := j) (by omega) (by omega)).1
      refine hK _ _ _ (after _ u _ g2 (h3 _ g2 (by simp)) g1 (hM.grown.alloc cells ty) ?_ ?_ ?_)
      · intro id blk hold hb
        split at hb
        · cases hb; exact hM.grown.size
        · exact hM.ge id blk hold hb
      · intro id id' blk hold hb hb'
        split at hb
        · rename_i e1
          cases hb
          split at hb'
          · rename_i e2; rw [e1, e2]
          · have := hM.h.lt _ _ hb'; omega
        · rename_i e1
          split at hb'
          · cases hb'
            have := hM.h.lt _ _ hb; omega
          · exact hM.inj id id' blk hold hb hb'
      · intro id hne
        by_cases he : id = (hp j).length
        · subst he; rw [hq]; simp
        · exact absurd (if_neg he) hne
  · have := hd.comp j _ ho hjn
    rw [hop] at this; cases this
  · rw [if_neg (by rw [hwant false hw]; simp)]
    exact hK β _ W (after β undef W (Ext.refl β) (by rw [hv]; rfl) hM.h hM.grown hM.ge hM.inj (fun id h => absurd rfl h))

/-- All computing is done: the state of the text. -/
theorem mid_done {n : Nat} (hd : DrawOK ops n) (hseq : Seq E P ops old ops.toList tm hp vl) {listed : Array Bool} {β : Beta} {a : Act} {W : World}
    (hM : Mid E ops W0 old n tm hp vl listed β a W) (hall : ∀ i, i < n → listed.getD i false = true) : Rel E W0 β (tm n) (hp n) old a W := by
  have hn := hd.le
  refine ⟨by rw [tm_length hseq n hn]; exact hM.size, ?_, hM.defers, hM.h, hM.ge, hM.inj, hM.grown, hM.inv0, hM.top, Nat.le_trans hM.le (hp_le hd hseq (i := 0) (j := n) (by omega) (Nat.le_refl _)).1⟩
  intro t v hv
  have hlen : t < (tm 0).length := by rw [← tm_length hseq n hn]; exact (List.getElem?_eq_some_iff.1 hv).1
  rcases tm_get hseq t hlen n hn with ⟨i, x, hi, hx, hxd, hv'⟩ | ⟨hno, hv'⟩
  · rw [hv] at hv'; cases hv'
    exact hM.valL i x t hi hx (hall i hi) hxd hlen
  · rw [hv] at hv'
    exact hM.valU t v hv'.symm fun i x hi hx _ => hno i x hi hx

/-- How far it has come. -/
def Inv (E : Env) (ops : Array Oper) (W0 : World) (old n : Nat) (tm : Nat → List V) (hp : Nat → List (List SV)) (vl : Nat → V) (listed : Array Bool) (a : Act) (W : World) : Prop :=
  (∃ β, Mid E ops W0 old n tm hp vl listed β a W) ∨
  (∃ β m, n ≤ m ∧ m ≤ ops.size ∧ listed.size = ops.size ∧ Closed ops listed ∧ (∀ i, i < ops.size → listed.getD i false = decide (i < m)) ∧ Rel E W0 β (tm m) (hp m) old a W)

/-- An operation that is taken as soon as it may come up. -/
theorem eager_yields {o : Oper} {a : Act} {W : World} {K : Act → World → Prop} (he : isEager o.op = true) (h : o.wp P a W K (fun _ _ _ => False)) :
    ∃ v, (∀ w, (execOp a.eval o).run P w = .ok (.value v) w) ∧ K (a.put o.dst v) W := by
  unfold Oper.wp at h
  cases ho : o.op with
  | move x =>
    have hr : ∀ w, (execOp a.eval o).run P w = .ok (.value (a.eval x)) w := fun w => by unfold execOp; simp only [ho]; rfl
    rw [hr] at h
    exact ⟨_, hr, h⟩
  | assign x =>
    have hr : ∀ w, (execOp a.eval o).run P w = .ok (.value (a.eval x)) w := fun w => by unfold execOp; simp only [ho]; rfl
    rw [hr] at h
    exact ⟨_, hr, h⟩
  | extract x i =>
    have hx : ∀ w, (execOp a.eval o).run P w = (do pure (Next.value (← Instr.extract (a.eval x) i)) : Sem Next).run P w := fun w => by unfold execOp; simp only [ho]
    cases hv : a.eval x with
    | tuple vs =>
      cases hi : vs[i]? with
      | some v =>
        have hr : ∀ w, (execOp a.eval o).run P w = .ok (.value v) w := fun w => by rw [hx w, hv]; simp [Instr.extract, hi]
        rw [hr] at h
        exact ⟨_, hr, h⟩
      | none => rw [hx, hv] at h; simp [Instr.extract, hi, Oper.upon] at h
    | _ => rw [hx, hv] at h; simp [Instr.extract, Oper.upon] at h
  | _ => rw [ho] at he; cases he

theorem any_sound {n : Nat} (hd : DrawOK ops n) (hseq : Seq E P ops old ops.toList tm hp vl) {Q : Exit → Act → World → Prop} (hpan : ∀ c a w, ¬ Q (.panic c) a w)
    (hQ : ∀ β' a' W', Rel E W0 β' (tm ops.size) (hp ops.size) old a' W' → Q .normal a' W') :
    ∀ (fuel : Nat) (listed : Array Bool) (a : Act) (W : World), listed.toList.count true + fuel = ops.size → Inv E ops W0 old n tm hp vl listed a W → wpAny P .any ops Q fuel listed a W := by
  -- at the stores
  have store : ∀ (fuel : Nat) (listed : Array Bool) (β : Beta) (a : Act) (W : World) (m : Nat), n ≤ m → listed.size = ops.size → Closed ops listed → (∀ i, i < ops.size → listed.getD i false = decide (i < m)) →
      Rel E W0 β (tm m) (hp m) old a W → ∀ i ∈ Region.ready .any ops listed,
      (∀ listed' a' W', (listed' = listed.setIfInBounds i true) → Inv E ops W0 old n tm hp vl listed' a' W' → wpAny P .any ops Q fuel listed' a' W') →
      wpOp P ops Q i (wpAny P .any ops Q fuel (listed.setIfInBounds i true)) a W := by
    intro fuel listed β a W m hnm hls hcl hlm hR i hi ih
    obtain ⟨hun, o, ho, hall⟩ := mem_ready.1 hi
    obtain ⟨hisz, hif⟩ := getD_false_true hun
    have hilt : i < ops.size := by omega
    have hmi : m ≤ i := by
      have := hlm i hilt
      rw [hif] at this
      simpa using this.symm
    have him : i = m := by
      apply Classical.byContradiction
      intro hne
      have hmlt : m < ops.size := by omega
      rcases hd.anc m i ops[m] o (by omega) (Array.getElem?_eq_getElem hmlt) ho (by omega) with ha | ha
      · have hl := anc_listed hcl 3 o m ha hall
        rw [hlm m hmlt] at hl
        simp at hl
      · omega
    subst him
    obtain ⟨ht, hstep⟩ := hseq i o (by simpa using ho)
    refine step_text ho hstep hR fun β' a' W' hR' => ih _ a' W' rfl ?_
    refine .inr ⟨β', i + 1, by omega, by omega, by simpa using hls, closed_set hcl hi, fun k hk => ?_, by rw [ht]; exact hR'⟩
    by_cases hki : i = k
    · subst hki; rw [getD_set_self hisz]; simp
    · rw [getD_set_ne false hki, hlm k hk]
      simp; omega
  intro fuel
  induction fuel with
  | zero =>
    intro listed a W hcnt hI
    have hls : listed.size = ops.size := by rcases hI with ⟨β, hM⟩ | ⟨β, m, _, _, h, _⟩; exact hM.lsize; exact h
    have hallT : ∀ i, i < ops.size → listed.getD i false = true := by
      have hc : listed.toList.count true = listed.toList.length := by rw [Array.length_toList]; omega
      intro i hi
      have := List.count_eq_length.1 hc listed[i] (by simp)
      rw [Array.getD_eq_getD_getElem?, Array.getElem?_eq_getElem (by omega)]
      simpa using this.symm
    have hready : Region.ready .any ops listed = [] := by
      cases hr : Region.ready .any ops listed with
      | nil => rfl
      | cons i r =>
        have hi : i ∈ Region.ready .any ops listed := by rw [hr]; exact List.mem_cons_self ..
        obtain ⟨hun, o, ho, _⟩ := mem_ready.1 hi
        have h1 := (getD_false_true hun).2
        rw [hallT i (Array.getElem?_eq_some_iff.1 ho).1] at h1; cases h1
    refine ⟨hready, ?_⟩
    rcases hI with ⟨β, hM⟩ | ⟨β, m, hnm, hms, _, _, hlm, hR⟩
    · have hnN : n = ops.size := by
        apply Classical.byContradiction
        intro hne
        have hlt : n < ops.size := by have := hd.le; omega
        have h1 := hM.rest n (Nat.le_refl _)
        rw [hallT n hlt] at h1; cases h1
      have hR := mid_done hd hseq hM fun i hi => hallT i (by omega)
      rw [hnN] at hR
      exact hQ β a W hR
    · have hm : m = ops.size := by
        apply Classical.byContradiction
        intro hne
        have hlt : m < ops.size := by omega
        have h1 := hlm m hlt
        rw [hallT m hlt] at h1; simp at h1
      rw [hm] at hR
      exact hQ β a W hR
  | succ fuel ih =>
    intro listed a W hcnt hI
    have hls : listed.size = ops.size := by rcases hI with ⟨β, hM⟩ | ⟨β, m, _, _, h, _⟩; exact hM.lsize; exact h
    have hcount : ∀ i ∈ Region.ready .any ops listed, (listed.setIfInBounds i true).toList.count true + fuel = ops.size := by
      intro i hi
      obtain ⟨hun, o, ho, _⟩ := mem_ready.1 hi
      obtain ⟨hisz, hif⟩ := getD_false_true hun
      have he : listed.toList[i]'(by simpa using hisz) = false := by
        rw [Array.getD_eq_getD_getElem?, Array.getElem?_eq_getElem hisz] at hif
        simpa using hif
      rw [Array.toList_setIfInBounds, List.count_set (by simpa using hisz), he]
      have h1 : (false == true) = false := rfl
      have h2 : (true == true) = true := rfl
      simp only [h1, h2, if_true, Bool.false_eq_true, if_false]
      omega
    -- an eager operation that may come up is taken first
    by_cases heag : ∃ i o β, i ∈ Region.ready .any ops listed ∧ ops[i]? = some o ∧ i < n ∧ isEager o.op = true ∧ Mid E ops W0 old n tm hp vl listed β a W
    · obtain ⟨i, o, β, hi, ho, hin, heo, hM⟩ := heag
      have hstep := mid_step (K := fun a' W' => ∃ β', Mid E ops W0 old n tm hp vl (listed.setIfInBounds i true) β' a' W') (Q := fun _ _ _ => False) hd hseq hM hi hin (fun β' a' W' h => ⟨β', h⟩)
      have hy : ∃ v, Yields P ops o v a ∧ ∃ β', Mid E ops W0 old n tm hp vl (listed.setIfInBounds i true) β' (a.put o.dst v) W := by
        unfold wpOp at hstep
        simp only [ho] at hstep
        split at hstep
        · rename_i hw
          rcases hstep with h | ⟨_, _, _, hf⟩
          · obtain ⟨v, h1, h2⟩ := eager_yields heo h
            exact ⟨v, .inl ⟨hw, h1⟩, h2⟩
          · exact hf.elim
        · rename_i hw
          exact ⟨undef, .inr ⟨by simpa using hw, rfl⟩, hstep⟩
      obtain ⟨v, hyv, β', hM'⟩ := hy
      refine wpAny_first ho (Region.noSelect_spec hd.nosel) (fun c a w h => (hpan c _ w h).elim) fuel listed a W ?_ hi hyv (ih _ _ W (hcount i hi) (.inl ⟨β', hM'⟩))
      intro j oj hoj hne hun hno
      obtain ⟨_, o', ho', hall⟩ := mem_ready.1 hi
      rw [ho] at ho'; cases ho'
      have notlisted : ∀ {x : Oper}, edge x j = true → x = o → False := by
        intro x hx hxo
        subst hxo
        obtain ⟨e, he, hb, heq⟩ := edge_spec hx
        have h1 := hall e he hb
        rw [heq, (getD_false_true hun).2] at h1; cases h1
      have noedge : edge oj i = true → False := by
        intro hx
        obtain ⟨e, he, hb, heq⟩ := edge_spec hx
        exact hno e he hb heq
      unfold Oper.apart
      rw [Bool.and_eq_true]
      constructor
      · split
        · rename_i d hdst
          rw [Bool.and_eq_true]
          constructor
          · rw [Bool.not_eq_true']
            cases hc : (oj.looksAt ops).contains d with
            | false => rfl
            | true =>
              exfalso
              have hmem : d ∈ oj.looksAt ops := by simpa using hc
              rcases Nat.lt_or_ge i j with hlt | hge
              · exact noedge (hd.raw i j o oj d hlt ho hoj hmem hdst)
              · exact notlisted (hd.war j i oj o d (by omega) hoj ho hmem hdst) rfl
          · cases hdj : oj.dst with
            | none => rfl
            | some d' =>
              have : d' ≠ d := fun e => by
                subst e
                rcases Nat.lt_or_ge i j with hlt | hge
                · exact hd.dst i j o oj _ hlt ho hoj hdst hdj
                · exact hd.dst j i oj o _ (by omega) hoj ho hdj hdst
              simpa using this
        · rfl
      · split
        · rename_i d hdst
          rw [Bool.not_eq_true']
          cases hc : (o.looksAt ops).contains d with
          | false => rfl
          | true =>
            exfalso
            have hmem : d ∈ o.looksAt ops := by simpa using hc
            rcases Nat.lt_or_ge i j with hlt | hge
            · exact noedge (hd.war i j o oj d hlt ho hoj hmem hdst)
            · exact notlisted (hd.raw j i oj o d (by omega) hoj ho hmem hdst) rfl
        · rfl
    refine ⟨fun hr => ?_, fun i hi => ?_⟩
    · exfalso
      have hex : ∃ i, i < ops.size ∧ listed.getD i true = false := by
        apply Classical.byContradiction
        intro hne
        have hc : listed.toList.count true = listed.toList.length := by
          rw [List.count_eq_length]
          intro b hb
          obtain ⟨i, hi, rfl⟩ := List.mem_iff_getElem.1 hb
          have hi' : i < listed.size := by simpa using hi
          cases hv : listed.toList[i] with
          | true => rfl
          | false =>
            exfalso
            refine hne ⟨i, by omega, ?_⟩
            rw [Array.getD_eq_getD_getElem?, Array.getElem?_eq_getElem hi']
            simpa using hv
        rw [Array.length_toList] at hc
        omega
      obtain ⟨i, hi, hun⟩ := hex
      exact ready_of_unlisted hd i i (Nat.le_refl _) hi hun hr
    · rcases hI with ⟨β, hM⟩ | ⟨β, m, hnm, hms, _, hcl, hlm, hR⟩
      · by_cases hin : i < n
        · refine mid_step hd hseq hM hi hin fun β' a' W' hM' => ih _ a' W' (hcount i hi) (.inl ⟨β', hM'⟩)
        · obtain ⟨hun, o, ho, hall⟩ := mem_ready.1 hi
          have hilt : i < ops.size := (Array.getElem?_eq_some_iff.1 ho).1
          have hallT : ∀ k, k < n → listed.getD k false = true := fun k hk => by
            have hklt : k < ops.size := by omega
            rcases hd.anc k i ops[k] o (by omega) (Array.getElem?_eq_getElem hklt) ho (by omega) with ha | ⟨_, he, hed⟩
            · exact anc_listed hM.closed 3 o k ha hall
            · cases hlk : listed.getD k false with
              | true => rfl
              | false =>
                exfalso
                have hlk' : listed.getD k true = false := by
                  rw [Array.getD_eq_getD_getElem?, Array.getElem?_eq_getElem (by omega)] at hlk ⊢
                  simpa using hlk
                exact heag ⟨k, ops[k], β, mem_ready.2 ⟨hlk', ops[k], Array.getElem?_eq_getElem hklt, fun e hem hb => anc_listed hM.closed 3 o e.on (hed e hem hb) hall⟩, Array.getElem?_eq_getElem hklt, hk, he, hM⟩
          have hR := mid_done hd hseq hM hallT
          refine store fuel listed β a W n (Nat.le_refl _) hls hM.closed (fun k hk => ?_) hR i hi fun listed' a' W' he hI' => by subst he; exact ih _ a' W' (hcount i hi) hI'
          by_cases hkn : k < n
          · rw [hallT k hkn]; simp [hkn]
          · rw [hM.rest k (by omega)]; simp [hkn]
      · exact store fuel listed β a W m hnm hls hcl hlm hR i hi fun listed' a' W' he hI' => by subst he; exact ih _ a' W' (hcount i hi) hI'

/-- Left in order, or not at all. -/
def onlyNormal (Q : Exit → Act → World → Prop) : Exit → Act → World → Prop
  | .normal, a, w => Q .normal a w
  | _, _, _ => False

theorem region_draw {id : Nat} {β : Beta} {a : Act} {W : World} {Q : Exit → Act → World → Prop} (hm : P.follows .mixedOrders = true) (hd : drawOK ops = true) (hseq : Seq E P ops old ops.toList tm hp vl)
    (hR : Rel E W0 β (tm 0) (hp 0) old a W) (hQ : ∀ β' a' W', Rel E W0 β' (tm ops.size) (hp ops.size) old a' W' → Q .normal a' W') : (Code.region id ops true).wp P Q a W := by
  have hD := drawOK_spec hd
  have h0 := hp_le hD hseq (i := 0) (j := leads ops.toList) (by omega) (Nat.le_refl _)
  refine wp_mono (Q := onlyNormal Q) (wp_region_any hm (any_sound (W0 := W0) (Q := onlyNormal Q) hD hseq (fun _ _ _ h => h) (fun β' a' W' hR' => hQ β' a' W' hR') ops.size _ a _ (by simp [List.count_replicate]) (.inl ⟨β, ?_⟩))) (fun e a w h => by cases e <;> first | exact h | exact h.elim)
  have hf : ∀ i, (Array.replicate ops.size false).getD i false = false := fun i => by
    rw [Array.getD_eq_getD_getElem?, Array.getElem?_replicate]; split <;> rfl
  refine ⟨by simp, fun j o _ h => (by rw [hf j] at h; cases h), fun i _ => hf i, hR.size, hR.defers, fun i o t _ _ h => (by rw [hf i] at h; cases h), fun t v hv _ => hR.vals t v hv, ?_, hR.ge, hR.inj, Gr.drewN hR.grown 1, hR.inv0, ?_, ?_, hR.le⟩
  · refine ⟨E.stable W _ (Gr.drewN (Gr.refl W) 1) hR.h.inv, hR.h.lt, fun id blk l hb hl => ?_⟩
    have hid : id < (hp 0).length := by
      apply Classical.byContradiction
      intro hn
      rw [hR.fresh id (by omega)] at hb; cases hb
    have : (hp 0)[id]? = some l := by
      have h1 := h0.2 id (hp 0)[id] (List.getElem?_eq_getElem hid)
      rw [h1] at hl; cases hl
      exact List.getElem?_eq_getElem hid
    exact hR.h.ok id blk l hb this
  · intro i id hi _ h1 h2
    exact hR.fresh id (Nat.le_trans (hp_le hD hseq (i := 0) (j := i) (by omega) (by omega)).1 h1)
  · intro id hid
    exact hR.fresh id (Nat.le_trans h0.1 hid)

end
end Go.Sx

/-   Code, calls, whole functions: a run on symbols that answers true tells what the call returns. Conditions: none. -/
namespace Go.Sx
open Go.RowKit

def XE.exit' : XE → Exit
  | .normal => .normal
  | .exit id => .exit id
  | .ret => .ret

section
variable {E : Env} {P : Program} {S : FuncId → List V → Option Known}

/-- What a piece of code owes. -/
def CodeOK (E : Env) (P : Program) (c : Code) (tmps : List V) (st : St) (e : XE) (tmps' : List V) (st' : St) : Prop :=
  ∀ (W0 : World) (β : Beta) (a : Act) (W : World) (Q : Exit → Act → World → Prop), Rel E W0 β tmps st.heap st.old a W →
    (∀ β' a' W', Rel E W0 β' tmps' st'.heap st.old a' W' → Q e.exit' a' W') → c.wp P Q a W

def RunOK (E : Env) (P : Program) (r : Run) : Prop :=
  ∀ c tmps st K, r c tmps st K = true → FactsOK E st.facts → ∃ e tmps' st', K e tmps' st' = true ∧ FactsOK E st'.facts ∧ st'.old = st.old ∧ CodeOK E P c tmps st e tmps' st'

theorem HRel.empty {heap : List (List SV)} {W : World} (hi : E.inv W) : HRel E (fun _ => none) heap W :=
  ⟨hi, fun _ _ hb => absurd hb (by simp), fun _ _ _ hb _ => absurd hb (by simp)⟩

theorem handOver_sound : ∀ (args : List V) (heap bs : List (List SV)) (K : List V → List (List SV) → Bool), handOver heap args bs K = true →
    ∃ vs hs, K vs hs = true ∧ ∀ (β : Beta) (vals : List Value) (W : World), VsRel E β args vals → HRel E β heap W →
      ∀ β0 : Beta, (∀ i, bs.length ≤ i → β0 i = none) → HRel E β0 bs W →
        ∃ β1 : Beta, (∀ i, hs.length ≤ i → β1 i = none) ∧ HRel E β1 hs W ∧ Ext β0 β1 ∧ VsRel E β1 vs vals
  | [], heap, bs, K, h => ⟨[], bs, h, fun β vals W hv _ β0 h0 hr => ⟨β0, h0, hr, Ext.refl β0, by
      have : vals = [] := by have := hv.1; simpa using this.symm
      subst this
      exact ⟨rfl, fun i s v hs _ => by simp at hs⟩⟩⟩
  | v :: r, heap, bs, K, h => by
    unfold handOver at h
    split at h
    · rename_i id off len cap
      split at h
      · rename_i cells hc
        split at h
        · rename_i hn
          obtain ⟨vs, hs, hk, hrest⟩ := handOver_sound r heap _ _ h
          refine ⟨_, hs, hk, fun β vals W hv hr β0 h0 hb0 => ?_⟩
          cases vals with
          | nil => have := hv.1; simp at this
          | cons x xs =>
            have hx := hv.2 0 _ x rfl rfl
            obtain ⟨blk, hb, rfl⟩ := hx
            obtain ⟨arr, ty, hw, hl⟩ := hr.ok id blk cells hb hc
            have hext : Ext β0 (fun i => if i = bs.length then some blk else β0 i) := fun i b hib => by
              dsimp only
              rw [if_neg (by intro e; subst e; rw [h0 _ (Nat.le_refl _)] at hib; cases hib)]
              exact hib
            obtain ⟨β1, k1, k2, k3, k4⟩ := hrest β xs W ⟨by have := hv.1; simpa using this, fun i s w hs hw => hv.2 (i + 1) s w (by simpa using hs) (by simpa using hw)⟩ hr
              (fun i => if i = bs.length then some blk else β0 i)
              (fun i hi => by simp at hi; rw [if_neg (by omega)]; exact h0 i (by omega))
              ⟨hb0.inv, fun id' blk' hb' => by
                split at hb'
                · cases hb'; exact hr.lt id blk hb
                · exact hb0.lt id' blk' hb', fun id' blk' l' hb' hl' => by
                split at hb'
                · rename_i e
                  cases hb'
                  subst e
                  rw [List.getElem?_append_right (Nat.le_refl _)] at hl'
                  simp at hl'
                  subst hl'
                  exact ⟨arr, ty, hw, hl.noPtr hn⟩
                · rename_i e
                  have : bs[id']? = some l' := by
                    by_cases hid : id' < bs.length
                    · rwa [List.getElem?_append_left hid] at hl'
                    · rw [h0 id' (by omega)] at hb'; cases hb'
                  obtain ⟨c, t, q1, q2⟩ := hb0.ok id' blk' l' hb' this
                  exact ⟨c, t, q1, q2.mono hext⟩⟩
            refine ⟨β1, k1, k2, hext.trans k3, ⟨by have := k4.1; simp [this], fun i s w hs hw => ?_⟩⟩
            cases i with
            | zero =>
              simp at hs hw
              subst hs; subst hw
              exact ⟨blk, k3 _ _ (by simp), rfl⟩
            | succ i => exact k4.2 i s w (by simpa using hs) (by simpa using hw)
        · cases h
      · cases h
    · split at h
      · rename_i hn
        obtain ⟨vs, hs, hk, hrest⟩ := handOver_sound r heap bs _ h
        refine ⟨_, hs, hk, fun β vals W hv hr β0 h0 hb0 => ?_⟩
        cases vals with
        | nil => have := hv.1; simp at this
        | cons x xs =>
          have hx := hv.2 0 _ x rfl rfl
          obtain ⟨β1, k1, k2, k3, k4⟩ := hrest β xs W ⟨by have := hv.1; simpa using this, fun i s w hs hw => hv.2 (i + 1) s w (by simpa using hs) (by simpa using hw)⟩ hr β0 h0 hb0
          refine ⟨β1, k1, k2, k3, ⟨by have := k4.1; simp [this], fun i s w hs hw => ?_⟩⟩
          cases i with
          | zero =>
            simp at hs hw
            subst hs; subst hw
            exact hx.noPtr hn
          | succ i => exact k4.2 i s w (by simpa using hs) (by simpa using hw)
      · cases h

/-- One result. -/
def resultOf (ts : Array Value) (r : ResultVar) : Sem Value :=
  match r with
  | .tmp t => pure (ts.getD t undef)
  | .cell a t => do loadVar t (← asAddr (ts.getD a undef))

theorem resultA_sound {heap : List (List SV)} {tmps : List V} {r : ResultVar} {sv : V} {β : Beta} {W : World} {ts : Array Value} (h : resultA P heap tmps r = some sv)
    (hv : ∀ t, VRel E β (tmps.getD t undefV) (ts.getD t undef)) (hr : HRel E β heap W) :
    ∃ y, (resultOf ts r).run P W = .ok y W ∧ VRel E β sv y := by
  cases r with
  | tmp t => simp only [resultA, Option.some.injEq] at h; subst h; exact ⟨_, rfl, hv t⟩
  | cell a t =>
    simp only [resultA] at h
    obtain ⟨y, h1, h2⟩ := loadA_sound (W := W) h (hv a) hr
    refine ⟨y, ?_, h2⟩
    unfold resultOf
    dsimp only
    have hp : ∃ ad, ts.getD a undef = .pointer (some ad) := by
      have hva := hv a
      unfold loadA at h
      split at h
      · rename_i id off hx
        rw [hx] at hva
        obtain ⟨blk, _, e⟩ := hva
        exact ⟨_, e⟩
      · cases h
    obtain ⟨ad, e⟩ := hp
    rw [e] at h1 ⊢
    simpa [Instr.loadAt, Instr.sureAddr, asAddr] using h1

theorem results_eq (fn : Func) (ts : Array Value) : results fn ts = (do
    let vs ← fn.results.mapM (resultOf ts)
    pure (if h : vs.size = 1 then vs[0] else .tuple vs)) := by
  unfold results
  congr 1

theorem resultsA_sound {heap : List (List SV)} {tmps : List V} {fn : Func} {sv : V} {β : Beta} {W : World} {ts : Array Value} (h : resultsA P heap tmps fn.results.toList = some sv)
    (hv : ∀ t, VRel E β (tmps.getD t undefV) (ts.getD t undef)) (hr : HRel E β heap W) : ∃ y, (results fn ts).run P W = .ok y W ∧ VRel E β sv y := by
  rw [results_eq]
  unfold resultsA at h
  split at h
  · rename_i r hl
    have he : fn.results = #[r] := by apply Array.ext'; simpa using hl
    obtain ⟨y, h1, h2⟩ := resultA_sound h hv hr
    refine ⟨y, ?_, h2⟩
    rw [he]
    simp [h1]
  · rename_i r s hl
    have he : fn.results = #[r, s] := by apply Array.ext'; simpa using hl
    split at h
    · rename_i x y hx hy
      cases h
      obtain ⟨u, h1, h2⟩ := resultA_sound hx hv hr
      obtain ⟨w, h3, h4⟩ := resultA_sound hy hv hr
      refine ⟨.tuple #[u, w], ?_, ⟨u, w, rfl, h2, h4⟩⟩
      rw [he]
      simp [h1, h3]
    · cases h
  · cases h

theorem run_callFunc {f : FuncId} {fn : Func} {c : Code} {args : Array Value} {W : World} (hfn : P.funcs[f]? = some fn) (hne : (fn.name == "runtime.NumGoroutine") = false) (hb : fn.body = some c) :
    (callFunc f args).run P W = .ok (.enter f args) W := by
  unfold callFunc
  rw [Sem.run_bind, run_program]
  simp only [Result.andThen_ok, hfn, hne, hb, Option.isNone_some, Bool.false_eq_true, if_false]
  rfl

theorem callA_sound (hN : ∀ (f : FuncId) (fn : Func), P.funcs[f]? = some fn → (fn.name == "runtime.NumGoroutine") = false) {r : Run} (hr : RunOK E P r) : CallOK E P (callA P r) := by
  intro f args st K h hf
  unfold callA at h
  split at h
  · rename_i fn hfn
    split at h
    · rename_i c hc
      obtain ⟨vs, hs, hk, hhand⟩ := handOver_sound (E := E) args st.heap [] _ h
      rw [forceL_eq] at hk
      obtain ⟨e, t', s', h1, h2, h3, h4⟩ := hr _ _ _ _ hk hf
      -- the two ways to the end
      have fin : ∃ sv, resultsA P s'.heap t' fn.results.toList = some sv ∧ noPtr sv = true ∧ K sv s'.facts = true ∧ (e = .normal ∨ e = .ret) := by
        cases e with
        | exit id => cases h1
        | normal =>
          dsimp only at h1
          split at h1
          · rename_i sv hsv
            split at h1
            · rename_i hnp; rw [forceV_eq] at h1; exact ⟨sv, hsv, hnp, h1, .inl rfl⟩
            · cases h1
          · cases h1
        | ret =>
          dsimp only at h1
          split at h1
          · rename_i sv hsv
            split at h1
            · rename_i hnp; rw [forceV_eq] at h1; exact ⟨sv, hsv, hnp, h1, .inr rfl⟩
            · cases h1
          · cases h1
      obtain ⟨sv, hsv, hnp, hK, he⟩ := fin
      refine ⟨sv, s'.facts, hK, h2, fun β vals W hv hH => ?_⟩
      obtain ⟨β1, k1, k2, _, k4⟩ := hhand β vals W hv hH (fun _ => none) (fun _ _ => rfl) (HRel.empty hH.inv)
      unfold CallRuns
      have hrun : (callFunc f vals.toArray).run P W = .ok (.enter f vals.toArray) W := run_callFunc hfn (hN f fn hfn) hc
      rw [hrun]
      refine calls_of_wp hfn hc (h4 W β1 _ W _ ⟨?_, ?_, rfl, k2, fun id blk hold hb => ?_, fun id id' blk hold hb _ => ?_, Gr.refl W, hH.inv, k1, Nat.le_refl _⟩ fun β' a' W' hR => ?_)
      · simp [k4.1]
      · intro i v hi
        have hlen := k4.1
        by_cases hlt : i < vs.length
        · rw [List.getElem?_append_left hlt] at hi
          have hlt2 : i < vals.length := by omega
          have e1 : (vals.toArray ++ Array.replicate (fn.ntmps - vals.toArray.size) undef).getD i undef = vals[i] := by
            rw [Array.getD_eq_getD_getElem?, Array.getElem?_append_left (by simpa using hlt2)]
            simp [hlt2]
          rw [e1]
          exact k4.2 i v _ hi (List.getElem?_eq_getElem hlt2)
        · rw [List.getElem?_append_right (by omega), List.getElem?_replicate] at hi
          split at hi
          · rename_i hlt3
            cases hi
            have e1 : (vals.toArray ++ Array.replicate (fn.ntmps - vals.toArray.size) undef).getD i undef = undef := by
              rw [Array.getD_eq_getD_getElem?, Array.getElem?_append_right (by simp; omega), Array.getElem?_replicate]
              split <;> rfl
            rw [e1]; rfl
          · cases hi
      · dsimp only at hold; rw [k1 id hold] at hb; cases hb
      · dsimp only at hold; rw [k1 id hold] at hb; cases hb
      · have hgd := getD_rel hR.size hR.vals
        obtain ⟨y, q1, q2⟩ := resultsA_sound hsv hgd hR.h
        have : bodyPost P fn (fun e W'' => ∃ v, e = .returned v ∧ VRel E β sv v ∧ Gr W W'') e.exit' a' W' := by
          rcases he with rfl | rfl
          · exact ⟨hR.defers, y, q1, y, rfl, q2.noPtr hnp, hR.grown⟩
          · exact ⟨hR.defers, y, q1, y, rfl, q2.noPtr hnp, hR.grown⟩
        exact this
    · cases h
  · cases h

/-- A loop: so many rounds. -/
def LoopOK (E : Env) (P : Program) (b : Code) (tmps : List V) (st : St) (e : XE) (tmps' : List V) (st' : St) : Prop :=
  ∃ r, ∀ (W0 : World) (β : Beta) (a : Act) (W : World) (Q : Exit → Act → World → Prop), Rel E W0 β tmps st.heap st.old a W →
    (∀ β' a' W', Rel E W0 β' tmps' st'.heap st.old a' W' → Q e.exit' a' W') → Code.rounds P b Q r a W

theorem code_sound (hm : P.follows .mixedOrders = true) (hN : ∀ (f : FuncId) (fn : Func), P.funcs[f]? = some fn → (fn.name == "runtime.NumGoroutine") = false) (hS : SumOK E P S) :
    ∀ n, RunOK E P (codeA P S n) ∧ ∀ b tmps st K, codeA P S n (.loop b) tmps st K = true → FactsOK E st.facts → ∃ e tmps' st', K e tmps' st' = true ∧ FactsOK E st'.facts ∧ st'.old = st.old ∧ LoopOK E P b tmps st e tmps' st'
  | 0 => ⟨fun c tmps st K h => absurd h (by simp [codeA]), fun b tmps st K h => absurd h (by simp [codeA])⟩
  | n + 1 => by
    obtain ⟨ih, ihL⟩ := code_sound hm hN hS n
    have hcall := callA_sound hN ih
    have loop : ∀ b tmps st K, codeA P S (n + 1) (.loop b) tmps st K = true → FactsOK E st.facts → ∃ e tmps' st', K e tmps' st' = true ∧ FactsOK E st'.facts ∧ st'.old = st.old ∧ LoopOK E P b tmps st e tmps' st' := by
      intro b tmps st K h hf
      have h' : codeA P S n b tmps st (fun e t s => match e with | .normal => codeA P S n (.loop b) t s K | e => K e t s) = true := h
      obtain ⟨e, t, s, h1, h2, h3, h4⟩ := ih _ _ _ _ h' hf
      cases e with
      | normal =>
        obtain ⟨e', t', s', g1, g2, g3, r, g4⟩ := ihL b t s K h1 h2
        refine ⟨e', t', s', g1, g2, g3.trans h3, r + 1, fun W0 β a W Q hR hQ => ?_⟩
        rw [rounds_succ]
        refine h4 W0 β a W _ hR fun β' a' W' hR' => ?_
        rw [h3] at g4
        exact g4 W0 β' a' W' Q hR' hQ
      | exit id => exact ⟨_, t, s, h1, h2, h3, 1, fun W0 β a W Q hR hQ => by rw [rounds_succ]; exact h4 W0 β a W _ hR fun β' a' W' hR' => hQ β' a' W' hR'⟩
      | ret => exact ⟨_, t, s, h1, h2, h3, 1, fun W0 β a W Q hR hQ => by rw [rounds_succ]; exact h4 W0 β a W _ hR fun β' a' W' hR' => hQ β' a' W' hR'⟩
    refine ⟨fun c tmps st K h hf => ?_, loop⟩
    cases c with
    | skip => exact ⟨.normal, tmps, st, h, hf, rfl, fun W0 β a W Q hR hQ => wp_skip (hQ β a W hR)⟩
    | label l => exact ⟨.normal, tmps, st, h, hf, rfl, fun W0 β a W Q hR hQ => wp_label (hQ β a W hR)⟩
    | exit id => exact ⟨.exit id, tmps, st, h, hf, rfl, fun W0 β a W Q hR hQ => wp_exit (hQ β a W hR)⟩
    | ret => exact ⟨.ret, tmps, st, h, hf, rfl, fun W0 β a W Q hR hQ => wp_ret (hQ β a W hR)⟩
    | seq x y =>
      have h' : codeA P S n x tmps st (fun e t s => match e with | .normal => codeA P S n y t s K | e => K e t s) = true := h
      obtain ⟨e, t, s, h1, h2, h3, h4⟩ := ih _ _ _ _ h' hf
      cases e with
      | normal =>
        obtain ⟨e', t', s', g1, g2, g3, g4⟩ := ih _ _ _ _ h1 h2
        refine ⟨e', t', s', g1, g2, g3.trans h3, fun W0 β a W Q hR hQ => wp_seq (h4 W0 β a W _ hR fun β' a' W' hR' => ?_)⟩
        rw [← h3] at hR' hQ
        exact g4 W0 β' a' W' Q hR' hQ
      | exit id => exact ⟨_, t, s, h1, h2, h3, fun W0 β a W Q hR hQ => wp_seq (h4 W0 β a W _ hR fun β' a' W' hR' => hQ β' a' W' hR')⟩
      | ret => exact ⟨_, t, s, h1, h2, h3, fun W0 β a W Q hR hQ => wp_seq (h4 W0 β a W _ hR fun β' a' W' hR' => hQ β' a' W' hR')⟩
    | cond x p q =>
      have h' : (match evA tmps x with | .sc (.bool true) => codeA P S n p tmps st K | .sc (.bool false) => codeA P S n q tmps st K | _ => false) = true := h
      split at h'
      · rename_i hx
        obtain ⟨e, t, s, h1, h2, h3, h4⟩ := ih _ _ _ _ h' hf
        refine ⟨e, t, s, h1, h2, h3, fun W0 β a W Q hR hQ => ?_⟩
        have hv := evA_rel (E := E) (β := β) (getD_rel hR.size hR.vals) x
        rw [hx] at hv
        exact wp_cond_true hv (h4 W0 β a W Q hR hQ)
      · rename_i hx
        obtain ⟨e, t, s, h1, h2, h3, h4⟩ := ih _ _ _ _ h' hf
        refine ⟨e, t, s, h1, h2, h3, fun W0 β a W Q hR hQ => ?_⟩
        have hv := evA_rel (E := E) (β := β) (getD_rel hR.size hR.vals) x
        rw [hx] at hv
        exact wp_cond_false hv (h4 W0 β a W Q hR hQ)
      · cases h'
    | block id b =>
      have h' : codeA P S n b tmps st (fun e t s => match e with | .exit i => if Nat.beq i id then K .normal t s else K (.exit i) t s | e => K e t s) = true := h
      obtain ⟨e, t, s, h1, h2, h3, h4⟩ := ih _ _ _ _ h' hf
      cases e with
      | normal => exact ⟨_, t, s, h1, h2, h3, fun W0 β a W Q hR hQ => wp_block (h4 W0 β a W _ hR fun β' a' W' hR' => hQ β' a' W' hR')⟩
      | ret => exact ⟨_, t, s, h1, h2, h3, fun W0 β a W Q hR hQ => wp_block (h4 W0 β a W _ hR fun β' a' W' hR' => hQ β' a' W' hR')⟩
      | exit i =>
        dsimp only at h1
        split at h1
        · rename_i hi
          have hi' := Nat.eq_of_beq_eq_true hi
          refine ⟨_, t, s, h1, h2, h3, fun W0 β a W Q hR hQ => wp_block (h4 W0 β a W _ hR fun β' a' W' hR' => ?_)⟩
          show (if i = id then Q .normal a' W' else Q (.exit i) a' W')
          rw [if_pos hi']; exact hQ β' a' W' hR'
        · rename_i hi
          have hi' : i ≠ id := fun e => hi (by subst e; exact Nat.beq_refl i)
          refine ⟨_, t, s, h1, h2, h3, fun W0 β a W Q hR hQ => wp_block (h4 W0 β a W _ hR fun β' a' W' hR' => ?_)⟩
          show (if i = id then Q .normal a' W' else Q (.exit i) a' W')
          rw [if_neg hi']; exact hQ β' a' W' hR'
    | loop b =>
      obtain ⟨e, t, s, h1, h2, h3, r, h4⟩ := loop b tmps st K h hf
      exact ⟨e, t, s, h1, h2, h3, fun W0 β a W Q hR hQ => wp_loop_rounds r (h4 W0 β a W Q hR hQ)⟩
    | scope b =>
      obtain ⟨e, t, s, h1, h2, h3, h4⟩ := ih b tmps st K h hf
      refine ⟨e, t, s, h1, h2, h3, fun W0 β a W Q hR hQ => wp_scope_straight (h4 W0 β a W _ hR fun β' a' W' hR' => ?_)⟩
      have := hQ β' a' W' hR'
      cases e <;> exact this
    | region id ops draw =>
      cases draw with
      | false =>
        have h' : opsA P S (callA P (codeA P S n)) ops ops.toList tmps st (K .normal) = true := h
        obtain ⟨tm, hp, vl, st', g1, g2, g3, g4, g5, g6, g7⟩ := opsA_seq hS hcall _ _ _ _ h' hf
        rw [Array.length_toList] at g1 g4
        refine ⟨.normal, _, st', g1, g2, g3, fun W0 β a W Q hR hQ => region_text g7 (by rw [g5, g6]; exact hR) fun β' a' W' hR' => hQ β' a' W' (by rw [g4]; exact hR')⟩
      | true =>
        have h' : (if drawOK ops then opsA P S (callA P (codeA P S n)) ops ops.toList tmps st (K .normal) else false) = true := h
        split at h'
        · rename_i hd
          obtain ⟨tm, hp, vl, st', g1, g2, g3, g4, g5, g6, g7⟩ := opsA_seq hS hcall _ _ _ _ h' hf
          rw [Array.length_toList] at g1 g4
          refine ⟨.normal, _, st', g1, g2, g3, fun W0 β a W Q hR hQ => region_draw hm hd g7 (by rw [g5, g6]; exact hR) fun β' a' W' hR' => hQ β' a' W' (by rw [g4]; exact hR')⟩
        · cases h'
    | rangeFunc f params assign body => cases h
    | goto l => cases h
    | refuse why => cases h

/-- ████ A run on symbols that answers true: what the call returns. -/
theorem runA_sound (hm : P.follows .mixedOrders = true) (hN : ∀ (f : FuncId) (fn : Func), P.funcs[f]? = some fn → (fn.name == "runtime.NumGoroutine") = false) (hS : SumOK E P S)
    {n : Nat} {f : FuncId} {args : List V} {fs : Facts} {K : V → Facts → Bool} (h : runA P S n f args fs K = true) (hf : FactsOK E fs) :
    ∃ sv fs', K sv fs' = true ∧ FactsOK E fs' ∧ ∀ (vals : List Value) (W : World), VsRel E (fun _ => none) args vals → E.inv W →
      Calls P f vals.toArray W fun e W' => ∃ v, e = .returned v ∧ VRel E (fun _ => none) sv v ∧ Gr W W' := by
  obtain ⟨sv, fs', h1, h2, h3⟩ := callA_sound hN (code_sound hm hN hS n).1 f args { facts := fs, heap := [], old := 0 } K h hf
  refine ⟨sv, fs', h1, h2, fun vals W hv hi => ?_⟩
  have h4 := h3 (fun _ => none) vals W hv (HRel.empty hi)
  unfold CallRuns at h4
  have hfn : ∃ fn, P.funcs[f]? = some fn ∧ fn.body.isSome = true := by
    unfold runA callA at h
    split at h
    · rename_i fn hfn
      split at h
      · rename_i c hc; exact ⟨fn, hfn, by simp [hc]⟩
      · cases h
    · cases h
  obtain ⟨fn, hfn, hb⟩ := hfn
  have hrun : (callFunc f vals.toArray).run P W = .ok (.enter f vals.toArray) W := by
    cases hbb : fn.body with
    | none => rw [hbb] at hb; cases hb
    | some c => exact run_callFunc hfn (hN f fn hfn) hbb
  rw [hrun] at h4
  exact h4

end
end Go.Sx

/-   From a run on symbols to a law's statement: a law whose parameters are floats and arrays of floats. Conditions: none. -/
namespace Go.Sx
open Go.RowKit Go.ChangeShapes Go.WideShapes Go.ChangeAt

section
variable {P : Program}

/-- A type that is a float of 32 bits, or an array of such, or an array of arrays .. -/
def plainT (P : Program) : Nat → TypeId → Bool
  | 0, _ => false
  | k + 1, t =>
    match P.underlying t with
    | some (.float .f32) => Nat.beq (P.cellsOf t) 1
    | some (.array n e) => Nat.beq (P.cellsOf t) (n * P.cellsOf e) && plainT P k e
    | _ => false

def fltCell (v : Value) : Prop := ∃ b, v = .float .f32 b ∧ b < 4294967296

theorem mapM_opt_get {α β : Type} {f : α → Option β} : ∀ {l : List α} {r : List β}, l.mapM f = some r → ∀ (i : Nat) (x : α), l[i]? = some x → ∃ y, f x = some y ∧ r[i]? = some y
  | [], r, h, i, x, hx => by simp at hx
  | a :: l, r, h, i, x, hx => by
    rw [List.mapM_cons] at h
    cases ha : f a with
    | none => rw [ha] at h; cases h
    | some b =>
      rw [ha] at h
      cases hl : l.mapM f with
      | none => rw [hl] at h; cases h
      | some bs =>
        rw [hl] at h
        cases h
        cases i with
        | zero => simp at hx; subst hx; exact ⟨b, ha, rfl⟩
        | succ i => simp at hx; obtain ⟨y, h1, h2⟩ := mapM_opt_get hl i x hx; exact ⟨y, h1, by simpa using h2⟩

theorem plain_trod {H : Type} {enc : TypeId × Value → H} : ∀ (k : Nat) (t : TypeId), plainT P k t = true → ∀ (fuel : Nat) (W W' : World) (b b' : Nat) (sp sp' : Nat → Bool) (hd hd' : Bool) (cs : List Value),
    DataW.trod enc P W b sp hd fuel t cs = DataW.trod enc P W' b' sp' hd' fuel t cs ∧
      ∀ x, DataW.trod enc P W b sp hd fuel t cs = some x → x.2 = [] ∧ cs.length = P.cellsOf t ∧ ∀ c ∈ cs, fltCell c
  | 0, _, h, _, _, _, _, _, _, _, _, _, _ => by cases h
  | k + 1, t, h, fuel, W, W', b, b', sp, sp', hd, hd', cs => by
    cases fuel with
    | zero => exact ⟨rfl, fun x hx => by cases hx⟩
    | succ fuel =>
      unfold plainT at h
      split at h
      · rename_i hu
        have hcell := Nat.eq_of_beq_eq_true h
        unfold DataW.trod
        rw [hu]
        refine ⟨?_, fun x hx => ?_⟩
        · split <;> first | rfl | simp_all
        · have hs : ∃ b, cs = [.float .f32 b] ∧ x.2 = [] ∧ b < 4294967296 := by
            split at hx
            all_goals first
              | (rename_i heq _; cases heq; done)
              | (rename_i heq; cases heq; done)
              | (simp only [reduceCtorEq, Option.some.injEq] at *; done)
              | (rename_i k1 k2 b1 heq
                 cases heq
                 split at hx
                 · rename_i hw
                   obtain ⟨rfl, hw⟩ := hw
                   cases hx
                   exact ⟨b1, rfl, rfl, by simpa [Lit.wf] using hw⟩
                 · cases hx)
          obtain ⟨b0, rfl, h2, h3⟩ := hs
          exact ⟨h2, by simp [hcell], fun c hc => by simp at hc; exact ⟨b0, hc, h3⟩⟩
      · rename_i n e hu
        simp only [Bool.and_eq_true] at h
        obtain ⟨hc, hp⟩ := h
        have hcell := Nat.eq_of_beq_eq_true hc
        have ih := plain_trod (enc := enc) k e hp
        have h1 : DataW.trod enc P W b sp hd (fuel + 1) t cs = if cs.length = P.cellsOf t then ((List.range n).mapM fun i => DataW.trod enc P W b sp hd fuel e ((cs.drop (i * P.cellsOf e)).take (P.cellsOf e))).map fun xs => (.agg (xs.map (·.1)), xs.flatMap (·.2)) else none := by
          simp only [DataW.trod, hu]
        have h2 : DataW.trod enc P W' b' sp' hd' (fuel + 1) t cs = if cs.length = P.cellsOf t then ((List.range n).mapM fun i => DataW.trod enc P W' b' sp' hd' fuel e ((cs.drop (i * P.cellsOf e)).take (P.cellsOf e))).map fun xs => (.agg (xs.map (·.1)), xs.flatMap (·.2)) else none := by
          simp only [DataW.trod, hu]
        refine ⟨?_, fun x hx => ?_⟩
        · rw [h1, h2]
          congr 3
          funext i
          exact (ih fuel W W' b b' sp sp' hd hd' _).1
        · rw [h1] at hx
          split at hx
          · rename_i hlen
            cases hm : ((List.range n).mapM fun i => DataW.trod enc P W b sp hd fuel e ((cs.drop (i * P.cellsOf e)).take (P.cellsOf e))) with
            | none => rw [hm] at hx; cases hx
            | some xs =>
              rw [hm] at hx
              cases hx
              have hget := mapM_opt_get hm
              refine ⟨?_, hlen, fun c hcm => ?_⟩
              · dsimp only
                rw [List.flatMap_eq_nil_iff]
                intro y hy
                obtain ⟨i, hi, rfl⟩ := List.mem_iff_getElem.1 hy
                have hlen2 : xs.length = n := by simpa using mapM_some_length hm
                obtain ⟨z, hz1, hz2⟩ := hget i i (by rw [List.getElem?_range (by omega)])
                have hz3 : z = xs[i] := by rw [List.getElem?_eq_getElem hi] at hz2; cases hz2; rfl
                subst hz3
                exact ((ih fuel W W' b b' sp sp' hd hd' _).2 _ hz1).1
              · obtain ⟨j, hj, rfl⟩ := List.mem_iff_getElem.1 hcm
                have hsz : 0 < P.cellsOf e := by
                  rcases Nat.eq_zero_or_pos (P.cellsOf e) with h0 | h0
                  · rw [h0] at hcell; omega
                  · exact h0
                have hq : j / P.cellsOf e < n := by rw [Nat.div_lt_iff_lt_mul hsz]; omega
                obtain ⟨z, hz1, _⟩ := hget (j / P.cellsOf e) (j / P.cellsOf e) (by simp [hq])
                refine ((ih fuel W W' b b' sp sp' hd hd' _).2 _ hz1).2.2 cs[j] ?_
                have hmod := Nat.mod_lt j hsz
                have hdiv := Nat.div_add_mod j (P.cellsOf e)
                rw [List.mem_iff_getElem?]
                refine ⟨j % P.cellsOf e, ?_⟩
                rw [List.getElem?_take, if_pos hmod, List.getElem?_drop, Nat.mul_comm, hdiv]
                exact List.getElem?_eq_getElem hj
          · cases hx
      · cases h

/-- The symbols for the arguments: float number i is 'arg i'. -/
def argsV (P : Program) : Nat → List TypeId → List V
  | _, [] => []
  | i, t :: ts =>
    (match P.underlying t with
     | some (.array _ _) => .agg ((List.range (P.cellsOf t)).map fun j => .flt .f32 (.arg (i + j)))
     | _ => .sc (.flt .f32 (.arg i))) :: argsV P (i + P.cellsOf t) ts

def bitsOf (v : Value) : Nat :=
  match v with
  | .float _ b => b
  | _ => 0

/-- The floats of the arguments, one behind the other. -/
def floatsOf (vs : List Value) : List Nat := vs.flatMap fun v => v.cells.toList.map bitsOf

def envOf (vs : List Value) (f1 : Nat → CF → CF) (f2 : Nat → CF → CF → CF) : Env :=
  { arg := fun i => canon .f32 ((floatsOf vs).getD i 0), f1 := f1, f2 := f2 }

theorem argsV_rel {E : Env} {β : Beta} (all : List Nat) (hE : ∀ i, E.arg i = canon .f32 (all.getD i 0)) : ∀ (ts : List TypeId) (vs : List Value) (i : Nat),
    ts.length = vs.length → (∀ (j : Nat) (t : TypeId) (v : Value), ts[j]? = some t → vs[j]? = some v → plainT P 3 t = true ∧ (∀ c ∈ v.cells.toList, fltCell c) ∧ v.cells.size = P.cellsOf t ∧ ((∃ n e, P.underlying t = some (.array n e)) → ∃ arr, v = .agg arr) ∧ (P.underlying t = some (.float .f32) → ∃ b, v = .float .f32 b)) →
    (∀ j, j < (floatsOf vs).length → all.getD (i + j) 0 = (floatsOf vs).getD j 0) → VsRel E β (argsV P i ts) vs
  | [], vs, i, hl, _, _ => by
    have : vs = [] := by simpa using hl.symm
    subst this
    exact ⟨rfl, fun j s v h _ => by simp [argsV] at h⟩
  | t :: ts, [], i, hl, _, _ => by simp at hl
  | t :: ts, v :: vs, i, hl, hp, ha => by
    obtain ⟨hpl, hflt, hsz, hagg, hsc⟩ := hp 0 t v rfl rfl
    have hfl : floatsOf (v :: vs) = v.cells.toList.map bitsOf ++ floatsOf vs := rfl
    have ih := argsV_rel (E := E) (β := β) all hE ts vs (i + P.cellsOf t) (by simpa using hl) (fun j t' v' h1 h2 => hp (j + 1) t' v' (by simpa using h1) (by simpa using h2)) (fun j hj => by
      have := ha (P.cellsOf t + j) (by rw [hfl]; simp; omega)
      rw [hfl] at this
      rw [show i + P.cellsOf t + j = i + (P.cellsOf t + j) by omega, this]
      simp [List.getElem?_append_right, hsz])
    have hget : ∀ j, j < P.cellsOf t → ∃ b, v.cells.toList[j]? = some (.float .f32 b) ∧ canon .f32 b = E.arg (i + j) := by
      intro j hj
      have hj' : j < v.cells.toList.length := by simp [hsz, hj]
      obtain ⟨b, hb, _⟩ := hflt v.cells.toList[j] (List.getElem_mem hj')
      refine ⟨b, by rw [List.getElem?_eq_getElem hj', hb], ?_⟩
      have := ha j (by rw [hfl]; simp; omega)
      rw [hE, this, hfl]
      have hb2 : v.cells[j]'(by simpa using hj') = .float .f32 b := by simpa using hb
      simp [List.getElem?_append_left, hsz, hj, hb2, bitsOf]
    refine ⟨by simp [argsV, ih.1], fun j s w h1 h2 => ?_⟩
    cases j with
    | succ j => exact ih.2 j s w (by simpa [argsV] using h1) (by simpa using h2)
    | zero =>
      simp only [argsV, List.getElem?_cons_zero, Option.some.injEq] at h1 h2
      subst h2
      cases hu : P.underlying t with
      | none => simp [plainT, hu] at hpl
      | some d =>
        rw [hu] at h1
        cases d
        case array n e =>
          dsimp only at h1
          subst h1
          obtain ⟨arr, rfl⟩ := hagg ⟨n, e, hu⟩
          refine ⟨arr, rfl, by have h9 : arr.size = P.cellsOf t := hsz; simp [h9], fun k s' v' hs hv => ?_⟩
          rw [List.getElem?_map] at hs
          by_cases hk : k < P.cellsOf t
          · rw [List.getElem?_range hk] at hs
            cases hs
            obtain ⟨b, hb1, hb2⟩ := hget k hk
            have hb1' : arr.toList[k]? = some (.float .f32 b) := hb1
            rw [hb1'] at hv; cases hv
            exact ⟨b, rfl, hb2⟩
          · simp [hk] at hs
        case float fk =>
          dsimp only at h1
          subst h1
          have hc1 : P.cellsOf t = 1 := by
            simp only [plainT, hu] at hpl
            cases fk
            · exact Nat.eq_of_beq_eq_true hpl
            · cases hpl
          obtain ⟨b, hb1, hb2⟩ := hget 0 (by omega)
          have hk : fk = .f32 := by
            cases fk
            · rfl
            · simp [plainT, hu] at hpl
          subst hk
          obtain ⟨b', rfl⟩ := hsc hu
          have this : Value.float .f32 b' = .float .f32 b := by simpa [Value.cells] using hb1
          exact ⟨b, this, hb2⟩
        all_goals (simp [plainT, hu] at hpl)

end
end Go.Sx
