/-
  A region that draws its order: whatever order is drawn, the run in the order of the text tells the outcome. Conditions: none.
-/
import Derived.Test.YtiidgljfdhcmgaaDoorSx7
namespace Go.Sx
open Go.RowKit

section
variable {E : Env} {P : Program} {ops : Array Oper} {W0 : World} {old : Nat}

/-! ### What 'drawOK' says -/
theorem edge_spec {o : Oper} {i : Nat} (h : edge o i = true) : ∃ e ∈ o.after, Region.binds .any e = true ∧ e.on = i := by
  unfold edge at h
  obtain ⟨e, he, hb⟩ := Array.any_eq_true'.1 h
  rw [Bool.and_eq_true] at hb
  exact ⟨e, he, hb.1, Nat.eq_of_beq_eq_true hb.2⟩

theorem optBeq_some {d : Option Nat} {t : Nat} (h : d = some t) : optBeq d (some t) = true := by subst h; simp [optBeq]

theorem pairsFrom_spec {n i : Nat} {x : Oper} : ∀ {k : Nat} {r : List Oper}, pairsFrom ops n i x k r = true → ∀ (j : Nat) (y : Oper), r[j]? = some y → pairOK ops i (Nat.ble n i) (Nat.ble n (k + j)) x y = true
  | _, [], _, j, y, hy => by simp at hy
  | k, z :: r, h, j, y, hy => by
    simp only [pairsFrom, Bool.and_eq_true] at h
    cases j with
    | zero => simp at hy; subst hy; exact h.1
    | succ j =>
      simp at hy
      have := pairsFrom_spec h.2 j y hy
      rwa [show k + 1 + j = k + (j + 1) by omega] at this

theorem allPairs_spec {n : Nat} : ∀ {k : Nat} {r : List Oper}, allPairs ops n k r = true → ∀ (i j : Nat) (x y : Oper), i < j → r[i]? = some x → r[j]? = some y → pairOK ops (k + i) (Nat.ble n (k + i)) (Nat.ble n (k + j)) x y = true
  | _, [], _, i, j, x, y, _, hx, _ => by simp at hx
  | k, z :: r, h, i, j, x, y, hij, hx, hy => by
    simp only [allPairs, Bool.and_eq_true] at h
    cases j with
    | zero => omega
    | succ j =>
      simp at hy
      cases i with
      | zero =>
        simp at hx; subst hx
        have := pairsFrom_spec h.1 j y hy
        rwa [show k + 1 + j = k + (j + 1) by omega] at this
      | succ i =>
        simp at hx
        have := allPairs_spec h.2 i j x y (by omega) hx hy
        rwa [show k + 1 + i = k + (i + 1) by omega, show k + 1 + j = k + (j + 1) by omega] at this

theorem backFrom_spec : ∀ {k : Nat} {r : List Oper}, backFrom k r = true → ∀ (i : Nat) (o : Oper), r[i]? = some o → ∀ e ∈ o.after, Region.binds .any e = true → e.on < k + i
  | _, [], _, i, o, ho, _, _, _ => by simp at ho
  | k, z :: r, h, i, o, ho, e, he, hb => by
    simp only [backFrom, Bool.and_eq_true] at h
    cases i with
    | zero =>
      simp at ho; subst ho
      have := Array.all_eq_true_iff_forall_mem.1 h.1 e he
      rw [hb] at this
      have h3 : Nat.blt e.on k = true := by simpa using this
      rw [Nat.blt_eq] at h3
      omega
    | succ i =>
      simp at ho
      have := backFrom_spec h.2 i o ho e he hb
      omega

theorem leads_spec : ∀ {l : List Oper} (i : Nat) (o : Oper), l[i]? = some o → i < leads l → isStore o.op = false
  | [], i, o, h, _ => by simp at h
  | z :: r, i, o, h, hl => by
    simp only [leads] at hl
    split at hl
    · omega
    · rename_i hz
      cases i with
      | zero => simp at h; subst h; simpa using hz
      | succ i => simp at h; exact leads_spec i o h (by omega)
theorem leads_le : ∀ (l : List Oper), leads l ≤ l.length
  | [] => Nat.le_refl _
  | z :: r => by simp only [leads]; split <;> simp; exact leads_le r

structure DrawOK (ops : Array Oper) (n : Nat) : Prop where
  le : n ≤ ops.size
  comp : ∀ (i : Nat) (o : Oper), ops[i]? = some o → i < n → isStore o.op = false
  dst : ∀ (i j : Nat) (x y : Oper) (t : Nat), i < j → ops[i]? = some x → ops[j]? = some y → x.dst = some t → y.dst = some t → False
  war : ∀ (i j : Nat) (x y : Oper) (t : Nat), i < j → ops[i]? = some x → ops[j]? = some y → t ∈ x.looksAt ops → y.dst = some t → edge y i = true
  raw : ∀ (i j : Nat) (x y : Oper) (t : Nat), i < j → ops[i]? = some x → ops[j]? = some y → t ∈ y.looksAt ops → x.dst = some t → edge y i = true
  anc : ∀ (i j : Nat) (x y : Oper), i < j → ops[i]? = some x → ops[j]? = some y → n ≤ j → anc ops 3 y i = true ∨ (i < n ∧ isEager x.op = true ∧ ∀ e ∈ x.after, Region.binds .any e = true → anc ops 3 y e.on = true)
  nosel : Region.noSelect ops = true
  back : ∀ (i : Nat) (o : Oper), ops[i]? = some o → ∀ e ∈ o.after, Region.binds .any e = true → e.on < i

theorem drawOK_spec (h : drawOK ops = true) : DrawOK ops (leads ops.toList) := by
  unfold drawOK at h
  rw [forceNat_eq] at h
  simp only [Bool.and_eq_true] at h
  obtain ⟨⟨h2, h3⟩, h5⟩ := h
  have tl : ∀ {i : Nat} {o : Oper}, ops[i]? = some o → ops.toList[i]? = some o := fun h => by simpa using h
  have pr : ∀ (i j : Nat) (x y : Oper), i < j → ops[i]? = some x → ops[j]? = some y → pairOK ops i (Nat.ble (leads ops.toList) i) (Nat.ble (leads ops.toList) j) x y = true := fun i j x y hij hx hy => by
    simpa using allPairs_spec h2 i j x y hij (tl hx) (tl hy)
  refine ⟨by simpa using leads_le ops.toList, fun i o ho hi => leads_spec i o (tl ho) hi, ?_, ?_, ?_, ?_, h5, fun i o ho e he hb => by simpa using backFrom_spec h3 i o (tl ho) e he hb⟩
  · intro i j x y t hij hx hy ht ht'
    have := pr i j x y hij hx hy
    simp only [pairOK, Bool.and_eq_true, Bool.not_eq_true'] at this
    rw [ht, ht'] at this
    simp [optBeq] at this
  · intro i j x y t hij hx hy ht hd
    have := pr i j x y hij hx hy
    simp only [pairOK, Bool.and_eq_true] at this
    have h4 := List.all_eq_true.1 this.1.2 t ht
    rw [optBeq_some hd] at h4
    simpa using h4
  · intro i j x y t hij hx hy ht hd
    have := pr i j x y hij hx hy
    simp only [pairOK, Bool.and_eq_true] at this
    have h4 := List.all_eq_true.1 this.1.1.2 t ht
    rw [optBeq_some hd] at h4
    simpa using h4
  · intro i j x y hij hx hy hs
    have := pr i j x y hij hx hy
    simp only [pairOK, Bool.and_eq_true] at this
    have h4 := this.2
    rw [Nat.ble_eq_true_of_le hs] at h4
    simp only [Bool.not_true, Bool.false_or, Bool.or_eq_true, Bool.and_eq_true, Bool.not_eq_true'] at h4
    rcases h4 with h4 | ⟨⟨q1, q2⟩, q3⟩
    · exact .inl h4
    · refine .inr ⟨?_, q2, fun e he hb => ?_⟩
      · rcases Nat.lt_or_ge i (leads ops.toList) with h6 | h6
        · exact h6
        · rw [Nat.ble_eq_true_of_le h6] at q1; cases q1
      · have := Array.all_eq_true_iff_forall_mem.1 q3 e he
        rw [hb] at this
        simpa using this

/-! ### Listed operations -/
def Closed (ops : Array Oper) (listed : Array Bool) : Prop :=
  ∀ (j : Nat) (o : Oper), ops[j]? = some o → listed.getD j false = true → ∀ e ∈ o.after, Region.binds .any e = true → listed.getD e.on false = true

theorem anc_listed {listed : Array Bool} (hc : Closed ops listed) : ∀ (n : Nat) (y : Oper) (i : Nat), anc ops n y i = true → (∀ e ∈ y.after, Region.binds .any e = true → listed.getD e.on false = true) → listed.getD i false = true
  | 0, y, i, h, hy => by
    obtain ⟨e, he, hb, rfl⟩ := edge_spec (show edge y i = true from h)
    exact hy e he hb
  | n + 1, y, i, h, hy => by
    simp only [anc, Bool.or_eq_true] at h
    rcases h with h | h
    · obtain ⟨e, he, hb, rfl⟩ := edge_spec h
      exact hy e he hb
    · obtain ⟨e, he, hb⟩ := Array.any_eq_true'.1 h
      rw [Bool.and_eq_true] at hb
      obtain ⟨hb1, hb2⟩ := hb
      split at hb2
      · rename_i z hz
        exact anc_listed hc n z i hb2 (hc e.on z hz (hy e he hb1))
      · cases hb2

theorem closed_set {listed : Array Bool} {i : Nat} (hc : Closed ops listed) (hr : i ∈ Region.ready .any ops listed) : Closed ops (listed.setIfInBounds i true) := by
  intro j o ho hj e he hb
  by_cases hij : i = j
  · subst hij
    obtain ⟨_, o', ho', hall⟩ := mem_ready.1 hr
    rw [ho] at ho'; cases ho'
    exact getD_set_true (hall e he hb)
  · rw [getD_set_ne false hij] at hj
    exact getD_set_true (hc j o ho hj e he hb)

/-- Some operation is left, so one may come up. -/
theorem ready_of_unlisted {n : Nat} (hd : DrawOK ops n) {listed : Array Bool} : ∀ (k i : Nat), i ≤ k → i < ops.size → listed.getD i true = false → Region.ready .any ops listed ≠ []
  | 0, i, hik, hi, hl => by
    have h0 : i = 0 := by omega
    subst h0
    intro hn
    have : 0 ∈ Region.ready .any ops listed := mem_ready.2 ⟨hl, ops[0], Array.getElem?_eq_getElem hi, fun e he hb => by
      have := hd.back 0 _ (Array.getElem?_eq_getElem hi) e he hb; omega⟩
    rw [hn] at this; cases this
  | k + 1, i, hik, hi, hl => by
    by_cases hall : ∀ e ∈ ops[i].after, Region.binds .any e = true → listed.getD e.on false = true
    · intro hn
      have : i ∈ Region.ready .any ops listed := mem_ready.2 ⟨hl, ops[i], Array.getElem?_eq_getElem hi, hall⟩
      rw [hn] at this; cases this
    · have hex : ∃ e ∈ ops[i].after, Region.binds .any e = true ∧ listed.getD e.on false = false := by
        apply Classical.byContradiction
        intro hne
        refine hall fun e he hb => ?_
        cases hl2 : listed.getD e.on false with
        | true => rfl
        | false => exact absurd ⟨e, he, hb, hl2⟩ hne
      obtain ⟨e, he, hb, hl2⟩ := hex
      have hlt := hd.back i _ (Array.getElem?_eq_getElem hi) e he hb
      by_cases hsz : e.on < listed.size
      · refine ready_of_unlisted hd k e.on (by omega) (by omega) ?_
        rw [Array.getD_eq_getD_getElem?, Array.getElem?_eq_getElem hsz] at hl2 ⊢
        simpa using hl2
      · exfalso
        have : ¬ i < listed.size := by omega
        rw [Array.getD_eq_getD_getElem?, Array.getElem?_eq_none (by omega)] at hl
        cases hl

variable {tm : Nat → List V} {hp : Nat → List (List SV)} {vl : Nat → V}

theorem tm_length (hseq : Seq E P ops old ops.toList tm hp vl) : ∀ i, i ≤ ops.size → (tm i).length = (tm 0).length
  | 0, _ => rfl
  | i + 1, hi => by
    obtain ⟨h1, _⟩ := hseq i ops[i] (by simp)
    rw [h1, length_put]; exact tm_length hseq i (by omega)

theorem tm_get (hseq : Seq E P ops old ops.toList tm hp vl) (t : Nat) (ht : t < (tm 0).length) : ∀ j, j ≤ ops.size →
    (∃ i x, i < j ∧ ops[i]? = some x ∧ x.dst = some t ∧ (tm j)[t]? = some (vl i)) ∨ ((∀ i x, i < j → ops[i]? = some x → x.dst ≠ some t) ∧ (tm j)[t]? = (tm 0)[t]?)
  | 0, _ => .inr ⟨fun i x h => absurd h (Nat.not_lt_zero i), rfl⟩
  | j + 1, hj => by
    have hlt : j < ops.size := by omega
    obtain ⟨h1, _⟩ := hseq j ops[j] (by simp)
    rw [h1, get_put, tm_length hseq j (by omega)]
    by_cases hd : ops[j].dst = some t
    · exact .inl ⟨j, ops[j], by omega, Array.getElem?_eq_getElem hlt, hd, by rw [if_pos ⟨hd, ht⟩]⟩
    · rw [if_neg (fun h => hd h.1)]
      rcases tm_get hseq t ht j (by omega) with ⟨i, x, hi, hx, hxd, hv⟩ | ⟨hno, hv⟩
      · exact .inl ⟨i, x, by omega, hx, hxd, hv⟩
      · refine .inr ⟨fun i x hi hx hxd => ?_, hv⟩
        by_cases hij : i = j
        · subst hij; rw [Array.getElem?_eq_getElem hlt] at hx; cases hx; exact hd hxd
        · exact hno i x (by omega) hx hxd

/-- Ahead of the stores memory only grows. -/
theorem hp_mono {n : Nat} (hd : DrawOK ops n) (hseq : Seq E P ops old ops.toList tm hp vl) {i : Nat} (hi : i < n) :
    (hp i).length ≤ (hp (i + 1)).length ∧ ∀ (id : Nat) (l : List SV), (hp i)[id]? = some l → (hp (i + 1))[id]? = some l := by
  have hlt : i < ops.size := by have := hd.le; omega
  have hi' : ops[i]? = some ops[i] := Array.getElem?_eq_getElem hlt
  obtain ⟨_, h2⟩ := hseq i ops[i] (by simp)
  rcases h2 with ⟨_, _, heff⟩ | ⟨_, _, ty, x, y, hop, _⟩ | ⟨_, _, he⟩
  · generalize hp (i + 1) = h' at heff
    cases heff with
    | pure _ => exact ⟨Nat.le_refl _, fun _ _ h => h⟩
    | new _ => exact ⟨by simp, fun id l h => by rw [List.getElem?_append_left (List.getElem?_eq_some_iff.1 h).1]; exact h⟩
  · have := hd.comp i _ hi' hi
    rw [hop] at this
    cases this
  · rw [he]; exact ⟨Nat.le_refl _, fun _ _ h => h⟩

theorem hp_le {n : Nat} (hd : DrawOK ops n) (hseq : Seq E P ops old ops.toList tm hp vl) {i : Nat} : ∀ {j : Nat}, i ≤ j → j ≤ n →
    (hp i).length ≤ (hp j).length ∧ ∀ (id : Nat) (l : List SV), (hp i)[id]? = some l → (hp j)[id]? = some l
  | 0, hij, _ => by have : i = 0 := by omega
                    subst this; exact ⟨Nat.le_refl _, fun _ _ h => h⟩
  | j + 1, hij, hj => by
    by_cases he : i = j + 1
    · subst he; exact ⟨Nat.le_refl _, fun _ _ h => h⟩
    · have h1 := hp_le hd hseq (i := i) (j := j) (by omega) (by omega)
      have h2 := hp_mono hd hseq (i := j) (by omega)
      exact ⟨Nat.le_trans h1.1 h2.1, fun id l h => h2.2 id l (h1.2 id l h)⟩

/-- Ahead of the stores: some operations are carried out, others not. -/
structure Mid (E : Env) (ops : Array Oper) (W0 : World) (old n : Nat) (tm : Nat → List V) (hp : Nat → List (List SV)) (vl : Nat → V) (listed : Array Bool) (β : Beta) (a : Act) (W : World) : Prop where
  lsize : listed.size = ops.size
  closed : Closed ops listed
  rest : ∀ i, n ≤ i → listed.getD i false = false
  size : a.tmps.size = (tm 0).length
  defers : a.defers = []
  valL : ∀ (i : Nat) (o : Oper) (t : Nat), i < n → ops[i]? = some o → listed.getD i false = true → o.dst = some t → t < (tm 0).length → VRel E β (vl i) (a.tmps.getD t undef)
  valU : ∀ (t : Nat) (v : V), (tm 0)[t]? = some v → (∀ (i : Nat) (o : Oper), i < n → ops[i]? = some o → listed.getD i false = true → o.dst ≠ some t) → VRel E β v (a.tmps.getD t undef)
  h : HRel E β (hp n) W
  ge : ∀ id blk, old ≤ id → β id = some blk → W0.heap.size ≤ blk
  inj : ∀ id id' blk, old ≤ id → β id = some blk → β id' = some blk → id = id'
  grown : Grown W0 W
  fresh : ∀ (i id : Nat), i < n → listed.getD i false = false → (hp i).length ≤ id → id < (hp (i + 1)).length → β id = none
  top : ∀ id, (hp n).length ≤ id → β id = none
  le : old ≤ (hp 0).length

theorem getD_false_true {listed : Array Bool} {i : Nat} (h : listed.getD i true = false) : i < listed.size ∧ listed.getD i false = false := by
  rw [Array.getD_eq_getD_getElem?] at h ⊢
  by_cases hi : i < listed.size
  · rw [Array.getElem?_eq_getElem hi] at h ⊢; exact ⟨hi, by simpa using h⟩
  · rw [Array.getElem?_eq_none (by omega)] at h; cases h

theorem getD_set_self {listed : Array Bool} {i : Nat} (h : i < listed.size) : (listed.setIfInBounds i true).getD i false = true := by simp [h]

/-- One operation ahead of the stores, at whatever moment. -/
theorem mid_step {n : Nat} (hd : DrawOK ops n) (hseq : Seq E P ops old ops.toList tm hp vl) {listed : Array Bool} {β : Beta} {a : Act} {W : World} {j : Nat} {K : Act → World → Prop} {Q : Exit → Act → World → Prop}
    (hM : Mid E ops W0 old n tm hp vl listed β a W) (hj : j ∈ Region.ready .any ops listed) (hjn : j < n)
    (hK : ∀ β' a' W', Mid E ops W0 old n tm hp vl (listed.setIfInBounds j true) β' a' W' → K a' W') : wpOp P ops Q j K a W := by
  obtain ⟨hjun, o, ho, hall⟩ := mem_ready.1 hj
  obtain ⟨hjs, hjf⟩ := getD_false_true hjun
  have hjlt : j < ops.size := by rw [← hM.lsize]; exact hjs
  have hoj : ops[j]? = some ops[j] := Array.getElem?_eq_getElem hjlt
  have hoe : o = ops[j] := by rw [hoj] at ho; cases ho; rfl
  obtain ⟨ht, hstep⟩ := hseq j ops[j] (by simp)
  rw [← hoe] at ht hstep
  -- what an operation looks at
  have look : ∀ t, t ∈ o.looksAt ops → VRel E β ((tm j).getD t undefV) (a.tmps.getD t undef) := by
    intro t htl
    by_cases hlen : t < (tm 0).length
    · rw [List.getD_eq_getElem?_getD]
      rcases tm_get hseq t hlen j (by omega) with ⟨i, x, hi, hx, hxd, hv⟩ | ⟨hno, hv⟩
      · rw [hv]
        have he := hd.raw i j x o t hi hx ho htl hxd
        obtain ⟨e, hem, hb, heq⟩ := edge_spec he
        have hl := hall e hem hb
        rw [heq] at hl
        exact hM.valL i x t (by omega) hx hl hxd hlen
      · rw [hv]
        have h0 : (tm 0)[t]? = some (tm 0)[t] := List.getElem?_eq_getElem hlen
        rw [h0]
        refine hM.valU t _ h0 fun i x hi hx hl hxd => ?_
        rcases Nat.lt_trichotomy i j with hij | hij | hij
        · exact hno i x hij hx hxd
        · subst hij; rw [hjf] at hl; cases hl
        · have he := hd.war j i o x t hij ho hx htl hxd
          obtain ⟨e, hem, hb, heq⟩ := edge_spec he
          have hl2 := hM.closed i x hx hl e hem hb
          rw [heq, hjf] at hl2; cases hl2
    · have e1 : (tm j).getD t undefV = undefV := by
        have h0 : (tm j).length ≤ t := by rw [tm_length hseq j (by omega)]; exact Nat.not_lt.1 hlen
        rw [List.getD_eq_getElem?_getD, List.getElem?_eq_none h0]; rfl
      have e2 : a.tmps.getD t undef = undef := by
        have h0 : a.tmps.size ≤ t := by rw [hM.size]; exact Nat.not_lt.1 hlen
        rw [Array.getD_eq_getD_getElem?, Array.getElem?_eq_none h0]; rfl
      rw [e1, e2]; rfl
  have hev : ∀ x ∈ o.op.operands, VRel E β (evA (tm j) x) (a.eval x) := fun x hx => evA_rel_of fun t hxt => by
    subst hxt
    exact look t (List.mem_append_left _ (List.mem_filterMap.2 ⟨.tmp t, by simpa using hx, rfl⟩))
  have hwant : ∀ b, wantedA ops o (tm j) = some b → Region.wanted o (yielded ops a.tmps) = b := fun b hb => wanted_sound hb fun g want t hgd hgt => by
    refine look t (List.mem_append_right _ ?_)
    rw [hgd]; simp [hgt]
  have hj1 := hp_mono hd hseq hjn
  have hjn' := hp_le hd hseq (i := j) (j := n) (by omega) (Nat.le_refl _)
  have hjn1 := hp_le hd hseq (i := j + 1) (j := n) (by omega) (Nat.le_refl _)
  have hHj : HRel E β (hp j) W := ⟨hM.h.lt, fun id blk l hb hl => hM.h.ok id blk l hb (hjn'.2 id l hl)⟩
  -- the state behind it
  have after : ∀ (β' : Beta) (u : Value) (W' : World), Ext β β' → VRel E β' (vl j) u → HRel E β' (hp n) W' → Grown W0 W' →
      (∀ id blk, old ≤ id → β' id = some blk → W0.heap.size ≤ blk) → (∀ id id' blk, old ≤ id → β' id = some blk → β' id' = some blk → id = id') →
      (∀ id, β' id ≠ β id → (hp j).length ≤ id ∧ id < (hp (j + 1)).length) →
      Mid E ops W0 old n tm hp vl (listed.setIfInBounds j true) β' (a.put o.dst u) W' := by
    intro β' u W' hext hu hH hG hge hinj hnew
    refine ⟨by simpa using hM.lsize, closed_set hM.closed hj, ?_, by rw [size_put]; exact hM.size, by rw [defers_put]; exact hM.defers, ?_, ?_, hH, hge, hinj, hG, ?_, ?_, hM.le⟩
    · intro i hi
      rw [getD_set_ne false (by omega)]; exact hM.rest i hi
    · intro i x t hi hx hl hxd hlen
      by_cases hij : j = i
      · subst hij
        rw [ho] at hx; cases hx
        rw [getD_put, if_pos ⟨hxd, by rw [hM.size]; exact hlen⟩]; exact hu
      · rw [getD_set_ne false hij] at hl
        have hne : o.dst ≠ some t := fun hod => by
          rcases Nat.lt_or_ge i j with h1 | h1
          · exact hd.dst i j x o t h1 hx ho hxd hod
          · exact hd.dst j i o x t (by omega) ho hx hod hxd
        rw [getD_put, if_neg (fun h => hne h.1)]
        exact (hM.valL i x t hi hx hl hxd hlen).mono hext
    · intro t v hv hno
      have hne : o.dst ≠ some t := hno j o hjn ho (getD_set_self hjs)
      rw [getD_put, if_neg (fun h => hne h.1)]
      refine (hM.valU t v hv fun i x hi hx hl => hno i x hi hx (getD_set_true hl)).mono hext
    · intro i id hi hl h1 h2
      have hij : j ≠ i := fun e => by subst e; rw [getD_set_self hjs] at hl; cases hl
      rw [getD_set_ne false hij] at hl
      have h0 := hM.fresh i id hi hl h1 h2
      by_cases hc : β' id = β id
      · rw [hc]; exact h0
      · have h3 := hnew id hc
        rcases Nat.lt_or_ge i j with hlt | hge'
        · have := (hp_le hd hseq (i := i + 1) (j := j) (by omega) (by omega)).1
          omega
        · have := (hp_le hd hseq (i := j + 1) (j := i) (by omega) (by omega)).1
          omega
    · intro id hid
      have h0 := hM.top id hid
      by_cases hc : β' id = β id
      · rw [hc]; exact h0
      · have h3 := hnew id hc
        have := hjn1.1
        omega
  unfold wpOp
  simp only [ho]
  rcases hstep with ⟨hw, hs, heff⟩ | ⟨_, _, ty, x, y, hop, _⟩ | ⟨hw, hv, hh⟩
  · rw [if_pos (hwant true hw)]
    refine .inl ?_
    generalize hq : hp (j + 1) = h' at heff
    cases heff with
    | pure hh =>
      refine (hh β a W hev hHj).wp fun u W' ⟨h1, h2⟩ => hK β _ W' ?_
      exact after β u W' (Ext.refl β) h1 (hM.h.grown h2) (Grown.trans' hM.grown h2) hM.ge hM.inj (fun id h => absurd rfl h)
    | new hh =>
      rename_i l
      refine (hh β a W hev hHj).wp fun u W' ⟨cells, ty, h1, h2, h3⟩ => ?_
      subst h1
      have hidn : (hp n)[(hp j).length]? = some l := hjn1.2 _ _ (by rw [hq]; simp)
      have hfr : β (hp j).length = none := hM.fresh j _ hjn hjf (Nat.le_refl _) (by rw [hq]; simp)
      obtain ⟨g1, g2⟩ := alloc_sound (ty := ty) hM.h h2 hidn hfr
      have hole : old ≤ (hp j).length := Nat.le_trans hM.le (hp_le hd hseq (i := 0) (j := j) (by omega) (by omega)).1
      refine hK _ _ _ (after _ u _ g2 (h3 _ g2 (by simp)) g1 (hM.grown.alloc cells ty) ?_ ?_ ?_)
      · intro id blk hold hb
        split at hb
        · cases hb; exact hM.grown.2.2
        · exact hM.ge id blk hold hb
      · intro id id' blk hold hb hb'
        split at hb
        · rename_i e1
          cases hb
          split at hb'
          · rename_i e2; rw [e1, e2]
          · have := hM.h.lt _ _ hb'; omega
        · rename_i e1
          split at hb'
          · cases hb'
            have := hM.h.lt _ _ hb; omega
          · exact hM.inj id id' blk hold hb hb'
      · intro id hne
        by_cases he : id = (hp j).length
        · subst he; rw [hq]; simp
        · exact absurd (if_neg he) hne
  · have := hd.comp j _ ho hjn
    rw [hop] at this; cases this
  · rw [if_neg (by rw [hwant false hw]; simp)]
    exact hK β _ W (after β undef W (Ext.refl β) (by rw [hv]; rfl) hM.h hM.grown hM.ge hM.inj (fun id h => absurd rfl h))

/-- All computing is done: the state of the text. -/
theorem mid_done {n : Nat} (hd : DrawOK ops n) (hseq : Seq E P ops old ops.toList tm hp vl) {listed : Array Bool} {β : Beta} {a : Act} {W : World}
    (hM : Mid E ops W0 old n tm hp vl listed β a W) (hall : ∀ i, i < n → listed.getD i false = true) : Rel E W0 β (tm n) (hp n) old a W := by
  have hn := hd.le
  refine ⟨by rw [tm_length hseq n hn]; exact hM.size, ?_, hM.defers, hM.h, hM.ge, hM.inj, hM.grown, hM.top, Nat.le_trans hM.le (hp_le hd hseq (i := 0) (j := n) (by omega) (Nat.le_refl _)).1⟩
  intro t v hv
  have hlen : t < (tm 0).length := by rw [← tm_length hseq n hn]; exact (List.getElem?_eq_some_iff.1 hv).1
  rcases tm_get hseq t hlen n hn with ⟨i, x, hi, hx, hxd, hv'⟩ | ⟨hno, hv'⟩
  · rw [hv] at hv'; cases hv'
    exact hM.valL i x t hi hx (hall i hi) hxd hlen
  · rw [hv] at hv'
    exact hM.valU t v hv'.symm fun i x hi hx _ => hno i x hi hx

/-- How far it has come. -/
def Inv (E : Env) (ops : Array Oper) (W0 : World) (old n : Nat) (tm : Nat → List V) (hp : Nat → List (List SV)) (vl : Nat → V) (listed : Array Bool) (a : Act) (W : World) : Prop :=
  (∃ β, Mid E ops W0 old n tm hp vl listed β a W) ∨
  (∃ β m, n ≤ m ∧ m ≤ ops.size ∧ listed.size = ops.size ∧ Closed ops listed ∧ (∀ i, i < ops.size → listed.getD i false = decide (i < m)) ∧ Rel E W0 β (tm m) (hp m) old a W)

/-- An operation that is taken as soon as it may come up. -/
theorem eager_yields {o : Oper} {a : Act} {W : World} {K : Act → World → Prop} (he : isEager o.op = true) (h : o.wp P a W K (fun _ _ _ => False)) :
    ∃ v, (∀ w, (execOp a.eval o).run P w = .ok (.value v) w) ∧ K (a.put o.dst v) W := by
  unfold Oper.wp at h
  cases ho : o.op with
  | move x =>
    have hr : ∀ w, (execOp a.eval o).run P w = .ok (.value (a.eval x)) w := fun w => by unfold execOp; simp only [ho]; rfl
    rw [hr] at h
    exact ⟨_, hr, h⟩
  | assign x =>
    have hr : ∀ w, (execOp a.eval o).run P w = .ok (.value (a.eval x)) w := fun w => by unfold execOp; simp only [ho]; rfl
    rw [hr] at h
    exact ⟨_, hr, h⟩
  | extract x i =>
    have hx : ∀ w, (execOp a.eval o).run P w = (do pure (Next.value (← Instr.extract (a.eval x) i)) : Sem Next).run P w := fun w => by unfold execOp; simp only [ho]
    cases hv : a.eval x with
    | tuple vs =>
      cases hi : vs[i]? with
      | some v =>
        have hr : ∀ w, (execOp a.eval o).run P w = .ok (.value v) w := fun w => by rw [hx w, hv]; simp [Instr.extract, hi]
        rw [hr] at h
        exact ⟨_, hr, h⟩
      | none => rw [hx, hv] at h; simp [Instr.extract, hi, Oper.upon] at h
    | _ => rw [hx, hv] at h; simp [Instr.extract, Oper.upon] at h
  | _ => rw [ho] at he; cases he

theorem any_sound {n : Nat} (hd : DrawOK ops n) (hseq : Seq E P ops old ops.toList tm hp vl) {Q : Exit → Act → World → Prop} (hpan : ∀ c a w, ¬ Q (.panic c) a w)
    (hQ : ∀ β' a' W', Rel E W0 β' (tm ops.size) (hp ops.size) old a' W' → Q .normal a' W') :
    ∀ (fuel : Nat) (listed : Array Bool) (a : Act) (W : World), listed.toList.count true + fuel = ops.size → Inv E ops W0 old n tm hp vl listed a W → wpAny P .any ops Q fuel listed a W := by
  -- at the stores
  have store : ∀ (fuel : Nat) (listed : Array Bool) (β : Beta) (a : Act) (W : World) (m : Nat), n ≤ m → listed.size = ops.size → Closed ops listed → (∀ i, i < ops.size → listed.getD i false = decide (i < m)) →
      Rel E W0 β (tm m) (hp m) old a W → ∀ i ∈ Region.ready .any ops listed,
      (∀ listed' a' W', (listed' = listed.setIfInBounds i true) → Inv E ops W0 old n tm hp vl listed' a' W' → wpAny P .any ops Q fuel listed' a' W') →
      wpOp P ops Q i (wpAny P .any ops Q fuel (listed.setIfInBounds i true)) a W := by
    intro fuel listed β a W m hnm hls hcl hlm hR i hi ih
    obtain ⟨hun, o, ho, hall⟩ := mem_ready.1 hi
    obtain ⟨hisz, hif⟩ := getD_false_true hun
    have hilt : i < ops.size := by omega
    have hmi : m ≤ i := by
      have := hlm i hilt
      rw [hif] at this
      simpa using this.symm
    have him : i = m := by
      apply Classical.byContradiction
      intro hne
      have hmlt : m < ops.size := by omega
      rcases hd.anc m i ops[m] o (by omega) (Array.getElem?_eq_getElem hmlt) ho (by omega) with ha | ha
      · have hl := anc_listed hcl 3 o m ha hall
        rw [hlm m hmlt] at hl
        simp at hl
      · omega
    subst him
    obtain ⟨ht, hstep⟩ := hseq i o (by simpa using ho)
    refine step_text ho hstep hR fun β' a' W' hR' => ih _ a' W' rfl ?_
    refine .inr ⟨β', i + 1, by omega, by omega, by simpa using hls, closed_set hcl hi, fun k hk => ?_, by rw [ht]; exact hR'⟩
    by_cases hki : i = k
    · subst hki; rw [getD_set_self hisz]; simp
    · rw [getD_set_ne false hki, hlm k hk]
      simp; omega
  intro fuel
  induction fuel with
  | zero =>
    intro listed a W hcnt hI
    have hls : listed.size = ops.size := by rcases hI with ⟨β, hM⟩ | ⟨β, m, _, _, h, _⟩; exact hM.lsize; exact h
    have hallT : ∀ i, i < ops.size → listed.getD i false = true := by
      have hc : listed.toList.count true = listed.toList.length := by rw [Array.length_toList]; omega
      intro i hi
      have := List.count_eq_length.1 hc listed[i] (by simp)
      rw [Array.getD_eq_getD_getElem?, Array.getElem?_eq_getElem (by omega)]
      simpa using this.symm
    have hready : Region.ready .any ops listed = [] := by
      cases hr : Region.ready .any ops listed with
      | nil => rfl
      | cons i r =>
        have hi : i ∈ Region.ready .any ops listed := by rw [hr]; exact List.mem_cons_self ..
        obtain ⟨hun, o, ho, _⟩ := mem_ready.1 hi
        have h1 := (getD_false_true hun).2
        rw [hallT i (Array.getElem?_eq_some_iff.1 ho).1] at h1; cases h1
    refine ⟨hready, ?_⟩
    rcases hI with ⟨β, hM⟩ | ⟨β, m, hnm, hms, _, _, hlm, hR⟩
    · have hnN : n = ops.size := by
        apply Classical.byContradiction
        intro hne
        have hlt : n < ops.size := by have := hd.le; omega
        have h1 := hM.rest n (Nat.le_refl _)
        rw [hallT n hlt] at h1; cases h1
      have hR := mid_done hd hseq hM fun i hi => hallT i (by omega)
      rw [hnN] at hR
      exact hQ β a W hR
    · have hm : m = ops.size := by
        apply Classical.byContradiction
        intro hne
        have hlt : m < ops.size := by omega
        have h1 := hlm m hlt
        rw [hallT m hlt] at h1; simp at h1
      rw [hm] at hR
      exact hQ β a W hR
  | succ fuel ih =>
    intro listed a W hcnt hI
    have hls : listed.size = ops.size := by rcases hI with ⟨β, hM⟩ | ⟨β, m, _, _, h, _⟩; exact hM.lsize; exact h
    have hcount : ∀ i ∈ Region.ready .any ops listed, (listed.setIfInBounds i true).toList.count true + fuel = ops.size := by
      intro i hi
      obtain ⟨hun, o, ho, _⟩ := mem_ready.1 hi
      obtain ⟨hisz, hif⟩ := getD_false_true hun
      have he : listed.toList[i]'(by simpa using hisz) = false := by
        rw [Array.getD_eq_getD_getElem?, Array.getElem?_eq_getElem hisz] at hif
        simpa using hif
      rw [Array.toList_setIfInBounds, List.count_set (by simpa using hisz), he]
      have h1 : (false == true) = false := rfl
      have h2 : (true == true) = true := rfl
      simp only [h1, h2, if_true, Bool.false_eq_true, if_false]
      omega
    -- an eager operation that may come up is taken first
    by_cases heag : ∃ i o β, i ∈ Region.ready .any ops listed ∧ ops[i]? = some o ∧ i < n ∧ isEager o.op = true ∧ Mid E ops W0 old n tm hp vl listed β a W
    · obtain ⟨i, o, β, hi, ho, hin, heo, hM⟩ := heag
      have hstep := mid_step (K := fun a' W' => ∃ β', Mid E ops W0 old n tm hp vl (listed.setIfInBounds i true) β' a' W') (Q := fun _ _ _ => False) hd hseq hM hi hin (fun β' a' W' h => ⟨β', h⟩)
      have hy : ∃ v, Yields P ops o v a ∧ ∃ β', Mid E ops W0 old n tm hp vl (listed.setIfInBounds i true) β' (a.put o.dst v) W := by
        unfold wpOp at hstep
        simp only [ho] at hstep
        split at hstep
        · rename_i hw
          rcases hstep with h | ⟨_, _, _, hf⟩
          · obtain ⟨v, h1, h2⟩ := eager_yields heo h
            exact ⟨v, .inl ⟨hw, h1⟩, h2⟩
          · exact hf.elim
        · rename_i hw
          exact ⟨undef, .inr ⟨by simpa using hw, rfl⟩, hstep⟩
      obtain ⟨v, hyv, β', hM'⟩ := hy
      refine wpAny_first ho (Region.noSelect_spec hd.nosel) (fun c a w h => (hpan c _ w h).elim) fuel listed a W ?_ hi hyv (ih _ _ W (hcount i hi) (.inl ⟨β', hM'⟩))
      intro j oj hoj hne hun hno
      obtain ⟨_, o', ho', hall⟩ := mem_ready.1 hi
      rw [ho] at ho'; cases ho'
      have notlisted : ∀ {x : Oper}, edge x j = true → x = o → False := by
        intro x hx hxo
        subst hxo
        obtain ⟨e, he, hb, heq⟩ := edge_spec hx
        have h1 := hall e he hb
        rw [heq, (getD_false_true hun).2] at h1; cases h1
      have noedge : edge oj i = true → False := by
        intro hx
        obtain ⟨e, he, hb, heq⟩ := edge_spec hx
        exact hno e he hb heq
      unfold Oper.apart
      rw [Bool.and_eq_true]
      constructor
      · split
        · rename_i d hdst
          rw [Bool.and_eq_true]
          constructor
          · rw [Bool.not_eq_true']
            cases hc : (oj.looksAt ops).contains d with
            | false => rfl
            | true =>
              exfalso
              have hmem : d ∈ oj.looksAt ops := by simpa using hc
              rcases Nat.lt_or_ge i j with hlt | hge
              · exact noedge (hd.raw i j o oj d hlt ho hoj hmem hdst)
              · exact notlisted (hd.war j i oj o d (by omega) hoj ho hmem hdst) rfl
          · cases hdj : oj.dst with
            | none => rfl
            | some d' =>
              have : d' ≠ d := fun e => by
                subst e
                rcases Nat.lt_or_ge i j with hlt | hge
                · exact hd.dst i j o oj _ hlt ho hoj hdst hdj
                · exact hd.dst j i oj o _ (by omega) hoj ho hdj hdst
              simpa using this
        · rfl
      · split
        · rename_i d hdst
          rw [Bool.not_eq_true']
          cases hc : (o.looksAt ops).contains d with
          | false => rfl
          | true =>
            exfalso
            have hmem : d ∈ o.looksAt ops := by simpa using hc
            rcases Nat.lt_or_ge i j with hlt | hge
            · exact noedge (hd.war i j o oj d hlt ho hoj hmem hdst)
            · exact notlisted (hd.raw j i oj o d (by omega) hoj ho hmem hdst) rfl
        · rfl
    refine ⟨fun hr => ?_, fun i hi => ?_⟩
    · exfalso
      have hex : ∃ i, i < ops.size ∧ listed.getD i true = false := by
        apply Classical.byContradiction
        intro hne
        have hc : listed.toList.count true = listed.toList.length := by
          rw [List.count_eq_length]
          intro b hb
          obtain ⟨i, hi, rfl⟩ := List.mem_iff_getElem.1 hb
          have hi' : i < listed.size := by simpa using hi
          cases hv : listed.toList[i] with
          | true => rfl
          | false =>
            exfalso
            refine hne ⟨i, by omega, ?_⟩
            rw [Array.getD_eq_getD_getElem?, Array.getElem?_eq_getElem hi']
            simpa using hv
        rw [Array.length_toList] at hc
        omega
      obtain ⟨i, hi, hun⟩ := hex
      exact ready_of_unlisted hd i i (Nat.le_refl _) hi hun hr
    · rcases hI with ⟨β, hM⟩ | ⟨β, m, hnm, hms, _, hcl, hlm, hR⟩
      · by_cases hin : i < n
        · refine mid_step hd hseq hM hi hin fun β' a' W' hM' => ih _ a' W' (hcount i hi) (.inl ⟨β', hM'⟩)
        · obtain ⟨hun, o, ho, hall⟩ := mem_ready.1 hi
          have hilt : i < ops.size := (Array.getElem?_eq_some_iff.1 ho).1
          have hallT : ∀ k, k < n → listed.getD k false = true := fun k hk => by
            have hklt : k < ops.size := by omega
            rcases hd.anc k i ops[k] o (by omega) (Array.getElem?_eq_getElem hklt) ho (by omega) with ha | ⟨_, he, hed⟩
            · exact anc_listed hM.closed 3 o k ha hall
            · cases hlk : listed.getD k false with
              | true => rfl
              | false =>
                exfalso
                have hlk' : listed.getD k true = false := by
                  rw [Array.getD_eq_getD_getElem?, Array.getElem?_eq_getElem (by omega)] at hlk ⊢
                  simpa using hlk
                exact heag ⟨k, ops[k], β, mem_ready.2 ⟨hlk', ops[k], Array.getElem?_eq_getElem hklt, fun e hem hb => anc_listed hM.closed 3 o e.on (hed e hem hb) hall⟩, Array.getElem?_eq_getElem hklt, hk, he, hM⟩
          have hR := mid_done hd hseq hM hallT
          refine store fuel listed β a W n (Nat.le_refl _) hls hM.closed (fun k hk => ?_) hR i hi fun listed' a' W' he hI' => by subst he; exact ih _ a' W' (hcount i hi) hI'
          by_cases hkn : k < n
          · rw [hallT k hkn]; simp [hkn]
          · rw [hM.rest k (by omega)]; simp [hkn]
      · exact store fuel listed β a W m hnm hls hcl hlm hR i hi fun listed' a' W' he hI' => by subst he; exact ih _ a' W' (hcount i hi) hI'

/-- Left in order, or not at all. -/
def onlyNormal (Q : Exit → Act → World → Prop) : Exit → Act → World → Prop
  | .normal, a, w => Q .normal a w
  | _, _, _ => False

theorem region_draw {id : Nat} {β : Beta} {a : Act} {W : World} {Q : Exit → Act → World → Prop} (hm : P.follows .mixedOrders = true) (hd : drawOK ops = true) (hseq : Seq E P ops old ops.toList tm hp vl)
    (hR : Rel E W0 β (tm 0) (hp 0) old a W) (hQ : ∀ β' a' W', Rel E W0 β' (tm ops.size) (hp ops.size) old a' W' → Q .normal a' W') : (Code.region id ops true).wp P Q a W := by
  have hD := drawOK_spec hd
  have h0 := hp_le hD hseq (i := 0) (j := leads ops.toList) (by omega) (Nat.le_refl _)
  refine wp_mono (Q := onlyNormal Q) (wp_region_any hm (any_sound (W0 := W0) (Q := onlyNormal Q) hD hseq (fun _ _ _ h => h) (fun β' a' W' hR' => hQ β' a' W' hR') ops.size _ a _ (by simp [List.count_replicate]) (.inl ⟨β, ?_⟩))) (fun e a w h => by cases e <;> first | exact h | exact h.elim)
  have hf : ∀ i, (Array.replicate ops.size false).getD i false = false := fun i => by
    rw [Array.getD_eq_getD_getElem?, Array.getElem?_replicate]; split <;> rfl
  refine ⟨by simp, fun j o _ h => (by rw [hf j] at h; cases h), fun i _ => hf i, hR.size, hR.defers, fun i o t _ _ h => (by rw [hf i] at h; cases h), fun t v hv _ => hR.vals t v hv, ?_, hR.ge, hR.inj, Grown.drewN hR.grown 1, ?_, ?_, hR.le⟩
  · refine ⟨hR.h.lt, fun id blk l hb hl => ?_⟩
    have hid : id < (hp 0).length := by
      apply Classical.byContradiction
      intro hn
      rw [hR.fresh id (by omega)] at hb; cases hb
    have : (hp 0)[id]? = some l := by
      have h1 := h0.2 id (hp 0)[id] (List.getElem?_eq_getElem hid)
      rw [h1] at hl; cases hl
      exact List.getElem?_eq_getElem hid
    exact hR.h.ok id blk l hb this
  · intro i id hi _ h1 h2
    exact hR.fresh id (Nat.le_trans (hp_le hD hseq (i := 0) (j := i) (by omega) (by omega)).1 h1)
  · intro id hid
    exact hR.fresh id (Nat.le_trans h0.1 hid)

end
end Go.Sx
