/-
  Each operation on symbols is the model's operation: loads, stores, literals, addresses, numbers, conversions. Conditions: none.
-/
import Derived.Test.YtiidgljfdhcmgaaDoorSx3
namespace Go.Sx
open Go.RowKit

section
variable {E : Env} {β : Beta} {P : Program} {W : World}

theorem addr_add (blk off n : Nat) : (⟨blk, off, none⟩ : Addr).add n = ⟨blk, off + n, none⟩ := by
  unfold Addr.add; split <;> simp_all

theorem info_of_u {t : TypeId} {d : TypeDesc} (h : P.underlying t = some d) : ∃ i, P.info? t = some i := by
  unfold Program.underlying at h
  cases hi : P.info? t with
  | none => simp [hi] at h
  | some i => exact ⟨i, rfl⟩

theorem run_isAgg {t : TypeId} {d : TypeDesc} (hu : P.underlying t = some d) (W : World) : (isAgg t).run P W = .ok (isAggT P t) W := by
  unfold isAgg isAggT
  rw [Sem.run_bind, run_underlying hu W, hu]
  cases d <;> rfl

theorem run_size {t : TypeId} {i : TypeInfo} (hi : P.info? t = some i) (W : World) : (sizeOf t).run P W = .ok i.size W := by
  simp [sizeOf, typeInfo, hi]

theorem loadA_sound {heap : List (List SV)} {t : TypeId} {v sv : V} {x : Value} (h : loadA P heap t v = some sv) (hv : VRel E β v x) (hr : HRel E β heap W) :
    ∃ y, (Instr.loadAt t x).run P W = .ok y W ∧ VRel E β sv y := by
  unfold loadA at h
  split at h
  · rename_i id off
    split at h
    · rename_i d i cells hu hi hc
      obtain ⟨blk, hb, rfl⟩ := hv
      obtain ⟨arr, ty, hw, hl⟩ := hr.ok id blk cells hb hc
      have hcell : ∀ j, W.cell? ⟨blk, j, none⟩ = arr[j]? := fun j => cell_of_row W blk j arr ty (0, 0) hw
      have e0 : (Instr.loadAt t (.pointer (some ⟨blk, off, none⟩))).run P W = (loadVar t ⟨blk, off, none⟩).run P W := by
        simp [Instr.loadAt, Instr.sureAddr]
      rw [e0]
      split at h
      · rename_i hagg
        split at h
        · rename_i hle
          cases h
          have hsz : ((arr.toList.drop off).take i.size).length = i.size := by
            have := hl.1; simp at this ⊢; omega
          have hld := run_loadCells_list (P := P) W ⟨blk, off, none⟩ ((arr.toList.drop off).take i.size) (fun j v hj => by
            rw [addr_add, hcell]
            rw [List.getElem?_take] at hj
            split at hj
            · rw [List.getElem?_drop] at hj; simpa using hj
            · cases hj)
          rw [hsz] at hld
          refine ⟨.agg ((arr.toList.drop off).take i.size).toArray, ?_, ⟨_, rfl, by simpa using (hl.drop off).take i.size⟩⟩
          simp [loadVar, run_isAgg hu, hagg, run_size hi, hld]
        · cases h
      · rename_i hagg
        cases hs : cells[off]? with
        | none => rw [hs] at h; cases h
        | some s =>
          rw [hs] at h; cases h
          obtain ⟨v, h1, h2⟩ := hl.get hs
          have h1' : arr[off]? = some v := by simpa using h1
          refine ⟨v, ?_, h2⟩
          have hagg' : isAggT P t = false := by simpa using hagg
          simp [loadVar, run_isAgg hu, hagg', hcell, h1']
    · cases h
  · cases h

theorem Grown.setRow {W W' : World} (h : Grown W W') {g : Nat} (hg : W.heap.size ≤ g) (cs : Array Value) {old : Array Value} {ty : TypeId} (ho : W'.heap[g]? = some (.cells old ty (0, 0))) : Grown W (W'.setRow g cs) := by
  obtain ⟨⟨h1, h2, h3⟩, hf, hs⟩ := h
  refine ⟨⟨h1, h2, fun i hi => ?_⟩, fun a => ?_, by simpa using hs⟩
  · rw [setRow_other _ _ _ _ (by omega)]; exact h3 i hi
  · rw [← hf a]
    unfold World.frozen?
    by_cases hk : a.block = g
    · rw [hk, setRow_heap _ _ _ _ _ _ ho, ho]
    · rw [setRow_other _ _ _ _ hk]

theorem storeA_sound {heap heap' : List (List SV)} {old : Nat} {t : TypeId} {va vx : V} {a x : Value} {W0 : World} (h : storeA P heap old t va vx = some heap') (ha : VRel E β va a) (hx : VRel E β vx x)
    (hr : HRel E β heap W) (hg : Grown W0 W) (hown : ∀ id blk, old ≤ id → β id = some blk → W0.heap.size ≤ blk) (hinj : ∀ id id' blk, old ≤ id → β id = some blk → β id' = some blk → id = id') :
    ∃ W', (Instr.storeAt t a x).run P W = .ok () W' ∧ HRel E β heap' W' ∧ Grown W0 W' ∧ heap'.length = heap.length := by
  unfold storeA at h
  split at h
  · rename_i id off
    split at h
    · rename_i i cells l hi hc hl
      split at h
      · rename_i hcond
        cases h
        simp only [Bool.and_eq_true] at hcond
        obtain ⟨⟨hold, hlen⟩, hfit⟩ := hcond
        have hold' := Nat.le_of_ble_eq_true hold
        have hlen' := Nat.eq_of_beq_eq_true hlen
        have hfit' := Nat.le_of_ble_eq_true hfit
        obtain ⟨blk, hb, rfl⟩ := ha
        obtain ⟨arr, ty, hw, hla⟩ := hr.ok id blk cells hb hc
        have hxl := cellsV_rel hl hx
        have hxs : x.cells.size = i.size := by have := hxl.1; simp at this; omega
        have hst := run_storeCells_at P blk off ty x.cells.toList 0 arr W hw (by have h1 := hla.1; have h2 := hxl.1; simp at h1 h2 ⊢; omega) hxl.oneCell
        refine ⟨W.setRow blk (arr.toList.take (off + 0) ++ x.cells.toList ++ arr.toList.drop (off + 0 + x.cells.toList.length)).toArray, ?_, ⟨?_, ?_⟩, Grown.setRow hg (hown id blk hold' hb) _ hw, by simp⟩
        · simp only [Instr.storeAt, Instr.sureAddr, storeVar, Sem.run_bind, Sem.run_pure, Result.andThen_ok, run_size hi, hxs, ne_eq, not_true_eq_false, if_false]
          exact hst
        · intro id' blk' hb'; rw [size_setRow]; exact hr.lt id' blk' hb'
        · intro id' blk' l' hb' hl'
          by_cases he : id' = id
          · subst he
            have : blk' = blk := by rw [hb] at hb'; cases hb'; rfl
            subst this
            refine ⟨_, ty, setRow_heap _ _ _ _ _ _ hw, ?_⟩
            have hid : id' < heap.length := (List.getElem?_eq_some_iff.1 hc).1
            rw [List.getElem?_set_self hid] at hl'
            cases hl'
            have hx2 := hxl.1
            simp only [Nat.add_zero, hx2]
            exact ((hla.take off).append hxl).append (hla.drop _)
          · have hne : blk' ≠ blk := fun e => he (by subst e; exact (hinj id id' blk' hold' hb hb').symm)
            rw [List.getElem?_set_ne (Ne.symm he)] at hl'
            rw [setRow_other _ _ _ _ hne]
            exact hr.ok id' blk' l' hb' hl'
      · cases h
    · cases h
  · cases h

theorem zeroA_sound {t : TypeId} {l : List SV} (h : zeroA P t = some l) : ∃ z, (zeroValue t).run P W = .ok z W ∧ LRel E β l z.cells.toList := by
  unfold zeroA at h
  split at h
  · rename_i i hi
    split at h
    · rename_i z hz
      refine ⟨z, ?_, cellsV_rel h (absV_rel z)⟩
      simp [zeroValue, typeInfo, hi, hz]
    · cases h
  · cases h

/-- A new block. -/
theorem newRow_sound {heap : List (List SV)} {l : List SV} {cells : Array Value} {ty : TypeId} (hr : HRel E β heap W) (hl : LRel E β l cells.toList) (hfresh : β heap.length = none) :
    HRel E (fun i => if i = heap.length then some W.heap.size else β i) (heap ++ [l]) (W.alloc (.cells cells ty)) ∧ Ext β (fun i => if i = heap.length then some W.heap.size else β i) := by
  have hext : Ext β (fun i => if i = heap.length then some W.heap.size else β i) := fun i b hb => by
    dsimp only
    rw [if_neg (by intro e; subst e; rw [hfresh] at hb; cases hb)]
    exact hb
  refine ⟨⟨fun id blk hb => ?_, fun id blk l' hb hl' => ?_⟩, hext⟩
  · split at hb
    · cases hb; simp
    · have := hr.lt id blk hb; simp; omega
  · split at hb
    · rename_i he
      cases hb
      subst he
      rw [List.getElem?_append_right (Nat.le_refl _)] at hl'
      simp at hl'
      subst hl'
      exact ⟨cells, ty, by show (W.heap.push _)[W.heap.size]? = _; simp, hl.mono hext⟩
    · rename_i he
      have hlt := hr.lt id blk hb
      have hl2 : heap[id]? = some l' := by
        by_cases hid : id < heap.length
        · rwa [List.getElem?_append_left hid] at hl'
        · rw [List.getElem?_append_right (by omega)] at hl'
          have : id - heap.length ≠ 0 := by omega
          simp [this] at hl'
      obtain ⟨c, t, h1, h2⟩ := hr.ok id blk l' hb hl2
      refine ⟨c, t, ?_, h2.mono hext⟩
      simp only [World.alloc, Array.getElem?_push]
      rw [if_neg (by omega)]; exact h1

theorem fold_set (n : Nat) : ∀ (l : List (Value × Nat)) (cs : Array Value), (l.foldl (fun cs (x : Value × Nat) => cs.setIfInBounds (n + x.2) x.1) cs).size = cs.size
  | [], cs => rfl
  | x :: l, cs => by simp [fold_set n l]

theorem zip_fold (n : Nat) : ∀ (l : List Value) (k : Nat) (cs : Array Value), n + k + l.length ≤ cs.size →
    ((l.zipIdx k).foldl (fun cs (x : Value × Nat) => cs.setIfInBounds (n + x.2) x.1) cs).toList = cs.toList.take (n + k) ++ l ++ cs.toList.drop (n + k + l.length)
  | [], k, cs, _ => by simp
  | v :: l, k, cs, h => by
    simp only [List.length_cons] at h
    simp only [List.zipIdx_cons, List.foldl_cons]
    rw [zip_fold n l (k + 1) _ (by simp; omega)]
    have e := list_seg_step cs.toList (n + k) v l (by simp; omega)
    simpa [Array.toList_setIfInBounds, Nat.add_assoc] using e

theorem fillA_sound {size : Nat} : ∀ {parts : List (Nat × V)} {vals : List (Nat × Value)} {cells l : List SV} {arr : Array Value},
    fillA size cells parts = some l → LRel E β cells arr.toList → parts.length = vals.length → (∀ (i : Nat) (p : Nat × V) (q : Nat × Value), parts[i]? = some p → vals[i]? = some q → p.1 = q.1 ∧ VRel E β p.2 q.2) →
    ∃ arr', Instr.fill (fun i => some (i * size, size)) arr vals = some arr' ∧ LRel E β l arr'.toList
  | [], vals, cells, l, arr, h, hl, hn, _ => by
    cases vals with
    | nil => simp only [fillA, Option.some.injEq] at h; subst h; exact ⟨arr, rfl, hl⟩
    | cons => simp at hn
  | (i, v) :: r, [], _, _, _, _, _, hn, _ => by simp at hn
  | (i, v) :: r, (j, x) :: s, cells, l, arr, h, hl, hn, hp => by
    have h0 := hp 0 (i, v) (j, x) rfl rfl
    obtain ⟨e, hvx⟩ := h0
    dsimp only at e hvx
    subst e
    simp only [fillA] at h
    split at h
    · rename_i lv hlv
      split at h
      · rename_i hc
        simp only [Bool.and_eq_true] at hc
        have hs := Nat.eq_of_beq_eq_true hc.1
        have hf := Nat.le_of_ble_eq_true hc.2
        have hxl := cellsV_rel hlv hvx
        have h1 := hxl.1
        have h2 := hl.1
        simp only [Array.length_toList] at h1 h2
        simp only [Instr.fill]
        have hcond : (decide (x.cells.size ≠ size) || decide (i * size + x.cells.size > arr.size)) = false := by
          rw [Bool.or_eq_false_iff, decide_eq_false_iff_not, decide_eq_false_iff_not]; omega
        simp only [hcond, Bool.false_eq_true, if_false]
        have hz : (x.cells.zipIdx.foldl (fun cs (c : Value × Nat) => cs.setIfInBounds (i * size + c.2) c.1) arr).toList = arr.toList.take (i * size) ++ x.cells.toList ++ arr.toList.drop (i * size + x.cells.toList.length) := by
          have := zip_fold (i * size) x.cells.toList 0 arr (by simp; omega)
          rw [← Array.foldl_toList, Array.toList_zipIdx]
          simpa using this
        refine fillA_sound h ?_ (by simpa using hn) (fun k p q hp1 hq1 => hp (k + 1) p q (by simpa using hp1) (by simpa using hq1))
        have hz' := hz
        rw [show (fun (cs : Array Value) (c : Value × Nat) => cs.setIfInBounds (i * size + c.2) c.1) = (fun cs x => match x with | (c, j) => cs.setIfInBounds (i * size + j) c) from rfl] at hz'
        rw [hz', show x.cells.toList.length = lv.length by simp; omega]
        exact ((hl.take _).append hxl).append (hl.drop _)
      · cases h
    · cases h

theorem buildA_sound {t : TypeId} {parts : List (Nat × V)} {vals : List (Nat × Value)} {sv : V} (h : buildA P t parts = some sv) (hn : parts.length = vals.length)
    (hp : ∀ (i : Nat) (p : Nat × V) (q : Nat × Value), parts[i]? = some p → vals[i]? = some q → p.1 = q.1 ∧ VRel E β p.2 q.2) :
    ∃ y, (Instr.build t vals.toArray).run P W = .ok y W ∧ VRel E β sv y := by
  unfold buildA at h
  split at h
  · rename_i n elem z hu hz
    split at h
    · rename_i i hi
      cases hf : fillA i.size z parts with
      | none => rw [hf] at h; cases h
      | some l =>
        rw [hf] at h; cases h
        obtain ⟨zv, hz1, hz2⟩ := zeroA_sound (W := W) (E := E) (β := β) hz
        obtain ⟨arr', h1, h2⟩ := fillA_sound hf hz2 hn hp
        refine ⟨.agg arr', ?_, ⟨arr', rfl, h2⟩⟩
        simp [Instr.build, hz1, run_underlying hu, run_size hi, h1]
    · cases h
  · cases h

theorem indexA_sound {t : TypeId} {vx vi sv : V} {x i : Value} (h : indexA P t vx vi = some sv) (hx : VRel E β vx x) (hi : VRel E β vi i) :
    ∃ y, (Instr.index t x i).run P W = .ok y W ∧ VRel E β sv y := by
  unfold indexA at h
  split at h
  · rename_i cells k n
    obtain ⟨arr, rfl, hl⟩ := hx
    obtain rfl : i = .int k n := hi
    split at h
    · rename_i len elem hu
      split at h
      · rename_i e d he hue
        split at h
        · rename_i hc
          have hc' : 0 ≤ n ∧ n < (len : Int) := by simpa using hc
          split at h
          · rename_i hagg
            split at h
            · rename_i hle
              have hle' := Nat.le_of_ble_eq_true hle
              cases h
              refine ⟨.agg (arr.extract (n.toNat * e.size) (n.toNat * e.size + e.size)), ?_, ⟨_, rfl, ?_⟩⟩
              · simp [Instr.index, asIntOf, run_underlying hu, hc', run_size he, part, run_isAgg hue, hagg]
              · have e1 : (arr.extract (n.toNat * e.size) (n.toNat * e.size + e.size)).toList = (arr.toList.drop (n.toNat * e.size)).take e.size := by
                  simp [Array.toList_extract]
                rw [e1]
                exact (hl.drop _).take _
            · cases h
          · rename_i hagg
            have hagg' : isAggT P elem = false := by simpa using hagg
            cases hcell : cells[n.toNat * e.size]? with
            | none => rw [hcell] at h; cases h
            | some s =>
              rw [hcell] at h
              cases h
              have hlt : n.toNat * e.size < arr.toList.length := by
                have := (List.getElem?_eq_some_iff.1 hcell).1
                rw [← hl.1]; exact this
              have hget : arr[n.toNat * e.size]? = some arr.toList[n.toNat * e.size] := by
                rw [← Array.getElem?_toList]; exact List.getElem?_eq_getElem hlt
              refine ⟨arr.toList[n.toNat * e.size], ?_, hl.2 _ s _ hcell (List.getElem?_eq_getElem hlt)⟩
              simp only [Instr.index, asIntOf, Sem.run_bind, Sem.run_pure, Result.andThen_ok, run_underlying hu, run_size he, part, run_isAgg hue, hagg', if_pos hc', hget, Bool.false_eq_true, if_false]
        · cases h
      · cases h
    · cases h
  · cases h

theorem indexAddrA_sound {t : TypeId} {vx vi sv : V} {x i : Value} (h : indexAddrA P t vx vi = some sv) (hx : VRel E β vx x) (hi : VRel E β vi i) :
    ∃ y, (Instr.indexAt t x i).run P W = .ok y W ∧ VRel E β sv y := by
  unfold indexAddrA at h
  split at h
  · rename_i id off k n
    obtain ⟨blk, hb, rfl⟩ := hx
    obtain rfl : i = .int k n := hi
    split at h
    · rename_i len elem hu
      split at h
      · rename_i e he
        split at h
        · rename_i hc
          have hc' : 0 ≤ n ∧ n < (len : Int) := by simpa using hc
          cases h
          refine ⟨_, ?_, ⟨blk, hb, rfl⟩⟩
          simp [Instr.indexAt, asIntOf, run_underlying hu, Instr.sureAddr, hc', run_size he, addr_add]
        · cases h
      · cases h
    · cases h
  · rename_i id off len cap k n
    obtain ⟨blk, hb, rfl⟩ := hx
    obtain rfl : i = .int k n := hi
    split at h
    · rename_i elem hu
      split at h
      · rename_i e he
        split at h
        · rename_i hc
          have hc' : 0 ≤ n ∧ n < (len : Int) := by simpa using hc
          cases h
          refine ⟨_, ?_, ⟨blk, hb, rfl⟩⟩
          simp [Instr.indexAt, asIntOf, run_underlying hu, hc', run_size he, addr_add]
        · cases h
      · cases h
    · cases h
  · cases h

theorem sliceA_sound {t : TypeId} {vx sv : V} {x : Value} (h : sliceA P t vx = some sv) (hx : VRel E β vx x) :
    ∃ y, (Instr.sliceAt t x none none none).run P W = .ok y W ∧ VRel E β sv y := by
  unfold sliceA at h
  split at h
  · rename_i id off
    obtain ⟨blk, hb, rfl⟩ := hx
    split at h
    · rename_i n elem hu
      split at h
      · rename_i e he
        cases h
        refine ⟨_, ?_, ⟨blk, hb, rfl⟩⟩
        by_cases hn : n = 0
        · simp [Instr.sliceAt, run_underlying hu, Instr.sureAddr, Instr.sliceBounds, run_size he, hn]
        · simp [Instr.sliceAt, run_underlying hu, Instr.sureAddr, Instr.sliceBounds, run_size he, addr_add]
      · cases h
    · cases h
  · cases h

theorem unA_sound {op : UnOp} {vx sv : V} {x : Value} (h : unA op vx = some sv) (hx : VRel E β vx x) :
    ∃ y, (Op.unary op x).run P W = .ok y W ∧ VRel E β sv y := by
  unfold unA at h
  split at h
  · obtain rfl : x = _ := hx
    split at h
    · cases h; exact ⟨_, rfl, rfl⟩
    · cases h
  · obtain ⟨b, rfl, hb⟩ := hx
    split at h
    · cases h; exact ⟨_, rfl, ⟨_, rfl, by rw [canon_negFloat, hb]; rfl⟩⟩
    · cases h
  · obtain rfl : x = _ := hx
    split at h
    · cases h; exact ⟨_, rfl, rfl⟩
    · cases h
  · cases h

theorem intOp_sound {op : BinOp} {t : TypeId} {k : IntKind} {a b : Int} {s : SV} (h : intOp op k a b = some s) :
    ∃ y, (binOp op t (.int k a) (.int k b)).run P W = .ok y W ∧ SRel E β s y := by
  cases op <;> simp only [intOp, reduceCtorEq] at h
  case quo => split at h; cases h; rename_i hb; cases h; exact ⟨_, by simp [binOp, Op.intDiv, show ¬ b = 0 by simpa using hb], rfl⟩
  case rem => split at h; cases h; rename_i hb; cases h; exact ⟨_, by simp [binOp, Op.intDiv, show ¬ b = 0 by simpa using hb], rfl⟩
  all_goals (cases h; exact ⟨_, by simp [binOp, Op.intArith, Op.intCmp], rfl⟩)

theorem eqGuard_plain {op : BinOp} {t : TypeId} {x y : Operand} {a b : Value} (ha : a.oneCell' = true) (hi : a ≠ .nilIface) : (eqGuard op t x y a b).run P W = .ok () W := by
  unfold eqGuard
  cases op <;> first
    | rfl
    | (cases a <;> first | rfl | (simp [Value.oneCell'] at ha; done) | (exact absurd rfl hi))

end
end Go.Sx
