/-
  What the symbols stand for, and that each operation on symbols is the model's operation. Conditions: none.
-/
import Derived.Test.YtiidgljfdhcmgaaDoorSx2
import Derived.RowKit3
import Derived.Laws.CopyRow
import Derived.Laws.Rows
import Derived.Orders
namespace Go.Sx
open Go.RowKit

structure Env where
  arg : Nat → CF
  f1 : Nat → CF → CF
  f2 : Nat → CF → CF → CF

def cwide (x : CF) : CF := x.bind fun b => floatToFloatBits .f32 b .f64
def cnarrow (x : CF) : CF := x.bind fun b => floatToFloatBits .f64 b .f32
def cmm (big : Bool) (k : FloatKind) : CF → CF → CF
  | some x, some y =>
    match k.format.order x y with
    | none => none
    | some .lt => if big then some y else some x
    | some .gt => if big then some x else some y
    | some .eq => if (k.decode x).neg == big then some y else some x
  | _, _ => none

def den (E : Env) : T → CF
  | .arg i => E.arg i
  | .lit k b => canon k b
  | .bin c x y => cbin (opOf (c % 4)) (kindOf (c / 4)) (den E x) (den E y)
  | .neg k x => cneg k (den E x)
  | .wide x => cwide (den E x)
  | .narrow x => cnarrow (den E x)
  | .f1 g x => E.f1 g (den E x)
  | .f2 g x y => E.f2 g (den E x) (den E y)
  | .mm c x y => cmm (c % 2 == 1) (kindOf (c / 2)) (den E x) (den E y)
  | .abs k x => cabs k (den E x)

def holds (E : Env) : Atom → Bool
  | .cmp c k x y => ccmp (cmpOf c) k (den E x) (den E y)
  | .fits x => fitsC (den E x)
  | .same x y => den E x == den E y

def FactsOK (E : Env) (fs : Facts) : Prop := ∀ p ∈ fs, holds E p.1 = p.2

theorem fk_inj {k k' : FloatKind} (h : Nat.beq (fk k) (fk k') = true) : k = k' := by
  cases k <;> cases k' <;> first | rfl | (exact absurd h (by decide))

theorem T.beq_eq : ∀ {x y : T}, T.beq x y = true → x = y := by
  intro x
  induction x with
  | arg i => intro y h; cases y <;> simp_all [T.beq]
  | lit k b => intro y h; cases y <;> simp only [T.beq, Bool.and_eq_true, Bool.false_eq_true] at h; obtain ⟨h1, h2⟩ := h; rw [fk_inj h1, Nat.eq_of_beq_eq_true h2]
  | bin c x y ihx ihy =>
    intro z h; cases z <;> simp only [T.beq, Bool.and_eq_true, Bool.false_eq_true] at h
    obtain ⟨⟨h1, h2⟩, h3⟩ := h; rw [Nat.eq_of_beq_eq_true h1, ihx h2, ihy h3]
  | neg k x ih => intro y h; cases y <;> simp only [T.beq, Bool.and_eq_true, Bool.false_eq_true] at h; obtain ⟨h1, h2⟩ := h; rw [fk_inj h1, ih h2]
  | wide x ih => intro y h; cases y <;> simp only [T.beq, Bool.false_eq_true] at h; rw [ih h]
  | narrow x ih => intro y h; cases y <;> simp only [T.beq, Bool.false_eq_true] at h; rw [ih h]
  | f1 g x ih => intro y h; cases y <;> simp only [T.beq, Bool.and_eq_true, Bool.false_eq_true] at h; obtain ⟨h1, h2⟩ := h; rw [Nat.eq_of_beq_eq_true h1, ih h2]
  | f2 c x y ihx ihy =>
    intro z h; cases z <;> simp only [T.beq, Bool.and_eq_true, Bool.false_eq_true] at h
    obtain ⟨⟨h1, h2⟩, h3⟩ := h; rw [Nat.eq_of_beq_eq_true h1, ihx h2, ihy h3]
  | mm c x y ihx ihy =>
    intro z h; cases z <;> simp only [T.beq, Bool.and_eq_true, Bool.false_eq_true] at h
    obtain ⟨⟨h1, h2⟩, h3⟩ := h; rw [Nat.eq_of_beq_eq_true h1, ihx h2, ihy h3]
  | abs k x ih => intro y h; cases y <;> simp only [T.beq, Bool.and_eq_true, Bool.false_eq_true] at h; obtain ⟨h1, h2⟩ := h; rw [fk_inj h1, ih h2]

theorem Atom.beq_eq {a b : Atom} (h : Atom.beq a b = true) : a = b := by
  cases a <;> cases b <;> simp only [Atom.beq, Bool.and_eq_true, Bool.false_eq_true] at h
  · obtain ⟨⟨⟨h1, h2⟩, h3⟩, h4⟩ := h; rw [Nat.eq_of_beq_eq_true h1, fk_inj h2, T.beq_eq h3, T.beq_eq h4]
  · rw [T.beq_eq h]
  · obtain ⟨h1, h2⟩ := h; rw [T.beq_eq h1, T.beq_eq h2]

theorem look_sound {E : Env} {a : Atom} {t : Bool} : ∀ {fs : Facts}, look a fs = some t → FactsOK E fs → holds E a = t
  | [], h, _ => by cases h
  | (b, u) :: r, h, hf => by
    simp only [look] at h
    split at h
    · rename_i e; cases h; rw [Atom.beq_eq e]; exact hf _ (List.mem_cons_self ..)
    · exact look_sound h fun p hp => hf p (List.mem_cons_of_mem _ hp)

theorem ask_sound {E : Env} {a : Atom} {fs : Facts} {K : Bool → Facts → Bool} (h : ask a fs K = true) (hf : FactsOK E fs) :
    ∃ fs', K (holds E a) fs' = true ∧ FactsOK E fs' := by
  unfold ask at h
  split at h
  · rename_i t ht
    exact ⟨fs, by rw [look_sound ht hf]; exact h, hf⟩
  · rw [Bool.and_eq_true] at h
    have hc : ∀ t, holds E a = t → FactsOK E ((a, t) :: fs) := fun t ht p hp => by
      rcases List.mem_cons.1 hp with rfl | hp
      · exact ht
      · exact hf p hp
    cases ht : holds E a
    · exact ⟨_, h.2, hc _ ht⟩
    · exact ⟨_, h.1, hc _ ht⟩

/-- The value of a tree. -/
def Tree.pick (E : Env) : Tree → V
  | .leaf v => v
  | .node a l r => if holds E a then l.pick E else r.pick E

theorem treeA_sound {E : Env} {K : V → Facts → Bool} : ∀ {t : Tree} {fs : Facts}, treeA t fs K = true → FactsOK E fs → ∃ fs', K (t.pick E) fs' = true ∧ FactsOK E fs'
  | .leaf v, fs, h, hf => ⟨fs, h, hf⟩
  | .node a l r, fs, h, hf => by
    obtain ⟨fs', h1, h2⟩ := ask_sound h hf
    unfold Tree.pick
    cases hh : holds E a
    · rw [hh] at h1
      simpa using treeA_sound (t := r) h1 h2
    · rw [hh] at h1
      simpa using treeA_sound (t := l) h1 h2

/-! ### Forcing does nothing -/
theorem forceNat_eq (n : Nat) (K : Nat → Bool) : forceNat n K = K n := by cases n <;> rfl
theorem forceInt_eq (n : Int) (K : Int → Bool) : forceInt n K = K n := by cases n <;> simp only [forceInt, forceNat_eq]
theorem forceSV_eq (s : SV) (K : SV → Bool) : forceSV s K = K s := by
  cases s <;> simp only [forceSV, forceInt_eq, forceNat_eq]
  rename_i b; cases b <;> rfl
theorem forceL_eq {α : Type} (l : List α) : ∀ K : List α → Bool, forceL l K = K l := by
  induction l with
  | nil => intro K; rfl
  | cons x r ih => intro K; simp only [forceL, ih]
theorem forceSL_eq (l : List SV) : ∀ K : List SV → Bool, forceSL l K = K l := by
  induction l with
  | nil => intro K; rfl
  | cons x r ih => intro K; simp only [forceSL, ih, forceSV_eq]
theorem forceV_eq (v : V) : ∀ K : V → Bool, forceV v K = K v := by
  induction v with
  | sc s => intro K; simp only [forceV, forceSV_eq]
  | agg l => intro K; simp only [forceV, forceSL_eq]
  | tup a b iha ihb => intro K; simp only [forceV, iha, ihb]
  | other v => intro K; rfl

/-! ### What stands for what -/
abbrev Beta := Nat → Option Nat

def SRel (E : Env) (β : Beta) : SV → Value → Prop
  | .int k n, v => v = .int k n
  | .bool b, v => v = .bool b
  | .flt k t, v => ∃ b, v = .float k b ∧ canon k b = den E t
  | .ptr id off, v => ∃ blk, β id = some blk ∧ v = .pointer (some ⟨blk, off, none⟩)
  | .slc id off len cap, v => ∃ blk, β id = some blk ∧ v = .slice (some ⟨blk, off, none⟩) len cap
  | .bits k t, v => ∃ b : Nat, v = .int (uk k) (b : Int) ∧ canon k b = den E t

def LRel (E : Env) (β : Beta) (l : List SV) (r : List Value) : Prop :=
  l.length = r.length ∧ ∀ (i : Nat) (s : SV) (v : Value), l[i]? = some s → r[i]? = some v → SRel E β s v

def VRel (E : Env) (β : Beta) : V → Value → Prop
  | .sc s, v => SRel E β s v
  | .agg l, v => ∃ arr : Array Value, v = .agg arr ∧ LRel E β l arr.toList
  | .tup a b, v => ∃ x y, v = .tuple #[x, y] ∧ VRel E β a x ∧ VRel E β b y
  | .other w, v => v = w

def Ext (β β' : Beta) : Prop := ∀ i b, β i = some b → β' i = some b
theorem Ext.refl (β : Beta) : Ext β β := fun _ _ h => h
theorem Ext.trans {a b c : Beta} (h : Ext a b) (h' : Ext b c) : Ext a c := fun i x hx => h' i x (h i x hx)

section
variable {E : Env} {β β' : Beta}

theorem SRel.mono (h : Ext β β') {s : SV} {v : Value} (hs : SRel E β s v) : SRel E β' s v := by
  cases s <;> simp only [SRel] at hs ⊢
  case flt => exact hs
  case ptr => obtain ⟨b, h1, h2⟩ := hs; exact ⟨b, h _ _ h1, h2⟩
  case slc => obtain ⟨b, h1, h2⟩ := hs; exact ⟨b, h _ _ h1, h2⟩
  case bits => exact hs
  all_goals exact hs
theorem LRel.mono (h : Ext β β') {l : List SV} {r : List Value} (hs : LRel E β l r) : LRel E β' l r := ⟨hs.1, fun i s v h1 h2 => (hs.2 i s v h1 h2).mono h⟩
theorem VRel.mono (h : Ext β β') : ∀ {s : V} {v : Value}, VRel E β s v → VRel E β' s v
  | .sc _, _, hs => SRel.mono h hs
  | .agg _, _, ⟨arr, h1, h2⟩ => ⟨arr, h1, h2.mono h⟩
  | .tup _ _, _, ⟨x, y, h1, h2, h3⟩ => ⟨x, y, h1, VRel.mono h h2, VRel.mono h h3⟩
  | .other _, _, hs => hs

theorem SRel.noPtr {s : SV} {v : Value} (hn : noPtrS s = true) (hs : SRel E β s v) : SRel E β' s v := by
  cases s <;> simp only [SRel] at hs ⊢ <;> first | exact hs | (simp [noPtrS] at hn)
theorem LRel.noPtr {l : List SV} {r : List Value} (hn : l.all noPtrS = true) (hs : LRel E β l r) : LRel E β' l r :=
  ⟨hs.1, fun i s v h1 h2 => (hs.2 i s v h1 h2).noPtr (List.all_eq_true.1 hn s (List.mem_of_getElem? h1))⟩
theorem VRel.noPtr : ∀ {s : V} {v : Value}, Sx.noPtr s = true → VRel E β s v → VRel E β' s v
  | .sc _, _, hn, hs => SRel.noPtr hn hs
  | .agg _, _, hn, ⟨arr, h1, h2⟩ => ⟨arr, h1, h2.noPtr hn⟩
  | .tup _ _, _, hn, ⟨x, y, h1, h2, h3⟩ => by
    simp only [Sx.noPtr, Bool.and_eq_true] at hn
    exact ⟨x, y, h1, VRel.noPtr hn.1 h2, VRel.noPtr hn.2 h3⟩
  | .other _, _, hn, _ => by simp [Sx.noPtr] at hn

theorem SRel.oneCell {s : SV} {v : Value} (hs : SRel E β s v) : v.oneCell' = true := by
  cases s <;> simp only [SRel] at hs
  case flt => obtain ⟨b, rfl, _⟩ := hs; rfl
  case ptr => obtain ⟨b, _, rfl⟩ := hs; rfl
  case slc => obtain ⟨b, _, rfl⟩ := hs; rfl
  case bits => obtain ⟨b, rfl, _⟩ := hs; rfl
  all_goals (subst hs; rfl)

theorem LRel.oneCell {l : List SV} {r : List Value} (h : LRel E β l r) : ∀ v ∈ r, v.oneCell' = true := by
  intro v hv
  obtain ⟨i, hi, rfl⟩ := List.mem_iff_getElem.1 hv
  have hl : i < l.length := by rw [h.1]; exact hi
  exact SRel.oneCell (h.2 i l[i] r[i] (List.getElem?_eq_getElem hl) (List.getElem?_eq_getElem hi))

theorem LRel.nil : LRel E β [] [] := ⟨rfl, fun i s v h _ => by simp at h⟩
theorem LRel.cons {s : SV} {v : Value} {l : List SV} {r : List Value} (h : SRel E β s v) (hl : LRel E β l r) : LRel E β (s :: l) (v :: r) := by
  refine ⟨by simp [hl.1], fun i s' v' h1 h2 => ?_⟩
  cases i with
  | zero => simp at h1 h2; subst h1; subst h2; exact h
  | succ i => simp at h1 h2; exact hl.2 i s' v' h1 h2
theorem LRel.single {s : SV} {v : Value} (h : SRel E β s v) : LRel E β [s] [v] := LRel.cons h LRel.nil
theorem LRel.take {l : List SV} {r : List Value} (h : LRel E β l r) (n : Nat) : LRel E β (l.take n) (r.take n) := by
  refine ⟨by simp [h.1], fun i s v h1 h2 => ?_⟩
  rw [List.getElem?_take] at h1 h2
  split at h1
  · rename_i hi; rw [if_pos hi] at h2; exact h.2 i s v h1 h2
  · cases h1
theorem LRel.drop {l : List SV} {r : List Value} (h : LRel E β l r) (n : Nat) : LRel E β (l.drop n) (r.drop n) := by
  refine ⟨by simp [h.1], fun i s v h1 h2 => ?_⟩
  rw [List.getElem?_drop] at h1 h2
  exact h.2 _ s v h1 h2
theorem LRel.append {l l' : List SV} {r r' : List Value} (h : LRel E β l r) (h' : LRel E β l' r') : LRel E β (l ++ l') (r ++ r') := by
  refine ⟨by simp [h.1, h'.1], fun i s v h1 h2 => ?_⟩
  by_cases hi : i < l.length
  · rw [List.getElem?_append_left hi] at h1
    rw [List.getElem?_append_left (by rw [← h.1]; exact hi)] at h2
    exact h.2 i s v h1 h2
  · rw [List.getElem?_append_right (by omega)] at h1
    rw [List.getElem?_append_right (by rw [← h.1]; omega), ← h.1] at h2
    exact h'.2 _ s v h1 h2
theorem LRel.get {l : List SV} {r : List Value} (h : LRel E β l r) {i : Nat} {s : SV} (hs : l[i]? = some s) : ∃ v, r[i]? = some v ∧ SRel E β s v := by
  have hi : i < l.length := (List.getElem?_eq_some_iff.1 hs).1
  have hr : i < r.length := by rw [← h.1]; exact hi
  exact ⟨r[i], List.getElem?_eq_getElem hr, h.2 i s _ hs (List.getElem?_eq_getElem hr)⟩
theorem LRel.replicate {s : SV} {v : Value} (h : SRel E β s v) (n : Nat) : LRel E β (List.replicate n s) (List.replicate n v) := by
  refine ⟨by simp, fun i s' v' h1 h2 => ?_⟩
  rw [List.getElem?_replicate] at h1 h2
  split at h1
  · rename_i hi; rw [if_pos hi] at h2; cases h1; cases h2; exact h
  · cases h1

theorem absS_rel {v : Value} {s : SV} (h : absS v = some s) : SRel E β s v := by
  cases v <;> simp only [absS, reduceCtorEq, Option.some.injEq] at h
  all_goals subst h
  · rfl
  · rfl
  · exact ⟨_, rfl, rfl⟩

theorem absL_rel : ∀ {r : List Value} {l : List SV}, absL r = some l → LRel E β l r
  | [], l, h => by simp only [absL, Option.some.injEq] at h; subst h; exact LRel.nil
  | v :: r, l, h => by
    simp only [absL] at h
    split at h
    · rename_i s l' h1 h2; cases h; exact LRel.cons (absS_rel h1) (absL_rel h2)
    · cases h

theorem absV_rel (v : Value) : VRel E β (absV v) v := by
  unfold absV
  split
  · rename_i cs
    split
    · rename_i l h; exact ⟨cs, rfl, absL_rel h⟩
    · rfl
  · split
    · rename_i s h; exact absS_rel h
    · rfl

theorem cellsV_rel {v : V} {x : Value} {l : List SV} (h : cellsV v = some l) (hv : VRel E β v x) : LRel E β l x.cells.toList := by
  cases v <;> simp only [cellsV, reduceCtorEq, Option.some.injEq] at h
  · subst h
    have h1 := SRel.oneCell hv
    have : x.cells = #[x] := by cases x <;> first | rfl | (simp [Value.oneCell'] at h1)
    rw [this]; exact LRel.single hv
  · subst h; obtain ⟨arr, rfl, h⟩ := hv; exact h

/-- The memory that the symbols speak of. -/
structure HRel (E : Env) (β : Beta) (heap : List (List SV)) (W : World) : Prop where
  lt : ∀ id blk, β id = some blk → blk < W.heap.size
  ok : ∀ id blk l, β id = some blk → heap[id]? = some l → ∃ cells ty, W.heap[blk]? = some (.cells cells ty (0, 0)) ∧ LRel E β l cells.toList

theorem grown_cells {W W' : World} (h : Grown W W') {b : Nat} {c : Array Value} {t : TypeId} {f : Nat × Nat} (hb : W.heap[b]? = some (.cells c t f)) : W'.heap[b]? = some (.cells c t f) := by
  have hlt : b < W.heap.size := (Array.getElem?_eq_some_iff.1 hb).1
  have h1 := h.1.2.2 b hlt
  rw [hb] at h1
  split at h1
  · rename_i c' t' fr' c'' t'' fr'' e1 e2
    cases e1
    obtain ⟨rfl, rfl, hs, hc⟩ := h1
    rw [e2]
    congr 2
    apply Array.ext_getElem?
    intro j
    exact hc j (fun hf => hf)
  · rename_i e1 _; cases e1
  · rename_i e1 e2; rw [← h1]
theorem Grown.trans' {W W' W'' : World} (h : Grown W W') (h' : Grown W' W'') : Grown W W'' :=
  ⟨World.keptBut_trans h.1 (World.keptBut_mono (fun _ f => f) h'.1), fun a => (h'.2.1 a).trans (h.2.1 a), Nat.le_trans h.2.2 h'.2.2⟩
theorem Grown.drewN {W W' : World} (h : Grown W W') (n : Nat) : Grown W (W'.drewN n) := h

theorem HRel.grown {heap : List (List SV)} {W W' : World} (h : HRel E β heap W) (g : Grown W W') : HRel E β heap W' :=
  ⟨fun id blk hb => Nat.lt_of_lt_of_le (h.lt id blk hb) g.2.2, fun id blk l hb hl => let ⟨c, t, h1, h2⟩ := h.ok id blk l hb hl; ⟨c, t, grown_cells g h1, h2⟩⟩

end
end Go.Sx
