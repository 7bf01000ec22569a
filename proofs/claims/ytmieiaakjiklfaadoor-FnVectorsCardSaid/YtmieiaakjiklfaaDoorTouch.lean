/-
  Three cells of one block may turn, all else stays. Conditions: none.
-/
import Derived.Test.YtmieiaakjiklfaaDoorReadVec1
import Derived.Test.YtmieiaakjiklfaaDoorReadNum2
namespace Go.Proofs.YtmieiaakjiklfaaDoor
open Go.RowKit

structure Touch (blk off : Nat) (w w' : World) : Prop where
  os : w'.os = w.os
  output : w'.output = w.output
  size : w.heap.size ≤ w'.heap.size
  block : ∀ k, k < w.heap.size → k ≠ blk → w'.heap[k]? = w.heap[k]?
  lt : blk < w.heap.size
  own : ∀ j, j < 3 → (∃ x, w'.cell? ⟨blk, off + j, none⟩ = some x) ∧ w'.frozen? ⟨blk, off + j, none⟩ = false
  rest : ∀ o, (o < off ∨ off + 3 ≤ o) → w'.cell? ⟨blk, o, none⟩ = w.cell? ⟨blk, o, none⟩
  froz : ∀ o, w'.frozen? ⟨blk, o, none⟩ = w.frozen? ⟨blk, o, none⟩

theorem Touch.refl {blk off : Nat} {w : World} (h : ∀ j, j < 3 → (∃ x, w.cell? ⟨blk, off + j, none⟩ = some x) ∧ w.frozen? ⟨blk, off + j, none⟩ = false) : Touch blk off w w :=
  ⟨rfl, rfl, Nat.le_refl _, fun _ _ _ => rfl, by obtain ⟨⟨x, hx⟩, _⟩ := h 0 (by omega); exact World.block_lt_of_cell? _ _ hx, h, fun _ _ => rfl, fun _ => rfl⟩

theorem Touch.kept {blk off : Nat} {w a b : World} (h : Touch blk off w a) (k : Kept a b) : Touch blk off w b := by
  have hb : blk < a.heap.size := Nat.lt_of_lt_of_le h.lt h.size
  refine ⟨k.os.trans h.os, k.output.trans h.output, Nat.le_trans h.size k.size, fun i hi hne => (k.block i (Nat.lt_of_lt_of_le hi h.size)).trans (h.block i hi hne), h.lt, fun j hj => ?_, fun o ho => ?_, fun o => ?_⟩
  · obtain ⟨⟨x, h1⟩, h2⟩ := h.own j hj
    exact ⟨⟨x, (k.cell (p := ⟨blk, off + j, none⟩) hb).trans h1⟩, (k.frozen (p := ⟨blk, off + j, none⟩) hb).trans h2⟩
  · exact (k.cell (p := ⟨blk, o, none⟩) hb).trans (h.rest o ho)
  · exact (k.frozen (p := ⟨blk, o, none⟩) hb).trans (h.froz o)

theorem Touch.set {blk off : Nat} {w a : World} (h : Touch blk off w a) {j : Nat} (hj : j < 3) (v : Value) : Touch blk off w (a.setCell ⟨blk, off + j, none⟩ v) := by
  refine ⟨h.os, h.output, Nat.le_trans h.size (by simp [World.setCell]), fun i hi hne => (Below.heap_setCell _ _ _ _ hne).trans (h.block i hi hne), h.lt, fun i hi => ?_, fun o ho => ?_, fun o => ?_⟩
  · obtain ⟨⟨x, h1⟩, h2⟩ := h.own i hi
    rw [frozen_setCell]
    refine ⟨?_, h2⟩
    by_cases e : i = j
    · subst e; exact ⟨v, World.cell?_setCell_same _ _ _ h1⟩
    · exact ⟨x, by rw [World.cell?_setCell_other _ _ _ _ (by first | (simp; done) | (simp; omega))]; exact h1⟩
  · rw [World.cell?_setCell_other _ _ _ _ (by first | (simp; done) | (simp; omega))]; exact h.rest o ho
  · rw [frozen_setCell]; exact h.froz o

theorem Touch.cell {blk off : Nat} {w w' : World} (h : Touch blk off w w') {p : Addr} (hp : p.block < w.heap.size) (hne : p.block ≠ blk) : w'.cell? p = w.cell? p := World.cell?_of_block (w := w) (h.block p.block hp hne)

/-- Where only a block of one's own was touched, what was there is as it was. -/
theorem Kept.touch {blk off : Nat} {u w w' : World} (k : Kept u w) (h : Touch blk off w w') (hu : u.heap.size ≤ blk) : Kept u w' :=
  ⟨h.os.trans k.os, h.output.trans k.output, Nat.le_trans k.size h.size, fun i hi => (h.block i (Nat.lt_of_lt_of_le hi k.size) (by omega)).trans (k.block i hi)⟩

/-- The library's variables, and the bound of its search. -/
structure LaidM (w : World) : Prop where
  laid : Laid w
  max : ∃ m : Int, w.cell? ⟨4, 0, none⟩ = some (.int .i64 m)

theorem LaidM.kept {w w' : World} (h : LaidM w) (k : Kept w w') : LaidM w' := by
  obtain ⟨m, hm⟩ := h.max
  exact ⟨h.laid.kept k, m, (k.cell (World.block_lt_of_cell? _ _ hm)).trans hm⟩

theorem Laid.touch {blk off : Nat} {w w' : World} (h : Laid w) (k : Touch blk off w w') (hb : 8 ≠ blk ∧ 1 ≠ blk ∧ 2 ≠ blk) : Laid w' := by
  obtain ⟨h1, ⟨e2, h2, h3⟩, ⟨e4, h4, h5⟩⟩ := h
  exact ⟨(k.cell (World.block_lt_of_cell? _ _ h1) hb.1).trans h1, ⟨e2, (k.cell (World.block_lt_of_cell? _ _ h2) hb.2.1).trans h2, h3⟩, ⟨e4, (k.cell (World.block_lt_of_cell? _ _ h4) hb.2.2).trans h4, h5⟩⟩

theorem lib_split (t : ByteArray) (c : UInt8) (w : World) (ht : t.size ≤ 1048576) (hm : ∃ m : Int, w.cell? ⟨4, 0, none⟩ = some (.int .i64 m)) :
    Calls Tryd.prog 44 #[.string t, .string ⟨#[c]⟩] w fun e w' => e = .returned (.slice (some ⟨w.heap.size, 0, none⟩) (splitL c t.data.toList).length (splitL c t.data.toList).length) ∧ StrRow w' w.heap.size (splitL c t.data.toList) ∧ Below w.heap.size w w' := by
  obtain ⟨m, hm⟩ := hm
  have h := Tryd.strings_Split t ⟨#[c]⟩ m w (by omega) hm (by show 1 ≤ 1; omega)
  rw [count_pieces, split_vals] at h
  refine h.mono fun e w' ⟨he, hw⟩ => ⟨he, fun j p hp => ?_, by rw [hw]; exact (Below.refl _ _).alloc (Nat.le_refl _) _⟩
  rw [hw, World.cell?_alloc_new]
  simp [strV, hp]

/-- What reading into three cells owes. -/
def intoPost (l : List UInt8) (blk off : Nat) (w : World) (e : Ending) (w' : World) : Prop :=
  Touch blk off w w' ∧ match readVecR l with
    | some (a, b, c) => e = .returned (.bool true) ∧ w'.cell? ⟨blk, off, none⟩ = some (.float .f32 a) ∧ w'.cell? ⟨blk, off + 1, none⟩ = some (.float .f32 b) ∧ w'.cell? ⟨blk, off + 2, none⟩ = some (.float .f32 c)
    | none => e = .returned (.bool false)

theorem intoPost.no {l : List UInt8} {blk off : Nat} {w w' : World} (h : readVecR l = none) (k : Touch blk off w w') : intoPost l blk off w (.returned (.bool false)) w' := by
  unfold intoPost; rw [h]; exact ⟨k, rfl⟩

theorem readVecR_three {l p q r : List UInt8} (h : splitL 32 l = [p, q, r]) : readVecR l = match readR p, readR q, readR r with | some a, some b, some c => some (a, b, c) | _, _, _ => none := by
  unfold readVecR
  rw [h]
  simp only [readAll]
  cases readR p <;> cases readR q <;> cases readR r <;> rfl

end Go.Proofs.YtmieiaakjiklfaaDoor
