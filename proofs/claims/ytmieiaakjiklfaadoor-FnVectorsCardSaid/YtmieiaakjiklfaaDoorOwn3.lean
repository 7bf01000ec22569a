/-
  Three cells of the call's own, written at once. Conditions: none.
-/
import Derived.Test.YtmieiaakjiklfaaDoorKept
import Derived.Test.YtmieiaakjiklfaaDoorMatText
namespace Go.Proofs.YtmieiaakjiklfaaDoor
open Go.RowKit

theorem run_store_flt (P : Program) (w : World) (a : Addr) (b : Nat) : (store a (.float .f32 b)).run P w = stored P w a (.float .f32 b) .plain := run_store P w a _ _ rfl

/-- Three cells that may be written. -/
def Own3 (w : World) (b : Nat) : Prop := ∀ o, o < 3 → (∃ x, w.cell? ⟨b, o, none⟩ = some x) ∧ w.frozen? ⟨b, o, none⟩ = false

theorem Own3.lt {w : World} {b : Nat} (h : Own3 w b) : b < w.heap.size := by
  obtain ⟨⟨x, hx⟩, _⟩ := h 0 (by omega)
  exact World.block_lt_of_cell? _ _ hx
theorem own3_alloc (w : World) (T : TypeId) (x0 x1 x2 : Value) : Own3 (w.alloc (.cells #[x0, x1, x2] T)) w.heap.size := fun o ho => by
  refine ⟨?_, World.frozen?_alloc_new _ _ _ _⟩
  have : o = 0 ∨ o = 1 ∨ o = 2 := by omega
  rcases this with rfl | rfl | rfl <;> exact ⟨_, World.cell?_alloc_new ..⟩
theorem Own3.kept {w w' : World} {b : Nat} (h : Own3 w b) (k : Kept w w') : Own3 w' b := fun o ho => by
  obtain ⟨⟨x, h1⟩, h2⟩ := h o ho
  exact ⟨⟨x, (k.cell (p := ⟨b, o, none⟩) h.lt).trans h1⟩, (k.frozen (p := ⟨b, o, none⟩) h.lt).trans h2⟩

theorem store_ok {P : Program} {w : World} {b o : Nat} {x : Value} (h1 : w.cell? ⟨b, o, none⟩ = some x) (h2 : w.frozen? ⟨b, o, none⟩ = false) (a : Nat) :
    (store ⟨b, o, none⟩ (.float .f32 a)).run P w = .ok () (w.setCell ⟨b, o, none⟩ (.float .f32 a)) := by
  rw [run_store_flt]
  unfold stored
  rw [h1, h2]
  rfl

theorem frozen_setCell (w : World) (p a : Addr) (v : Value) : (w.setCell p v).frozen? a = w.frozen? a := by simp

/-- Three stores. -/
theorem store3 {P : Program} {w : World} {b : Nat} (h : Own3 w b) (a0 a1 a2 : Nat) : ∃ wa wb wc : World,
    (store ⟨b, 0, none⟩ (.float .f32 a0)).run P w = .ok () wa ∧ (store ⟨b, 1, none⟩ (.float .f32 a1)).run P wa = .ok () wb ∧ (store ⟨b, 2, none⟩ (.float .f32 a2)).run P wb = .ok () wc ∧
    wc.cell? ⟨b, 0, none⟩ = some (.float .f32 a0) ∧ wc.cell? ⟨b, 1, none⟩ = some (.float .f32 a1) ∧ wc.cell? ⟨b, 2, none⟩ = some (.float .f32 a2) ∧
    (∀ u : World, u.heap.size ≤ b → Kept u w → Kept u wc) ∧ w.heap.size = wc.heap.size ∧ (∀ k, k ≠ b → wc.heap[k]? = w.heap[k]?) ∧ Own3 wc b ∧ (∀ u : World, u.heap.size ≤ b → Below u.heap.size u w → Below u.heap.size u wc) := by
  obtain ⟨⟨x0, c0⟩, f0⟩ := h 0 (by omega)
  obtain ⟨⟨x1, c1⟩, f1⟩ := h 1 (by omega)
  obtain ⟨⟨x2, c2⟩, f2⟩ := h 2 (by omega)
  have d1 : (w.setCell ⟨b, 0, none⟩ (.float .f32 a0)).cell? ⟨b, 1, none⟩ = some x1 := by rw [World.cell?_setCell_other _ _ _ _ (by simp)]; exact c1
  have d2 : ((w.setCell ⟨b, 0, none⟩ (.float .f32 a0)).setCell ⟨b, 1, none⟩ (.float .f32 a1)).cell? ⟨b, 2, none⟩ = some x2 := by
    rw [World.cell?_setCell_other _ _ _ _ (by simp), World.cell?_setCell_other _ _ _ _ (by simp)]; exact c2
  have e0 : (w.setCell ⟨b, 0, none⟩ (.float .f32 a0)).cell? ⟨b, 0, none⟩ = some (.float .f32 a0) := World.cell?_setCell_same _ _ _ c0
  have e1 : ((w.setCell ⟨b, 0, none⟩ (.float .f32 a0)).setCell ⟨b, 1, none⟩ (.float .f32 a1)).cell? ⟨b, 1, none⟩ = some (.float .f32 a1) := World.cell?_setCell_same _ _ _ d1
  have r0 : (((w.setCell ⟨b, 0, none⟩ (.float .f32 a0)).setCell ⟨b, 1, none⟩ (.float .f32 a1)).setCell ⟨b, 2, none⟩ (.float .f32 a2)).cell? ⟨b, 0, none⟩ = some (.float .f32 a0) := by
    rw [World.cell?_setCell_other _ _ _ _ (by simp), World.cell?_setCell_other _ _ _ _ (by simp)]; exact e0
  have r1 : (((w.setCell ⟨b, 0, none⟩ (.float .f32 a0)).setCell ⟨b, 1, none⟩ (.float .f32 a1)).setCell ⟨b, 2, none⟩ (.float .f32 a2)).cell? ⟨b, 1, none⟩ = some (.float .f32 a1) := by
    rw [World.cell?_setCell_other _ _ _ _ (by simp)]; exact e1
  have r2 : (((w.setCell ⟨b, 0, none⟩ (.float .f32 a0)).setCell ⟨b, 1, none⟩ (.float .f32 a1)).setCell ⟨b, 2, none⟩ (.float .f32 a2)).cell? ⟨b, 2, none⟩ = some (.float .f32 a2) := World.cell?_setCell_same _ _ _ d2
  refine ⟨_, _, _, store_ok c0 f0 a0, store_ok d1 (by rw [frozen_setCell]; exact f1) a1, store_ok d2 (by rw [frozen_setCell, frozen_setCell]; exact f2) a2, r0, r1, r2, ?_, ?_, ?_, ?_, ?_⟩
  · intro u hu k
    exact ((k.setCell (p := ⟨b, 0, none⟩) hu _).setCell (p := ⟨b, 1, none⟩) hu _).setCell (p := ⟨b, 2, none⟩) hu _
  · simp [World.setCell]
  · intro k hk
    rw [Below.heap_setCell _ _ _ _ hk, Below.heap_setCell _ _ _ _ hk, Below.heap_setCell _ _ _ _ hk]
  · intro o ho
    have : o = 0 ∨ o = 1 ∨ o = 2 := by omega
    rw [frozen_setCell, frozen_setCell, frozen_setCell]
    rcases this with rfl | rfl | rfl
    · exact ⟨⟨_, r0⟩, f0⟩
    · exact ⟨⟨_, r1⟩, f1⟩
    · exact ⟨⟨_, r2⟩, f2⟩
  · intro u hu k
    exact ((k.setCell (p := ⟨b, 0, none⟩) hu _).setCell (p := ⟨b, 1, none⟩) hu _).setCell (p := ⟨b, 2, none⟩) hu _
end Go.Proofs.YtmieiaakjiklfaaDoor
