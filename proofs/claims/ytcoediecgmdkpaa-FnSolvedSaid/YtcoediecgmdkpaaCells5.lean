/-
  Cells of the call's own, three or nine. Conditions: none.
-/
import Derived.Test.YtcoediecgmdkpaaKept
namespace Go.Proofs.Ytcoediecgmdkpaa
open Go.RowKit

def nineV (b : Nat → Nat) : Array Value := #[.float .f32 (b 0), .float .f32 (b 1), .float .f32 (b 2), .float .f32 (b 3), .float .f32 (b 4), .float .f32 (b 5), .float .f32 (b 6), .float .f32 (b 7), .float .f32 (b 8)]
def vecV (a b c : Nat) : Value := .agg #[.float .f32 a, .float .f32 b, .float .f32 c]
theorem nine_at (b : Nat → Nat) (i : Nat) (h : i < 9) : (nineV b)[i]? = some (.float .f32 (b i)) := by
  have : i = 0 ∨ i = 1 ∨ i = 2 ∨ i = 3 ∨ i = 4 ∨ i = 5 ∨ i = 6 ∨ i = 7 ∨ i = 8 := by omega
  rcases this with rfl | rfl | rfl | rfl | rfl | rfl | rfl | rfl | rfl <;> rfl

theorem run_store_flt (P : Program) (w : World) (a : Addr) (b : Nat) : (store a (.float .f32 b)).run P w = stored P w a (.float .f32 b) .plain := run_store P w a _ _ rfl

/-- Three cells that may be written. -/
def Own3 (w : World) (b : Nat) : Prop := ∀ o, o < 3 → (∃ x, w.cell? ⟨b, o, none⟩ = some x) ∧ w.frozen? ⟨b, o, none⟩ = false

theorem Own3.lt {w : World} {b : Nat} (h : Own3 w b) : b < w.heap.size := by
  obtain ⟨⟨x, hx⟩, _⟩ := h 0 (by omega)
  exact World.block_lt_of_cell? _ _ hx
theorem own3_alloc (w : World) (T : TypeId) (x0 x1 x2 : Value) : Own3 (w.alloc (.cells #[x0, x1, x2] T)) w.heap.size := fun o ho => by
  refine ⟨?_, World.frozen?_alloc_new _ _ _ _⟩
  have : o = 0 ∨ o = 1 ∨ o = 2 := by omega
  rcases this with rfl | rfl | rfl <;> exact ⟨_, World.cell?_alloc_new ..⟩
theorem Own3.kept {w w' : World} {b : Nat} (h : Own3 w b) (k : Kept w w') : Own3 w' b := fun o ho => by
  obtain ⟨⟨x, h1⟩, h2⟩ := h o ho
  exact ⟨⟨x, (k.cell (p := ⟨b, o, none⟩) h.lt).trans h1⟩, (k.frozen (p := ⟨b, o, none⟩) h.lt).trans h2⟩

theorem store_ok {P : Program} {w : World} {b o : Nat} {x : Value} (h1 : w.cell? ⟨b, o, none⟩ = some x) (h2 : w.frozen? ⟨b, o, none⟩ = false) (a : Nat) :
    (store ⟨b, o, none⟩ (.float .f32 a)).run P w = .ok () (w.setCell ⟨b, o, none⟩ (.float .f32 a)) := by
  rw [run_store_flt]
  unfold stored
  rw [h1, h2]
  rfl

theorem frozen_setCell (w : World) (p a : Addr) (v : Value) : (w.setCell p v).frozen? a = w.frozen? a := by simp

/-- Three stores. -/
theorem store3 {P : Program} {w : World} {b : Nat} (h : Own3 w b) (a0 a1 a2 : Nat) : ∃ wa wb wc : World,
    (store ⟨b, 0, none⟩ (.float .f32 a0)).run P w = .ok () wa ∧ (store ⟨b, 1, none⟩ (.float .f32 a1)).run P wa = .ok () wb ∧ (store ⟨b, 2, none⟩ (.float .f32 a2)).run P wb = .ok () wc ∧
    wc.cell? ⟨b, 0, none⟩ = some (.float .f32 a0) ∧ wc.cell? ⟨b, 1, none⟩ = some (.float .f32 a1) ∧ wc.cell? ⟨b, 2, none⟩ = some (.float .f32 a2) ∧
    (∀ u : World, u.heap.size ≤ b → Kept u w → Kept u wc) ∧ w.heap.size = wc.heap.size ∧ (∀ k, k ≠ b → wc.heap[k]? = w.heap[k]?) ∧ Own3 wc b ∧ (∀ u : World, u.heap.size ≤ b → Below u.heap.size u w → Below u.heap.size u wc) := by
  obtain ⟨⟨x0, c0⟩, f0⟩ := h 0 (by omega)
  obtain ⟨⟨x1, c1⟩, f1⟩ := h 1 (by omega)
  obtain ⟨⟨x2, c2⟩, f2⟩ := h 2 (by omega)
  have d1 : (w.setCell ⟨b, 0, none⟩ (.float .f32 a0)).cell? ⟨b, 1, none⟩ = some x1 := by rw [World.cell?_setCell_other _ _ _ _ (by simp)]; exact c1
  have d2 : ((w.setCell ⟨b, 0, none⟩ (.float .f32 a0)).setCell ⟨b, 1, none⟩ (.float .f32 a1)).cell? ⟨b, 2, none⟩ = some x2 := by
    rw [World.cell?_setCell_other _ _ _ _ (by simp), World.cell?_setCell_other _ _ _ _ (by simp)]; exact c2
  have e0 : (w.setCell ⟨b, 0, none⟩ (.float .f32 a0)).cell? ⟨b, 0, none⟩ = some (.float .f32 a0) := World.cell?_setCell_same _ _ _ c0
  have e1 : ((w.setCell ⟨b, 0, none⟩ (.float .f32 a0)).setCell ⟨b, 1, none⟩ (.float .f32 a1)).cell? ⟨b, 1, none⟩ = some (.float .f32 a1) := World.cell?_setCell_same _ _ _ d1
  have r0 : (((w.setCell ⟨b, 0, none⟩ (.float .f32 a0)).setCell ⟨b, 1, none⟩ (.float .f32 a1)).setCell ⟨b, 2, none⟩ (.float .f32 a2)).cell? ⟨b, 0, none⟩ = some (.float .f32 a0) := by
    rw [World.cell?_setCell_other _ _ _ _ (by simp), World.cell?_setCell_other _ _ _ _ (by simp)]; exact e0
  have r1 : (((w.setCell ⟨b, 0, none⟩ (.float .f32 a0)).setCell ⟨b, 1, none⟩ (.float .f32 a1)).setCell ⟨b, 2, none⟩ (.float .f32 a2)).cell? ⟨b, 1, none⟩ = some (.float .f32 a1) := by
    rw [World.cell?_setCell_other _ _ _ _ (by simp)]; exact e1
  have r2 : (((w.setCell ⟨b, 0, none⟩ (.float .f32 a0)).setCell ⟨b, 1, none⟩ (.float .f32 a1)).setCell ⟨b, 2, none⟩ (.float .f32 a2)).cell? ⟨b, 2, none⟩ = some (.float .f32 a2) := World.cell?_setCell_same _ _ _ d2
  refine ⟨_, _, _, store_ok c0 f0 a0, store_ok d1 (by rw [frozen_setCell]; exact f1) a1, store_ok d2 (by rw [frozen_setCell, frozen_setCell]; exact f2) a2, r0, r1, r2, ?_, ?_, ?_, ?_, ?_⟩
  · intro u hu k
    exact ((k.setCell (p := ⟨b, 0, none⟩) hu _).setCell (p := ⟨b, 1, none⟩) hu _).setCell (p := ⟨b, 2, none⟩) hu _
  · simp [World.setCell]
  · intro k hk
    rw [Below.heap_setCell _ _ _ _ hk, Below.heap_setCell _ _ _ _ hk, Below.heap_setCell _ _ _ _ hk]
  · intro o ho
    have : o = 0 ∨ o = 1 ∨ o = 2 := by omega
    rw [frozen_setCell, frozen_setCell, frozen_setCell]
    rcases this with rfl | rfl | rfl
    · exact ⟨⟨_, r0⟩, f0⟩
    · exact ⟨⟨_, r1⟩, f1⟩
    · exact ⟨⟨_, r2⟩, f2⟩
  · intro u hu k
    exact ((k.setCell (p := ⟨b, 0, none⟩) hu _).setCell (p := ⟨b, 1, none⟩) hu _).setCell (p := ⟨b, 2, none⟩) hu _
/-- Only block b has turned. -/
structure Mod (b : Nat) (w w' : World) : Prop where
  os : w'.os = w.os
  output : w'.output = w.output
  size : w'.heap.size = w.heap.size
  block : ∀ k, k ≠ b → w'.heap[k]? = w.heap[k]?
  froz : ∀ o, w'.frozen? ⟨b, o, none⟩ = w.frozen? ⟨b, o, none⟩

theorem Mod.trans {b : Nat} {u v w : World} (h : Mod b u v) (k : Mod b v w) : Mod b u w :=
  ⟨k.os.trans h.os, k.output.trans h.output, k.size.trans h.size, fun i hi => (k.block i hi).trans (h.block i hi), fun o => (k.froz o).trans (h.froz o)⟩

theorem Kept.mod {b : Nat} {u w w' : World} (k : Kept u w) (h : Mod b w w') (hb : u.heap.size ≤ b) : Kept u w' :=
  ⟨h.os.trans k.os, h.output.trans k.output, by rw [h.size]; exact k.size, fun i hi => (h.block i (by omega)).trans (k.block i hi)⟩

/-- n cells that may be written. -/
def OwnN (w : World) (b n : Nat) : Prop := ∀ o, o < n → (∃ x, w.cell? ⟨b, o, none⟩ = some x) ∧ w.frozen? ⟨b, o, none⟩ = false

theorem OwnN.lt {w : World} {b n : Nat} (h : OwnN w b n) (hn : 0 < n) : b < w.heap.size := by
  obtain ⟨⟨x, hx⟩, _⟩ := h 0 hn
  exact World.block_lt_of_cell? _ _ hx
theorem OwnN.same {w w' : World} {b n : Nat} (h : OwnN w b n) (hb : w'.heap[b]? = w.heap[b]?) : OwnN w' b n := fun o ho => by
  obtain ⟨⟨x, h1⟩, h2⟩ := h o ho
  exact ⟨⟨x, (World.cell?_of_block (w := w) (a := ⟨b, o, none⟩) hb).trans h1⟩, (World.frozen?_of_block (w := w) (a := ⟨b, o, none⟩) hb).trans h2⟩
theorem OwnN.kept {w w' : World} {b n : Nat} (h : OwnN w b n) (k : Kept w w') (hn : 0 < n) : OwnN w' b n := h.same (k.block b (h.lt hn))

theorem own9_alloc (w : World) (T : TypeId) (b : Nat → Nat) : OwnN (w.alloc (.cells (nineV b) T)) w.heap.size 9 := fun o ho => by
  refine ⟨⟨_, by rw [World.cell?_alloc_new, nine_at b o ho]⟩, World.frozen?_alloc_new _ _ _ _⟩

theorem step1 (P : Program) {w : World} {b n : Nat} (h : OwnN w b n) {o : Nat} (ho : o < n) (a : Nat) : ∃ w', (store ⟨b, o, none⟩ (.float .f32 a)).run P w = .ok () w' ∧ OwnN w' b n ∧ w'.cell? ⟨b, o, none⟩ = some (.float .f32 a) ∧
    (∀ o', o' ≠ o → w'.cell? ⟨b, o', none⟩ = w.cell? ⟨b, o', none⟩) ∧ Mod b w w' := by
  obtain ⟨⟨x, h1⟩, h2⟩ := h o ho
  refine ⟨_, store_ok h1 h2 a, fun o' ho' => ?_, World.cell?_setCell_same _ _ _ h1, fun o' hne => ?_, ⟨rfl, rfl, by simp [World.setCell], fun k hk => Below.heap_setCell _ _ _ _ hk, fun o' => frozen_setCell _ _ _ _⟩⟩
  · obtain ⟨⟨y, h3⟩, h4⟩ := h o' ho'
    rw [frozen_setCell]
    refine ⟨?_, h4⟩
    by_cases e : o' = o
    · subst e; exact ⟨_, World.cell?_setCell_same _ _ _ h1⟩
    · exact ⟨y, by rw [World.cell?_setCell_other _ _ _ _ (by first | (simp; done) | (simp; omega))]; exact h3⟩
  · exact World.cell?_setCell_other _ _ _ _ (by first | (simp; done) | (simp; omega))

/-- Three stores, at three places. -/
theorem step3 (P : Program) {w : World} {b n : Nat} (h : OwnN w b n) {o0 o1 o2 : Nat} (h0 : o0 < n) (h1 : o1 < n) (h2 : o2 < n) (h01 : o0 ≠ o1) (h02 : o0 ≠ o2) (h12 : o1 ≠ o2) (a0 a1 a2 : Nat) : ∃ wa wb wc : World,
    (store ⟨b, o0, none⟩ (.float .f32 a0)).run P w = .ok () wa ∧ (store ⟨b, o1, none⟩ (.float .f32 a1)).run P wa = .ok () wb ∧ (store ⟨b, o2, none⟩ (.float .f32 a2)).run P wb = .ok () wc ∧
    OwnN wc b n ∧ wc.cell? ⟨b, o0, none⟩ = some (.float .f32 a0) ∧ wc.cell? ⟨b, o1, none⟩ = some (.float .f32 a1) ∧ wc.cell? ⟨b, o2, none⟩ = some (.float .f32 a2) ∧
    (∀ o', o' ≠ o0 → o' ≠ o1 → o' ≠ o2 → wc.cell? ⟨b, o', none⟩ = w.cell? ⟨b, o', none⟩) ∧ Mod b w wc := by
  obtain ⟨wa, s0, own0, c0, r0, m0⟩ := step1 P h h0 a0
  obtain ⟨wb, s1, own1, c1, r1, m1⟩ := step1 P own0 h1 a1
  obtain ⟨wc, s2, own2, c2, r2, m2⟩ := step1 P own1 h2 a2
  exact ⟨wa, wb, wc, s0, s1, s2, own2, by rw [r2 _ h02, r1 _ h01]; exact c0, by rw [r2 _ h12]; exact c1, c2, fun o' e0 e1 e2 => by rw [r2 _ e2, r1 _ e1, r0 _ e0], (m0.trans m1).trans m2⟩

/-- Nine stores. -/
theorem store9 (P : Program) {w : World} {b : Nat} (h : OwnN w b 9) (a : Nat → Nat) : ∃ w1 w2 w3 w4 w5 w6 w7 w8 w9 : World,
    (store ⟨b, 0, none⟩ (.float .f32 (a 0))).run P w = .ok () w1 ∧ (store ⟨b, 1, none⟩ (.float .f32 (a 1))).run P w1 = .ok () w2 ∧ (store ⟨b, 2, none⟩ (.float .f32 (a 2))).run P w2 = .ok () w3 ∧
    (store ⟨b, 3, none⟩ (.float .f32 (a 3))).run P w3 = .ok () w4 ∧ (store ⟨b, 4, none⟩ (.float .f32 (a 4))).run P w4 = .ok () w5 ∧ (store ⟨b, 5, none⟩ (.float .f32 (a 5))).run P w5 = .ok () w6 ∧
    (store ⟨b, 6, none⟩ (.float .f32 (a 6))).run P w6 = .ok () w7 ∧ (store ⟨b, 7, none⟩ (.float .f32 (a 7))).run P w7 = .ok () w8 ∧ (store ⟨b, 8, none⟩ (.float .f32 (a 8))).run P w8 = .ok () w9 ∧
    (∀ i, i < 9 → w9.cell? ⟨b, i, none⟩ = some (.float .f32 (a i))) ∧ Mod b w w9 := by
  obtain ⟨w1, w2, w3, s0, s1, s2, o1, c0, c1, c2, _, m1⟩ := step3 P h (o0 := 0) (o1 := 1) (o2 := 2) (by omega) (by omega) (by omega) (by omega) (by omega) (by omega) (a 0) (a 1) (a 2)
  obtain ⟨w4, w5, w6, s3, s4, s5, o2, c3, c4, c5, r2, m2⟩ := step3 P o1 (o0 := 3) (o1 := 4) (o2 := 5) (by omega) (by omega) (by omega) (by omega) (by omega) (by omega) (a 3) (a 4) (a 5)
  obtain ⟨w7, w8, w9, s6, s7, s8, o3, c6, c7, c8, r3, m3⟩ := step3 P o2 (o0 := 6) (o1 := 7) (o2 := 8) (by omega) (by omega) (by omega) (by omega) (by omega) (by omega) (a 6) (a 7) (a 8)
  refine ⟨w1, w2, w3, w4, w5, w6, w7, w8, w9, s0, s1, s2, s3, s4, s5, s6, s7, s8, fun i hi => ?_, (m1.trans m2).trans m3⟩
  have : i = 0 ∨ i = 1 ∨ i = 2 ∨ i = 3 ∨ i = 4 ∨ i = 5 ∨ i = 6 ∨ i = 7 ∨ i = 8 := by omega
  rcases this with rfl | rfl | rfl | rfl | rfl | rfl | rfl | rfl | rfl
  · rw [r3 _ (by omega) (by omega) (by omega), r2 _ (by omega) (by omega) (by omega)]; exact c0
  · rw [r3 _ (by omega) (by omega) (by omega), r2 _ (by omega) (by omega) (by omega)]; exact c1
  · rw [r3 _ (by omega) (by omega) (by omega), r2 _ (by omega) (by omega) (by omega)]; exact c2
  · rw [r3 _ (by omega) (by omega) (by omega)]; exact c3
  · rw [r3 _ (by omega) (by omega) (by omega)]; exact c4
  · rw [r3 _ (by omega) (by omega) (by omega)]; exact c5
  · exact c6
  · exact c7
  · exact c8
end Go.Proofs.Ytcoediecgmdkpaa
