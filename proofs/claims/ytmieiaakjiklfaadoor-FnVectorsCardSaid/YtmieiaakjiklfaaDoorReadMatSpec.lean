/-
  The reference reads a matrix. Conditions: the text is not too long.
-/
import Derived.Test.YtmieiaakjiklfaaDoorOwn9
namespace Go.Proofs.YtmieiaakjiklfaaDoor
open Go.RowKit Go.Lib

theorem readMatR_four {l p q r : List UInt8} (h : splitL 10 l = [p, q, r, []]) : readMatR l = joinM (readVecR p) (readVecR q) (readVecR r) := by
  unfold readMatR
  rw [h]
  simp only [if_true]

theorem readMatR_bad {l p q r s : List UInt8} (h : splitL 10 l = [p, q, r, s]) (hs : s ≠ []) : readMatR l = none := by
  unfold readMatR
  rw [h]
  simp only [if_neg hs]

theorem readMatR_len {l : List UInt8} (h : (splitL 10 l).length ≠ 4) : readMatR l = none := by
  unfold readMatR
  split
  · rename_i h'; rw [h'] at h; exact absurd rfl h
  · rfl

theorem readMatR_row {l p q r x : List UInt8} {k : Nat} (h : splitL 10 l = [p, q, r, []]) (hk : k < 3) (hx : [p, q, r, ([] : List UInt8)][k]? = some x) (hr : readVecR x = none) : readMatR l = none := by
  rw [readMatR_four h]
  have hk' : k = 0 ∨ k = 1 ∨ k = 2 := by omega
  rcases hk' with rfl | rfl | rfl <;> simp at hx <;> subst hx <;> rw [hr]
  · cases readVecR q <;> cases readVecR r <;> rfl
  · cases readVecR p <;> cases readVecR r <;> rfl
  · cases readVecR p <;> cases readVecR q <;> rfl

/-- The state of the loop: the first rows lie in block B. -/
structure RowsIn (w : World) (g B k : Nat) (ps : List (List UInt8)) (wr : World) : Prop where
  kept : Kept w wr
  own2 : OwnN wr w.heap.size 9
  ownB : OwnN wr B 9
  row : StrRow wr g ps
  lt : g < wr.heap.size
  done : ∀ j x, j < k → ps[j]? = some x → ∃ a b c, readVecR x = some (a, b, c) ∧ wr.cell? ⟨B, 3 * j, none⟩ = some (.float .f32 a) ∧ wr.cell? ⟨B, 3 * j + 1, none⟩ = some (.float .f32 b) ∧ wr.cell? ⟨B, 3 * j + 2, none⟩ = some (.float .f32 c)

theorem RowsIn.keep {w : World} {g B k : Nat} {ps : List (List UInt8)} {wr wr' : World} (h : RowsIn w g B k ps wr) (hk : Kept wr wr') : RowsIn w g B k ps wr' := by
  have hB := h.ownB.lt (by omega)
  refine ⟨h.kept.trans hk, h.own2.kept hk (by omega), h.ownB.kept hk (by omega), fun j p hp => (hk.cell (p := ⟨g, j, none⟩) h.lt).trans (h.row j p hp), Nat.lt_of_lt_of_le h.lt hk.size, fun j x hj hx => ?_⟩
  obtain ⟨a, b, c, h1, h2, h3, h4⟩ := h.done j x hj hx
  exact ⟨a, b, c, h1, (hk.cell (p := ⟨B, _, none⟩) hB).trans h2, (hk.cell (p := ⟨B, _, none⟩) hB).trans h3, (hk.cell (p := ⟨B, _, none⟩) hB).trans h4⟩

/-- One more row laid. -/
theorem RowsIn.next {w : World} {g B k : Nat} {ps : List (List UInt8)} {wr wr' : World} (h : RowsIn w g B k ps wr) (hm : Mod B wr wr') (hown : OwnN wr' B 9) (hg : g ≠ B) (h2 : w.heap.size ≠ B) (hw : w.heap.size ≤ B)
    {x : List UInt8} (hx : ps[k]? = some x) {a b c : Nat} (hr : readVecR x = some (a, b, c)) (c0 : wr'.cell? ⟨B, 3 * k, none⟩ = some (.float .f32 a)) (c1 : wr'.cell? ⟨B, 3 * k + 1, none⟩ = some (.float .f32 b)) (c2 : wr'.cell? ⟨B, 3 * k + 2, none⟩ = some (.float .f32 c))
    (hrest : ∀ o, o < 3 * k → wr'.cell? ⟨B, o, none⟩ = wr.cell? ⟨B, o, none⟩) : RowsIn w g B (k + 1) ps wr' := by
  refine ⟨h.kept.mod hm hw, h.own2.same (hm.block _ h2), hown, fun j p hp => ?_, by rw [hm.size]; exact h.lt, fun j y hj hy => ?_⟩
  · exact (World.cell?_of_block (w := wr) (a := ⟨g, j, none⟩) (hm.block g hg)).trans (h.row j p hp)
  · by_cases e : j = k
    · subst e
      rw [hx] at hy; cases hy
      exact ⟨a, b, c, hr, c0, c1, c2⟩
    · obtain ⟨a', b', c', h1, d0, d1, d2⟩ := h.done j y (by omega) hy
      exact ⟨a', b', c', h1, by rw [hrest _ (by omega)]; exact d0, by rw [hrest _ (by omega)]; exact d1, by rw [hrest _ (by omega)]; exact d2⟩

/-- All three rows. -/
theorem RowsIn.all {w : World} {g B : Nat} {l p q r s : List UInt8} {wr : World} (h : RowsIn w g B 3 [p, q, r, s] wr) (hs : splitL 10 l = [p, q, r, []]) : ∃ a : Nat → Nat, readMatR l = some a ∧ ∀ i, i < 9 → wr.cell? ⟨B, i, none⟩ = some (.float .f32 (a i)) := by
  obtain ⟨a0, a1, a2, h0, x0, x1, x2⟩ := h.done 0 p (by omega) rfl
  obtain ⟨b0, b1, b2, h1, y0, y1, y2⟩ := h.done 1 q (by omega) rfl
  obtain ⟨c0, c1, c2, h2, z0, z1, z2⟩ := h.done 2 r (by omega) rfl
  refine ⟨_, by rw [readMatR_four hs, h0, h1, h2]; rfl, fun i hi => ?_⟩
  have : i = 0 ∨ i = 1 ∨ i = 2 ∨ i = 3 ∨ i = 4 ∨ i = 5 ∨ i = 6 ∨ i = 7 ∨ i = 8 := by omega
  rcases this with rfl | rfl | rfl | rfl | rfl | rfl | rfl | rfl | rfl
  · exact x0
  · exact x1
  · exact x2
  · exact y0
  · exact y1
  · exact y2
  · exact z0
  · exact z1
  · exact z2

def zero9 : Array Value := nineV fun _ => 0

end Go.Proofs.YtmieiaakjiklfaaDoor
