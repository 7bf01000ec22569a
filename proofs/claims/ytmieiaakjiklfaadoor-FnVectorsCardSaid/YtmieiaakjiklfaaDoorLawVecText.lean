/-
  The law 'FnExactVecText': its walk. Conditions: the table of trailing zeros holds 4 at place 15.
-/
import Derived.Test.YtmieiaakjiklfaaDoorNumsText
import Derived.Test.YtmieiaakjiklfaaDoorKept
namespace Go.Proofs.YtmieiaakjiklfaaDoor
open Go.RowKit

theorem three_box (w : World) (T : TypeId) (b : Nat → Nat) (h : ∀ i, i < 3 → txt (b i) < 4294967296) : Three (w.alloc (.cells #[.float .f32 (b 0), .float .f32 (b 1), .float .f32 (b 2)] T)) w.heap.size 0 b := fun j hj => by
  refine ⟨?_, h j hj⟩
  rw [World.cell?_alloc_new]
  have : j = 0 ∨ j = 1 ∨ j = 2 := by omega
  rcases this with rfl | rfl | rfl <;> rfl

set_option maxRecDepth 100000 in
theorem impl_vec (b : Nat → Nat) (h : ∀ i, i < 3 → txt (b i) < 4294967296) (w : World) (hc : w.cell? ⟨8, 15, none⟩ = some (.int .u8 4)) :
    Calls Tryd.prog 36 #[.agg #[.float .f32 (b 0), .float .f32 (b 1), .float .f32 (b 2)]] w fun e w' => e = .returned (.string ⟨(rowT b 3).toArray⟩) ∧ Below w.heap.size w w' := by
  have hg := World.block_lt_of_cell? _ _ hc
  have H := nums_text b w.heap.size 0 3 _ (three_box w 29 b h) (by rw [World.cell?_alloc_old _ _ _ (Nat.ne_of_lt hg)]; exact hc)
  obtain ⟨x, hx⟩ : ∃ x : ByteArray, x = ⟨(rowT b 3).toArray⟩ := ⟨_, rfl⟩
  rw [← hx] at H
  have HX := Lib.hid hx
  clear h hx hc
  go_enter Tryd.func36, Tryd.ntmps36
  go_wp2_with (go_at_call 46; refine H.mono ?_; rintro e w1 ⟨rfl, hb⟩)
  go_ret
  exact ⟨congrArg (fun z => Ending.returned (.string z)) HX.out, ((Below.refl _ _).alloc (Nat.le_refl _) _).trans (hb.mono (by simp))⟩

theorem rowT_congr {a b : Nat → Nat} {n : Nat} (h : ∀ i, i < n → txt (b i) = txt (a i)) : ∀ k, k ≤ n → rowT b k = rowT a k
  | 0, _ => rfl
  | k + 1, hk => by simp only [rowT, rowT_congr h k (by omega), h k (by omega)]

end Go.Proofs.YtmieiaakjiklfaaDoor
