/-
  The law 'FnExactVecText': its walk. Conditions: the table of trailing zeros holds 4 at place 15.
-/
import Derived.Test.YtiidgljfdhcmgaaDoorNumsText
import Derived.Test.YtiidgljfdhcmgaaDoorKept
namespace Go.Proofs.YtiidgljfdhcmgaaDoor
open Go.RowKit

theorem three_box (w : World) (T : TypeId) (b : Nat → Nat) (h : ∀ i, i < 3 → txt (b i) < 4294967296) : Three (w.alloc (.cells #[.float .f32 (b 0), .float .f32 (b 1), .float .f32 (b 2)] T)) w.heap.size 0 b := fun j hj => by
  refine ⟨?_, h j hj⟩
  rw [World.cell?_alloc_new]
  have : j = 0 ∨ j = 1 ∨ j = 2 := by omega
  rcases this with rfl | rfl | rfl <;> rfl

set_option maxRecDepth 100000 in
theorem spec_vec (b : Nat → Nat) (h : ∀ i, i < 3 → txt (b i) < 4294967296) (w : World) :
    Calls Tryd.prog 14 #[.agg #[.float .f32 (b 0), .float .f32 (b 1), .float .f32 (b 2)]] w fun e w' => e = .returned (.string ⟨(rowT b 3).toArray⟩) ∧ Below w.heap.size w w' := by
  have H := l01row b w.heap.size 0 3 _ (three_box w 29 b h)
  obtain ⟨x, hx⟩ : ∃ x : ByteArray, x = ⟨(rowT b 3).toArray⟩ := ⟨_, rfl⟩
  rw [← hx] at H
  have HX := Lib.hid hx
  clear h hx
  go_enter Tryd.func14, Tryd.ntmps14
  go_wp2_with (go_at_call 35; refine H.mono ?_; rintro e w1 ⟨rfl, hb⟩)
  go_ret
  exact ⟨congrArg (fun z => Ending.returned (.string z)) HX.out, ((Below.refl _ _).alloc (Nat.le_refl _) _).trans (hb.mono (by simp))⟩

set_option maxRecDepth 100000 in
theorem impl_vec (b : Nat → Nat) (h : ∀ i, i < 3 → txt (b i) < 4294967296) (w : World) (hc : w.cell? ⟨6, 15, none⟩ = some (.int .u8 4)) :
    Calls Tryd.prog 16 #[.agg #[.float .f32 (b 0), .float .f32 (b 1), .float .f32 (b 2)]] w fun e w' => e = .returned (.string ⟨(rowT b 3).toArray⟩) ∧ Below w.heap.size w w' := by
  have hg := World.block_lt_of_cell? _ _ hc
  have H := nums_text b w.heap.size 0 3 _ (three_box w 29 b h) (by rw [World.cell?_alloc_old _ _ _ (Nat.ne_of_lt hg)]; exact hc)
  obtain ⟨x, hx⟩ : ∃ x : ByteArray, x = ⟨(rowT b 3).toArray⟩ := ⟨_, rfl⟩
  rw [← hx] at H
  have HX := Lib.hid hx
  clear h hx hc
  go_enter Tryd.func16, Tryd.ntmps16
  go_wp2_with (go_at_call 36; refine H.mono ?_; rintro e w1 ⟨rfl, hb⟩)
  go_ret
  exact ⟨congrArg (fun z => Ending.returned (.string z)) HX.out, ((Below.refl _ _).alloc (Nat.le_refl _) _).trans (hb.mono (by simp))⟩

theorem rowT_congr {a b : Nat → Nat} {n : Nat} (h : ∀ i, i < n → txt (b i) = txt (a i)) : ∀ k, k ≤ n → rowT b k = rowT a k
  | 0, _ => rfl
  | k + 1, hk => by simp only [rowT, rowT_congr h k (by omega), h k (by omega)]

set_option maxHeartbeats 1000000 in
set_option maxRecDepth 100000 in
theorem law_vec (a : Nat → Nat) (ha : ∀ i, i < 3 → txt (a i) < 4294967296) (w : World) (hc : w.cell? ⟨6, 15, none⟩ = some (.int .u8 4)) :
    Calls Tryd.prog 5 #[.agg #[.float .f32 (a 0), .float .f32 (a 1), .float .f32 (a 2)]] w fun e w' => e = .returned (.bool true) ∧ Kept w w' := by
  have hg := World.block_lt_of_cell? _ _ hc
  have HC := Lib.hid hc
  have HA := Lib.hid ha
  clear hc ha
  have hT : ∀ W, Calls Tryd.prog 15 #[.agg #[.float .f32 (a 0), .float .f32 (a 1), .float .f32 (a 2)]] W fun e w' =>
    (∃ b : Nat → Nat, e = .returned (.agg #[.float .f32 (b 0), .float .f32 (b 1), .float .f32 (b 2)]) ∧ ∀ i, i < 3 → txt (b i) = txt (a i)) ∧ Kept W w' := to_vec a
  have HTT := Lib.hid hT
  clear hT
  go_enter Tryd.func5, Tryd.ntmps5
  go_wp2_with fail
  refine (HTT.out _).mono ?_
  rintro e w1 ⟨⟨b1, rfl, hb1⟩, hk1⟩
  have hS := spec_vec b1 (fun i hi => by rw [hb1 i hi]; exact HA.out i hi) w1
  rw [rowT_congr hb1 3 (Nat.le_refl _)] at hS
  obtain ⟨x, hx⟩ : ∃ x : ByteArray, x = ⟨(rowT a 3).toArray⟩ := ⟨_, rfl⟩
  rw [← hx] at hS
  have HX := Lib.hid hx
  have HK1 := Lib.hid hk1
  clear hx hk1 hb1
  go_wp2_with fail
  refine hS.mono ?_
  rintro e w2 ⟨rfl, hb2⟩
  have hk2 := HK1.out.trans (kept_below hb2)
  have hs2 := hk2.size
  have e0 : w2.cell? ⟨w.heap.size, 0, none⟩ = some (.float .f32 (a 0)) := by rw [hk2.cell (p := ⟨w.heap.size, 0, none⟩) (by simp), World.cell?_alloc_new]; rfl
  have e1 : w2.cell? ⟨w.heap.size, 1, none⟩ = some (.float .f32 (a 1)) := by rw [hk2.cell (p := ⟨w.heap.size, 1, none⟩) (by simp), World.cell?_alloc_new]; rfl
  have e2 : w2.cell? ⟨w.heap.size, 2, none⟩ = some (.float .f32 (a 2)) := by rw [hk2.cell (p := ⟨w.heap.size, 2, none⟩) (by simp), World.cell?_alloc_new]; rfl
  have HK2 := Lib.hid hk2
  clear hS hb2 hk2 hs2
  go_wp2_with fail
  refine (HTT.out _).mono ?_
  rintro e w3 ⟨⟨b2, rfl, hb3⟩, hk3⟩
  have hk3' := HK2.out.trans hk3
  have hc3 : w3.cell? ⟨6, 15, none⟩ = some (.int .u8 4) := by
    rw [hk3'.cell (p := ⟨6, 15, none⟩) (by simp; omega), World.cell?_alloc_old _ _ _ (Nat.ne_of_lt hg)]; exact HC.out
  have hI := impl_vec b2 (fun i hi => by rw [hb3 i hi]; exact HA.out i hi) w3 hc3
  rw [rowT_congr hb3 3 (Nat.le_refl _), ← HX.out] at hI
  have HK3 := Lib.hid hk3'
  clear hc3 hk3 hk3' hb3 e0 e1 e2
  go_wp2_with fail
  refine hI.mono ?_
  rintro e w4 ⟨rfl, hb4⟩
  clear hI
  go_wp2
  go_ret
  exact ⟨rfl, ((Kept.refl w).alloc _).trans (HK3.out.trans (kept_below hb4))⟩
end Go.Proofs.YtiidgljfdhcmgaaDoor
