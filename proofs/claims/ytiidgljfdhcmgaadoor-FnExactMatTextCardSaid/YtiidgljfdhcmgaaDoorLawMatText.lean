/-
  The law 'FnExactMatText': its walk. Conditions: the table of trailing zeros holds 4 at place 15.
-/
import Derived.Test.YtiidgljfdhcmgaaDoorMatText
namespace Go.Proofs.YtiidgljfdhcmgaaDoor
open Go.RowKit

set_option maxHeartbeats 1000000 in
set_option maxRecDepth 100000 in
theorem law_mat (a : Nat → Nat) (ha : ∀ i, i < 9 → txt (a i) < 4294967296) (w : World) (hc : w.cell? ⟨6, 15, none⟩ = some (.int .u8 4)) :
    Calls Tryd.prog 6 #[.agg #[.float .f32 (a 0), .float .f32 (a 1), .float .f32 (a 2), .float .f32 (a 3), .float .f32 (a 4), .float .f32 (a 5), .float .f32 (a 6), .float .f32 (a 7), .float .f32 (a 8)]] w fun e w' => e = .returned (.bool true) ∧ Kept w w' := by
  have hg := World.block_lt_of_cell? _ _ hc
  have HC := Lib.hid hc
  have HA := Lib.hid ha
  clear hc ha
  have hT : ∀ W, Calls Tryd.prog 18 #[.agg #[.float .f32 (a 0), .float .f32 (a 1), .float .f32 (a 2), .float .f32 (a 3), .float .f32 (a 4), .float .f32 (a 5), .float .f32 (a 6), .float .f32 (a 7), .float .f32 (a 8)]] W fun e w' =>
    (∃ b : Nat → Nat, e = .returned (.agg #[.float .f32 (b 0), .float .f32 (b 1), .float .f32 (b 2), .float .f32 (b 3), .float .f32 (b 4), .float .f32 (b 5), .float .f32 (b 6), .float .f32 (b 7), .float .f32 (b 8)]) ∧ ∀ i, i < 9 → txt (b i) = txt (a i)) ∧ Kept W w' := to_mat a
  have HTT := Lib.hid hT
  clear hT
  go_enter Tryd.func6, Tryd.ntmps6
  go_wp2_with fail
  refine (HTT.out _).mono ?_
  rintro e w1 ⟨⟨b1, rfl, hb1⟩, hk1⟩
  have hS := spec_mat b1 (fun i hi => by rw [hb1 i hi]; exact HA.out i hi) w1
  rw [matT_congr hb1] at hS
  obtain ⟨x, hx⟩ : ∃ x : ByteArray, x = ⟨(matT a 3).toArray⟩ := ⟨_, rfl⟩
  rw [← hx] at hS
  have HX := Lib.hid hx
  have HK1 := Lib.hid hk1
  clear hx hk1 hb1
  go_wp2_with fail
  refine hS.mono ?_
  rintro e w2 ⟨rfl, hb2⟩
  have hk2 := HK1.out.trans (kept_below hb2)
  have hs2 := hk2.size
  have e0 : w2.cell? ⟨w.heap.size, 0, none⟩ = some (.float .f32 (a 0)) := by rw [hk2.cell (p := ⟨w.heap.size, 0, none⟩) (by simp), World.cell?_alloc_new]; rfl
  have e1 : w2.cell? ⟨w.heap.size, 1, none⟩ = some (.float .f32 (a 1)) := by rw [hk2.cell (p := ⟨w.heap.size, 1, none⟩) (by simp), World.cell?_alloc_new]; rfl
  have e2 : w2.cell? ⟨w.heap.size, 2, none⟩ = some (.float .f32 (a 2)) := by rw [hk2.cell (p := ⟨w.heap.size, 2, none⟩) (by simp), World.cell?_alloc_new]; rfl
  have e3 : w2.cell? ⟨w.heap.size, 3, none⟩ = some (.float .f32 (a 3)) := by rw [hk2.cell (p := ⟨w.heap.size, 3, none⟩) (by simp), World.cell?_alloc_new]; rfl
  have e4 : w2.cell? ⟨w.heap.size, 4, none⟩ = some (.float .f32 (a 4)) := by rw [hk2.cell (p := ⟨w.heap.size, 4, none⟩) (by simp), World.cell?_alloc_new]; rfl
  have e5 : w2.cell? ⟨w.heap.size, 5, none⟩ = some (.float .f32 (a 5)) := by rw [hk2.cell (p := ⟨w.heap.size, 5, none⟩) (by simp), World.cell?_alloc_new]; rfl
  have e6 : w2.cell? ⟨w.heap.size, 6, none⟩ = some (.float .f32 (a 6)) := by rw [hk2.cell (p := ⟨w.heap.size, 6, none⟩) (by simp), World.cell?_alloc_new]; rfl
  have e7 : w2.cell? ⟨w.heap.size, 7, none⟩ = some (.float .f32 (a 7)) := by rw [hk2.cell (p := ⟨w.heap.size, 7, none⟩) (by simp), World.cell?_alloc_new]; rfl
  have e8 : w2.cell? ⟨w.heap.size, 8, none⟩ = some (.float .f32 (a 8)) := by rw [hk2.cell (p := ⟨w.heap.size, 8, none⟩) (by simp), World.cell?_alloc_new]; rfl
  have HK2 := Lib.hid hk2
  clear hS hb2 hk2 hs2
  go_wp2_with fail
  refine (HTT.out _).mono ?_
  rintro e w3 ⟨⟨b2, rfl, hb3⟩, hk3⟩
  have hk3' := HK2.out.trans hk3
  have hc3 : w3.cell? ⟨6, 15, none⟩ = some (.int .u8 4) := by
    rw [hk3'.cell (p := ⟨6, 15, none⟩) (by simp; omega), World.cell?_alloc_old _ _ _ (Nat.ne_of_lt hg)]; exact HC.out
  have hI := impl_mat b2 (fun i hi => by rw [hb3 i hi]; exact HA.out i hi) w3 hc3
  rw [matT_congr hb3, ← HX.out] at hI
  have HK3 := Lib.hid hk3'
  clear hc3 hk3 hk3' hb3 e0 e1 e2 e3 e4 e5 e6 e7 e8
  go_wp2_with fail
  refine hI.mono ?_
  rintro e w4 ⟨rfl, hb4⟩
  clear hI
  go_wp2
  go_ret
  exact ⟨rfl, ((Kept.refl w).alloc _).trans (HK3.out.trans (kept_below hb4))⟩
end Go.Proofs.YtiidgljfdhcmgaaDoor
