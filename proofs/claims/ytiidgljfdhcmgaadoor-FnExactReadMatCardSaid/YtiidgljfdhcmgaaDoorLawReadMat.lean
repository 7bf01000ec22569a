/-
  The law 'FnExactReadMat': its walk. Conditions: what the library's variables hold.
-/
import Derived.Test.YtiidgljfdhcmgaaDoorReadMat2
namespace Go.Proofs.YtiidgljfdhcmgaaDoor
open Go.RowKit Go.Sx

/-- One matrix and code for both. -/
theorem both_readmat (t : ByteArray) (ht : t.size ≤ 1048576) : ∃ (a : Nat → Nat) (k : Int),
    (∀ w, Calls Tryd.prog 26 #[.string t] w fun e w' => e = .returned (.tuple #[.agg (nineV a), .int .i64 k]) ∧ Kept w w') ∧
    (∀ w, LaidM w → Calls Tryd.prog 27 #[.string t] w fun e w' => e = .returned (.tuple #[.agg (nineV a), .int .i64 k]) ∧ Kept w w') := by
  cases hr : readMatR t.data.toList with
  | some a =>
    refine ⟨a, 0, fun w => (spec_readmat t w ht).mono fun e w' h => ?_, fun w hL => (impl_readmat t w ht hL).mono fun e w' h => ?_⟩
    all_goals (unfold matPost at h; rw [hr] at h; exact ⟨h.2, h.1⟩)
  | none =>
    refine ⟨fun _ => 0, 5, fun w => (spec_readmat t w ht).mono fun e w' h => ?_, fun w hL => (impl_readmat t w ht hL).mono fun e w' h => ?_⟩
    all_goals (unfold matPost at h; rw [hr] at h; exact ⟨h.2, h.1⟩)

set_option maxHeartbeats 4000000 in
set_option maxRecDepth 100000 in
theorem law_readmat (t : ByteArray) (w : World) (ht : t.size ≤ maxLen) (hL : LaidM w) : Calls Tryd.prog 9 #[.string t] w fun e w' => e = .returned (.bool true) ∧ Kept w w' := by
  unfold maxLen at ht
  by_cases hs : 1048576 < t.size
  · have hs' : (1048576 : Int) < t.size := by omega
    clear hs hL
    go_enter Tryd.func9, Tryd.ntmps9
    go_wp2
    go_ret
    exact ⟨rfl, Kept.refl _⟩
  · have hs' : t.size ≤ 1048576 := by omega
    obtain ⟨a, k, hS, hI⟩ := both_readmat t hs'
    have HL := Lib.hid hL
    have HS := Lib.hid hS
    have HI := Lib.hid hI
    clear hs hL hS hI ht
    go_enter Tryd.func9, Tryd.ntmps9
    go_wp2_with fail
    refine (HS.out _).mono ?_
    rintro e w1 ⟨rfl, hk1⟩
    unfold nineV
    have hsf := fun (W : World) (o b : Nat) => run_store_f32 Tryd.prog W ⟨w1.heap.size, o, none⟩ b
    have HK1 := Lib.hid (hk1.alloc (.cells (nineV a) 34))
    clear hk1
    go_wp2_with fail
    have HIW := HI.out _ (HL.out.kept HK1.out)
    unfold nineV at HIW
    refine HIW.mono ?_
    rintro e w2 ⟨rfl, hk2⟩
    have hlt : w1.heap.size < w2.heap.size := by have := hk2.size; simp at this; omega
    have e0 : w2.cell? ⟨w1.heap.size, 0, none⟩ = some (.float .f32 (a 0)) := by rw [hk2.cell (p := ⟨w1.heap.size, 0, none⟩) (by simp), World.cell?_alloc_new]; rfl
    have e1 : w2.cell? ⟨w1.heap.size, 1, none⟩ = some (.float .f32 (a 1)) := by rw [hk2.cell (p := ⟨w1.heap.size, 1, none⟩) (by simp), World.cell?_alloc_new]; rfl
    have e2 : w2.cell? ⟨w1.heap.size, 2, none⟩ = some (.float .f32 (a 2)) := by rw [hk2.cell (p := ⟨w1.heap.size, 2, none⟩) (by simp), World.cell?_alloc_new]; rfl
    have e3 : w2.cell? ⟨w1.heap.size, 3, none⟩ = some (.float .f32 (a 3)) := by rw [hk2.cell (p := ⟨w1.heap.size, 3, none⟩) (by simp), World.cell?_alloc_new]; rfl
    have e4 : w2.cell? ⟨w1.heap.size, 4, none⟩ = some (.float .f32 (a 4)) := by rw [hk2.cell (p := ⟨w1.heap.size, 4, none⟩) (by simp), World.cell?_alloc_new]; rfl
    have e5 : w2.cell? ⟨w1.heap.size, 5, none⟩ = some (.float .f32 (a 5)) := by rw [hk2.cell (p := ⟨w1.heap.size, 5, none⟩) (by simp), World.cell?_alloc_new]; rfl
    have e6 : w2.cell? ⟨w1.heap.size, 6, none⟩ = some (.float .f32 (a 6)) := by rw [hk2.cell (p := ⟨w1.heap.size, 6, none⟩) (by simp), World.cell?_alloc_new]; rfl
    have e7 : w2.cell? ⟨w1.heap.size, 7, none⟩ = some (.float .f32 (a 7)) := by rw [hk2.cell (p := ⟨w1.heap.size, 7, none⟩) (by simp), World.cell?_alloc_new]; rfl
    have e8 : w2.cell? ⟨w1.heap.size, 8, none⟩ = some (.float .f32 (a 8)) := by rw [hk2.cell (p := ⟨w1.heap.size, 8, none⟩) (by simp), World.cell?_alloc_new]; rfl
    have hsf2 := fun (W : World) (o b : Nat) => run_store_f32 Tryd.prog W ⟨w2.heap.size, o, none⟩ b
    have HK2 := Lib.hid ((HK1.out.trans hk2).alloc (.cells (nineV a) 34))
    have hE := eq_mat a
    unfold nineV at hE HK2
    have HE := Lib.hid hE
    clear hk2 hsf hE HIW
    go_wp2_with fail
    refine (HE.out _).mono ?_
    rintro e w4 ⟨rfl, hk4⟩
    clear e0 e1 e2 e3 e4 e5 e6 e7 e8 hsf2
    go_wp2
    go_ret
    exact ⟨rfl, HK2.out.trans hk4⟩
end Go.Proofs.YtiidgljfdhcmgaaDoor
