/-
  The program's ReadVec. Conditions: what the library's variables hold; the text is not too long.
-/
import Derived.Test.YtmieiaakjiklfaaDoorReadNums
namespace Go.Proofs.YtmieiaakjiklfaaDoor
open Go.RowKit

theorem Own3.touch {w w' : World} {b blk off : Nat} (h : Own3 w b) (k : Touch blk off w w') (hne : b ≠ blk) : Own3 w' b := fun o ho => by
  obtain ⟨⟨x, h1⟩, h2⟩ := h o ho
  have hb := k.block b h.lt hne
  exact ⟨⟨x, (World.cell?_of_block (w := w) (a := ⟨b, o, none⟩) hb).trans h1⟩, (World.frozen?_of_block (w := w) (a := ⟨b, o, none⟩) hb).trans h2⟩

theorem LaidM.lts {w : World} (h : LaidM w) {b : Nat} (hb : w.heap.size ≤ b) : 8 ≠ b ∧ 1 ≠ b ∧ 2 ≠ b := by
  have h1 := World.block_lt_of_cell? _ _ h.laid.tab
  obtain ⟨e2, h2, _⟩ := h.laid.syn
  obtain ⟨e3, h3, _⟩ := h.laid.rng
  have h2 := World.block_lt_of_cell? _ _ h2
  have h3 := World.block_lt_of_cell? _ _ h3
  simp only at h1 h2 h3
  omega

set_option maxHeartbeats 4000000 in
set_option maxRecDepth 100000 in
theorem impl_readvec (t : ByteArray) (w : World) (ht : t.size ≤ 1048576) (hL : LaidM w) :
    Calls Tryd.prog 35 #[.string t] w (vecPost t.data.toList (.int .i64 0) (.int .i64 5) w) := by
  obtain ⟨W2, hW2⟩ : ∃ W2, W2 = (w.alloc (.cells #[.float .f32 0, .float .f32 0, .float .f32 0] 29)).alloc (.cells #[.float .f32 0, .float .f32 0, .float .f32 0] 29) := ⟨_, rfl⟩
  have hk2 : Kept w W2 := by rw [hW2]; exact ((Kept.refl w).alloc _).alloc _
  have hsz : (w.alloc (.cells #[.float .f32 0, .float .f32 0, .float .f32 0] 29)).heap.size = w.heap.size + 1 := by simp
  have ho4 : Own3 W2 (w.heap.size + 1) := by
    have h := own3_alloc (w.alloc (.cells #[.float .f32 0, .float .f32 0, .float .f32 0] 29)) 29 (.float .f32 0) (.float .f32 0) (.float .f32 0)
    rw [hsz] at h; rw [hW2]; exact h
  have ho2 : Own3 W2 w.heap.size := by
    rw [hW2]
    exact (own3_alloc w 29 (.float .f32 0) (.float .f32 0) (.float .f32 0)).kept ((Kept.refl _).alloc _)
  have hN := read_numbers t (w.heap.size + 1) 0 3 W2 ht (hL.kept hk2) (hL.lts (by omega)) (fun j hj => by rw [Nat.zero_add]; exact ho4 j hj)
  have HW2 := Lib.hid hW2
  have HK2 := Lib.hid hk2
  have HO2 := Lib.hid ho2
  clear hk2 ho2 ho4 hL hsz
  have hsf := fun (W : World) (o b : Nat) => run_store_f32 Tryd.prog W ⟨w.heap.size + 1, o, none⟩ b
  cases hr : readVecR t.data.toList with
  | none =>
    have hN' : Calls Tryd.prog 45 #[.string t, .slice (some ⟨w.heap.size + 1, 0, none⟩) 3 3] W2 fun e w' => e = .returned (.bool false) ∧ Touch (w.heap.size + 1) 0 W2 w' := hN.mono fun e w' h => by unfold intoPost at h; rw [hr] at h; exact ⟨h.2, h.1⟩
    have HR := Lib.hid hr
    rw [hW2] at hN'
    clear hN hr hW2
    go_enter Tryd.func35, Tryd.ntmps35
    go_wp2_with fail
    refine hN'.mono ?_
    rintro e w3 ⟨rfl, ht3⟩
    rw [← HW2.out] at ht3
    obtain ⟨wa, wb, wc, s0, s1, s2, c0, c1, c2, hkc, -⟩ := store3 (P := Tryd.prog) (HO2.out.touch ht3 (by omega)) 0 0 0
    have HKC := Lib.hid (hkc w (Nat.le_refl _) (HK2.out.touch ht3 (by omega)))
    clear hkc ht3 hsf
    go_wp2
    exact bodyPost_ret (v := .tuple #[vecV 0 0 0, .int .i64 5]) (by simp [results, Tryd.results35, go_sem, vecV, c0, c1, c2]) rfl (vecPost.no HR.out HKC.out)
  | some x =>
    obtain ⟨a, b, c⟩ := x
    have hN' : Calls Tryd.prog 45 #[.string t, .slice (some ⟨w.heap.size + 1, 0, none⟩) 3 3] W2 fun e w' => e = .returned (.bool true) ∧ Touch (w.heap.size + 1) 0 W2 w' ∧ w'.cell? ⟨w.heap.size + 1, 0, none⟩ = some (.float .f32 a) ∧ w'.cell? ⟨w.heap.size + 1, 1, none⟩ = some (.float .f32 b) ∧ w'.cell? ⟨w.heap.size + 1, 2, none⟩ = some (.float .f32 c) := hN.mono fun e w' h => by unfold intoPost at h; rw [hr] at h; exact ⟨h.2.1, h.1, h.2.2.1, h.2.2.2.1, h.2.2.2.2⟩
    have HR := Lib.hid hr
    rw [hW2] at hN'
    clear hN hr hW2
    go_enter Tryd.func35, Tryd.ntmps35
    go_wp2_with fail
    refine hN'.mono ?_
    rintro e w3 ⟨rfl, ht3, l0, l1, l2⟩
    rw [← HW2.out] at ht3
    obtain ⟨wa, wb, wc, s0, s1, s2, c0, c1, c2, hkc, -⟩ := store3 (P := Tryd.prog) (HO2.out.touch ht3 (by omega)) a b c
    have HKC := Lib.hid (hkc w (Nat.le_refl _) (HK2.out.touch ht3 (by omega)))
    clear hkc ht3 hsf
    go_wp2
    exact bodyPost_ret (v := .tuple #[vecV a b c, .int .i64 0]) (by simp [results, Tryd.results35, go_sem, vecV, c0, c1, c2]) rfl (vecPost.yes HR.out HKC.out)
end Go.Proofs.YtmieiaakjiklfaaDoor
