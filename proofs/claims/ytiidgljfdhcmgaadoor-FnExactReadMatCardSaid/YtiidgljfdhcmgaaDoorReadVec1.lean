/-
  The reference's ReadVec. Conditions: the text is not too long.
-/
import Derived.Test.YtiidgljfdhcmgaaDoorReadVecSpec
namespace Go.Proofs.YtiidgljfdhcmgaaDoor
open Go.RowKit Go.Lib

set_option maxHeartbeats 4000000 in
set_option maxRecDepth 100000 in
theorem spec_readvec (t : ByteArray) (w : World) (ht : t.size ≤ 1048576) :
    Calls Tryd.prog 23 #[.string t] w (vecPost t.data.toList (.int .i64 0) (.int .i64 5) w) := by
  have hN := l01readvec t (w.alloc (.cells #[.float .f32 0, .float .f32 0, .float .f32 0] 29)) ht
  cases hr : readVecR t.data.toList with
  | none =>
    have hN' : Calls Tryd.prog 41 #[.string t] (w.alloc (.cells #[.float .f32 0, .float .f32 0, .float .f32 0] 29)) fun e w' => e = .returned (.tuple #[.agg #[.float .f32 0, .float .f32 0, .float .f32 0], .bool false]) ∧ Kept (w.alloc (.cells #[.float .f32 0, .float .f32 0, .float .f32 0] 29)) w' := hN.mono fun e w' h => by unfold vecPost at h; rw [hr] at h; exact ⟨h.2, h.1⟩
    have HR := Lib.hid hr
    clear hN hr
    go_enter Tryd.func23, Tryd.ntmps23
    go_wp2_with fail
    refine hN'.mono ?_
    rintro e w1 ⟨rfl, hk1⟩
    have hsf := fun (W : World) (o b : Nat) => run_store_f32 Tryd.prog W ⟨w1.heap.size, o, none⟩ b
    have hk1' : Kept w w1 := ((Kept.refl w).alloc _).trans hk1
    have HOwn := Lib.hid (((own3_alloc w 29 (.float .f32 0) (.float .f32 0) (.float .f32 0)).kept hk1).kept ((Kept.refl w1).alloc (.cells #[.float .f32 0, .float .f32 0, .float .f32 0] 29)))
    have HK1 := Lib.hid hk1'
    clear hk1 hk1'
    obtain ⟨wa, wb, wc, s0, s1, s2, c0, c1, c2, hkc, -⟩ := store3 (P := Tryd.prog) HOwn.out 0 0 0
    have HKC := Lib.hid (hkc w (Nat.le_refl _) (HK1.out.alloc _))
    clear hkc
    go_wp2
    exact bodyPost_ret (v := .tuple #[vecV 0 0 0, .int .i64 5]) (by simp [results, Tryd.results23, go_sem, vecV, c0, c1, c2]) rfl (vecPost.no HR.out HKC.out)
  | some x =>
    obtain ⟨a, b, c⟩ := x
    have hN' : Calls Tryd.prog 41 #[.string t] (w.alloc (.cells #[.float .f32 0, .float .f32 0, .float .f32 0] 29)) fun e w' => e = .returned (.tuple #[.agg #[.float .f32 a, .float .f32 b, .float .f32 c], .bool true]) ∧ Kept (w.alloc (.cells #[.float .f32 0, .float .f32 0, .float .f32 0] 29)) w' := hN.mono fun e w' h => by unfold vecPost at h; rw [hr] at h; exact ⟨h.2, h.1⟩
    have HR := Lib.hid hr
    clear hN hr
    go_enter Tryd.func23, Tryd.ntmps23
    go_wp2_with fail
    refine hN'.mono ?_
    rintro e w1 ⟨rfl, hk1⟩
    have hsf := fun (W : World) (o b : Nat) => run_store_f32 Tryd.prog W ⟨w1.heap.size, o, none⟩ b
    have hk1' : Kept w w1 := ((Kept.refl w).alloc _).trans hk1
    have HOwn := Lib.hid (((own3_alloc w 29 (.float .f32 0) (.float .f32 0) (.float .f32 0)).kept hk1).kept ((Kept.refl w1).alloc (.cells #[.float .f32 a, .float .f32 b, .float .f32 c] 29)))
    have HK1 := Lib.hid hk1'
    clear hk1 hk1'
    obtain ⟨wa, wb, wc, s0, s1, s2, c0, c1, c2, hkc, -⟩ := store3 (P := Tryd.prog) HOwn.out a b c
    have HKC := Lib.hid (hkc w (Nat.le_refl _) (HK1.out.alloc _))
    clear hkc
    go_wp2
    exact bodyPost_ret (v := .tuple #[vecV a b c, .int .i64 0]) (by simp [results, Tryd.results23, go_sem, vecV, c0, c1, c2]) rfl (vecPost.yes HR.out HKC.out)
end Go.Proofs.YtiidgljfdhcmgaaDoor
