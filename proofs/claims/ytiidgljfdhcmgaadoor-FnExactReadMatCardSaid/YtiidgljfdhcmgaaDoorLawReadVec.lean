/-
  The law 'FnExactReadVec': its walk. Conditions: what the library's variables hold.
-/
import Derived.Test.YtiidgljfdhcmgaaDoorReadVec2
import Derived.Test.YtiidgljfdhcmgaaDoorLawReadNumber
namespace Go.Proofs.YtiidgljfdhcmgaaDoor
open Go.RowKit Go.Sx

def sameS (f : FuncId) (args : List V) : Option Known := if Nat.beq f 22 then sameK .f64 args else none

set_option maxRecDepth 100000 in
theorem sameS_ok (E : Env) : SumOK E Tryd.prog sameS := by
  intro f args kn hs β vals W hv
  unfold sameS at hs
  split at hs
  · rename_i hf
    have := Nat.eq_of_beq_eq_true hf
    subst this
    exact sameK_ok mixed names (n := 1000) (by kernel_rfl) hs hv
  · cases hs

set_option maxRecDepth 100000 in
theorem eq_calls {n : Nat} {f : FuncId} {l : List SV} (hl : l.length = n) (hla : argsL 0 l = true) (h : runA Tryd.prog sameS 1000 f [.agg l, .agg l] [] isTrue = true) (a : Nat → Nat) (w : World) :
    Calls Tryd.prog f #[.agg (flts a n).toArray, .agg (flts a n).toArray] w fun e w' => e = .returned (.bool true) ∧ Kept w w' := by
  obtain ⟨sv, fs', h1, _, h3⟩ := runA_sound (E := envA a) mixed names (sameS_ok _) h (fun p hp => by cases hp)
  have := isTrue_spec h1
  subst this
  refine (h3 [.agg (flts a n).toArray, .agg (flts a n).toArray] w ⟨rfl, fun i s v hs hv => ?_⟩).mono fun e w' ⟨v, he, hr, hg⟩ => ⟨by rw [he]; exact congrArg Ending.returned hr, kept_grown hg⟩
  match i, hs with
  | 0, hs => simp at hs hv; subst hs; subst hv; exact rel_flts a _ n l hl hla
  | 1, hs => simp at hs hv; subst hs; subst hv; exact rel_flts a _ n l hl hla

set_option maxRecDepth 100000 in
theorem eq_vec (a b c : Nat) (w : World) : Calls Tryd.prog 25 #[vecV a b c, vecV a b c] w fun e w' => e = .returned (.bool true) ∧ Kept w w' :=
  eq_calls (n := 3) (l := [.flt .f32 (.arg 0), .flt .f32 (.arg 1), .flt .f32 (.arg 2)]) rfl rfl (by kernel_rfl) (fun i => if i = 0 then a else if i = 1 then b else c) w

set_option maxRecDepth 100000 in
theorem eq_mat (a : Nat → Nat) (w : World) : Calls Tryd.prog 28 #[.agg (nineV a), .agg (nineV a)] w fun e w' => e = .returned (.bool true) ∧ Kept w w' :=
  eq_calls (n := 9) (l := [.flt .f32 (.arg 0), .flt .f32 (.arg 1), .flt .f32 (.arg 2), .flt .f32 (.arg 3), .flt .f32 (.arg 4), .flt .f32 (.arg 5), .flt .f32 (.arg 6), .flt .f32 (.arg 7), .flt .f32 (.arg 8)]) rfl rfl (by kernel_rfl) a w

/-- One vector and code for both. -/
theorem both_readvec (t : ByteArray) (ht : t.size ≤ 1048576) : ∃ (a b c : Nat) (k : Int),
    (∀ w, Calls Tryd.prog 23 #[.string t] w fun e w' => e = .returned (.tuple #[vecV a b c, .int .i64 k]) ∧ Kept w w') ∧
    (∀ w, LaidM w → Calls Tryd.prog 24 #[.string t] w fun e w' => e = .returned (.tuple #[vecV a b c, .int .i64 k]) ∧ Kept w w') := by
  cases hr : readVecR t.data.toList with
  | some x =>
    obtain ⟨a, b, c⟩ := x
    refine ⟨a, b, c, 0, fun w => (spec_readvec t w ht).mono fun e w' h => ?_, fun w hL => (impl_readvec t w ht hL).mono fun e w' h => ?_⟩
    all_goals (unfold vecPost at h; rw [hr] at h; exact ⟨h.2, h.1⟩)
  | none =>
    refine ⟨0, 0, 0, 5, fun w => (spec_readvec t w ht).mono fun e w' h => ?_, fun w hL => (impl_readvec t w ht hL).mono fun e w' h => ?_⟩
    all_goals (unfold vecPost at h; rw [hr] at h; exact ⟨h.2, h.1⟩)

set_option maxHeartbeats 1000000 in
set_option maxRecDepth 100000 in
theorem law_readvec (t : ByteArray) (w : World) (ht : t.size ≤ maxLen) (hL : LaidM w) : Calls Tryd.prog 8 #[.string t] w fun e w' => e = .returned (.bool true) ∧ Kept w w' := by
  unfold maxLen at ht
  by_cases hs : 1048576 < t.size
  · have hs' : (1048576 : Int) < t.size := by omega
    clear hs hL
    go_enter Tryd.func8, Tryd.ntmps8
    go_wp2
    go_ret
    exact ⟨rfl, Kept.refl _⟩
  · have hs' : t.size ≤ 1048576 := by omega
    obtain ⟨a, b, c, k, hS, hI⟩ := both_readvec t hs'
    have HL := Lib.hid hL
    have HS := Lib.hid hS
    have HI := Lib.hid hI
    clear hs hL hS hI ht
    go_enter Tryd.func8, Tryd.ntmps8
    go_wp2_with fail
    refine (HS.out _).mono ?_
    rintro e w1 ⟨rfl, hk1⟩
    unfold vecV
    have hsf := fun (W : World) (o b : Nat) => run_store_f32 Tryd.prog W ⟨w1.heap.size, o, none⟩ b
    have HK1 := Lib.hid (hk1.alloc (.cells #[.float .f32 a, .float .f32 b, .float .f32 c] 29))
    clear hk1
    go_wp2_with fail
    refine (HI.out _ (HL.out.kept HK1.out)).mono ?_
    rintro e w2 ⟨rfl, hk2⟩
    unfold vecV
    have hlt : w1.heap.size < w2.heap.size := by have := hk2.size; simp at this; omega
    have e0 : w2.cell? ⟨w1.heap.size, 0, none⟩ = some (.float .f32 a) := by rw [hk2.cell (p := ⟨w1.heap.size, 0, none⟩) (by simp), World.cell?_alloc_new]; rfl
    have e1 : w2.cell? ⟨w1.heap.size, 1, none⟩ = some (.float .f32 b) := by rw [hk2.cell (p := ⟨w1.heap.size, 1, none⟩) (by simp), World.cell?_alloc_new]; rfl
    have e2 : w2.cell? ⟨w1.heap.size, 2, none⟩ = some (.float .f32 c) := by rw [hk2.cell (p := ⟨w1.heap.size, 2, none⟩) (by simp), World.cell?_alloc_new]; rfl
    have hsf2 := fun (W : World) (o b : Nat) => run_store_f32 Tryd.prog W ⟨w2.heap.size, o, none⟩ b
    have HK2 := Lib.hid ((HK1.out.trans hk2).alloc (.cells #[.float .f32 a, .float .f32 b, .float .f32 c] 29))
    have hE := eq_vec a b c
    unfold vecV at hE
    have HE := Lib.hid hE
    clear hk2 hsf hE
    go_wp2_with fail
    refine (HE.out _).mono ?_
    rintro e w4 ⟨rfl, hk4⟩
    clear e0 e1 e2 hsf2
    go_wp2
    go_ret
    exact ⟨rfl, HK2.out.trans hk4⟩
end Go.Proofs.YtiidgljfdhcmgaaDoor
