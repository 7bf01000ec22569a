/-
  'CodeName' of the program and of the reference. Conditions: none.
-/
import Derived.Test.YtiidgljfdhcmgaaDoorShelf
import Derived.WalkKit
import Derived.Below
import Derived.Lib.Hide
namespace Go.Proofs.YtiidgljfdhcmgaaDoor
open Go.RowKit Go.Shelf

theorem spec_neg (c : Int) (w : World) (h : c < 0) :
    Calls Tryd.prog 12 #[.int .i64 c] w fun e w' => e = .returned (.string ⟨#[]⟩) ∧ Below w.heap.size w w' := by
  go_enter Tryd.func12, Tryd.ntmps12
  go_wp2
  go_ret
  exact ⟨rfl, (Below.refl _ _).alloc (Nat.le_refl _) _⟩

theorem spec_big (c : Int) (w : World) (h : 8 < c) :
    Calls Tryd.prog 12 #[.int .i64 c] w fun e w' => e = .returned (.string ⟨#[]⟩) ∧ Below w.heap.size w w' := by
  have h0 : ¬ c < 0 := by omega
  have h1 : 0 ≤ c := by omega
  have h2 : ¬ c ≤ 8 := by omega
  go_enter Tryd.func12, Tryd.ntmps12
  go_wp2
  go_ret
  exact ⟨rfl, (Below.refl _ _).alloc (Nat.le_refl _) _⟩

theorem spec_0 (w : World) :
    Calls Tryd.prog 12 #[.int .i64 0] w fun e w' => e = .returned (.string ⟨#[111, 107]⟩) ∧ Below w.heap.size w w' := by
  go_enter Tryd.func12, Tryd.ntmps12
  go_wp2
  go_ret
  exact ⟨rfl, (Below.refl _ _).alloc (Nat.le_refl _) _⟩

theorem spec_1 (w : World) :
    Calls Tryd.prog 12 #[.int .i64 1] w fun e w' => e = .returned (.string ⟨#[105, 110, 118, 97, 108, 105, 100]⟩) ∧ Below w.heap.size w w' := by
  go_enter Tryd.func12, Tryd.ntmps12
  go_wp2
  go_ret
  exact ⟨rfl, (Below.refl _ _).alloc (Nat.le_refl _) _⟩

theorem spec_2 (w : World) :
    Calls Tryd.prog 12 #[.int .i64 2] w fun e w' => e = .returned (.string ⟨#[114, 97, 110, 103, 101]⟩) ∧ Below w.heap.size w w' := by
  go_enter Tryd.func12, Tryd.ntmps12
  go_wp2
  go_ret
  exact ⟨rfl, (Below.refl _ _).alloc (Nat.le_refl _) _⟩

theorem spec_3 (w : World) :
    Calls Tryd.prog 12 #[.int .i64 3] w fun e w' => e = .returned (.string ⟨#[108, 105, 109, 105, 116]⟩) ∧ Below w.heap.size w w' := by
  go_enter Tryd.func12, Tryd.ntmps12
  go_wp2
  go_ret
  exact ⟨rfl, (Below.refl _ _).alloc (Nat.le_refl _) _⟩

theorem spec_4 (w : World) :
    Calls Tryd.prog 12 #[.int .i64 4] w fun e w' => e = .returned (.string ⟨#[115, 116, 97, 116, 101]⟩) ∧ Below w.heap.size w w' := by
  go_enter Tryd.func12, Tryd.ntmps12
  go_wp2
  go_ret
  exact ⟨rfl, (Below.refl _ _).alloc (Nat.le_refl _) _⟩

theorem spec_5 (w : World) :
    Calls Tryd.prog 12 #[.int .i64 5] w fun e w' => e = .returned (.string ⟨#[115, 121, 110, 116, 97, 120]⟩) ∧ Below w.heap.size w w' := by
  go_enter Tryd.func12, Tryd.ntmps12
  go_wp2
  go_ret
  exact ⟨rfl, (Below.refl _ _).alloc (Nat.le_refl _) _⟩

theorem spec_6 (w : World) :
    Calls Tryd.prog 12 #[.int .i64 6] w fun e w' => e = .returned (.string ⟨#[110, 111, 116, 102, 111, 117, 110, 100]⟩) ∧ Below w.heap.size w w' := by
  go_enter Tryd.func12, Tryd.ntmps12
  go_wp2
  go_ret
  exact ⟨rfl, (Below.refl _ _).alloc (Nat.le_refl _) _⟩

theorem spec_7 (w : World) :
    Calls Tryd.prog 12 #[.int .i64 7] w fun e w' => e = .returned (.string ⟨#[98, 117, 100, 103, 101, 116]⟩) ∧ Below w.heap.size w w' := by
  go_enter Tryd.func12, Tryd.ntmps12
  go_wp2
  go_ret
  exact ⟨rfl, (Below.refl _ _).alloc (Nat.le_refl _) _⟩

theorem spec_8 (w : World) :
    Calls Tryd.prog 12 #[.int .i64 8] w fun e w' => e = .returned (.string ⟨#[112, 114, 111, 111, 102]⟩) ∧ Below w.heap.size w w' := by
  go_enter Tryd.func12, Tryd.ntmps12
  go_wp2
  go_ret
  exact ⟨rfl, (Below.refl _ _).alloc (Nat.le_refl _) _⟩

end Go.Proofs.YtiidgljfdhcmgaaDoor
