/-
  'CodeName' of the program: by the library's Split. Conditions: none.
-/
import Derived.Test.YtiidgljfdhcmgaaDoorCodeName
namespace Go.Proofs.YtiidgljfdhcmgaaDoor
open Go.RowKit Go.Shelf

def codeRow : Array Value := #[.string ⟨#[111, 107]⟩, .string ⟨#[105, 110, 118, 97, 108, 105, 100]⟩, .string ⟨#[114, 97, 110, 103, 101]⟩, .string ⟨#[108, 105, 109, 105, 116]⟩, .string ⟨#[115, 116, 97, 116, 101]⟩, .string ⟨#[115, 121, 110, 116, 97, 120]⟩, .string ⟨#[110, 111, 116, 102, 111, 117, 110, 100]⟩, .string ⟨#[98, 117, 100, 103, 101, 116]⟩, .string ⟨#[112, 114, 111, 111, 102]⟩]

theorem split_names (m : Int) (w : World) (hm : w.cell? ⟨4, 0, none⟩ = some (.int .i64 m)) :
    Calls Tryd.prog 34 #[.string ⟨#[111, 107, 32, 105, 110, 118, 97, 108, 105, 100, 32, 114, 97, 110, 103, 101, 32, 108, 105, 109, 105, 116, 32, 115, 116, 97, 116, 101, 32, 115, 121, 110, 116, 97, 120, 32, 110, 111, 116, 102, 111, 117, 110, 100, 32, 98, 117, 100, 103, 101, 116, 32, 112, 114, 111, 111, 102]⟩, .string ⟨#[32]⟩] w fun e w' =>
      e = .returned (.slice (some ⟨w.heap.size, 0, none⟩) 9 9) ∧ w' = w.alloc (.cells #[.string ⟨#[111, 107]⟩, .string ⟨#[105, 110, 118, 97, 108, 105, 100]⟩, .string ⟨#[114, 97, 110, 103, 101]⟩, .string ⟨#[108, 105, 109, 105, 116]⟩, .string ⟨#[115, 116, 97, 116, 101]⟩, .string ⟨#[115, 121, 110, 116, 97, 120]⟩, .string ⟨#[110, 111, 116, 102, 111, 117, 110, 100]⟩, .string ⟨#[98, 117, 100, 103, 101, 116]⟩, .string ⟨#[112, 114, 111, 111, 102]⟩] 9) := by
  have c := Tryd.strings_Split ⟨#[111, 107, 32, 105, 110, 118, 97, 108, 105, 100, 32, 114, 97, 110, 103, 101, 32, 108, 105, 109, 105, 116, 32, 115, 116, 97, 116, 101, 32, 115, 121, 110, 116, 97, 120, 32, 110, 111, 116, 102, 111, 117, 110, 100, 32, 98, 117, 100, 103, 101, 116, 32, 112, 114, 111, 111, 102]⟩ ⟨#[32]⟩ m w (by decide) hm (by decide)
  have h1 : Lib.countB ⟨#[111, 107, 32, 105, 110, 118, 97, 108, 105, 100, 32, 114, 97, 110, 103, 101, 32, 108, 105, 109, 105, 116, 32, 115, 116, 97, 116, 101, 32, 115, 121, 110, 116, 97, 120, 32, 110, 111, 116, 102, 111, 117, 110, 100, 32, 98, 117, 100, 103, 101, 116, 32, 112, 114, 111, 111, 102]⟩ ⟨#[32]⟩ = 8 := by decide +kernel
  have h2 : ((Lib.splitB ⟨#[32]⟩ 0 8 ⟨#[111, 107, 32, 105, 110, 118, 97, 108, 105, 100, 32, 114, 97, 110, 103, 101, 32, 108, 105, 109, 105, 116, 32, 115, 116, 97, 116, 101, 32, 115, 121, 110, 116, 97, 120, 32, 110, 111, 116, 102, 111, 117, 110, 100, 32, 98, 117, 100, 103, 101, 116, 32, 112, 114, 111, 111, 102]⟩).map Value.string).toArray = #[.string ⟨#[111, 107]⟩, .string ⟨#[105, 110, 118, 97, 108, 105, 100]⟩, .string ⟨#[114, 97, 110, 103, 101]⟩, .string ⟨#[108, 105, 109, 105, 116]⟩, .string ⟨#[115, 116, 97, 116, 101]⟩, .string ⟨#[115, 121, 110, 116, 97, 120]⟩, .string ⟨#[110, 111, 116, 102, 111, 117, 110, 100]⟩, .string ⟨#[98, 117, 100, 103, 101, 116]⟩, .string ⟨#[112, 114, 111, 111, 102]⟩] := by
    have : Lib.splitB ⟨#[32]⟩ 0 8 ⟨#[111, 107, 32, 105, 110, 118, 97, 108, 105, 100, 32, 114, 97, 110, 103, 101, 32, 108, 105, 109, 105, 116, 32, 115, 116, 97, 116, 101, 32, 115, 121, 110, 116, 97, 120, 32, 110, 111, 116, 102, 111, 117, 110, 100, 32, 98, 117, 100, 103, 101, 116, 32, 112, 114, 111, 111, 102]⟩ = [⟨#[111, 107]⟩, ⟨#[105, 110, 118, 97, 108, 105, 100]⟩, ⟨#[114, 97, 110, 103, 101]⟩, ⟨#[108, 105, 109, 105, 116]⟩, ⟨#[115, 116, 97, 116, 101]⟩, ⟨#[115, 121, 110, 116, 97, 120]⟩, ⟨#[110, 111, 116, 102, 111, 117, 110, 100]⟩, ⟨#[98, 117, 100, 103, 101, 116]⟩, ⟨#[112, 114, 111, 111, 102]⟩] := by decide +kernel
    rw [this]; rfl
  rw [h1, h2] at c
  exact c

theorem impl_neg (c : Int) (m : Int) (w : World) (hm : w.cell? ⟨4, 0, none⟩ = some (.int .i64 m)) (h : c < 0) :
    Calls Tryd.prog 13 #[.int .i64 c] w fun e w' => e = .returned (.string ⟨#[]⟩) ∧ Below w.heap.size w w' := by
  have C := split_names m w hm
  clear hm
  go_enter Tryd.func13, Tryd.ntmps13
  go_wp2_with (go_at_call 34; refine C.mono ?_; rintro e w' ⟨rfl, rfl⟩)
  go_ret
  exact ⟨rfl, (Below.refl _ _).alloc (Nat.le_refl _) _⟩

theorem impl_big (c : Int) (m : Int) (w : World) (hm : w.cell? ⟨4, 0, none⟩ = some (.int .i64 m)) (h : 8 < c) :
    Calls Tryd.prog 13 #[.int .i64 c] w fun e w' => e = .returned (.string ⟨#[]⟩) ∧ Below w.heap.size w w' := by
  have C := split_names m w hm
  clear hm
  have h0 : ¬ c < 0 := by omega
  have h1 : 9 ≤ c := by omega
  go_enter Tryd.func13, Tryd.ntmps13
  go_wp2_with (go_at_call 34; refine C.mono ?_; rintro e w' ⟨rfl, rfl⟩)
  go_ret
  exact ⟨rfl, (Below.refl _ _).alloc (Nat.le_refl _) _⟩

theorem impl_0 (m : Int) (w : World) (hm : w.cell? ⟨4, 0, none⟩ = some (.int .i64 m)) :
    Calls Tryd.prog 13 #[.int .i64 0] w fun e w' => e = .returned (.string ⟨#[111, 107]⟩) ∧ Below w.heap.size w w' := by
  have C := split_names m w hm
  clear hm
  go_enter Tryd.func13, Tryd.ntmps13
  go_wp2_with (go_at_call 34; refine C.mono ?_; rintro e w' ⟨rfl, rfl⟩)
  go_ret
  exact ⟨rfl, (Below.refl _ _).alloc (Nat.le_refl _) _⟩

theorem impl_1 (m : Int) (w : World) (hm : w.cell? ⟨4, 0, none⟩ = some (.int .i64 m)) :
    Calls Tryd.prog 13 #[.int .i64 1] w fun e w' => e = .returned (.string ⟨#[105, 110, 118, 97, 108, 105, 100]⟩) ∧ Below w.heap.size w w' := by
  have C := split_names m w hm
  clear hm
  go_enter Tryd.func13, Tryd.ntmps13
  go_wp2_with (go_at_call 34; refine C.mono ?_; rintro e w' ⟨rfl, rfl⟩)
  go_ret
  exact ⟨rfl, (Below.refl _ _).alloc (Nat.le_refl _) _⟩

theorem impl_2 (m : Int) (w : World) (hm : w.cell? ⟨4, 0, none⟩ = some (.int .i64 m)) :
    Calls Tryd.prog 13 #[.int .i64 2] w fun e w' => e = .returned (.string ⟨#[114, 97, 110, 103, 101]⟩) ∧ Below w.heap.size w w' := by
  have C := split_names m w hm
  clear hm
  go_enter Tryd.func13, Tryd.ntmps13
  go_wp2_with (go_at_call 34; refine C.mono ?_; rintro e w' ⟨rfl, rfl⟩)
  go_ret
  exact ⟨rfl, (Below.refl _ _).alloc (Nat.le_refl _) _⟩

theorem impl_3 (m : Int) (w : World) (hm : w.cell? ⟨4, 0, none⟩ = some (.int .i64 m)) :
    Calls Tryd.prog 13 #[.int .i64 3] w fun e w' => e = .returned (.string ⟨#[108, 105, 109, 105, 116]⟩) ∧ Below w.heap.size w w' := by
  have C := split_names m w hm
  clear hm
  go_enter Tryd.func13, Tryd.ntmps13
  go_wp2_with (go_at_call 34; refine C.mono ?_; rintro e w' ⟨rfl, rfl⟩)
  go_ret
  exact ⟨rfl, (Below.refl _ _).alloc (Nat.le_refl _) _⟩

theorem impl_4 (m : Int) (w : World) (hm : w.cell? ⟨4, 0, none⟩ = some (.int .i64 m)) :
    Calls Tryd.prog 13 #[.int .i64 4] w fun e w' => e = .returned (.string ⟨#[115, 116, 97, 116, 101]⟩) ∧ Below w.heap.size w w' := by
  have C := split_names m w hm
  clear hm
  go_enter Tryd.func13, Tryd.ntmps13
  go_wp2_with (go_at_call 34; refine C.mono ?_; rintro e w' ⟨rfl, rfl⟩)
  go_ret
  exact ⟨rfl, (Below.refl _ _).alloc (Nat.le_refl _) _⟩

theorem impl_5 (m : Int) (w : World) (hm : w.cell? ⟨4, 0, none⟩ = some (.int .i64 m)) :
    Calls Tryd.prog 13 #[.int .i64 5] w fun e w' => e = .returned (.string ⟨#[115, 121, 110, 116, 97, 120]⟩) ∧ Below w.heap.size w w' := by
  have C := split_names m w hm
  clear hm
  go_enter Tryd.func13, Tryd.ntmps13
  go_wp2_with (go_at_call 34; refine C.mono ?_; rintro e w' ⟨rfl, rfl⟩)
  go_ret
  exact ⟨rfl, (Below.refl _ _).alloc (Nat.le_refl _) _⟩

theorem impl_6 (m : Int) (w : World) (hm : w.cell? ⟨4, 0, none⟩ = some (.int .i64 m)) :
    Calls Tryd.prog 13 #[.int .i64 6] w fun e w' => e = .returned (.string ⟨#[110, 111, 116, 102, 111, 117, 110, 100]⟩) ∧ Below w.heap.size w w' := by
  have C := split_names m w hm
  clear hm
  go_enter Tryd.func13, Tryd.ntmps13
  go_wp2_with (go_at_call 34; refine C.mono ?_; rintro e w' ⟨rfl, rfl⟩)
  go_ret
  exact ⟨rfl, (Below.refl _ _).alloc (Nat.le_refl _) _⟩

theorem impl_7 (m : Int) (w : World) (hm : w.cell? ⟨4, 0, none⟩ = some (.int .i64 m)) :
    Calls Tryd.prog 13 #[.int .i64 7] w fun e w' => e = .returned (.string ⟨#[98, 117, 100, 103, 101, 116]⟩) ∧ Below w.heap.size w w' := by
  have C := split_names m w hm
  clear hm
  go_enter Tryd.func13, Tryd.ntmps13
  go_wp2_with (go_at_call 34; refine C.mono ?_; rintro e w' ⟨rfl, rfl⟩)
  go_ret
  exact ⟨rfl, (Below.refl _ _).alloc (Nat.le_refl _) _⟩

theorem impl_8 (m : Int) (w : World) (hm : w.cell? ⟨4, 0, none⟩ = some (.int .i64 m)) :
    Calls Tryd.prog 13 #[.int .i64 8] w fun e w' => e = .returned (.string ⟨#[112, 114, 111, 111, 102]⟩) ∧ Below w.heap.size w w' := by
  have C := split_names m w hm
  clear hm
  go_enter Tryd.func13, Tryd.ntmps13
  go_wp2_with (go_at_call 34; refine C.mono ?_; rintro e w' ⟨rfl, rfl⟩)
  go_ret
  exact ⟨rfl, (Below.refl _ _).alloc (Nat.le_refl _) _⟩

end Go.Proofs.YtiidgljfdhcmgaaDoor
