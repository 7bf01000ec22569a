/-
  The law 'FnExactNumberText': its walk. Conditions: the table of trailing zeros holds 4 at place 15.
-/
import Derived.Test.YtiidgljfdhcmgaaDoorNumText
namespace Go.Proofs.YtiidgljfdhcmgaaDoor
open Go.RowKit

set_option maxRecDepth 100000 in
theorem spec_num (b : Nat) (hb : b < 4294967296) (w : World) :
    Calls Tryd.prog 10 #[.float .f32 b] w fun e w' => e = .returned (.string ⟨(hex8 (txt b)).toArray⟩) ∧ Below w.heap.size w w' := by
  have H := l01hex b hb w
  clear hb
  go_enter Tryd.func10, Tryd.ntmps10
  go_wp2_with (go_at_call 29; refine H.mono ?_; rintro e w' ⟨rfl, hb⟩)
  go_ret
  exact ⟨rfl, hb⟩

set_option maxRecDepth 100000 in
theorem law_num (b : Nat) (hb : b < 4294967296) (w : World) (hc : w.cell? ⟨6, 15, none⟩ = some (.int .u8 4)) :
    Calls Tryd.prog 3 #[.float .f32 b] w fun e w' => e = .returned (.bool true) ∧ Below w.heap.size w w' := by
  have hg := World.block_lt_of_cell? _ _ hc
  have H := spec_num b hb w
  obtain ⟨s, hs⟩ : ∃ s : ByteArray, s = ⟨(hex8 (txt b)).toArray⟩ := ⟨_, rfl⟩
  rw [← hs] at H
  have HS := Lib.hid hs
  have HC := Lib.hid hc
  have HB := Lib.hid hb
  clear hs hc hb
  go_enter Tryd.func3, Tryd.ntmps3
  go_wp2_with (go_at_call 10; refine H.mono ?_; rintro e w1 ⟨rfl, hb1⟩)
  have hc1 : w1.cell? ⟨6, 15, none⟩ = some (.int .u8 4) := (hb1.cell hg).trans HC.out
  have H2 := num_text b HB.out w1 hc1
  rw [← HS.out] at H2
  clear hc1 H
  go_wp2_with (go_at_call 11; refine H2.mono ?_; rintro e w2 ⟨rfl, hb2⟩)
  go_ret
  exact ⟨rfl, hb1.trans (hb2.mono hb1.size)⟩
end Go.Proofs.YtiidgljfdhcmgaaDoor
