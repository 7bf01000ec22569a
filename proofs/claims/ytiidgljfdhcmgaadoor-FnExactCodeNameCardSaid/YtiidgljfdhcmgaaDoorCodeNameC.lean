/-
  The law 'FnExactCodeName': its walk. Conditions: none.
-/
import Derived.Test.YtiidgljfdhcmgaaDoorCodeNameB
namespace Go.Proofs.YtiidgljfdhcmgaaDoor
open Go.RowKit Go.Shelf

/-- Both give one name. -/
theorem both_names (c : Int) : ∃ n : ByteArray, (∀ w, Calls Tryd.prog 12 #[.int .i64 c] w fun e w' => e = .returned (.string n) ∧ Below w.heap.size w w') ∧
    (∀ m w, w.cell? ⟨4, 0, none⟩ = some (.int .i64 m) → Calls Tryd.prog 13 #[.int .i64 c] w fun e w' => e = .returned (.string n) ∧ Below w.heap.size w w') := by
  rcases Int.lt_or_le c 0 with h | h
  · exact ⟨_, fun w => spec_neg c w h, fun m w hm => impl_neg c m w hm h⟩
  · rcases Int.lt_or_le 8 c with h2 | h2
    · exact ⟨_, fun w => spec_big c w h2, fun m w hm => impl_big c m w hm h2⟩
    · have hc : c = 0 ∨ c = 1 ∨ c = 2 ∨ c = 3 ∨ c = 4 ∨ c = 5 ∨ c = 6 ∨ c = 7 ∨ c = 8 := by omega
      rcases hc with rfl | rfl | rfl | rfl | rfl | rfl | rfl | rfl | rfl
      · exact ⟨_, fun w => spec_0 w, fun m w hm => impl_0 m w hm⟩
      · exact ⟨_, fun w => spec_1 w, fun m w hm => impl_1 m w hm⟩
      · exact ⟨_, fun w => spec_2 w, fun m w hm => impl_2 m w hm⟩
      · exact ⟨_, fun w => spec_3 w, fun m w hm => impl_3 m w hm⟩
      · exact ⟨_, fun w => spec_4 w, fun m w hm => impl_4 m w hm⟩
      · exact ⟨_, fun w => spec_5 w, fun m w hm => impl_5 m w hm⟩
      · exact ⟨_, fun w => spec_6 w, fun m w hm => impl_6 m w hm⟩
      · exact ⟨_, fun w => spec_7 w, fun m w hm => impl_7 m w hm⟩
      · exact ⟨_, fun w => spec_8 w, fun m w hm => impl_8 m w hm⟩

theorem law_name (c m : Int) (w : World) (hs : 4 < w.heap.size) (hm : w.cell? ⟨4, 0, none⟩ = some (.int .i64 m)) :
    Calls Tryd.prog 4 #[.int .i64 c] w fun e w' => e = .returned (.bool true) ∧ Below w.heap.size w w' := by
  obtain ⟨n, hS, hI⟩ := both_names c
  go_enter Tryd.func4, Tryd.ntmps4
  go_wp2_with fail
  refine (hS _).mono ?_
  rintro e w1 ⟨rfl, hb⟩
  have hm1 : w1.cell? ⟨4, 0, none⟩ = some (.int .i64 m) := (hb.cell (p := ⟨4, 0, none⟩) hs).trans hm
  have H := Lib.hid hm1
  have HI := Lib.hid hI
  clear hm hm1 hI hS
  go_wp2_with fail
  refine (HI.out m _ H.out).mono ?_
  rintro e w2 ⟨rfl, hb2⟩
  go_wp2
  go_ret
  exact ⟨rfl, hb.trans (hb2.mono (by have := hb.size; omega))⟩

end Go.Proofs.YtiidgljfdhcmgaaDoor
