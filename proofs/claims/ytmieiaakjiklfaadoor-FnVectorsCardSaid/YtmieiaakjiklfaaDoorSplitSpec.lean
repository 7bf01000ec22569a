/-
  The reference cuts a text. Conditions: the text is not too long.
-/
import Derived.Test.YtmieiaakjiklfaaDoorSplit
import Derived.Test.YtmieiaakjiklfaaDoorNumsText
import Derived.Test.YtmieiaakjiklfaaDoorReadSpec
namespace Go.Proofs.YtmieiaakjiklfaaDoor
open Go.RowKit Go.Lib

theorem cut_str {P : Program} (t : TypeId) (ht : P.underlying t = some .string) (s : ByteArray) (a b : Nat) (hab : a ≤ b) (hb : b ≤ s.size) (w : World) :
    (Instr.slice t (.string s) (some (.int .i64 (a : Int))) (some (.int .i64 (b : Int))) none).run P w = .ok (.string ⟨((s.data.toList.drop a).take (b - a)).toArray⟩) w := by
  rw [run_slice_string w t s .i64 .i64 _ _ ht (by omega) (by omega) (by omega)]
  simp only [Int.toNat_natCast]
  congr 2
  exact ba_ext (by rw [Lib.extract_data, List.take_drop, show a + (b - a) = b by omega])

theorem cut_end {P : Program} (t : TypeId) (ht : P.underlying t = some .string) (s : ByteArray) (a : Nat) (hb : a ≤ s.size) (w : World) :
    (Instr.slice t (.string s) (some (.int .i64 (a : Int))) none none).run P w = .ok (.string ⟨(s.data.toList.drop a).toArray⟩) w := by
  rw [run_slice_string_l w t s ht .i64 _ (by omega) (by omega)]
  simp only [Int.toNat_natCast]
  congr 2
  exact ba_ext (by rw [Lib.extract_to_end])

def splitPost (ps : List (List UInt8)) (w : World) (e : Ending) (w' : World) : Prop :=
  ∃ g cap, e = .returned (.slice (some ⟨g, 0, none⟩) ps.length cap) ∧ g < w'.heap.size ∧ StrRow w' g ps ∧ Below w.heap.size w w'

end Go.Proofs.YtmieiaakjiklfaaDoor
