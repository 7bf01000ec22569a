/-
  The reference's text of a number. Conditions: none.
-/
import Derived.Test.YtmieiaakjiklfaaDoorRow
import Derived.BigCall
import Derived.BigGuard
namespace Go.Proofs.YtmieiaakjiklfaaDoor
open Go.RowKit Go.Sort Go.Lib

theorem txt_lt {b : Nat} (hb : b < 4294967296) : txt b < 4294967296 := by unfold txt; split <;> omega
theorem txt_num {b : Nat} (h : nanB b = false) : txt b = b := by unfold txt; rw [h]; rfl

def lit16 : ByteArray := ⟨#[48, 49, 50, 51, 52, 53, 54, 55, 56, 57, 97, 98, 99, 100, 101, 102]⟩
theorem lit16_at : ∀ i : Fin 16, lit16.data.toList.getD i.val 0 = hexD i.val := by decide +kernel

theorem idx16 {P : Program} (t : TypeId) (ht : P.underlying t = some .string) (k : IntKind) (i : Nat) (z : Int) (hz : z = (i : Int)) (hi : i < 16) (w : World) :
    (Instr.index t (.string lit16) (.int k z)).run P w = .ok (.int .u8 ((hexD i).toNat : Int)) w := by
  subst hz
  rw [run_index_string w t lit16 k _ ht, dif_pos ⟨by omega, by show (i : Int) < (16 : Nat); omega⟩]
  have e : ((i : Int)).toNat = i := by omega
  simp only [e]
  rw [getD_at, lit16_at ⟨i, hi⟩]

theorem mk8 (w : World) : (Instr.makeSlice 22 (.int .i64 8) (.int .i64 8)).run Tryd.prog w = .ok (.slice (some ⟨w.heap.size, 0, none⟩) 8 8) (w.alloc (.cells zeros8 5)) := by kernel_rfl

end Go.Proofs.YtmieiaakjiklfaaDoor
