/-
  The reference reads a number. Conditions: none.
-/
import Derived.Test.YtmieiaakjiklfaaDoorRead
import Derived.BigCall
import Derived.BigGuard
namespace Go.Proofs.YtmieiaakjiklfaaDoor
open Go.RowKit Go.Sort Go.Lib

theorem run_frombits (b : Nat) (w : World) : (callFunc 49 #[.int .u32 (b : Nat)]).run Tryd.prog w = .ok (.value (.float .f32 b)) w :=
  run_ext (e := Extern.MathFloatBits.float32frombits) Tryd.func49 (by kernel_rfl) rfl (by kernel_rfl) (by kernel_rfl) rfl

/-- What a reading owes: the number and yes; or any number and no. -/
def Reads (l : List UInt8) (w : World) (e : Ending) (w' : World) : Prop :=
  w = w' ∧ match readR l with
    | some n => e = .returned (.tuple #[.float .f32 n, .bool true])
    | none => ∃ b, e = .returned (.tuple #[.float .f32 b, .bool false])

theorem Reads.no {l : List UInt8} {w : World} {b : Nat} (h : readR l = none) : Reads l w (.returned (.tuple #[.float .f32 b, .bool false])) w := by
  unfold Reads; rw [h]; exact ⟨rfl, b, rfl⟩
theorem Reads.yes {l : List UInt8} {w : World} {n : Nat} (h : readR l = some n) : Reads l w (.returned (.tuple #[.float .f32 n, .bool true])) w := by
  unfold Reads; rw [h]; exact ⟨rfl, rfl⟩

theorem idx_str {P : Program} (t : TypeId) (ht : P.underlying t = some .string) (s : ByteArray) (k : Nat) (hk : k < s.data.toList.length) (w : World) :
    (Instr.index t (.string s) (.int .i64 (k : Int))).run P w = .ok (.int .u8 ((s.data.toList[k]).toNat : Int)) w := by
  have hk' : k < s.size := by rw [ba_size]; exact hk
  rw [run_index_string w t s .i64 _ ht, dif_pos ⟨by omega, by omega⟩]
  simp only [Int.toNat_natCast]
  rfl

end Go.Proofs.YtmieiaakjiklfaaDoor
