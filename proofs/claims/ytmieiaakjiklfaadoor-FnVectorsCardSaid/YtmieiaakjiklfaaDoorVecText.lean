/-
  The texts of three numbers, by the reference. Conditions: none.
-/
import Derived.Test.YtmieiaakjiklfaaDoorHexs
import Derived.IntWalk
namespace Go.Proofs.YtmieiaakjiklfaaDoor
open Go.RowKit Go.Sort Go.Lib

/-- The first numbers' texts, with blanks between. -/
def rowT (b : Nat → Nat) : Nat → List UInt8
  | 0 => []
  | k + 1 => rowT b k ++ (if k = 0 then [] else [32]) ++ hex8 (txt (b k))

theorem rowT_len (b : Nat → Nat) : ∀ k, (rowT b k).length ≤ 9 * k
  | 0 => by simp [rowT]
  | k + 1 => by
    have := rowT_len b k
    simp only [rowT, List.length_append, hex8_length]
    split <;> simp <;> omega

theorem ba_size (t : ByteArray) : t.size = t.data.toList.length := by rw [Array.length_toList]; rfl
theorem ba_append (a b : ByteArray) : (a ++ b).data.toList = a.data.toList ++ b.data.toList := by simp
theorem ba_ext {t u : ByteArray} (h : t.data.toList = u.data.toList) : t = u := by
  cases t; cases u; congr 1; exact Array.toList_inj.1 h

/-- Three numbers in memory. -/
def Three (w : World) (blk off : Nat) (b : Nat → Nat) : Prop := ∀ j, j < 3 → w.cell? ⟨blk, off + j, none⟩ = some (.float .f32 (b j)) ∧ txt (b j) < 4294967296

theorem Three.lt {w : World} {blk off : Nat} {b : Nat → Nat} (h : Three w blk off b) : blk < w.heap.size := World.block_lt_of_cell? _ _ (h 0 (by omega)).1
theorem Three.below {w w' : World} {blk off : Nat} {b : Nat → Nat} (h : Three w blk off b) (hb : Below w.heap.size w w') : Three w' blk off b := fun j hj =>
  ⟨(hb.cell (p := ⟨blk, off + j, none⟩) h.lt).trans (h j hj).1, (h j hj).2⟩

end Go.Proofs.YtmieiaakjiklfaaDoor
