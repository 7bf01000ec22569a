/-
  The reference reads a vector. Conditions: the text is not too long.
-/
import Derived.Test.YtmieiaakjiklfaaDoorNumsSpec
import Derived.Test.YtmieiaakjiklfaaDoorOwn3
import Derived.RegionTactic
import Derived.CellFam
namespace Go.Proofs.YtmieiaakjiklfaaDoor
open Go.RowKit Go.Lib

/-- Three numbers, if a text says so. -/
def readVecR (l : List UInt8) : Option (Nat × Nat × Nat) :=
  match readAll (splitL 32 l) with
  | some [a, b, c] => some (a, b, c)
  | _ => none

theorem readAll_len : ∀ {ps : List (List UInt8)} {ns : List Nat}, readAll ps = some ns → ns.length = ps.length
  | [], ns, h => by cases h; rfl
  | p :: ps, ns, h => by
    simp only [readAll] at h
    split at h
    · rename_i n ms h1 h2
      cases h
      simp [readAll_len h2]
    · cases h

def vecV (a b c : Nat) : Value := .agg #[.float .f32 a, .float .f32 b, .float .f32 c]

def vecPost (l : List UInt8) (yes no : Value) (w : World) (e : Ending) (w' : World) : Prop :=
  Kept w w' ∧ match readVecR l with
    | some (a, b, c) => e = .returned (.tuple #[vecV a b c, yes])
    | none => e = .returned (.tuple #[vecV 0 0 0, no])

theorem vecPost.yes {l : List UInt8} {y n : Value} {w w' : World} {a b c : Nat} (h : readVecR l = some (a, b, c)) (k : Kept w w') : vecPost l y n w (.returned (.tuple #[vecV a b c, y])) w' := by
  unfold vecPost; rw [h]; exact ⟨k, rfl⟩
theorem vecPost.no {l : List UInt8} {y n : Value} {w w' : World} (h : readVecR l = none) (k : Kept w w') : vecPost l y n w (.returned (.tuple #[vecV 0 0 0, n])) w' := by
  unfold vecPost; rw [h]; exact ⟨k, rfl⟩

end Go.Proofs.YtmieiaakjiklfaaDoor
