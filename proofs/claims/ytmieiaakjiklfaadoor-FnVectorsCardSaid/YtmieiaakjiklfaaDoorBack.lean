/-
  What is written is read back. Conditions: none.
-/
import Derived.Test.YtmieiaakjiklfaaDoorReadMat2
import Derived.Test.YtmieiaakjiklfaaDoorTable
namespace Go.Proofs.YtmieiaakjiklfaaDoor
open Go.RowKit Go.Lib Go.Sx

theorem splitL_none {c : UInt8} : ∀ {p : List UInt8}, (∀ x ∈ p, x ≠ c) → splitL c p = [p]
  | [], _ => by simp [splitL]
  | x :: p, h => by
    rw [splitL_miss p (h x (List.mem_cons_self ..)), splitL_none fun y hy => h y (List.mem_cons_of_mem _ hy)]
    rfl
theorem splitL_cons {c : UInt8} (r : List UInt8) : ∀ {p : List UInt8}, (∀ x ∈ p, x ≠ c) → splitL c (p ++ c :: r) = p :: splitL c r
  | [], _ => splitL_hit c r
  | x :: p, h => by
    show splitL c (x :: (p ++ c :: r)) = _
    rw [splitL_miss _ (h x (List.mem_cons_self ..)), splitL_cons r fun y hy => h y (List.mem_cons_of_mem _ hy)]
    rfl

theorem hexD_plain : ∀ k : Fin 16, hexD k.1 ≠ 32 ∧ hexD k.1 ≠ 10 := by decide
theorem hex8_plain (n : Nat) : ∀ x ∈ hex8 n, x ≠ 32 ∧ x ≠ 10 := by
  intro x hx
  unfold hex8 at hx
  simp only [List.mem_cons, List.not_mem_nil, or_false] at hx
  rcases hx with rfl | rfl | rfl | rfl | rfl | rfl | rfl | rfl <;> exact hexD_plain ⟨_, Nat.mod_lt _ (by decide)⟩

theorem rowT3 (b : Nat → Nat) : rowT b 3 = hex8 (txt (b 0)) ++ 32 :: (hex8 (txt (b 1)) ++ 32 :: hex8 (txt (b 2))) := by simp [rowT]
theorem matT3 (b : Nat → Nat) : matT b 3 = rowT (fun i => b (3 * 0 + i)) 3 ++ 10 :: (rowT (fun i => b (3 * 1 + i)) 3 ++ 10 :: (rowT (fun i => b (3 * 2 + i)) 3 ++ 10 :: [])) := by simp [matT]

theorem row_back (b : Nat → Nat) (h : ∀ i, i < 3 → txt (b i) < 4294967296) : readVecR (rowT b 3) = some (txt (b 0), txt (b 1), txt (b 2)) := by
  unfold readVecR
  rw [rowT3, splitL_cons _ fun x hx => (hex8_plain _ x hx).1, splitL_cons _ fun x hx => (hex8_plain _ x hx).1, splitL_none fun x hx => (hex8_plain _ x hx).1]
  simp only [readAll, readR_hex8 (h 0 (by omega)) (txt_txt _), readR_hex8 (h 1 (by omega)) (txt_txt _), readR_hex8 (h 2 (by omega)) (txt_txt _)]

theorem row_plain (b : Nat → Nat) : ∀ x ∈ rowT b 3, x ≠ 10 := by
  intro x hx
  rw [rowT3] at hx
  simp only [List.mem_append, List.mem_cons] at hx
  rcases hx with hx | rfl | hx | rfl | hx
  · exact (hex8_plain _ x hx).2
  · decide
  · exact (hex8_plain _ x hx).2
  · decide
  · exact (hex8_plain _ x hx).2

theorem mat_back (b : Nat → Nat) (h : ∀ i, i < 9 → txt (b i) < 4294967296) : readMatR (matT b 3) = some fun i => [txt (b 0), txt (b 1), txt (b 2), txt (b 3), txt (b 4), txt (b 5), txt (b 6), txt (b 7), txt (b 8)].getD i 0 := by
  unfold readMatR
  rw [matT3, splitL_cons _ (row_plain _), splitL_cons _ (row_plain _), splitL_cons _ (row_plain _)]
  simp only [splitL, if_true, row_back (fun i => b (3 * 0 + i)) (fun i hi => h _ (by omega)), row_back (fun i => b (3 * 1 + i)) (fun i hi => h _ (by omega)), row_back (fun i => b (3 * 2 + i)) (fun i hi => h _ (by omega)), joinM]

/-- The bits that a text shows, of a number with one name for all NaNs. -/
def txtC : CF → Nat
  | none => 2143289344
  | some c => c
theorem txt_eq (b : Nat) : txt b = txtC (canon .f32 b) := by
  unfold txt canon nanB
  cases h : (FloatKind.f32.format.read b).isNaN <;> rfl
theorem canon_txt (b : Nat) : canon .f32 (txt b) = canon .f32 b := by
  unfold txt canon nanB
  cases h : (FloatKind.f32.format.read b).isNaN
  · simp [h]
  · have : (FloatKind.f32.format.read 2143289344).isNaN = true := by decide +kernel
    simp [this]
end Go.Proofs.YtmieiaakjiklfaaDoor
