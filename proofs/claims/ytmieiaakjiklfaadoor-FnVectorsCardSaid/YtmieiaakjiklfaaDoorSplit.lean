/-
  A text cut at a byte. Conditions: none.
-/
import Derived.Test.YtmieiaakjiklfaaDoorRead
import Derived.Lib.SplitLaws
namespace Go.Proofs.YtmieiaakjiklfaaDoor
open Go.RowKit Go.Lib

/-- The pieces between the bytes c. -/
def splitL (c : UInt8) : List UInt8 → List (List UInt8)
  | [] => [[]]
  | x :: r => if x = c then [] :: splitL c r else match splitL c r with
    | p :: ps => (x :: p) :: ps
    | [] => [[x]]

theorem splitL_ne (c : UInt8) (l : List UInt8) : splitL c l ≠ [] := by
  cases l with
  | nil => simp [splitL]
  | cons x r =>
    simp only [splitL]
    split
    · simp
    · split <;> simp

/-- A beginning laid to the first piece. -/
def glue (p : List UInt8) : List (List UInt8) → List (List UInt8)
  | q :: qs => (p ++ q) :: qs
  | [] => [p]

theorem glue_nil {l : List (List UInt8)} (h : l ≠ []) : glue [] l = l := by cases l <;> simp_all [glue]
theorem glue_glue (p q : List UInt8) {l : List (List UInt8)} (h : l ≠ []) : glue p (glue q l) = glue (p ++ q) l := by cases l <;> simp_all [glue]
theorem splitL_hit (c : UInt8) (r : List UInt8) : splitL c (c :: r) = [] :: splitL c r := by simp [splitL]
theorem splitL_miss {c x : UInt8} (r : List UInt8) (h : x ≠ c) : splitL c (x :: r) = glue [x] (splitL c r) := by
  have := splitL_ne c r
  simp only [splitL, if_neg h]
  cases hs : splitL c r <;> simp_all [glue]

theorem splitL_len (c : UInt8) : ∀ l : List UInt8, (splitL c l).length ≤ l.length + 1
  | [] => by simp [splitL]
  | x :: r => by
    have ih := splitL_len c r
    by_cases h : x = c
    · subst h; rw [splitL_hit]; simp; omega
    · rw [splitL_miss r h]
      cases hs : splitL c r with
      | nil => exact absurd hs (splitL_ne c r)
      | cons p ps => rw [hs] at ih; simp [glue] at ih ⊢; omega

theorem split_eq (c : UInt8) : ∀ l : List UInt8, splitK [c] 0 (count l [c]) l = splitL c l
  | [] => by rw [count_miss (by simp [index])]; rfl
  | x :: r => by
    have ih := split_eq c r
    by_cases h : x = c
    · subst h
      have hix : index (x :: r) [x] = 0 := by rw [index]; simp [List.isPrefixOf]
      rw [count_cons_eq, splitL_hit, Nat.add_comm, splitK, hix, ← ih]
      simp
    · rw [count_cons_ne x c r h, splitL_miss r h, ← ih]
      have hp : ([c] : List UInt8).isPrefixOf (x :: r) = false := by simp [List.isPrefixOf, Ne.symm h]
      have hix : index (x :: r) [c] = if index r [c] == -1 then -1 else index r [c] + 1 := by rw [index, hp]; simp
      by_cases hm : index r [c] = -1
      · rw [count_miss hm]; simp [splitK, glue]
      · have hge := index_ge r [c]
        obtain ⟨j, hj⟩ : ∃ j : Nat, index r [c] = j := ⟨(index r [c]).toNat, by omega⟩
        rw [count_hit (by simp) hj, Nat.add_comm]
        have hix' : index (x :: r) [c] = ((j + 1 : Nat) : Int) := by rw [hix, if_neg (fun e => hm (beq_iff_eq.1 e)), hj]; omega
        simp only [splitK, hix', hj]
        rw [if_neg (fun e => by have := beq_iff_eq.1 e; omega), if_neg (fun e => by have := beq_iff_eq.1 e; omega)]
        simp [glue]

/-- The library's pieces. -/
theorem split_pieces (c : UInt8) (s : ByteArray) : (splitB ⟨#[c]⟩ 0 (countB s ⟨#[c]⟩) s).map (·.data.toList) = splitL c s.data.toList := by
  rw [splitB_data]
  exact split_eq c s.data.toList

def strV (ps : List (List UInt8)) : List Value := ps.map fun p => Value.string ⟨p.toArray⟩

theorem split_vals (c : UInt8) (s : ByteArray) : (splitB ⟨#[c]⟩ 0 (countB s ⟨#[c]⟩) s).map Value.string = strV (splitL c s.data.toList) := by
  rw [← split_pieces]
  simp [strV]

theorem count_pieces (c : UInt8) (s : ByteArray) : countB s ⟨#[c]⟩ + 1 = (splitL c s.data.toList).length := by
  rw [← split_pieces, List.length_map, splitB_all _ (by show 1 ≤ 1; omega) 0 _ s rfl]

/-- Strings in memory. -/
def StrRow (w : World) (g : Nat) (ps : List (List UInt8)) : Prop := ∀ j p, ps[j]? = some p → w.cell? ⟨g, j, none⟩ = some (.string ⟨p.toArray⟩)

end Go.Proofs.YtmieiaakjiklfaaDoor
