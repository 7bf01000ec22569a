/-
  The reference reads numbers. Conditions: the text is not too long.
-/
import Derived.Test.YtmieiaakjiklfaaDoorSplitSpec
namespace Go.Proofs.YtmieiaakjiklfaaDoor
open Go.RowKit Go.Lib

theorem info_f32 : (Tryd.prog.info? 24).map (fun i => (i.zero, i.size, i.bytes)) = some (some (.float .f32 0), 1, 4) := by kernel_rfl

/-- All pieces read. -/
def readAll : List (List UInt8) → Option (List Nat)
  | [] => some []
  | p :: ps => match readR p, readAll ps with
    | some n, some ns => some (n :: ns)
    | _, _ => none

theorem readAll_none {ps : List (List UInt8)} {j : Nat} {p : List UInt8} (h : ps[j]? = some p) (hp : readR p = none) : readAll ps = none := by
  induction ps generalizing j with
  | nil => simp at h
  | cons q qs ih =>
    cases j with
    | zero => simp at h; subst h; simp [readAll, hp]
    | succ j =>
      have := ih (by simpa using h)
      simp only [readAll, this]
      split <;> simp_all

theorem readAll_some {ps : List (List UInt8)} {ns : List Nat} (hl : ns.length = ps.length) (h : ∀ (j : Nat) (p : List UInt8), ps[j]? = some p → ∃ n : Nat, ns[j]? = some n ∧ readR p = some n) : readAll ps = some ns := by
  induction ps generalizing ns with
  | nil => simp at hl; subst hl; rfl
  | cons q qs ih =>
    cases ns with
    | nil => simp at hl
    | cons m ms =>
      obtain ⟨n, h1, h2⟩ := h 0 q rfl
      simp at h1; subst h1
      have := ih (ns := ms) (by simpa using hl) (fun j p hp => by simpa using h (j + 1) p (by simpa using hp))
      simp [readAll, h2, this]

def fltV (ns : List Nat) : List Value := ns.map fun n => Value.float .f32 n

/-- What reading owes: the numbers in memory and yes, or no. -/
def numsPost (ps : List (List UInt8)) (w : World) (e : Ending) (w' : World) : Prop :=
  Below w.heap.size w w' ∧ match readAll ps with
    | some ns => ∃ g cap, e = .returned (.tuple #[.slice (some ⟨g, 0, none⟩) ps.length cap, .bool true]) ∧ (∀ j n, ns[j]? = some n → w'.cell? ⟨g, j, none⟩ = some (.float .f32 n)) ∧ ns.length = ps.length
    | none => ∃ v, e = .returned (.tuple #[v, .bool false])

theorem numsPost.no {ps : List (List UInt8)} {w w' : World} {v : Value} (h : readAll ps = none) (hb : Below w.heap.size w w') : numsPost ps w (.returned (.tuple #[v, .bool false])) w' := by
  unfold numsPost; rw [h]; exact ⟨hb, v, rfl⟩

end Go.Proofs.YtmieiaakjiklfaaDoor
