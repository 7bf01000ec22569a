/-
  How long the bytes are; a number of the first byte. Conditions: the bytes lie there.
-/
import Derived.Test.YtcoediecgmdkpaaDrawMat
namespace Go.Proofs.Ytcoediecgmdkpaa
open Go.RowKit Go.Lib Go.Sx
set_option maxRecDepth 100000

theorem long_calls (p q : Option Addr) (m n c d : Nat) (w : World) :
    Calls Try.prog 4 #[.slice p m c, .slice q n d] w fun e w' => e = .returned (.bool (decide (3000 < m) || decide (3000 < n))) ∧ w' = w := by
  by_cases h1 : 3000 < m
  · have h1' : (3000 : Int) < (m : Int) := by omega
    go_enter Try.func4, Try.ntmps4
    go_wp2
    go_ret
    exact ⟨by simp [h1], rfl⟩
  · have h1' : ¬ (3000 : Int) < (m : Int) := by omega
    by_cases h2 : 3000 < n
    · have h2' : (3000 : Int) < (n : Int) := by omega
      go_enter Try.func4, Try.ntmps4
      go_wp2
      go_ret
      exact ⟨rfl, rfl⟩
    · have h2' : ¬ (3000 : Int) < (n : Int) := by omega
      go_enter Try.func4, Try.ntmps4
      go_wp2
      go_ret
      exact ⟨rfl, rfl⟩

/-- The first byte, by three. -/
def atZ (zs : List Int) : Int := if 0 < zs.length then zs.getD 0 0 % 3 else 0

set_option maxHeartbeats 1000000 in
theorem at_calls (v : Value) (zs : List Int) (w : World) (h : BytesV v zs w) :
    Calls Try.prog 21 #[v, .int .i64 0, .int .i64 3] w fun e w' => e = .returned (.int .i64 (atZ zs)) ∧ Kept w w' := by
  obtain ⟨p, cap, rfl, hz, hcell⟩ := h
  by_cases hat : 0 < zs.length
  · obtain ⟨a, rfl, hc⟩ := hcell 0 hat
    have hb := hz (zs.getD 0 0) (by rw [List.getD, List.getElem?_eq_getElem hat]; exact List.getElem_mem hat)
    have e1 : atZ zs = zs.getD 0 0 % 3 := by unfold atZ; rw [if_pos hat]
    rw [e1]
    generalize zs.getD 0 0 = z at *
    have hat' : ¬ ((zs.length : Int) ≤ 0) := by omega
    have hat2 : (0 : Int) < (zs.length : Int) := by omega
    have hc : w.cell? a = some (.int .u8 z) := by
      have e : a.add 0 = a := if_pos rfl
      rw [e] at hc; exact hc
    clear hz hcell e1
    generalize hn : zs.length = n at hat hat' hat2
    go_enter Try.func21, Try.ntmps21
    go_wp2
    go_ret
    exact ⟨rfl, Kept.refl _⟩
  · have hat' : (zs.length : Int) ≤ 0 := by omega
    have e1 : atZ zs = 0 := by unfold atZ; rw [if_neg hat]
    rw [e1]
    clear hz hcell e1
    generalize hn : zs.length = n at hat hat'
    go_enter Try.func21, Try.ntmps21
    go_wp2
    go_ret
    exact ⟨rfl, Kept.refl _⟩
end Go.Proofs.Ytcoediecgmdkpaa
