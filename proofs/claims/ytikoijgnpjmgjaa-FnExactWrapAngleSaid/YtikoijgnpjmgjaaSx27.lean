/-
  A great angle and its whole turns lie near each other. Conditions: none.
-/
import Derived.Test.YtikoijgnpjmgjaaSx26
namespace Go.Sx
open Ieee

def wrapC : Nat := 4618760256179416344
theorem readC : double.read wrapC = .number false 7074237752028440 (-50) := by decide +kernel
theorem canonC : canon .f64 wrapC = some wrapC := canon_num (show (double.read wrapC).isNaN = false by rw [readC]; rfl)

/-- A number that is whole is written as a whole number. -/
theorem whole_write {b : Nat} {s : Bool} {m : Nat} {e : Int} (h : double.read b = .number s m e) (hm : m ≠ 0) (h0 : 0 ≤ e) :
    ∃ m' e', double.read (double.nearest s (m * 2 ^ e.toNat) 0) = .number s m' e' ∧ (-1074 : Int) ≤ e' ∧ m' * 2 ^ (e' + 1074).toNat = m * 2 ^ (e + 1074).toNat := by
  obtain ⟨hm53, he, he2⟩ := dec64 h
  obtain ⟨s1, s2, s3, s4, s5, s6⟩ := double_facts
  have hlog := log2_lt (n := m) (k := 52) hm53
  have hle : lastPlace double m (0 + (e.toNat : Int)) ≤ 0 + (e.toNat : Int) := by unfold lastPlace; rw [s4, s5]; omega
  rw [nearest_shift double s hm e.toNat hle]
  have h971 : lastPlace double m (0 + (e.toNat : Int)) ≤ 971 := by unfold lastPlace; rw [s4, s5]; omega
  have hl2 : double.leastPlace ≤ lastPlace double m (0 + (e.toNat : Int)) := Int.le_max_right _ _
  rw [s4] at hl2
  have hx := (nearest_exactB double s hm hle (by rw [s4, s6]; omega)).1
  refine ⟨_, _, hx, hl2, ?_⟩
  rw [Nat.mul_assoc, ← Nat.pow_add]
  congr 2; omega

theorem quo_mag {D n : Nat} (hn : n ≠ 0) : (2 * (D / n) + (D % n != 0).toNat) * n ≤ 2 * D + n ∧ 2 * D ≤ (2 * (D / n) + (D % n != 0).toNat) * n + n := by
  have h1 := Nat.div_add_mod D n
  have h2 : D % n < n := Nat.mod_lt _ (Nat.pos_of_ne_zero hn)
  have h3 : D / n * n + D % n = D := by rw [Nat.mul_comm]; exact h1
  generalize D / n = f at *
  generalize D % n = r at *
  have h4 : (2 * f + (r != 0).toNat) * n = 2 * (f * n) + (r != 0).toNat * n := by rw [Nat.add_mul, Nat.mul_assoc]
  rw [h4]
  generalize f * n = F at *
  by_cases hr : r = 0
  · subst hr; simp; omega
  · have : (r != 0) = true := by simpa using hr
    rw [this]
    simp only [Bool.toNat_true, Nat.one_mul]
    omega

theorem wrap_arith {Gn N XX Qn Y : Nat} (a1 : Gn ≤ XX + N) (a2 : XX ≤ Gn + N) (a3 : N * 18014398509481984 ≤ XX) (b1 : Qn * 9007199254740992 ≤ Gn * 9007199254740992 + Gn) (b2 : Gn * 9007199254740992 ≤ Qn * 9007199254740992 + Gn)
    (c1 : Y * 9007199254740992 ≤ Qn * 9007199254740992 + Qn) (c2 : Qn * 9007199254740992 ≤ Y * 9007199254740992 + Qn) :
    Y * 9007199254740992 ≤ XX * 9007199254740992 + 8 * XX ∧ XX * 9007199254740992 ≤ Y * 9007199254740992 + 8 * XX := by omega

theorem log2_mul_ge {m n : Nat} (hm : m ≠ 0) (hn : n ≠ 0) : m.log2 + n.log2 ≤ (m * n).log2 ∧ (m * n).log2 ≤ m.log2 + n.log2 + 1 := by
  have h1 := Nat.log2_self_le hm
  have h2 := Nat.log2_self_le hn
  have h3 : m < 2 ^ (m.log2 + 1) := Nat.lt_log2_self
  have h4 : n < 2 ^ (n.log2 + 1) := Nat.lt_log2_self
  constructor
  · refine log2_ge ?_
    rw [Nat.pow_add]; exact Nat.mul_le_mul h1 h2
  · refine log2_lt ?_
    rw [show m.log2 + n.log2 + 1 + 1 = (m.log2 + 1) + (n.log2 + 1) by omega, Nat.pow_add]
    exact Nat.mul_lt_mul'' h3 h4

/-- A number whose value in least units is that of a whole number of at least 2 ^ 60. -/
theorem whole_place {b : Nat} {s : Bool} {m : Nat} {e : Int} {R : Nat} (h : double.read b = .number s m e) (hv : m * 2 ^ (e + 1074).toNat = R * 2 ^ 1074) (hR : 2 ^ 60 ≤ R) : m ≠ 0 ∧ 0 ≤ e ∧ m * 2 ^ e.toNat = R := by
  obtain ⟨hm53, he, he2⟩ := dec64 h
  have hm : m ≠ 0 := by
    intro h0; subst h0
    have h1 := Nat.two_pow_pos 1074
    have h2 := Nat.two_pow_pos 60
    have h3 : R * 2 ^ 1074 ≠ 0 := Nat.mul_ne_zero (by omega) (by omega)
    rw [← hv] at h3; simp at h3
  have he0 : 0 ≤ e := by
    rcases Int.lt_or_le e 0 with hlt | hge
    · exfalso
      have h1 : m * 2 ^ (e + 1074).toNat ≤ m * 2 ^ 1074 := Nat.mul_le_mul_left _ (pow_mono _ 1074 (by omega))
      rw [hv] at h1
      have h2 := Nat.le_of_mul_le_mul_right h1 (Nat.two_pow_pos 1074)
      have h3 : 2 ^ 60 ≤ m := Nat.le_trans hR h2
      have h4 : m < 2 ^ 60 := Nat.lt_of_lt_of_le hm53 (by decide)
      omega
    · exact hge
  refine ⟨hm, he0, ?_⟩
  have h1 : m * 2 ^ e.toNat * 2 ^ 1074 = R * 2 ^ 1074 := by
    rw [← hv, show (e + 1074).toNat = e.toNat + 1074 by omega, Nat.pow_add, Nat.mul_assoc]
  exact Nat.eq_of_mul_eq_mul_right (Nat.two_pow_pos 1074) h1

end Go.Sx
