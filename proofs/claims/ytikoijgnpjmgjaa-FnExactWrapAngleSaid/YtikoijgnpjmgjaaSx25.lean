/-
  How far a rounded float64 number lies from the number that was rounded; great numbers. Conditions: none.
-/
import Derived.Test.YtikoijgnpjmgjaaSx24
namespace Go.Sx
open Ieee

/-- Cut to the nearest: off by half a unit at most. -/
theorem cut_err (n d : Nat) : 2 * (Toward.even.cut false n d * 2 ^ d) ≤ 2 * n + 2 ^ d ∧ 2 * n ≤ 2 * (Toward.even.cut false n d * 2 ^ d) + 2 ^ d := by
  unfold Toward.cut
  dsimp only
  rw [Nat.one_shiftLeft]
  by_cases hd : d ≤ n.log2 + 2
  · rw [Nat.min_eq_left hd]
    have h1 := Nat.div_add_mod n (2 ^ d)
    have h2 : n % 2 ^ d < 2 ^ d := Nat.mod_lt _ (Nat.two_pow_pos d)
    generalize n / 2 ^ d = low at *
    generalize n % 2 ^ d = rest at *
    rw [Nat.mul_comm] at h1
    generalize 2 ^ d = gap at *
    cases hb : (decide (gap < 2 * rest) || (gap == 2 * rest && low % 2 == 1))
    · have hle : 2 * rest ≤ gap := by
        simp only [Bool.or_eq_false_iff, decide_eq_false_iff_not] at hb
        omega
      simp only [Bool.toNat_false, Nat.add_zero]
      omega
    · have hge : gap ≤ 2 * rest := by
        rcases Bool.or_eq_true _ _ ▸ hb with h | h
        · have : gap < 2 * rest := by simpa using h
          omega
        · rw [Bool.and_eq_true] at h
          have : gap = 2 * rest := by simpa using h.1
          omega
      simp only [Bool.toNat_true, Nat.add_mul, Nat.one_mul]
      omega
  · rw [Nat.min_eq_right (by omega)]
    have hlt : n < 2 ^ (n.log2 + 1) := Nat.lt_log2_self
    have h2 : 2 ^ (n.log2 + 2) ≤ 2 ^ d := Nat.pow_le_pow_right (by decide) (by omega)
    have h3 : 2 ^ (n.log2 + 2) = 2 * 2 ^ (n.log2 + 1) := by rw [Nat.pow_succ]; omega
    have h4 : n / 2 ^ (n.log2 + 2) = 0 := Nat.div_eq_of_lt (by omega)
    have h5 : n % 2 ^ (n.log2 + 2) = n := Nat.mod_eq_of_lt (by omega)
    rw [h4, h5]
    have hb : (decide (2 ^ (n.log2 + 2) < 2 * n) || (2 ^ (n.log2 + 2) == 2 * n && 0 % 2 == 1)) = false := by
      have h6 : ¬ 2 ^ (n.log2 + 2) < 2 * n := by omega
      simp [h6]
    rw [hb]
    simp only [Bool.toNat_false, Nat.add_zero, Nat.zero_mul, Nat.mul_zero]
    omega

theorem rel_step {K D mag : Nat} (c1 : 2 * K ≤ 2 * mag + D) (c2 : 2 * mag ≤ 2 * K + D) (hd : D * 2 ^ 52 ≤ mag) : K * 2 ^ 53 ≤ mag * 2 ^ 53 + mag ∧ mag * 2 ^ 53 ≤ K * 2 ^ 53 + mag := by
  have e1 : (2 : Nat) ^ 53 = 9007199254740992 := by decide
  have e2 : (2 : Nat) ^ 52 = 4503599627370496 := by decide
  rw [e1]
  rw [e2] at hd
  omega

/-- A great number, rounded: whole, and off by a 2 ^ -53 at most. -/
theorem near_rel (neg : Bool) {mag : Nat} {place : Int} {a b : Nat} (hm : mag ≠ 0) (hab : (b : Int) - a = place) (h0 : 52 ≤ place + mag.log2) (hfin : place + mag.log2 ≤ 1000) :
    ∃ R m e, double.read (double.nearest neg mag place) = .number neg m e ∧ (-1074 : Int) ≤ e ∧ m * 2 ^ (e + 1074).toNat = R * 2 ^ 1074 ∧
      R * 2 ^ a * 2 ^ 53 ≤ mag * 2 ^ b * 2 ^ 53 + mag * 2 ^ b ∧ mag * 2 ^ b * 2 ^ 53 ≤ R * 2 ^ a * 2 ^ 53 + mag * 2 ^ b := by
  obtain ⟨s1, s2, s3, s4, s5, s6⟩ := double_facts
  obtain ⟨hk1, hk2⟩ := kept_bounds double place hm
  have hlast : lastPlace double mag place = place + mag.log2 - 52 := by unfold lastPlace; rw [s4, s5]; omega
  have hlow : (lastPlace double mag place - double.leastPlace).toNat = 0 ∨ double.binade ≤ keptOf double mag place := by
    rcases hk2 with h2 | h2
    · left; rw [h2]; simp
    · exact .inr h2
  have hup : (lastPlace double mag place - double.leastPlace).toNat ≤ 2022 := by rw [s4]; omega
  have hfin' : (lastPlace double mag place - double.leastPlace).toNat * double.binade + keptOf double mag place < double.infRung := by
    rw [s2] at hk1 ⊢
    rw [s3]
    have := Nat.mul_le_mul_right 4503599627370496 hup
    omega
  obtain ⟨m, e, h1, h2, h3⟩ := read_rung double neg hk1 hlow hfin'
  rw [nearest_eq double neg place hm, Nat.min_eq_left (Nat.le_of_lt hfin'), h1]
  rw [s4] at h2 h3
  obtain ⟨L, hL⟩ : ∃ L : Nat, (L : Int) = lastPlace double mag place := ⟨(lastPlace double mag place).toNat, by omega⟩
  refine ⟨keptOf double mag place * 2 ^ L, m, e, rfl, h2, ?_, ?_⟩
  · rw [show (e + 1074) = (e - -1074) by omega, h3, show (lastPlace double mag place - -1074).toNat = L + 1074 by omega, Nat.pow_add, Nat.mul_assoc]
  · have hmlog := Nat.log2_self_le hm
    by_cases hle : lastPlace double mag place ≤ place
    · have hk : keptOf double mag place = mag * 2 ^ (place - lastPlace double mag place).toNat := by
        unfold keptOf
        rw [show (lastPlace double mag place - place).toNat = 0 by omega, cut_zero, Nat.shiftLeft_eq]
      have e1 : keptOf double mag place * 2 ^ L * 2 ^ a = mag * 2 ^ b := by
        rw [hk, Nat.mul_assoc, Nat.mul_assoc, ← Nat.pow_add, ← Nat.pow_add]
        congr 2; omega
      rw [e1]
      omega
    · have hk : keptOf double mag place = Toward.even.cut false mag (lastPlace double mag place - place).toNat := by
        unfold keptOf
        rw [show (place - lastPlace double mag place).toNat = 0 by omega, Nat.shiftLeft_zero]
      obtain ⟨c1, c2⟩ := cut_err mag (lastPlace double mag place - place).toNat
      rw [← hk] at c1 c2
      have hd : 2 ^ (lastPlace double mag place - place).toNat * 2 ^ 52 ≤ mag := by
        refine Nat.le_trans ?_ hmlog
        rw [← Nat.pow_add]
        exact Nat.pow_le_pow_right (by decide) (by omega)
      have e1 : keptOf double mag place * 2 ^ L * 2 ^ a = keptOf double mag place * 2 ^ (lastPlace double mag place - place).toNat * 2 ^ b := by
        rw [Nat.mul_assoc, Nat.mul_assoc, ← Nat.pow_add, ← Nat.pow_add]
        congr 2; omega
      rw [e1]
      generalize keptOf double mag place * 2 ^ (lastPlace double mag place - place).toNat = K at *
      generalize 2 ^ (lastPlace double mag place - place).toNat = D at *
      obtain ⟨g1, g2⟩ := rel_step c1 c2 hd
      constructor
      · calc K * 2 ^ b * 2 ^ 53 = K * 2 ^ 53 * 2 ^ b := by ac_rfl
          _ ≤ (mag * 2 ^ 53 + mag) * 2 ^ b := Nat.mul_le_mul_right _ g1
          _ = mag * 2 ^ b * 2 ^ 53 + mag * 2 ^ b := by rw [Nat.add_mul]; ac_rfl
      · calc mag * 2 ^ b * 2 ^ 53 = mag * 2 ^ 53 * 2 ^ b := by ac_rfl
          _ ≤ (K * 2 ^ 53 + mag) * 2 ^ b := Nat.mul_le_mul_right _ g2
          _ = K * 2 ^ b * 2 ^ 53 + mag * 2 ^ b := by rw [Nat.add_mul]; ac_rfl

end Go.Sx
