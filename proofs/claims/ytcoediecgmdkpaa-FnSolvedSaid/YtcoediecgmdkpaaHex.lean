/-
  Hexadecimal numerals in bytes: eight digits, digits without leading zeros, what an eight-letter text says. Conditions: none.
-/
import Derived.Sort.Row
namespace Go.Proofs.Ytcoediecgmdkpaa
open Go.Sort

/-- A digit's letter. -/
def hexD (n : Nat) : UInt8 := if n < 10 then UInt8.ofNat (48 + n) else UInt8.ofNat (87 + n)

theorem hexD_nat {n : Nat} (h : n < 16) : (hexD n).toNat = if n < 10 then 48 + n else 87 + n := by
  unfold hexD
  split <;> (rw [UInt8.toNat_ofNat']; omega)

theorem hexD_inj {a b : Nat} (ha : a < 16) (hb : b < 16) (h : hexD a = hexD b) : a = b := by
  have := congrArg UInt8.toNat h
  rw [hexD_nat ha, hexD_nat hb] at this
  split at this <;> split at this <;> omega

/-- The eight digits of a number. -/
def hex8 (n : Nat) : List UInt8 :=
  [hexD (n / 268435456 % 16), hexD (n / 16777216 % 16), hexD (n / 1048576 % 16), hexD (n / 65536 % 16), hexD (n / 4096 % 16), hexD (n / 256 % 16), hexD (n / 16 % 16), hexD (n % 16)]

theorem hex8_length (n : Nat) : (hex8 n).length = 8 := rfl

theorem hex8_inj {a b : Nat} (ha : a < 4294967296) (hb : b < 4294967296) (h : hex8 a = hex8 b) : a = b := by
  unfold hex8 at h
  simp only [List.cons.injEq, and_true] at h
  obtain ⟨h7, h6, h5, h4, h3, h2, h1, h0⟩ := h
  have e0 := hexD_inj (by omega) (by omega) h0
  have e1 := hexD_inj (by omega) (by omega) h1
  have e2 := hexD_inj (by omega) (by omega) h2
  have e3 := hexD_inj (by omega) (by omega) h3
  have e4 := hexD_inj (by omega) (by omega) h4
  have e5 := hexD_inj (by omega) (by omega) h5
  have e6 := hexD_inj (by omega) (by omega) h6
  have e7 := hexD_inj (by omega) (by omega) h7
  omega

/-- How many digits. -/
def hexLen (n : Nat) : Nat :=
  if n < 16 then 1 else if n < 256 then 2 else if n < 4096 then 3 else if n < 65536 then 4 else if n < 1048576 then 5 else if n < 16777216 then 6 else if n < 268435456 then 7 else 8

/-- The digits without leading zeros (of a number below 2^32). -/
def hexN (n : Nat) : List UInt8 := (hex8 n).drop (8 - hexLen n)

theorem hexLen_bd (n : Nat) : 1 ≤ hexLen n ∧ hexLen n ≤ 8 := by unfold hexLen; repeat' split
                                                                all_goals omega
theorem hexN_length (n : Nat) : (hexN n).length = hexLen n := by
  have := hexLen_bd n
  rw [hexN, List.length_drop, hex8_length]; omega

theorem hexD_zero : hexD 0 = 48 := rfl

theorem zero_is {k : Nat} (h : k = 0) : (48 : UInt8) = hexD k := by subst h; rfl

/-- Zeros ahead make it eight. -/
theorem hexN_pad {n : Nat} (h : n < 4294967296) : List.replicate (8 - hexLen n) 48 ++ hexN n = hex8 n := by
  unfold hexN hexLen
  repeat' split
  all_goals simp only [hex8, List.drop_succ_cons, List.drop_zero, List.replicate, List.cons_append, List.nil_append, Nat.reduceSub, List.cons.injEq, and_true]
  all_goals repeat' (apply And.intro)
  all_goals exact zero_is (by omega)

end Go.Proofs.Ytcoediecgmdkpaa
