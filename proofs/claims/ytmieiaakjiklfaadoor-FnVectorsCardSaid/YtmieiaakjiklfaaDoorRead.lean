/-
  What an eight-letter text says; the reference reads it. Conditions: none.
-/
import Derived.Test.YtmieiaakjiklfaaDoorVecText
namespace Go.Proofs.YtmieiaakjiklfaaDoor
open Go.RowKit Go.Sort Go.Lib

/-- A letter's digit. -/
def digV (c : UInt8) : Option Nat :=
  if 48 ≤ c.toNat ∧ c.toNat ≤ 57 then some (c.toNat - 48) else if 97 ≤ c.toNat ∧ c.toNat ≤ 102 then some (c.toNat - 87) else none

def readV : Nat → List UInt8 → Option Nat
  | acc, [] => some acc
  | acc, c :: r => match digV c with
    | some d => readV (acc * 16 + d) r
    | none => none

theorem digV_hexD {d : Nat} (h : d < 16) : digV (hexD d) = some d := by
  unfold digV
  rw [hexD_nat h]
  by_cases h1 : d < 10
  · rw [if_pos h1, if_pos (by omega)]
    congr 1; omega
  · rw [if_neg h1, if_neg (by omega), if_pos (by omega)]
    congr 1; omega

theorem digV_some {c : UInt8} {d : Nat} (h : digV c = some d) : d < 16 ∧ hexD d = c := by
  unfold digV at h
  split at h
  · cases h
    refine ⟨by omega, UInt8.toNat_inj.1 ?_⟩
    rw [hexD_nat (by omega)]; split <;> omega
  · split at h
    · cases h
      refine ⟨by omega, UInt8.toNat_inj.1 ?_⟩
      rw [hexD_nat (by omega)]; split <;> omega
    · cases h

theorem readV_hex8 {n : Nat} (h : n < 4294967296) : readV 0 (hex8 n) = some n := by
  simp only [hex8, readV, digV_hexD (Nat.mod_lt _ (by omega : 16 > 0))]
  congr 1; omega

theorem readV_step {acc : Nat} {c : UInt8} {r : List UInt8} {v : Nat} (h : readV acc (c :: r) = some v) : ∃ d, digV c = some d ∧ readV (acc * 16 + d) r = some v := by
  simp only [readV] at h
  split at h
  · rename_i d hd; exact ⟨d, hd, h⟩
  · cases h

theorem readV_back {l : List UInt8} {v : Nat} (hl : l.length = 8) (h : readV 0 l = some v) : hex8 v = l ∧ v < 4294967296 := by
  match l, hl with
  | [c0, c1, c2, c3, c4, c5, c6, c7], _ =>
    obtain ⟨d0, e0, h0⟩ := readV_step h
    obtain ⟨d1, e1, h1⟩ := readV_step h0
    obtain ⟨d2, e2, h2⟩ := readV_step h1
    obtain ⟨d3, e3, h3⟩ := readV_step h2
    obtain ⟨d4, e4, h4⟩ := readV_step h3
    obtain ⟨d5, e5, h5⟩ := readV_step h4
    obtain ⟨d6, e6, h6⟩ := readV_step h5
    obtain ⟨d7, e7, h7⟩ := readV_step h6
    obtain ⟨b0, rfl⟩ := digV_some e0
    obtain ⟨b1, rfl⟩ := digV_some e1
    obtain ⟨b2, rfl⟩ := digV_some e2
    obtain ⟨b3, rfl⟩ := digV_some e3
    obtain ⟨b4, rfl⟩ := digV_some e4
    obtain ⟨b5, rfl⟩ := digV_some e5
    obtain ⟨b6, rfl⟩ := digV_some e6
    obtain ⟨b7, rfl⟩ := digV_some e7
    have h : (((((((0 * 16 + d0) * 16 + d1) * 16 + d2) * 16 + d3) * 16 + d4) * 16 + d5) * 16 + d6) * 16 + d7 = v := Option.some.inj h7
    refine ⟨?_, by omega⟩
    unfold hex8
    rw [show v / 268435456 % 16 = d0 by omega, show v / 16777216 % 16 = d1 by omega, show v / 1048576 % 16 = d2 by omega, show v / 65536 % 16 = d3 by omega,
      show v / 4096 % 16 = d4 by omega, show v / 256 % 16 = d5 by omega, show v / 16 % 16 = d6 by omega, show v % 16 = d7 by omega]

def canonO : Option Nat → Option Nat
  | some v => if txt v = v then some v else none
  | none => none

/-- What a text says, if it says anything. -/
def readR (l : List UInt8) : Option Nat := if l.length = 8 then canonO (readV 0 l) else none

theorem readR_some {l : List UInt8} {n : Nat} (h : readR l = some n) : l = hex8 n ∧ n < 4294967296 ∧ txt n = n := by
  unfold readR at h
  split at h
  · rename_i hl
    cases hv : readV 0 l with
    | none => rw [hv] at h; cases h
    | some v =>
      rw [hv] at h
      simp only [canonO] at h
      split at h
      · rename_i ht
        cases h
        obtain ⟨h1, h2⟩ := readV_back hl hv
        exact ⟨h1.symm, h2, ht⟩
      · cases h
  · cases h

theorem txt_txt (n : Nat) : txt (txt n) = txt n := by
  unfold txt
  cases h : nanB n
  · simp [h]
  · have : nanB 2143289344 = true := by decide +kernel
    simp [this]

theorem readR_hex8 {n : Nat} (h : n < 4294967296) (ht : txt n = n) : readR (hex8 n) = some n := by
  unfold readR
  rw [if_pos (hex8_length n), readV_hex8 h]
  simp [canonO, ht]

theorem readR_none {l : List UInt8} (h : readR l = none) {n : Nat} (hn : txt n < 4294967296) : hex8 (txt n) ≠ l := fun e => by
  subst e
  rw [readR_hex8 hn (txt_txt n)] at h
  cases h

theorem readV_drop {l : List UInt8} {k acc : Nat} (h : k < l.length) : readV acc (l.drop k) = match digV l[k] with | some d => readV (acc * 16 + d) (l.drop (k + 1)) | none => none := by
  rw [List.drop_eq_getElem_cons h]; rfl

end Go.Proofs.YtmieiaakjiklfaaDoor
