/-
  The whole turns of a great angle. Conditions: none.
-/
import Derived.Test.YtikoijgnpjmgjaaSx27
namespace Go.Sx
open Ieee

def wrapY (x : CF) : CF := cbin .mul .f64 (canon .f64 wrapC) (cint .even (cbin .quo .f64 x (canon .f64 wrapC)))

theorem pow_parts (t a b : Nat) (h : t = a + b) : 2 ^ t = 2 ^ a * 2 ^ b := by
  subst h; exact Nat.pow_add 2 a b

theorem log2C : Nat.log2 7074237752028440 = 52 := by decide +kernel

theorem wrap_big {a : Nat} {s : Bool} {m : Nat} {e : Int} (ha : double.read a = .number s m e) (hm : m ≠ 0) (hlo : 100 ≤ e + m.log2) (hhi : e + m.log2 ≤ 130) :
    ∃ b my ey, wrapY (some a) = some b ∧ double.read b = .number s my ey ∧ (-1074 : Int) ≤ ey ∧ m * 2 ^ (e + 1074).toNat ≤ my * 2 ^ (ey + 1074).toNat + 2 ^ 1160 ∧ my * 2 ^ (ey + 1074).toNat ≤ m * 2 ^ (e + 1074).toNat + 2 ^ 1160 := by
  obtain ⟨hm53, he1, he2⟩ := dec64 ha
  have hlm := log2_lt (n := m) (k := 52) hm53
  have hmle := Nat.log2_self_le hm
  have hmlt : m < 2 ^ (m.log2 + 1) := Nat.lt_log2_self
  have he0 : 0 ≤ e := by omega
  -- the quotient
  have hn0 : (7074237752028440 : Nat) ≠ 0 := by decide
  generalize hmore : 54 + Nat.log2 7074237752028440 - m.log2 = more
  rw [log2C] at hmore
  generalize hD : m <<< more = D
  have hD' : D = m * 2 ^ more := by rw [← hD, Nat.shiftLeft_eq]
  have hDlo : 2 ^ 106 ≤ D := by
    rw [hD']
    calc 2 ^ 106 = 2 ^ m.log2 * 2 ^ more := by rw [← Nat.pow_add]; congr 1; omega
      _ ≤ m * 2 ^ more := Nat.mul_le_mul_right _ hmle
  have hDhi : D < 2 ^ 107 := by
    rw [hD']
    calc m * 2 ^ more < 2 ^ (m.log2 + 1) * 2 ^ more := Nat.mul_lt_mul_of_pos_right hmlt (Nat.two_pow_pos _)
      _ = 2 ^ 107 := by rw [← Nat.pow_add]; congr 1; omega
  obtain ⟨q1, q2⟩ := quo_mag (D := D) hn0
  generalize hg : 2 * (D / 7074237752028440) + (D % 7074237752028440 != 0).toNat = g at *
  have hq : cbin .quo .f64 (some a) (canon .f64 wrapC) = some (double.nearest s g (e + 49 - more)) := by
    rw [canonC]
    show Option.map double.write ((double.read a).quotient 54 (double.read wrapC)) = _
    rw [ha, readC]
    simp only [Datum.quotient]
    rw [if_neg hn0]
    simp only [Option.map_some, log2C, hmore, hD, hg, Bool.xor_false]
    show some (double.nearest s g _) = _
    congr 2
    omega
  have hglo : 2 ^ 54 ≤ g := by
    have e106 : (2 : Nat) ^ 106 = 81129638414606681695789005144064 := by decide
    rw [e106] at hDlo
    rw [show (2 : Nat) ^ 54 = 18014398509481984 by decide]
    omega
  have hghi : g < 2 ^ 57 := by
    have e107 : (2 : Nat) ^ 107 = 162259276829213363391578010288128 := by decide
    rw [e107] at hDhi
    rw [show (2 : Nat) ^ 57 = 144115188075855872 by decide]
    omega
  have hg0 : g ≠ 0 := by intro h; rw [h] at hglo; simp at hglo
  have hgl1 := log2_ge hglo
  have hgl2 := log2_lt (n := g) (k := 56) hghi
  obtain ⟨p, hp⟩ : ∃ p : Nat, (p : Int) = e + 49 - more := ⟨(e + 49 - more).toNat, by omega⟩
  obtain ⟨Q, mq, eq, r1, r2, r3, r4, r5⟩ := near_rel s (mag := g) (place := e + 49 - more) (a := 0) (b := p) hg0 (by omega) (by omega) (by omega)
  rw [Nat.pow_zero, Nat.mul_one] at r4 r5
  have hQlo : 2 ^ 95 ≤ Q := by
    have h1 : 2 ^ 97 ≤ g * 2 ^ p := by
      calc 2 ^ 97 ≤ 2 ^ (54 + p) := pow_mono 97 _ (by omega)
        _ = 2 ^ 54 * 2 ^ p := by rw [Nat.pow_add]
        _ ≤ g * 2 ^ p := Nat.mul_le_mul_right _ hglo
    generalize g * 2 ^ p = G at *
    rw [show (2 : Nat) ^ 97 = 158456325028528675187087900672 by decide] at h1
    rw [show (2 : Nat) ^ 95 = 39614081257132168796771975168 by decide]
    rw [show (2 : Nat) ^ 53 = 9007199254740992 by decide] at r5
    omega
  have hQhi : Q < 2 ^ 140 := by
    have h1 : g * 2 ^ p < 2 ^ 138 := by
      calc g * 2 ^ p < 2 ^ 57 * 2 ^ p := Nat.mul_lt_mul_of_pos_right hghi (Nat.two_pow_pos _)
        _ = 2 ^ (57 + p) := by rw [Nat.pow_add]
        _ ≤ 2 ^ 138 := pow_mono _ 138 (by omega)
    generalize g * 2 ^ p = G at *
    rw [show (2 : Nat) ^ 138 = 348449143727040986586495598010130648530944 by decide] at h1
    rw [show (2 : Nat) ^ 140 = 1393796574908163946345982392040522594123776 by decide]
    rw [show (2 : Nat) ^ 53 = 9007199254740992 by decide] at r4
    omega
  obtain ⟨hmq, heq, hval⟩ := whole_place r1 r3 (Nat.le_trans (pow_mono 60 95 (by decide)) hQlo)
  -- made whole
  have hn : cint .even (some (double.nearest s g (e + 49 - more))) = some (double.nearest s (mq * 2 ^ eq.toNat) 0) := by
    show some (double.write ((double.read (double.nearest s g (e + 49 - more))).integral .even)) = _
    rw [r1]
    show some (double.nearest s (Toward.even.cut s (mq <<< eq.toNat) (-eq).toNat) 0) = _
    rw [show (-eq).toNat = 0 by omega, cut_even_sign s false, cut_zero, Nat.shiftLeft_eq]
  obtain ⟨m2, e2, w1, w2, w3⟩ := whole_write r1 hmq heq
  have w3' : m2 * 2 ^ (e2 + 1074).toNat = Q * 2 ^ 1074 := w3.trans r3
  obtain ⟨hm2, he20, hval2⟩ := whole_place w1 w3' (Nat.le_trans (pow_mono 60 95 (by decide)) hQlo)
  -- the product
  have hy : wrapY (some a) = some (double.nearest s (7074237752028440 * m2) (-50 + e2)) := by
    unfold wrapY
    rw [hq, hn, canonC]
    show Option.map double.write ((double.read wrapC).product (double.read _)) = _
    rw [w1, readC]
    simp only [Datum.product, Bool.false_xor]
    rfl
  have hm2l : m2.log2 + e2.toNat ≤ 139 ∧ 95 ≤ m2.log2 + e2.toNat := by
    constructor
    · have h1 : 2 ^ (m2.log2 + e2.toNat) < 2 ^ 140 := by
        rw [Nat.pow_add]
        refine Nat.lt_of_le_of_lt (Nat.mul_le_mul_right _ (Nat.log2_self_le hm2)) ?_
        rw [hval2]; exact hQhi
      have := (Nat.pow_lt_pow_iff_right (by decide : 1 < 2)).1 h1
      omega
    · have h1 : 2 ^ 95 < 2 ^ (m2.log2 + 1 + e2.toNat) := by
        rw [Nat.pow_add]
        refine Nat.lt_of_le_of_lt hQlo ?_
        rw [← hval2]
        exact Nat.mul_lt_mul_of_pos_right Nat.lt_log2_self (Nat.two_pow_pos _)
      have := (Nat.pow_lt_pow_iff_right (by decide : 1 < 2)).1 h1
      omega
  obtain ⟨l1, l2⟩ := log2_mul_ge hn0 hm2
  rw [log2C] at l1 l2
  obtain ⟨Y, my, ey, y1, y2, y3, y4, y5⟩ := near_rel s (mag := 7074237752028440 * m2) (place := -50 + e2) (a := 50) (b := e2.toNat) (Nat.mul_ne_zero hn0 hm2) (by omega) (by omega) (by omega)
  refine ⟨_, my, ey, hy, y1, y2, ?_⟩
  -- the arithmetic
  rw [y3]
  have hX : m * 2 ^ (e + 1074).toNat = m * 2 ^ e.toNat * 2 ^ 1074 := by rw [show (e + 1074).toNat = e.toNat + 1074 by omega, Nat.pow_add, Nat.mul_assoc]
  rw [hX]
  have hmn : 7074237752028440 * m2 * 2 ^ e2.toNat = Q * 7074237752028440 := by rw [Nat.mul_assoc, hval2, Nat.mul_comm]
  rw [hmn] at y4 y5
  have h2D : 2 * D * 2 ^ p = m * 2 ^ e.toNat * 2 ^ 50 := by
    rw [hD', Nat.mul_assoc m, ← Nat.pow_add]
    calc 2 * (m * 2 ^ more) * 2 ^ p = m * (2 ^ 1 * 2 ^ more * 2 ^ p) := by rw [Nat.pow_one]; ac_rfl
      _ = m * 2 ^ (e.toNat + 50) := by rw [← Nat.pow_add, ← Nat.pow_add]; congr 2; omega
  have hN : 7074237752028440 * 2 ^ p * 18014398509481984 ≤ m * 2 ^ e.toNat * 2 ^ 50 := by
    rw [← h2D]
    have h1 : 7074237752028440 * 18014398509481984 ≤ 2 * D := Nat.le_trans (by decide) (Nat.mul_le_mul_left 2 hDlo)
    calc 7074237752028440 * 2 ^ p * 18014398509481984 = 7074237752028440 * 18014398509481984 * 2 ^ p := by ac_rfl
      _ ≤ 2 * D * 2 ^ p := Nat.mul_le_mul_right _ h1
  have a1 : g * 2 ^ p * 7074237752028440 ≤ m * 2 ^ e.toNat * 2 ^ 50 + 7074237752028440 * 2 ^ p := by
    rw [← h2D]
    calc g * 2 ^ p * 7074237752028440 = g * 7074237752028440 * 2 ^ p := by ac_rfl
      _ ≤ (2 * D + 7074237752028440) * 2 ^ p := Nat.mul_le_mul_right _ q1
      _ = _ := by rw [Nat.add_mul]
  have a2 : m * 2 ^ e.toNat * 2 ^ 50 ≤ g * 2 ^ p * 7074237752028440 + 7074237752028440 * 2 ^ p := by
    rw [← h2D]
    calc 2 * D * 2 ^ p ≤ (g * 7074237752028440 + 7074237752028440) * 2 ^ p := Nat.mul_le_mul_right _ q2
      _ = g * 2 ^ p * 7074237752028440 + 7074237752028440 * 2 ^ p := by rw [Nat.add_mul]; ac_rfl
  have b1 : Q * 7074237752028440 * 9007199254740992 ≤ g * 2 ^ p * 7074237752028440 * 9007199254740992 + g * 2 ^ p * 7074237752028440 := by
    rw [show (2 : Nat) ^ 53 = 9007199254740992 by decide] at r4
    calc Q * 7074237752028440 * 9007199254740992 = Q * 9007199254740992 * 7074237752028440 := by ac_rfl
      _ ≤ (g * 2 ^ p * 9007199254740992 + g * 2 ^ p) * 7074237752028440 := Nat.mul_le_mul_right _ r4
      _ = _ := by rw [Nat.add_mul]; ac_rfl
  have b2 : g * 2 ^ p * 7074237752028440 * 9007199254740992 ≤ Q * 7074237752028440 * 9007199254740992 + g * 2 ^ p * 7074237752028440 := by
    rw [show (2 : Nat) ^ 53 = 9007199254740992 by decide] at r5
    calc g * 2 ^ p * 7074237752028440 * 9007199254740992 = g * 2 ^ p * 9007199254740992 * 7074237752028440 := by ac_rfl
      _ ≤ (Q * 9007199254740992 + g * 2 ^ p) * 7074237752028440 := Nat.mul_le_mul_right _ r5
      _ = _ := by rw [Nat.add_mul]; ac_rfl
  rw [show (2 : Nat) ^ 53 = 9007199254740992 by decide] at y4 y5
  obtain ⟨z1, z2⟩ := wrap_arith a1 a2 hN b1 b2 y4 y5
  have hXhi : m * 2 ^ e.toNat * 2 ^ 50 ≤ 2 ^ 181 := by
    calc m * 2 ^ e.toNat * 2 ^ 50 ≤ 2 ^ (m.log2 + 1) * 2 ^ e.toNat * 2 ^ 50 := Nat.mul_le_mul_right _ (Nat.mul_le_mul_right _ (Nat.le_of_lt hmlt))
      _ = 2 ^ (m.log2 + 1 + e.toNat + 50) := by rw [← Nat.pow_add, ← Nat.pow_add]
      _ ≤ 2 ^ 181 := pow_mono _ 181 (by omega)
  have hdiff : Y ≤ m * 2 ^ e.toNat + 2 ^ 86 ∧ m * 2 ^ e.toNat ≤ Y + 2 ^ 86 := by
    generalize m * 2 ^ e.toNat = X at *
    rw [show (2 : Nat) ^ 181 = 3064991081731777716716694054300618367237478244367204352 by decide] at hXhi
    rw [show (2 : Nat) ^ 50 = 1125899906842624 by decide] at z1 z2 hXhi
    rw [show (2 : Nat) ^ 86 = 77371252455336267181195264 by decide]
    omega
  rw [pow_parts 1160 86 1074 rfl]
  clear hX y3 w3' w3 r3
  generalize (2 : Nat) ^ 1074 = U
  constructor
  · rw [← Nat.add_mul]; exact Nat.mul_le_mul_right _ hdiff.2
  · rw [← Nat.add_mul]; exact Nat.mul_le_mul_right _ hdiff.1

end Go.Sx
