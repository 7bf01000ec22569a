/-
  An angle less its whole turns: the difference is small, never the negative zero. Conditions: none.
-/
import Derived.Test.YtikoijgnpjmgjaaSx25
namespace Go.Sx
open Ieee

/-- A difference of two numbers of one sign. -/
theorem diff_bd {s : Bool} {m n : Nat} {e f : Int} {k : Nat} (he : (-1074 : Int) ≤ e) (hf : (-1074 : Int) ≤ f) (h52 : 52 ≤ k) (hk : k ≤ 2000)
    (h1 : m * 2 ^ (e + 1074).toNat ≤ n * 2 ^ (f + 1074).toNat + 2 ^ k) (h2 : n * 2 ^ (f + 1074).toNat ≤ m * 2 ^ (e + 1074).toNat + 2 ^ k) {r : Datum}
    (h : (Datum.number s m e).sum (Datum.number s n f).opposite = some r) : magLe double (double.write r) k := by
  simp only [Datum.opposite, Datum.sum, Option.some.injEq] at h
  subst h
  show magLe double (double.nearest _ _ _) k
  refine nearest_bd (a := (min e f + 1074).toNat) (b := k) _ h52 hk (by omega) ?_
  rw [sg_not]
  have e1 : (e + 1074).toNat = (e - min e f).toNat + (min e f + 1074).toNat := by omega
  have e2 : (f + 1074).toNat = (f - min e f).toNat + (min e f + 1074).toNat := by omega
  rw [e1, e2, Nat.pow_add, Nat.pow_add, ← Nat.mul_assoc, ← Nat.mul_assoc] at h1
  rw [e1, e2, Nat.pow_add, Nat.pow_add, ← Nat.mul_assoc, ← Nat.mul_assoc] at h2
  generalize (e - min e f).toNat = p at *
  generalize (f - min e f).toNat = q at *
  have hs1 : signed s m p = if s then -((m * 2 ^ p : Nat) : Int) else ((m * 2 ^ p : Nat) : Int) := by unfold signed; rw [Nat.shiftLeft_eq]
  have hs2 : signed s n q = if s then -((n * 2 ^ q : Nat) : Int) else ((n * 2 ^ q : Nat) : Int) := by unfold signed; rw [Nat.shiftLeft_eq]
  rw [hs1, hs2]
  generalize m * 2 ^ p = A at *
  generalize n * 2 ^ q = B at *
  generalize 2 ^ (min e f + 1074).toNat = C at *
  generalize 2 ^ k = D at *
  have hn : ((if s then -(A : Int) else (A : Int)) + -(if s then -(B : Int) else (B : Int))).natAbs = (A - B) + (B - A) := by
    cases s <;> simp <;> omega
  rw [hn, Nat.add_mul, Nat.sub_mul, Nat.sub_mul]
  omega

/-- Made whole, to the nearest. -/
theorem bd_even {k : Nat} {x : CF} (hx : Bd k x) (h0 : 1074 ≤ k) (hk : k ≤ 1900) : Bd (k + 1) (cint .even x) := by
  intro r hr
  cases x with
  | none => cases hr
  | some a =>
    obtain ⟨s, m, e, h1, h2, h3⟩ := bd_db hx rfl
    have hr' : double.write ((double.read a).integral .even) = r := by cases hr; rfl
    rw [h1] at hr'
    subst hr'
    show magLe double (double.nearest s (Toward.even.cut s (m <<< e.toNat) (-e).toNat) 0) (k + 1)
    refine nearest_bd (a := 1074) (b := k + 1) _ (by omega) (by omega) (by omega) ?_
    rw [cut_even_sign s false, Nat.shiftLeft_eq]
    obtain ⟨c1, _⟩ := cut_err (m * 2 ^ e.toNat) (-e).toNat
    generalize Toward.even.cut false (m * 2 ^ e.toNat) (-e).toNat = K at *
    have e3 : m * 2 ^ (e + 1074).toNat * 2 ^ (-e).toNat = (m * 2 ^ e.toNat) * 2 ^ 1074 := pow_split m e 1074 h2
    have hp := Nat.two_pow_pos (-e).toNat
    have hk2 : 2 ^ 1074 ≤ 2 ^ k := pow_mono 1074 k h0
    have hk3 : 2 ^ (k + 1) = 2 * 2 ^ k := by rw [Nat.pow_succ]; omega
    rw [hk3]
    generalize (2 : Nat) ^ 1074 = D at *
    generalize 2 ^ k = G at *
    generalize m * 2 ^ (e + 1074).toNat = M at *
    generalize m * 2 ^ e.toNat = N at *
    generalize 2 ^ (-e).toNat = Q at *
    have h4 : 2 * (K * D) * Q ≤ 4 * G * Q := by
      calc 2 * (K * D) * Q = 2 * (K * Q) * D := by ac_rfl
        _ ≤ (2 * N + Q) * D := Nat.mul_le_mul_right _ c1
        _ = 2 * (M * Q) + D * Q := by rw [Nat.add_mul, e3]; ac_rfl
        _ ≤ 2 * (G * Q) + G * Q := Nat.add_le_add (Nat.mul_le_mul_left _ (Nat.mul_le_mul_right _ h3)) (Nat.mul_le_mul_right _ hk2)
        _ = 3 * G * Q := by rw [Nat.mul_assoc 3]; generalize G * Q = x; omega
        _ ≤ 4 * G * Q := Nat.mul_le_mul_right _ (by omega)
    have h5 := Nat.le_of_mul_le_mul_right h4 hp
    omega

theorem nearest_sign (neg : Bool) {mag : Nat} {place : Int} : ∀ {s m e}, double.read (double.nearest neg mag place) = .number s m e → s = neg := by
  intro s m e h
  obtain ⟨rung, hr, heq⟩ := nearest_rung double neg mag place
  rw [heq] at h
  have hlt : rung < double.signWeight := Nat.lt_of_le_of_lt hr double.infRung_lt
  have hneg : (double.word neg rung / double.signWeight % 2 == 1) = neg := by
    have hw : 0 < double.signWeight := Nat.two_pow_pos _
    unfold Format.word
    cases neg
    · simp [Nat.div_eq_of_lt hlt]
    · simp [Nat.add_div_left _ hw, Nat.div_eq_of_lt hlt]
  unfold Format.read at h
  simp only [hneg] at h
  split at h
  · cases h; rfl
  · split at h
    · cases h; rfl
    · split at h <;> cases h

/-- A number that is not zero, of no finer place than the format has, does not round to zero. -/
theorem nearest_ne_zero (neg : Bool) {mag : Nat} {place : Int} (hm : mag ≠ 0) (hp : (-1074 : Int) ≤ place) {s m e} (h : double.read (double.nearest neg mag place) = .number s m e) : m ≠ 0 := by
  obtain ⟨s1, s2, s3, s4, s5, s6⟩ := double_facts
  obtain ⟨hk1, hk2⟩ := kept_bounds double place hm
  have hlast1 : double.leastPlace ≤ lastPlace double mag place := Int.le_max_right _ _
  have hkept : keptOf double mag place ≠ 0 := by
    by_cases hle : lastPlace double mag place ≤ place
    · unfold keptOf
      rw [show (lastPlace double mag place - place).toNat = 0 by omega, cut_zero, Nat.shiftLeft_eq]
      have := Nat.two_pow_pos (place - lastPlace double mag place).toNat
      exact Nat.mul_ne_zero hm (by omega)
    · rcases hk2 with h2 | h2
      · rw [s4] at h2; omega
      · rw [s2] at h2; omega
  have hlow : (lastPlace double mag place - double.leastPlace).toNat = 0 ∨ double.binade ≤ keptOf double mag place := by
    rcases hk2 with h2 | h2
    · left; rw [h2]; simp
    · exact .inr h2
  rw [nearest_eq double neg place hm] at h
  by_cases hfin : (lastPlace double mag place - double.leastPlace).toNat * double.binade + keptOf double mag place < double.infRung
  · rw [Nat.min_eq_left (Nat.le_of_lt hfin)] at h
    obtain ⟨m', e', h1, h2, h3⟩ := read_rung double neg hk1 hlow hfin
    rw [h1] at h
    cases h
    intro h0
    subst h0
    have := Nat.mul_ne_zero hkept (show 2 ^ (lastPlace double mag place - double.leastPlace).toNat ≠ 0 by have := Nat.two_pow_pos (lastPlace double mag place - double.leastPlace).toNat; omega)
    rw [← h3] at this
    simp at this
  · rw [Nat.min_eq_right (by omega), read_inf double neg (by decide)] at h
    cases h

end Go.Sx
