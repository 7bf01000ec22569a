/-
  The whole part of a float64 number taken from it: what is left is at most one. Conditions: none.
-/
import Derived.Test.YtikoijgnpjmgjaaSx16
namespace Go.Sx
open Ieee

/-- The same where the last place is known to be that of a number. -/
theorem nearest_exactB (f : Format) (neg : Bool) {mag : Nat} {place : Int} (hm : mag ≠ 0) (h : lastPlace f mag place ≤ place) (hfin : (lastPlace f mag place - f.leastPlace).toNat + 3 ≤ 2 ^ f.exponentBits) :
    f.read (f.nearest neg mag place) = .number neg (mag * 2 ^ (place - lastPlace f mag place).toNat) (lastPlace f mag place) ∧ ∃ rung, rung < f.infRung ∧ ∀ s, f.nearest s mag place = f.word s rung := by
  have hkept : keptOf f mag place = mag * 2 ^ (place - lastPlace f mag place).toNat := by
    unfold keptOf
    have h0 : (lastPlace f mag place - place).toNat = 0 := by omega
    rw [h0, cut_zero, Nat.shiftLeft_eq]
  have hb : 0 < f.binade := Nat.two_pow_pos _
  have hk3 : keptOf f mag place < 2 * f.binade := by
    rw [hkept]
    have hmag : mag < 2 ^ (mag.log2 + 1) := Nat.lt_log2_self
    have hl1 : place + (mag.log2 : Int) - f.fractionBits ≤ lastPlace f mag place := Int.le_max_left _ _
    have hb2 : 2 * f.binade = 2 ^ (f.fractionBits + 1) := by unfold Format.binade; rw [Nat.pow_succ]; omega
    rw [hb2]
    calc mag * 2 ^ (place - lastPlace f mag place).toNat < 2 ^ (mag.log2 + 1) * 2 ^ (place - lastPlace f mag place).toNat := Nat.mul_lt_mul_of_pos_right hmag (Nat.two_pow_pos _)
      _ = 2 ^ (mag.log2 + 1 + (place - lastPlace f mag place).toNat) := by rw [← Nat.pow_add]
      _ ≤ 2 ^ (f.fractionBits + 1) := Nat.pow_le_pow_right (by decide) (by omega)
  have hmin : (lastPlace f mag place - f.leastPlace).toNat * f.binade + keptOf f mag place < f.infRung := by
    unfold Format.infRung
    calc (lastPlace f mag place - f.leastPlace).toNat * f.binade + keptOf f mag place < (lastPlace f mag place - f.leastPlace).toNat * f.binade + 2 * f.binade := Nat.add_lt_add_left hk3 _
      _ = ((lastPlace f mag place - f.leastPlace).toNat + 2) * f.binade := by rw [Nat.add_mul]
      _ ≤ (2 ^ f.exponentBits - 1) * f.binade := Nat.mul_le_mul_right _ (by omega)
  have hall : ∀ s, f.nearest s mag place = f.word s ((lastPlace f mag place - f.leastPlace).toNat * f.binade + keptOf f mag place) := fun s => by
    rw [nearest_eq f s place hm, Nat.min_eq_left (Nat.le_of_lt hmin)]
  refine ⟨?_, _, hmin, hall⟩
  rw [hall neg]
  obtain ⟨hk1, hk2⟩ := kept_bounds f place hm
  have hlast1 : f.leastPlace ≤ lastPlace f mag place := Int.le_max_right _ _
  have hlow : (lastPlace f mag place - f.leastPlace).toNat = 0 ∨ f.binade ≤ keptOf f mag place := by
    rcases hk2 with h2 | h2
    · left; rw [h2]; simp
    · exact .inr h2
  -- the reading, in full
  have hlt : (lastPlace f mag place - f.leastPlace).toNat * f.binade + keptOf f mag place < f.signWeight := Nat.lt_trans hmin f.infRung_lt
  have hneg : (f.word neg ((lastPlace f mag place - f.leastPlace).toNat * f.binade + keptOf f mag place) / f.signWeight % 2 == 1) = neg := by
    have hw : 0 < f.signWeight := Nat.two_pow_pos _
    unfold Format.word
    cases neg
    · simp [Nat.div_eq_of_lt hlt]
    · simp [Nat.add_div_left _ hw, Nat.div_eq_of_lt hlt]
  rw [← hkept]
  unfold Format.read
  simp only [read_word_rung f neg _ hlt, hneg]
  generalize hup : (lastPlace f mag place - f.leastPlace).toNat = up at *
  generalize keptOf f mag place = kept at *
  by_cases h1 : up * f.binade + kept < f.binade
  · rw [if_pos h1]
    have hup0 : up = 0 := by
      rcases hlow with h | h
      · exact h
      · omega
    subst hup0
    congr 1
    · omega
    · omega
  · rw [if_neg h1, if_pos hmin]
    have hge : f.binade ≤ kept := by
      rcases hlow with h | h
      · rw [h] at h1; omega
      · exact h
    have hq : (up * f.binade + kept) / f.binade = up + 1 := by
      rw [Nat.div_eq_iff hb]
      constructor
      · rw [Nat.add_mul]; omega
      · rw [Nat.add_mul]; omega
    have hr : (up * f.binade + kept) % f.binade = kept - f.binade := by
      have := Nat.div_add_mod (up * f.binade + kept) f.binade
      rw [hq, Nat.mul_comm, Nat.add_mul] at this
      omega
    rw [hq, hr]
    congr 1
    · omega
    · omega

theorem pow_four (m p q r s : Nat) (h : p + q = r + s) : m * 2 ^ p * 2 ^ q = m * 2 ^ r * 2 ^ s := by
  rw [Nat.mul_assoc, Nat.mul_assoc, ← Nat.pow_add, ← Nat.pow_add, h]

theorem nearest_shift (f : Format) (neg : Bool) {m : Nat} (hm : m ≠ 0) (k : Nat) {place : Int} (h : lastPlace f m (place + k) ≤ place + k) : f.nearest neg (m * 2 ^ k) place = f.nearest neg m (place + k) := by
  have hmk : m * 2 ^ k ≠ 0 := by have := Nat.two_pow_pos k; exact Nat.mul_ne_zero hm (by omega)
  rw [nearest_eq f neg place hmk, nearest_eq f neg (place + k) hm]
  have hl : lastPlace f (m * 2 ^ k) place = lastPlace f m (place + k) := by
    unfold lastPlace; rw [log2_shift hm]; congr 2; omega
  have hk : keptOf f (m * 2 ^ k) place = keptOf f m (place + k) := by
    unfold keptOf
    rw [hl]
    generalize lastPlace f m (place + k) = last at *
    rw [show (last - (place + (k : Int))).toNat = 0 by omega, cut_zero, Nat.shiftLeft_eq, Nat.shiftLeft_eq]
    by_cases h1 : last ≤ place
    · rw [show (last - place).toNat = 0 by omega, cut_zero, Nat.mul_assoc, ← Nat.pow_add]
      congr 2; omega
    · rw [show (place - last).toNat = 0 by omega, Nat.pow_zero, Nat.mul_one]
      have e : k = (place + (k : Int) - last).toNat + (last - place).toNat := by omega
      generalize (place + (k : Int) - last).toNat = p at *
      generalize (last - place).toNat = q at *
      subst e
      rw [Nat.pow_add, ← Nat.mul_assoc]
      exact cut_mul (Nat.mul_ne_zero hm (by have := Nat.two_pow_pos p; omega)) q
  rw [hl, hk]

theorem dec64 {b : Nat} {s : Bool} {m : Nat} {e : Int} (h : double.read b = .number s m e) : m < 2 ^ 53 ∧ -1074 ≤ e ∧ e ≤ 971 := by
  obtain ⟨s1, s2, s3, s4, _⟩ := double_facts
  unfold Format.read at h
  simp only [s1, s2, s3, s4] at h
  split at h
  · rename_i h1
    simp only [Datum.number.injEq] at h
    obtain ⟨_, rfl, rfl⟩ := h
    exact ⟨by omega, by omega, by omega⟩
  · split at h
    · rename_i h1 h2
      simp only [Datum.number.injEq] at h
      obtain ⟨_, rfl, rfl⟩ := h
      have : b % 9223372036854775808 % 4503599627370496 < 4503599627370496 := Nat.mod_lt _ (by decide)
      refine ⟨by omega, by omega, ?_⟩
      have : b % 9223372036854775808 / 4503599627370496 < 2047 := by omega
      omega
    · split at h <;> cases h

theorem cut_down (s : Bool) (n d : Nat) : n ≤ (Toward.down.cut s n d + 1) * 2 ^ d ∧ Toward.down.cut s n d * 2 ^ d ≤ n + 2 ^ d := by
  unfold Toward.cut
  dsimp only
  rw [Nat.one_shiftLeft]
  by_cases hd : d ≤ n.log2 + 2
  · rw [Nat.min_eq_left hd]
    have h1 := Nat.div_add_mod n (2 ^ d)
    have h2 : n % 2 ^ d < 2 ^ d := Nat.mod_lt _ (Nat.two_pow_pos d)
    generalize n / 2 ^ d = low at *
    generalize n % 2 ^ d = rest at *
    rw [Nat.mul_comm] at h1
    have hb : (s && rest != 0).toNat ≤ 1 := by cases (s && rest != 0) <;> decide
    generalize (s && rest != 0).toNat = c at *
    constructor
    · rw [Nat.add_mul, Nat.add_mul]; omega
    · rw [Nat.add_mul]
      have : c * 2 ^ d ≤ 1 * 2 ^ d := Nat.mul_le_mul_right _ hb
      omega
  · rw [Nat.min_eq_right (by omega)]
    have hlt : n < 2 ^ (n.log2 + 1) := Nat.lt_log2_self
    have h2 : 2 ^ (n.log2 + 2) ≤ 2 ^ d := Nat.pow_le_pow_right (by decide) (by omega)
    have h3 : 2 ^ (n.log2 + 1) ≤ 2 ^ (n.log2 + 2) := Nat.pow_le_pow_right (by decide) (by omega)
    have h4 : n / 2 ^ (n.log2 + 2) = 0 := Nat.div_eq_of_lt (by omega)
    rw [h4]
    have hb : (s && n % 2 ^ (n.log2 + 2) != 0).toNat ≤ 1 := by cases (s && n % 2 ^ (n.log2 + 2) != 0) <;> decide
    generalize (s && n % 2 ^ (n.log2 + 2) != 0).toNat = c at *
    constructor
    · rw [Nat.add_mul]; omega
    · have : (0 + c) * 2 ^ d ≤ 1 * 2 ^ d := Nat.mul_le_mul_right _ (by omega)
      omega

theorem cut_down0 (s : Bool) (n : Nat) : Toward.down.cut s n 0 = n := by
  unfold Toward.cut
  simp [Nat.mod_one]

/-- The whole part is a float64 number. -/
theorem whole_read {b : Nat} {s : Bool} {m : Nat} {e : Int} (h : double.read b = .number s m e) :
    ∃ m' e', double.read (double.nearest s (Toward.down.cut s (m <<< e.toNat) (-e).toNat) 0) = .number s m' e' ∧ (-1074 : Int) ≤ e' ∧
      m' * 2 ^ (e' + 1074).toNat = Toward.down.cut s (m <<< e.toNat) (-e).toNat * 2 ^ 1074 := by
  obtain ⟨hm, he, he2⟩ := dec64 h
  obtain ⟨s1, s2, s3, s4, s5, s6⟩ := double_facts
  generalize hK : Toward.down.cut s (m <<< e.toNat) (-e).toNat = K
  by_cases hK0 : K = 0
  · subst hK0
    have e0 : double.nearest s 0 0 = double.word s (0 * double.binade + 0) := by unfold Format.nearest; simp
    obtain ⟨m', e', h1, h2, h3⟩ := read_rung double s (up := 0) (kept := 0) (by omega) (.inl rfl) (by rw [s3]; omega)
    rw [e0, h1]
    rw [s4] at h2 h3
    refine ⟨m', e', rfl, h2, ?_⟩
    have : (e' - (-1074 : Int)) = e' + 1074 := by omega
    rw [this] at h3
    generalize (2 : Nat) ^ 1074 = D
    rw [h3, Nat.zero_mul, Nat.zero_mul]
  · have fin : ∀ (M : Nat) (p : Int), M ≠ 0 → lastPlace double M p ≤ p → lastPlace double M p ≤ 971 →
        ∃ m' e', double.read (double.nearest s M p) = .number s m' e' ∧ (-1074 : Int) ≤ e' ∧ e' ≤ p ∧ m' = M * 2 ^ (p - e').toNat := by
      intro M p hM hl h971
      have hx := (nearest_exactB double s hM hl (by rw [s4, s6]; omega)).1
      have hl2 : double.leastPlace ≤ lastPlace double M p := Int.le_max_right _ _
      rw [s4] at hl2
      exact ⟨_, _, hx, hl2, hl, rfl⟩
    by_cases hneg : e < 0
    · obtain ⟨c1, c2⟩ := cut_down s (m <<< e.toNat) (-e).toNat
      rw [hK] at c1 c2
      rw [show e.toNat = 0 by omega, Nat.shiftLeft_zero] at c1 c2
      have hpow : 2 ≤ 2 ^ (-e).toNat := by
        have := Nat.pow_le_pow_right (show 0 < 2 by decide) (show 1 ≤ (-e).toNat by omega)
        omega
      have hK53 : K < 2 ^ 53 := by
        have h1 : K * 2 ≤ K * 2 ^ (-e).toNat := Nat.mul_le_mul_left _ hpow
        rcases Nat.lt_or_ge K (2 ^ 53) with h2 | h2
        · exact h2
        · exfalso
          have h3 : (2 ^ 53) * 2 ^ (-e).toNat ≤ K * 2 ^ (-e).toNat := Nat.mul_le_mul_right _ h2
          have h4 : (2 ^ 53) * 2 ^ (-e).toNat = (2 ^ 53 - 1) * 2 ^ (-e).toNat + 2 ^ (-e).toNat := by
            rw [show (2 : Nat) ^ 53 = (2 ^ 53 - 1) + 1 by decide, Nat.add_mul]; omega
          have h5 : (2 ^ 53 - 1) * 2 ≤ (2 ^ 53 - 1) * 2 ^ (-e).toNat := Nat.mul_le_mul_left _ hpow
          omega
      have hlog := log2_lt (n := K) (k := 52) hK53
      obtain ⟨m', e', g1, g2, g3, g4⟩ := fin K 0 hK0 (by unfold lastPlace; rw [s4, s5]; omega) (by unfold lastPlace; rw [s4, s5]; omega)
      refine ⟨m', e', g1, g2, ?_⟩
      rw [g4, Nat.mul_assoc, ← Nat.pow_add]
      congr 2; omega
    · rw [show (-e).toNat = 0 by omega, cut_down0, Nat.shiftLeft_eq] at hK
      subst hK
      have hm0 : m ≠ 0 := by intro h0; subst h0; simp at hK0
      have hlog := log2_lt (n := m) (k := 52) hm
      have hle : lastPlace double m (0 + (e.toNat : Int)) ≤ 0 + (e.toNat : Int) := by unfold lastPlace; rw [s4, s5]; omega
      rw [nearest_shift double s hm0 e.toNat hle]
      obtain ⟨m', e', g1, g2, g3, g4⟩ := fin m (0 + (e.toNat : Int)) hm0 hle (by unfold lastPlace; rw [s4, s5]; omega)
      refine ⟨m', e', g1, g2, ?_⟩
      rw [g4]
      exact pow_four m _ _ _ 1074 (by omega)

theorem pow_split (m : Nat) (e : Int) (N : Nat) (h : -(N : Int) ≤ e) : m * 2 ^ (e + N).toNat * 2 ^ (-e).toNat = (m * 2 ^ e.toNat) * 2 ^ N := by
  rw [Nat.mul_assoc, Nat.mul_assoc, ← Nat.pow_add, ← Nat.pow_add]; congr 2; omega

theorem sg_not (s : Bool) (m k : Nat) : signed (!s) m k = - signed s m k := by
  unfold signed
  cases s <;> simp

theorem bd_fract (x : CF) : Bd 1074 (cbin .sub .f64 x (cint .down x)) := by
  intro r hr
  cases x with
  | none => cases hr
  | some a =>
    have hr' : Option.map double.write ((double.read a).sum (double.read (double.write ((double.read a).integral .down))).opposite) = some r := hr
    cases hd : double.read a with
    | nan s t => rw [hd] at hr'; simp [Datum.sum] at hr'
    | infinity s =>
      rw [hd] at hr'
      have e : double.read (double.write ((Datum.infinity s).integral .down)) = .infinity s := read_inf double s (by decide)
      rw [e] at hr'
      cases s <;> simp [Datum.sum, Datum.opposite] at hr'
    | number s m e =>
      rw [hd] at hr'
      obtain ⟨m', e', h1, h2, h3⟩ := whole_read hd
      obtain ⟨hm, he, he2⟩ := dec64 hd
      have er : double.read (double.write ((Datum.number s m e).integral .down)) = .number s m' e' := h1
      rw [er] at hr'
      simp only [Datum.opposite, Datum.sum, Option.map_some, Option.some.injEq] at hr'
      subst hr'
      show magLe double (double.nearest _ _ _) 1074
      refine nearest_bd (a := (min e e' + 1074).toNat) (b := 1074) _ (by decide) (by decide) (by omega) ?_
      rw [sg_not]
      -- the two against each other
      have hab : ((signed s m (e - min e e').toNat + -signed s m' (e' - min e e').toNat).natAbs) * 2 ^ (min e e' + 1074).toNat ≤ 2 ^ 1074 ↔
          (m * 2 ^ (e + 1074).toNat ≤ m' * 2 ^ (e' + 1074).toNat + 2 ^ 1074 ∧ m' * 2 ^ (e' + 1074).toNat ≤ m * 2 ^ (e + 1074).toNat + 2 ^ 1074) := by
        have e1 : (e + 1074).toNat = (e - min e e').toNat + (min e e' + 1074).toNat := by omega
        have e2 : (e' + 1074).toNat = (e' - min e e').toNat + (min e e' + 1074).toNat := by omega
        rw [e1, e2, Nat.pow_add, Nat.pow_add, ← Nat.mul_assoc, ← Nat.mul_assoc]
        generalize (e - min e e').toNat = p
        generalize (e' - min e e').toNat = q
        have hs1 : signed s m p = if s then -((m * 2 ^ p : Nat) : Int) else ((m * 2 ^ p : Nat) : Int) := by unfold signed; rw [Nat.shiftLeft_eq]
        have hs2 : signed s m' q = if s then -((m' * 2 ^ q : Nat) : Int) else ((m' * 2 ^ q : Nat) : Int) := by unfold signed; rw [Nat.shiftLeft_eq]
        rw [hs1, hs2]
        generalize m * 2 ^ p = A
        generalize m' * 2 ^ q = B
        generalize 2 ^ (min e e' + 1074).toNat = C
        generalize (2 : Nat) ^ 1074 = D
        have hn : ((if s then -(A : Int) else (A : Int)) + -(if s then -(B : Int) else (B : Int))).natAbs = (A - B) + (B - A) := by
          cases s <;> simp <;> omega
        rw [hn, Nat.add_mul, Nat.sub_mul, Nat.sub_mul]
        omega
      rw [hab, h3]
      obtain ⟨c1, c2⟩ := cut_down s (m <<< e.toNat) (-e).toNat
      generalize Toward.down.cut s (m <<< e.toNat) (-e).toNat = K at *
      rw [Nat.shiftLeft_eq] at c1 c2
      have e3 : m * 2 ^ (e + 1074).toNat * 2 ^ (-e).toNat = (m * 2 ^ e.toNat) * 2 ^ 1074 := pow_split m e 1074 he
      have hpos := Nat.two_pow_pos (-e).toNat
      clear hab
      generalize (2 : Nat) ^ 1074 = D at *
      generalize 2 ^ (e + 1074).toNat = E1 at *
      generalize 2 ^ (-e).toNat = N1 at *
      generalize 2 ^ e.toNat = M1 at *
      constructor
      · refine Nat.le_of_mul_le_mul_right ?_ hpos
        rw [e3]
        calc m * M1 * D ≤ (K + 1) * N1 * D := Nat.mul_le_mul_right _ c1
          _ = (K * D + D) * N1 := by rw [Nat.add_mul, Nat.add_mul, Nat.add_mul, Nat.one_mul]; ac_rfl
      · refine Nat.le_of_mul_le_mul_right ?_ hpos
        rw [Nat.add_mul, e3]
        calc K * D * N1 = (K * N1) * D := by ac_rfl
          _ ≤ (m * M1 + N1) * D := Nat.mul_le_mul_right _ c2
          _ = m * M1 * D + D * N1 := by rw [Nat.add_mul]; ac_rfl

end Go.Sx
