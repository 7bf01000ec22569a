/-
  Lower bounds of float64 numbers, and the square root's bounds. Conditions: none.
-/
import Derived.Test.YtljmfmbfgggndaaSx18
namespace Go.Sx
open Ieee

theorem cut_ge {n d N : Nat} (h : N * 2 ^ d ≤ n) : N ≤ Toward.even.cut false n d := by
  unfold Toward.cut
  dsimp only
  rw [Nat.one_shiftLeft]
  have h1 : N ≤ n / 2 ^ min d (n.log2 + 2) := by
    rw [Nat.le_div_iff_mul_le (Nat.two_pow_pos _)]
    exact Nat.le_trans (Nat.mul_le_mul_left _ (Nat.pow_le_pow_right (by decide) (Nat.min_le_left _ _))) h
  exact Nat.le_trans h1 (Nat.le_add_right _ _)

/-- What is not less than one stays so. -/
theorem nearest_lb (neg : Bool) {mag : Nat} {place : Int} (h : ∀ j : Nat, (j : Int) = - place → 2 ^ j ≤ mag) (hm : mag ≠ 0) (hfin : place + mag.log2 ≤ 900) :
    ∃ m e, double.read (double.nearest neg mag place) = .number neg m e ∧ (-1074 : Int) ≤ e ∧ 2 ^ 1074 ≤ m * 2 ^ (e + 1074).toNat := by
  obtain ⟨s1, s2, s3, s4, s5, s6⟩ := double_facts
  obtain ⟨hk1, hk2⟩ := kept_bounds double place hm
  have hlast1 : double.leastPlace ≤ lastPlace double mag place := Int.le_max_right _ _
  have hlast2 : lastPlace double mag place ≤ 900 := by unfold lastPlace; rw [s4, s5]; omega
  rw [s4] at hlast1 hk2
  have hkept : ∀ j : Nat, (j : Int) = - lastPlace double mag place → 2 ^ j ≤ keptOf double mag place := by
    intro j hj
    unfold keptOf
    generalize lastPlace double mag place = last at *
    refine cut_ge ?_
    rw [Nat.shiftLeft_eq]
    by_cases hc : place ≤ 0
    · obtain ⟨p, hp⟩ : ∃ p : Nat, (p : Int) = -place := ⟨(-place).toNat, by omega⟩
      have h1 := h p hp
      calc 2 ^ j * 2 ^ (last - place).toNat = 2 ^ (p + (place - last).toNat) := by rw [← Nat.pow_add]; congr 1; omega
        _ = 2 ^ p * 2 ^ (place - last).toNat := by rw [Nat.pow_add]
        _ ≤ mag * 2 ^ (place - last).toNat := Nat.mul_le_mul_right _ h1
    · rw [show (last - place).toNat = 0 by omega, Nat.pow_zero, Nat.mul_one]
      calc 2 ^ j ≤ 1 * 2 ^ (place - last).toNat := by rw [Nat.one_mul]; exact Nat.pow_le_pow_right (by decide) (by omega)
        _ ≤ mag * 2 ^ (place - last).toNat := Nat.mul_le_mul_right _ (Nat.one_le_iff_ne_zero.2 hm)
  rw [nearest_eq double neg place hm]
  rw [s4]
  have hlow : (lastPlace double mag place - -1074).toNat = 0 ∨ double.binade ≤ keptOf double mag place := by
    rcases hk2 with h2 | h2
    · left; rw [h2]; simp
    · exact .inr h2
  have hup : (lastPlace double mag place - -1074).toNat ≤ 1974 := by omega
  have hfin' : (lastPlace double mag place - -1074).toNat * double.binade + keptOf double mag place < double.infRung := by
    rw [s2] at hk1 ⊢
    rw [s3]
    have := Nat.mul_le_mul_right 4503599627370496 hup
    omega
  rw [Nat.min_eq_left (Nat.le_of_lt hfin')]
  obtain ⟨m, e, h1, h2, h3⟩ := read_rung double neg hk1 hlow hfin'
  rw [s4] at h2 h3
  refine ⟨m, e, h1, h2, ?_⟩
  rw [show (e + 1074) = (e - -1074) by omega, h3]
  by_cases hc : lastPlace double mag place ≤ 0
  · obtain ⟨j, hj⟩ : ∃ j : Nat, (j : Int) = - lastPlace double mag place := ⟨(-lastPlace double mag place).toNat, by omega⟩
    calc 2 ^ 1074 = 2 ^ j * 2 ^ (lastPlace double mag place - -1074).toNat := by rw [← Nat.pow_add]; congr 1; omega
      _ ≤ _ := Nat.mul_le_mul_right _ (hkept j hj)
  · have hkp : 1 ≤ keptOf double mag place := by
      rcases hlow with h5 | h5
      · omega
      · rw [s2] at h5; omega
    calc 2 ^ 1074 ≤ 1 * 2 ^ (lastPlace double mag place - -1074).toNat := by rw [Nat.one_mul]; exact pow_mono 1074 _ (by omega)
      _ ≤ _ := Nat.mul_le_mul_right _ hkp

/-- No number below zero. -/
def NN (x : CF) : Prop := ∀ b, x = some b → ∃ s m e, double.read b = .number s m e ∧ (s = false ∨ m = 0)

theorem log_of_mul {m k j : Nat} (hm : m ≠ 0) (h : m * 2 ^ k ≤ 2 ^ j) : m.log2 + k ≤ j := by
  have h4 := Nat.log2_self_le hm
  have h5 : 2 ^ (m.log2 + k) ≤ 2 ^ j := by
    rw [Nat.pow_add]
    exact Nat.le_trans (Nat.mul_le_mul_right _ h4) h
  exact (Nat.pow_le_pow_iff_right (by decide : 1 < 2)).1 h5

/-- One and a number that is not below zero. -/
theorem lb_one_add {k : Nat} {x : CF} (hx : Bd k x) (hk : k ≤ 1900) (hn : NN x) : Lb (cbin .add .f64 (canon .f64 4607182418800017408) x) := by
  intro r hr
  have h1 : double.read 4607182418800017408 = .number false 4503599627370496 (-52) := by decide +kernel
  have hc : canon .f64 4607182418800017408 = some 4607182418800017408 := canon_num (show (double.read _).isNaN = false by rw [h1]; rfl)
  rw [hc] at hr
  cases x with
  | none => cases hr
  | some a =>
    obtain ⟨s, m, e, g1, g2, g3⟩ := bd_db hx rfl
    obtain ⟨s', m', e', q1, q2⟩ := hn a rfl
    rw [g1] at q1
    cases q1
    have hr' : Option.map double.write ((double.read 4607182418800017408).sum (double.read a)) = some r := hr
    rw [h1, g1] at hr'
    simp only [Datum.sum, Option.map_some, Option.some.injEq] at hr'
    subst hr'
    have hge : (2 ^ 52 : Nat) * 2 ^ (-52 - min (-52) e).toNat ≤ (signed false 4503599627370496 (-52 - min (-52) e).toNat + signed s m (e - min (-52) e).toNat).natAbs := by
      have e1 : signed false 4503599627370496 (-52 - min (-52) e).toNat = ((2 ^ 52 * 2 ^ (-52 - min (-52) e).toNat : Nat) : Int) := by unfold signed; rw [Nat.shiftLeft_eq]; rfl
      rw [e1]
      generalize 2 ^ 52 * 2 ^ (-52 - min (-52) e).toNat = A
      have e2 : 0 ≤ signed s m (e - min (-52) e).toNat := by
        unfold signed
        rcases q2 with rfl | rfl
        · simp only [Bool.false_eq_true, if_false]; exact Int.natCast_nonneg _
        · simp
      omega
    generalize hT : signed false 4503599627370496 (-52 - min (-52) e).toNat + signed s m (e - min (-52) e).toNat = tot at *
    have hpos : tot.natAbs ≠ 0 := by
      have : 0 < 2 ^ 52 * 2 ^ (-52 - min (-52) e).toNat := Nat.mul_pos (by decide) (Nat.two_pow_pos _)
      omega
    have hle : tot.natAbs ≤ 2 ^ 52 * 2 ^ (-52 - min (-52) e).toNat + m * 2 ^ (e - min (-52) e).toNat := by
      rw [← hT]
      refine Nat.le_trans (Int.natAbs_add_le _ _) ?_
      rw [sg_abs, sg_abs]
      exact Nat.le_refl _
    have hlog : (min (-52) e) + tot.natAbs.log2 ≤ 900 := by
      have h5 : tot.natAbs * 2 ^ (min (-52) e + 1074).toNat ≤ 2 ^ 1902 := by
        refine Nat.le_trans (Nat.mul_le_mul_right _ hle) ?_
        rw [Nat.add_mul, Nat.mul_assoc, Nat.mul_assoc, ← Nat.pow_add, ← Nat.pow_add, ← Nat.pow_add]
        rw [show (e - min (-52) e).toNat + (min (-52) e + 1074).toNat = (e + 1074).toNat by omega,
          show 52 + ((-52 - min (-52) e).toNat + (min (-52) e + 1074).toNat) = 1074 by omega]
        have h6 : 2 ^ k ≤ 2 ^ 1900 := pow_mono k 1900 hk
        have h7 : (2 : Nat) ^ 1074 + 2 ^ 1900 ≤ 2 ^ 1902 := by decide +kernel
        generalize (2 : Nat) ^ 1074 = A at *
        generalize (2 : Nat) ^ 1900 = B at *
        generalize (2 : Nat) ^ 1902 = C at *
        omega
      have h8 := log_of_mul hpos h5
      omega
    have h9 : ∀ j : Nat, (j : Int) = - (min (-52) e) → 2 ^ j ≤ tot.natAbs := by
      intro j hj
      refine Nat.le_trans ?_ hge
      rw [← Nat.pow_add]
      exact Nat.pow_le_pow_right (by decide) (by omega)
    obtain ⟨m2, e2, r1, r2, r3⟩ := nearest_lb (if tot = 0 then false && s else tot < 0) (mag := tot.natAbs) (place := min (-52) e) h9 hpos hlog
    exact ⟨_, m2, e2, r1, r2, r3⟩

theorem nn_nearest (s : Bool) {mag : Nat} {place : Int} {k : Nat} (hs : s = false ∨ mag = 0) (h : magLe double (double.nearest s mag place) k) : ∃ s' m e, double.read (double.nearest s mag place) = .number s' m e ∧ (s' = false ∨ m = 0) := by
  obtain ⟨s1, s2, s3, s4, s5, s6⟩ := double_facts
  obtain ⟨s', m, e, h1, h2, h3⟩ := h
  refine ⟨s', m, e, h1, ?_⟩
  by_cases hm : mag = 0
  · subst hm
    right
    have e0 : double.nearest s 0 place = double.word s (0 * double.binade + 0) := by unfold Format.nearest; simp
    obtain ⟨m', e', g1, g2, g3⟩ := read_rung double s (up := 0) (kept := 0) (by omega) (.inl rfl) (by rw [s3]; omega)
    rw [e0, g1] at h1
    simp only [Datum.number.injEq] at h1
    have hp := Nat.two_pow_pos (e' - double.leastPlace).toNat
    have g4 : m' * 2 ^ (e' - double.leastPlace).toNat = 0 := by rw [g3]
    rcases Nat.mul_eq_zero.1 g4 with h | h
    · rw [← h1.2.1]; exact h
    · omega
  · rcases hs with rfl | h
    · left
      rw [nearest_eq double false place hm] at h1
      have hlt : min ((lastPlace double mag place - double.leastPlace).toNat * double.binade + keptOf double mag place) double.infRung < double.signWeight := Nat.lt_of_le_of_lt (Nat.min_le_right _ _) double.infRung_lt
      have hneg : (double.word false (min ((lastPlace double mag place - double.leastPlace).toNat * double.binade + keptOf double mag place) double.infRung) / double.signWeight % 2 == 1) = false := by
        unfold Format.word
        simp [Nat.div_eq_of_lt hlt]
      unfold Format.read at h1
      simp only [hneg] at h1
      split at h1
      · cases h1; rfl
      · split at h1
        · cases h1; rfl
        · split at h1 <;> cases h1
    · exact absurd h hm

theorem root_rule (x : Nat) : csqrt (some x) = ((double.read x).root 54).map double.write := rfl

/-- The root of a number below 2 ^ 127. -/
theorem sqrt_bd {x : CF} {k : Nat} (hx : Bd k x) (hk : k ≤ 1200) : Bd 1200 (csqrt x) ∧ NN (csqrt x) := by
  have main : ∀ r, csqrt x = some r → magLe double r 1200 ∧ ∃ s m e, double.read r = .number s m e ∧ (s = false ∨ m = 0) := by
    intro r hr
    cases x with
    | none => cases hr
    | some a =>
      obtain ⟨s, m, e, g1, g2, g3⟩ := bd_db hx rfl
      rw [root_rule, g1] at hr
      have fin : ∀ (t : Bool) (M : Nat) (p : Int), (t = false ∨ M = 0) → (∀ j : Nat, (j : Int) = 126 - p → M ≤ 2 ^ j) → (M ≠ 0 → p ≤ 126) → magLe double (double.nearest t M p) 1200 ∧ ∃ s m e, double.read (double.nearest t M p) = .number s m e ∧ (s = false ∨ m = 0) := by
        intro t M p ht hM hp
        obtain ⟨s1, s2, s3, s4, s5, s6⟩ := double_facts
        have hle := (nearest_le double t (mag := M) (place := p) (k := 1200) (by rw [s5]; decide) (by rw [s5, s6]; decide) (fun j hj => hM j (by rw [s4] at hj; omega)) (fun h => by rw [s4]; have := hp h; omega)).1
        exact ⟨hle, nn_nearest t ht hle⟩
      simp only [Datum.root] at hr
      by_cases hm : m = 0
      · rw [if_pos hm] at hr
        cases hr
        exact fin s m e (.inr hm) (fun j _ => by rw [hm]; exact Nat.zero_le _) (fun h => absurd hm h)
      · rw [if_neg hm] at hr
        cases s
        · simp only [Bool.false_eq_true, if_false, Option.map_some, Option.some.injEq] at hr
          subst hr
          have hlg := log_of_mul hm g3
          have hval : e + m.log2 ≤ 127 := by omega
          generalize hmore : 2 * 54 - m.log2 + ((e - ((2 * 54 - m.log2 : Nat) : Int)) % 2).toNat = more at *
          have hlog2 : (m <<< more).log2 = m.log2 + more := by rw [Nat.shiftLeft_eq, log2_shift hm]
          have hwh := rootFrom_lt (m <<< more) ((m <<< more).log2 / 2 + 1) 0
          rw [hlog2] at hwh ⊢
          generalize Datum.rootFrom (m <<< more) ((m.log2 + more) / 2 + 1) 0 = whole at *
          refine fin false _ _ (.inl rfl) (fun j hj => ?_) (fun _ => by omega)
          have hbit : (whole * whole != m <<< more).toNat ≤ 1 := by cases (whole * whole != m <<< more) <;> decide
          have hlt : 2 * whole + (whole * whole != m <<< more).toNat < 2 ^ ((m.log2 + more) / 2 + 2) := by
            rw [Nat.pow_succ]; omega
          refine Nat.le_trans (Nat.le_of_lt hlt) (Nat.pow_le_pow_right (by decide) ?_)
          omega
        · cases hr
  exact ⟨fun r hr => (main r hr).1, fun r hr => (main r hr).2⟩

end Go.Sx
