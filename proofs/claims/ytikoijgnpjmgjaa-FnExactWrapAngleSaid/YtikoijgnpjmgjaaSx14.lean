/-
  The size of a number and the root of a number, by way of the wider kind. Conditions: none.
-/
import Derived.Test.YtikoijgnpjmgjaaSx13
namespace Go.Sx
open Ieee

theorem single_facts : single.signWeight = 2147483648 ∧ single.binade = 8388608 ∧ single.infRung = 2139095040 ∧ single.leastPlace = -149 ∧ single.fractionBits = 23 := by decide
theorem double_facts : double.signWeight = 9223372036854775808 ∧ double.binade = 4503599627370496 ∧ double.infRung = 9218868437227405312 ∧ double.leastPlace = -1074 ∧ double.fractionBits = 52 ∧ double.exponentBits = 11 := by decide

theorem dec32 {b : Nat} {s : Bool} {m : Nat} {e : Int} (h : single.read b = .number s m e) : ∃ r, b % 2147483648 = r ∧ r < 2139095040 ∧
    ((r < 8388608 ∧ m = r ∧ e = -149) ∨ (8388608 ≤ r ∧ m = 8388608 + r % 8388608 ∧ e = -149 + ((r / 8388608 - 1 : Nat) : Int))) := by
  obtain ⟨s1, s2, s3, s4, _⟩ := single_facts
  unfold Format.read at h
  simp only [s1, s2, s3, s4] at h
  refine ⟨_, rfl, ?_⟩
  obtain ⟨r, hr⟩ : ∃ r, b % 2147483648 = r := ⟨_, rfl⟩
  rw [hr] at h ⊢
  split at h
  · rename_i h1
    simp only [Datum.number.injEq] at h
    obtain ⟨_, rfl, rfl⟩ := h
    exact ⟨by omega, .inl ⟨h1, rfl, rfl⟩⟩
  · split at h
    · rename_i h1 h2
      simp only [Datum.number.injEq] at h
      obtain ⟨_, rfl, rfl⟩ := h
      exact ⟨h2, .inr ⟨by omega, rfl, rfl⟩⟩
    · split at h <;> cases h

theorem log2_lt {n k : Nat} (h : n < 2 ^ (k + 1)) : n.log2 ≤ k := by
  by_cases h0 : n = 0
  · subst h0; simp
  · have := (Nat.log2_lt h0).2 h; omega

theorem log2_ge {n k : Nat} (h : 2 ^ k ≤ n) : k ≤ n.log2 := by
  have h0 : n ≠ 0 := by have := Nat.two_pow_pos k; omega
  exact (Nat.le_log2 h0).2 h

/-- A number of 32 bits, written with more digits, is written back as it was. -/
theorem write32 {b : Nat} {s : Bool} {m : Nat} {e : Int} (h : single.read b = .number s m e) (t : Bool) (k : Nat) : single.nearest t (m * 2 ^ k) (e - k) = single.word t (b % 2147483648) := by
  obtain ⟨r, hr, hlt, hc⟩ := dec32 h
  obtain ⟨s1, s2, s3, s4, s5⟩ := single_facts
  rw [hr]
  by_cases hm : m = 0
  · subst hm
    have : r = 0 := by omega
    subst this
    unfold Format.nearest
    simp
  · have hm2 : m * 2 ^ k ≠ 0 := Nat.mul_ne_zero hm (by have := Nat.two_pow_pos k; omega)
    have hlast : lastPlace single (m * 2 ^ k) (e - k) = e := by
      unfold lastPlace
      rw [log2_shift hm, s4, s5]
      rcases hc with ⟨h1, rfl, rfl⟩ | ⟨h1, rfl, rfl⟩
      · have := log2_lt (n := m) (k := 22) (by omega)
        omega
      · have h2 := Nat.mod_lt r (by decide : 8388608 > 0)
        have l1 := log2_lt (n := 8388608 + r % 8388608) (k := 23) (by omega)
        have l2 := log2_ge (n := 8388608 + r % 8388608) (k := 23) (by omega)
        omega
    rw [nearest_eq single t _ hm2, hlast]
    have hk : keptOf single (m * 2 ^ k) (e - k) = m := by
      unfold keptOf
      rw [hlast]
      have h0 : (e - k - e).toNat = 0 := by omega
      have h1 : (e - (e - k)).toNat = k := by omega
      rw [h0, h1, Nat.shiftLeft_zero, cut_mul hm]
    rw [hk, s2, s3, s4]
    congr 1
    rcases hc with ⟨h1, rfl, rfl⟩ | ⟨h1, rfl, rfl⟩
    · have t : ((-149 : Int) - -149).toNat = 0 := by decide
      rw [t, Nat.zero_mul, Nat.zero_add]
      exact Nat.min_eq_left (Nat.le_of_lt hlt)
    · have hdm := Nat.div_add_mod r 8388608
      have hq : 1 ≤ r / 8388608 := (Nat.one_le_div_iff (by decide)).2 h1
      generalize r / 8388608 = q at *
      generalize r % 8388608 = rem at *
      have t : ((-149 : Int) + ((q - 1 : Nat) : Int) - -149).toNat = q - 1 := by omega
      rw [t]
      have t2 : (q - 1) * 8388608 + (8388608 + rem) = r := by omega
      rw [t2]
      exact Nat.min_eq_left (Nat.le_of_lt hlt)

/-- Widening a number. -/
theorem wide_num {b : Nat} {s : Bool} {m : Nat} {e : Int} (h : single.read b = .number s m e) :
    ∃ k : Nat, double.read (double.nearest s m e) = .number s (m * 2 ^ k) (e - k) ∧ (∀ t, double.nearest t m e % 9223372036854775808 = double.nearest false m e) ∧ e + m.log2 ≤ 127 ∧ -1074 ≤ e - k := by
  obtain ⟨r, hr, hlt, hc⟩ := dec32 h
  obtain ⟨s1, s2, s3, s4, s5, s6⟩ := double_facts
  have hb : -149 ≤ e ∧ e + m.log2 ≤ 127 := by
    rcases hc with ⟨h1, rfl, rfl⟩ | ⟨h1, rfl, rfl⟩
    · have := log2_lt (n := m) (k := 22) (by omega)
      omega
    · have h2 := Nat.mod_lt r (by decide : 8388608 > 0)
      have l1 := log2_lt (n := 8388608 + r % 8388608) (k := 23) (by omega)
      omega
  have hm23 : m.log2 ≤ 23 := by
    rcases hc with ⟨h1, rfl, rfl⟩ | ⟨h1, rfl, rfl⟩
    · exact Nat.le_trans (log2_lt (n := m) (k := 22) (by omega)) (by decide)
    · have h2 := Nat.mod_lt r (by decide : 8388608 > 0)
      exact log2_lt (n := 8388608 + r % 8388608) (k := 23) (by omega)
  by_cases hm : m = 0
  · subst hm
    have h0 : ∀ t, double.nearest t 0 e = double.word t 0 := fun t => by unfold Format.nearest; simp
    refine ⟨(e + 1074).toNat, ?_, fun t => ?_, hb.2, by omega⟩
    · rw [h0]
      have hneg : (double.word s 0 / double.signWeight % 2 == 1) = s := by cases s <;> decide
      unfold Format.read
      simp only [read_word_rung double s 0 (by decide), hneg]
      rw [if_pos (by decide), Nat.zero_mul, s4]
      congr 1
      omega
    · rw [h0, h0]
      exact read_word_rung double t 0 (by decide)
  · have hl : lastPlace double m e ≤ e := by unfold lastPlace; rw [s4, s5]; omega
    have hl2 : -1074 ≤ lastPlace double m e := by unfold lastPlace; rw [s4]; omega
    obtain ⟨q1, rung, q2, q3⟩ := nearest_exact double s hm hl (by rw [s6]; show _ < (2 : Int) ^ 10 - 1; omega) (by rw [s6]; decide)
    refine ⟨(e - lastPlace double m e).toNat, ?_, fun t => ?_, hb.2, by omega⟩
    · rw [q1]
      congr 1
      omega
    · rw [q3, q3]
      exact read_word_rung double t rung (Nat.lt_trans q2 double.infRung_lt)

theorem fits_of_le {b k : Nat} (h : magLe double b k) (hk : k ≤ 1200) : fitsC (canon .f64 b) = true := by
  obtain ⟨s, m, e, h1, h2, h3⟩ := h
  have hd : FloatKind.f64.decode b = .number s m e := h1
  have hc : canon .f64 b = some b := canon_num (show (double.read b).isNaN = false by rw [h1]; rfl)
  rw [hc]
  unfold fitsC
  simp only [hd]
  rw [Bool.not_eq_true']
  show (single.read (single.nearest s m e)).isInfinity = false
  by_cases hm : m = 0
  · subst hm
    have : single.nearest s 0 e = single.word s 0 := by unfold Format.nearest; simp
    rw [this]; exact read_word_notInf single s 0 (by decide)
  · have s4 : double.leastPlace = -1074 := by decide
    rw [s4] at h2 h3
    have hlog : m.log2 + (e - -1074).toNat ≤ k := by
      have h4 := Nat.log2_self_le hm
      have h5 : 2 ^ (m.log2 + (e - -1074).toNat) ≤ 2 ^ k := by
        rw [Nat.pow_add]
        exact Nat.le_trans (Nat.mul_le_mul_right _ h4) h3
      exact (Nat.pow_le_pow_iff_right (by decide : 1 < 2)).1 h5
    obtain ⟨rung, r1, r2⟩ := nearest_fin single s m e (by decide) (by show _ < (2 : Int) ^ 7 - 1; omega)
    rw [r2]; exact read_word_notInf single s rung r1

theorem cwide_num {b : Nat} {s : Bool} {m : Nat} {e : Int} (h : single.read b = .number s m e) : cwide (some b) = some (double.nearest s m e) := by
  have hd : FloatKind.f32.decode b = .number s m e := h
  have hi := wide_notInf hd
  simp only [cwide, Option.bind_some, floatToFloatBits, hd, hi]
  rfl

theorem cwide_inf {b : Nat} {s : Bool} (h : single.read b = .infinity s) : cwide (some b) = some (double.word s double.infRung) := by
  have hd : FloatKind.f32.decode b = .infinity s := h
  simp only [cwide, Option.bind_some, floatToFloatBits, hd]
  rfl

theorem read_inf (f : Format) (s : Bool) (hf : f.binade ≤ f.infRung) : f.read (f.word s f.infRung) = .infinity s := by
  have hneg : (f.word s f.infRung / f.signWeight % 2 == 1) = s := by
    have hw : 0 < f.signWeight := Nat.two_pow_pos _
    have hlt := f.infRung_lt
    unfold Format.word
    cases s
    · simp [Nat.div_eq_of_lt hlt]
    · simp [Nat.add_div_left _ hw, Nat.div_eq_of_lt hlt]
  unfold Format.read
  simp only [read_word_rung f s _ f.infRung_lt, hneg]
  rw [if_neg (by omega), if_neg (by omega)]
  simp

theorem inf_rung32 {b : Nat} {s : Bool} (h : single.read b = .infinity s) : b % 2147483648 = single.infRung := by
  obtain ⟨s1, s2, s3, s4, _⟩ := single_facts
  unfold Format.read at h
  simp only [s1] at h
  split at h
  · cases h
  · split at h
    · cases h
    · split at h
      · rename_i h1; exact h1
      · cases h

/-- The size of a number, by way of the wider kind. -/
theorem size_fact (x : Nat) : fitsC (cabs .f64 (cwide (canon .f32 x))) = true ∧ cnarrow (cabs .f64 (cwide (canon .f32 x))) = cabs .f32 (canon .f32 x) := by
  cases hd : single.read x with
  | nan s t =>
    have : canon .f32 x = none := canon_nan (show (single.read x).isNaN = true by rw [hd]; rfl)
    rw [this]; exact ⟨rfl, rfl⟩
  | infinity s =>
    have hc : canon .f32 x = some x := canon_num (show (single.read x).isNaN = false by rw [hd]; rfl)
    rw [hc, cwide_inf hd]
    have e1 : cabs .f64 (some (double.word s double.infRung)) = some (double.word false double.infRung) := by
      show some (_ % double.signWeight) = _
      rw [read_word_rung double s _ double.infRung_lt]; rfl
    rw [e1]
    have hr : FloatKind.f64.decode (double.word false double.infRung) = .infinity false := read_inf double false (by decide)
    refine ⟨by simp only [fitsC, hr], ?_⟩
    simp only [cnarrow, Option.bind_some, floatToFloatBits, hr]
    show some (single.word false single.infRung) = some (x % 2147483648)
    rw [inf_rung32 hd]; rfl
  | number s m e =>
    have hc : canon .f32 x = some x := canon_num (show (single.read x).isNaN = false by rw [hd]; rfl)
    rw [hc, cwide_num hd]
    obtain ⟨k, h1, h2, h3, h4⟩ := wide_num hd
    have e1 : cabs .f64 (some (double.nearest s m e)) = some (double.nearest false m e) := by
      show some (_ % double.signWeight) = _
      rw [double_facts.1, h2]
    rw [e1]
    have hpos : FloatKind.f64.decode (double.nearest false m e) = .number false (m * 2 ^ k) (e - k) := by
      show double.read _ = _
      have h5 := h2 s
      -- the sign struck, the number reads the same
      have h6 : double.read (double.nearest false m e) = match double.read (double.nearest s m e) with
          | .number _ a p => .number false a p
          | .infinity _ => .infinity false
          | .nan _ a => .nan false a := by
        have hq := h2 s
        have hq0 := h2 false
        have hlt0 : double.nearest false m e < 9223372036854775808 := by rw [← hq0]; exact Nat.mod_lt _ (by decide)
        unfold Format.read
        simp only [double_facts.1, hq, hq0]
        have hs0 : (double.nearest false m e / 9223372036854775808 % 2 == 1) = false := by rw [Nat.div_eq_of_lt hlt0]; rfl
        simp only [hs0]
        split
        · rfl
        · split
          · rfl
          · split <;> rfl
      rw [h6, h1]
    have hw := write32 hd false k
    have hnotinf : (single.read (single.word false (x % 2147483648))).isInfinity = false := by
      obtain ⟨r, hr, hlt, _⟩ := dec32 hd
      rw [hr]; exact read_word_notInf single false r (by rw [single_facts.2.2.1]; exact hlt)
    have hni : (FloatKind.f32.decode (FloatKind.f32.encode (.number false (m * 2 ^ k) (e - k)))).isInfinity = false := by
      show (single.read (single.nearest false (m * 2 ^ k) (e - k))).isInfinity = false
      rw [hw]; exact hnotinf
    refine ⟨by simp only [fitsC, hpos, hni]; rfl, ?_⟩
    simp only [cnarrow, Option.bind_some, floatToFloatBits, hpos, hni]
    show some (single.nearest false (m * 2 ^ k) (e - k)) = some (x % 2147483648)
    rw [hw]
    rfl

theorem rootFrom_lt (n : Nat) : ∀ (todo root : Nat), Datum.rootFrom n todo root < root + 2 ^ todo
  | 0, root => by simp [Datum.rootFrom]
  | todo + 1, root => by
    simp only [Datum.rootFrom]
    have hp : 2 ^ (todo + 1) = 2 ^ todo + 2 ^ todo := by rw [Nat.pow_succ]; omega
    rw [hp]
    split
    · have h1 := rootFrom_lt n todo (root + 1 <<< todo)
      rw [Nat.one_shiftLeft] at h1 ⊢
      exact Nat.lt_of_lt_of_le h1 (by rw [Nat.add_assoc]; exact Nat.le_refl _)
    · exact Nat.lt_of_lt_of_le (rootFrom_lt n todo root) (by rw [← Nat.add_assoc]; exact Nat.le_add_right _ _)

/-- The root of a number, by way of the wider kind, fits. -/
theorem root_fact (x : Nat) : fitsC (csqrt (cwide (canon .f32 x))) = true := by
  cases hd : single.read x with
  | nan s t =>
    have : canon .f32 x = none := canon_nan (show (single.read x).isNaN = true by rw [hd]; rfl)
    rw [this]; rfl
  | infinity s =>
    have hc : canon .f32 x = some x := canon_num (show (single.read x).isNaN = false by rw [hd]; rfl)
    rw [hc, cwide_inf hd]
    have hr : double.read (double.word s double.infRung) = .infinity s := read_inf double s (by decide)
    have e : csqrt (some (double.word s double.infRung)) = ((Datum.infinity s).root 54).map double.write := by
      show (Option.map double.write ((double.read _).root _)) = _
      rw [hr]; rfl
    rw [e]
    cases s
    · have hr2 : FloatKind.f64.decode (double.word false double.infRung) = .infinity false := read_inf double false (by decide)
      show fitsC (some (double.word false double.infRung)) = true
      simp only [fitsC, hr2]
    · rfl
  | number s m e =>
    have hc : canon .f32 x = some x := canon_num (show (single.read x).isNaN = false by rw [hd]; rfl)
    rw [hc, cwide_num hd]
    obtain ⟨k, h1, _, h3, h4⟩ := wide_num hd
    have eq : csqrt (some (double.nearest s m e)) = ((Datum.number s (m * 2 ^ k) (e - k)).root 54).map double.write := by
      show (Option.map double.write ((double.read _).root _)) = _
      rw [h1]; rfl
    rw [eq]
    obtain ⟨s1, s2, s3, s4, s5, s6⟩ := double_facts
    have fin : ∀ (t : Bool) (M : Nat) (p : Int), (∀ j : Nat, (j : Int) = 126 - p → M ≤ 2 ^ j) → (M ≠ 0 → p ≤ 126) → fitsC (some (double.nearest t M p)) = true := by
      intro t M p hM hp
      have hle := (nearest_le double t (mag := M) (place := p) (k := 1200) (by rw [s5]; decide) (by rw [s5, s6]; decide) (fun j hj => hM j (by rw [s4] at hj; omega)) (fun h => by rw [s4]; have := hp h; omega)).1
      have hnn : canon .f64 (double.nearest t M p) = some (double.nearest t M p) := canon_num (write_notNaN double (.number t M p) rfl)
      rw [← hnn]
      exact fits_of_le hle (by decide)
    simp only [Datum.root]
    by_cases hm : m * 2 ^ k = 0
    · rw [if_pos hm]
      show fitsC (some (double.nearest s (m * 2 ^ k) (e - k))) = true
      exact fin s _ _ (fun j _ => by rw [hm]; exact Nat.zero_le _) (fun h => absurd hm h)
    · rw [if_neg hm]
      cases s
      · simp only [Bool.false_eq_true, if_false]
        have hm0 : m ≠ 0 := fun h => hm (by rw [h]; simp)
        have hlog := log2_shift hm0 k
        generalize hM2 : m * 2 ^ k = m2 at *
        have hval : (e - (k : Int)) + m2.log2 ≤ 127 := by omega
        generalize e - (k : Int) = e2 at *
        generalize hmore : 2 * 54 - m2.log2 + ((e2 - ((2 * 54 - m2.log2 : Nat) : Int)) % 2).toNat = more at *
        have hlog2 : (m2 <<< more).log2 = m2.log2 + more := by rw [Nat.shiftLeft_eq, log2_shift hm]
        have hwh := rootFrom_lt (m2 <<< more) ((m2 <<< more).log2 / 2 + 1) 0
        rw [hlog2] at hwh ⊢
        generalize Datum.rootFrom (m2 <<< more) ((m2.log2 + more) / 2 + 1) 0 = whole at *
        refine fin false _ _ (fun j hj => ?_) (fun _ => by omega)
        have hbit : (whole * whole != m2 <<< more).toNat ≤ 1 := by cases (whole * whole != m2 <<< more) <;> decide
        have hlt : 2 * whole + (whole * whole != m2 <<< more).toNat < 2 ^ ((m2.log2 + more) / 2 + 2) := by
          rw [Nat.pow_succ]; omega
        refine Nat.le_trans (Nat.le_of_lt hlt) (Nat.pow_le_pow_right (by decide) ?_)
        omega
      · rfl

end Go.Sx
