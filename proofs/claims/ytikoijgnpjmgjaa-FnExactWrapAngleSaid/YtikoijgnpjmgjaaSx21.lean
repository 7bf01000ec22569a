/-
  What the atoms of the angle's runs say of the two numbers, and the bounds of its terms. Conditions: none.
-/
import Derived.Test.YtikoijgnpjmgjaaSx20
namespace Go.Sx
open Go.RowKit Ieee

/-- The widened number without its sign: its word. -/
theorem abs_wide {b : Nat} {s : Bool} {m : Nat} {e : Int} (hd : single.read b = .number s m e) :
    ∃ A k, cabs .f64 (cwide (canon .f32 b)) = some A ∧ A < 9223372036854775808 ∧ double.read A = .number false (m * 2 ^ k) (e - (k : Nat)) := by
  have hc : canon .f32 b = some b := canon_num (show (single.read b).isNaN = false by rw [hd]; rfl)
  rw [hc, cwide_num hd]
  obtain ⟨k, h1, h2, h3, h4⟩ := wide_num hd
  have e1 : cabs .f64 (some (double.nearest s m e)) = some (double.nearest false m e) := by
    show some (_ % double.signWeight) = _
    rw [double_facts.1, h2]
  rw [e1]
  have hq := h2 s
  have hq0 := h2 false
  have hlt0 : double.nearest false m e < 9223372036854775808 := by rw [← hq0]; exact Nat.mod_lt _ (by decide)
  refine ⟨_, k, rfl, hlt0, ?_⟩
  have h6 : double.read (double.nearest false m e) = match double.read (double.nearest s m e) with
      | .number _ a p => .number false a p
      | .infinity _ => .infinity false
      | .nan _ a => .nan false a := by
    unfold Format.read
    simp only [double_facts.1, hq, hq0]
    have hs0 : (double.nearest false m e / 9223372036854775808 % 2 == 1) = false := by rw [Nat.div_eq_of_lt hlt0]; rfl
    simp only [hs0]
    split
    · rfl
    · split
      · rfl
      · split <;> rfl
  rw [h6, h1]

/-- A word below the sign, by its reading. -/
theorem word_of_read {A : Nat} (hA : A < 9223372036854775808) {s : Bool} {m : Nat} {e : Int} (h : double.read A = .number s m e) :
    (A : Int) = (e + 1074) * 4503599627370496 + m ∧ s = false ∧ (e = -1074 ∨ 4503599627370496 ≤ m) := by
  obtain ⟨s1, s2, s3, s4, _⟩ := double_facts
  unfold Format.read at h
  simp only [s1, s2, s3, s4, Nat.mod_eq_of_lt hA, Nat.div_eq_of_lt hA] at h
  split at h
  · rename_i h1
    simp only [Datum.number.injEq] at h
    obtain ⟨h0, rfl, rfl⟩ := h
    exact ⟨by omega, by rw [← h0]; rfl, by omega⟩
  · split at h
    · rename_i h1 h2
      simp only [Datum.number.injEq] at h
      obtain ⟨h0, rfl, rfl⟩ := h
      exact ⟨by omega, by rw [← h0]; rfl, by omega⟩
    · split at h <;> cases h

theorem pow_ge_two {k : Nat} (h : 1 ≤ k) : 2 ≤ 2 ^ k := by
  have := Nat.pow_le_pow_right (show 0 < 2 by decide) h
  omega

/-- The same value, the same word. -/
theorem word_inj {A B : Nat} (hA : A < 9223372036854775808) (hB : B < 9223372036854775808) {s t : Bool} {m n : Nat} {e f : Int} (ha : double.read A = .number s m e) (hb : double.read B = .number t n f)
    (h : m * 2 ^ (e - min e f).toNat = n * 2 ^ (f - min e f).toNat) : A = B := by
  obtain ⟨a1, _, a3⟩ := word_of_read hA ha
  obtain ⟨b1, _, b3⟩ := word_of_read hB hb
  obtain ⟨m1, m2, _⟩ := dec64 ha
  obtain ⟨n1, n2, _⟩ := dec64 hb
  rcases Int.lt_trichotomy e f with hlt | heq | hgt
  · exfalso
    rw [show (e - min e f).toNat = 0 by omega, Nat.pow_zero, Nat.mul_one] at h
    have hn : 4503599627370496 ≤ n := by omega
    have h2 := Nat.mul_le_mul_left n (pow_ge_two (k := (f - min e f).toNat) (by omega))
    omega
  · subst heq
    rw [show (e - min e e).toNat = 0 by omega, Nat.pow_zero, Nat.mul_one, Nat.mul_one] at h
    subst h
    omega
  · exfalso
    rw [show (f - min e f).toNat = 0 by omega, Nat.pow_zero, Nat.mul_one] at h
    have hn : 4503599627370496 ≤ m := by omega
    have h2 := Nat.mul_le_mul_left m (pow_ge_two (k := (e - min e f).toNat) (by omega))
    omega

/-- A float32 number less itself is zero only of a finite one. -/
theorem finite_of {b : Nat} (h : ccmp .eql .f32 (cbin .sub .f32 (canon .f32 b) (canon .f32 b)) (canon .f32 0) = true) : ∃ s m e, single.read b = .number s m e := by
  cases hd : single.read b with
  | number s m e => exact ⟨s, m, e, rfl⟩
  | nan s t =>
    have hc : canon .f32 b = none := canon_nan (show (single.read b).isNaN = true by rw [hd]; rfl)
    rw [hc] at h
    cases h
  | infinity s =>
    have hc : canon .f32 b = some b := canon_num (show (single.read b).isNaN = false by rw [hd]; rfl)
    have e1 : cbin .sub .f32 (some b) (some b) = none := by
      show Option.map single.write ((single.read b).sum (single.read b).opposite) = none
      rw [hd]
      cases s <;> rfl
    rw [hc, e1] at h
    cases h

theorem canon_zero32 : canon .f32 0 = some 0 := by decide +kernel
theorem canon_zero64 : canon .f64 0 = some 0 := by decide +kernel

theorem eq_zero32 {b : Nat} {s : Bool} {m : Nat} {e : Int} (hd : single.read b = .number s m e) : ccmp .eql .f32 (canon .f32 b) (canon .f32 0) = decide (m = 0) := by
  have hc : canon .f32 b = some b := canon_num (show (single.read b).isNaN = false by rw [hd]; rfl)
  have h0 : single.read 0 = .number false 0 (-149) := by decide +kernel
  rw [hc, canon_zero32]
  show ((Datum.order (single.read b) (single.read 0)) == some .eq) = _
  rw [hd, h0]
  simp only [Datum.order]
  have e0 : signed false 0 (-149 - min e (-149)).toNat = 0 := by unfold signed; simp
  have ha := sg_abs s m (e - min e (-149)).toNat
  rw [e0]
  have hp := Nat.two_pow_pos (e - min e (-149)).toNat
  generalize signed s m (e - min e (-149)).toNat = z at *
  by_cases hm : m = 0
  · subst hm
    have hz : z = 0 := by omega
    subst hz
    simp
  · have hz : z ≠ 0 := by
      have := Nat.mul_ne_zero hm (show 2 ^ (e - min e (-149)).toNat ≠ 0 by omega)
      omega
    have : compare z 0 ≠ .eq := fun h => hz (Int.compare_eq_eq.1 h)
    simp [hm, this]

theorem eq_zero64 {A : Nat} {s : Bool} {m : Nat} {e : Int} (hd : double.read A = .number s m e) : ccmp .eql .f64 (some A) (canon .f64 0) = decide (m = 0) := by
  have h0 : double.read 0 = .number false 0 (-1074) := by decide +kernel
  rw [canon_zero64]
  show ((Datum.order (double.read A) (double.read 0)) == some .eq) = _
  rw [hd, h0]
  simp only [Datum.order]
  have e0 : signed false 0 (-1074 - min e (-1074)).toNat = 0 := by unfold signed; simp
  have ha := sg_abs s m (e - min e (-1074)).toNat
  rw [e0]
  have hp := Nat.two_pow_pos (e - min e (-1074)).toNat
  generalize signed s m (e - min e (-1074)).toNat = z at *
  by_cases hm : m = 0
  · subst hm
    have hz : z = 0 := by omega
    subst hz
    simp
  · have hz : z ≠ 0 := by
      have := Nat.mul_ne_zero hm (show 2 ^ (e - min e (-1074)).toNat ≠ 0 by omega)
      omega
    have : compare z 0 ≠ .eq := fun h => hz (Int.compare_eq_eq.1 h)
    simp [hm, this]

/-- How two numbers that are not below zero stand to each other. -/
theorem order_pos {A B : Nat} {p q : Nat} {i j : Int} (ha : double.read A = .number false p i) (hb : double.read B = .number false q j) :
    double.order A B = some (compare (p * 2 ^ (i - min i j).toNat) (q * 2 ^ (j - min i j).toNat)) := by
  show Datum.order (double.read A) (double.read B) = _
  rw [ha, hb]
  simp only [Datum.order]
  have e1 : ∀ (n k : Nat), signed false n k = ((n * 2 ^ k : Nat) : Int) := fun n k => by unfold signed; rw [Nat.shiftLeft_eq]; rfl
  rw [e1, e1]
  generalize p * 2 ^ (i - min i j).toNat = x
  generalize q * 2 ^ (j - min i j).toNat = y
  congr 1
  rcases Nat.lt_trichotomy x y with h | h | h
  · rw [Nat.compare_eq_lt.2 h, Int.compare_eq_lt.2 (by omega)]
  · rw [Nat.compare_eq_eq.2 h, Int.compare_eq_eq.2 (by omega)]
  · rw [Nat.compare_eq_gt.2 h, Int.compare_eq_gt.2 (by omega)]

/-- The lesser over the greater. -/
theorem min_max_quo {A B p q : Nat} {i j : Int} (hA : A < 9223372036854775808) (hB : B < 9223372036854775808) (ha : double.read A = .number false p i) (hb : double.read B = .number false q j) :
    cbin .quo .f64 (cmm false .f64 (some A) (some B)) (cmm true .f64 (some A) (some B)) = if ccmp .gtr .f64 (some A) (some B) then cbin .quo .f64 (some B) (some A) else cbin .quo .f64 (some A) (some B) := by
  have ho := order_pos ha hb
  have hgt : ccmp .gtr .f64 (some A) (some B) = (double.order A B == some .gt) := rfl
  rw [hgt, ho]
  have hm : ∀ big, cmm big .f64 (some A) (some B) = match double.order A B with
    | none => none
    | some .lt => if big then some B else some A
    | some .gt => if big then some A else some B
    | some .eq => if (FloatKind.f64.decode A).neg == big then some B else some A := fun big => rfl
  rw [hm, hm, ho]
  cases hc : compare (p * 2 ^ (i - min i j).toNat) (q * 2 ^ (j - min i j).toNat) with
  | lt => rfl
  | gt => rfl
  | eq =>
    have := word_inj hA hB ha hb (Nat.compare_eq_eq.1 hc)
    subst this
    dsimp only
    cases (FloatKind.f64.decode A).neg <;> rfl

/-- The lesser over the greater is at most one. -/
theorem quo_le_one {A B p q : Nat} {i j : Int} (ha : double.read A = .number false p i) (hb : double.read B = .number false q j) (hq : q ≠ 0) (h : ccmp .gtr .f64 (some A) (some B) = false) :
    Bd 1074 (cbin .quo .f64 (some A) (some B)) := by
  obtain ⟨p1, p2, _⟩ := dec64 ha
  obtain ⟨q1, q2, _⟩ := dec64 hb
  have ho := order_pos ha hb
  have hgt : ccmp .gtr .f64 (some A) (some B) = (double.order A B == some .gt) := rfl
  rw [hgt, ho] at h
  have hle : p * 2 ^ (i - min i j).toNat ≤ q * 2 ^ (j - min i j).toNat := by
    rcases Nat.lt_or_ge (q * 2 ^ (j - min i j).toNat) (p * 2 ^ (i - min i j).toNat) with hlt | hge
    · rw [Nat.compare_eq_gt.2 hlt] at h; cases h
    · exact hge
  intro r hr
  have hr' : Option.map double.write ((double.read A).quotient 54 (double.read B)) = some r := hr
  rw [ha, hb] at hr'
  cases hs : (Datum.number false p i).quotient 54 (.number false q j) with
  | none => rw [hs] at hr'; cases hr'
  | some d =>
    rw [hs] at hr'; cases hr'
    refine quotient_bd (c := 0) p2 q2 hq (by decide) ?_ hs
    rw [Nat.pow_zero, Nat.one_mul]
    calc p * 2 ^ (i + 1074).toNat = p * 2 ^ (i - min i j).toNat * 2 ^ (min i j + 1074).toNat := by rw [Nat.mul_assoc, ← Nat.pow_add]; congr 2; omega
      _ ≤ q * 2 ^ (j - min i j).toNat * 2 ^ (min i j + 1074).toNat := Nat.mul_le_mul_right _ hle
      _ = q * 2 ^ (j + 1074).toNat := by rw [Nat.mul_assoc, ← Nat.pow_add]; congr 2; omega

/-! ### Bounds of the terms -/
theorem nn_sq {k : Nat} {x : CF} (hx : Bd k x) (hk : k ≤ 1500) (h0 : 1074 ≤ k) : NN (cbin .mul .f64 x x) := by
  intro r hr
  have hb := bd_mul (i := k) (j := k) (k := k + k - 1074) hx hx (by omega) (by omega) (by omega) r hr
  cases x with
  | none => cases hr
  | some a =>
    obtain ⟨s, m, e, h1, h2, h3⟩ := bd_db hx rfl
    have hr' : Option.map double.write ((double.read a).product (double.read a)) = some r := hr
    rw [h1] at hr'
    have hss : (s ^^ s) = false := by cases s <;> rfl
    simp only [Datum.product, hss, Option.map_some, Option.some.injEq] at hr'
    subst hr'
    exact nn_nearest false (.inl rfl) hb

theorem bd_one (E : Env) : Bd 1074 (den E angOne) := bd_lit (b := 4607182418800017408) (by decide +kernel)

theorem bd_angR (E : Env) (h : E.f1 2 = csqrt) {z : T} (hz : Bd 1074 (den E z)) : Bd 1074 (den E (angR z)) := by
  have h1 : Bd 1074 (den E (.bin 6 z z)) := bd_mul (k := 1074) hz hz (by decide) (by decide) (by decide)
  have h2 : NN (den E (.bin 6 z z)) := nn_sq hz (by decide) (by decide)
  have h3 : Bd 1075 (den E (.bin 4 angOne (.bin 6 z z))) := bd_add (k := 1075) (bd_one E) h1 (by decide +kernel) (by decide) (by decide)
  obtain ⟨h4, h5⟩ := sqrt_bd h3 (by decide)
  rw [← h] at h4 h5
  have h6 : Lb (den E (.bin 4 angOne (.f1 2 (.bin 4 angOne (.bin 6 z z))))) := lb_one_add h4 (by decide) h5
  exact bd_div hz h6 (by decide) (by decide)

theorem bd_angStep {q s : T} {n k : Nat} (E : Env) (hq : Bd 1074 (den E q)) (hs : Bd (1074 + k) (den E s)) (hn : litLb n = true) (hk : k ≤ 90) :
    Bd (1074 + (k + 1)) (den E (.bin 5 (.bin 7 angOne (.lit .f64 n)) (.bin 6 q s))) := by
  refine bd_sub (i := 1074) (j := 1074 + k) (bd_div (bd_one E) (lb_lit hn) (by decide) (by decide)) ?_ ?_ (by omega) (by omega)
  · exact bd_mul (i := 1074) (j := 1074 + k) hq hs (by omega) (by omega) (by omega)
  · have h1 : 2 ^ 1074 ≤ 2 ^ (1074 + k) := pow_mono 1074 (1074 + k) (by omega)
    have h2 : 2 ^ (1074 + (k + 1)) = 2 ^ (1074 + k) + 2 ^ (1074 + k) := by
      rw [show 1074 + (k + 1) = (1074 + k) + 1 by omega, Nat.pow_succ]; omega
    omega
theorem bd_angS {q : T} (E : Env) (hq : Bd 1074 (den E q)) : ∀ (ns : List Nat) (s : T) (k : Nat), ns.all litLb = true → Bd (1074 + k) (den E s) → k + ns.length ≤ 91 →
    Bd (1074 + (k + ns.length)) (den E (angS q ns s))
  | [], s, k, _, hs, _ => by simpa [angS] using hs
  | n :: r, s, k, hn, hs, hk => by
    simp only [List.all_cons, Bool.and_eq_true] at hn
    simp only [List.length_cons] at hk
    have := bd_angS E hq r (.bin 5 (.bin 7 angOne (.lit .f64 n)) (.bin 6 q s)) (k + 1) hn.2 (bd_angStep E hq hs hn.1 (by omega)) (by omega)
    rw [show k + (n :: r).length = k + 1 + r.length by simp only [List.length_cons]; omega]
    exact this

theorem bd_angBody (E : Env) (h : E.f1 2 = csqrt) {z : T} (hz : Bd 1074 (den E z)) (steep xn yn : Bool) : Bd 1200 (den E (angBody z steep xn yn)) := by
  have h1 := bd_angR E h (bd_angR E h (bd_angR E h hz))
  have h2 : Bd 1074 (den E (.bin 6 (angR (angR (angR z))) (angR (angR (angR z))))) := bd_mul (k := 1074) h1 h1 (by decide) (by decide) (by decide)
  have h3 : Bd (1074 + (0 + angNs.length)) (den E (angS (.bin 6 (angR (angR (angR z))) (angR (angR (angR z)))) angNs (.lit .f64 0))) := bd_angS E h2 angNs _ 0 (by decide +kernel) (bd_lit (b := 0) (by decide +kernel)) (by decide)
  have h4 : Bd 1077 (den E (.bin 6 (.lit .f64 4620693217682128896) (angR (angR (angR z))))) := bd_mul (i := 1077) (k := 1077) (bd_lit (b := 4620693217682128896) (by decide +kernel)) h1 (by decide) (by decide) (by decide)
  have h5 : Bd 1090 (den E (angCore (angR (angR (angR z))))) := bd_mul (k := 1090) h4 h3 (by decide) (by decide) (by decide)
  have h6 : Bd 1091 (den E (angSteep steep (angCore (angR (angR (angR z)))))) := by
    cases steep
    · exact h5.mono (by decide)
    · exact bd_sub (i := 1090) (bd_lit (b := 4609753056924675352) (by decide +kernel)) h5 (by decide +kernel) (by decide) (by decide)
  have h7 : Bd 1092 (den E (angLeft xn (angSteep steep (angCore (angR (angR (angR z))))))) := by
    cases xn
    · exact h6.mono (by decide)
    · exact bd_sub (i := 1091) (bd_lit (b := 4614256656552045848) (by decide +kernel)) h6 (by decide +kernel) (by decide) (by decide)
  cases yn
  · exact h7.mono (by decide)
  · exact (bd_neg h7).mono (by decide)

end Go.Sx
