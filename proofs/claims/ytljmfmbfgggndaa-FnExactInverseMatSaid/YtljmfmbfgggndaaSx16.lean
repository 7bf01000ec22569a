/-
  Bounds of float64 numbers by powers of two, through addition to division and the cutting of whole parts. Conditions: none.
-/
import Derived.Test.YtljmfmbfgggndaaSx15
namespace Go.Sx
open Ieee

/-- At most 2 ^ (k - 1074), or no number. -/
def Bd (k : Nat) (x : CF) : Prop := ∀ b, x = some b → magLe double b k

theorem pow_mono (a b : Nat) (h : a ≤ b) : 2 ^ a ≤ 2 ^ b := Nat.pow_le_pow_right (by decide) h

theorem bd_none (k : Nat) : Bd k none := fun _ h => by cases h

theorem magLe_mono {b i j : Nat} (hij : i ≤ j) (h : magLe double b i) : magLe double b j := by
  obtain ⟨s, m, e, h1, h2, h3⟩ := h
  exact ⟨s, m, e, h1, h2, Nat.le_trans h3 (Nat.pow_le_pow_right (by decide) hij)⟩

theorem Bd.mono {x : CF} {i j : Nat} (h : Bd i x) (hij : i ≤ j) : Bd j x := fun b hb => magLe_mono hij (h b hb)

theorem nearest_bd (neg : Bool) {mag : Nat} {place : Int} {k a b : Nat} (h52 : 52 ≤ k) (hk : k ≤ 2000) (hab : (b : Int) - a = (k : Int) - 1074 - place) (h : mag * 2 ^ a ≤ 2 ^ b) :
    magLe double (double.nearest neg mag place) k := by
  obtain ⟨s1, s2, s3, s4, s5, s6⟩ := double_facts
  refine (nearest_le double neg (k := k) (by rw [s5]; exact h52) (by rw [s5, s6]; omega) (fun j hj => ?_) (fun hm => ?_)).1
  · rw [s4] at hj
    have e : b = a + j := by omega
    rw [e, Nat.pow_add, Nat.mul_comm] at h
    exact Nat.le_of_mul_le_mul_left h (Nat.two_pow_pos a)
  · rw [s4]
    have h1 : 2 ^ a ≤ 2 ^ b := Nat.le_trans (by have := Nat.mul_le_mul_right (2 ^ a) (Nat.one_le_iff_ne_zero.2 hm); omega) h
    have := (Nat.pow_le_pow_iff_right (by decide : 1 < 2)).1 h1
    omega

theorem sg_abs (s : Bool) (m k : Nat) : (signed s m k).natAbs = m * 2 ^ k := by
  unfold signed
  rw [Nat.shiftLeft_eq]
  cases s
  · exact Int.natAbs_natCast _
  · exact (Int.natAbs_neg _).trans (Int.natAbs_natCast _)

/-- Of a datum that is a number: at most 2 ^ (k - 1074). -/
def DB (k : Nat) (d : Datum) : Prop := ∃ s m e, d = .number s m e ∧ (-1074 : Int) ≤ e ∧ m * 2 ^ (e + 1074).toNat ≤ 2 ^ k

theorem bd_db {x : CF} {k b : Nat} (h : Bd k x) (hb : x = some b) : DB k (double.read b) := by
  obtain ⟨s, m, e, h1, h2, h3⟩ := h b hb
  obtain ⟨s1, s2, s3, s4, s5, s6⟩ := double_facts
  rw [s4] at h2 h3
  refine ⟨s, m, e, h1, h2, ?_⟩
  have : (e - (-1074 : Int)) = e + 1074 := by omega
  rw [this] at h3; exact h3

theorem db_bd {b k : Nat} (h : DB k (double.read b)) : magLe double b k := by
  obtain ⟨s, m, e, h1, h2, h3⟩ := h
  obtain ⟨s1, s2, s3, s4, s5, s6⟩ := double_facts
  refine ⟨s, m, e, h1, by rw [s4]; exact h2, ?_⟩
  rw [s4]
  have : (e - (-1074 : Int)) = e + 1074 := by omega
  rw [this]; exact h3

theorem sum_bd {d d' r : Datum} {i j k : Nat} (hd : DB i d) (hd' : DB j d') (hij : 2 ^ i + 2 ^ j ≤ 2 ^ k) (h52 : 52 ≤ k) (hk : k ≤ 2000) (h : d.sum d' = some r) : magLe double (double.write r) k := by
  obtain ⟨s, m, e, rfl, h2, h3⟩ := hd
  obtain ⟨t, n, f, rfl, g2, g3⟩ := hd'
  simp only [Datum.sum] at h
  cases h
  show magLe double (double.nearest _ _ _) k
  refine nearest_bd (a := (min e f + 1074).toNat) (b := k) _ h52 hk (by omega) ?_
  have h4 := Int.natAbs_add_le (signed s m (e - min e f).toNat) (signed t n (f - min e f).toNat)
  rw [sg_abs, sg_abs] at h4
  refine Nat.le_trans (Nat.mul_le_mul_right _ h4) ?_
  rw [Nat.add_mul, Nat.mul_assoc, Nat.mul_assoc, ← Nat.pow_add, ← Nat.pow_add]
  have e1 : (e - min e f).toNat + (min e f + 1074).toNat = (e + 1074).toNat := by omega
  have e2 : (f - min e f).toNat + (min e f + 1074).toNat = (f + 1074).toNat := by omega
  rw [e1, e2]
  omega

theorem db_opposite {d : Datum} {k : Nat} (h : DB k d) : DB k d.opposite := by
  obtain ⟨s, m, e, rfl, h2, h3⟩ := h
  exact ⟨!s, m, e, rfl, h2, h3⟩

theorem bd_add {i j k : Nat} {x y : CF} (hx : Bd i x) (hy : Bd j y) (hij : 2 ^ i + 2 ^ j ≤ 2 ^ k) (h52 : 52 ≤ k) (hk : k ≤ 2000) : Bd k (cbin .add .f64 x y) := by
  intro r hr
  cases x with
  | none => cases hr
  | some a =>
    cases y with
    | none => cases hr
    | some b =>
      have hr' : Option.map double.write ((double.read a).sum (double.read b)) = some r := hr
      cases hs : (double.read a).sum (double.read b) with
      | none => rw [hs] at hr'; cases hr'
      | some d => rw [hs] at hr'; cases hr'; exact sum_bd (bd_db hx rfl) (bd_db hy rfl) hij h52 hk hs

theorem bd_sub {i j k : Nat} {x y : CF} (hx : Bd i x) (hy : Bd j y) (hij : 2 ^ i + 2 ^ j ≤ 2 ^ k) (h52 : 52 ≤ k) (hk : k ≤ 2000) : Bd k (cbin .sub .f64 x y) := by
  intro r hr
  cases x with
  | none => cases hr
  | some a =>
    cases y with
    | none => cases hr
    | some b =>
      have hr' : Option.map double.write ((double.read a).sum (double.read b).opposite) = some r := hr
      cases hs : (double.read a).sum (double.read b).opposite with
      | none => rw [hs] at hr'; cases hr'
      | some d => rw [hs] at hr'; cases hr'; exact sum_bd (bd_db hx rfl) (db_opposite (bd_db hy rfl)) hij h52 hk hs

theorem bd_mul {i j k : Nat} {x y : CF} (hx : Bd i x) (hy : Bd j y) (h : i + j = k + 1074) (h52 : 52 ≤ k) (hk : k ≤ 2000) : Bd k (cbin .mul .f64 x y) := by
  intro r hr
  cases x with
  | none => cases hr
  | some a =>
    cases y with
    | none => cases hr
    | some b =>
      have hr' : Option.map double.write ((double.read a).product (double.read b)) = some r := hr
      obtain ⟨s, m, e, h1, h2, h3⟩ := bd_db hx rfl
      obtain ⟨t, n, f, g1, g2, g3⟩ := bd_db hy rfl
      rw [h1, g1] at hr'
      cases hr'
      show magLe double (double.nearest _ (m * n) (e + f)) k
      refine nearest_bd (a := (e + 1074).toNat + (f + 1074).toNat) (b := i + j) _ h52 hk (by omega) ?_
      rw [Nat.pow_add, Nat.pow_add]
      calc m * n * (2 ^ (e + 1074).toNat * 2 ^ (f + 1074).toNat) = (m * 2 ^ (e + 1074).toNat) * (n * 2 ^ (f + 1074).toNat) := by ac_rfl
        _ ≤ 2 ^ i * 2 ^ j := Nat.mul_le_mul h3 g3

/-- A quotient, against the quotient of the two numbers. -/
theorem quotient_bd {s t : Bool} {m n : Nat} {e f : Int} {c : Nat} {r : Datum} (he : (-1074 : Int) ≤ e) (hf : (-1074 : Int) ≤ f) (hn : n ≠ 0) (hc : c ≤ 900)
    (hq : m * 2 ^ (e + 1074).toNat ≤ 2 ^ c * (n * 2 ^ (f + 1074).toNat)) (h : (Datum.number s m e).quotient 54 (.number t n f) = some r) : magLe double (double.write r) (1074 + c) := by
  simp only [Datum.quotient] at h
  rw [if_neg hn] at h
  cases h
  show magLe double (double.nearest _ _ _) _
  generalize hmore : 54 + n.log2 - m.log2 = more
  have hD : m <<< more = m * 2 ^ more := Nat.shiftLeft_eq _ _
  rw [hD]
  by_cases hm : m = 0
  · subst hm
    have e0 : double.nearest (s ^^ t) (2 * (0 * 2 ^ more / n) + (0 * 2 ^ more % n != 0).toNat) (e - f - more - 1) = double.word (s ^^ t) 0 := by
      have : 2 * (0 * 2 ^ more / n) + (0 * 2 ^ more % n != 0).toNat = 0 := by simp
      rw [this]; unfold Format.nearest; simp
    rw [e0]
    have : double.nearest (s ^^ t) 0 0 = double.word (s ^^ t) 0 := by unfold Format.nearest; simp
    rw [← this]
    exact nearest_bd (a := 0) (b := c) _ (by omega) (by omega) (by omega) (by simp)
  · -- D against n: at most 2 ^ w times n
    have hmlog := Nat.log2_self_le hm
    have hmlt : m < 2 ^ (m.log2 + 1) := Nat.lt_log2_self
    have hnlt : n < 2 ^ (n.log2 + 1) := Nat.lt_log2_self
    have hnle := Nat.log2_self_le hn
    have hbig : n ≤ m * 2 ^ more := by
      have h1 : 2 ^ (n.log2 + 1) ≤ 2 ^ m.log2 * 2 ^ more := by
        rw [← Nat.pow_add]; exact Nat.pow_le_pow_right (by decide) (by omega)
      exact Nat.le_trans (Nat.le_of_lt hnlt) (Nat.le_trans h1 (Nat.mul_le_mul_right _ hmlog))
    -- the power: w = c + f - e + more
    have hw : (0 : Int) ≤ (c : Int) + f - e + more := by
      rcases Int.lt_or_le ((c : Int) + f - e + more) 0 with hlt | hge
      · exfalso
        -- m * 2 ^ more * 2 ^ (e + 1074) ≤ 2 ^ (c + f + 1074 + more) * n < 2 ^ (e + 1074) * n
        have h1 : m * 2 ^ more * 2 ^ (e + 1074).toNat ≤ 2 ^ (c + (f + 1074).toNat + more) * n := by
          calc m * 2 ^ more * 2 ^ (e + 1074).toNat = (m * 2 ^ (e + 1074).toNat) * 2 ^ more := by ac_rfl
            _ ≤ 2 ^ c * (n * 2 ^ (f + 1074).toNat) * 2 ^ more := Nat.mul_le_mul_right _ hq
            _ = 2 ^ (c + (f + 1074).toNat + more) * n := by rw [Nat.pow_add, Nat.pow_add]; ac_rfl
        have h2 : n * 2 ^ (e + 1074).toNat ≤ m * 2 ^ more * 2 ^ (e + 1074).toNat := Nat.mul_le_mul_right _ hbig
        have h3 : 2 ^ (c + (f + 1074).toNat + more) < 2 ^ (e + 1074).toNat := Nat.pow_lt_pow_right (by decide) (by omega)
        have h4 : 2 ^ (c + (f + 1074).toNat + more) * n < 2 ^ (e + 1074).toNat * n := Nat.mul_lt_mul_of_pos_right h3 (Nat.pos_of_ne_zero hn)
        rw [Nat.mul_comm n] at h2
        omega
      · exact hge
    obtain ⟨w, hw'⟩ : ∃ w : Nat, (w : Int) = (c : Int) + f - e + more := ⟨_, Int.toNat_of_nonneg hw⟩
    have hDn : m * 2 ^ more ≤ 2 ^ w * n := by
      have h1 : m * 2 ^ more * 2 ^ (e + 1074).toNat ≤ 2 ^ w * n * 2 ^ (e + 1074).toNat := by
        calc m * 2 ^ more * 2 ^ (e + 1074).toNat = (m * 2 ^ (e + 1074).toNat) * 2 ^ more := by ac_rfl
          _ ≤ 2 ^ c * (n * 2 ^ (f + 1074).toNat) * 2 ^ more := Nat.mul_le_mul_right _ hq
          _ = 2 ^ (c + (f + 1074).toNat + more) * n := by rw [Nat.pow_add, Nat.pow_add]; ac_rfl
          _ = 2 ^ (w + (e + 1074).toNat) * n := by congr 2; omega
          _ = 2 ^ w * n * 2 ^ (e + 1074).toNat := by rw [Nat.pow_add]; ac_rfl
      exact Nat.le_of_mul_le_mul_right h1 (Nat.two_pow_pos _)
    have hmag : 2 * (m * 2 ^ more / n) + (m * 2 ^ more % n != 0).toNat ≤ 2 ^ (w + 1) := by
      have hnpos := Nat.pos_of_ne_zero hn
      have h1 : m * 2 ^ more / n ≤ 2 ^ w := Nat.div_le_of_le_mul (by rw [Nat.mul_comm n]; exact hDn)
      have hpow : 2 ^ (w + 1) = 2 ^ w + 2 ^ w := by rw [Nat.pow_succ]; omega
      by_cases hr : m * 2 ^ more % n = 0
      · rw [hr]; simp; omega
      · have h2 : m * 2 ^ more / n ≠ 2 ^ w := by
          intro h3
          have h4 := Nat.div_add_mod (m * 2 ^ more) n
          rw [h3] at h4
          rw [Nat.mul_comm n] at h4
          omega
        have hb : (m * 2 ^ more % n != 0).toNat ≤ 1 := by cases (m * 2 ^ more % n != 0) <;> decide
        omega
    refine nearest_bd (a := 0) (b := w + 1) _ (by omega) (by omega) (by omega) (by rw [Nat.pow_zero, Nat.mul_one]; exact hmag)

/-- Not less than one, and finite. -/
def Lb (x : CF) : Prop := ∀ b, x = some b → ∃ s m e, double.read b = .number s m e ∧ (-1074 : Int) ≤ e ∧ 2 ^ 1074 ≤ m * 2 ^ (e + 1074).toNat

theorem bd_div {k : Nat} {x y : CF} (hx : Bd k x) (hy : Lb y) (h0 : 1074 ≤ k) (hk : k ≤ 1900) : Bd k (cbin .quo .f64 x y) := by
  intro r hr
  cases x with
  | none => cases hr
  | some a =>
    cases y with
    | none => cases hr
    | some b =>
      have hr' : Option.map double.write ((double.read a).quotient 54 (double.read b)) = some r := hr
      obtain ⟨s, m, e, h1, h2, h3⟩ := bd_db hx rfl
      obtain ⟨t, n, f, g1, g2, g3⟩ := hy b rfl
      rw [h1, g1] at hr'
      have hn : n ≠ 0 := by
        intro h; subst h
        have := Nat.two_pow_pos 1074
        omega
      cases hs : (Datum.number s m e).quotient 54 (.number t n f) with
      | none => rw [hs] at hr'; cases hr'
      | some d =>
        rw [hs] at hr'; cases hr'
        have hkk : k = 1074 + (k - 1074) := by omega
        rw [hkk]
        refine quotient_bd h2 g2 hn (by omega) ?_ hs
        refine Nat.le_trans h3 ?_
        generalize k - 1074 = c at hkk
        subst hkk
        rw [Nat.add_comm, Nat.pow_add]
        exact Nat.mul_le_mul_left _ g3

/-- A literal's bound, by its reading. -/
def litBd (k b : Nat) : Bool :=
  match double.read b with
  | .number _ m e => decide ((-1074 : Int) ≤ e) && Nat.ble (m * 2 ^ (e + 1074).toNat) (2 ^ k)
  | _ => false
theorem bd_lit {k b : Nat} (h : litBd k b = true) : Bd k (canon .f64 b) := by
  intro c hc
  obtain ⟨rfl, _⟩ := canon_eq_some hc
  refine db_bd ?_
  unfold litBd at h
  split at h
  · rename_i s m e hd
    simp only [Bool.and_eq_true, decide_eq_true_eq] at h
    exact ⟨s, m, e, hd, h.1, Nat.le_of_ble_eq_true h.2⟩
  · cases h
def litLb (b : Nat) : Bool :=
  match double.read b with
  | .number _ m e => decide ((-1074 : Int) ≤ e) && decide (2 ^ 1074 ≤ m * 2 ^ (e + 1074).toNat)
  | _ => false
theorem lb_lit {b : Nat} (h : litLb b = true) : Lb (canon .f64 b) := by
  intro c hc
  obtain ⟨rfl, _⟩ := canon_eq_some hc
  unfold litLb at h
  split at h
  · rename_i s m e hd
    simp only [Bool.and_eq_true, decide_eq_true_eq] at h
    exact ⟨s, m, e, hd, h.1, h.2⟩
  · cases h

theorem bd_neg {k : Nat} {x : CF} (hx : Bd k x) : Bd k (cneg .f64 x) := by
  intro r hr
  cases x with
  | none => cases hr
  | some a =>
    cases hr
    obtain ⟨s, m, e, h1, h2, h3⟩ := hx a rfl
    have hm : (Op.negFloat .f64 a) % double.signWeight = a % double.signWeight := xor_pow_mod a 63
    have : ∃ s', double.read (Op.negFloat .f64 a) = .number s' m e := by
      unfold Format.read at h1 ⊢
      simp only [hm] at h1 ⊢
      split at h1
      · rename_i hlt; rw [if_pos hlt]; cases h1; exact ⟨_, rfl⟩
      · rename_i hlt
        rw [if_neg hlt]
        split at h1
        · rename_i hlt2; rw [if_pos hlt2]; cases h1; exact ⟨_, rfl⟩
        · split at h1 <;> cases h1
    obtain ⟨s', h1'⟩ := this
    exact ⟨s', m, e, h1', h2, h3⟩

/-- What a bound gives: the narrowing fits. -/
theorem bd_fits {k : Nat} {x : CF} (hx : Bd k x) (hk : k ≤ 1200) : fitsC x = true := by
  cases x with
  | none => rfl
  | some b =>
    have h := hx b rfl
    have hc : canon .f64 b = some b := by
      obtain ⟨s, m, e, h1, _⟩ := h
      exact canon_num (show (double.read b).isNaN = false by rw [h1]; rfl)
    rw [← hc]; exact fits_of_le h hk

end Go.Sx
