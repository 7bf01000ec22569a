/-
  What rounding keeps: a number that the format holds is written as it is; a bound that is a power of two stays. Conditions: none.
-/
import Derived.Test.YtljmfmbfgggndaaSx12
namespace Go.Sx
open Ieee

/-- The place of the last digit that is kept. -/
def lastPlace (f : Format) (mag : Nat) (place : Int) : Int := max (place + mag.log2 - f.fractionBits) f.leastPlace

/-- The digits that are kept. -/
def keptOf (f : Format) (mag : Nat) (place : Int) : Nat :=
  Toward.even.cut false (mag <<< (place - lastPlace f mag place).toNat) (lastPlace f mag place - place).toNat

theorem cut_even_sign (s t : Bool) (n d : Nat) : Toward.even.cut s n d = Toward.even.cut t n d := rfl

theorem nearest_eq (f : Format) (neg : Bool) {mag : Nat} (place : Int) (h : mag ≠ 0) :
    f.nearest neg mag place = f.word neg (min ((lastPlace f mag place - f.leastPlace).toNat * f.binade + keptOf f mag place) f.infRung) := by
  unfold Format.nearest
  rw [if_neg h]
  rfl

theorem cut_zero (n : Nat) : Toward.even.cut false n 0 = n := by
  unfold Toward.cut
  simp [Nat.mod_one]

theorem log2_shift {m : Nat} (h : m ≠ 0) (k : Nat) : (m * 2 ^ k).log2 = m.log2 + k := by
  rw [Nat.log2_eq_iff (by have := Nat.two_pow_pos k; exact Nat.mul_ne_zero h (by omega))]
  have h1 := Nat.log2_self_le h
  have h2 : m < 2 ^ (m.log2 + 1) := Nat.lt_log2_self
  constructor
  · rw [Nat.pow_add]; exact Nat.mul_le_mul_right _ h1
  · rw [show m.log2 + k + 1 = (m.log2 + 1) + k by omega, Nat.pow_add]; exact Nat.mul_lt_mul_of_pos_right h2 (Nat.two_pow_pos k)

theorem cut_mul {m : Nat} (h : m ≠ 0) (k : Nat) : Toward.even.cut false (m * 2 ^ k) k = m := by
  unfold Toward.cut
  dsimp only
  have hk : min k ((m * 2 ^ k).log2 + 2) = k := by rw [log2_shift h]; omega
  rw [hk, Nat.one_shiftLeft, Nat.mul_div_cancel _ (Nat.two_pow_pos k), Nat.mul_mod_left]
  have h2 : (2 ^ k == 2 * 0) = false := by
    have := Nat.two_pow_pos k
    simp only [Nat.mul_zero, beq_eq_false_iff_ne]; omega
  simp [h2]

/-- What is kept is at most what it should be, where that is whole. -/
theorem cut_le {n d N : Nat} (h : n ≤ N * 2 ^ d) : Toward.even.cut false n d ≤ N := by
  unfold Toward.cut
  dsimp only
  rw [Nat.one_shiftLeft]
  have hlog : n < 2 ^ (n.log2 + 1) := Nat.lt_log2_self
  by_cases hd : d ≤ n.log2 + 2
  · rw [Nat.min_eq_left hd]
    have hp := Nat.two_pow_pos d
    have hq : n / 2 ^ d ≤ N := Nat.div_le_of_le_mul (by rw [Nat.mul_comm]; exact h)
    by_cases he : n / 2 ^ d = N
    · have hr : n % 2 ^ d = 0 := by
        have hdm := Nat.div_add_mod n (2 ^ d)
        rw [he, Nat.mul_comm] at hdm
        omega
      rw [hr]
      have h2 : (2 ^ d == 2 * 0) = false := by simp only [Nat.mul_zero, beq_eq_false_iff_ne]; omega
      simp [h2, he]
    · generalize (_ || _ : Bool) = t
      have : t.toNat ≤ 1 := by cases t <;> decide
      omega
  · rw [Nat.min_eq_right (by omega)]
    have hpow : 2 ^ (n.log2 + 2) = 2 * 2 ^ (n.log2 + 1) := by rw [show n.log2 + 2 = (n.log2 + 1) + 1 by omega, Nat.pow_succ]; omega
    have h0 : n / 2 ^ (n.log2 + 2) = 0 := Nat.div_eq_of_lt (by omega)
    have hr : n % 2 ^ (n.log2 + 2) = n := Nat.mod_eq_of_lt (by omega)
    rw [h0, hr]
    have h1 : decide (2 ^ (n.log2 + 2) < 2 * n) = false := by simp; omega
    have h2 : (2 ^ (n.log2 + 2) == 2 * n) = false := by simp only [beq_eq_false_iff_ne]; omega
    simp [h1, h2]

/-- A rung, read: the number is what was written. -/
theorem read_rung (f : Format) (neg : Bool) {up kept : Nat} (hk : kept ≤ 2 * f.binade) (hlow : up = 0 ∨ f.binade ≤ kept) (hfin : up * f.binade + kept < f.infRung) :
    ∃ m e, f.read (f.word neg (up * f.binade + kept)) = .number neg m e ∧ f.leastPlace ≤ e ∧ m * 2 ^ (e - f.leastPlace).toNat = kept * 2 ^ up := by
  have hb : 0 < f.binade := Nat.two_pow_pos _
  have hlt : up * f.binade + kept < f.signWeight := Nat.lt_trans hfin f.infRung_lt
  have hneg : (f.word neg (up * f.binade + kept) / f.signWeight % 2 == 1) = neg := by
    have hw : 0 < f.signWeight := Nat.two_pow_pos _
    unfold Format.word
    cases neg
    · simp [Nat.div_eq_of_lt hlt]
    · simp [Nat.add_div_left _ hw, Nat.div_eq_of_lt hlt]
  unfold Format.read
  simp only [read_word_rung f neg _ hlt, hneg]
  by_cases h1 : up * f.binade + kept < f.binade
  · rw [if_pos h1]
    have hup : up = 0 := by
      rcases hlow with h | h
      · exact h
      · omega
    subst hup
    exact ⟨_, _, rfl, Int.le_refl _, by simp⟩
  · rw [if_neg h1, if_pos hfin]
    by_cases h2 : kept = 2 * f.binade
    · have hq : (up * f.binade + kept) / f.binade = up + 2 := by
        rw [h2, show up * f.binade + 2 * f.binade = (up + 2) * f.binade by rw [Nat.add_mul], Nat.mul_div_cancel _ hb]
      have hr : (up * f.binade + kept) % f.binade = 0 := by
        rw [h2, show up * f.binade + 2 * f.binade = (up + 2) * f.binade by rw [Nat.add_mul], Nat.mul_mod_left]
      refine ⟨_, _, rfl, by omega, ?_⟩
      rw [hq, hr, h2]
      have : (f.leastPlace + ((up + 2 - 1 : Nat) : Int) - f.leastPlace).toNat = up + 1 := by omega
      rw [this, Nat.pow_succ, Nat.add_zero, Nat.mul_comm (2 ^ up) 2, ← Nat.mul_assoc, Nat.mul_comm f.binade 2]
    · have hge : f.binade ≤ kept := by
        rcases hlow with h | h
        · subst h; omega
        · exact h
      have hq : (up * f.binade + kept) / f.binade = up + 1 := by
        rw [Nat.div_eq_iff hb]
        constructor
        · rw [Nat.add_mul]; omega
        · rw [Nat.add_mul]; omega
      have hr : (up * f.binade + kept) % f.binade = kept - f.binade := by
        have := Nat.div_add_mod (up * f.binade + kept) f.binade
        rw [hq, Nat.mul_comm, Nat.add_mul] at this
        omega
      refine ⟨_, _, rfl, by omega, ?_⟩
      rw [hq, hr]
      have : (f.leastPlace + ((up + 1 - 1 : Nat) : Int) - f.leastPlace).toNat = up := by omega
      rw [this, show f.binade + (kept - f.binade) = kept by omega]

/-- The digits that are kept lie in their binade. -/
theorem kept_bounds (f : Format) {mag : Nat} (place : Int) (h : mag ≠ 0) :
    keptOf f mag place ≤ 2 * f.binade ∧ (lastPlace f mag place = f.leastPlace ∨ f.binade ≤ keptOf f mag place) := by
  have hl1 : place + (mag.log2 : Int) - f.fractionBits ≤ lastPlace f mag place := Int.le_max_left _ _
  have hl2 : lastPlace f mag place = place + (mag.log2 : Int) - f.fractionBits ∨ lastPlace f mag place = f.leastPlace := by unfold lastPlace; omega
  have hmag : mag < 2 ^ (mag.log2 + 1) := Nat.lt_log2_self
  have hmag2 := Nat.log2_self_le h
  unfold keptOf
  generalize lastPlace f mag place = last at *
  have hb2 : 2 * f.binade = 2 ^ (f.fractionBits + 1) := by unfold Format.binade; rw [Nat.pow_succ]; omega
  by_cases hc : last ≤ place
  · have h0 : (last - place).toNat = 0 := by omega
    rw [h0, cut_zero, Nat.shiftLeft_eq]
    constructor
    · rw [hb2]
      have : mag * 2 ^ (place - last).toNat < 2 ^ (f.fractionBits + 1) := by
        calc mag * 2 ^ (place - last).toNat < 2 ^ (mag.log2 + 1) * 2 ^ (place - last).toNat := Nat.mul_lt_mul_of_pos_right hmag (Nat.two_pow_pos _)
          _ = 2 ^ (mag.log2 + 1 + (place - last).toNat) := by rw [← Nat.pow_add]
          _ ≤ 2 ^ (f.fractionBits + 1) := Nat.pow_le_pow_right (by decide) (by omega)
      omega
    · rcases hl2 with hl2 | hl2
      · right
        unfold Format.binade
        calc 2 ^ f.fractionBits = 2 ^ (mag.log2 + (place - last).toNat) := by congr 1; omega
          _ = 2 ^ mag.log2 * 2 ^ (place - last).toNat := by rw [Nat.pow_add]
          _ ≤ mag * 2 ^ (place - last).toNat := Nat.mul_le_mul_right _ hmag2
      · exact .inl hl2
  · have h0 : (place - last).toNat = 0 := by omega
    rw [h0, Nat.shiftLeft_zero]
    constructor
    · refine cut_le ?_
      rw [hb2, ← Nat.pow_add]
      exact Nat.le_trans (Nat.le_of_lt hmag) (Nat.pow_le_pow_right (by decide) (by omega))
    · rcases hl2 with hl2 | hl2
      · right
        have hd : (last - place).toNat ≤ mag.log2 + 2 := by omega
        unfold Toward.cut
        dsimp only
        rw [Nat.one_shiftLeft, Nat.min_eq_left hd]
        refine Nat.le_trans ?_ (Nat.le_add_right _ _)
        rw [Nat.le_div_iff_mul_le (Nat.two_pow_pos _)]
        unfold Format.binade
        rw [← Nat.pow_add]
        exact Nat.le_trans (Nat.pow_le_pow_right (by decide) (by omega)) hmag2
      · exact .inl hl2

/-- A number, in units of the least place, is at most 2 ^ k (k counted from there). -/
def magLe (f : Format) (b : Nat) (k : Nat) : Prop :=
  ∃ s m e, f.read b = .number s m e ∧ f.leastPlace ≤ e ∧ m * 2 ^ (e - f.leastPlace).toNat ≤ 2 ^ k

/-- A bound that is a power of two stays. -/
theorem nearest_le (f : Format) (neg : Bool) {mag : Nat} {place : Int} {k : Nat} (hk : f.fractionBits ≤ k) (hinf : k + 3 < f.fractionBits + 2 ^ f.exponentBits) (h : ∀ j : Nat, (j : Int) = f.leastPlace + k - place → mag ≤ 2 ^ j) (h' : mag ≠ 0 → place ≤ f.leastPlace + k) :
    magLe f (f.nearest neg mag place) k ∧ (f.read (f.nearest neg mag place)).neg = neg := by
  by_cases hm : mag = 0
  · subst hm
    have hread := read_rung f neg (up := 0) (kept := 0) (by omega) (.inl rfl) (by
      have hE : 2 ≤ 2 ^ f.exponentBits := by omega
      unfold Format.infRung
      have : 0 < f.binade := Nat.two_pow_pos _
      have := Nat.mul_le_mul_right f.binade (show 1 ≤ 2 ^ f.exponentBits - 1 by omega)
      omega)
    obtain ⟨m, e, h1, h2, h3⟩ := hread
    have : f.nearest neg 0 place = f.word neg (0 * f.binade + 0) := by unfold Format.nearest; simp
    rw [this, h1]
    exact ⟨⟨neg, m, e, h1, h2, by rw [h3]; simp⟩, rfl⟩
  · have hp := h' hm
    obtain ⟨j, hj⟩ : ∃ j : Nat, (j : Int) = f.leastPlace + k - place := ⟨(f.leastPlace + k - place).toNat, by omega⟩
    have hmj := h j hj
    have hlog : mag.log2 ≤ j := by
      have := Nat.log2_self_le hm
      exact (Nat.pow_le_pow_iff_right (by decide : 1 < 2)).1 (Nat.le_trans this hmj)
    have hlast1 : f.leastPlace ≤ lastPlace f mag place := Int.le_max_right _ _
    have hlast2 : lastPlace f mag place ≤ f.leastPlace + k - f.fractionBits := by unfold lastPlace; omega
    obtain ⟨hk1, hk2⟩ := kept_bounds f place hm
    -- what is kept, against the bound
    have hkept : keptOf f mag place ≤ 2 ^ (f.leastPlace + k - lastPlace f mag place).toNat := by
      unfold keptOf
      generalize lastPlace f mag place = last at *
      by_cases hc : last ≤ place
      · have h0 : (last - place).toNat = 0 := by omega
        rw [h0, cut_zero, Nat.shiftLeft_eq]
        calc mag * 2 ^ (place - last).toNat ≤ 2 ^ j * 2 ^ (place - last).toNat := Nat.mul_le_mul_right _ hmj
          _ = 2 ^ (j + (place - last).toNat) := by rw [← Nat.pow_add]
          _ = 2 ^ (f.leastPlace + k - last).toNat := by congr 1; omega
      · have h0 : (place - last).toNat = 0 := by omega
        rw [h0, Nat.shiftLeft_zero]
        refine cut_le ?_
        rw [← Nat.pow_add]
        exact Nat.le_trans hmj (Nat.pow_le_pow_right (by decide) (by omega))
    rw [nearest_eq f neg place hm]
    have hup : (lastPlace f mag place - f.leastPlace).toNat + f.fractionBits ≤ k := by omega
    have hfin : (lastPlace f mag place - f.leastPlace).toNat * f.binade + keptOf f mag place < f.infRung := by
      unfold Format.infRung
      obtain ⟨X, hX⟩ : ∃ X, 2 ^ f.exponentBits = X := ⟨_, rfl⟩
      rw [hX] at hinf ⊢
      calc (lastPlace f mag place - f.leastPlace).toNat * f.binade + keptOf f mag place ≤ (lastPlace f mag place - f.leastPlace).toNat * f.binade + 2 * f.binade := Nat.add_le_add_left hk1 _
        _ = ((lastPlace f mag place - f.leastPlace).toNat + 2) * f.binade := by rw [Nat.add_mul]
        _ < (X - 1) * f.binade := Nat.mul_lt_mul_of_pos_right (by omega) (Nat.two_pow_pos _)
    rw [Nat.min_eq_left (Nat.le_of_lt hfin)]
    have hlow : (lastPlace f mag place - f.leastPlace).toNat = 0 ∨ f.binade ≤ keptOf f mag place := by
      rcases hk2 with h2 | h2
      · left; rw [h2]; simp
      · exact .inr h2
    obtain ⟨m, e, h1, h2, h3⟩ := read_rung f neg hk1 hlow hfin
    rw [h1]
    refine ⟨⟨neg, m, e, h1, h2, ?_⟩, rfl⟩
    rw [h3]
    calc keptOf f mag place * 2 ^ (lastPlace f mag place - f.leastPlace).toNat ≤ 2 ^ (f.leastPlace + k - lastPlace f mag place).toNat * 2 ^ (lastPlace f mag place - f.leastPlace).toNat := Nat.mul_le_mul_right _ hkept
      _ = 2 ^ ((f.leastPlace + k - lastPlace f mag place).toNat + (lastPlace f mag place - f.leastPlace).toNat) := by rw [← Nat.pow_add]
      _ = 2 ^ k := by congr 1; omega

/-- A number that needs no rounding is read as it was written. -/
theorem nearest_exact (f : Format) (neg : Bool) {mag : Nat} {place : Int} (hm : mag ≠ 0) (h : lastPlace f mag place ≤ place) (hfin : place + mag.log2 < 2 ^ (f.exponentBits - 1) - 1) (he : 3 ≤ f.exponentBits) :
    f.read (f.nearest neg mag place) = .number neg (mag * 2 ^ (place - lastPlace f mag place).toNat) (lastPlace f mag place) ∧ ∃ rung, rung < f.infRung ∧ ∀ s, f.nearest s mag place = f.word s rung := by
  obtain ⟨rung0, r1, r2⟩ := nearest_fin f neg mag place he hfin
  have hkept : keptOf f mag place = mag * 2 ^ (place - lastPlace f mag place).toNat := by
    unfold keptOf
    have h0 : (lastPlace f mag place - place).toNat = 0 := by omega
    rw [h0, cut_zero, Nat.shiftLeft_eq]
  have hb : 0 < f.binade := Nat.two_pow_pos _
  have hmin : (lastPlace f mag place - f.leastPlace).toNat * f.binade + keptOf f mag place < f.infRung := by
    have hn := nearest_eq f false place hm
    rw [nearest_eq f neg place hm] at r2
    have h9 : min ((lastPlace f mag place - f.leastPlace).toNat * f.binade + keptOf f mag place) f.infRung = rung0 := by
      unfold Format.word at r2
      cases neg <;> simp at r2 <;> exact r2
    omega
  have hall : ∀ s, f.nearest s mag place = f.word s ((lastPlace f mag place - f.leastPlace).toNat * f.binade + keptOf f mag place) := fun s => by
    rw [nearest_eq f s place hm, Nat.min_eq_left (Nat.le_of_lt hmin)]
  refine ⟨?_, _, hmin, hall⟩
  rw [hall neg]
  obtain ⟨hk1, hk2⟩ := kept_bounds f place hm
  have hlast1 : f.leastPlace ≤ lastPlace f mag place := Int.le_max_right _ _
  have hlow : (lastPlace f mag place - f.leastPlace).toNat = 0 ∨ f.binade ≤ keptOf f mag place := by
    rcases hk2 with h2 | h2
    · left; rw [h2]; simp
    · exact .inr h2
  have hk3 : keptOf f mag place < 2 * f.binade := by
    rw [hkept]
    have hmag : mag < 2 ^ (mag.log2 + 1) := Nat.lt_log2_self
    have hl1 : place + (mag.log2 : Int) - f.fractionBits ≤ lastPlace f mag place := Int.le_max_left _ _
    have hb2 : 2 * f.binade = 2 ^ (f.fractionBits + 1) := by unfold Format.binade; rw [Nat.pow_succ]; omega
    rw [hb2]
    calc mag * 2 ^ (place - lastPlace f mag place).toNat < 2 ^ (mag.log2 + 1) * 2 ^ (place - lastPlace f mag place).toNat := Nat.mul_lt_mul_of_pos_right hmag (Nat.two_pow_pos _)
      _ = 2 ^ (mag.log2 + 1 + (place - lastPlace f mag place).toNat) := by rw [← Nat.pow_add]
      _ ≤ 2 ^ (f.fractionBits + 1) := Nat.pow_le_pow_right (by decide) (by omega)
  -- the reading, in full
  have hlt : (lastPlace f mag place - f.leastPlace).toNat * f.binade + keptOf f mag place < f.signWeight := Nat.lt_trans hmin f.infRung_lt
  have hneg : (f.word neg ((lastPlace f mag place - f.leastPlace).toNat * f.binade + keptOf f mag place) / f.signWeight % 2 == 1) = neg := by
    have hw : 0 < f.signWeight := Nat.two_pow_pos _
    unfold Format.word
    cases neg
    · simp [Nat.div_eq_of_lt hlt]
    · simp [Nat.add_div_left _ hw, Nat.div_eq_of_lt hlt]
  rw [← hkept]
  unfold Format.read
  simp only [read_word_rung f neg _ hlt, hneg]
  generalize hup : (lastPlace f mag place - f.leastPlace).toNat = up at *
  generalize keptOf f mag place = kept at *
  by_cases h1 : up * f.binade + kept < f.binade
  · rw [if_pos h1]
    have hup0 : up = 0 := by
      rcases hlow with h | h
      · exact h
      · omega
    subst hup0
    congr 1
    · omega
    · omega
  · rw [if_neg h1, if_pos hmin]
    have hge : f.binade ≤ kept := by
      rcases hlow with h | h
      · rw [h] at h1; omega
      · exact h
    have hq : (up * f.binade + kept) / f.binade = up + 1 := by
      rw [Nat.div_eq_iff hb]
      constructor
      · rw [Nat.add_mul]; omega
      · rw [Nat.add_mul]; omega
    have hr : (up * f.binade + kept) % f.binade = kept - f.binade := by
      have := Nat.div_add_mod (up * f.binade + kept) f.binade
      rw [hq, Nat.mul_comm, Nat.add_mul] at this
      omega
    rw [hq, hr]
    congr 1
    · omega
    · omega

end Go.Sx
