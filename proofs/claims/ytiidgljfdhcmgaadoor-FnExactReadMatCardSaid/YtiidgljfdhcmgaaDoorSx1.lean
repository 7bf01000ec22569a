/-
  What an operation on floats gives, with one name for all NaNs ('none'): addition to division, order, sign, change of width, square root, whole parts. Conditions: none.
-/
import Derived.Laws.FloatArith
import Derived.Deep.Draws
import Derived.Laws.Externs
namespace Go.Sx
open Ieee

/-- A float with one name for all NaNs. -/
abbrev CF := Option Nat

def canon (k : FloatKind) (b : Nat) : CF := if (k.format.read b).isNaN then none else some b

theorem canon_nan {k : FloatKind} {b : Nat} (h : (k.format.read b).isNaN = true) : canon k b = none := by simp [canon, h]
theorem canon_num {k : FloatKind} {b : Nat} (h : (k.format.read b).isNaN = false) : canon k b = some b := by simp [canon, h]
theorem canon_eq_some {k : FloatKind} {b c : Nat} (h : canon k b = some c) : c = b ∧ (k.format.read b).isNaN = false := by
  unfold canon at h
  split at h
  · cases h
  · rename_i hn; cases h; exact ⟨rfl, by simpa using hn⟩

theorem read_word_rung (f : Format) (neg : Bool) (rung : Nat) (h : rung < f.signWeight) : f.word neg rung % f.signWeight = rung := by
  unfold Format.word
  split
  · rw [Nat.add_mod_left]; exact Nat.mod_eq_of_lt h
  · exact Nat.mod_eq_of_lt h

theorem read_word_notNaN (f : Format) (neg : Bool) (rung : Nat) (h : rung ≤ f.infRung) : (f.read (f.word neg rung)).isNaN = false := by
  have hlt : rung < f.signWeight := Nat.lt_of_le_of_lt h f.infRung_lt
  unfold Format.read
  simp only [read_word_rung f neg rung hlt]
  split
  · rfl
  · split
    · rfl
    · split
      · rfl
      · rename_i h1 h2 h3; exact absurd (Nat.le_antisymm h (Nat.le_of_not_lt h2)) h3

theorem nearest_rung (f : Format) (neg : Bool) (mag : Nat) (place : Int) : ∃ rung, rung ≤ f.infRung ∧ f.nearest neg mag place = f.word neg rung := by
  unfold Format.nearest
  split
  · exact ⟨0, Nat.zero_le _, rfl⟩
  · exact ⟨_, Nat.min_le_right _ _, rfl⟩

theorem write_notNaN (f : Format) (d : Datum) (h : d.isNaN = false) : (f.read (f.write d)).isNaN = false := by
  cases d with
  | number neg mag place =>
    obtain ⟨rung, hr, e⟩ := nearest_rung f neg mag place
    show (f.read (f.nearest neg mag place)).isNaN = false
    rw [e]; exact read_word_notNaN f neg rung hr
  | infinity neg => exact read_word_notNaN f neg f.infRung (Nat.le_refl _)
  | nan neg fr => cases h

theorem sum_nan_left {d e : Datum} (h : d.isNaN = true) : d.sum e = none := by cases d <;> cases e <;> simp_all [Datum.isNaN, Datum.sum]
theorem sum_nan_right {d e : Datum} (h : e.isNaN = true) : d.sum e = none := by cases d <;> cases e <;> simp_all [Datum.isNaN, Datum.sum]
theorem product_nan_left {d e : Datum} (h : d.isNaN = true) : d.product e = none := by cases d <;> cases e <;> simp_all [Datum.isNaN, Datum.product]
theorem product_nan_right {d e : Datum} (h : e.isNaN = true) : d.product e = none := by cases d <;> cases e <;> simp_all [Datum.isNaN, Datum.product]
theorem quotient_nan_left {n : Nat} {d e : Datum} (h : d.isNaN = true) : d.quotient n e = none := by cases d <;> cases e <;> simp_all [Datum.isNaN, Datum.quotient]
theorem quotient_nan_right {n : Nat} {d e : Datum} (h : e.isNaN = true) : d.quotient n e = none := by cases d <;> cases e <;> simp_all [Datum.isNaN, Datum.quotient]
theorem order_nan_left {d e : Datum} (h : d.isNaN = true) : d.order e = none := by cases d <;> cases e <;> simp_all [Datum.isNaN, Datum.order]
theorem order_nan_right {d e : Datum} (h : e.isNaN = true) : d.order e = none := by cases d <;> cases e <;> simp_all [Datum.isNaN, Datum.order]
theorem opposite_isNaN (d : Datum) : d.opposite.isNaN = d.isNaN := by cases d <;> rfl

theorem sum_notNaN {d e r : Datum} (h : d.sum e = some r) : r.isNaN = false := by
  cases d <;> cases e <;> simp only [Datum.sum] at h
  all_goals first
    | (cases h; rfl)
    | (split at h <;> cases h; rfl)
    | cases h
theorem product_notNaN {d e r : Datum} (h : d.product e = some r) : r.isNaN = false := by
  cases d <;> cases e <;> simp only [Datum.product] at h
  all_goals first
    | (cases h; rfl)
    | (split at h <;> cases h; rfl)
    | cases h
theorem quotient_notNaN {n : Nat} {d e r : Datum} (h : d.quotient n e = some r) : r.isNaN = false := by
  cases d <;> cases e <;> simp only [Datum.quotient] at h
  all_goals first
    | (cases h; rfl)
    | (split at h
       · split at h <;> cases h; rfl
       · cases h; rfl)
    | cases h
theorem root_notNaN {n : Nat} {d r : Datum} (h : d.root n = some r) : r.isNaN = false := by
  cases d <;> simp only [Datum.root] at h
  · split at h
    · cases h; rfl
    · split at h <;> cases h; rfl
  · split at h <;> cases h; rfl
  · cases h

/-- The operation on floats with one name for all NaNs. -/
def cbin (op : BinOp) (k : FloatKind) : CF → CF → CF
  | some a, some b => floatBits op k a b
  | _, _ => none

theorem floatBits_nan {op : BinOp} {k : FloatKind} {x y : Nat} (h : (k.format.read x).isNaN = true ∨ (k.format.read y).isNaN = true) : floatBits op k x y = none := by
  unfold floatBits
  split
  · unfold Format.add; rcases h with h | h
    · rw [sum_nan_left h]; rfl
    · rw [sum_nan_right h]; rfl
  · unfold Format.sub; rcases h with h | h
    · rw [sum_nan_left h]; rfl
    · rw [sum_nan_right (by rw [opposite_isNaN]; exact h)]; rfl
  · unfold Format.mul; rcases h with h | h
    · rw [product_nan_left h]; rfl
    · rw [product_nan_right h]; rfl
  · unfold Format.div; rcases h with h | h
    · rw [quotient_nan_left h]; rfl
    · rw [quotient_nan_right h]; rfl
  · rfl

theorem map_write_notNaN {f : Format} {o : Option Datum} {r : Nat} (h : o.map f.write = some r) (hn : ∀ d, o = some d → d.isNaN = false) : (f.read r).isNaN = false := by
  cases o with
  | none => cases h
  | some d => cases h; exact write_notNaN f d (hn d rfl)

theorem floatBits_notNaN {op : BinOp} {k : FloatKind} {x y r : Nat} (h : floatBits op k x y = some r) : (k.format.read r).isNaN = false := by
  unfold floatBits at h
  split at h
  · exact map_write_notNaN h fun d hd => sum_notNaN hd
  · exact map_write_notNaN h fun d hd => sum_notNaN hd
  · exact map_write_notNaN h fun d hd => product_notNaN hd
  · exact map_write_notNaN h fun d hd => quotient_notNaN hd
  · cases h

theorem cbin_canon (op : BinOp) (k : FloatKind) (x y : Nat) : cbin op k (canon k x) (canon k y) = floatBits op k x y := by
  cases hx : (k.format.read x).isNaN
  · cases hy : (k.format.read y).isNaN
    · rw [canon_num hx, canon_num hy]; rfl
    · rw [canon_nan hy, floatBits_nan (.inr hy)]; cases canon k x <;> rfl
  · rw [canon_nan hx, floatBits_nan (.inl hx)]; rfl

theorem nan32 (t : Nat) : canon .f32 ((t % 2) * 2 ^ 31 + 0x7f800000 + 1 + (t / 2) % (2 ^ 23 - 1)) = none := by
  refine canon_nan ?_
  have h1 : (t % 2) < 2 := Nat.mod_lt _ (by decide)
  have h2 : (t / 2) % (2 ^ 23 - 1) < 2 ^ 23 - 1 := Nat.mod_lt _ (by decide)
  generalize t % 2 = a at *
  generalize (t / 2) % (2 ^ 23 - 1) = m at *
  have e : (a * 2 ^ 31 + 0x7f800000 + 1 + m) % 2147483648 = 0x7f800000 + 1 + m := by omega
  show (Format.read Ieee.single _).isNaN = true
  have s1 : Ieee.single.signWeight = 2147483648 := by decide
  have s2 : Ieee.single.binade = 8388608 := by decide
  have s3 : Ieee.single.infRung = 2139095040 := by decide
  unfold Format.read
  simp only [s1, s2, s3, e]
  rw [if_neg (by omega), if_neg (by omega), if_neg (by omega)]
  rfl

theorem nan64 (t : Nat) : canon .f64 ((t % 2) * 2 ^ 63 + 0x7ff0000000000000 + 1 + (t / 2) % (2 ^ 52 - 1)) = none := by
  refine canon_nan ?_
  have h1 : (t % 2) < 2 := Nat.mod_lt _ (by decide)
  have h2 : (t / 2) % (2 ^ 52 - 1) < 2 ^ 52 - 1 := Nat.mod_lt _ (by decide)
  generalize t % 2 = a at *
  generalize (t / 2) % (2 ^ 52 - 1) = m at *
  have e : (a * 2 ^ 63 + 0x7ff0000000000000 + 1 + m) % 9223372036854775808 = 0x7ff0000000000000 + 1 + m := by omega
  show (Format.read Ieee.double _).isNaN = true
  have s1 : Ieee.double.signWeight = 9223372036854775808 := by decide
  have s2 : Ieee.double.binade = 4503599627370496 := by decide
  have s3 : Ieee.double.infRung = 9218868437227405312 := by decide
  unfold Format.read
  simp only [s1, s2, s3, e]
  rw [if_neg (by omega), if_neg (by omega), if_neg (by omega)]
  rfl

theorem cut_nanBits (k : FloatKind) (x y t : Nat) : canon k ((Question.nanBits k x y).cut t) = none := by cases k <;> simp only [Question.cut, nan32, nan64]
theorem cut_nanConv (k : FloatKind) (x t : Nat) : canon k ((Question.nanConv k x).cut t) = none := by cases k <;> simp only [Question.cut, nan32, nan64]
theorem cut_nanMinMax (k : FloatKind) (b : Bool) (x y t : Nat) : canon k ((Question.nanMinMax k b x y).cut t) = none := by cases k <;> simp only [Question.cut, nan32, nan64]

section
variable {P : Program} (w : World)

/-- A float operation: the result is the one that the law names, or some NaN behind one draw. -/
theorem run_farith (op : BinOp) (t : TypeId) (k : FloatKind) (x y : Nat) (hop : op = .add ∨ op = .sub ∨ op = .mul ∨ op = .quo) :
    ∃ r n, (binOp op t (.float k x) (.float k y)).run P w = .ok (.float k r) (w.drewN n) ∧ canon k r = cbin op k (canon k x) (canon k y) := by
  rw [cbin_canon]
  cases h : floatBits op k x y with
  | some r => exact ⟨r, 0, run_float_arith w op t k x y r h, canon_num (floatBits_notNaN h)⟩
  | none =>
    refine ⟨(Question.nanBits k x y).cut (w.tape w.drawn (.nanBits k x y)), 1, ?_, cut_nanBits k x y _⟩
    unfold floatBits at h
    rcases hop with rfl | rfl | rfl | rfl <;> simp only at h <;> simp [binOp, Op.floatArith, h, choose, Sem.run, Question.forced, World.drewN]
end

/-- How two floats stand to each other. -/
def cord (k : FloatKind) : CF → CF → Option Ordering
  | some a, some b => k.format.order a b
  | _, _ => none

theorem cord_canon (k : FloatKind) (x y : Nat) : cord k (canon k x) (canon k y) = k.format.order x y := by
  unfold Format.order
  cases hx : (k.format.read x).isNaN
  · cases hy : (k.format.read y).isNaN
    · rw [canon_num hx, canon_num hy]; rfl
    · rw [canon_nan hy, order_nan_right hy]; cases canon k x <;> rfl
  · rw [canon_nan hx, order_nan_left hx]; rfl

def ccmp (op : BinOp) (k : FloatKind) (x y : CF) : Bool :=
  match op with
  | .eql => cord k x y == some .eq
  | .neq => cord k x y != some .eq
  | .lss => cord k x y == some .lt
  | .leq => cord k x y == some .lt || cord k x y == some .eq
  | .gtr => cord k x y == some .gt
  | .geq => cord k x y == some .gt || cord k x y == some .eq
  | _ => false

theorem run_fcmp {P : Program} (w : World) (op : BinOp) (t : TypeId) (k : FloatKind) (x y : Nat) (hop : op = .eql ∨ op = .neq ∨ op = .lss ∨ op = .leq ∨ op = .gtr ∨ op = .geq) :
    (binOp op t (.float k x) (.float k y)).run P w = .ok (.bool (ccmp op k (canon k x) (canon k y))) w := by
  unfold ccmp
  rw [cord_canon]
  rcases hop with rfl | rfl | rfl | rfl | rfl | rfl <;> simp [binOp, Op.floatCmp]

def cneg (k : FloatKind) (x : CF) : CF := x.map (Op.negFloat k)

theorem xor_pow_mod (b n : Nat) : (b ^^^ 2 ^ n) % 2 ^ n = b % 2 ^ n := by
  apply Nat.eq_of_testBit_eq
  intro i
  rw [Nat.testBit_mod_two_pow, Nat.testBit_mod_two_pow, Nat.testBit_xor, Nat.testBit_two_pow]
  by_cases h : i < n
  · have : (decide (n = i)) = false := by simp; omega
    simp [h, this]
  · simp [h]

/-- Without its sign. -/
def cabs (k : FloatKind) (x : CF) : CF := x.map (· % k.format.signWeight)

def csqrt (x : CF) : CF := x.bind fun b => FloatKind.f64.format.sqrt b

/-- Made whole. -/
def cint (way : Toward) (x : CF) : CF := x.map fun b => FloatKind.f64.encode ((FloatKind.f64.decode b).integral way)

/-- A narrowing that is not too great for the narrower kind. -/
def fitsC (x : CF) : Bool :=
  match x with
  | none => true
  | some b => match FloatKind.f64.decode b with
    | .number s m e => !(FloatKind.f32.decode (FloatKind.f32.encode (.number s m e))).isInfinity
    | _ => true

theorem isNaN_congr (f : Format) {a b : Nat} (h : a % f.signWeight = b % f.signWeight) : (f.read a).isNaN = (f.read b).isNaN := by
  unfold Format.read
  simp only [h]
  split
  · rfl
  · split
    · rfl
    · split <;> rfl

theorem canon_negFloat (k : FloatKind) (b : Nat) : canon k (Op.negFloat k b) = cneg k (canon k b) := by
  have h : (k.format.read (Op.negFloat k b)).isNaN = (k.format.read b).isNaN := isNaN_congr _ (xor_pow_mod b _)
  unfold cneg
  cases hb : (k.format.read b).isNaN
  · rw [canon_num hb, canon_num (h.trans hb)]; rfl
  · rw [canon_nan hb, canon_nan (h.trans hb)]; rfl

theorem canon_mod (k : FloatKind) (b : Nat) : canon k (b % k.format.signWeight) = cabs k (canon k b) := by
  have h : (k.format.read (b % k.format.signWeight)).isNaN = (k.format.read b).isNaN := isNaN_congr _ (Nat.mod_mod _ _)
  unfold cabs
  cases hb : (k.format.read b).isNaN
  · rw [canon_num hb, canon_num (h.trans hb)]; rfl
  · rw [canon_nan hb, canon_nan (h.trans hb)]; rfl

theorem order_self {d : Datum} (h : d.isNaN = false) : d.order d = some .eq := by
  cases d with
  | number s m i =>
    simp only [Datum.order, Option.some.injEq]
    simp [compare, compareOfLessAndEq]
  | infinity s =>
    simp only [Datum.order, Option.some.injEq]
    simp [compare, compareOfLessAndEq]
  | nan s t => cases h

theorem cord_self (k : FloatKind) (x : Nat) : (cord k (canon k x) (canon k x) == some .eq) = (canon k x).isSome := by
  cases hx : (k.format.read x).isNaN
  · rw [canon_num hx]
    have : cord k (some x) (some x) = some .eq := order_self hx
    rw [this]; rfl
  · rw [canon_nan hx]; rfl

/-- A number that lies well within the format is written as a number. -/
theorem nearest_fin (f : Format) (neg : Bool) (mag : Nat) (place : Int) (he : 3 ≤ f.exponentBits) (h : place + mag.log2 < 2 ^ (f.exponentBits - 1) - 1) :
    ∃ rung, rung < f.infRung ∧ f.nearest neg mag place = f.word neg rung := by
  have hE : ∃ E : Nat, (2 : Nat) ^ (f.exponentBits - 1) = E ∧ 4 ≤ E ∧ (2 : Nat) ^ f.exponentBits = 2 * E := by
    refine ⟨_, rfl, ?_, ?_⟩
    · have h2 : (2:Nat) ^ 2 ≤ 2 ^ (f.exponentBits - 1) := Nat.pow_le_pow_right (by decide) (by omega)
      exact h2
    · have : f.exponentBits = (f.exponentBits - 1) + 1 := by omega
      rw [this, Nat.pow_succ]; simp; omega
  obtain ⟨E, e1, e2, e3⟩ := hE
  have e1' : (2 : Int) ^ (f.exponentBits - 1) = (E : Int) := by rw [← e1]; simp
  rw [e1'] at h
  have hinf : f.infRung = (2 * E - 1) * f.binade := by unfold Format.infRung; rw [e3]
  have hbin : 0 < f.binade := Nat.two_pow_pos _
  have hlp : f.leastPlace = 2 - (E : Int) - f.fractionBits := by unfold Format.leastPlace; rw [e1']
  unfold Format.nearest
  split
  · exact ⟨0, by rw [hinf]; exact Nat.mul_pos (by omega) hbin, rfl⟩
  · rename_i hm
    refine ⟨_, ?_, rfl⟩
    refine Nat.lt_of_le_of_lt (Nat.min_le_left _ _) ?_
    generalize hlast : max (place + (mag.log2 : Int) - f.fractionBits) f.leastPlace = last
    have hl1 : place + (mag.log2 : Int) - f.fractionBits ≤ last := by rw [← hlast]; exact Int.le_max_left _ _
    have hl2 : (last - f.leastPlace).toNat + 4 ≤ 2 * E := by rw [← hlast, hlp]; omega
    have hcut : ∀ n d : Nat, Toward.even.cut neg n d ≤ n / 2 ^ (min d (n.log2 + 2)) + 1 := by
      intro n d
      unfold Toward.cut
      dsimp only
      rw [Nat.one_shiftLeft]
      refine Nat.add_le_add_left ?_ _
      generalize (_ || _ : Bool) = t
      cases t <;> decide
    have hmag : mag < 2 ^ (mag.log2 + 1) := Nat.lt_log2_self
    have hk : Toward.even.cut neg (mag <<< (place - last).toNat) (last - place).toNat ≤ 2 * f.binade := by
      refine Nat.le_trans (hcut _ _) ?_
      have hb2 : 2 * f.binade = 2 ^ (f.fractionBits + 1) := by unfold Format.binade; rw [Nat.pow_succ]; omega
      rw [hb2]
      by_cases hneg : last ≤ place
      · have h0 : (last - place).toNat = 0 := by omega
        rw [h0, Nat.zero_min, Nat.pow_zero, Nat.div_one, Nat.shiftLeft_eq]
        have : mag * 2 ^ (place - last).toNat < 2 ^ (f.fractionBits + 1) := by
          calc mag * 2 ^ (place - last).toNat < 2 ^ (mag.log2 + 1) * 2 ^ (place - last).toNat := Nat.mul_lt_mul_of_pos_right hmag (Nat.two_pow_pos _)
            _ = 2 ^ (mag.log2 + 1 + (place - last).toNat) := by rw [← Nat.pow_add]
            _ ≤ 2 ^ (f.fractionBits + 1) := Nat.pow_le_pow_right (by decide) (by omega)
        omega
      · have h0 : (place - last).toNat = 0 := by omega
        rw [h0, Nat.shiftLeft_zero]
        have hd : mag / 2 ^ (min (last - place).toNat (mag.log2 + 2)) < 2 ^ (f.fractionBits + 1) := by
          rw [Nat.div_lt_iff_lt_mul (Nat.two_pow_pos _), ← Nat.pow_add]
          refine Nat.lt_of_lt_of_le hmag (Nat.pow_le_pow_right (by decide) ?_)
          omega
        omega
    calc (last - f.leastPlace).toNat * f.binade + Toward.even.cut neg (mag <<< (place - last).toNat) (last - place).toNat
        ≤ (2 * E - 4) * f.binade + 2 * f.binade := Nat.add_le_add (Nat.mul_le_mul_right _ (by omega)) hk
      _ = (2 * E - 2) * f.binade := by rw [← Nat.add_mul]; congr 1; omega
      _ < f.infRung := by rw [hinf]; exact Nat.mul_lt_mul_of_pos_right (by omega) hbin

end Go.Sx
