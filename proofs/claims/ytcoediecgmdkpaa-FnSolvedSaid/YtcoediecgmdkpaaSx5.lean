/-
  The symbolic executor, texts 1 to 5. Conditions: none.
-/
import Derived.Laws.FloatArith
import Derived.Deep.Draws
import Derived.Laws.Externs
import Derived.WalkKit
import Derived.Orders
import Derived.RowKit3
import Derived.Laws.CopyRow
import Derived.Laws.Rows
import Derived.Below
/-   What an operation on floats gives, with one name for all NaNs ('none'): addition to division, order, sign, change of width, square root, whole parts. Conditions: none. -/
namespace Go.Sx
open Ieee

/-- A float with one name for all NaNs. -/
abbrev CF := Option Nat

def canon (k : FloatKind) (b : Nat) : CF := if (k.format.read b).isNaN then none else some b

theorem canon_nan {k : FloatKind} {b : Nat} (h : (k.format.read b).isNaN = true) : canon k b = none := by simp [canon, h]
theorem canon_num {k : FloatKind} {b : Nat} (h : (k.format.read b).isNaN = false) : canon k b = some b := by simp [canon, h]
theorem canon_eq_some {k : FloatKind} {b c : Nat} (h : canon k b = some c) : c = b ∧ (k.format.read b).isNaN = false := by
  unfold canon at h
  split at h
  · cases h
  · rename_i hn; cases h; exact ⟨rfl, by simpa using hn⟩

theorem read_word_rung (f : Format) (neg : Bool) (rung : Nat) (h : rung < f.signWeight) : f.word neg rung % f.signWeight = rung := by
  unfold Format.word
  split
  · rw [Nat.add_mod_left]; exact Nat.mod_eq_of_lt h
  · exact Nat.mod_eq_of_lt h

theorem read_word_notNaN (f : Format) (neg : Bool) (rung : Nat) (h : rung ≤ f.infRung) : (f.read (f.word neg rung)).isNaN = false := by
  have hlt : rung < f.signWeight := Nat.lt_of_le_of_lt h f.infRung_lt
  unfold Format.read
  simp only [read_word_rung f neg rung hlt]
  split
  · rfl
  · split
    · rfl
    · split
      · rfl
      · rename_i h1 h2 h3; exact absurd (Nat.le_antisymm h (Nat.le_of_not_lt h2)) h3

theorem nearest_rung (f : Format) (neg : Bool) (mag : Nat) (place : Int) : ∃ rung, rung ≤ f.infRung ∧ f.nearest neg mag place = f.word neg rung := by
  unfold Format.nearest
  split
  · exact ⟨0, Nat.zero_le _, rfl⟩
  · exact ⟨_, Nat.min_le_right _ _, rfl⟩

theorem write_notNaN (f : Format) (d : Datum) (h : d.isNaN = false) : (f.read (f.write d)).isNaN = false := by
  cases d with
  | number neg mag place =>
    obtain ⟨rung, hr, e⟩ := nearest_rung f neg mag place
    show (f.read (f.nearest neg mag place)).isNaN = false
    rw [e]; exact read_word_notNaN f neg rung hr
  | infinity neg => exact read_word_notNaN f neg f.infRung (Nat.le_refl _)
  | nan neg fr => cases h

theorem sum_nan_left {d e : Datum} (h : d.isNaN = true) : d.sum e = none := by cases d <;> cases e <;> simp_all [Datum.isNaN, Datum.sum]
theorem sum_nan_right {d e : Datum} (h : e.isNaN = true) : d.sum e = none := by cases d <;> cases e <;> simp_all [Datum.isNaN, Datum.sum]
theorem product_nan_left {d e : Datum} (h : d.isNaN = true) : d.product e = none := by cases d <;> cases e <;> simp_all [Datum.isNaN, Datum.product]
theorem product_nan_right {d e : Datum} (h : e.isNaN = true) : d.product e = none := by cases d <;> cases e <;> simp_all [Datum.isNaN, Datum.product]
theorem quotient_nan_left {n : Nat} {d e : Datum} (h : d.isNaN = true) : d.quotient n e = none := by cases d <;> cases e <;> simp_all [Datum.isNaN, Datum.quotient]
theorem quotient_nan_right {n : Nat} {d e : Datum} (h : e.isNaN = true) : d.quotient n e = none := by cases d <;> cases e <;> simp_all [Datum.isNaN, Datum.quotient]
theorem order_nan_left {d e : Datum} (h : d.isNaN = true) : d.order e = none := by cases d <;> cases e <;> simp_all [Datum.isNaN, Datum.order]
theorem order_nan_right {d e : Datum} (h : e.isNaN = true) : d.order e = none := by cases d <;> cases e <;> simp_all [Datum.isNaN, Datum.order]
theorem opposite_isNaN (d : Datum) : d.opposite.isNaN = d.isNaN := by cases d <;> rfl

theorem sum_notNaN {d e r : Datum} (h : d.sum e = some r) : r.isNaN = false := by
  cases d <;> cases e <;> simp only [Datum.sum] at h
  all_goals first
    | (cases h; rfl)
    | (split at h <;> cases h; rfl)
    | cases h
theorem product_notNaN {d e r : Datum} (h : d.product e = some r) : r.isNaN = false := by
  cases d <;> cases e <;> simp only [Datum.product] at h
  all_goals first
    | (cases h; rfl)
    | (split at h <;> cases h; rfl)
    | cases h
theorem quotient_notNaN {n : Nat} {d e r : Datum} (h : d.quotient n e = some r) : r.isNaN = false := by
  cases d <;> cases e <;> simp only [Datum.quotient] at h
  all_goals first
    | (cases h; rfl)
    | (split at h
       · split at h <;> cases h; rfl
       · cases h; rfl)
    | cases h
theorem root_notNaN {n : Nat} {d r : Datum} (h : d.root n = some r) : r.isNaN = false := by
  cases d <;> simp only [Datum.root] at h
  · split at h
    · cases h; rfl
    · split at h <;> cases h; rfl
  · split at h <;> cases h; rfl
  · cases h

/-- The operation on floats with one name for all NaNs. -/
def cbin (op : BinOp) (k : FloatKind) : CF → CF → CF
  | some a, some b => floatBits op k a b
  | _, _ => none

theorem floatBits_nan {op : BinOp} {k : FloatKind} {x y : Nat} (h : (k.format.read x).isNaN = true ∨ (k.format.read y).isNaN = true) : floatBits op k x y = none := by
  unfold floatBits
  split
  · unfold Format.add; rcases h with h | h
    · rw [sum_nan_left h]; rfl
    · rw [sum_nan_right h]; rfl
  · unfold Format.sub; rcases h with h | h
    · rw [sum_nan_left h]; rfl
    · rw [sum_nan_right (by rw [opposite_isNaN]; exact h)]; rfl
  · unfold Format.mul; rcases h with h | h
    · rw [product_nan_left h]; rfl
    · rw [product_nan_right h]; rfl
  · unfold Format.div; rcases h with h | h
    · rw [quotient_nan_left h]; rfl
    · rw [quotient_nan_right h]; rfl
  · rfl

theorem map_write_notNaN {f : Format} {o : Option Datum} {r : Nat} (h : o.map f.write = some r) (hn : ∀ d, o = some d → d.isNaN = false) : (f.read r).isNaN = false := by
  cases o with
  | none => cases h
  | some d => cases h; exact write_notNaN f d (hn d rfl)

theorem floatBits_notNaN {op : BinOp} {k : FloatKind} {x y r : Nat} (h : floatBits op k x y = some r) : (k.format.read r).isNaN = false := by
  unfold floatBits at h
  split at h
  · exact map_write_notNaN h fun d hd => sum_notNaN hd
  · exact map_write_notNaN h fun d hd => sum_notNaN hd
  · exact map_write_notNaN h fun d hd => product_notNaN hd
  · exact map_write_notNaN h fun d hd => quotient_notNaN hd
  · cases h

theorem cbin_canon (op : BinOp) (k : FloatKind) (x y : Nat) : cbin op k (canon k x) (canon k y) = floatBits op k x y := by
  cases hx : (k.format.read x).isNaN
  · cases hy : (k.format.read y).isNaN
    · rw [canon_num hx, canon_num hy]; rfl
    · rw [canon_nan hy, floatBits_nan (.inr hy)]; cases canon k x <;> rfl
  · rw [canon_nan hx, floatBits_nan (.inl hx)]; rfl

theorem nan32 (t : Nat) : canon .f32 ((t % 2) * 2 ^ 31 + 0x7f800000 + 1 + (t / 2) % (2 ^ 23 - 1)) = none := by
  refine canon_nan ?_
  have h1 : (t % 2) < 2 := Nat.mod_lt _ (by decide)
  have h2 : (t / 2) % (2 ^ 23 - 1) < 2 ^ 23 - 1 := Nat.mod_lt _ (by decide)
  generalize t % 2 = a at *
  generalize (t / 2) % (2 ^ 23 - 1) = m at *
  have e : (a * 2 ^ 31 + 0x7f800000 + 1 + m) % 2147483648 = 0x7f800000 + 1 + m := by omega
  show (Format.read Ieee.single _).isNaN = true
  have s1 : Ieee.single.signWeight = 2147483648 := by decide
  have s2 : Ieee.single.binade = 8388608 := by decide
  have s3 : Ieee.single.infRung = 2139095040 := by decide
  unfold Format.read
  simp only [s1, s2, s3, e]
  rw [if_neg (by omega), if_neg (by omega), if_neg (by omega)]
  rfl

theorem nan64 (t : Nat) : canon .f64 ((t % 2) * 2 ^ 63 + 0x7ff0000000000000 + 1 + (t / 2) % (2 ^ 52 - 1)) = none := by
  refine canon_nan ?_
  have h1 : (t % 2) < 2 := Nat.mod_lt _ (by decide)
  have h2 : (t / 2) % (2 ^ 52 - 1) < 2 ^ 52 - 1 := Nat.mod_lt _ (by decide)
  generalize t % 2 = a at *
  generalize (t / 2) % (2 ^ 52 - 1) = m at *
  have e : (a * 2 ^ 63 + 0x7ff0000000000000 + 1 + m) % 9223372036854775808 = 0x7ff0000000000000 + 1 + m := by omega
  show (Format.read Ieee.double _).isNaN = true
  have s1 : Ieee.double.signWeight = 9223372036854775808 := by decide
  have s2 : Ieee.double.binade = 4503599627370496 := by decide
  have s3 : Ieee.double.infRung = 9218868437227405312 := by decide
  unfold Format.read
  simp only [s1, s2, s3, e]
  rw [if_neg (by omega), if_neg (by omega), if_neg (by omega)]
  rfl

theorem cut_nanBits (k : FloatKind) (x y t : Nat) : canon k ((Question.nanBits k x y).cut t) = none := by cases k <;> simp only [Question.cut, nan32, nan64]
theorem cut_nanConv (k : FloatKind) (x t : Nat) : canon k ((Question.nanConv k x).cut t) = none := by cases k <;> simp only [Question.cut, nan32, nan64]
theorem cut_nanMinMax (k : FloatKind) (b : Bool) (x y t : Nat) : canon k ((Question.nanMinMax k b x y).cut t) = none := by cases k <;> simp only [Question.cut, nan32, nan64]

section
variable {P : Program} (w : World)

/-- A float operation: the result is the one that the law names, or some NaN behind one draw. -/
theorem run_farith (op : BinOp) (t : TypeId) (k : FloatKind) (x y : Nat) (hop : op = .add ∨ op = .sub ∨ op = .mul ∨ op = .quo) :
    ∃ r n, (binOp op t (.float k x) (.float k y)).run P w = .ok (.float k r) (w.drewN n) ∧ canon k r = cbin op k (canon k x) (canon k y) := by
  rw [cbin_canon]
  cases h : floatBits op k x y with
  | some r => exact ⟨r, 0, run_float_arith w op t k x y r h, canon_num (floatBits_notNaN h)⟩
  | none =>
    refine ⟨(Question.nanBits k x y).cut (w.tape w.drawn (.nanBits k x y)), 1, ?_, cut_nanBits k x y _⟩
    unfold floatBits at h
    rcases hop with rfl | rfl | rfl | rfl <;> simp only at h <;> simp [binOp, Op.floatArith, h, choose, Sem.run, Question.forced, World.drewN]
end

/-- How two floats stand to each other. -/
def cord (k : FloatKind) : CF → CF → Option Ordering
  | some a, some b => k.format.order a b
  | _, _ => none

theorem cord_canon (k : FloatKind) (x y : Nat) : cord k (canon k x) (canon k y) = k.format.order x y := by
  unfold Format.order
  cases hx : (k.format.read x).isNaN
  · cases hy : (k.format.read y).isNaN
    · rw [canon_num hx, canon_num hy]; rfl
    · rw [canon_nan hy, order_nan_right hy]; cases canon k x <;> rfl
  · rw [canon_nan hx, order_nan_left hx]; rfl

def ccmp (op : BinOp) (k : FloatKind) (x y : CF) : Bool :=
  match op with
  | .eql => cord k x y == some .eq
  | .neq => cord k x y != some .eq
  | .lss => cord k x y == some .lt
  | .leq => cord k x y == some .lt || cord k x y == some .eq
  | .gtr => cord k x y == some .gt
  | .geq => cord k x y == some .gt || cord k x y == some .eq
  | _ => false

theorem run_fcmp {P : Program} (w : World) (op : BinOp) (t : TypeId) (k : FloatKind) (x y : Nat) (hop : op = .eql ∨ op = .neq ∨ op = .lss ∨ op = .leq ∨ op = .gtr ∨ op = .geq) :
    (binOp op t (.float k x) (.float k y)).run P w = .ok (.bool (ccmp op k (canon k x) (canon k y))) w := by
  unfold ccmp
  rw [cord_canon]
  rcases hop with rfl | rfl | rfl | rfl | rfl | rfl <;> simp [binOp, Op.floatCmp]

def cneg (k : FloatKind) (x : CF) : CF := x.map (Op.negFloat k)

theorem xor_pow_mod (b n : Nat) : (b ^^^ 2 ^ n) % 2 ^ n = b % 2 ^ n := by
  apply Nat.eq_of_testBit_eq
  intro i
  rw [Nat.testBit_mod_two_pow, Nat.testBit_mod_two_pow, Nat.testBit_xor, Nat.testBit_two_pow]
  by_cases h : i < n
  · have : (decide (n = i)) = false := by simp; omega
    simp [h, this]
  · simp [h]

/-- Without its sign. -/
def cabs (k : FloatKind) (x : CF) : CF := x.map (· % k.format.signWeight)

def csqrt (x : CF) : CF := x.bind fun b => FloatKind.f64.format.sqrt b

/-- Made whole. -/
def cint (way : Toward) (x : CF) : CF := x.map fun b => FloatKind.f64.encode ((FloatKind.f64.decode b).integral way)

/-- A narrowing that is not too great for the narrower kind. -/
def fitsC (x : CF) : Bool :=
  match x with
  | none => true
  | some b => match FloatKind.f64.decode b with
    | .number s m e => !(FloatKind.f32.decode (FloatKind.f32.encode (.number s m e))).isInfinity
    | _ => true

theorem isNaN_congr (f : Format) {a b : Nat} (h : a % f.signWeight = b % f.signWeight) : (f.read a).isNaN = (f.read b).isNaN := by
  unfold Format.read
  simp only [h]
  split
  · rfl
  · split
    · rfl
    · split <;> rfl

theorem canon_negFloat (k : FloatKind) (b : Nat) : canon k (Op.negFloat k b) = cneg k (canon k b) := by
  have h : (k.format.read (Op.negFloat k b)).isNaN = (k.format.read b).isNaN := isNaN_congr _ (xor_pow_mod b _)
  unfold cneg
  cases hb : (k.format.read b).isNaN
  · rw [canon_num hb, canon_num (h.trans hb)]; rfl
  · rw [canon_nan hb, canon_nan (h.trans hb)]; rfl

theorem canon_mod (k : FloatKind) (b : Nat) : canon k (b % k.format.signWeight) = cabs k (canon k b) := by
  have h : (k.format.read (b % k.format.signWeight)).isNaN = (k.format.read b).isNaN := isNaN_congr _ (Nat.mod_mod _ _)
  unfold cabs
  cases hb : (k.format.read b).isNaN
  · rw [canon_num hb, canon_num (h.trans hb)]; rfl
  · rw [canon_nan hb, canon_nan (h.trans hb)]; rfl

theorem order_self {d : Datum} (h : d.isNaN = false) : d.order d = some .eq := by
  cases d with
  | number s m i =>
    simp only [Datum.order, Option.some.injEq]
    simp [compare, compareOfLessAndEq]
  | infinity s =>
    simp only [Datum.order, Option.some.injEq]
    simp [compare, compareOfLessAndEq]
  | nan s t => cases h

theorem cord_self (k : FloatKind) (x : Nat) : (cord k (canon k x) (canon k x) == some .eq) = (canon k x).isSome := by
  cases hx : (k.format.read x).isNaN
  · rw [canon_num hx]
    have : cord k (some x) (some x) = some .eq := order_self hx
    rw [this]; rfl
  · rw [canon_nan hx]; rfl

/-- A number that lies well within the format is written as a number. -/
theorem nearest_fin (f : Format) (neg : Bool) (mag : Nat) (place : Int) (he : 3 ≤ f.exponentBits) (h : place + mag.log2 < 2 ^ (f.exponentBits - 1) - 1) :
    ∃ rung, rung < f.infRung ∧ f.nearest neg mag place = f.word neg rung := by
  have hE : ∃ E : Nat, (2 : Nat) ^ (f.exponentBits - 1) = E ∧ 4 ≤ E ∧ (2 : Nat) ^ f.exponentBits = 2 * E := by
    refine ⟨_, rfl, ?_, ?_⟩
    · have h2 : (2:Nat) ^ 2 ≤ 2 ^ (f.exponentBits - 1) := Nat.pow_le_pow_right (by decide) (by omega)
      exact h2
    · have : f.exponentBits = (f.exponentBits - 1) + 1 := by omega
      rw [this, Nat.pow_succ]; simp; omega
  obtain ⟨E, e1, e2, e3⟩ := hE
  have e1' : (2 : Int) ^ (f.exponentBits - 1) = (E : Int) := by rw [← e1]; simp
  rw [e1'] at h
  have hinf : f.infRung = (2 * E - 1) * f.binade := by unfold Format.infRung; rw [e3]
  have hbin : 0 < f.binade := Nat.two_pow_pos _
  have hlp : f.leastPlace = 2 - (E : Int) - f.fractionBits := by unfold Format.leastPlace; rw [e1']
  unfold Format.nearest
  split
  · exact ⟨0, by rw [hinf]; exact Nat.mul_pos (by omega) hbin, rfl⟩
  · rename_i hm
    refine ⟨_, ?_, rfl⟩
    refine Nat.lt_of_le_of_lt (Nat.min_le_left _ _) ?_
    generalize hlast : max (place + (mag.log2 : Int) - f.fractionBits) f.leastPlace = last
    have hl1 : place + (mag.log2 : Int) - f.fractionBits ≤ last := by rw [← hlast]; exact Int.le_max_left _ _
    have hl2 : (last - f.leastPlace).toNat + 4 ≤ 2 * E := by rw [← hlast, hlp]; omega
    have hcut : ∀ n d : Nat, Toward.even.cut neg n d ≤ n / 2 ^ (min d (n.log2 + 2)) + 1 := by
      intro n d
      unfold Toward.cut
      dsimp only
      rw [Nat.one_shiftLeft]
      refine Nat.add_le_add_left ?_ _
      generalize (_ || _ : Bool) = t
      cases t <;> decide
    have hmag : mag < 2 ^ (mag.log2 + 1) := Nat.lt_log2_self
    have hk : Toward.even.cut neg (mag <<< (place - last).toNat) (last - place).toNat ≤ 2 * f.binade := by
      refine Nat.le_trans (hcut _ _) ?_
      have hb2 : 2 * f.binade = 2 ^ (f.fractionBits + 1) := by unfold Format.binade; rw [Nat.pow_succ]; omega
      rw [hb2]
      by_cases hneg : last ≤ place
      · have h0 : (last - place).toNat = 0 := by omega
        rw [h0, Nat.zero_min, Nat.pow_zero, Nat.div_one, Nat.shiftLeft_eq]
        have : mag * 2 ^ (place - last).toNat < 2 ^ (f.fractionBits + 1) := by
          calc mag * 2 ^ (place - last).toNat < 2 ^ (mag.log2 + 1) * 2 ^ (place - last).toNat := Nat.mul_lt_mul_of_pos_right hmag (Nat.two_pow_pos _)
            _ = 2 ^ (mag.log2 + 1 + (place - last).toNat) := by rw [← Nat.pow_add]
            _ ≤ 2 ^ (f.fractionBits + 1) := Nat.pow_le_pow_right (by decide) (by omega)
        omega
      · have h0 : (place - last).toNat = 0 := by omega
        rw [h0, Nat.shiftLeft_zero]
        have hd : mag / 2 ^ (min (last - place).toNat (mag.log2 + 2)) < 2 ^ (f.fractionBits + 1) := by
          rw [Nat.div_lt_iff_lt_mul (Nat.two_pow_pos _), ← Nat.pow_add]
          refine Nat.lt_of_lt_of_le hmag (Nat.pow_le_pow_right (by decide) ?_)
          omega
        omega
    calc (last - f.leastPlace).toNat * f.binade + Toward.even.cut neg (mag <<< (place - last).toNat) (last - place).toNat
        ≤ (2 * E - 4) * f.binade + 2 * f.binade := Nat.add_le_add (Nat.mul_le_mul_right _ (by omega)) hk
      _ = (2 * E - 2) * f.binade := by rw [← Nat.add_mul]; congr 1; omega
      _ < f.infRung := by rw [hinf]; exact Nat.mul_lt_mul_of_pos_right (by omega) hbin

end Go.Sx

/-   A run of a function's code on symbols: floats are terms over the arguments, integers and memory of the call's own are plain. Definitions alone; conditions: none. -/
namespace Go.Sx

/-- A term for a float. 'bin c': c % 4 tells the operation, c / 4 the width. -/
inductive T where
  | arg (i : Nat)
  | lit (k : FloatKind) (b : Nat)
  | bin (c : Nat) (x y : T)
  | neg (k : FloatKind) (x : T)
  | wide (x : T)
  | narrow (x : T)
  | f1 (g : Nat) (x : T)
  | f2 (g : Nat) (x y : T)
  | mm (c : Nat) (x y : T)
  | abs (k : FloatKind) (x : T)

def fk : FloatKind → Nat
  | .f32 => 0
  | .f64 => 1

def T.beq : T → T → Bool
  | .arg i, .arg j => Nat.beq i j
  | .lit k b, .lit k' b' => Nat.beq (fk k) (fk k') && Nat.beq b b'
  | .bin c x y, .bin c' x' y' => Nat.beq c c' && T.beq x x' && T.beq y y'
  | .neg k x, .neg k' x' => Nat.beq (fk k) (fk k') && T.beq x x'
  | .wide x, .wide x' => T.beq x x'
  | .narrow x, .narrow x' => T.beq x x'
  | .f1 g x, .f1 g' x' => Nat.beq g g' && T.beq x x'
  | .f2 g x y, .f2 g' x' y' => Nat.beq g g' && T.beq x x' && T.beq y y'
  | .mm c x y, .mm c' x' y' => Nat.beq c c' && T.beq x x' && T.beq y y'
  | .abs k x, .abs k' x' => Nat.beq (fk k) (fk k') && T.beq x x'
  | _, _ => false

/-- What is asked of floats: a comparison ('c': which), that a narrowing fits, that two floats are the same, all NaNs taken as one. -/
inductive Atom where
  | cmp (c : Nat) (k : FloatKind) (x y : T)
  | fits (x : T)
  | same (x y : T)

def Atom.beq : Atom → Atom → Bool
  | .cmp c k x y, .cmp c' k' x' y' => Nat.beq c c' && Nat.beq (fk k) (fk k') && T.beq x x' && T.beq y y'
  | .fits x, .fits x' => T.beq x x'
  | .same x y, .same x' y' => T.beq x x' && T.beq y y'
  | _, _ => false

abbrev Facts := List (Atom × Bool)

def look (a : Atom) : Facts → Option Bool
  | [] => none
  | (b, t) :: r => if Atom.beq a b then some t else look a r

/-- Decide an atom: by what is known, or both ways. -/
def ask (a : Atom) (fs : Facts) (K : Bool → Facts → Bool) : Bool :=
  match look a fs with
  | some t => K t fs
  | none => K true ((a, true) :: fs) && K false ((a, false) :: fs)

/-- One cell. -/
inductive SV where
  | int (k : IntKind) (n : Int)
  | bool (b : Bool)
  | flt (k : FloatKind) (t : T)
  | ptr (id off : Nat)
  | slc (id off len cap : Nat)
  | bits (k : FloatKind) (t : T)

inductive V where
  | sc (s : SV)
  | agg (l : List SV)
  | tup (a b : V)
  | other (v : Value)
  | opq (i : Nat)
  | txt (k : Nat) (l : List T)

structure St where
  facts : Facts
  heap : List (List SV)
  old : Nat

def absS : Value → Option SV
  | .int k n => some (.int k n)
  | .bool b => some (.bool b)
  | .float k b => some (.flt k (.lit k b))
  | _ => none

def absL : List Value → Option (List SV)
  | [] => some []
  | v :: r => match absS v, absL r with
    | some s, some l => some (s :: l)
    | _, _ => none

def absV (v : Value) : V :=
  match v with
  | .agg cs => match absL cs.toList with
    | some l => .agg l
    | none => .other v
  | v => match absS v with
    | some s => .sc s
    | none => .other v

def undefV : V := .other undef

def evA (tmps : List V) : Operand → V
  | .tmp t => tmps.getD t undefV
  | .const v => absV v
  | .global g => .other (.pointer (some ⟨g, 0, none⟩))
  | .func f => .other (.func (.func f) #[] #[])

/-! ### Values made plain before they are handed on -/
def forceNat (n : Nat) (K : Nat → Bool) : Bool :=
  match n with
  | 0 => K 0
  | m + 1 => K (m + 1)
def forceInt (n : Int) (K : Int → Bool) : Bool :=
  match n with
  | .ofNat m => forceNat m fun m => K (.ofNat m)
  | .negSucc m => forceNat m fun m => K (.negSucc m)
def forceSV (s : SV) (K : SV → Bool) : Bool :=
  match s with
  | .int k n => forceInt n fun n => K (.int k n)
  | .bool b => match b with
    | true => K (.bool true)
    | false => K (.bool false)
  | .flt k t => K (.flt k t)
  | .bits k t => K (.bits k t)
  | .ptr id off => forceNat id fun id => forceNat off fun off => K (.ptr id off)
  | .slc id off len cap => forceNat id fun id => forceNat off fun off => forceNat len fun len => forceNat cap fun cap => K (.slc id off len cap)
def forceL {α : Type} (l : List α) (K : List α → Bool) : Bool :=
  match l with
  | [] => K []
  | x :: r => forceL r fun r => K (x :: r)
def forceSL (l : List SV) (K : List SV → Bool) : Bool :=
  match l with
  | [] => K []
  | x :: r => forceSV x fun x => forceSL r fun r => K (x :: r)
def forceV (v : V) (K : V → Bool) : Bool :=
  match v with
  | .sc s => forceSV s fun s => K (.sc s)
  | .agg l => forceSL l fun l => K (.agg l)
  | .tup a b => forceV a fun a => forceV b fun b => K (.tup a b)
  | .other v => K (.other v)
  | .opq i => K (.opq i)
  | .txt k l => K (.txt k l)

def put (tmps : List V) (d : Option Tmp) (v : V) : List V :=
  match d with
  | some d => tmps.set d v
  | none => tmps

/-! ### Operations -/
section
variable (P : Program)

def isAggT (t : TypeId) : Bool :=
  match P.underlying t with
  | some (.struct _) | some (.array _ _) => true
  | some _ => false
  | none => false

def cellsV : V → Option (List SV)
  | .sc s => some [s]
  | .agg l => some l
  | _ => none

def loadA (heap : List (List SV)) (t : TypeId) : V → Option V
  | .sc (.ptr id off) => match P.underlying t, P.info? t, heap[id]? with
    | some _, some i, some cells =>
      if isAggT P t then (if off + i.size ≤ cells.length then some (.agg ((cells.drop off).take i.size)) else none)
      else (cells[off]?).map .sc
    | _, _, _ => none
  | _ => none

def storeA (heap : List (List SV)) (old : Nat) (t : TypeId) : V → V → Option (List (List SV))
  | .sc (.ptr id off), v => match P.info? t, heap[id]?, cellsV v with
    | some i, some cells, some l =>
      if Nat.ble old id && Nat.beq l.length i.size && Nat.ble (off + l.length) cells.length then
        some (heap.set id (cells.take off ++ l ++ cells.drop (off + l.length)))
      else none
    | _, _, _ => none
  | _, _ => none

def zeroA (t : TypeId) : Option (List SV) :=
  match P.info? t with
  | some i => match i.zero with
    | some v => cellsV (absV v)
    | none => none
  | none => none

/-- The parts of an array laid into its cells. -/
def fillA (size : Nat) (cells : List SV) : List (Nat × V) → Option (List SV)
  | [] => some cells
  | (i, v) :: r => match cellsV v with
    | some l => if Nat.beq l.length size && Nat.ble (i * size + l.length) cells.length then
        fillA size (cells.take (i * size) ++ l ++ cells.drop (i * size + l.length)) r else none
    | none => none

def buildA (t : TypeId) (parts : List (Nat × V)) : Option V :=
  match P.underlying t, zeroA P t with
  | some (.array _ elem), some z => match P.info? elem with
    | some i => (fillA i.size z parts).map .agg
    | none => none
  | _, _ => none

/-- A slice's literal whose elements are of one cell: the cells of its array. -/
def buildSliceA (t : TypeId) (n : Nat) (parts : List (Nat × V)) : Option (List SV) :=
  match P.underlying t with
  | some (.slice elem) => match P.info? elem, zeroA P elem with
    | some i, some [z] => if Nat.beq i.size 1 && Nat.ble 1 n && Nat.ble n 100 then fillA 1 (List.replicate n z) parts else none
    | _, _ => none
  | _ => none

def indexAddrA (t : TypeId) : V → V → Option V
  | .sc (.ptr id off), .sc (.int _ i) => match P.underlying t with
    | some (.array len elem) => match P.info? elem with
      | some e => if decide (0 ≤ i ∧ i < (len : Int)) then some (.sc (.ptr id (off + i.toNat * e.size))) else none
      | none => none
    | _ => none
  | .sc (.slc id off len _), .sc (.int _ i) => match P.underlying t with
    | some (.slice elem) => match P.info? elem with
      | some e => if decide (0 ≤ i ∧ i < (len : Int)) then some (.sc (.ptr id (off + i.toNat * e.size))) else none
      | none => none
    | _ => none
  | _, _ => none

/-- 'x[i]' of an array that is a value. -/
def indexA (t : TypeId) : V → V → Option V
  | .agg cells, .sc (.int _ i) => match P.underlying t with
    | some (.array len elem) => match P.info? elem, P.underlying elem with
      | some e, some _ => if decide (0 ≤ i ∧ i < (len : Int)) then
          (if isAggT P elem then (if Nat.ble (i.toNat * e.size + e.size) cells.length then some (.agg ((cells.drop (i.toNat * e.size)).take e.size)) else none)
          else (cells[i.toNat * e.size]?).map .sc)
        else none
      | _, _ => none
    | _ => none
  | _, _ => none

/-- 'x[:]' of an array in memory. -/
def sliceA (t : TypeId) : V → Option V
  | .sc (.ptr id off) => match P.underlying t with
    | some (.array n elem) => match P.info? elem with
      | some _ => some (.sc (.slc id off n n))
      | none => none
    | _ => none
  | _ => none

def intOp (op : BinOp) (k : IntKind) (a b : Int) : Option SV :=
  match op with
  | .add => some (.int k (k.wrap (a + b)))
  | .sub => some (.int k (k.wrap (a - b)))
  | .mul => some (.int k (k.wrap (a * b)))
  | .quo => if decide (b = 0) then none else some (.int k (k.wrap (a.tdiv b)))
  | .rem => if decide (b = 0) then none else some (.int k (a.tmod b))
  | .eql => some (.bool (a == b))
  | .neq => some (.bool (a != b))
  | .lss => some (.bool (decide (a < b)))
  | .leq => some (.bool (decide (a ≤ b)))
  | .gtr => some (.bool (decide (a > b)))
  | .geq => some (.bool (decide (a ≥ b)))
  | _ => none

def arithCode : BinOp → Option Nat
  | .add => some 0
  | .sub => some 1
  | .mul => some 2
  | .quo => some 3
  | _ => none
def opOf (c : Nat) : BinOp :=
  match c with
  | 0 => .add
  | 1 => .sub
  | 2 => .mul
  | _ => .quo
def kindOf (c : Nat) : FloatKind :=
  match c with
  | 0 => .f32
  | _ => .f64

/-- A comparison's code, and whether the answer is turned round. -/
def cmpCode : BinOp → Option (Nat × Bool)
  | .eql => some (0, false)
  | .neq => some (0, true)
  | .lss => some (1, false)
  | .leq => some (2, false)
  | .gtr => some (3, false)
  | .geq => some (4, false)
  | _ => none
def cmpOf (c : Nat) : BinOp :=
  match c with
  | 0 => .eql
  | 1 => .lss
  | 2 => .leq
  | 3 => .gtr
  | _ => .geq

/-- The unsigned integers of a float's width. -/
def uk : FloatKind → IntKind
  | .f32 => .u32
  | .f64 => .u64
/-- The mask that strikes the sign: by 'and', by 'and not'. -/
def keepMask : FloatKind → Nat
  | .f32 => 2147483647
  | .f64 => 9223372036854775807
def signMask : FloatKind → Nat
  | .f32 => 2147483648
  | .f64 => 9223372036854775808

def isF32 : SV → Bool
  | .flt .f32 _ => true
  | _ => false

/-- Two rows of floats, compared one by one. -/
def eqRow : List SV → List SV → Facts → (Bool → Facts → Bool) → Bool
  | [], [], fs, K => K true fs
  | .flt .f32 a :: l, .flt .f32 b :: r, fs, K => ask (.cmp 0 .f32 a b) fs fun t fs => match t with
    | true => eqRow l r fs K
    | false => K false fs
  | _, _, _, _ => false

/-- Arrays of three floats, or of three such arrays, that are compared. -/
def arr3OK (t : TypeId) (n : Nat) : Bool :=
  !P.eqGuardType P.depth t && match P.underlying t with
  | some (.array 3 e) => match P.underlying e, P.info? e with
    | some (.float .f32), some i => Nat.beq n 3 && Nat.beq i.size 1
    | some (.array 3 f), some i => match P.underlying f, P.info? f with
      | some (.float .f32), some j => Nat.beq n 9 && Nat.beq i.size 3 && Nat.beq j.size 1
      | _, _ => false
    | _, _ => false
  | _ => false

def binA (op : BinOp) (t : TypeId) (x y : V) (st : St) (K : V → Bool → Facts → Bool) : Bool :=
  match x, y with
  | .sc (.flt k a), .sc (.flt k' b) =>
    if Nat.beq (fk k) (fk k') then
      match arithCode op with
      | some c => forceNat (c + 4 * fk k) fun c => K (.sc (.flt k (.bin c a b))) true st.facts
      | none => match cmpCode op with
        | some (c, turn) => ask (.cmp c k a b) st.facts fun r fs => forceSV (.bool (r != turn)) fun s => K (.sc s) true fs
        | none => false
    else false
  | .sc (.int k a), .sc (.int k' b) =>
    if decide (k = k') then
      match intOp op k a b with
      | some s => forceSV s fun s => K (.sc s) true st.facts
      | none => false
    else false
  | .sc (.bits k a), .sc (.bits k' b) =>
    if Nat.beq (fk k) (fk k') then
      match op with
      | .eql => ask (.cmp 0 k a a) st.facts fun ta fs => ask (.cmp 0 k b b) fs fun tb fs =>
        match ta, tb with
        | true, true => if T.beq a b then K (.sc (.bool true)) true fs else ask (.same a b) fs fun r fs => forceSV (.bool r) fun s => K (.sc s) true fs
        | true, false => K (.sc (.bool false)) true fs
        | false, true => K (.sc (.bool false)) true fs
        | false, false => false
      | _ => false
    else false
  | .sc (.bits k a), .sc (.int k' (.ofNat n)) =>
    if decide (uk k = k') then
      match op with
      | .and => if Nat.beq n (keepMask k) then K (.sc (.bits k (.abs k a))) true st.facts else false
      | .andNot => if Nat.beq n (signMask k) then K (.sc (.bits k (.abs k a))) true st.facts else false
      | _ => false
    else false
  | .sc (.bool a), .sc (.bool b) => match P.underlying t with
    | some .bool => match op with
      | .eql => forceSV (.bool (a == b)) fun s => K (.sc s) true st.facts
      | .neq => forceSV (.bool (a != b)) fun s => K (.sc s) true st.facts
      | _ => false
    | _ => false
  | .agg l, .agg r =>
    if arr3OK P t l.length && Nat.beq l.length r.length && l.all isF32 && r.all isF32 then
      match op with
      | .eql => eqRow l r st.facts fun b fs => forceSV (.bool b) fun s => K (.sc s) true fs
      | .neq => eqRow l r st.facts fun b fs => forceSV (.bool !b) fun s => K (.sc s) true fs
      | _ => false
    else false
  | _, _ => false

def convertA (src dst : TypeId) (x : V) (fs : Facts) : Option V :=
  match P.underlying src, P.underlying dst, x with
  | some _, some (.int k), .sc (.int _ n) => some (.sc (.int k (k.wrap n)))
  | some _, some (.float k), .sc (.int _ n) => some (.sc (.flt k (.lit k (k.nearest n))))
  | some _, some (.float .f32), .sc (.flt .f32 t) => some (.sc (.flt .f32 t))
  | some _, some (.float .f64), .sc (.flt .f64 t) => some (.sc (.flt .f64 t))
  | some _, some (.float .f64), .sc (.flt .f32 t) => some (.sc (.flt .f64 (.wide t)))
  | some _, some (.float .f32), .sc (.flt .f64 t) => match look (.fits t) fs with
    | some true => some (.sc (.flt .f32 (.narrow t)))
    | _ => match t with
      | .lit .f64 b => if fitsC (canon .f64 b) then some (.sc (.flt .f32 (.narrow t))) else none
      | _ => none
  | _, _, _ => none

def unA (op : UnOp) : V → Option V
  | .sc (.bool b) => match op with
    | .not => some (.sc (.bool !b))
    | _ => none
  | .sc (.flt k t) => match op with
    | .neg => some (.sc (.flt k (.neg k t)))
    | _ => none
  | .sc (.int k n) => match op with
    | .neg => some (.sc (.int k (k.wrap (0 - n))))
    | _ => none
  | _ => none

/-- A value that hangs on atoms. -/
inductive Tree where
  | leaf (v : V)
  | node (a : Atom) (l r : Tree)

/-- What a function that is known beforehand gives. -/
inductive Known where
  | val (v : V)
  | test (a : Atom)
  | tree (t : Tree)

def treeA : Tree → Facts → (V → Facts → Bool) → Bool
  | .leaf v, fs, K => K v fs
  | .node a l r, fs, K => ask a fs fun b fs => match b with
    | true => treeA l fs K
    | false => treeA r fs K

def noPtrS : SV → Bool
  | .ptr .. | .slc .. => false
  | _ => true
def noPtr : V → Bool
  | .sc s => noPtrS s
  | .agg l => l.all noPtrS
  | .tup a b => noPtr a && noPtr b
  | .other _ => false
  | .opq _ => true
  | .txt _ _ => true

/-- An argument as the callee sees it: what it points to is handed with it. -/
def handOver (heap : List (List SV)) : List V → List (List SV) → (List V → List (List SV) → Bool) → Bool
  | [], bs, K => K [] bs
  | v :: r, bs, K =>
    match v with
    | .sc (.slc id off len cap) => match heap[id]? with
      | some cells => if cells.all noPtrS then handOver heap r (bs ++ [cells]) fun vs hs => K (.sc (.slc bs.length off len cap) :: vs) hs else false
      | none => false
    | v => if noPtr v then handOver heap r bs fun vs hs => K (v :: vs) hs else false

def resultA (heap : List (List SV)) (tmps : List V) : ResultVar → Option V
  | .tmp t => some (tmps.getD t undefV)
  | .cell a t => loadA P heap t (tmps.getD a undefV)

def resultsA (heap : List (List SV)) (tmps : List V) : List ResultVar → Option V
  | [r] => resultA P heap tmps r
  | [r, s] => match resultA P heap tmps r, resultA P heap tmps s with
    | some a, some b => some (.tup a b)
    | _, _ => none
  | _ => none

def evParts (tmps : List V) : List (Nat × Operand) → List (Nat × V)
  | [] => []
  | (i, x) :: r => (i, evA tmps x) :: evParts tmps r

variable (S : FuncId → List V → Option Known)

/-- One operation. 'call': how a call is run. 'K' takes the value, the state behind it. -/
def opA (call : FuncId → List V → St → (V → Facts → Bool) → Bool) (o : Op) (tmps : List V) (st : St) (K : V → St → Bool) : Bool :=
  match o with
  | .move x | .assign x => forceV (evA tmps x) fun v => K v st
  | .pick c a b => match evA tmps c with
    | .sc (.bool true) => forceV (evA tmps a) fun v => K v st
    | .sc (.bool false) => forceV (evA tmps b) fun v => K v st
    | _ => false
  | .alloc t => match zeroA P t with
    | some l => forceSL l fun l => forceL (st.heap ++ [l]) fun h => forceNat st.heap.length fun n => K (.sc (.ptr n 0)) { st with heap := h }
    | none => false
  | .box _ x => match cellsV (evA tmps x) with
    | some l => forceSL l fun l => forceL (st.heap ++ [l]) fun h => forceNat st.heap.length fun n => K (.sc (.ptr n 0)) { st with heap := h }
    | none => false
  | .build t parts => match buildA P t (evParts tmps parts.toList) with
    | some v => forceV v fun v => K v st
    | none => false
  | .buildSlice t n parts => match buildSliceA P t n (evParts tmps parts.toList) with
    | some l => forceSL l fun l => forceL (st.heap ++ [l]) fun h => forceNat st.heap.length fun i => K (.sc (.slc i 0 n n)) { st with heap := h }
    | none => false
  | .load t x => match loadA P st.heap t (evA tmps x) with
    | some v => forceV v fun v => K v st
    | none => false
  | .binOp op t x y _ => binA P op t (evA tmps x) (evA tmps y) st fun v _ fs => K v { st with facts := fs }
  | .unOp op _ x => match unA op (evA tmps x) with
    | some v => forceV v fun v => K v st
    | none => false
  | .convert src dst x => match convertA P src dst (evA tmps x) st.facts with
    | some v => forceV v fun v => K v st
    | none => false
  | .indexAddr t x i => match indexAddrA P t (evA tmps x) (evA tmps i) with
    | some v => forceV v fun v => K v st
    | none => false
  | .index t x i => match indexA P t (evA tmps x) (evA tmps i) with
    | some v => forceV v fun v => K v st
    | none => false
  | .slice t x none none none => match sliceA P t (evA tmps x) with
    | some v => forceV v fun v => K v st
    | none => false
  | .extract x i => match evA tmps x with
    | .tup a b => match i with
      | 0 => K a st
      | 1 => K b st
      | _ => false
    | _ => false
  | .call c => match c.callee with
    | .value (.func f) => match S f (c.args.toList.map (evA tmps)) with
      | some (.val v) => forceV v fun v => K v st
      | some (.test a) => ask a st.facts fun r fs => forceSV (.bool r) fun s => K (.sc s) { st with facts := fs }
      | some (.tree t) => treeA t st.facts fun v fs => forceV v fun v => K v { st with facts := fs }
      | none => call f (c.args.toList.map (evA tmps)) st fun v fs => K v { st with facts := fs }
    | .builtin .min => match c.args.toList with
      | [x, y] => match evA tmps x, evA tmps y with
        | .sc (.flt k a), .sc (.flt k' b) => if Nat.beq (fk k) (fk k') then forceNat (2 * fk k) fun c => K (.sc (.flt k (.mm c a b))) st else false
        | _, _ => false
      | _ => false
    | .builtin .max => match c.args.toList with
      | [x, y] => match evA tmps x, evA tmps y with
        | .sc (.flt k a), .sc (.flt k' b) => if Nat.beq (fk k) (fk k') then forceNat (2 * fk k + 1) fun c => K (.sc (.flt k (.mm c a b))) st else false
        | _, _ => false
      | _ => false
    | .builtin .len => match c.args.toList, c.argTypes.toList with
      | [x], [t] => match P.underlying t, evA tmps x with
        | some (.slice _), .sc (.slc _ _ len _) => forceSV (.int .i64 len) fun s => K (.sc s) st
        | some (.array n _), _ => forceSV (.int .i64 n) fun s => K (.sc s) st
        | _, _ => false
      | _, _ => false
    | _ => false
  | _ => false

def isStore : Op → Bool
  | .store .. => true
  | _ => false

def storeOp (o : Op) (tmps : List V) (st : St) (K : St → Bool) : Bool :=
  match o with
  | .store t a x => match storeA P st.heap st.old t (evA tmps a) (evA tmps x) with
    | some h => forceL h fun h => K { st with heap := h }
    | none => false
  | _ => false

/-- Is the operation carried out? -/
def wantedA (ops : Array Oper) (o : Oper) (tmps : List V) : Option Bool :=
  match o.guard with
  | none => some true
  | some (j, want) => match (ops[j]?).bind (·.dst) with
    | some t => match tmps.getD t undefV with
      | .sc (.bool b) => some (b == want)
      | .other (.tuple _) => some false
      | _ => none
    | none => none

def opsA (call : FuncId → List V → St → (V → Facts → Bool) → Bool) (ops : Array Oper) : List Oper → List V → St → (List V → St → Bool) → Bool
  | [], tmps, st, K => K tmps st
  | o :: r, tmps, st, K =>
    match wantedA ops o tmps with
    | some true =>
      if isStore o.op then storeOp P o.op tmps st fun st => forceL (put tmps o.dst undefV) fun tmps => opsA call ops r tmps st K
      else opA P S call o.op tmps st fun v st => forceL (put tmps o.dst v) fun tmps => opsA call ops r tmps st K
    | some false => forceL (put tmps o.dst undefV) fun tmps => opsA call ops r tmps st K
    | none => false

end

/-- How a piece of code is left. -/
inductive XE where
  | normal
  | exit (id : Nat)
  | ret

/-! ### A region that draws its order: computing, then stores -/
def edge (o : Oper) (i : Nat) : Bool := o.after.any fun e => Region.binds .any e && Nat.beq e.on i

/-- 'i' is carried out before 'y' in whatever order. -/
def anc (ops : Array Oper) : Nat → Oper → Nat → Bool
  | 0, y, i => edge y i
  | n + 1, y, i => edge y i || y.after.any fun e => Region.binds .any e && match ops[e.on]? with
    | some z => anc ops n z i
    | none => false

def leads (l : List Oper) : Nat :=
  match l with
  | [] => 0
  | o :: r => if isStore o.op then 0 else leads r + 1

def optBeq : Option Nat → Option Nat → Bool
  | some a, some b => Nat.beq a b
  | _, _ => false

/-- Two operations, 'i' ahead of 'j' in the text: they write apart; what one writes and the other looks at is ordered; behind the first store all is in the order of the text. -/
def isEager : Op → Bool
  | .move _ | .assign _ | .extract .. => true
  | _ => false

def pairOK (ops : Array Oper) (i : Nat) (xtail tail : Bool) (x y : Oper) : Bool :=
  !optBeq x.dst y.dst &&
  ((y.looksAt ops).all fun t => !optBeq x.dst (some t) || edge y i) &&
  ((x.looksAt ops).all fun t => !optBeq y.dst (some t) || edge y i) &&
  (!tail || anc ops 3 y i || (!xtail && isEager x.op && x.after.all fun e => !Region.binds .any e || anc ops 3 y e.on))

def pairsFrom (ops : Array Oper) (n i : Nat) (x : Oper) : Nat → List Oper → Bool
  | _, [] => true
  | j, y :: r => pairOK ops i (Nat.ble n i) (Nat.ble n j) x y && pairsFrom ops n i x (j + 1) r

def allPairs (ops : Array Oper) (n : Nat) : Nat → List Oper → Bool
  | _, [] => true
  | i, x :: r => pairsFrom ops n i x (i + 1) r && allPairs ops n (i + 1) r

def backFrom : Nat → List Oper → Bool
  | _, [] => true
  | i, o :: r => (o.after.all fun e => !Region.binds .any e || Nat.blt e.on i) && backFrom (i + 1) r

def drawOK (ops : Array Oper) : Bool :=
  forceNat (leads ops.toList) fun n => allPairs ops n 0 ops.toList && backFrom 0 ops.toList && Region.noSelect ops

section
variable (P : Program) (S : FuncId → List V → Option Known)

abbrev Run := Code → List V → St → (XE → List V → St → Bool) → Bool

def callA (rec : Run) (f : FuncId) (args : List V) (st : St) (K : V → Facts → Bool) : Bool :=
  match P.funcs[f]? with
  | some fn => match fn.body with
    | some c => handOver st.heap args [] fun vs hs =>
        forceL (vs ++ List.replicate (fn.ntmps - vs.length) undefV) fun tmps =>
        rec c tmps { facts := st.facts, heap := hs, old := hs.length } fun e t s =>
          match e with
          | .exit _ => false
          | _ => match resultsA P s.heap t fn.results.toList with
            | some v => if noPtr v then forceV v fun v => K v s.facts else false
            | none => false
    | none => false
  | none => false

def stepA (rec : Run) (c : Code) (tmps : List V) (st : St) (K : XE → List V → St → Bool) : Bool :=
  match c with
  | .skip | .label _ => K .normal tmps st
  | .seq a b => rec a tmps st fun e t s => match e with
    | .normal => rec b t s K
    | e => K e t s
  | .cond x a b => match evA tmps x with
    | .sc (.bool true) => rec a tmps st K
    | .sc (.bool false) => rec b tmps st K
    | _ => false
  | .block id b => rec b tmps st fun e t s => match e with
    | .exit i => if Nat.beq i id then K .normal t s else K (.exit i) t s
    | e => K e t s
  | .loop b => rec b tmps st fun e t s => match e with
    | .normal => rec (.loop b) t s K
    | e => K e t s
  | .scope b => rec b tmps st K
  | .exit id => K (.exit id) tmps st
  | .ret => K .ret tmps st
  | .region _ ops draw =>
    if draw then (if drawOK ops then opsA P S (callA P rec) ops ops.toList tmps st (K .normal) else false)
    else opsA P S (callA P rec) ops ops.toList tmps st (K .normal)
  | _ => false

def codeA : Nat → Run
  | 0 => fun _ _ _ _ => false
  | n + 1 => stepA P S (codeA n)

/-- A call of function 'f': 'K' is asked of the value, behind every way. -/
def runA (n : Nat) (f : FuncId) (args : List V) (fs : Facts) (K : V → Facts → Bool) : Bool :=
  callA P (codeA P S n) f args { facts := fs, heap := [], old := 0 } K

end
end Go.Sx

/-   What the symbols stand for, and that each operation on symbols is the model's operation. Conditions: none. -/
namespace Go.Sx
open Go.RowKit

/-- What was there is as it was. -/
structure Gr (w w' : World) : Prop where
  os : w'.os = w.os
  output : w'.output = w.output
  size : w.heap.size ≤ w'.heap.size
  block : ∀ k : Nat, k < w.heap.size → w'.heap[k]? = w.heap[k]?

theorem Gr.refl (w : World) : Gr w w := ⟨rfl, rfl, Nat.le_refl _, fun _ _ => rfl⟩
theorem Gr.trans' {a b c : World} (h : Gr a b) (k : Gr b c) : Gr a c :=
  ⟨k.os.trans h.os, k.output.trans h.output, Nat.le_trans h.size k.size, fun i hi => (k.block i (Nat.lt_of_lt_of_le hi h.size)).trans (h.block i hi)⟩
theorem Gr.alloc {a w : World} (h : Gr a w) (c : Array Value) (t : TypeId) : Gr a (w.alloc (.cells c t)) :=
  h.trans' ⟨rfl, rfl, by simp, fun k hk => Below.heap_alloc _ _ _ hk⟩
theorem Gr.drewN {W W' : World} (h : Gr W W') (n : Nat) : Gr W (W'.drewN n) := ⟨h.os, h.output, h.size, h.block⟩

structure Env where
  arg : Nat → CF
  f1 : Nat → CF → CF
  f2 : Nat → CF → CF → CF
  opq : Nat → Value := fun _ => undef
  txt : Nat → List CF → Value := fun _ _ => undef
  inv : World → Prop := fun _ => True
  stable : ∀ W W' : World, Gr W W' → inv W → inv W' := by intros; first | assumption | trivial

def cwide (x : CF) : CF := x.bind fun b => floatToFloatBits .f32 b .f64
def cnarrow (x : CF) : CF := x.bind fun b => floatToFloatBits .f64 b .f32
def cmm (big : Bool) (k : FloatKind) : CF → CF → CF
  | some x, some y =>
    match k.format.order x y with
    | none => none
    | some .lt => if big then some y else some x
    | some .gt => if big then some x else some y
    | some .eq => if (k.decode x).neg == big then some y else some x
  | _, _ => none

def den (E : Env) : T → CF
  | .arg i => E.arg i
  | .lit k b => canon k b
  | .bin c x y => cbin (opOf (c % 4)) (kindOf (c / 4)) (den E x) (den E y)
  | .neg k x => cneg k (den E x)
  | .wide x => cwide (den E x)
  | .narrow x => cnarrow (den E x)
  | .f1 g x => E.f1 g (den E x)
  | .f2 g x y => E.f2 g (den E x) (den E y)
  | .mm c x y => cmm (c % 2 == 1) (kindOf (c / 2)) (den E x) (den E y)
  | .abs k x => cabs k (den E x)

def holds (E : Env) : Atom → Bool
  | .cmp c k x y => ccmp (cmpOf c) k (den E x) (den E y)
  | .fits x => fitsC (den E x)
  | .same x y => den E x == den E y

def FactsOK (E : Env) (fs : Facts) : Prop := ∀ p ∈ fs, holds E p.1 = p.2

theorem fk_inj {k k' : FloatKind} (h : Nat.beq (fk k) (fk k') = true) : k = k' := by
  cases k <;> cases k' <;> first | rfl | (exact absurd h (by decide))

theorem T.beq_eq : ∀ {x y : T}, T.beq x y = true → x = y := by
  intro x
  induction x with
  | arg i => intro y h; cases y <;> simp_all [T.beq]
  | lit k b => intro y h; cases y <;> simp only [T.beq, Bool.and_eq_true, Bool.false_eq_true] at h; obtain ⟨h1, h2⟩ := h; rw [fk_inj h1, Nat.eq_of_beq_eq_true h2]
  | bin c x y ihx ihy =>
    intro z h; cases z <;> simp only [T.beq, Bool.and_eq_true, Bool.false_eq_true] at h
    obtain ⟨⟨h1, h2⟩, h3⟩ := h; rw [Nat.eq_of_beq_eq_true h1, ihx h2, ihy h3]
  | neg k x ih => intro y h; cases y <;> simp only [T.beq, Bool.and_eq_true, Bool.false_eq_true] at h; obtain ⟨h1, h2⟩ := h; rw [fk_inj h1, ih h2]
  | wide x ih => intro y h; cases y <;> simp only [T.beq, Bool.false_eq_true] at h; rw [ih h]
  | narrow x ih => intro y h; cases y <;> simp only [T.beq, Bool.false_eq_true] at h; rw [ih h]
  | f1 g x ih => intro y h; cases y <;> simp only [T.beq, Bool.and_eq_true, Bool.false_eq_true] at h; obtain ⟨h1, h2⟩ := h; rw [Nat.eq_of_beq_eq_true h1, ih h2]
  | f2 c x y ihx ihy =>
    intro z h; cases z <;> simp only [T.beq, Bool.and_eq_true, Bool.false_eq_true] at h
    obtain ⟨⟨h1, h2⟩, h3⟩ := h; rw [Nat.eq_of_beq_eq_true h1, ihx h2, ihy h3]
  | mm c x y ihx ihy =>
    intro z h; cases z <;> simp only [T.beq, Bool.and_eq_true, Bool.false_eq_true] at h
    obtain ⟨⟨h1, h2⟩, h3⟩ := h; rw [Nat.eq_of_beq_eq_true h1, ihx h2, ihy h3]
  | abs k x ih => intro y h; cases y <;> simp only [T.beq, Bool.and_eq_true, Bool.false_eq_true] at h; obtain ⟨h1, h2⟩ := h; rw [fk_inj h1, ih h2]

theorem Atom.beq_eq {a b : Atom} (h : Atom.beq a b = true) : a = b := by
  cases a <;> cases b <;> simp only [Atom.beq, Bool.and_eq_true, Bool.false_eq_true] at h
  · obtain ⟨⟨⟨h1, h2⟩, h3⟩, h4⟩ := h; rw [Nat.eq_of_beq_eq_true h1, fk_inj h2, T.beq_eq h3, T.beq_eq h4]
  · rw [T.beq_eq h]
  · obtain ⟨h1, h2⟩ := h; rw [T.beq_eq h1, T.beq_eq h2]

theorem look_sound {E : Env} {a : Atom} {t : Bool} : ∀ {fs : Facts}, look a fs = some t → FactsOK E fs → holds E a = t
  | [], h, _ => by cases h
  | (b, u) :: r, h, hf => by
    simp only [look] at h
    split at h
    · rename_i e; cases h; rw [Atom.beq_eq e]; exact hf _ (List.mem_cons_self ..)
    · exact look_sound h fun p hp => hf p (List.mem_cons_of_mem _ hp)

theorem ask_sound {E : Env} {a : Atom} {fs : Facts} {K : Bool → Facts → Bool} (h : ask a fs K = true) (hf : FactsOK E fs) :
    ∃ fs', K (holds E a) fs' = true ∧ FactsOK E fs' := by
  unfold ask at h
  split at h
  · rename_i t ht
    exact ⟨fs, by rw [look_sound ht hf]; exact h, hf⟩
  · rw [Bool.and_eq_true] at h
    have hc : ∀ t, holds E a = t → FactsOK E ((a, t) :: fs) := fun t ht p hp => by
      rcases List.mem_cons.1 hp with rfl | hp
      · exact ht
      · exact hf p hp
    cases ht : holds E a
    · exact ⟨_, h.2, hc _ ht⟩
    · exact ⟨_, h.1, hc _ ht⟩

/-- The value of a tree. -/
def Tree.pick (E : Env) : Tree → V
  | .leaf v => v
  | .node a l r => if holds E a then l.pick E else r.pick E

theorem treeA_sound {E : Env} {K : V → Facts → Bool} : ∀ {t : Tree} {fs : Facts}, treeA t fs K = true → FactsOK E fs → ∃ fs', K (t.pick E) fs' = true ∧ FactsOK E fs'
  | .leaf v, fs, h, hf => ⟨fs, h, hf⟩
  | .node a l r, fs, h, hf => by
    obtain ⟨fs', h1, h2⟩ := ask_sound h hf
    unfold Tree.pick
    cases hh : holds E a
    · rw [hh] at h1
      simpa using treeA_sound (t := r) h1 h2
    · rw [hh] at h1
      simpa using treeA_sound (t := l) h1 h2

/-! ### Forcing does nothing -/
theorem forceNat_eq (n : Nat) (K : Nat → Bool) : forceNat n K = K n := by cases n <;> rfl
theorem forceInt_eq (n : Int) (K : Int → Bool) : forceInt n K = K n := by cases n <;> simp only [forceInt, forceNat_eq]
theorem forceSV_eq (s : SV) (K : SV → Bool) : forceSV s K = K s := by
  cases s <;> simp only [forceSV, forceInt_eq, forceNat_eq]
  rename_i b; cases b <;> rfl
theorem forceL_eq {α : Type} (l : List α) : ∀ K : List α → Bool, forceL l K = K l := by
  induction l with
  | nil => intro K; rfl
  | cons x r ih => intro K; simp only [forceL, ih]
theorem forceSL_eq (l : List SV) : ∀ K : List SV → Bool, forceSL l K = K l := by
  induction l with
  | nil => intro K; rfl
  | cons x r ih => intro K; simp only [forceSL, ih, forceSV_eq]
theorem forceV_eq (v : V) : ∀ K : V → Bool, forceV v K = K v := by
  induction v with
  | sc s => intro K; simp only [forceV, forceSV_eq]
  | agg l => intro K; simp only [forceV, forceSL_eq]
  | tup a b iha ihb => intro K; simp only [forceV, iha, ihb]
  | other v => intro K; rfl
  | opq i => intro K; rfl
  | txt k l => intro K; rfl

/-! ### What stands for what -/
abbrev Beta := Nat → Option Nat

def SRel (E : Env) (β : Beta) : SV → Value → Prop
  | .int k n, v => v = .int k n
  | .bool b, v => v = .bool b
  | .flt k t, v => ∃ b, v = .float k b ∧ canon k b = den E t
  | .ptr id off, v => ∃ blk, β id = some blk ∧ v = .pointer (some ⟨blk, off, none⟩)
  | .slc id off len cap, v => ∃ blk, β id = some blk ∧ v = .slice (some ⟨blk, off, none⟩) len cap
  | .bits k t, v => ∃ b : Nat, v = .int (uk k) (b : Int) ∧ canon k b = den E t

def LRel (E : Env) (β : Beta) (l : List SV) (r : List Value) : Prop :=
  l.length = r.length ∧ ∀ (i : Nat) (s : SV) (v : Value), l[i]? = some s → r[i]? = some v → SRel E β s v

def VRel (E : Env) (β : Beta) : V → Value → Prop
  | .sc s, v => SRel E β s v
  | .agg l, v => ∃ arr : Array Value, v = .agg arr ∧ LRel E β l arr.toList
  | .tup a b, v => ∃ x y, v = .tuple #[x, y] ∧ VRel E β a x ∧ VRel E β b y
  | .other w, v => v = w
  | .opq i, v => v = E.opq i
  | .txt k l, v => v = E.txt k (l.map (den E))

def Ext (β β' : Beta) : Prop := ∀ i b, β i = some b → β' i = some b
theorem Ext.refl (β : Beta) : Ext β β := fun _ _ h => h
theorem Ext.trans {a b c : Beta} (h : Ext a b) (h' : Ext b c) : Ext a c := fun i x hx => h' i x (h i x hx)

section
variable {E : Env} {β β' : Beta}

theorem SRel.mono (h : Ext β β') {s : SV} {v : Value} (hs : SRel E β s v) : SRel E β' s v := by
  cases s <;> simp only [SRel] at hs ⊢
  case flt => exact hs
  case ptr => obtain ⟨b, h1, h2⟩ := hs; exact ⟨b, h _ _ h1, h2⟩
  case slc => obtain ⟨b, h1, h2⟩ := hs; exact ⟨b, h _ _ h1, h2⟩
  case bits => exact hs
  all_goals exact hs
theorem LRel.mono (h : Ext β β') {l : List SV} {r : List Value} (hs : LRel E β l r) : LRel E β' l r := ⟨hs.1, fun i s v h1 h2 => (hs.2 i s v h1 h2).mono h⟩
theorem VRel.mono (h : Ext β β') : ∀ {s : V} {v : Value}, VRel E β s v → VRel E β' s v
  | .sc _, _, hs => SRel.mono h hs
  | .agg _, _, ⟨arr, h1, h2⟩ => ⟨arr, h1, h2.mono h⟩
  | .tup _ _, _, ⟨x, y, h1, h2, h3⟩ => ⟨x, y, h1, VRel.mono h h2, VRel.mono h h3⟩
  | .other _, _, hs => hs
  | .opq _, _, hs => hs
  | .txt _ _, _, hs => hs

theorem SRel.noPtr {s : SV} {v : Value} (hn : noPtrS s = true) (hs : SRel E β s v) : SRel E β' s v := by
  cases s <;> simp only [SRel] at hs ⊢ <;> first | exact hs | (simp [noPtrS] at hn)
theorem LRel.noPtr {l : List SV} {r : List Value} (hn : l.all noPtrS = true) (hs : LRel E β l r) : LRel E β' l r :=
  ⟨hs.1, fun i s v h1 h2 => (hs.2 i s v h1 h2).noPtr (List.all_eq_true.1 hn s (List.mem_of_getElem? h1))⟩
theorem VRel.noPtr : ∀ {s : V} {v : Value}, Sx.noPtr s = true → VRel E β s v → VRel E β' s v
  | .sc _, _, hn, hs => SRel.noPtr hn hs
  | .agg _, _, hn, ⟨arr, h1, h2⟩ => ⟨arr, h1, h2.noPtr hn⟩
  | .tup _ _, _, hn, ⟨x, y, h1, h2, h3⟩ => by
    simp only [Sx.noPtr, Bool.and_eq_true] at hn
    exact ⟨x, y, h1, VRel.noPtr hn.1 h2, VRel.noPtr hn.2 h3⟩
  | .other _, _, hn, _ => by simp [Sx.noPtr] at hn
  | .opq _, _, _, hs => hs
  | .txt _ _, _, _, hs => hs

theorem SRel.oneCell {s : SV} {v : Value} (hs : SRel E β s v) : v.oneCell' = true := by
  cases s <;> simp only [SRel] at hs
  case flt => obtain ⟨b, rfl, _⟩ := hs; rfl
  case ptr => obtain ⟨b, _, rfl⟩ := hs; rfl
  case slc => obtain ⟨b, _, rfl⟩ := hs; rfl
  case bits => obtain ⟨b, rfl, _⟩ := hs; rfl
  all_goals (subst hs; rfl)

theorem LRel.oneCell {l : List SV} {r : List Value} (h : LRel E β l r) : ∀ v ∈ r, v.oneCell' = true := by
  intro v hv
  obtain ⟨i, hi, rfl⟩ := List.mem_iff_getElem.1 hv
  have hl : i < l.length := by rw [h.1]; exact hi
  exact SRel.oneCell (h.2 i l[i] r[i] (List.getElem?_eq_getElem hl) (List.getElem?_eq_getElem hi))

theorem LRel.nil : LRel E β [] [] := ⟨rfl, fun i s v h _ => by simp at h⟩
theorem LRel.cons {s : SV} {v : Value} {l : List SV} {r : List Value} (h : SRel E β s v) (hl : LRel E β l r) : LRel E β (s :: l) (v :: r) := by
  refine ⟨by simp [hl.1], fun i s' v' h1 h2 => ?_⟩
  cases i with
  | zero => simp at h1 h2; subst h1; subst h2; exact h
  | succ i => simp at h1 h2; exact hl.2 i s' v' h1 h2
theorem LRel.single {s : SV} {v : Value} (h : SRel E β s v) : LRel E β [s] [v] := LRel.cons h LRel.nil
theorem LRel.take {l : List SV} {r : List Value} (h : LRel E β l r) (n : Nat) : LRel E β (l.take n) (r.take n) := by
  refine ⟨by simp [h.1], fun i s v h1 h2 => ?_⟩
  rw [List.getElem?_take] at h1 h2
  split at h1
  · rename_i hi; rw [if_pos hi] at h2; exact h.2 i s v h1 h2
  · cases h1
theorem LRel.drop {l : List SV} {r : List Value} (h : LRel E β l r) (n : Nat) : LRel E β (l.drop n) (r.drop n) := by
  refine ⟨by simp [h.1], fun i s v h1 h2 => ?_⟩
  rw [List.getElem?_drop] at h1 h2
  exact h.2 _ s v h1 h2
theorem LRel.append {l l' : List SV} {r r' : List Value} (h : LRel E β l r) (h' : LRel E β l' r') : LRel E β (l ++ l') (r ++ r') := by
  refine ⟨by simp [h.1, h'.1], fun i s v h1 h2 => ?_⟩
  by_cases hi : i < l.length
  · rw [List.getElem?_append_left hi] at h1
    rw [List.getElem?_append_left (by rw [← h.1]; exact hi)] at h2
    exact h.2 i s v h1 h2
  · rw [List.getElem?_append_right (by omega)] at h1
    rw [List.getElem?_append_right (by rw [← h.1]; omega), ← h.1] at h2
    exact h'.2 _ s v h1 h2
theorem LRel.get {l : List SV} {r : List Value} (h : LRel E β l r) {i : Nat} {s : SV} (hs : l[i]? = some s) : ∃ v, r[i]? = some v ∧ SRel E β s v := by
  have hi : i < l.length := (List.getElem?_eq_some_iff.1 hs).1
  have hr : i < r.length := by rw [← h.1]; exact hi
  exact ⟨r[i], List.getElem?_eq_getElem hr, h.2 i s _ hs (List.getElem?_eq_getElem hr)⟩
theorem LRel.replicate {s : SV} {v : Value} (h : SRel E β s v) (n : Nat) : LRel E β (List.replicate n s) (List.replicate n v) := by
  refine ⟨by simp, fun i s' v' h1 h2 => ?_⟩
  rw [List.getElem?_replicate] at h1 h2
  split at h1
  · rename_i hi; rw [if_pos hi] at h2; cases h1; cases h2; exact h
  · cases h1

theorem absS_rel {v : Value} {s : SV} (h : absS v = some s) : SRel E β s v := by
  cases v <;> simp only [absS, reduceCtorEq, Option.some.injEq] at h
  all_goals subst h
  · rfl
  · rfl
  · exact ⟨_, rfl, rfl⟩

theorem absL_rel : ∀ {r : List Value} {l : List SV}, absL r = some l → LRel E β l r
  | [], l, h => by simp only [absL, Option.some.injEq] at h; subst h; exact LRel.nil
  | v :: r, l, h => by
    simp only [absL] at h
    split at h
    · rename_i s l' h1 h2; cases h; exact LRel.cons (absS_rel h1) (absL_rel h2)
    · cases h

theorem absV_rel (v : Value) : VRel E β (absV v) v := by
  unfold absV
  split
  · rename_i cs
    split
    · rename_i l h; exact ⟨cs, rfl, absL_rel h⟩
    · rfl
  · split
    · rename_i s h; exact absS_rel h
    · rfl

theorem cellsV_rel {v : V} {x : Value} {l : List SV} (h : cellsV v = some l) (hv : VRel E β v x) : LRel E β l x.cells.toList := by
  cases v <;> simp only [cellsV, reduceCtorEq, Option.some.injEq] at h
  · subst h
    have h1 := SRel.oneCell hv
    have : x.cells = #[x] := by cases x <;> first | rfl | (simp [Value.oneCell'] at h1)
    rw [this]; exact LRel.single hv
  · subst h; obtain ⟨arr, rfl, h⟩ := hv; exact h

/-- The memory that the symbols speak of. -/
structure HRel (E : Env) (β : Beta) (heap : List (List SV)) (W : World) : Prop where
  inv : E.inv W
  lt : ∀ id blk, β id = some blk → blk < W.heap.size
  ok : ∀ id blk l, β id = some blk → heap[id]? = some l → ∃ cells ty, W.heap[blk]? = some (.cells cells ty (0, 0)) ∧ LRel E β l cells.toList

theorem grown_cells {W W' : World} (h : Gr W W') {b : Nat} {c : Array Value} {t : TypeId} {f : Nat × Nat} (hb : W.heap[b]? = some (.cells c t f)) : W'.heap[b]? = some (.cells c t f) :=
  (h.block b (Array.getElem?_eq_some_iff.1 hb).1).trans hb

theorem HRel.grown {heap : List (List SV)} {W W' : World} (h : HRel E β heap W) (g : Gr W W') : HRel E β heap W' :=
  ⟨E.stable W W' g h.inv, fun id blk hb => Nat.lt_of_lt_of_le (h.lt id blk hb) g.size, fun id blk l hb hl => let ⟨c, t, h1, h2⟩ := h.ok id blk l hb hl; ⟨c, t, grown_cells g h1, h2⟩⟩

end
end Go.Sx

/-   Each operation on symbols is the model's operation: loads, stores, literals, addresses, numbers, conversions. Conditions: none. -/
namespace Go.Sx
open Go.RowKit

section
variable {E : Env} {β : Beta} {P : Program} {W : World}

theorem addr_add (blk off n : Nat) : (⟨blk, off, none⟩ : Addr).add n = ⟨blk, off + n, none⟩ := by
  unfold Addr.add; split <;> simp_all

theorem info_of_u {t : TypeId} {d : TypeDesc} (h : P.underlying t = some d) : ∃ i, P.info? t = some i := by
  unfold Program.underlying at h
  cases hi : P.info? t with
  | none => simp [hi] at h
  | some i => exact ⟨i, rfl⟩

theorem run_isAgg {t : TypeId} {d : TypeDesc} (hu : P.underlying t = some d) (W : World) : (isAgg t).run P W = .ok (isAggT P t) W := by
  unfold isAgg isAggT
  rw [Sem.run_bind, run_underlying hu W, hu]
  cases d <;> rfl

theorem run_size {t : TypeId} {i : TypeInfo} (hi : P.info? t = some i) (W : World) : (sizeOf t).run P W = .ok i.size W := by
  simp [sizeOf, typeInfo, hi]

theorem loadA_sound {heap : List (List SV)} {t : TypeId} {v sv : V} {x : Value} (h : loadA P heap t v = some sv) (hv : VRel E β v x) (hr : HRel E β heap W) :
    ∃ y, (Instr.loadAt t x).run P W = .ok y W ∧ VRel E β sv y := by
  unfold loadA at h
  split at h
  · rename_i id off
    split at h
    · rename_i d i cells hu hi hc
      obtain ⟨blk, hb, rfl⟩ := hv
      obtain ⟨arr, ty, hw, hl⟩ := hr.ok id blk cells hb hc
      have hcell : ∀ j, W.cell? ⟨blk, j, none⟩ = arr[j]? := fun j => cell_of_row W blk j arr ty (0, 0) hw
      have e0 : (Instr.loadAt t (.pointer (some ⟨blk, off, none⟩))).run P W = (loadVar t ⟨blk, off, none⟩).run P W := by
        simp [Instr.loadAt, Instr.sureAddr]
      rw [e0]
      split at h
      · rename_i hagg
        split at h
        · rename_i hle
          cases h
          have hsz : ((arr.toList.drop off).take i.size).length = i.size := by
            have := hl.1; simp at this ⊢; omega
          have hld := run_loadCells_list (P := P) W ⟨blk, off, none⟩ ((arr.toList.drop off).take i.size) (fun j v hj => by
            rw [addr_add, hcell]
            rw [List.getElem?_take] at hj
            split at hj
            · rw [List.getElem?_drop] at hj; simpa using hj
            · cases hj)
          rw [hsz] at hld
          refine ⟨.agg ((arr.toList.drop off).take i.size).toArray, ?_, ⟨_, rfl, by simpa using (hl.drop off).take i.size⟩⟩
          simp [loadVar, run_isAgg hu, hagg, run_size hi, hld]
        · cases h
      · rename_i hagg
        cases hs : cells[off]? with
        | none => rw [hs] at h; cases h
        | some s =>
          rw [hs] at h; cases h
          obtain ⟨v, h1, h2⟩ := hl.get hs
          have h1' : arr[off]? = some v := by simpa using h1
          refine ⟨v, ?_, h2⟩
          have hagg' : isAggT P t = false := by simpa using hagg
          simp [loadVar, run_isAgg hu, hagg', hcell, h1']
    · cases h
  · cases h

theorem Gr.setRow {W W' : World} (h : Gr W W') {g : Nat} (hg : W.heap.size ≤ g) (cs : Array Value) {old : Array Value} {ty : TypeId} (_ : W'.heap[g]? = some (.cells old ty (0, 0))) : Gr W (W'.setRow g cs) :=
  ⟨h.os, h.output, by simpa using h.size, fun i hi => (setRow_other _ _ _ _ (by omega)).trans (h.block i hi)⟩

theorem storeA_sound {heap heap' : List (List SV)} {old : Nat} {t : TypeId} {va vx : V} {a x : Value} {W0 : World} (h : storeA P heap old t va vx = some heap') (ha : VRel E β va a) (hx : VRel E β vx x)
    (hr : HRel E β heap W) (hi0 : E.inv W0) (hg : Gr W0 W) (hown : ∀ id blk, old ≤ id → β id = some blk → W0.heap.size ≤ blk) (hinj : ∀ id id' blk, old ≤ id → β id = some blk → β id' = some blk → id = id') :
    ∃ W', (Instr.storeAt t a x).run P W = .ok () W' ∧ HRel E β heap' W' ∧ Gr W0 W' ∧ heap'.length = heap.length := by
  unfold storeA at h
  split at h
  · rename_i id off
    split at h
    · rename_i i cells l hi hc hl
      split at h
      · rename_i hcond
        cases h
        simp only [Bool.and_eq_true] at hcond
        obtain ⟨⟨hold, hlen⟩, hfit⟩ := hcond
        have hold' := Nat.le_of_ble_eq_true hold
        have hlen' := Nat.eq_of_beq_eq_true hlen
        have hfit' := Nat.le_of_ble_eq_true hfit
        obtain ⟨blk, hb, rfl⟩ := ha
        obtain ⟨arr, ty, hw, hla⟩ := hr.ok id blk cells hb hc
        have hxl := cellsV_rel hl hx
        have hxs : x.cells.size = i.size := by have := hxl.1; simp at this; omega
        have hst := run_storeCells_at P blk off ty x.cells.toList 0 arr W hw (by have h1 := hla.1; have h2 := hxl.1; simp at h1 h2 ⊢; omega) hxl.oneCell
        refine ⟨W.setRow blk (arr.toList.take (off + 0) ++ x.cells.toList ++ arr.toList.drop (off + 0 + x.cells.toList.length)).toArray, ?_, ⟨E.stable _ _ (Gr.setRow hg (hown id blk hold' hb) _ hw) hi0, ?_, ?_⟩, Gr.setRow hg (hown id blk hold' hb) _ hw, by simp⟩
        · simp only [Instr.storeAt, Instr.sureAddr, storeVar, Sem.run_bind, Sem.run_pure, Result.andThen_ok, run_size hi, hxs, ne_eq, not_true_eq_false, if_false]
          exact hst
        · intro id' blk' hb'; rw [size_setRow]; exact hr.lt id' blk' hb'
        · intro id' blk' l' hb' hl'
          by_cases he : id' = id
          · subst he
            have : blk' = blk := by rw [hb] at hb'; cases hb'; rfl
            subst this
            refine ⟨_, ty, setRow_heap _ _ _ _ _ _ hw, ?_⟩
            have hid : id' < heap.length := (List.getElem?_eq_some_iff.1 hc).1
            rw [List.getElem?_set_self hid] at hl'
            cases hl'
            have hx2 := hxl.1
            simp only [Nat.add_zero, hx2]
            exact ((hla.take off).append hxl).append (hla.drop _)
          · have hne : blk' ≠ blk := fun e => he (by subst e; exact (hinj id id' blk' hold' hb hb').symm)
            rw [List.getElem?_set_ne (Ne.symm he)] at hl'
            rw [setRow_other _ _ _ _ hne]
            exact hr.ok id' blk' l' hb' hl'
      · cases h
    · cases h
  · cases h

theorem zeroA_sound {t : TypeId} {l : List SV} (h : zeroA P t = some l) : ∃ z, (zeroValue t).run P W = .ok z W ∧ LRel E β l z.cells.toList := by
  unfold zeroA at h
  split at h
  · rename_i i hi
    split at h
    · rename_i z hz
      refine ⟨z, ?_, cellsV_rel h (absV_rel z)⟩
      simp [zeroValue, typeInfo, hi, hz]
    · cases h
  · cases h

/-- A new block. -/
theorem newRow_sound {heap : List (List SV)} {l : List SV} {cells : Array Value} {ty : TypeId} (hr : HRel E β heap W) (hl : LRel E β l cells.toList) (hfresh : β heap.length = none) :
    HRel E (fun i => if i = heap.length then some W.heap.size else β i) (heap ++ [l]) (W.alloc (.cells cells ty)) ∧ Ext β (fun i => if i = heap.length then some W.heap.size else β i) := by
  have hext : Ext β (fun i => if i = heap.length then some W.heap.size else β i) := fun i b hb => by
    dsimp only
    rw [if_neg (by intro e; subst e; rw [hfresh] at hb; cases hb)]
    exact hb
  refine ⟨⟨E.stable _ _ ((Gr.refl W).alloc cells ty) hr.inv, fun id blk hb => ?_, fun id blk l' hb hl' => ?_⟩, hext⟩
  · split at hb
    · cases hb; simp
    · have := hr.lt id blk hb; simp; omega
  · split at hb
    · rename_i he
      cases hb
      subst he
      rw [List.getElem?_append_right (Nat.le_refl _)] at hl'
      simp at hl'
      subst hl'
      exact ⟨cells, ty, by show (W.heap.push _)[W.heap.size]? = _; simp, hl.mono hext⟩
    · rename_i he
      have hlt := hr.lt id blk hb
      have hl2 : heap[id]? = some l' := by
        by_cases hid : id < heap.length
        · rwa [List.getElem?_append_left hid] at hl'
        · rw [List.getElem?_append_right (by omega)] at hl'
          have : id - heap.length ≠ 0 := by omega
          simp [this] at hl'
      obtain ⟨c, t, h1, h2⟩ := hr.ok id blk l' hb hl2
      refine ⟨c, t, ?_, h2.mono hext⟩
      simp only [World.alloc, Array.getElem?_push]
      rw [if_neg (by omega)]; exact h1

theorem fold_set (n : Nat) : ∀ (l : List (Value × Nat)) (cs : Array Value), (l.foldl (fun cs (x : Value × Nat) => cs.setIfInBounds (n + x.2) x.1) cs).size = cs.size
  | [], cs => rfl
  | x :: l, cs => by simp [fold_set n l]

theorem zip_fold (n : Nat) : ∀ (l : List Value) (k : Nat) (cs : Array Value), n + k + l.length ≤ cs.size →
    ((l.zipIdx k).foldl (fun cs (x : Value × Nat) => cs.setIfInBounds (n + x.2) x.1) cs).toList = cs.toList.take (n + k) ++ l ++ cs.toList.drop (n + k + l.length)
  | [], k, cs, _ => by simp
  | v :: l, k, cs, h => by
    simp only [List.length_cons] at h
    simp only [List.zipIdx_cons, List.foldl_cons]
    rw [zip_fold n l (k + 1) _ (by simp; omega)]
    have e := list_seg_step cs.toList (n + k) v l (by simp; omega)
    simpa [Array.toList_setIfInBounds, Nat.add_assoc] using e

theorem fillA_sound {size : Nat} : ∀ {parts : List (Nat × V)} {vals : List (Nat × Value)} {cells l : List SV} {arr : Array Value},
    fillA size cells parts = some l → LRel E β cells arr.toList → parts.length = vals.length → (∀ (i : Nat) (p : Nat × V) (q : Nat × Value), parts[i]? = some p → vals[i]? = some q → p.1 = q.1 ∧ VRel E β p.2 q.2) →
    ∃ arr', Instr.fill (fun i => some (i * size, size)) arr vals = some arr' ∧ LRel E β l arr'.toList
  | [], vals, cells, l, arr, h, hl, hn, _ => by
    cases vals with
    | nil => simp only [fillA, Option.some.injEq] at h; subst h; exact ⟨arr, rfl, hl⟩
    | cons => simp at hn
  | (i, v) :: r, [], _, _, _, _, _, hn, _ => by simp at hn
  | (i, v) :: r, (j, x) :: s, cells, l, arr, h, hl, hn, hp => by
    have h0 := hp 0 (i, v) (j, x) rfl rfl
    obtain ⟨e, hvx⟩ := h0
    dsimp only at e hvx
    subst e
    simp only [fillA] at h
    split at h
    · rename_i lv hlv
      split at h
      · rename_i hc
        simp only [Bool.and_eq_true] at hc
        have hs := Nat.eq_of_beq_eq_true hc.1
        have hf := Nat.le_of_ble_eq_true hc.2
        have hxl := cellsV_rel hlv hvx
        have h1 := hxl.1
        have h2 := hl.1
        simp only [Array.length_toList] at h1 h2
        simp only [Instr.fill]
        have hcond : (decide (x.cells.size ≠ size) || decide (i * size + x.cells.size > arr.size)) = false := by
          rw [Bool.or_eq_false_iff, decide_eq_false_iff_not, decide_eq_false_iff_not]; omega
        simp only [hcond, Bool.false_eq_true, if_false]
        have hz : (x.cells.zipIdx.foldl (fun cs (c : Value × Nat) => cs.setIfInBounds (i * size + c.2) c.1) arr).toList = arr.toList.take (i * size) ++ x.cells.toList ++ arr.toList.drop (i * size + x.cells.toList.length) := by
          have := zip_fold (i * size) x.cells.toList 0 arr (by simp; omega)
          rw [← Array.foldl_toList, Array.toList_zipIdx]
          simpa using this
        refine fillA_sound h ?_ (by simpa using hn) (fun k p q hp1 hq1 => hp (k + 1) p q (by simpa using hp1) (by simpa using hq1))
        have hz' := hz
        rw [show (fun (cs : Array Value) (c : Value × Nat) => cs.setIfInBounds (i * size + c.2) c.1) = (fun cs x => match x with | (c, j) => cs.setIfInBounds (i * size + j) c) from rfl] at hz'
        rw [hz', show x.cells.toList.length = lv.length by simp; omega]
        exact ((hl.take _).append hxl).append (hl.drop _)
      · cases h
    · cases h

theorem buildA_sound {t : TypeId} {parts : List (Nat × V)} {vals : List (Nat × Value)} {sv : V} (h : buildA P t parts = some sv) (hn : parts.length = vals.length)
    (hp : ∀ (i : Nat) (p : Nat × V) (q : Nat × Value), parts[i]? = some p → vals[i]? = some q → p.1 = q.1 ∧ VRel E β p.2 q.2) :
    ∃ y, (Instr.build t vals.toArray).run P W = .ok y W ∧ VRel E β sv y := by
  unfold buildA at h
  split at h
  · rename_i n elem z hu hz
    split at h
    · rename_i i hi
      cases hf : fillA i.size z parts with
      | none => rw [hf] at h; cases h
      | some l =>
        rw [hf] at h; cases h
        obtain ⟨zv, hz1, hz2⟩ := zeroA_sound (W := W) (E := E) (β := β) hz
        obtain ⟨arr', h1, h2⟩ := fillA_sound hf hz2 hn hp
        refine ⟨.agg arr', ?_, ⟨arr', rfl, h2⟩⟩
        simp [Instr.build, hz1, run_underlying hu, run_size hi, h1]
    · cases h
  · cases h

theorem indexA_sound {t : TypeId} {vx vi sv : V} {x i : Value} (h : indexA P t vx vi = some sv) (hx : VRel E β vx x) (hi : VRel E β vi i) :
    ∃ y, (Instr.index t x i).run P W = .ok y W ∧ VRel E β sv y := by
  unfold indexA at h
  split at h
  · rename_i cells k n
    obtain ⟨arr, rfl, hl⟩ := hx
    obtain rfl : i = .int k n := hi
    split at h
    · rename_i len elem hu
      split at h
      · rename_i e d he hue
        split at h
        · rename_i hc
          have hc' : 0 ≤ n ∧ n < (len : Int) := by simpa using hc
          split at h
          · rename_i hagg
            split at h
            · rename_i hle
              have hle' := Nat.le_of_ble_eq_true hle
              cases h
              refine ⟨.agg (arr.extract (n.toNat * e.size) (n.toNat * e.size + e.size)), ?_, ⟨_, rfl, ?_⟩⟩
              · simp [Instr.index, asIntOf, run_underlying hu, hc', run_size he, part, run_isAgg hue, hagg]
              · have e1 : (arr.extract (n.toNat * e.size) (n.toNat * e.size + e.size)).toList = (arr.toList.drop (n.toNat * e.size)).take e.size := by
                  simp [Array.toList_extract]
                rw [e1]
                exact (hl.drop _).take _
            · cases h
          · rename_i hagg
            have hagg' : isAggT P elem = false := by simpa using hagg
            cases hcell : cells[n.toNat * e.size]? with
            | none => rw [hcell] at h; cases h
            | some s =>
              rw [hcell] at h
              cases h
              have hlt : n.toNat * e.size < arr.toList.length := by
                have := (List.getElem?_eq_some_iff.1 hcell).1
                rw [← hl.1]; exact this
              have hget : arr[n.toNat * e.size]? = some arr.toList[n.toNat * e.size] := by
                rw [← Array.getElem?_toList]; exact List.getElem?_eq_getElem hlt
              refine ⟨arr.toList[n.toNat * e.size], ?_, hl.2 _ s _ hcell (List.getElem?_eq_getElem hlt)⟩
              simp only [Instr.index, asIntOf, Sem.run_bind, Sem.run_pure, Result.andThen_ok, run_underlying hu, run_size he, part, run_isAgg hue, hagg', if_pos hc', hget, Bool.false_eq_true, if_false]
        · cases h
      · cases h
    · cases h
  · cases h

theorem indexAddrA_sound {t : TypeId} {vx vi sv : V} {x i : Value} (h : indexAddrA P t vx vi = some sv) (hx : VRel E β vx x) (hi : VRel E β vi i) :
    ∃ y, (Instr.indexAt t x i).run P W = .ok y W ∧ VRel E β sv y := by
  unfold indexAddrA at h
  split at h
  · rename_i id off k n
    obtain ⟨blk, hb, rfl⟩ := hx
    obtain rfl : i = .int k n := hi
    split at h
    · rename_i len elem hu
      split at h
      · rename_i e he
        split at h
        · rename_i hc
          have hc' : 0 ≤ n ∧ n < (len : Int) := by simpa using hc
          cases h
          refine ⟨_, ?_, ⟨blk, hb, rfl⟩⟩
          simp [Instr.indexAt, asIntOf, run_underlying hu, Instr.sureAddr, hc', run_size he, addr_add]
        · cases h
      · cases h
    · cases h
  · rename_i id off len cap k n
    obtain ⟨blk, hb, rfl⟩ := hx
    obtain rfl : i = .int k n := hi
    split at h
    · rename_i elem hu
      split at h
      · rename_i e he
        split at h
        · rename_i hc
          have hc' : 0 ≤ n ∧ n < (len : Int) := by simpa using hc
          cases h
          refine ⟨_, ?_, ⟨blk, hb, rfl⟩⟩
          simp [Instr.indexAt, asIntOf, run_underlying hu, hc', run_size he, addr_add]
        · cases h
      · cases h
    · cases h
  · cases h

theorem sliceA_sound {t : TypeId} {vx sv : V} {x : Value} (h : sliceA P t vx = some sv) (hx : VRel E β vx x) :
    ∃ y, (Instr.sliceAt t x none none none).run P W = .ok y W ∧ VRel E β sv y := by
  unfold sliceA at h
  split at h
  · rename_i id off
    obtain ⟨blk, hb, rfl⟩ := hx
    split at h
    · rename_i n elem hu
      split at h
      · rename_i e he
        cases h
        refine ⟨_, ?_, ⟨blk, hb, rfl⟩⟩
        by_cases hn : n = 0
        · simp [Instr.sliceAt, run_underlying hu, Instr.sureAddr, Instr.sliceBounds, run_size he, hn]
        · simp [Instr.sliceAt, run_underlying hu, Instr.sureAddr, Instr.sliceBounds, run_size he, addr_add]
      · cases h
    · cases h
  · cases h

theorem unA_sound {op : UnOp} {vx sv : V} {x : Value} (h : unA op vx = some sv) (hx : VRel E β vx x) :
    ∃ y, (Op.unary op x).run P W = .ok y W ∧ VRel E β sv y := by
  unfold unA at h
  split at h
  · obtain rfl : x = _ := hx
    split at h
    · cases h; exact ⟨_, rfl, rfl⟩
    · cases h
  · obtain ⟨b, rfl, hb⟩ := hx
    split at h
    · cases h; exact ⟨_, rfl, ⟨_, rfl, by rw [canon_negFloat, hb]; rfl⟩⟩
    · cases h
  · obtain rfl : x = _ := hx
    split at h
    · cases h; exact ⟨_, rfl, rfl⟩
    · cases h
  · cases h

theorem intOp_sound {op : BinOp} {t : TypeId} {k : IntKind} {a b : Int} {s : SV} (h : intOp op k a b = some s) :
    ∃ y, (binOp op t (.int k a) (.int k b)).run P W = .ok y W ∧ SRel E β s y := by
  cases op <;> simp only [intOp, reduceCtorEq] at h
  case quo => split at h; cases h; rename_i hb; cases h; exact ⟨_, by simp [binOp, Op.intDiv, show ¬ b = 0 by simpa using hb], rfl⟩
  case rem => split at h; cases h; rename_i hb; cases h; exact ⟨_, by simp [binOp, Op.intDiv, show ¬ b = 0 by simpa using hb], rfl⟩
  all_goals (cases h; exact ⟨_, by simp [binOp, Op.intArith, Op.intCmp], rfl⟩)

theorem eqGuard_plain {op : BinOp} {t : TypeId} {x y : Operand} {a b : Value} (ha : a.oneCell' = true) (hi : a ≠ .nilIface) : (eqGuard op t x y a b).run P W = .ok () W := by
  unfold eqGuard
  cases op <;> first
    | rfl
    | (cases a <;> first | rfl | (simp [Value.oneCell'] at ha; done) | (exact absurd rfl hi))

/-! ### Arrays of floats compared -/
def floatsEq : List Value → List Value → Bool
  | .float .f32 a :: l, .float .f32 b :: r => Op.floatEq .f32 a b && floatsEq l r
  | _, _ => true
def allF32 (l : List Value) : Prop := ∀ v ∈ l, ∃ b, v = .float .f32 b

theorem eqRow_sound {K : Bool → Facts → Bool} : ∀ {l r : List SV} {fs : Facts}, eqRow l r fs K = true → FactsOK E fs →
    ∃ b fs', K b fs' = true ∧ FactsOK E fs' ∧ ∀ (β : Beta) (xs ys : List Value), LRel E β l xs → LRel E β r ys → allF32 xs → allF32 ys → floatsEq xs ys = b
  | [], [], fs, h, hf => ⟨true, fs, h, hf, fun β xs ys hx hy _ _ => by
      have e1 : xs = [] := by have := hx.1; simpa using this.symm
      subst e1; rfl⟩
  | s :: l, [], fs, h, hf => by cases s <;> first | (cases h; done) | (rename_i k a; cases k <;> cases h)
  | [], s :: r, fs, h, hf => by cases h
  | s :: l, s' :: r, fs, h, hf => by
    cases s with
    | flt k a =>
      cases k with
      | f64 => cases h
      | f32 =>
        cases s' with
        | flt k' b =>
          cases k' with
          | f64 => cases h
          | f32 =>
            obtain ⟨fs1, h1, hf1⟩ := ask_sound (show ask (.cmp 0 .f32 a b) fs _ = true from h) hf
            have hcell : ∀ (β : Beta) (xs ys : List Value), LRel E β (.flt .f32 a :: l) xs → LRel E β (.flt .f32 b :: r) ys → ∃ x y xs' ys', xs = .float .f32 x :: xs' ∧ ys = .float .f32 y :: ys' ∧ LRel E β l xs' ∧ LRel E β r ys' ∧ Op.floatEq .f32 x y = holds E (.cmp 0 .f32 a b) := by
              intro β xs ys hx hy
              obtain ⟨vx, hx1, ux, rfl, hux⟩ := hx.get (i := 0) rfl
              obtain ⟨vy, hy1, uy, rfl, huy⟩ := hy.get (i := 0) rfl
              cases xs with
              | nil => cases hx1
              | cons x xs =>
                cases ys with
                | nil => cases hy1
                | cons y ys =>
                  simp at hx1 hy1
                  subst hx1; subst hy1
                  refine ⟨ux, uy, xs, ys, rfl, rfl, ⟨by have := hx.1; simpa using this, fun i s v h1 h2 => hx.2 (i + 1) s v (by simpa using h1) (by simpa using h2)⟩, ⟨by have := hy.1; simpa using this, fun i s v h1 h2 => hy.2 (i + 1) s v (by simpa using h1) (by simpa using h2)⟩, ?_⟩
                  show (FloatKind.f32.format.order ux uy == some .eq) = (cord .f32 (den E a) (den E b) == some .eq)
                  rw [← hux, ← huy, cord_canon]
            cases hh : holds E (.cmp 0 .f32 a b) with
            | true =>
              rw [hh] at h1
              obtain ⟨bb, fs2, g1, g2, g3⟩ := eqRow_sound (l := l) (r := r) h1 hf1
              refine ⟨bb, fs2, g1, g2, fun β xs ys hx hy ax ay => ?_⟩
              obtain ⟨x, y, xs', ys', rfl, rfl, hx', hy', he⟩ := hcell β xs ys hx hy
              simp only [floatsEq, he, hh, Bool.true_and]
              exact g3 β xs' ys' hx' hy' (fun v hv => ax v (List.mem_cons_of_mem _ hv)) (fun v hv => ay v (List.mem_cons_of_mem _ hv))
            | false =>
              rw [hh] at h1
              refine ⟨false, fs1, h1, hf1, fun β xs ys hx hy _ _ => ?_⟩
              obtain ⟨x, y, xs', ys', rfl, rfl, _, _, he⟩ := hcell β xs ys hx hy
              simp only [floatsEq, he, hh, Bool.false_and]
        | _ => cases h
    | _ => cases h

theorem all_f32 {β : Beta} {l : List SV} {xs : List Value} (hx : LRel E β l xs) (ha : l.all isF32 = true) : allF32 xs := by
  intro v hv
  obtain ⟨i, hi, rfl⟩ := List.mem_iff_getElem.1 hv
  have hl : i < l.length := by rw [hx.1]; exact hi
  have h1 := hx.2 i _ _ (List.getElem?_eq_getElem hl) (List.getElem?_eq_getElem hi)
  have h2 := List.all_eq_true.1 ha l[i] (List.getElem_mem hl)
  unfold isF32 at h2
  split at h2
  · rename_i t heq; rw [heq] at h1; obtain ⟨b, e, _⟩ := h1; exact ⟨b, e⟩
  · cases h2

theorem run_part_f {e : TypeId} (he : P.underlying e = some (.float .f32)) {xs : Array Value} {o : Nat} {v : Value} (h : xs[o]? = some v) : (part e xs o).run P W = .ok v W := by
  simp [part, run_isAgg he, isAggT, he, h]
theorem run_part_a {e f : TypeId} {n : Nat} {i : TypeInfo} (he : P.underlying e = some (.array n f)) (hi : P.info? e = some i) {xs : Array Value} {o : Nat} : (part e xs o).run P W = .ok (.agg (xs.extract o (o + i.size))) W := by
  simp [part, run_isAgg he, isAggT, he, run_size hi]
theorem run_eq_f {e : TypeId} (he : P.underlying e = some (.float .f32)) (d a b : Nat) : (Op.equalIn (d + 1) e (.float .f32 a) (.float .f32 b)).run P W = .ok (Op.floatEq .f32 a b) W := by
  simp only [Op.equalIn, Sem.run_bind, run_underlying he, Result.andThen_ok]
  rfl

theorem run_eq3 {t e : TypeId} {i : TypeInfo} (ht : P.underlying t = some (.array 3 e)) (hi : P.info? e = some i) (d : Nat) (xs ys : Array Value) (p0 p1 p2 q0 q1 q2 : Value) (c0 c1 c2 : Bool)
    (h0 : (part e xs 0).run P W = .ok p0 W) (h1 : (part e xs i.size).run P W = .ok p1 W) (h2 : (part e xs (2 * i.size)).run P W = .ok p2 W)
    (k0 : (part e ys 0).run P W = .ok q0 W) (k1 : (part e ys i.size).run P W = .ok q1 W) (k2 : (part e ys (2 * i.size)).run P W = .ok q2 W)
    (e0 : (Op.equalIn d e p0 q0).run P W = .ok c0 W) (e1 : (Op.equalIn d e p1 q1).run P W = .ok c1 W) (e2 : (Op.equalIn d e p2 q2).run P W = .ok c2 W) :
    (Op.equalIn (d + 1) t (.agg xs) (.agg ys)).run P W = .ok (c0 && c1 && c2) W := by
  simp only [Op.equalIn, Sem.run_bind, run_underlying ht, Result.andThen_ok]
  simp [Std.Legacy.Range.forIn_eq_forIn_range', List.range', run_size hi, h0, h1, h2, k0, k1, k2, e0, e1, e2]
  cases c0 <;> cases c1 <;> cases c2 <;> simp

theorem eqGuard_agg {op : BinOp} {t : TypeId} {x y : Operand} {xs ys : Array Value} (h : P.eqGuardType P.depth t = false) : (eqGuard op t x y (.agg xs) (.agg ys)).run P W = .ok () W := by
  unfold eqGuard
  cases op <;> simp [h]

theorem three_f32 {l : List Value} (h : allF32 l) (hl : l.length = 3) : ∃ a b c, l = [.float .f32 a, .float .f32 b, .float .f32 c] := by
  match l, hl with
  | [x, y, z], _ =>
    obtain ⟨a, rfl⟩ := h x (by simp)
    obtain ⟨b, rfl⟩ := h y (by simp)
    obtain ⟨c, rfl⟩ := h z (by simp)
    exact ⟨a, b, c, rfl⟩

theorem run_equal_arr {t : TypeId} {n : Nat} (h : arr3OK P t n = true) {xs ys : Array Value} (hx : xs.toList.length = n) (hy : ys.toList.length = n) (ax : allF32 xs.toList) (ay : allF32 ys.toList) :
    (Op.equal t (.agg xs) (.agg ys)).run P W = .ok (floatsEq xs.toList ys.toList) W := by
  unfold arr3OK at h
  simp only [Bool.and_eq_true] at h
  obtain ⟨_, h⟩ := h
  show (Op.equalIn (9999 + 1) t (.agg xs) (.agg ys)).run P W = _
  split at h
  · rename_i e ht
    split at h
    · rename_i i he hi
      simp only [Bool.and_eq_true] at h
      have hn := Nat.eq_of_beq_eq_true h.1
      have hsz := Nat.eq_of_beq_eq_true h.2
      subst hn
      obtain ⟨l⟩ := xs
      obtain ⟨r⟩ := ys
      obtain ⟨a0, a1, a2, rfl⟩ := three_f32 ax hx
      obtain ⟨b0, b1, b2, rfl⟩ := three_f32 ay hy
      rw [run_eq3 ht hi 9999 _ _ _ _ _ _ _ _ _ _ _ (run_part_f he rfl) (by rw [hsz]; exact run_part_f he rfl) (by rw [hsz]; exact run_part_f he rfl) (run_part_f he rfl) (by rw [hsz]; exact run_part_f he rfl) (by rw [hsz]; exact run_part_f he rfl)
        (run_eq_f he 9998 a0 b0) (run_eq_f he 9998 a1 b1) (run_eq_f he 9998 a2 b2)]
      simp [floatsEq, Bool.and_assoc]
    · rename_i f i he hi
      split at h
      · rename_i j hf hj
        simp only [Bool.and_eq_true] at h
        have hn := Nat.eq_of_beq_eq_true h.1.1
        have hsz := Nat.eq_of_beq_eq_true h.1.2
        have hsj := Nat.eq_of_beq_eq_true h.2
        subst hn
        obtain ⟨l⟩ := xs
        obtain ⟨r⟩ := ys
        have hl : ∃ a0 a1 a2 a3 a4 a5 a6 a7 a8, l = [.float .f32 a0, .float .f32 a1, .float .f32 a2, .float .f32 a3, .float .f32 a4, .float .f32 a5, .float .f32 a6, .float .f32 a7, .float .f32 a8] := by
          match l, hx, ax with
          | [x0, x1, x2, x3, x4, x5, x6, x7, x8], _, ax =>
            obtain ⟨a0, rfl⟩ := ax x0 (by simp)
            obtain ⟨a1, rfl⟩ := ax x1 (by simp)
            obtain ⟨a2, rfl⟩ := ax x2 (by simp)
            obtain ⟨a3, rfl⟩ := ax x3 (by simp)
            obtain ⟨a4, rfl⟩ := ax x4 (by simp)
            obtain ⟨a5, rfl⟩ := ax x5 (by simp)
            obtain ⟨a6, rfl⟩ := ax x6 (by simp)
            obtain ⟨a7, rfl⟩ := ax x7 (by simp)
            obtain ⟨a8, rfl⟩ := ax x8 (by simp)
            exact ⟨_, _, _, _, _, _, _, _, _, rfl⟩
        have hr : ∃ a0 a1 a2 a3 a4 a5 a6 a7 a8, r = [.float .f32 a0, .float .f32 a1, .float .f32 a2, .float .f32 a3, .float .f32 a4, .float .f32 a5, .float .f32 a6, .float .f32 a7, .float .f32 a8] := by
          match r, hy, ay with
          | [x0, x1, x2, x3, x4, x5, x6, x7, x8], _, ax =>
            obtain ⟨a0, rfl⟩ := ax x0 (by simp)
            obtain ⟨a1, rfl⟩ := ax x1 (by simp)
            obtain ⟨a2, rfl⟩ := ax x2 (by simp)
            obtain ⟨a3, rfl⟩ := ax x3 (by simp)
            obtain ⟨a4, rfl⟩ := ax x4 (by simp)
            obtain ⟨a5, rfl⟩ := ax x5 (by simp)
            obtain ⟨a6, rfl⟩ := ax x6 (by simp)
            obtain ⟨a7, rfl⟩ := ax x7 (by simp)
            obtain ⟨a8, rfl⟩ := ax x8 (by simp)
            exact ⟨_, _, _, _, _, _, _, _, _, rfl⟩
        obtain ⟨a0, a1, a2, a3, a4, a5, a6, a7, a8, rfl⟩ := hl
        obtain ⟨b0, b1, b2, b3, b4, b5, b6, b7, b8, rfl⟩ := hr
        have row : ∀ x0 x1 x2 y0 y1 y2 : Nat, (Op.equalIn (9998 + 1) e (.agg #[.float .f32 x0, .float .f32 x1, .float .f32 x2]) (.agg #[.float .f32 y0, .float .f32 y1, .float .f32 y2])).run P W = .ok (Op.floatEq .f32 x0 y0 && Op.floatEq .f32 x1 y1 && Op.floatEq .f32 x2 y2) W := fun x0 x1 x2 y0 y1 y2 =>
          run_eq3 he hj 9998 _ _ _ _ _ _ _ _ _ _ _ (run_part_f hf rfl) (by rw [hsj]; exact run_part_f hf rfl) (by rw [hsj]; exact run_part_f hf rfl) (run_part_f hf rfl) (by rw [hsj]; exact run_part_f hf rfl) (by rw [hsj]; exact run_part_f hf rfl)
            (run_eq_f hf 9997 x0 y0) (run_eq_f hf 9997 x1 y1) (run_eq_f hf 9997 x2 y2)
        rw [run_eq3 ht hi 9999 _ _ _ _ _ _ _ _ _ _ _ (run_part_a he hi) (run_part_a he hi) (run_part_a he hi) (run_part_a he hi) (run_part_a he hi) (run_part_a he hi)
          (by rw [hsz]; exact row a0 a1 a2 b0 b1 b2) (by rw [hsz]; exact row a3 a4 a5 b3 b4 b5) (by rw [hsz]; exact row a6 a7 a8 b6 b7 b8)]
        simp [floatsEq, Bool.and_assoc]
      · cases h
    · cases h
  · cases h

end
end Go.Sx

/-   Each operation on symbols is the model's operation: floats, comparisons, calls; the whole table. Conditions: none. -/
namespace Go.Sx
open Go.RowKit

section
variable {E : Env} {P : Program} {W : World}

theorem read_word_notInf (f : Ieee.Format) (neg : Bool) (rung : Nat) (h : rung < f.infRung) : (f.read (f.word neg rung)).isInfinity = false := by
  have hlt : rung < f.signWeight := Nat.lt_trans h f.infRung_lt
  unfold Ieee.Format.read
  simp only [read_word_rung f neg rung hlt]
  by_cases hb : rung < f.binade
  · rw [if_pos hb]; rfl
  · rw [if_neg hb]
    split
    · rfl
    · exact absurd h (by assumption)

theorem decode32_small {b : Nat} {s : Bool} {m : Nat} {e : Int} (h : FloatKind.f32.decode b = .number s m e) : e + m.log2 < 1023 := by
  have h' : Ieee.single.read b = .number s m e := h
  have s1 : Ieee.single.signWeight = 2147483648 := by decide
  have s2 : Ieee.single.binade = 8388608 := by decide
  have s3 : Ieee.single.infRung = 2139095040 := by decide
  have s4 : Ieee.single.leastPlace = -149 := by decide
  unfold Ieee.Format.read at h'
  simp only [s1, s2, s3, s4] at h'
  obtain ⟨r, hr0⟩ : ∃ r, b % 2147483648 = r := ⟨_, rfl⟩
  rw [hr0] at h'
  have hl : ∀ n : Nat, n < 2 ^ 25 → n.log2 < 25 := fun n hn => by
    by_cases h0 : n = 0
    · subst h0; decide
    · exact (Nat.log2_lt h0).2 hn
  split at h'
  · rename_i hr
    simp only [Ieee.Datum.number.injEq] at h'
    obtain ⟨_, rfl, rfl⟩ := h'
    have := hl r (by omega)
    omega
  · split at h'
    · rename_i h1 hr
      simp only [Ieee.Datum.number.injEq] at h'
      obtain ⟨_, rfl, rfl⟩ := h'
      have h2 : r % 8388608 < 8388608 := Nat.mod_lt _ (by decide)
      have := hl (8388608 + r % 8388608) (by omega)
      have h3 : r / 8388608 ≤ 255 := by omega
      omega
    · split at h' <;> cases h'

theorem wide_notInf {b : Nat} {s : Bool} {m : Nat} {e : Int} (h : FloatKind.f32.decode b = .number s m e) :
    (FloatKind.f64.decode (FloatKind.f64.encode (.number s m e))).isInfinity = false := by
  obtain ⟨rung, h1, h2⟩ := nearest_fin Ieee.double s m e (by decide) (by have := decode32_small h; show e + _ < (2 : Int) ^ 10 - 1; omega)
  show (Ieee.double.read (Ieee.double.nearest s m e)).isInfinity = false
  rw [h2]; exact read_word_notInf _ _ _ h1

theorem run_wide (b : Nat) (W : World) : ∃ r n, (Conv.floatToFloat .f32 b .f64).run P W = .ok (.float .f64 r) (W.drewN n) ∧ canon .f64 r = cwide (canon .f32 b) := by
  unfold Conv.floatToFloat
  rw [if_neg (by decide)]
  cases hd : FloatKind.f32.decode b with
  | nan s t =>
    refine ⟨(Question.nanConv .f64 b).cut (W.tape W.drawn (.nanConv .f64 b)), 1, ?_, ?_⟩
    · simp [Question.forced, World.drewN]
    · rw [cut_nanConv, canon_nan (show (FloatKind.f32.format.read b).isNaN = true by show (FloatKind.f32.decode b).isNaN = true; rw [hd]; rfl)]; rfl
  | infinity s =>
    refine ⟨_, 0, rfl, ?_⟩
    have hw : (FloatKind.f64.format.read (FloatKind.f64.encode (.infinity s))).isNaN = false := write_notNaN Ieee.double (.infinity s) rfl
    rw [canon_num (show (FloatKind.f32.format.read b).isNaN = false by show (FloatKind.f32.decode b).isNaN = false; rw [hd]; rfl)]
    rw [canon_num hw]
    simp [cwide, floatToFloatBits, hd]
  | number s m e =>
    have hinf := wide_notInf hd
    refine ⟨FloatKind.f64.encode (.number s m e), 0, ?_, ?_⟩
    · simp [hinf, World.drewN_zero]
    · rw [canon_num (show (FloatKind.f32.format.read b).isNaN = false by show (FloatKind.f32.decode b).isNaN = false; rw [hd]; rfl)]
      have hw : (FloatKind.f64.format.read (FloatKind.f64.encode (.number s m e))).isNaN = false := write_notNaN Ieee.double (.number s m e) rfl
      rw [canon_num hw]
      simp [cwide, floatToFloatBits, hd, hinf]

theorem run_narrow (b : Nat) (W : World) (hf : fitsC (canon .f64 b) = true) : ∃ r n, (Conv.floatToFloat .f64 b .f32).run P W = .ok (.float .f32 r) (W.drewN n) ∧ canon .f32 r = cnarrow (canon .f64 b) := by
  unfold Conv.floatToFloat
  rw [if_neg (by decide)]
  cases hd : FloatKind.f64.decode b with
  | nan s t =>
    refine ⟨(Question.nanConv .f32 b).cut (W.tape W.drawn (.nanConv .f32 b)), 1, ?_, ?_⟩
    · simp [Question.forced, World.drewN]
    · rw [cut_nanConv, canon_nan (show (FloatKind.f64.format.read b).isNaN = true by show (FloatKind.f64.decode b).isNaN = true; rw [hd]; rfl)]; rfl
  | infinity s =>
    refine ⟨_, 0, rfl, ?_⟩
    have hw : (FloatKind.f32.format.read (FloatKind.f32.encode (.infinity s))).isNaN = false := write_notNaN Ieee.single (.infinity s) rfl
    rw [canon_num (show (FloatKind.f64.format.read b).isNaN = false by show (FloatKind.f64.decode b).isNaN = false; rw [hd]; rfl)]
    rw [canon_num hw]
    simp [cnarrow, floatToFloatBits, hd]
  | number s m e =>
    have hc : canon .f64 b = some b := canon_num (show (FloatKind.f64.format.read b).isNaN = false by show (FloatKind.f64.decode b).isNaN = false; rw [hd]; rfl)
    have hinf : (FloatKind.f32.decode (FloatKind.f32.encode (.number s m e))).isInfinity = false := by
      rw [hc] at hf
      simpa [fitsC, hd] using hf
    refine ⟨FloatKind.f32.encode (.number s m e), 0, ?_, ?_⟩
    · simp [hinf, World.drewN_zero]
    · have hw : (FloatKind.f32.format.read (FloatKind.f32.encode (.number s m e))).isNaN = false := write_notNaN Ieee.single (.number s m e) rfl
      rw [hc, canon_num hw]
      simp [cnarrow, floatToFloatBits, hd, hinf]

theorem run_convert_ff {src dst : TypeId} {u : TypeDesc} {k s : FloatKind} {b : Nat} (hs : P.underlying src = some u) (hd : P.underlying dst = some (.float k)) (W : World) :
    (convert src dst (.float s b)).run P W = (Conv.floatToFloat s b k).run P W := by
  simp only [convert, Sem.run_bind, run_underlying hs, run_underlying hd, Result.andThen_ok]
theorem run_convert_if {src dst : TypeId} {u : TypeDesc} {k : FloatKind} {s : IntKind} {n : Int} (hs : P.underlying src = some u) (hd : P.underlying dst = some (.float k)) (W : World) :
    (convert src dst (.int s n)).run P W = .ok (.float k (k.nearest n)) W := by
  simp only [convert, Sem.run_bind, run_underlying hs, run_underlying hd, Result.andThen_ok]
  cases u <;> rfl
theorem run_convert_ii {src dst : TypeId} {u : TypeDesc} {k : IntKind} {s : IntKind} {n : Int} (hs : P.underlying src = some u) (hd : P.underlying dst = some (.int k)) (W : World) :
    (convert src dst (.int s n)).run P W = .ok (.int k (k.wrap n)) W := by
  simp only [convert, Sem.run_bind, run_underlying hs, run_underlying hd, Result.andThen_ok]
  cases u <;> rfl

theorem convertA_sound {β : Beta} {src dst : TypeId} {vx sv : V} {x : Value} {fs : Facts} (h : convertA P src dst vx fs = some sv) (hf : FactsOK E fs) (hx : VRel E β vx x) :
    ∃ v n, (convert src dst x).run P W = .ok v (W.drewN n) ∧ VRel E β sv v := by
  unfold convertA at h
  split at h
  · rename_i u k k' n hs hd
    cases h
    obtain rfl : x = _ := hx
    exact ⟨_, 0, run_convert_ii hs hd W, rfl⟩
  · rename_i u k k' n hs hd
    cases h
    obtain rfl : x = _ := hx
    exact ⟨_, 0, run_convert_if hs hd W, ⟨_, rfl, rfl⟩⟩
  · rename_i u t hs hd
    cases h
    obtain ⟨b, rfl, hb⟩ := hx
    exact ⟨_, 0, run_convert_ff hs hd W, ⟨_, rfl, hb⟩⟩
  · rename_i u t hs hd
    cases h
    obtain ⟨b, rfl, hb⟩ := hx
    exact ⟨_, 0, run_convert_ff hs hd W, ⟨_, rfl, hb⟩⟩
  · rename_i u t hs hd
    cases h
    obtain ⟨b, rfl, hb⟩ := hx
    obtain ⟨r, n, h1, h2⟩ := run_wide (P := P) b W
    exact ⟨.float .f64 r, n, (run_convert_ff hs hd W).trans h1, ⟨r, rfl, by rw [h2, hb]; rfl⟩⟩
  · rename_i u t hs hd
    split at h
    · rename_i hl
      cases h
      obtain ⟨b, rfl, hb⟩ := hx
      have hh := look_sound hl hf
      obtain ⟨r, n, h1, h2⟩ := run_narrow (P := P) b W (by rw [hb]; exact hh)
      exact ⟨.float .f32 r, n, (run_convert_ff hs hd W).trans h1, ⟨r, rfl, by rw [h2, hb]; rfl⟩⟩
    · split at h
      · split at h
        · rename_i hh
          cases h
          obtain ⟨b, rfl, hb⟩ := hx
          obtain ⟨r, n, h1, h2⟩ := run_narrow (P := P) b W (by rw [hb]; exact hh)
          exact ⟨.float .f32 r, n, (run_convert_ff hs hd W).trans h1, ⟨r, rfl, by rw [h2, hb]; rfl⟩⟩
        · cases h
      · cases h
  · cases h

theorem opOf_arith {op : BinOp} {c : Nat} (h : arithCode op = some c) : c < 4 ∧ opOf c = op ∧ (op = .add ∨ op = .sub ∨ op = .mul ∨ op = .quo) := by
  cases op <;> simp only [arithCode, reduceCtorEq, Option.some.injEq] at h <;> subst h <;> simp [opOf]

theorem cmpOf_code {op : BinOp} {c : Nat} {turn : Bool} (h : cmpCode op = some (c, turn)) (k : FloatKind) (x y : CF) :
    ccmp op k x y = (ccmp (cmpOf c) k x y != turn) ∧ (op = .eql ∨ op = .neq ∨ op = .lss ∨ op = .leq ∨ op = .gtr ∨ op = .geq) := by
  cases op <;> simp only [cmpCode, reduceCtorEq, Option.some.injEq, Prod.mk.injEq] at h <;> obtain ⟨rfl, rfl⟩ := h <;> refine ⟨?_, by simp⟩ <;> simp only [cmpOf, ccmp, bne]
  · cases (cord k x y == some .eq) <;> rfl
  · cases (cord k x y == some .eq) <;> rfl
  · cases (cord k x y == some .lt) <;> rfl
  · cases (cord k x y == some .lt || cord k x y == some .eq) <;> rfl
  · cases (cord k x y == some .gt) <;> rfl
  · cases (cord k x y == some .gt || cord k x y == some .eq) <;> rfl

theorem run_bool_eq {t : TypeId} {a b : Bool} (hu : P.underlying t = some .bool) : (Op.equal t (.bool a) (.bool b)).run P W = .ok (a == b) W := by
  show (Op.equalIn (9999 + 1) t (.bool a) (.bool b)).run P W = _
  unfold Op.equalIn
  rw [Sem.run_bind, run_underlying hu W]
  rfl

theorem run_keep (k : FloatKind) (t : TypeId) (b : Nat) (W : World) : (binOp .and t (.int (uk k) b) (.int (uk k) (keepMask k))).run P W = .ok (.int (uk k) ((b % k.format.signWeight : Nat) : Int)) W := by
  cases k
  · show (pure (Value.int .u32 (IntKind.u32.wrap ((BitVec.ofInt 32 (b : Int) &&& BitVec.ofInt 32 ((2147483647 : Nat) : Int)).toNat : Int))) : Sem Value).run P W = .ok (.int .u32 ((b % 2147483648 : Nat) : Int)) W
    have h : (BitVec.ofInt 32 (b : Int) &&& BitVec.ofInt 32 ((2147483647 : Nat) : Int)).toNat = b % 2147483648 := by
      have h1 : (BitVec.ofInt 32 (b : Int)).toNat = b % 4294967296 := by rw [BitVec.ofInt_natCast, BitVec.toNat_ofNat]
      have h2 : (BitVec.ofInt 32 ((2147483647 : Nat) : Int)).toNat = 2 ^ 31 - 1 := by rfl
      rw [BitVec.toNat_and, h1, h2, Nat.and_two_pow_sub_one_eq_mod]
      omega
    rw [h]
    simp only [IntKind.wrap, IntKind.signed, IntKind.bits, Bool.false_and, Bool.false_eq_true, if_false, Sem.run_pure]
    congr 2
    omega
  · show (pure (Value.int .u64 (IntKind.u64.wrap ((BitVec.ofInt 64 (b : Int) &&& BitVec.ofInt 64 ((9223372036854775807 : Nat) : Int)).toNat : Int))) : Sem Value).run P W = .ok (.int .u64 ((b % 9223372036854775808 : Nat) : Int)) W
    have h : (BitVec.ofInt 64 (b : Int) &&& BitVec.ofInt 64 ((9223372036854775807 : Nat) : Int)).toNat = b % 9223372036854775808 := by
      have h1 : (BitVec.ofInt 64 (b : Int)).toNat = b % 18446744073709551616 := by rw [BitVec.ofInt_natCast, BitVec.toNat_ofNat]
      have h2 : (BitVec.ofInt 64 ((9223372036854775807 : Nat) : Int)).toNat = 2 ^ 63 - 1 := by rfl
      rw [BitVec.toNat_and, h1, h2, Nat.and_two_pow_sub_one_eq_mod]
      omega
    rw [h]
    simp only [IntKind.wrap, IntKind.signed, IntKind.bits, Bool.false_and, Bool.false_eq_true, if_false, Sem.run_pure]
    congr 2
    omega

theorem run_strike (k : FloatKind) (t : TypeId) (b : Nat) (W : World) : (binOp .andNot t (.int (uk k) b) (.int (uk k) (signMask k))).run P W = .ok (.int (uk k) ((b % k.format.signWeight : Nat) : Int)) W := by
  cases k
  · show (pure (Value.int .u32 (IntKind.u32.wrap ((BitVec.ofInt 32 (b : Int) &&& ~~~ BitVec.ofInt 32 ((2147483648 : Nat) : Int)).toNat : Int))) : Sem Value).run P W = .ok (.int .u32 ((b % 2147483648 : Nat) : Int)) W
    have h : (BitVec.ofInt 32 (b : Int) &&& ~~~ BitVec.ofInt 32 ((2147483648 : Nat) : Int)).toNat = b % 2147483648 := by
      have h1 : (BitVec.ofInt 32 (b : Int)).toNat = b % 4294967296 := by rw [BitVec.ofInt_natCast, BitVec.toNat_ofNat]
      have h2 : (~~~ BitVec.ofInt 32 ((2147483648 : Nat) : Int)).toNat = 2 ^ 31 - 1 := by rfl
      rw [BitVec.toNat_and, h1, h2, Nat.and_two_pow_sub_one_eq_mod]
      omega
    rw [h]
    simp only [IntKind.wrap, IntKind.signed, IntKind.bits, Bool.false_and, Bool.false_eq_true, if_false, Sem.run_pure]
    congr 2
    omega
  · show (pure (Value.int .u64 (IntKind.u64.wrap ((BitVec.ofInt 64 (b : Int) &&& ~~~ BitVec.ofInt 64 ((9223372036854775808 : Nat) : Int)).toNat : Int))) : Sem Value).run P W = .ok (.int .u64 ((b % 9223372036854775808 : Nat) : Int)) W
    have h : (BitVec.ofInt 64 (b : Int) &&& ~~~ BitVec.ofInt 64 ((9223372036854775808 : Nat) : Int)).toNat = b % 9223372036854775808 := by
      have h1 : (BitVec.ofInt 64 (b : Int)).toNat = b % 18446744073709551616 := by rw [BitVec.ofInt_natCast, BitVec.toNat_ofNat]
      have h2 : (~~~ BitVec.ofInt 64 ((9223372036854775808 : Nat) : Int)).toNat = 2 ^ 63 - 1 := by rfl
      rw [BitVec.toNat_and, h1, h2, Nat.and_two_pow_sub_one_eq_mod]
      omega
    rw [h]
    simp only [IntKind.wrap, IntKind.signed, IntKind.bits, Bool.false_and, Bool.false_eq_true, if_false, Sem.run_pure]
    congr 2
    omega

theorem cmp_self (E : Env) (k : FloatKind) {a : T} {b : Nat} (h : canon k b = den E a) : holds E (.cmp 0 k a a) = (canon k b).isSome := by
  show ccmp .eql k (den E a) (den E a) = _
  rw [← h]; exact cord_self k b

/-- What a two-place operation gives. -/
theorem binA_sound {op : BinOp} {t : TypeId} {x y : V} {st : St} {K : V → Bool → Facts → Bool} (h : binA P op t x y st K = true) (hf : FactsOK E st.facts) :
    ∃ sv fs, K sv true fs = true ∧ FactsOK E fs ∧ ∀ (β : Beta) (ox oy : Operand) (a b : Value) (W : World), VRel E β x a → VRel E β y b →
      ∃ v n, (do eqGuard op t ox oy a b; binOp op t a b).run P W = .ok v (W.drewN n) ∧ VRel E β sv v := by
  unfold binA at h
  split at h
  · rename_i k p k' q
    split at h
    · rename_i hk
      have hkk := fk_inj hk
      subst hkk
      split at h
      · rename_i c hc
        rw [forceNat_eq] at h
        obtain ⟨hc4, ho, hop⟩ := opOf_arith hc
        refine ⟨_, _, h, hf, fun β ox oy a b W ha hb => ?_⟩
        obtain ⟨u, rfl, hu⟩ := ha
        obtain ⟨w, rfl, hw⟩ := hb
        obtain ⟨r, n, h1, h2⟩ := run_farith (P := P) W op t k u w hop
        refine ⟨_, n, by simp [eqGuard_plain (P := P) (W := W) (op := op) (t := t) (x := ox) (y := oy) (a := .float k u) (b := .float k w) rfl (by simp), h1], ⟨r, rfl, ?_⟩⟩
        have e1 : (c + 4 * fk k) % 4 = c := by omega
        have e2 : kindOf ((c + 4 * fk k) / 4) = k := by
          have : (c + 4 * fk k) / 4 = fk k := by omega
          rw [this]; cases k <;> rfl
        rw [h2, hu, hw]
        simp only [den, e1, e2, ho]
      · split at h
        · rename_i c turn hc
          obtain ⟨fs', h1, h2⟩ := ask_sound h hf
          rw [forceSV_eq] at h1
          refine ⟨_, _, h1, h2, fun β ox oy a b W ha hb => ?_⟩
          obtain ⟨u, rfl, hu⟩ := ha
          obtain ⟨w, rfl, hw⟩ := hb
          have hcc := cmpOf_code hc k (canon k u) (canon k w)
          have hr := run_fcmp (P := P) W op t k u w hcc.2
          refine ⟨.bool (ccmp op k (canon k u) (canon k w)), 0, by simp [eqGuard_plain (P := P) (W := W) (op := op) (t := t) (x := ox) (y := oy) (a := .float k u) (b := .float k w) rfl (by simp), hr, World.drewN_zero], ?_⟩
          show _ = _
          rw [hcc.1, hu, hw]; rfl
        · cases h
    · cases h
  · rename_i k p k' q
    split at h
    · rename_i hk
      have hkk : k = k' := by simpa using hk
      subst hkk
      split at h
      · rename_i s hs
        rw [forceSV_eq] at h
        refine ⟨_, _, h, hf, fun β ox oy a b W ha hb => ?_⟩
        obtain rfl : a = _ := ha
        obtain rfl : b = _ := hb
        obtain ⟨v, h1, h2⟩ := intOp_sound (P := P) (W := W) (E := E) (β := β) (t := t) hs
        exact ⟨v, 0, by simp [eqGuard_plain (P := P) (W := W) (op := op) (t := t) (x := ox) (y := oy) (a := .int k p) (b := .int k q) rfl (by simp), h1, World.drewN_zero], h2⟩
      · cases h
    · cases h
  · -- bits against bits
    rename_i k p k' q
    split at h
    · rename_i hk
      have hkk := fk_inj hk
      subst hkk
      split at h
      · obtain ⟨fs1, h1, hf1⟩ := ask_sound h hf
        obtain ⟨fs2, h2, hf2⟩ := ask_sound h1 hf1
        have key : ∀ (r : Bool) (fs' : Facts), K (.sc (.bool r)) true fs' = true → FactsOK E fs' → (∀ u w : Nat, canon k u = den E p → canon k w = den E q → ((u : Int) == (w : Int)) = r) →
            ∃ sv fs, K sv true fs = true ∧ FactsOK E fs ∧ ∀ (β : Beta) (ox oy : Operand) (a b : Value) (W : World), VRel E β (.sc (.bits k p)) a → VRel E β (.sc (.bits k q)) b →
              ∃ v n, (do eqGuard .eql t ox oy a b; binOp .eql t a b).run P W = .ok v (W.drewN n) ∧ VRel E β sv v := by
          intro r fs' hr hfs hval
          refine ⟨_, _, hr, hfs, fun β ox oy a b W ha hb => ?_⟩
          obtain ⟨u, rfl, hu⟩ := ha
          obtain ⟨w, rfl, hw⟩ := hb
          refine ⟨.bool ((u : Int) == (w : Int)), 0, by simp [eqGuard_plain (P := P) (W := W) (op := .eql) (t := t) (x := ox) (y := oy) (a := .int (uk k) u) (b := .int (uk k) w) rfl (by simp), binOp, Op.intCmp, World.drewN_zero], ?_⟩
          show _ = _
          rw [hval u w hu hw]
        split at h2
        · rename_i ta tb hta htb
          split at h2
          · rename_i hpq
            have hpq := T.beq_eq hpq
            subst hpq
            refine key _ _ h2 hf2 fun u w hu hw => ?_
            rw [cmp_self E k hu] at hta
            rw [cmp_self E k hw] at htb
            obtain ⟨x, hx⟩ := Option.isSome_iff_exists.1 hta
            obtain ⟨y, hy⟩ := Option.isSome_iff_exists.1 htb
            obtain ⟨e1, _⟩ := canon_eq_some hx
            obtain ⟨e2, _⟩ := canon_eq_some hy
            rw [hx, ← hw, hy] at hu
            cases hu
            rw [← e1, ← e2]
            simp
          obtain ⟨fs3, h3, hf3⟩ := ask_sound h2 hf2
          rw [forceSV_eq] at h3
          refine key _ _ h3 hf3 fun u w hu hw => ?_
          rw [cmp_self E k hu] at hta
          rw [cmp_self E k hw] at htb
          show _ = (den E p == den E q)
          rw [← hu, ← hw]
          obtain ⟨x, hx⟩ := Option.isSome_iff_exists.1 hta
          obtain ⟨y, hy⟩ := Option.isSome_iff_exists.1 htb
          obtain ⟨e1, _⟩ := canon_eq_some hx
          obtain ⟨e2, _⟩ := canon_eq_some hy
          rw [hx, hy, e1, e2]
          rw [Bool.eq_iff_iff]
          simp
          exact Int.ofNat_inj
        · rename_i ta tb hta htb
          refine key _ _ h2 hf2 fun u w hu hw => ?_
          rw [cmp_self E k hu] at hta
          rw [cmp_self E k hw] at htb
          have : u ≠ w := fun e => by subst e; rw [hta] at htb; cases htb
          have h9 : ¬ (u : Int) = (w : Int) := fun e => this (Int.ofNat_inj.1 e)
          simpa using h9
        · rename_i ta tb hta htb
          refine key _ _ h2 hf2 fun u w hu hw => ?_
          rw [cmp_self E k hu] at hta
          rw [cmp_self E k hw] at htb
          have : u ≠ w := fun e => by subst e; rw [hta] at htb; cases htb
          have h9 : ¬ (u : Int) = (w : Int) := fun e => this (Int.ofNat_inj.1 e)
          simpa using h9
        · cases h2
      · cases h
    · cases h
  · -- bits under a mask
    rename_i k p k' n
    split at h
    · rename_i hk
      have hkk : uk k = k' := by simpa using hk
      subst hkk
      split at h
      · split at h
        · rename_i hn
          have hn' := Nat.eq_of_beq_eq_true hn
          subst hn'
          refine ⟨_, _, h, hf, fun β ox oy a b W ha hb => ?_⟩
          obtain ⟨u, rfl, hu⟩ := ha
          obtain rfl : b = _ := hb
          refine ⟨_, 0, by simp only [Sem.run_bind, eqGuard_plain (P := P) (W := W) (op := .and) (t := t) (x := ox) (y := oy) (a := .int (uk k) u) (b := .int (uk k) (Int.ofNat (keepMask k))) rfl (by simp), Result.andThen_ok]; exact run_keep k t u W, ⟨_, rfl, ?_⟩⟩
          rw [canon_mod, hu]; rfl
        · cases h
      · split at h
        · rename_i hn
          have hn' := Nat.eq_of_beq_eq_true hn
          subst hn'
          refine ⟨_, _, h, hf, fun β ox oy a b W ha hb => ?_⟩
          obtain ⟨u, rfl, hu⟩ := ha
          obtain rfl : b = _ := hb
          refine ⟨_, 0, by simp only [Sem.run_bind, eqGuard_plain (P := P) (W := W) (op := .andNot) (t := t) (x := ox) (y := oy) (a := .int (uk k) u) (b := .int (uk k) (Int.ofNat (signMask k))) rfl (by simp), Result.andThen_ok]; exact run_strike k t u W, ⟨_, rfl, ?_⟩⟩
          rw [canon_mod, hu]; rfl
        · cases h
      · cases h
    · cases h
  · rename_i p q
    split at h
    · rename_i hu
      split at h
      · rw [forceSV_eq] at h
        refine ⟨_, _, h, hf, fun β ox oy a b W ha hb => ?_⟩
        obtain rfl : a = _ := ha
        obtain rfl : b = _ := hb
        exact ⟨_, 0, by simp [eqGuard_plain (P := P) (W := W) (op := .eql) (t := t) (x := ox) (y := oy) (a := .bool p) (b := .bool q) rfl (by simp), binOp, run_bool_eq hu, World.drewN_zero], rfl⟩
      · rw [forceSV_eq] at h
        refine ⟨_, _, h, hf, fun β ox oy a b W ha hb => ?_⟩
        obtain rfl : a = _ := ha
        obtain rfl : b = _ := hb
        exact ⟨.bool (p != q), 0, by simp [eqGuard_plain (P := P) (W := W) (op := .neq) (t := t) (x := ox) (y := oy) (a := .bool p) (b := .bool q) rfl (by simp), binOp, run_bool_eq hu, World.drewN_zero, bne], rfl⟩
      · cases h
    · cases h
  · rename_i l r
    split at h
    · rename_i hc
      simp only [Bool.and_eq_true] at hc
      obtain ⟨⟨⟨hc1, hc2⟩, hc3⟩, hc4⟩ := hc
      have hlr := Nat.eq_of_beq_eq_true hc2
      have hgt : P.eqGuardType P.depth t = false := by
        unfold arr3OK at hc1
        simp only [Bool.and_eq_true] at hc1
        simpa using hc1.1
      have key : ∀ (β : Beta) (ox oy : Operand) (a b : Value) (W : World), VRel E β (.agg l) a → VRel E β (.agg r) b → ∃ xs ys : Array Value, a = .agg xs ∧ b = .agg ys ∧ LRel E β l xs.toList ∧ LRel E β r ys.toList ∧ allF32 xs.toList ∧ allF32 ys.toList ∧
          (Op.equal t (.agg xs) (.agg ys)).run P W = .ok (floatsEq xs.toList ys.toList) W := by
        intro β ox oy a b W ha hb
        obtain ⟨xs, rfl, hx⟩ := ha
        obtain ⟨ys, rfl, hy⟩ := hb
        have ax := all_f32 hx hc3
        have ay := all_f32 hy hc4
        exact ⟨xs, ys, rfl, rfl, hx, hy, ax, ay, run_equal_arr hc1 hx.1.symm (by rw [← hy.1, ← hlr]) ax ay⟩
      split at h
      · obtain ⟨b, fs', h1, h2, h3⟩ := eqRow_sound (E := E) h hf
        rw [forceSV_eq] at h1
        refine ⟨_, _, h1, h2, fun β ox oy a b' W ha hb => ?_⟩
        obtain ⟨xs, ys, rfl, rfl, hx, hy, ax, ay, hrun⟩ := key β ox oy a b' W ha hb
        refine ⟨.bool (floatsEq xs.toList ys.toList), 0, ?_, ?_⟩
        · simp only [Sem.run_bind, eqGuard_agg hgt, Result.andThen_ok, binOp, hrun, Sem.run_pure, World.drewN_zero]
        · show _ = _
          rw [h3 β _ _ hx hy ax ay]
      · obtain ⟨b, fs', h1, h2, h3⟩ := eqRow_sound (E := E) h hf
        rw [forceSV_eq] at h1
        refine ⟨_, _, h1, h2, fun β ox oy a b' W ha hb => ?_⟩
        obtain ⟨xs, ys, rfl, rfl, hx, hy, ax, ay, hrun⟩ := key β ox oy a b' W ha hb
        refine ⟨.bool (!floatsEq xs.toList ys.toList), 0, ?_, ?_⟩
        · simp only [Sem.run_bind, eqGuard_agg hgt, Result.andThen_ok, binOp, hrun, Sem.run_pure, World.drewN_zero]
        · show _ = _
          rw [h3 β _ _ hx hy ax ay]
      · cases h
    · cases h
  · cases h

theorem cmm_canon (big : Bool) (k : FloatKind) (x y : Nat) : (match k.format.order x y with
      | none => none
      | some .lt => if big then some y else some x
      | some .gt => if big then some x else some y
      | some .eq => if (k.decode x).neg == big then some y else some x) = cmm big k (canon k x) (canon k y) := by
  have ho := cord_canon k x y
  cases hx : (k.format.read x).isNaN
  · cases hy : (k.format.read y).isNaN
    · rw [canon_num hx, canon_num hy]; rfl
    · rw [canon_nan hy] at ho ⊢
      have : k.format.order x y = none := by rw [← ho]; cases canon k x <;> rfl
      rw [this]; cases canon k x <;> rfl
  · rw [canon_nan hx] at ho ⊢
    have : k.format.order x y = none := by rw [← ho]; rfl
    rw [this]; rfl

theorem order_some_num {k : FloatKind} {x y : Nat} {o : Ordering} (h : k.format.order x y = some o) : canon k x = some x ∧ canon k y = some y := by
  have ho := cord_canon k x y
  rw [h] at ho
  cases hx : (k.format.read x).isNaN
  · cases hy : (k.format.read y).isNaN
    · exact ⟨canon_num hx, canon_num hy⟩
    · rw [canon_nan hy] at ho; cases hc : canon k x <;> rw [hc] at ho <;> cases ho
  · rw [canon_nan hx] at ho; cases ho

theorem run_max2 (k : FloatKind) (x y : Nat) (W : World) : ∃ r n, (Builtin.max2 (.float k x) (.float k y)).run P W = .ok (.float k r) (W.drewN n) ∧ canon k r = cmm true k (canon k x) (canon k y) := by
  rw [← cmm_canon]
  simp only [Builtin.max2]
  cases h : k.format.order x y with
  | none => exact ⟨(Question.nanMinMax k true x y).cut (W.tape W.drawn (.nanMinMax k true x y)), 1, by simp [Question.forced, World.drewN], cut_nanMinMax ..⟩
  | some o =>
    obtain ⟨hx, hy⟩ := order_some_num h
    cases o
    · exact ⟨y, 0, rfl, hy⟩
    · refine ⟨if (k.decode x).neg then y else x, 0, rfl, ?_⟩
      dsimp only
      cases (k.decode x).neg <;> simp [hx, hy]
    · exact ⟨x, 0, rfl, hx⟩

theorem run_min2 (k : FloatKind) (x y : Nat) (W : World) : ∃ r n, (Builtin.min2 (.float k x) (.float k y)).run P W = .ok (.float k r) (W.drewN n) ∧ canon k r = cmm false k (canon k x) (canon k y) := by
  rw [← cmm_canon]
  simp only [Builtin.min2]
  cases h : k.format.order x y with
  | none => exact ⟨(Question.nanMinMax k false x y).cut (W.tape W.drawn (.nanMinMax k false x y)), 1, by simp [Question.forced, World.drewN], cut_nanMinMax ..⟩
  | some o =>
    obtain ⟨hx, hy⟩ := order_some_num h
    cases o
    · exact ⟨x, 0, rfl, hx⟩
    · refine ⟨if (k.decode x).neg then x else y, 0, rfl, ?_⟩
      dsimp only
      cases (k.decode x).neg <;> simp [hx, hy]
    · exact ⟨y, 0, rfl, hy⟩

end
end Go.Sx
