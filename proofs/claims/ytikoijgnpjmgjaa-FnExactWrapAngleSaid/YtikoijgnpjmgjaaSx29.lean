/-
  An angle less its whole turns: it fits, it is a number, and it is never the negative zero. Conditions: none.
-/
import Derived.Test.YtikoijgnpjmgjaaSx28
namespace Go.Sx
open Ieee

theorem quotient_form {w : Nat} {s t : Bool} {m n : Nat} {e f : Int} (hn : n ≠ 0) : ∃ g p, (Datum.number s m e).quotient w (.number t n f) = some (.number (s ^^ t) g p) := by
  simp only [Datum.quotient]
  rw [if_neg hn]
  exact ⟨_, _, rfl⟩

theorem add_le_pow {x y a b : Nat} (h : x ≤ y + 2 ^ a) (hab : a ≤ b) : x ≤ y + 2 ^ b := Nat.le_trans h (Nat.add_le_add_left (pow_mono a b hab) _)
theorem le_add_pow {x y a b : Nat} (h : x ≤ 2 ^ a) (hab : a ≤ b) : x ≤ y + 2 ^ b := Nat.le_trans (Nat.le_trans h (pow_mono a b hab)) (Nat.le_add_left _ _)

/-- The whole turns of a small angle. -/
theorem wrap_small {a : Nat} {s : Bool} {m : Nat} {e : Int} (ha : double.read a = .number s m e) (hb : Bd 1175 (some a)) :
    ∃ b my ey, wrapY (some a) = some b ∧ double.read b = .number s my ey ∧ (-1074 : Int) ≤ ey ∧ my * 2 ^ (ey + 1074).toNat ≤ 2 ^ 1179 := by
  have hn0 : (7074237752028440 : Nat) ≠ 0 := by decide
  have bC : Bd 1077 (canon .f64 wrapC) := bd_lit (b := wrapC) (by decide +kernel)
  have lC : Lb (canon .f64 wrapC) := lb_lit (b := wrapC) (by decide +kernel)
  have b1 : Bd 1175 (cbin .quo .f64 (some a) (canon .f64 wrapC)) := bd_div hb lC (by decide) (by decide)
  obtain ⟨g, p, hq0⟩ := quotient_form (w := 54) (s := s) (t := false) (m := m) (e := e) (f := -50) hn0
  have hq : cbin .quo .f64 (some a) (canon .f64 wrapC) = some (double.nearest s g p) := by
    rw [canonC]
    show Option.map double.write ((double.read a).quotient 54 (double.read wrapC)) = _
    rw [ha, readC, hq0, Bool.xor_false]
    rfl
  rw [hq] at b1
  obtain ⟨s1, m1, e1, r1, r2, r3⟩ := bd_db b1 rfl
  have hs1 := nearest_sign s r1
  subst hs1
  have b2 := bd_even b1 (by decide) (by decide)
  obtain ⟨K, hn⟩ : ∃ K, cint .even (some (double.nearest s1 g p)) = some (double.nearest s1 K 0) := by
    refine ⟨Toward.even.cut s1 (m1 <<< e1.toNat) (-e1).toNat, ?_⟩
    show some (double.write ((double.read (double.nearest s1 g p)).integral .even)) = _
    rw [r1]; rfl
  rw [hn] at b2
  obtain ⟨s2, m2, e2, t1, t2, t3⟩ := bd_db b2 rfl
  have hs2 := nearest_sign s1 t1
  subst hs2
  have b3 : Bd 1179 (wrapY (some a)) := by
    unfold wrapY
    rw [hq, hn]
    exact bd_mul (k := 1179) bC b2 (by decide) (by decide) (by decide)
  have hy : wrapY (some a) = some (double.nearest s2 (7074237752028440 * m2) (-50 + e2)) := by
    unfold wrapY
    rw [hq, hn, canonC]
    show Option.map double.write ((double.read wrapC).product (double.read _)) = _
    rw [t1, readC]
    simp only [Datum.product, Bool.false_xor]
    rfl
  rw [hy] at b3
  obtain ⟨s3, m3, e3, u1, u2, u3⟩ := bd_db b3 rfl
  have hs3 := nearest_sign s2 u1
  subst hs3
  exact ⟨_, m3, e3, hy, u1, u2, u3⟩

/-- An angle less its whole turns. -/
theorem wrap_fact {b : Nat} {s : Bool} {m : Nat} {e : Int} (hd : single.read b = .number s m e) :
    ∃ r sr mr er, cbin .sub .f64 (cwide (canon .f32 b)) (wrapY (cwide (canon .f32 b))) = some r ∧ double.read r = .number sr mr er ∧ fitsC (some r) = true ∧ (mr = 0 → r = 0) := by
  have hc : canon .f32 b = some b := canon_num (show (single.read b).isNaN = false by rw [hd]; rfl)
  rw [hc, cwide_num hd]
  obtain ⟨k, h1, h2, h3, h4⟩ := wide_num hd
  generalize hA : double.nearest s m e = A at *
  obtain ⟨t, ht⟩ : ∃ t : Nat, t = 1180 := ⟨_, rfl⟩
  obtain ⟨b0, my, ey, hy, hry, hey, d1, d2⟩ : ∃ b0 my ey, wrapY (some A) = some b0 ∧ double.read b0 = .number s my ey ∧ (-1074 : Int) ≤ ey ∧
      m * 2 ^ k * 2 ^ (e - (k : Nat) + 1074).toNat ≤ my * 2 ^ (ey + 1074).toNat + 2 ^ t ∧ my * 2 ^ (ey + 1074).toNat ≤ m * 2 ^ k * 2 ^ (e - (k : Nat) + 1074).toNat + 2 ^ t := by
    by_cases hbig : m ≠ 0 ∧ 100 ≤ e + m.log2
    · have hmk : m * 2 ^ k ≠ 0 := by have := Nat.two_pow_pos k; exact Nat.mul_ne_zero hbig.1 (by omega)
      have hl := log2_shift hbig.1 k
      obtain ⟨b0, my, ey, g1, g2, g3, g4, g5⟩ := wrap_big h1 hmk (by rw [hl]; omega) (by rw [hl]; omega)
      exact ⟨b0, my, ey, g1, g2, g3, add_le_pow (a := 1160) (b := t) g4 (by omega), add_le_pow (a := 1160) (b := t) g5 (by omega)⟩
    · have hv : m * 2 ^ k * 2 ^ (e - (k : Nat) + 1074).toNat ≤ 2 ^ 1175 := by
        by_cases hm : m = 0
        · subst hm; rw [Nat.zero_mul, Nat.zero_mul]; exact Nat.zero_le _
        · have hlt : m < 2 ^ (m.log2 + 1) := Nat.lt_log2_self
          rw [Nat.mul_assoc, ← Nat.pow_add]
          refine Nat.le_trans (Nat.mul_le_mul_right _ (Nat.le_of_lt hlt)) ?_
          rw [← Nat.pow_add]
          refine pow_mono _ 1175 ?_
          have : e + m.log2 < 100 := by
            rcases Int.lt_or_le (e + m.log2) 100 with h | h
            · exact h
            · exact absurd ⟨hm, h⟩ hbig
          omega
      have hb : Bd 1175 (some A) := fun b hb => by
        cases hb
        exact db_bd ⟨s, _, _, h1, h4, hv⟩
      obtain ⟨b0, my, ey, g1, g2, g3, g4⟩ := wrap_small h1 hb
      exact ⟨b0, my, ey, g1, g2, g3, le_add_pow (a := 1175) (b := t) hv (by omega), le_add_pow (a := 1179) (b := t) g4 (by omega)⟩
  rw [hy]
  have hsum : cbin .sub .f64 (some A) (some b0) = Option.map double.write ((Datum.number s (m * 2 ^ k) (e - (k : Nat))).sum (Datum.number s my ey).opposite) := by
    show Option.map double.write ((double.read A).sum (double.read b0).opposite) = _
    rw [h1, hry]
  rw [hsum]
  cases hr : (Datum.number s (m * 2 ^ k) (e - (k : Nat))).sum (Datum.number s my ey).opposite with
  | none => simp [Datum.opposite, Datum.sum] at hr
  | some d =>
    have hle := diff_bd h4 hey (by omega) (by omega) d1 d2 hr
    simp only [Datum.opposite, Datum.sum, Option.some.injEq] at hr
    subst hr
    obtain ⟨sr, mr, er, q1, q2, q3⟩ := hle
    have hfit : fitsC (some (double.write (Datum.number (if signed s (m * 2 ^ k) (e - (k : Nat) - min (e - (k : Nat)) ey).toNat + signed (!s) my (ey - min (e - (k : Nat)) ey).toNat = 0 then s && !s else decide (signed s (m * 2 ^ k) (e - (k : Nat) - min (e - (k : Nat)) ey).toNat + signed (!s) my (ey - min (e - (k : Nat)) ey).toNat < 0)) (signed s (m * 2 ^ k) (e - (k : Nat) - min (e - (k : Nat)) ey).toNat + signed (!s) my (ey - min (e - (k : Nat)) ey).toNat).natAbs (min (e - (k : Nat)) ey)))) = true :=
      bd_fits (k := t) (fun b hb => by cases hb; exact ⟨sr, mr, er, q1, q2, q3⟩) (by omega)
    refine ⟨_, sr, mr, er, rfl, q1, hfit, fun h0 => ?_⟩
    generalize hT : signed s (m * 2 ^ k) (e - (k : Nat) - min (e - (k : Nat)) ey).toNat + signed (!s) my (ey - min (e - (k : Nat)) ey).toNat = tot at *
    have htz : tot = 0 := by
      rcases Classical.em (tot = 0) with h | h
      · exact h
      · exact absurd h0 (nearest_ne_zero _ (by omega) (by omega) q1)
    subst htz
    show double.nearest (if (0 : Int) = 0 then s && !s else _) 0 _ = 0
    rw [if_pos rfl]
    have : (s && !s) = false := by cases s <;> rfl
    rw [this]
    unfold Format.nearest
    rw [if_pos rfl]
    rfl

end Go.Sx
