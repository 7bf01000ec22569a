/-
  The symbolic executor, texts 36 to 39. Conditions: none.
-/
import Derived.Test.YtcoediecgmdkpaaSx35
/-   Systems of three numbers, solved: how near. Conditions: none. -/
namespace Go.Sx
open Ieee

/-- A quotient, and what it leaves. -/
theorem quo_step {x y : CF} {a b : Rat} (hx : Val x a) (hy : Val y b) (lo hi K Z : Rat) (h0 : 0 < lo) (hb1 : lo ≤ b) (hb2 : b ≤ hi) (ha1 : -K ≤ a) (ha2 : a ≤ K) (hK : K ≤ Z * lo) (hZ : 1 / 10000000000 ≤ Z) (hZ2 : Z ≤ 100000) :
    ∃ q, Val (cbin .quo .f32 x y) q ∧ (-(Z + Z * (12 / 100000000)) ≤ q ∧ q ≤ Z + Z * (12 / 100000000)) ∧ -(Z * (12 / 100000000) * hi) ≤ q * b - a ∧ q * b - a ≤ Z * (12 / 100000000) * hi := by
  have hb : 0 < b := by grind
  have hbn : b ≠ 0 := by grind
  obtain ⟨z, hz⟩ : ∃ z : Rat, z * b = a := ⟨a / b, by grind⟩
  have hZb : Z * lo ≤ Z * b := Rat.mul_le_mul_of_nonneg_left hb1 (by grind)
  have z2 : z ≤ Z := Rat.le_of_mul_le_mul_right (c := b) (by grind) hb
  have z1 : -Z ≤ z := Rat.le_of_mul_le_mul_right (c := b) (by grind) hb
  obtain ⟨q, vq, q1, q2⟩ := div_off hx hy hbn z hz Z z1 z2 (by grind)
  have d1 : -(Z * (12 / 100000000)) ≤ q - z := by grind
  have d2 : q - z ≤ Z * (12 / 100000000) := by grind
  obtain ⟨m1, m2⟩ := mul_bd (x := q - z) (y := b) (X := Z * (12 / 100000000)) (Y := hi) d1 d2 (by grind) hb2
  have e : (q - z) * b = q * b - a := by rw [← hz]; grind
  rw [e] at m1 m2
  exact ⟨q, vq, ⟨by grind, by grind⟩, m1, m2⟩

/-- A product taken away. -/
theorem mulsub_step {xu xl xw : CF} {u l w : Rat} (hu : Val xu u) (hl : Val xl l) (hw : Val xw w) (A W U P Q : Rat) (l1 : -A ≤ l) (l2 : l ≤ A) (w1 : -W ≤ w) (w2 : w ≤ W) (u1 : -U ≤ u) (u2 : u ≤ U)
    (hP : A * W ≤ P) (hP0 : 1 / 10000000000 ≤ P) (hQ : U + P + P * (12 / 100000000) ≤ Q) (hQ2 : Q ≤ 1000000) (hU : 0 ≤ U) :
    ∃ r, Val (cbin .sub .f32 xu (cbin .mul .f32 xl xw)) r ∧ (-P ≤ l * w ∧ l * w ≤ P) ∧ -((P + Q) * (12 / 100000000)) ≤ r - (u - l * w) ∧ r - (u - l * w) ≤ (P + Q) * (12 / 100000000) := by
  obtain ⟨m1, m2⟩ := mul_bd l1 l2 w1 w2
  obtain ⟨p, vp, p1, p2⟩ := mul_off hl hw P (by grind) (by grind) (by grind)
  generalize l * w = z at *
  obtain ⟨r, vr, r1, r2⟩ := sub_off hu vp Q (by grind) (by grind) hQ2
  exact ⟨r, vr, ⟨by grind, by grind⟩, by grind, by grind⟩
/-! ### The matrix, taken apart -/
def l1T : T := .bin 3 (.arg 3) (.arg 0)
def l2T : T := .bin 3 (.arg 6) (.arg 0)
def u11T : T := .bin 1 (.arg 4) (.bin 2 l1T (.arg 1))
def u12T : T := .bin 1 (.arg 5) (.bin 2 l1T (.arg 2))
def v21T : T := .bin 1 (.arg 7) (.bin 2 l2T (.arg 1))
def v22T : T := .bin 1 (.arg 8) (.bin 2 l2T (.arg 2))
def l3T : T := .bin 3 v21T u11T
def u22T : T := .bin 1 v22T (.bin 2 l3T u12T)

/-- A matrix of small numbers with a heavy diagonal. -/
structure MatV (E : Env) (a : Nat → Rat) : Prop where
  val : ∀ i, i < 9 → Val (E.arg i) (a i)
  d0 : 1999 / 100 ≤ a 0 ∧ a 0 ≤ 2801 / 100
  d4 : 1999 / 100 ≤ a 4 ∧ a 4 ≤ 2801 / 100
  d8 : 1999 / 100 ≤ a 8 ∧ a 8 ≤ 2801 / 100
  o1 : -8 ≤ a 1 ∧ a 1 ≤ 8
  o2 : -8 ≤ a 2 ∧ a 2 ≤ 8
  o3 : -8 ≤ a 3 ∧ a 3 ≤ 8
  o5 : -8 ≤ a 5 ∧ a 5 ≤ 8
  o6 : -8 ≤ a 6 ∧ a 6 ≤ 8
  o7 : -8 ≤ a 7 ∧ a 7 ≤ 8

structure Fac (E : Env) (a : Nat → Rat) (L1 L2 L3 U11 U12 V21 V22 U22 : Rat) : Prop where
  vL1 : Val (den E l1T) L1
  vL2 : Val (den E l2T) L2
  vL3 : Val (den E l3T) L3
  vU11 : Val (den E u11T) U11
  vU12 : Val (den E u12T) U12
  vV21 : Val (den E v21T) V21
  vV22 : Val (den E v22T) V22
  vU22 : Val (den E u22T) U22
  bL1 : -(4011 / 10000) ≤ L1 ∧ L1 ≤ 4011 / 10000
  bL2 : -(4011 / 10000) ≤ L2 ∧ L2 ≤ 4011 / 10000
  bL3 : -(6691 / 10000) ≤ L3 ∧ L3 ≤ 6691 / 10000
  bU11 : 1678 / 100 ≤ U11 ∧ U11 ≤ 3123 / 100
  bU12 : -(1122 / 100) ≤ U12 ∧ U12 ≤ 1122 / 100
  bV21 : -(1122 / 100) ≤ V21 ∧ V21 ≤ 1122 / 100
  bV22 : 1678 / 100 ≤ V22 ∧ V22 ≤ 3123 / 100
  bU22 : 926 / 100 ≤ U22 ∧ U22 ≤ 388 / 10
  eL1 : -(14 / 10000000) ≤ L1 * a 0 - a 3 ∧ L1 * a 0 - a 3 ≤ 14 / 10000000
  eL2 : -(14 / 10000000) ≤ L2 * a 0 - a 6 ∧ L2 * a 0 - a 6 ≤ 14 / 10000000
  eL3 : -(26 / 10000000) ≤ L3 * U11 - V21 ∧ L3 * U11 - V21 ≤ 26 / 10000000
  eU11 : -(42 / 10000000) ≤ U11 - (a 4 - L1 * a 1) ∧ U11 - (a 4 - L1 * a 1) ≤ 42 / 10000000
  eU12 : -(18 / 10000000) ≤ U12 - (a 5 - L1 * a 2) ∧ U12 - (a 5 - L1 * a 2) ≤ 18 / 10000000
  eV21 : -(18 / 10000000) ≤ V21 - (a 7 - L2 * a 1) ∧ V21 - (a 7 - L2 * a 1) ≤ 18 / 10000000
  eV22 : -(42 / 10000000) ≤ V22 - (a 8 - L2 * a 2) ∧ V22 - (a 8 - L2 * a 2) ≤ 42 / 10000000
  eU22 : -(56 / 10000000) ≤ U22 - (V22 - L3 * U12) ∧ U22 - (V22 - L3 * U12) ≤ 56 / 10000000

theorem first_quo {x y : CF} {u d : Rat} (hx : Val x u) (hy : Val y d) (hd : 1999 / 100 ≤ d ∧ d ≤ 2801 / 100) (hu : -8 ≤ u ∧ u ≤ 8) :
    ∃ q, Val (cbin .quo .f32 x y) q ∧ (-(4011 / 10000) ≤ q ∧ q ≤ 4011 / 10000) ∧ -(14 / 10000000) ≤ q * d - u ∧ q * d - u ≤ 14 / 10000000 := by
  obtain ⟨q, vq, ⟨q1, q2⟩, q3, q4⟩ := quo_step hx hy (1999 / 100) (2801 / 100) 8 (401 / 1000) (by decide +kernel) hd.1 hd.2 hu.1 hu.2 (by decide +kernel) (by decide +kernel) (by decide +kernel)
  exact ⟨q, vq, ⟨by grind, by grind⟩, by grind, by grind⟩
theorem first_diag {xu xl xw : CF} {u l w : Rat} (hu : Val xu u) (hl : Val xl l) (hw : Val xw w) (bu : 1999 / 100 ≤ u ∧ u ≤ 2801 / 100) (bl : -(4011 / 10000) ≤ l ∧ l ≤ 4011 / 10000) (bw : -8 ≤ w ∧ w ≤ 8) :
    ∃ r, Val (cbin .sub .f32 xu (cbin .mul .f32 xl xw)) r ∧ (1678 / 100 ≤ r ∧ r ≤ 3123 / 100) ∧ -(42 / 10000000) ≤ r - (u - l * w) ∧ r - (u - l * w) ≤ 42 / 10000000 := by
  obtain ⟨r, vr, ⟨m1, m2⟩, r1, r2⟩ := mulsub_step hu hl hw (4011 / 10000) 8 (2801 / 100) (321 / 100) (313 / 10) bl.1 bl.2 bw.1 bw.2 (by grind) bu.2 (by decide +kernel) (by decide +kernel) (by decide +kernel) (by decide +kernel) (by decide +kernel)
  have m3 : l * w ≤ 32089 / 10000 := by have := (mul_bd bl.1 bl.2 bw.1 bw.2).2; grind
  exact ⟨r, vr, ⟨by grind, by grind⟩, by grind, by grind⟩
theorem first_off {xu xl xw : CF} {u l w : Rat} (hu : Val xu u) (hl : Val xl l) (hw : Val xw w) (bu : -8 ≤ u ∧ u ≤ 8) (bl : -(4011 / 10000) ≤ l ∧ l ≤ 4011 / 10000) (bw : -8 ≤ w ∧ w ≤ 8) :
    ∃ r, Val (cbin .sub .f32 xu (cbin .mul .f32 xl xw)) r ∧ (-(1122 / 100) ≤ r ∧ r ≤ 1122 / 100) ∧ -(18 / 10000000) ≤ r - (u - l * w) ∧ r - (u - l * w) ≤ 18 / 10000000 := by
  obtain ⟨r, vr, ⟨m1, m2⟩, r1, r2⟩ := mulsub_step hu hl hw (4011 / 10000) 8 8 (321 / 100) (11211 / 1000) bl.1 bl.2 bw.1 bw.2 bu.1 bu.2 (by decide +kernel) (by decide +kernel) (by decide +kernel) (by decide +kernel) (by decide +kernel)
  exact ⟨r, vr, ⟨by grind, by grind⟩, by grind, by grind⟩

theorem fac_ok {E : Env} {a : Nat → Rat} (h : MatV E a) : ∃ L1 L2 L3 U11 U12 V21 V22 U22, Fac E a L1 L2 L3 U11 U12 V21 V22 U22 := by
  obtain ⟨L1, vL1, bL1, eL1⟩ := first_quo (h.val 3 (by decide)) (h.val 0 (by decide)) h.d0 h.o3
  obtain ⟨L2, vL2, bL2, eL2⟩ := first_quo (h.val 6 (by decide)) (h.val 0 (by decide)) h.d0 h.o6
  obtain ⟨U11, vU11, bU11, eU11⟩ := first_diag (h.val 4 (by decide)) vL1 (h.val 1 (by decide)) h.d4 bL1 h.o1
  obtain ⟨U12, vU12, bU12, eU12⟩ := first_off (h.val 5 (by decide)) vL1 (h.val 2 (by decide)) h.o5 bL1 h.o2
  obtain ⟨V21, vV21, bV21, eV21⟩ := first_off (h.val 7 (by decide)) vL2 (h.val 1 (by decide)) h.o7 bL2 h.o1
  obtain ⟨V22, vV22, bV22, eV22⟩ := first_diag (h.val 8 (by decide)) vL2 (h.val 2 (by decide)) h.d8 bL2 h.o2
  obtain ⟨L3, vL3, bL3, eL3⟩ : ∃ q, Val (cbin .quo .f32 (den E v21T) (den E u11T)) q ∧ (-(6691 / 10000) ≤ q ∧ q ≤ 6691 / 10000) ∧ -(26 / 10000000) ≤ q * U11 - V21 ∧ q * U11 - V21 ≤ 26 / 10000000 := by
    obtain ⟨q, vq, ⟨q1, q2⟩, q3, q4⟩ := quo_step (x := den E v21T) (y := den E u11T) vV21 vU11 (1678 / 100) (3123 / 100) (1122 / 100) (669 / 1000) (by decide +kernel) bU11.1 bU11.2 bV21.1 bV21.2 (by decide +kernel) (by decide +kernel) (by decide +kernel)
    clear eU11 eU12 eV21 eV22 eL1 eL2
    exact ⟨q, vq, ⟨by grind, by grind⟩, by grind, by grind⟩
  obtain ⟨U22, vU22, bU22, eU22⟩ : ∃ r, Val (cbin .sub .f32 (den E v22T) (cbin .mul .f32 (den E l3T) (den E u12T))) r ∧ (926 / 100 ≤ r ∧ r ≤ 388 / 10) ∧ -(56 / 10000000) ≤ r - (V22 - L3 * U12) ∧ r - (V22 - L3 * U12) ≤ 56 / 10000000 := by
    obtain ⟨r, vr, ⟨m1, m2⟩, r1, r2⟩ := mulsub_step (xu := den E v22T) (xl := den E l3T) (xw := den E u12T) vV22 vL3 vU12 (6691 / 10000) (1122 / 100) (3123 / 100) (751 / 100) (3875 / 100) bL3.1 bL3.2 bU12.1 bU12.2 (by grind) bV22.2 (by decide +kernel) (by decide +kernel) (by decide +kernel) (by decide +kernel) (by decide +kernel)
    clear eU11 eU12 eV21 eV22 eL1 eL2 eL3
    exact ⟨r, vr, ⟨by grind, by grind⟩, by grind, by grind⟩
  exact ⟨L1, L2, L3, U11, U12, V21, V22, U22, vL1, vL2, vL3, vU11, vU12, vV21, vV22, vU22, bL1, bL2, bL3, bU11, bU12, bV21, bV22, bU22, eL1, eL2, eL3, eU11, eU12, eV21, eV22, eU22⟩
end Go.Sx

/-   Systems of three numbers, solved: the right side. Conditions: none. -/
namespace Go.Sx
open Ieee

def y1T (b0 b1 : T) : T := .bin 1 b1 (.bin 2 l1T b0)
def z2T (b0 b2 : T) : T := .bin 1 b2 (.bin 2 l2T b0)
def y2T (b0 b1 b2 : T) : T := .bin 1 (z2T b0 b2) (.bin 2 l3T (y1T b0 b1))
def x2T (b0 b1 b2 : T) : T := .bin 3 (y2T b0 b1 b2) u22T
def x1T (b0 b1 b2 : T) : T := .bin 3 (.bin 1 (y1T b0 b1) (.bin 2 u12T (x2T b0 b1 b2))) u11T
def x0T (b0 b1 b2 : T) : T := .bin 3 (.bin 1 (.bin 1 b0 (.bin 2 (.arg 1) (x1T b0 b1 b2))) (.bin 2 (.arg 2) (x2T b0 b1 b2))) (.arg 0)

/-- What is left over, from the parts. -/
theorem comb {L r s e0 x0 e1 x1 e2 x2 y A R S E0 E1 E2 X Y C : Rat} (hL : -A ≤ L ∧ L ≤ A) (hr : -R ≤ r ∧ r ≤ R) (hs : -S ≤ s ∧ s ≤ S) (h0 : -E0 ≤ e0 ∧ e0 ≤ E0) (h1 : -E1 ≤ e1 ∧ e1 ≤ E1) (h2 : -E2 ≤ e2 ∧ e2 ≤ E2)
    (hx0 : -X ≤ x0 ∧ x0 ≤ X) (hx1 : -X ≤ x1 ∧ x1 ≤ X) (hx2 : -X ≤ x2 ∧ x2 ≤ X) (hy : -Y ≤ y ∧ y ≤ Y) (hC : A * R + S + E0 * X + E1 * X + E2 * X + Y ≤ C) :
    -C ≤ L * r + s - e0 * x0 - e1 * x1 - e2 * x2 + y ∧ L * r + s - e0 * x0 - e1 * x1 - e2 * x2 + y ≤ C := by
  have a := mul_bd hL.1 hL.2 hr.1 hr.2
  have b := mul_bd h0.1 h0.2 hx0.1 hx0.2
  have c := mul_bd h1.1 h1.2 hx1.1 hx1.2
  have d := mul_bd h2.1 h2.2 hx2.1 hx2.2
  generalize L * r = v1 at *
  generalize e0 * x0 = v2 at *
  generalize e1 * x1 = v3 at *
  generalize e2 * x2 = v4 at *
  generalize A * R = w1 at *
  generalize E0 * X = w2 at *
  generalize E1 * X = w3 at *
  generalize E2 * X = w4 at *
  clear hL hr h0 h1 h2 hx0 hx1 hx2
  constructor <;> grind

/-- The three rows that are left over. -/
theorem rows_pure {a0 a1 a2 a3 a4 a5 a6 a7 a8 b0 b1 b2 L1 L2 L3 U11 U12 V21 V22 U22 Y1 Z2 Y2 x0 x1 x2 N1 M0 N0 : Rat} :
    (a0 * x0 + a1 * x1 + a2 * x2 - b0 = (x0 * a0 - N0) + (N0 - (M0 - a2 * x2)) + (M0 - (b0 - a1 * x1))) ∧
    (a3 * x0 + a4 * x1 + a5 * x2 - b1 = L1 * (a0 * x0 + a1 * x1 + a2 * x2 - b0) + ((x1 * U11 - N1) + (N1 - (Y1 - U12 * x2))) - (L1 * a0 - a3) * x0 - (U11 - (a4 - L1 * a1)) * x1 - (U12 - (a5 - L1 * a2)) * x2 + (Y1 - (b1 - L1 * b0))) ∧
    (a6 * x0 + a7 * x1 + a8 * x2 - b2 = L2 * (a0 * x0 + a1 * x1 + a2 * x2 - b0) + (V21 * x1 + V22 * x2 - Z2) - (L2 * a0 - a6) * x0 - (V21 - (a7 - L2 * a1)) * x1 - (V22 - (a8 - L2 * a2)) * x2 + (Z2 - (b2 - L2 * b0))) ∧
    (V21 * x1 + V22 * x2 - Z2 = L3 * ((x1 * U11 - N1) + (N1 - (Y1 - U12 * x2))) + (x2 * U22 - Y2) - 0 * x0 - (L3 * U11 - V21) * x1 - (U22 - (V22 - L3 * U12)) * x2 + (Y2 - (Z2 - L3 * Y1))) := by
  refine ⟨?_, ?_, ?_, ?_⟩ <;> grind

structure Sol (E : Env) (a : Nat → Rat) (b0 b1 b2 : T) (c0 c1 c2 B x0 x1 x2 : Rat) : Prop where
  vy1 : ∃ r, Val (den E (y1T b0 b1)) r
  vz2 : ∃ r, Val (den E (z2T b0 b2)) r
  vy2 : ∃ r, Val (den E (y2T b0 b1 b2)) r
  v0 : Val (den E (x0T b0 b1 b2)) x0
  v1 : Val (den E (x1T b0 b1 b2)) x1
  v2 : Val (den E (x2T b0 b1 b2)) x2
  b0 : -(26 / 100 * B) ≤ x0 ∧ x0 ≤ 26 / 100 * B
  b1 : -(26 / 100 * B) ≤ x1 ∧ x1 ≤ 26 / 100 * B
  b2 : -(26 / 100 * B) ≤ x2 ∧ x2 ≤ 26 / 100 * B
  r0 : -(1 / 100000 * B) ≤ a 0 * x0 + a 1 * x1 + a 2 * x2 - c0 ∧ a 0 * x0 + a 1 * x1 + a 2 * x2 - c0 ≤ 1 / 100000 * B
  r1 : -(1 / 100000 * B) ≤ a 3 * x0 + a 4 * x1 + a 5 * x2 - c1 ∧ a 3 * x0 + a 4 * x1 + a 5 * x2 - c1 ≤ 1 / 100000 * B
  r2 : -(1 / 100000 * B) ≤ a 6 * x0 + a 7 * x1 + a 8 * x2 - c2 ∧ a 6 * x0 + a 7 * x1 + a 8 * x2 - c2 ≤ 1 / 100000 * B

theorem sol_ok {E : Env} {a : Nat → Rat} (h : MatV E a) {L1 L2 L3 U11 U12 V21 V22 U22 : Rat} (F : Fac E a L1 L2 L3 U11 U12 V21 V22 U22) {b0 b1 b2 : T} {c0 c1 c2 B : Rat} (hB1 : 1 ≤ B) (hB2 : B ≤ 8)
    (vb0 : Val (den E b0) c0) (vb1 : Val (den E b1) c1) (vb2 : Val (den E b2) c2) (h0 : -B ≤ c0 ∧ c0 ≤ B) (h1 : -B ≤ c1 ∧ c1 ≤ B) (h2 : -B ≤ c2 ∧ c2 ≤ B) :
    ∃ x0 x1 x2, Sol E a b0 b1 b2 c0 c1 c2 B x0 x1 x2 := by
  -- the first step
  have first : ∀ {xu xl xw : CF} {u l w : Rat}, Val xu u → Val xl l → Val xw w → (-(4011 / 10000) ≤ l ∧ l ≤ 4011 / 10000) → (-B ≤ w ∧ w ≤ B) → (-B ≤ u ∧ u ≤ B) →
      ∃ r, Val (cbin .sub .f32 xu (cbin .mul .f32 xl xw)) r ∧ (-(14013 / 10000 * B) ≤ r ∧ r ≤ 14013 / 10000 * B) ∧ -(22 / 100000000 * B) ≤ r - (u - l * w) ∧ r - (u - l * w) ≤ 22 / 100000000 * B := by
    intro xu xl xw u l w hu hl hw bl bw bu
    obtain ⟨r, vr, ⟨m1, m2⟩, r1, r2⟩ := mulsub_step hu hl hw (4011 / 10000) B B (4011 / 10000 * B) (14012 / 10000 * B) bl.1 bl.2 bw.1 bw.2 bu.1 bu.2 (by grind) (by grind) (by grind) (by grind) (by grind)
    exact ⟨r, vr, ⟨by grind, by grind⟩, by grind, by grind⟩
  obtain ⟨Y1, vY1, bY1, eY1⟩ := first vb1 F.vL1 vb0 F.bL1 h0 h1
  obtain ⟨Z2, vZ2, bZ2, eZ2⟩ := first vb2 F.vL2 vb0 F.bL2 h0 h2
  clear first
  obtain ⟨Y2, vY2, bY2, eY2⟩ : ∃ r, Val (den E (y2T b0 b1 b2)) r ∧ (-(23401 / 10000 * B) ≤ r ∧ r ≤ 23401 / 10000 * B) ∧ -(4 / 10000000 * B) ≤ r - (Z2 - L3 * Y1) ∧ r - (Z2 - L3 * Y1) ≤ 4 / 10000000 * B := by
    obtain ⟨r, vr, ⟨m1, m2⟩, r1, r2⟩ := mulsub_step (xu := den E (z2T b0 b2)) (xl := den E l3T) (xw := den E (y1T b0 b1)) vZ2 F.vL3 vY1 (6691 / 10000) (14013 / 10000 * B) (14013 / 10000 * B) (938 / 1000 * B) (234 / 100 * B) F.bL3.1 F.bL3.2 bY1.1 bY1.2 bZ2.1 bZ2.2 (by grind) (by grind) (by grind) (by grind) (by grind)
    clear eY1 eZ2
    exact ⟨r, vr, ⟨by grind, by grind⟩, by grind, by grind⟩
  obtain ⟨x2, vx2, bx2, ex2⟩ : ∃ r, Val (den E (x2T b0 b1 b2)) r ∧ (-(2531 / 10000 * B) ≤ r ∧ r ≤ 2531 / 10000 * B) ∧ -(12 / 10000000 * B) ≤ r * U22 - Y2 ∧ r * U22 - Y2 ≤ 12 / 10000000 * B := by
    obtain ⟨q, vq, ⟨q1, q2⟩, q3, q4⟩ := quo_step (x := den E (y2T b0 b1 b2)) (y := den E u22T) vY2 F.vU22 (926 / 100) (388 / 10) (23401 / 10000 * B) (253 / 1000 * B) (by decide +kernel) F.bU22.1 F.bU22.2 bY2.1 bY2.2 (by grind) (by grind) (by grind)
    clear eY1 eZ2 eY2
    exact ⟨q, vq, ⟨by grind, by grind⟩, by grind, by grind⟩
  obtain ⟨N1, vN1, bN1, eN1⟩ : ∃ r, Val (den E (.bin 1 (y1T b0 b1) (.bin 2 u12T (x2T b0 b1 b2)))) r ∧ (-(425 / 100 * B) ≤ r ∧ r ≤ 425 / 100 * B) ∧ -(86 / 100000000 * B) ≤ r - (Y1 - U12 * x2) ∧ r - (Y1 - U12 * x2) ≤ 86 / 100000000 * B := by
    obtain ⟨r, vr, ⟨m1, m2⟩, r1, r2⟩ := mulsub_step (xu := den E (y1T b0 b1)) (xl := den E u12T) (xw := den E (x2T b0 b1 b2)) vY1 F.vU12 vx2 (1122 / 100) (2531 / 10000 * B) (14013 / 10000 * B) (284 / 100 * B) (42414 / 10000 * B) F.bU12.1 F.bU12.2 bx2.1 bx2.2 bY1.1 bY1.2 (by grind) (by grind) (by grind) (by grind) (by grind)
    clear eY1 eZ2 eY2 ex2
    exact ⟨r, vr, ⟨by grind, by grind⟩, by grind, by grind⟩
  obtain ⟨x1, vx1, bx1, ex1⟩ : ∃ r, Val (den E (x1T b0 b1 b2)) r ∧ (-(2541 / 10000 * B) ≤ r ∧ r ≤ 2541 / 10000 * B) ∧ -(96 / 100000000 * B) ≤ r * U11 - N1 ∧ r * U11 - N1 ≤ 96 / 100000000 * B := by
    obtain ⟨q, vq, ⟨q1, q2⟩, q3, q4⟩ := quo_step (x := den E (.bin 1 (y1T b0 b1) (.bin 2 u12T (x2T b0 b1 b2)))) (y := den E u11T) vN1 F.vU11 (1678 / 100) (3123 / 100) (425 / 100 * B) (254 / 1000 * B) (by decide +kernel) F.bU11.1 F.bU11.2 bN1.1 bN1.2 (by grind) (by grind) (by grind)
    clear eY1 eZ2 eY2 ex2 eN1
    exact ⟨q, vq, ⟨by grind, by grind⟩, by grind, by grind⟩
  obtain ⟨M0, vM0, bM0, eM0⟩ : ∃ r, Val (den E (.bin 1 b0 (.bin 2 (.arg 1) (x1T b0 b1 b2)))) r ∧ (-(3034 / 1000 * B) ≤ r ∧ r ≤ 3034 / 1000 * B) ∧ -(61 / 100000000 * B) ≤ r - (c0 - a 1 * x1) ∧ r - (c0 - a 1 * x1) ≤ 61 / 100000000 * B := by
    obtain ⟨r, vr, ⟨m1, m2⟩, r1, r2⟩ := mulsub_step (xu := den E b0) (xl := E.arg 1) (xw := den E (x1T b0 b1 b2)) vb0 (h.val 1 (by decide)) vx1 8 (2541 / 10000 * B) B (2033 / 1000 * B) (3034 / 1000 * B) h.o1.1 h.o1.2 bx1.1 bx1.2 h0.1 h0.2 (by grind) (by grind) (by grind) (by grind) (by grind)
    clear eY1 eZ2 eY2 ex2 eN1 ex1
    exact ⟨r, vr, ⟨by grind, by grind⟩, by grind, by grind⟩
  obtain ⟨N0, vN0, bN0, eN0⟩ : ∃ r, Val (den E (.bin 1 (.bin 1 b0 (.bin 2 (.arg 1) (x1T b0 b1 b2))) (.bin 2 (.arg 2) (x2T b0 b1 b2)))) r ∧ (-(506 / 100 * B) ≤ r ∧ r ≤ 506 / 100 * B) ∧ -(86 / 100000000 * B) ≤ r - (M0 - a 2 * x2) ∧ r - (M0 - a 2 * x2) ≤ 86 / 100000000 * B := by
    obtain ⟨r, vr, ⟨m1, m2⟩, r1, r2⟩ := mulsub_step (xu := den E (.bin 1 b0 (.bin 2 (.arg 1) (x1T b0 b1 b2)))) (xl := E.arg 2) (xw := den E (x2T b0 b1 b2)) vM0 (h.val 2 (by decide)) vx2 8 (2531 / 10000 * B) (3034 / 1000 * B) (2025 / 1000 * B) (506 / 100 * B) h.o2.1 h.o2.2 bx2.1 bx2.2 bM0.1 bM0.2 (by grind) (by grind) (by grind) (by grind) (by grind)
    clear eY1 eZ2 eY2 ex2 eN1 ex1 eM0
    exact ⟨r, vr, ⟨by grind, by grind⟩, by grind, by grind⟩
  obtain ⟨x0, vx0, bx0, ex0⟩ : ∃ r, Val (den E (x0T b0 b1 b2)) r ∧ (-(2541 / 10000 * B) ≤ r ∧ r ≤ 2541 / 10000 * B) ∧ -(86 / 100000000 * B) ≤ r * a 0 - N0 ∧ r * a 0 - N0 ≤ 86 / 100000000 * B := by
    obtain ⟨q, vq, ⟨q1, q2⟩, q3, q4⟩ := quo_step (x := den E (.bin 1 (.bin 1 b0 (.bin 2 (.arg 1) (x1T b0 b1 b2))) (.bin 2 (.arg 2) (x2T b0 b1 b2)))) (y := E.arg 0) vN0 (h.val 0 (by decide)) (1999 / 100) (2801 / 100) (506 / 100 * B) (254 / 1000 * B) (by decide +kernel) h.d0.1 h.d0.2 bN0.1 bN0.2 (by grind) (by grind) (by grind)
    clear eY1 eZ2 eY2 ex2 eN1 ex1 eM0 eN0
    exact ⟨q, vq, ⟨by grind, by grind⟩, by grind, by grind⟩
  -- what is left over
  obtain ⟨i0, i1, i2, i3⟩ := @rows_pure (a 0) (a 1) (a 2) (a 3) (a 4) (a 5) (a 6) (a 7) (a 8) c0 c1 c2 L1 L2 L3 U11 U12 V21 V22 U22 Y1 Z2 Y2 x0 x1 x2 N1 M0 N0
  have X0 : -(2541 / 10000 * B) ≤ x0 ∧ x0 ≤ 2541 / 10000 * B := bx0
  have X2 : -(2541 / 10000 * B) ≤ x2 ∧ x2 ≤ 2541 / 10000 * B := ⟨by have := bx2.1; grind, by have := bx2.2; grind⟩
  have R0 : -(233 / 100000000 * B) ≤ a 0 * x0 + a 1 * x1 + a 2 * x2 - c0 ∧ a 0 * x0 + a 1 * x1 + a 2 * x2 - c0 ≤ 233 / 100000000 * B := by
    rw [i0]
    generalize x0 * a 0 - N0 = v1 at *
    generalize N0 - (M0 - a 2 * x2) = v2 at *
    generalize M0 - (c0 - a 1 * x1) = v3 at *
    obtain ⟨p1, p2⟩ := ex0
    obtain ⟨p3, p4⟩ := eN0
    obtain ⟨p5, p6⟩ := eM0
    clear i1 i2 i3
    constructor <;> grind
  have S1 : -(182 / 100000000 * B) ≤ (x1 * U11 - N1) + (N1 - (Y1 - U12 * x2)) ∧ (x1 * U11 - N1) + (N1 - (Y1 - U12 * x2)) ≤ 182 / 100000000 * B := by
    obtain ⟨p1, p2⟩ := ex1
    obtain ⟨p3, p4⟩ := eN1
    generalize x1 * U11 - N1 = v1 at *
    generalize N1 - (Y1 - U12 * x2) = v2 at *
    clear i0 i1 i2 i3
    constructor <;> grind
  have R1 := comb F.bL1 R0 S1 F.eL1 F.eU11 F.eU12 X0 bx1 X2 eY1 (C := 1 / 100000 * B) (by grind)
  rw [← i1] at R1
  have Tt := comb F.bL3 S1 ex2 (show -(0 : Rat) ≤ 0 ∧ (0 : Rat) ≤ 0 from ⟨by decide +kernel, by decide +kernel⟩) F.eL3 F.eU22 X0 bx1 X2 eY2 (C := 492 / 100000000 * B) (by grind)
  rw [← i3] at Tt
  have R2 := comb F.bL2 R0 Tt F.eL2 F.eV21 F.eV22 X0 bx1 X2 eZ2 (C := 1 / 100000 * B) (by grind)
  rw [← i2] at R2
  exact ⟨x0, x1, x2, ⟨Y1, vY1⟩, ⟨Z2, vZ2⟩, ⟨Y2, vY2⟩, vx0, vx1, vx2, ⟨by have := bx0.1; grind, by have := bx0.2; grind⟩, ⟨by have := bx1.1; grind, by have := bx1.2; grind⟩, ⟨by have := bx2.1; grind, by have := bx2.2; grind⟩, ⟨by have := R0.1; grind, by have := R0.2; grind⟩, R1, R2⟩
end Go.Sx

/-   Functions known on given cells: what they give was found by a run beforehand. Conditions: none. -/
namespace Go.Sx
open Go.RowKit

def cells (ts : List T) : List SV := ts.map (.flt .f32 ·)
def cellsB : List SV → List T → Bool
  | [], [] => true
  | .flt k u :: l, t :: ts => Nat.beq (fk k) (fk .f32) && (T.beq u t && cellsB l ts)
  | _, _ => false
theorem cellsB_spec : ∀ {l : List SV} {ts : List T}, cellsB l ts = true → l = cells ts
  | [], [], _ => rfl
  | s :: l, [], h => by cases s <;> cases h
  | [], _ :: _, h => by cases h
  | s :: l, t :: ts, h => by
    cases s with
    | flt k u =>
      simp only [cellsB, Bool.and_eq_true] at h
      rw [fk_inj h.1, T.beq_eq h.2.1, cellsB_spec h.2.2]; rfl
    | _ => cases h

def isCells (ts : List T) : V → Bool
  | .agg l => cellsB l ts
  | _ => false
theorem isCells_spec {ts : List T} {v : V} (h : isCells ts v = true) : v = .agg (cells ts) := by
  unfold isCells at h
  split at h
  · rw [cellsB_spec h]
  · cases h

/-- Cells and a code. -/
def isTup (ts : List T) (n : Nat) : V → Facts → Bool
  | .tup v (.sc (.int .i64 (.ofNat m))), _ => isCells ts v && Nat.beq m n
  | _, _ => false
theorem isTup_spec {ts : List T} {n : Nat} {v : V} {fs : Facts} (h : isTup ts n v fs = true) : v = .tup (.agg (cells ts)) (.sc (.int .i64 n)) := by
  unfold isTup at h
  split at h
  · simp only [Bool.and_eq_true] at h
    rw [isCells_spec h.1, Nat.eq_of_beq_eq_true h.2]; rfl
  · cases h

theorem cells_noPtr (ts : List T) : (cells ts).all noPtrS = true := by
  induction ts with
  | nil => rfl
  | cons t ts ih => exact ih

/-- Cells of the same values. -/
theorem cells_same {E : Env} {β : Beta} : ∀ {ts us : List T} {r : List Value}, ts.map (den E) = us.map (den E) → LRel E β (cells ts) r → LRel E β (cells us) r
  | [], [], _, _, h => h
  | [], _ :: _, _, h, _ => by cases h
  | _ :: _, [], _, h, _ => by cases h
  | t :: ts, u :: us, r, h, hr => by
    simp only [List.map_cons, List.cons.injEq] at h
    match r, hr with
    | [], hr => have := hr.1; simp [cells] at this
    | v :: r, hr =>
      obtain ⟨b, rfl, hb⟩ := hr.2 0 _ v rfl rfl
      exact LRel.cons ⟨b, rfl, hb.trans h.1⟩ (cells_same h.2 ⟨by have := hr.1; simpa [cells] using this, fun i s w h1 h2 => hr.2 (i + 1) s w (by simpa [cells] using h1) (by simpa using h2)⟩)

def outV (o : List T) (n : Nat) : V := .tup (.agg (cells o)) (.sc (.int .i64 n))
theorem outV_noPtr (o : List T) (n : Nat) : noPtr (outV o n) = true := by
  show ((cells o).all noPtrS && true) = true
  rw [cells_noPtr]; rfl

/-- On these cells, the function gives these. -/
def Runs (E : Env) (P : Program) (f : FuncId) (ins : List (List T)) (o : List T) (n : Nat) : Prop :=
  ∀ (β : Beta) (vals : List Value) (W : World), VsRel E β (ins.map fun l => .agg (cells l)) vals → E.inv W → CallRuns P f vals.toArray W fun v W' => Gr W W' ∧ VRel E β (outV o n) v

theorem vsRel_noPtr {E : Env} {β β' : Beta} {l : List V} {vals : List Value} (hn : l.all noPtr = true) (h : VsRel E β l vals) : VsRel E β' l vals :=
  ⟨h.1, fun i s v h1 h2 => (h.2 i s v h1 h2).noPtr (List.all_eq_true.1 hn s (List.mem_of_getElem? h1))⟩

theorem ins_noPtr (ins : List (List T)) : (ins.map fun l => V.agg (cells l)).all noPtr = true := by
  induction ins with
  | nil => rfl
  | cons l ls ih =>
    show ((cells l).all noPtrS && _) = true
    rw [cells_noPtr]; exact ih

theorem runs_ok {E : Env} {P : Program} (hm : P.follows .mixedOrders = true) (hN : ∀ (f : FuncId) (fn : Func), P.funcs[f]? = some fn → (fn.name == "runtime.NumGoroutine") = false)
    {S : FuncId → List V → Option Known} (hS : SumOK E P S) {k : Nat} {f : FuncId} {fs : Facts} {ins : List (List T)} {o o' : List T} {n : Nat}
    (h : runA P S k f (ins.map fun l => .agg (cells l)) fs (isTup o' n) = true) (hf : FactsOK E fs) (ho : o'.map (den E) = o.map (den E)) : Runs E P f ins o n := by
  intro β vals W hv hi
  obtain ⟨fn, c, hfn, hbody⟩ := runA_body h
  obtain ⟨sv, fs', h1, _, h3⟩ := runA_sound hm hN hS h hf
  have := isTup_spec h1
  subst this
  refine callRuns_of_calls hN hfn hbody ((h3 vals W (vsRel_noPtr (ins_noPtr ins) hv) hi).mono fun e W' ⟨v, he, hr, hg⟩ => ⟨v, he, hg, ?_⟩)
  have hr' : VRel E β (outV o' n) v := VRel.noPtr (outV_noPtr o' n) hr
  obtain ⟨x, y, hxy, ⟨arr, hx, hl⟩, hy⟩ := hr'
  exact ⟨x, y, hxy, ⟨arr, hx, cells_same ho hl⟩, hy⟩

abbrev Entry := List (List T) × List T × Nat
def insB : List V → List (List T) → Bool
  | [], [] => true
  | v :: vs, l :: ls => isCells l v && insB vs ls
  | _, _ => false
theorem insB_spec : ∀ {vs : List V} {ls : List (List T)}, insB vs ls = true → vs = ls.map fun l => .agg (cells l)
  | [], [], _ => rfl
  | _ :: _, [], h => by cases h
  | [], _ :: _, h => by cases h
  | v :: vs, l :: ls, h => by
    simp only [insB, Bool.and_eq_true] at h
    rw [isCells_spec h.1, insB_spec h.2]; rfl

/-- The table of a function's runs. -/
def tabK : List Entry → List V → Option Known
  | [], _ => none
  | (ins, o, n) :: r, args => if insB args ins then some (.val (outV o n)) else tabK r args

theorem tabK_ok {E : Env} {P : Program} {f : FuncId} : ∀ {es : List Entry}, (∀ e ∈ es, Runs E P f e.1 e.2.1 e.2.2) → ∀ {args : List V} {kn : Known}, tabK es args = some kn →
    ∀ {β : Beta} {vals : List Value} {W : World}, VsRel E β args vals → E.inv W → CallRuns P f vals.toArray W fun v W' => Gr W W' ∧ KnownRel E β kn v
  | [], _, _, _, h, _, _, _, _, _ => by cases h
  | (ins, o, n) :: r, hes, args, kn, h, β, vals, W, hv, hi => by
    unfold tabK at h
    split at h
    · rename_i hb
      cases h
      rw [insB_spec hb] at hv
      exact hes _ (List.mem_cons_self ..) β vals W hv hi
    · exact tabK_ok (fun e he => hes e (List.mem_cons_of_mem _ he)) h hv hi

/-- Terms over the first arguments. -/
def below (n : Nat) : T → Bool
  | .arg i => Nat.blt i n
  | .lit _ _ => true
  | .bin _ x y => below n x && below n y
  | .neg _ x => below n x
  | .wide x => below n x
  | .narrow x => below n x
  | .f1 _ x => below n x
  | .f2 _ x y => below n x && below n y
  | .mm _ x y => below n x && below n y
  | .abs _ x => below n x
theorem den_below {E E' : Env} {n : Nat} (ha : ∀ i, i < n → E.arg i = E'.arg i) (h1 : E.f1 = E'.f1) (h2 : E.f2 = E'.f2) : ∀ {t : T}, below n t = true → den E t = den E' t := by
  intro t
  induction t with
  | arg i => intro h; exact ha i (Nat.le_of_ble_eq_true h)
  | lit k b => intro _; rfl
  | bin c x y ihx ihy => intro h; simp only [below, Bool.and_eq_true] at h; simp only [den, ihx h.1, ihy h.2]
  | neg k x ih => intro h; simp only [den, ih h]
  | wide x ih => intro h; simp only [den, ih h]
  | narrow x ih => intro h; simp only [den, ih h]
  | f1 g x ih => intro h; simp only [den, ih h, h1]
  | f2 g x y ihx ihy => intro h; simp only [below, Bool.and_eq_true] at h; simp only [den, ihx h.1, ihy h.2, h2]
  | mm c x y ihx ihy => intro h; simp only [below, Bool.and_eq_true] at h; simp only [den, ihx h.1, ihy h.2]
  | abs k x ih => intro h; simp only [den, ih h]
end Go.Sx

/-   Systems of three numbers, solved: what the run asks, and what is near. Conditions: none. -/
namespace Go.Sx
open Ieee

def fin (t : T) : Atom × Bool := ((.cmp 0 .f32 (.bin 1 t t) (.lit .f32 0)), true)
theorem fin_ok {E : Env} {t : T} {r : Rat} (h : Val (den E t) r) : holds E (fin t).1 = (fin t).2 := by
  show (cord .f32 (cbin .sub .f32 (den E t) (den E t)) (canon .f32 0) == some .eq) = true
  rw [(val_ord (sub_self_val h) zero_val).2.1 rfl]; rfl
theorem facts_fin {E : Env} {t : T} {r : Rat} {fs : Facts} (h : Val (den E t) r) (hf : FactsOK E fs) : FactsOK E (fin t :: fs) := facts_cons (fin_ok h) hf

theorem not_gtr {x y : CF} {a b K : Rat} (hx : Val x a) (hy : Val y b) (h1 : -K ≤ a) (h2 : a ≤ K) (h3 : K ≤ b) : ccmp .gtr .f32 (cabs .f32 x) (cabs .f32 y) = false := by
  obtain ⟨r, vr, hr, er⟩ := val_abs hx
  obtain ⟨s, vs, hs, es⟩ := val_abs hy
  have hle : r ≤ s := by
    rcases er with rfl | rfl <;> rcases es with rfl | rfl <;> grind
  obtain ⟨o1, o2, _⟩ := val_ord vr vs
  show (cord .f32 _ _ == some .gt) = false
  rcases (show r < s ∨ r = s by grind) with h | h
  · rw [o1 h]; rfl
  · rw [o2 h]; rfl
theorem gtr_zero {x : CF} {a : Rat} (hx : Val x a) (h : 0 < a) : ccmp .gtr .f32 x (canon .f32 0) = true := by
  show (cord .f32 _ _ == some .gt) = true
  rw [(val_ord hx zero_val).2.2 h]; rfl
theorem not_zero {x : CF} {a : Rat} (hx : Val x a) (h : 0 < a) : ccmp .eql .f32 x (canon .f32 0) = false := by
  show (cord .f32 _ _ == some .eq) = false
  rw [(val_ord hx zero_val).2.2 h]; rfl

def matFin : Facts := [fin (.arg 0), fin (.arg 1), fin (.arg 2), fin (.arg 3), fin (.arg 4), fin (.arg 5), fin (.arg 6), fin (.arg 7), fin (.arg 8)]
def facFacts : Facts := [((.cmp 3 .f32 (.abs .f32 (.arg 3)) (.abs .f32 (.arg 0))), false), ((.cmp 3 .f32 (.abs .f32 (.arg 6)) (.abs .f32 (.arg 0))), false), ((.cmp 0 .f32 (.arg 0) (.lit .f32 0)), false),
  fin l1T, fin u11T, fin u12T, fin l2T, fin v21T, fin v22T, ((.cmp 3 .f32 (.abs .f32 v21T) (.abs .f32 u11T)), false), ((.cmp 0 .f32 u11T (.lit .f32 0)), false), fin l3T, fin u22T, ((.cmp 0 .f32 u22T (.lit .f32 0)), false)]
def rhsFacts (b0 b1 b2 : T) : Facts := [fin b0, fin b1, fin b2, fin (y1T b0 b1), fin (z2T b0 b2), fin (y2T b0 b1 b2), fin (x2T b0 b1 b2), fin (x1T b0 b1 b2), fin (x0T b0 b1 b2)]

theorem mat_fin {E : Env} {a : Nat → Rat} (h : MatV E a) : FactsOK E matFin :=
  facts_fin (t := .arg 0) (h.val 0 (by decide)) <| facts_fin (t := .arg 1) (h.val 1 (by decide)) <| facts_fin (t := .arg 2) (h.val 2 (by decide)) <| facts_fin (t := .arg 3) (h.val 3 (by decide)) <| facts_fin (t := .arg 4) (h.val 4 (by decide)) <|
  facts_fin (t := .arg 5) (h.val 5 (by decide)) <| facts_fin (t := .arg 6) (h.val 6 (by decide)) <| facts_fin (t := .arg 7) (h.val 7 (by decide)) <| facts_fin (t := .arg 8) (h.val 8 (by decide)) facts_nil

theorem fac_facts {E : Env} {a : Nat → Rat} (h : MatV E a) {L1 L2 L3 U11 U12 V21 V22 U22 : Rat} (F : Fac E a L1 L2 L3 U11 U12 V21 V22 U22) : FactsOK E facFacts := by
  have p0 := h.d0
  have p1 := F.bU11
  have p2 := F.bU22
  refine facts_cons (not_gtr (K := 8) (h.val 3 (by decide)) (h.val 0 (by decide)) h.o3.1 h.o3.2 (by grind)) ?_
  refine facts_cons (not_gtr (K := 8) (h.val 6 (by decide)) (h.val 0 (by decide)) h.o6.1 h.o6.2 (by grind)) ?_
  refine facts_cons (not_zero (h.val 0 (by decide)) (by grind)) ?_
  refine facts_fin F.vL1 <| facts_fin F.vU11 <| facts_fin F.vU12 <| facts_fin F.vL2 <| facts_fin F.vV21 <| facts_fin F.vV22 ?_
  refine facts_cons (not_gtr (K := 1122 / 100) F.vV21 F.vU11 F.bV21.1 F.bV21.2 (by grind)) ?_
  refine facts_cons (not_zero F.vU11 (by grind)) ?_
  refine facts_fin F.vL3 <| facts_fin F.vU22 ?_
  exact facts_cons (not_zero F.vU22 (by grind)) facts_nil

theorem rhs_facts {E : Env} {a : Nat → Rat} {b0 b1 b2 : T} {c0 c1 c2 B x0 x1 x2 : Rat} (S : Sol E a b0 b1 b2 c0 c1 c2 B x0 x1 x2) (vb0 : Val (den E b0) c0) (vb1 : Val (den E b1) c1) (vb2 : Val (den E b2) c2) : FactsOK E (rhsFacts b0 b1 b2) := by
  obtain ⟨_, y1⟩ := S.vy1
  obtain ⟨_, z2⟩ := S.vz2
  obtain ⟨_, y2⟩ := S.vy2
  exact facts_fin vb0 <| facts_fin vb1 <| facts_fin vb2 <| facts_fin y1 <| facts_fin z2 <| facts_fin y2 <| facts_fin S.v2 <| facts_fin S.v1 <| facts_fin S.v0 facts_nil

def solveFacts (b0 b1 b2 : T) : Facts := matFin ++ (facFacts ++ rhsFacts b0 b1 b2)
theorem solve_facts {E : Env} {a : Nat → Rat} (h : MatV E a) {L1 L2 L3 U11 U12 V21 V22 U22 : Rat} (F : Fac E a L1 L2 L3 U11 U12 V21 V22 U22) {b0 b1 b2 : T} {c0 c1 c2 B x0 x1 x2 : Rat} (S : Sol E a b0 b1 b2 c0 c1 c2 B x0 x1 x2)
    (vb0 : Val (den E b0) c0) (vb1 : Val (den E b1) c1) (vb2 : Val (den E b2) c2) : FactsOK E (solveFacts b0 b1 b2) :=
  facts_app (mat_fin h) (facts_app (fac_facts h F) (rhs_facts S vb0 vb1 vb2))

/-! ### Sums of three products, near -/
def dotT (p q r s t u : T) : T := .bin 0 (.bin 0 (.bin 2 p q) (.bin 2 r s)) (.bin 2 t u)
def nearF (d t : T) (b : Nat) : Atom × Bool := ((.cmp 2 .f32 (.abs .f32 (.bin 1 d t)) (.lit .f32 b)), true)

theorem dot_val {E : Env} {p q r s t u : T} {p' q' r' s' t' u' A1 A2 A3 S : Rat} (vp : Val (den E p) p') (vq : Val (den E q) q') (vr : Val (den E r) r') (vs : Val (den E s) s') (vt : Val (den E t) t') (vu : Val (den E u) u')
    (h1 : -A1 ≤ p' * q' ∧ p' * q' ≤ A1) (h2 : -A2 ≤ r' * s' ∧ r' * s' ≤ A2) (h3 : -A3 ≤ t' * u' ∧ t' * u' ≤ A3) (hS : A1 + A2 + A3 ≤ S) (hS1 : 1 / 1000 ≤ S) (hS2 : S ≤ 100000) :
    ∃ d, Val (den E (dotT p q r s t u)) d ∧ -(S * (4 / 10000000)) ≤ d - (p' * q' + r' * s' + t' * u') ∧ d - (p' * q' + r' * s' + t' * u') ≤ S * (4 / 10000000) := by
  obtain ⟨w1, v1, a1, a2⟩ := mul_off vp vq A1 h1.1 h1.2 (by grind)
  obtain ⟨w2, v2, a3, a4⟩ := mul_off vr vs A2 h2.1 h2.2 (by grind)
  obtain ⟨w3, v3, a5, a6⟩ := mul_off vt vu A3 h3.1 h3.2 (by grind)
  generalize p' * q' = z1 at *
  generalize r' * s' = z2 at *
  generalize t' * u' = z3 at *
  obtain ⟨w4, v4, a7, a8⟩ := add_off v1 v2 (S * (101 / 100)) (by grind) (by grind) (by grind)
  obtain ⟨w5, v5, a9, a10⟩ := add_off v4 v3 (S * (102 / 100)) (by grind) (by grind) (by grind)
  exact ⟨w5, v5, by grind, by grind⟩

theorem dot_near {E : Env} {p q r s t u c : T} {p' q' r' s' t' u' c' A1 A2 A3 S η b : Rat} {l : Nat} (vp : Val (den E p) p') (vq : Val (den E q) q') (vr : Val (den E r) r') (vs : Val (den E s) s') (vt : Val (den E t) t') (vu : Val (den E u) u') (vc : Val (den E c) c')
    (h1 : -A1 ≤ p' * q' ∧ p' * q' ≤ A1) (h2 : -A2 ≤ r' * s' ∧ r' * s' ≤ A2) (h3 : -A3 ≤ t' * u' ∧ t' * u' ≤ A3) (hS : A1 + A2 + A3 ≤ S) (hS1 : 1 / 1000 ≤ S) (hS2 : S ≤ 100000)
    (hη : -η ≤ p' * q' + r' * s' + t' * u' - c' ∧ p' * q' + r' * s' + t' * u' - c' ≤ η) (vl : Val (canon .f32 l) b) (hb : η + S * (5 / 10000000) ≤ b * (99 / 100)) (hb1 : b ≤ 1) (hb0 : 1 / 10000 ≤ b) : holds E (nearF (dotT p q r s t u) c l).1 = (nearF (dotT p q r s t u) c l).2 := by
  obtain ⟨d, vd, d1, d2⟩ := dot_val vp vq vr vs vt vu h1 h2 h3 hS hS1 hS2
  generalize p' * q' + r' * s' + t' * u' = z at *
  obtain ⟨e, ve, e1, e2⟩ := sub_off (x := den E (dotT p q r s t u)) (y := den E c) vd vc (b * (999 / 1000)) (by grind) (by grind) (by grind)
  refine size_leq (x := cbin .sub .f32 (den E (dotT p q r s t u)) (den E c)) ve vl ?_ ?_ <;> grind
end Go.Sx
