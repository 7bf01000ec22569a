/-
  The symbolic executor, texts 40 to 45. Conditions: none.
-/
import Derived.Test.YtcoediecgmdkpaaSx39
/-   What is solved is taken to what is given, and an inverse is one on both sides: near. Conditions: none. -/
namespace Go.Sx
open Ieee

theorem MatV.all {E : Env} {a : Nat → Rat} (h : MatV E a) : ∀ i, i < 9 → -(2801 / 100) ≤ a i ∧ a i ≤ 2801 / 100 := by
  intro i hi
  have h0 := h.d0; have h1 := h.o1; have h2 := h.o2; have h3 := h.o3; have h4 := h.d4; have h5 := h.o5; have h6 := h.o6; have h7 := h.o7; have h8 := h.d8
  match i, hi with
  | 0, _ => exact ⟨by grind, h0.2⟩
  | 1, _ => exact ⟨by grind, by grind⟩
  | 2, _ => exact ⟨by grind, by grind⟩
  | 3, _ => exact ⟨by grind, by grind⟩
  | 4, _ => exact ⟨by grind, h4.2⟩
  | 5, _ => exact ⟨by grind, by grind⟩
  | 6, _ => exact ⟨by grind, by grind⟩
  | 7, _ => exact ⟨by grind, by grind⟩
  | 8, _ => exact ⟨by grind, h8.2⟩

/-- Three numbers that solve a system, from argument i on. -/
structure XV (E : Env) (a : Nat → Rat) (i : Nat) (c0 c1 c2 B x0 x1 x2 : Rat) : Prop where
  v0 : Val (E.arg i) x0
  v1 : Val (E.arg (i + 1)) x1
  v2 : Val (E.arg (i + 2)) x2
  b0 : -(26 / 100 * B) ≤ x0 ∧ x0 ≤ 26 / 100 * B
  b1 : -(26 / 100 * B) ≤ x1 ∧ x1 ≤ 26 / 100 * B
  b2 : -(26 / 100 * B) ≤ x2 ∧ x2 ≤ 26 / 100 * B
  r0 : -(1 / 100000 * B) ≤ a 0 * x0 + a 1 * x1 + a 2 * x2 - c0 ∧ a 0 * x0 + a 1 * x1 + a 2 * x2 - c0 ≤ 1 / 100000 * B
  r1 : -(1 / 100000 * B) ≤ a 3 * x0 + a 4 * x1 + a 5 * x2 - c1 ∧ a 3 * x0 + a 4 * x1 + a 5 * x2 - c1 ≤ 1 / 100000 * B
  r2 : -(1 / 100000 * B) ≤ a 6 * x0 + a 7 * x1 + a 8 * x2 - c2 ∧ a 6 * x0 + a 7 * x1 + a 8 * x2 - c2 ≤ 1 / 100000 * B

theorem Sol.xv {E : Env} {a : Nat → Rat} {b0 b1 b2 : T} {c0 c1 c2 B x0 x1 x2 : Rat} (S : Sol E a b0 b1 b2 c0 c1 c2 B x0 x1 x2) {i : Nat} (h0 : E.arg i = den E (x0T b0 b1 b2)) (h1 : E.arg (i + 1) = den E (x1T b0 b1 b2)) (h2 : E.arg (i + 2) = den E (x2T b0 b1 b2)) :
    XV E a i c0 c1 c2 B x0 x1 x2 :=
  ⟨by rw [h0]; exact S.v0, by rw [h1]; exact S.v1, by rw [h2]; exact S.v2, S.b0, S.b1, S.b2, S.r0, S.r1, S.r2⟩

theorem prod_bd {a x B : Rat} (h : -(2801 / 100) ≤ a ∧ a ≤ 2801 / 100) (k : -(26 / 100 * B) ≤ x ∧ x ≤ 26 / 100 * B) : -(729 / 100 * B) ≤ a * x ∧ a * x ≤ 729 / 100 * B := by
  obtain ⟨m1, m2⟩ := mul_bd h.1 h.2 k.1 k.2
  have hB : 0 ≤ B := by obtain ⟨k1, k2⟩ := k; grind
  generalize a * x = z at *
  constructor <;> grind

/-- A row of the matrix, with what was solved. -/
theorem row_near {E : Env} {p r t c : T} {i : Nat} {p' r' t' c' B x0 x1 x2 : Rat} (hB1 : 1 ≤ B) (hB2 : B ≤ 8) (vp : Val (den E p) p') (vr : Val (den E r) r') (vt : Val (den E t) t') (vc : Val (den E c) c')
    (bp : -(2801 / 100) ≤ p' ∧ p' ≤ 2801 / 100) (br : -(2801 / 100) ≤ r' ∧ r' ≤ 2801 / 100) (bt : -(2801 / 100) ≤ t' ∧ t' ≤ 2801 / 100) (v0 : Val (E.arg i) x0) (v1 : Val (E.arg (i + 1)) x1) (v2 : Val (E.arg (i + 2)) x2)
    (b0 : -(26 / 100 * B) ≤ x0 ∧ x0 ≤ 26 / 100 * B) (b1 : -(26 / 100 * B) ≤ x1 ∧ x1 ≤ 26 / 100 * B) (b2 : -(26 / 100 * B) ≤ x2 ∧ x2 ≤ 26 / 100 * B) (h : -(1 / 100000 * B) ≤ p' * x0 + r' * x1 + t' * x2 - c' ∧ p' * x0 + r' * x1 + t' * x2 - c' ≤ 1 / 100000 * B) :
    holds E (nearF (dotT p (.arg i) r (.arg (i + 1)) t (.arg (i + 2))) c 981668463).1 = (nearF (dotT p (.arg i) r (.arg (i + 1)) t (.arg (i + 2))) c 981668463).2 :=
  dot_near (q := .arg i) (s := .arg (i + 1)) (u := .arg (i + 2)) (S := 2187 / 100 * B) vp v0 vr v1 vt v2 vc (prod_bd bp b0) (prod_bd br b1) (prod_bd bt b2) (by grind) (by grind) (by grind) h litM_val (by unfold litM; grind) (by decide +kernel) (by decide +kernel)

theorem rows_near {E : Env} {a : Nat → Rat} (h : MatV E a) {i : Nat} {t0 t1 t2 : T} {c0 c1 c2 B x0 x1 x2 : Rat} (X : XV E a i c0 c1 c2 B x0 x1 x2) (hB1 : 1 ≤ B) (hB2 : B ≤ 8) (w0 : Val (den E t0) c0) (w1 : Val (den E t1) c1) (w2 : Val (den E t2) c2) :
    FactsOK E [nearF (dotT (.arg 6) (.arg i) (.arg 7) (.arg (i + 1)) (.arg 8) (.arg (i + 2))) t2 981668463, nearF (dotT (.arg 3) (.arg i) (.arg 4) (.arg (i + 1)) (.arg 5) (.arg (i + 2))) t1 981668463, nearF (dotT (.arg 0) (.arg i) (.arg 1) (.arg (i + 1)) (.arg 2) (.arg (i + 2))) t0 981668463] := by
  have ha := h.all
  have hv := h.val
  refine facts_cons (row_near (p := .arg 6) (r := .arg 7) (t := .arg 8) hB1 hB2 (hv 6 (by decide)) (hv 7 (by decide)) (hv 8 (by decide)) w2 (ha 6 (by decide)) (ha 7 (by decide)) (ha 8 (by decide)) X.v0 X.v1 X.v2 X.b0 X.b1 X.b2 X.r2) ?_
  refine facts_cons (row_near (p := .arg 3) (r := .arg 4) (t := .arg 5) hB1 hB2 (hv 3 (by decide)) (hv 4 (by decide)) (hv 5 (by decide)) w1 (ha 3 (by decide)) (ha 4 (by decide)) (ha 5 (by decide)) X.v0 X.v1 X.v2 X.b0 X.b1 X.b2 X.r1) ?_
  exact facts_cons (row_near (p := .arg 0) (r := .arg 1) (t := .arg 2) hB1 hB2 (hv 0 (by decide)) (hv 1 (by decide)) (hv 2 (by decide)) w0 (ha 0 (by decide)) (ha 1 (by decide)) (ha 2 (by decide)) X.v0 X.v1 X.v2 X.b0 X.b1 X.b2 X.r0) facts_nil

/-! ### A heavy diagonal -/
theorem size_of (f : Rat) : ∃ t, 0 ≤ t ∧ (f = t ∨ f = -t) := by
  by_cases h : 0 ≤ f
  · exact ⟨f, h, .inl rfl⟩
  · exact ⟨-f, by grind, .inr (by grind)⟩

theorem dd_row {a b c f u v t s r G : Rat} (ha : 1999 / 100 ≤ a) (hb : -8 ≤ b ∧ b ≤ 8) (hc : -8 ≤ c ∧ c ≤ 8) (h : -G ≤ a * f + b * u + c * v ∧ a * f + b * u + c * v ≤ G) (ht : 0 ≤ t) (hs : 0 ≤ s) (hr : 0 ≤ r)
    (hf : f = t ∨ f = -t) (hu : u = s ∨ u = -s) (hv : v = r ∨ v = -r) : 1999 / 100 * t ≤ G + 8 * s + 8 * r := by
  obtain ⟨p1, p2⟩ := mul_bd (x := b) (y := u) (X := 8) (Y := s) hb.1 hb.2 (by grind) (by grind)
  obtain ⟨p3, p4⟩ := mul_bd (x := c) (y := v) (X := 8) (Y := r) hc.1 hc.2 (by grind) (by grind)
  have p5 := Rat.mul_le_mul_of_nonneg_right ha ht
  have p6 : a * f = a * t ∨ a * f = -(a * t) := by
    rcases hf with rfl | rfl
    · exact .inl rfl
    · exact .inr (by grind)
  generalize b * u = z1 at *
  generalize c * v = z2 at *
  generalize a * f = z3 at *
  generalize a * t = z4 at *
  obtain ⟨h1, h2⟩ := h
  clear hb hc hf hu hv
  rcases p6 with rfl | rfl <;> grind

theorem dd {a0 a1 a2 a3 a4 a5 a6 a7 a8 f0 f1 f2 G : Rat} (h0 : 1999 / 100 ≤ a0) (h4 : 1999 / 100 ≤ a4) (h8 : 1999 / 100 ≤ a8) (h1 : -8 ≤ a1 ∧ a1 ≤ 8) (h2 : -8 ≤ a2 ∧ a2 ≤ 8) (h3 : -8 ≤ a3 ∧ a3 ≤ 8) (h5 : -8 ≤ a5 ∧ a5 ≤ 8) (h6 : -8 ≤ a6 ∧ a6 ≤ 8) (h7 : -8 ≤ a7 ∧ a7 ≤ 8)
    (g0 : -G ≤ a0 * f0 + a1 * f1 + a2 * f2 ∧ a0 * f0 + a1 * f1 + a2 * f2 ≤ G) (g1 : -G ≤ a4 * f1 + a3 * f0 + a5 * f2 ∧ a4 * f1 + a3 * f0 + a5 * f2 ≤ G) (g2 : -G ≤ a8 * f2 + a6 * f0 + a7 * f1 ∧ a8 * f2 + a6 * f0 + a7 * f1 ≤ G) :
    (-G ≤ f0 ∧ f0 ≤ G) ∧ (-G ≤ f1 ∧ f1 ≤ G) ∧ (-G ≤ f2 ∧ f2 ≤ G) := by
  obtain ⟨t0, n0, e0⟩ := size_of f0
  obtain ⟨t1, n1, e1⟩ := size_of f1
  obtain ⟨t2, n2, e2⟩ := size_of f2
  have r0 := dd_row h0 h1 h2 g0 n0 n1 n2 e0 e1 e2
  have r1 := dd_row h4 h3 h5 g1 n1 n0 n2 e1 e0 e2
  have r2 := dd_row h8 h6 h7 g2 n2 n0 n1 e2 e0 e1
  have hG : t0 + t1 + t2 ≤ G := by clear g0 g1 g2 e0 e1 e2; grind
  clear g0 g1 g2 r0 r1 r2
  refine ⟨⟨?_, ?_⟩, ⟨?_, ?_⟩, ?_, ?_⟩
  · rcases e0 with rfl | rfl <;> grind
  · rcases e0 with rfl | rfl <;> grind
  · rcases e1 with rfl | rfl <;> grind
  · rcases e1 with rfl | rfl <;> grind
  · rcases e2 with rfl | rfl <;> grind
  · rcases e2 with rfl | rfl <;> grind

/-- What is one on the right is one on the left: a row of the system. -/
theorem left_row {p q r x0 y0 z0 x1 y1 z1 x2 y2 z2 c0 c1 c2 d0 d1 d2 i0 i1 i2 ci e : Rat} (h0 : -e ≤ p * x0 + q * x1 + r * x2 - i0 ∧ p * x0 + q * x1 + r * x2 - i0 ≤ e) (h1 : -e ≤ p * y0 + q * y1 + r * y2 - i1 ∧ p * y0 + q * y1 + r * y2 - i1 ≤ e) (h2 : -e ≤ p * z0 + q * z1 + r * z2 - i2 ∧ p * z0 + q * z1 + r * z2 - i2 ≤ e)
    (k0 : -(2801 / 100) ≤ c0 ∧ c0 ≤ 2801 / 100) (k1 : -(2801 / 100) ≤ c1 ∧ c1 ≤ 2801 / 100) (k2 : -(2801 / 100) ≤ c2 ∧ c2 ≤ 2801 / 100) (hd : p * d0 + q * d1 + r * d2 = ci) (hi : i0 * c0 + i1 * c1 + i2 * c2 = ci) :
    -(8403 / 100 * e) ≤ p * (x0 * c0 + y0 * c1 + z0 * c2 - d0) + q * (x1 * c0 + y1 * c1 + z1 * c2 - d1) + r * (x2 * c0 + y2 * c1 + z2 * c2 - d2) ∧ p * (x0 * c0 + y0 * c1 + z0 * c2 - d0) + q * (x1 * c0 + y1 * c1 + z1 * c2 - d1) + r * (x2 * c0 + y2 * c1 + z2 * c2 - d2) ≤ 8403 / 100 * e := by
  have e1 : p * (x0 * c0 + y0 * c1 + z0 * c2 - d0) + q * (x1 * c0 + y1 * c1 + z1 * c2 - d1) + r * (x2 * c0 + y2 * c1 + z2 * c2 - d2) = (p * x0 + q * x1 + r * x2 - i0) * c0 + (p * y0 + q * y1 + r * y2 - i1) * c1 + (p * z0 + q * z1 + r * z2 - i2) * c2 + ((i0 * c0 + i1 * c1 + i2 * c2) - (p * d0 + q * d1 + r * d2)) := by grind
  rw [e1, hd, hi]
  generalize p * x0 + q * x1 + r * x2 - i0 = w0 at *
  generalize p * y0 + q * y1 + r * y2 - i1 = w1 at *
  generalize p * z0 + q * z1 + r * z2 - i2 = w2 at *
  have a := mul_bd h0.1 h0.2 k0.1 k0.2
  have b := mul_bd h1.1 h1.2 k1.1 k1.2
  have c := mul_bd h2.1 h2.2 k2.1 k2.2
  generalize w0 * c0 = v0 at *
  generalize w1 * c1 = v1 at *
  generalize w2 * c2 = v2 at *
  clear h0 h1 h2 k0 k1 k2 e1 hd hi
  obtain ⟨a1, a2⟩ := a
  obtain ⟨b1, b2⟩ := b
  obtain ⟨c1', c2'⟩ := c
  constructor <;> grind

/-- A column of the left product. -/
theorem col_near {E : Env} {a : Nat → Rat} (h : MatV E a) {x0 x1 x2 y0 y1 y2 z0 z1 z2 : Rat} (X : XV E a 15 1 0 0 1 x0 x1 x2) (Y : XV E a 18 0 1 0 1 y0 y1 y2) (Z : XV E a 21 0 0 1 1 z0 z1 z2)
    {j : Nat} (hj : j < 3) {t0 t1 t2 : T} {d0 d1 d2 : Rat} (w0 : Val (den E t0) d0) (w1 : Val (den E t1) d1) (w2 : Val (den E t2) d2)
    (e0 : a 0 * d0 + a 1 * d1 + a 2 * d2 = a j) (e1 : a 3 * d0 + a 4 * d1 + a 5 * d2 = a (3 + j)) (e2 : a 6 * d0 + a 7 * d1 + a 8 * d2 = a (6 + j)) :
    FactsOK E [nearF (dotT (.arg 17) (.arg j) (.arg 20) (.arg (3 + j)) (.arg 23) (.arg (6 + j))) t2 981668463, nearF (dotT (.arg 16) (.arg j) (.arg 19) (.arg (3 + j)) (.arg 22) (.arg (6 + j))) t1 981668463, nearF (dotT (.arg 15) (.arg j) (.arg 18) (.arg (3 + j)) (.arg 21) (.arg (6 + j))) t0 981668463] := by
  have ha := h.all
  have hv := h.val
  have k0 := ha j (by omega)
  have k1 := ha (3 + j) (by omega)
  have k2 := ha (6 + j) (by omega)
  have g0 := left_row X.r0 Y.r0 Z.r0 k0 k1 k2 e0 (show (1 : Rat) * a j + 0 * a (3 + j) + 0 * a (6 + j) = a j by grind)
  have g1 := left_row X.r1 Y.r1 Z.r1 k0 k1 k2 e1 (show (0 : Rat) * a j + 1 * a (3 + j) + 0 * a (6 + j) = a (3 + j) by grind)
  have g2 := left_row X.r2 Y.r2 Z.r2 k0 k1 k2 e2 (show (0 : Rat) * a j + 0 * a (3 + j) + 1 * a (6 + j) = a (6 + j) by grind)
  have bx0 := prod_bd k0 X.b0; have by0 := prod_bd k1 Y.b0; have bz0 := prod_bd k2 Z.b0
  have bx1 := prod_bd k0 X.b1; have by1 := prod_bd k1 Y.b1; have bz1 := prod_bd k2 Z.b1
  have bx2 := prod_bd k0 X.b2; have by2 := prod_bd k1 Y.b2; have bz2 := prod_bd k2 Z.b2
  rw [Rat.mul_comm (a j)] at bx0 bx1 bx2
  rw [Rat.mul_comm (a (3 + j))] at by0 by1 by2
  rw [Rat.mul_comm (a (6 + j))] at bz0 bz1 bz2
  obtain ⟨f0, f1, f2⟩ := dd (G := 8403 / 100 * (1 / 100000 * 1)) h.d0.1 h.d4.1 h.d8.1 h.o1 h.o2 h.o3 h.o5 h.o6 h.o7 g0 (by
    rw [Rat.add_comm (a 4 * _)]; exact g1) (by
    have e : ∀ p q r : Rat, r + p + q = p + q + r := fun p q r => by grind
    rw [e]; exact g2)
  have hM : 8403 / 100 * (1 / 100000 * 1) + 2187 / 100 * 1 * (5 / 10000000) ≤ litM * (99 / 100) := by unfold litM; decide +kernel
  refine facts_cons (dot_near (p := .arg 17) (q := .arg j) (r := .arg 20) (s := .arg (3 + j)) (t := .arg 23) (u := .arg (6 + j)) (S := 2187 / 100 * 1) X.v2 (hv j (by omega)) Y.v2 (hv (3 + j) (by omega)) Z.v2 (hv (6 + j) (by omega)) w2 bx2 by2 bz2 (by decide +kernel) (by decide +kernel) (by decide +kernel) f2 litM_val hM (by decide +kernel) (by decide +kernel)) ?_
  refine facts_cons (dot_near (p := .arg 16) (q := .arg j) (r := .arg 19) (s := .arg (3 + j)) (t := .arg 22) (u := .arg (6 + j)) (S := 2187 / 100 * 1) X.v1 (hv j (by omega)) Y.v1 (hv (3 + j) (by omega)) Z.v1 (hv (6 + j) (by omega)) w1 bx1 by1 bz1 (by decide +kernel) (by decide +kernel) (by decide +kernel) f1 litM_val hM (by decide +kernel) (by decide +kernel)) ?_
  exact facts_cons (dot_near (p := .arg 15) (q := .arg j) (r := .arg 18) (s := .arg (3 + j)) (t := .arg 21) (u := .arg (6 + j)) (S := 2187 / 100 * 1) X.v0 (hv j (by omega)) Y.v0 (hv (3 + j) (by omega)) Z.v0 (hv (6 + j) (by omega)) w0 bx0 by0 bz0 (by decide +kernel) (by decide +kernel) (by decide +kernel) f0 litM_val hM (by decide +kernel) (by decide +kernel)) facts_nil
end Go.Sx

/-   The triangular root of a matrix times itself, transposed, and one: how near. Conditions: none. -/
namespace Go.Sx
open Ieee

def l0 : T := .lit .f32 0
def l1 : T := .lit .f32 1065353216
/-- A cell of the matrix times itself, transposed, and one. -/
def gT (i j : Nat) : T := .bin 0 (.bin 0 (.bin 0 (.bin 2 (.arg (3 * i)) (.arg (3 * j))) (.bin 2 (.arg (3 * i + 1)) (.arg (3 * j + 1)))) (.bin 2 (.arg (3 * i + 2)) (.arg (3 * j + 2)))) (if Nat.beq i j then l1 else l0)
def rootT (t : T) : T := .narrow (.f1 2 (.wide t))
def r00T : T := rootT (gT 0 0)
def r10T : T := .bin 3 (gT 1 0) r00T
def p11T : T := .bin 1 (gT 1 1) (.bin 2 r10T r10T)
def r11T : T := rootT p11T
def r20T : T := .bin 3 (gT 2 0) r00T
def t21T : T := .bin 1 (gT 2 1) (.bin 2 r20T r10T)
def r21T : T := .bin 3 t21T r11T
def w22T : T := .bin 1 (gT 2 2) (.bin 2 r20T r20T)
def p22T : T := .bin 1 w22T (.bin 2 r21T r21T)
def r22T : T := rootT p22T

theorem l0_val (E : Env) : Val (den E l0) 0 := zero_val
theorem l1_val (E : Env) : Val (den E l1) 1 := one_val

/-- A form that is one at least, less what is off. -/
theorem psd {a0 a1 a2 a3 a4 a5 a6 a7 a8 r00 r10 r20 p t u : Rat} (hr : r00 ≠ 0)
    (h00 : -(2 / 1000) ≤ r00 * r00 - (a0 * a0 + a1 * a1 + a2 * a2 + 1) ∧ r00 * r00 - (a0 * a0 + a1 * a1 + a2 * a2 + 1) ≤ 2 / 1000)
    (h10 : -(2 / 1000) ≤ r10 * r00 - (a3 * a0 + a4 * a1 + a5 * a2) ∧ r10 * r00 - (a3 * a0 + a4 * a1 + a5 * a2) ≤ 2 / 1000)
    (h20 : -(2 / 1000) ≤ r20 * r00 - (a6 * a0 + a7 * a1 + a8 * a2) ∧ r20 * r00 - (a6 * a0 + a7 * a1 + a8 * a2) ≤ 2 / 1000)
    (h11 : -(2 / 1000) ≤ p + r10 * r10 - (a3 * a3 + a4 * a4 + a5 * a5 + 1) ∧ p + r10 * r10 - (a3 * a3 + a4 * a4 + a5 * a5 + 1) ≤ 2 / 1000)
    (h21 : -(2 / 1000) ≤ t + r20 * r10 - (a6 * a3 + a7 * a4 + a8 * a5) ∧ t + r20 * r10 - (a6 * a3 + a7 * a4 + a8 * a5) ≤ 2 / 1000)
    (h22 : -(2 / 1000) ≤ u + r20 * r20 - (a6 * a6 + a7 * a7 + a8 * a8 + 1) ∧ u + r20 * r20 - (a6 * a6 + a7 * a7 + a8 * a8 + 1) ≤ 2 / 1000) (x y : Rat) :
    99 / 100 * (x * x + y * y) ≤ p * (x * x) + 2 * (t * (x * y)) + u * (y * y) := by
  obtain ⟨w, hw⟩ : ∃ w : Rat, w * r00 + r10 * x + r20 * y = 0 := ⟨-(r10 * x + r20 * y) / r00, by grind⟩
  have key : p * (x * x) + 2 * (t * (x * y)) + u * (y * y) + (w * r00 + r10 * x + r20 * y) * (w * r00 + r10 * x + r20 * y) =
      (r00 * r00 - (a0 * a0 + a1 * a1 + a2 * a2 + 1)) * (w * w) + 2 * ((r10 * r00 - (a3 * a0 + a4 * a1 + a5 * a2)) * (w * x)) + 2 * ((r20 * r00 - (a6 * a0 + a7 * a1 + a8 * a2)) * (w * y)) +
      (p + r10 * r10 - (a3 * a3 + a4 * a4 + a5 * a5 + 1)) * (x * x) + 2 * ((t + r20 * r10 - (a6 * a3 + a7 * a4 + a8 * a5)) * (x * y)) + (u + r20 * r20 - (a6 * a6 + a7 * a7 + a8 * a8 + 1)) * (y * y) +
      ((a0 * w + a3 * x + a6 * y) * (a0 * w + a3 * x + a6 * y) + (a1 * w + a4 * x + a7 * y) * (a1 * w + a4 * x + a7 * y) + (a2 * w + a5 * x + a8 * y) * (a2 * w + a5 * x + a8 * y)) + (w * w + x * x + y * y) := by grind
  rw [hw, Rat.mul_zero, Rat.add_zero] at key
  rw [key]
  have s1 := sq_nn (a0 * w + a3 * x + a6 * y)
  have s2 := sq_nn (a1 * w + a4 * x + a7 * y)
  have s3 := sq_nn (a2 * w + a5 * x + a8 * y)
  have ww := sq_nn w
  have xx := sq_nn x
  have yy := sq_nn y
  have wx1 := sq_nn (w + x)
  have wx2 := sq_nn (w - x)
  have wy1 := sq_nn (w + y)
  have wy2 := sq_nn (w - y)
  have xy1 := sq_nn (x + y)
  have xy2 := sq_nn (x - y)
  generalize (a0 * w + a3 * x + a6 * y) * (a0 * w + a3 * x + a6 * y) = q1 at *
  generalize (a1 * w + a4 * x + a7 * y) * (a1 * w + a4 * x + a7 * y) = q2 at *
  generalize (a2 * w + a5 * x + a8 * y) * (a2 * w + a5 * x + a8 * y) = q3 at *
  generalize r00 * r00 - (a0 * a0 + a1 * a1 + a2 * a2 + 1) = e00 at *
  generalize r10 * r00 - (a3 * a0 + a4 * a1 + a5 * a2) = e10 at *
  generalize r20 * r00 - (a6 * a0 + a7 * a1 + a8 * a2) = e20 at *
  generalize p + r10 * r10 - (a3 * a3 + a4 * a4 + a5 * a5 + 1) = e11 at *
  generalize t + r20 * r10 - (a6 * a3 + a7 * a4 + a8 * a5) = e21 at *
  generalize u + r20 * r20 - (a6 * a6 + a7 * a7 + a8 * a8 + 1) = e22 at *
  clear key hw hr
  have bwx : -((w * w + x * x) * (1 / 2)) ≤ w * x ∧ w * x ≤ (w * w + x * x) * (1 / 2) := by constructor <;> grind
  have bwy : -((w * w + y * y) * (1 / 2)) ≤ w * y ∧ w * y ≤ (w * w + y * y) * (1 / 2) := by constructor <;> grind
  have bxy : -((x * x + y * y) * (1 / 2)) ≤ x * y ∧ x * y ≤ (x * x + y * y) * (1 / 2) := by constructor <;> grind
  clear wx1 wx2 wy1 wy2 xy1 xy2
  generalize w * x = wx at *
  generalize w * y = wy at *
  generalize x * y = xy at *
  generalize w * w = W at *
  generalize x * x = X at *
  generalize y * y = Y at *
  have m1 := (mul_bd h00.1 h00.2 (show -W ≤ W by grind) (show W ≤ W by grind)).1
  have m2 := (mul_bd h10.1 h10.2 bwx.1 bwx.2).1
  have m3 := (mul_bd h20.1 h20.2 bwy.1 bwy.2).1
  have m4 := (mul_bd h11.1 h11.2 (show -X ≤ X by grind) (show X ≤ X by grind)).1
  have m5 := (mul_bd h21.1 h21.2 bxy.1 bxy.2).1
  have m6 := (mul_bd h22.1 h22.2 (show -Y ≤ Y by grind) (show Y ≤ Y by grind)).1
  clear h00 h10 h20 h11 h21 h22 bwx bwy bxy
  generalize e00 * W = z1 at *
  generalize e10 * wx = z2 at *
  generalize e20 * wy = z3 at *
  generalize e11 * X = z4 at *
  generalize e21 * xy = z5 at *
  generalize e22 * Y = z6 at *
  grind
/-- A cell of the matrix times itself, transposed: its value. -/
theorem g_val {E : Env} {a : Nat → Rat} (h : MatV E a) {i j : Nat} (hi : i < 3) (hj : j < 3) {d : Rat} (hd : (i = j ∧ d = 1) ∨ (i ≠ j ∧ d = 0)) :
    ∃ s, Val (den E (gT i j)) s ∧ -(13 / 10000) ≤ s - (a (3 * i) * a (3 * j) + a (3 * i + 1) * a (3 * j + 1) + a (3 * i + 2) * a (3 * j + 2) + d) ∧ s - (a (3 * i) * a (3 * j) + a (3 * i + 1) * a (3 * j + 1) + a (3 * i + 2) * a (3 * j + 2) + d) ≤ 13 / 10000 := by
  have ha := h.all
  have hv := h.val
  have pr : ∀ x y, x < 9 → y < 9 → -(78457 / 100) ≤ a x * a y ∧ a x * a y ≤ 78457 / 100 := fun x y hx hy => by
    have b1 := ha x hx
    have b2 := ha y hy
    obtain ⟨m1, m2⟩ := mul_bd b1.1 b1.2 b2.1 b2.2
    constructor <;> grind
  obtain ⟨w, vw, w1, w2⟩ := dot_val (E := E) (p := .arg (3 * i)) (q := .arg (3 * j)) (r := .arg (3 * i + 1)) (s := .arg (3 * j + 1)) (t := .arg (3 * i + 2)) (u := .arg (3 * j + 2)) (S := 2354) (hv _ (by omega)) (hv _ (by omega)) (hv _ (by omega)) (hv _ (by omega)) (hv _ (by omega)) (hv _ (by omega))
    (pr _ _ (by omega) (by omega)) (pr _ _ (by omega) (by omega)) (pr _ _ (by omega) (by omega)) (by decide +kernel) (by decide +kernel) (by decide +kernel)
  have q1 := pr (3 * i) (3 * j) (by omega) (by omega)
  have q2 := pr (3 * i + 1) (3 * j + 1) (by omega) (by omega)
  have q3 := pr (3 * i + 2) (3 * j + 2) (by omega) (by omega)
  have hdT : Val (den E (if Nat.beq i j then l1 else l0)) d := by
    rcases hd with ⟨rfl, rfl⟩ | ⟨hne, rfl⟩
    · rw [if_pos (Nat.beq_refl i)]; exact l1_val E
    · rw [if_neg (fun h => hne (Nat.eq_of_beq_eq_true h))]; exact l0_val E
  have hd01 : 0 ≤ d ∧ d ≤ 1 := by rcases hd with ⟨_, rfl⟩ | ⟨_, rfl⟩ <;> exact ⟨by decide +kernel, by decide +kernel⟩
  generalize a (3 * i) * a (3 * j) = z1 at *
  generalize a (3 * i + 1) * a (3 * j + 1) = z2 at *
  generalize a (3 * i + 2) * a (3 * j + 2) = z3 at *
  clear pr ha hv h
  obtain ⟨q11, q12⟩ := q1
  obtain ⟨q21, q22⟩ := q2
  obtain ⟨q31, q32⟩ := q3
  obtain ⟨d0, d1⟩ := hd01
  obtain ⟨s, vs, o1, o2⟩ := add_off vw hdT 2356 (by clear hd; grind) (by clear hd; grind) (by decide +kernel)
  refine ⟨s, vs, ?_, ?_⟩
  · clear hd; grind
  · clear hd; grind

/-- How great they are. -/
theorem diag_bounds {x y z : Rat} (hx : 1999 / 100 ≤ x ∧ x ≤ 2801 / 100) (hy : -8 ≤ y ∧ y ≤ 8) (hz : -8 ≤ z ∧ z ≤ 8) : 399 ≤ x * x + y * y + z * z ∧ x * x + y * y + z * z ≤ 913 := by
  have a := mul_bd (x := x) (y := x) (X := 2801 / 100) (Y := 2801 / 100) (by grind) hx.2 (by grind) hx.2
  have b := mul_bd hy.1 hy.2 hy.1 hy.2
  have c := mul_bd hz.1 hz.2 hz.1 hz.2
  have ny := sq_nn y
  have nz := sq_nn z
  have lo1 := Rat.mul_le_mul_of_nonneg_left hx.1 (show 0 ≤ x by grind)
  have lo2 : 1999 / 100 * (1999 / 100) ≤ x * (1999 / 100) := Rat.mul_le_mul_of_nonneg_right hx.1 (by decide +kernel)
  generalize x * x = X at *
  generalize y * y = Y at *
  generalize z * z = Z at *
  clear hx hy hz
  constructor <;> grind
theorem off_bounds {p q x y z w : Rat} (hp : -(2801 / 100) ≤ p ∧ p ≤ 2801 / 100) (hq : -8 ≤ q ∧ q ≤ 8) (hx : -8 ≤ x ∧ x ≤ 8) (hy : -(2801 / 100) ≤ y ∧ y ≤ 2801 / 100) (hz : -8 ≤ z ∧ z ≤ 8) (hw : -8 ≤ w ∧ w ≤ 8) : -(5125 / 10) ≤ p * q + x * y + z * w ∧ p * q + x * y + z * w ≤ 5125 / 10 := by
  obtain ⟨a1, a2⟩ := mul_bd hp.1 hp.2 hq.1 hq.2
  obtain ⟨b1, b2⟩ := mul_bd hx.1 hx.2 hy.1 hy.2
  obtain ⟨c1, c2⟩ := mul_bd hz.1 hz.2 hw.1 hw.2
  generalize p * q = z1 at *
  generalize x * y = z2 at *
  generalize z * w = z3 at *
  clear hp hq hx hy hz hw
  constructor <;> grind

/-- What the root gives. -/
structure Root (E : Env) (S00 S10 S11 S20 S21 S22 R00 R10 R11 R20 R21 R22 : Rat) : Prop where
  v00 : Val (den E r00T) R00
  v10 : Val (den E r10T) R10
  v11 : Val (den E r11T) R11
  v20 : Val (den E r20T) R20
  v21 : Val (den E r21T) R21
  v22 : Val (den E r22T) R22
  w11 : ∃ p, Val (den E p11T) p ∧ 0 < p
  w22 : ∃ p, Val (den E p22T) p ∧ 0 < p
  b00 : -(3031 / 100) ≤ R00 ∧ R00 ≤ 3031 / 100
  b10 : -(3031 / 100) ≤ R10 ∧ R10 ≤ 3031 / 100
  b11 : -(3031 / 100) ≤ R11 ∧ R11 ≤ 3031 / 100
  b20 : -(3031 / 100) ≤ R20 ∧ R20 ≤ 3031 / 100
  b21 : -(3031 / 100) ≤ R21 ∧ R21 ≤ 3031 / 100
  b22 : -(3031 / 100) ≤ R22 ∧ R22 ≤ 3031 / 100
  n00 : -(12 / 10000) ≤ R00 * R00 - S00 ∧ R00 * R00 - S00 ≤ 12 / 10000
  n10 : -(12 / 10000) ≤ R10 * R00 - S10 ∧ R10 * R00 - S10 ≤ 12 / 10000
  n20 : -(12 / 10000) ≤ R20 * R00 - S20 ∧ R20 * R00 - S20 ≤ 12 / 10000
  n11 : -(12 / 10000) ≤ R10 * R10 + R11 * R11 - S11 ∧ R10 * R10 + R11 * R11 - S11 ≤ 12 / 10000
  n21 : -(12 / 10000) ≤ R20 * R10 + R21 * R11 - S21 ∧ R20 * R10 + R21 * R11 - S21 ≤ 12 / 10000
  n22 : -(12 / 10000) ≤ R20 * R20 + R21 * R21 + R22 * R22 - S22 ∧ R20 * R20 + R21 * R21 + R22 * R22 - S22 ≤ 12 / 10000

theorem root_val {E : Env} (h1 : E.f1 = stdF1) {t : T} {D : Rat} (v : Val (den E t) D) (hlo : 1 / 1000 ≤ D) (hhi : D ≤ 1000000) :
    ∃ r, Val (den E (rootT t)) r ∧ 0 ≤ r ∧ r * r - D ≤ D * (1 / 2000000) ∧ D - r * r ≤ D * (1 / 2000000) := by
  have e : den E (rootT t) = cnarrow (csqrt (cwide (den E t))) := by
    show cnarrow (E.f1 2 _) = _; rw [h1]; rfl
  rw [e]; exact val_root v hlo hhi

theorem root_ok {E : Env} (h1 : E.f1 = stdF1) {a0 a1 a2 a3 a4 a5 a6 a7 a8 S00 S10 S11 S20 S21 S22 : Rat} (v00 : Val (den E (gT 0 0)) S00) (v10 : Val (den E (gT 1 0)) S10) (v11 : Val (den E (gT 1 1)) S11) (v20 : Val (den E (gT 2 0)) S20) (v21 : Val (den E (gT 2 1)) S21) (v22 : Val (den E (gT 2 2)) S22)
    (e00 : -(13 / 10000) ≤ S00 - (a0 * a0 + a1 * a1 + a2 * a2 + 1) ∧ S00 - (a0 * a0 + a1 * a1 + a2 * a2 + 1) ≤ 13 / 10000)
    (e10 : -(13 / 10000) ≤ S10 - (a3 * a0 + a4 * a1 + a5 * a2) ∧ S10 - (a3 * a0 + a4 * a1 + a5 * a2) ≤ 13 / 10000)
    (e20 : -(13 / 10000) ≤ S20 - (a6 * a0 + a7 * a1 + a8 * a2) ∧ S20 - (a6 * a0 + a7 * a1 + a8 * a2) ≤ 13 / 10000)
    (e11 : -(13 / 10000) ≤ S11 - (a3 * a3 + a4 * a4 + a5 * a5 + 1) ∧ S11 - (a3 * a3 + a4 * a4 + a5 * a5 + 1) ≤ 13 / 10000)
    (e21 : -(13 / 10000) ≤ S21 - (a6 * a3 + a7 * a4 + a8 * a5) ∧ S21 - (a6 * a3 + a7 * a4 + a8 * a5) ≤ 13 / 10000)
    (e22 : -(13 / 10000) ≤ S22 - (a6 * a6 + a7 * a7 + a8 * a8 + 1) ∧ S22 - (a6 * a6 + a7 * a7 + a8 * a8 + 1) ≤ 13 / 10000)
    (b00 : 399 ≤ S00 ∧ S00 ≤ 915) (b11 : 399 ≤ S11 ∧ S11 ≤ 915) (b22 : 399 ≤ S22 ∧ S22 ≤ 915) (b10 : -513 ≤ S10 ∧ S10 ≤ 513) (b20 : -513 ≤ S20 ∧ S20 ≤ 513) (b21 : -513 ≤ S21 ∧ S21 ≤ 513) :
    ∃ R00 R10 R11 R20 R21 R22, Root E S00 S10 S11 S20 S21 S22 R00 R10 R11 R20 R21 R22 := by
  obtain ⟨R00, vr00, p00, k1, k2⟩ := root_val h1 v00 (by have := b00.1; grind) (by have := b00.2; grind)
  have r00b : 199 / 10 ≤ R00 ∧ R00 ≤ 303 / 10 := by
    obtain ⟨x1, x2⟩ := b00
    clear e00 e10 e20 e11 e21 e22
    exact ⟨(sq_le p00 (a := 199 / 10) (by generalize R00 * R00 = q at *; grind)).2, (sq_le (show (0 : Rat) ≤ 303 / 10 by decide +kernel) (a := R00) (by generalize R00 * R00 = q at *; grind)).2⟩
  have n00 : -(5 / 10000) ≤ R00 * R00 - S00 ∧ R00 * R00 - S00 ≤ 5 / 10000 := by
    obtain ⟨x1, x2⟩ := b00
    clear e00 e10 e20 e11 e21 e22
    generalize R00 * R00 = q at *
    constructor <;> grind
  clear k1 k2
  have quo : ∀ {x : CF} {s : Rat}, Val x s → (-513 ≤ s ∧ s ≤ 513) → ∃ q, Val (cbin .quo .f32 x (den E r00T)) q ∧ (-(2591 / 100) ≤ q ∧ q ≤ 2591 / 100) ∧ -(1 / 10000) ≤ q * R00 - s ∧ q * R00 - s ≤ 1 / 10000 := by
    intro x s vx bs
    obtain ⟨q, vq, ⟨q1, q2⟩, q3, q4⟩ := quo_step (y := den E r00T) vx vr00 (199 / 10) (303 / 10) 513 (259 / 10) (by decide +kernel) r00b.1 r00b.2 bs.1 bs.2 (by decide +kernel) (by decide +kernel) (by decide +kernel)
    clear e00 e10 e20 e11 e21 e22 n00

    exact ⟨q, vq, ⟨by grind, by grind⟩, by grind, by grind⟩
  obtain ⟨R10, vr10, br10, n10⟩ := quo v10 b10
  obtain ⟨R20, vr20, br20, n20⟩ := quo v20 b20
  clear quo
  -- what the first column leaves
  have sub : ∀ {xu xl xw : CF} {u l w : Rat}, Val xu u → Val xl l → Val xw w → (-915 ≤ u ∧ u ≤ 915) → (-(2591 / 100) ≤ l ∧ l ≤ 2591 / 100) → (-(2591 / 100) ≤ w ∧ w ≤ 2591 / 100) →
      ∃ r, Val (cbin .sub .f32 xu (cbin .mul .f32 xl xw)) r ∧ -(28 / 100000) ≤ r - (u - l * w) ∧ r - (u - l * w) ≤ 28 / 100000 := by
    intro xu xl xw u l w vu vl vw bu bl bw
    obtain ⟨r, vr, _, r1, r2⟩ := mulsub_step vu vl vw (2591 / 100) (2591 / 100) 915 672 1588 bl.1 bl.2 bw.1 bw.2 bu.1 bu.2 (by decide +kernel) (by decide +kernel) (by decide +kernel) (by decide +kernel) (by decide +kernel)

    clear e00 e10 e20 e11 e21 e22 n00 n10 n20
    exact ⟨r, vr, by grind, by grind⟩
  obtain ⟨p, vp, dp⟩ := sub v11 vr10 vr10 ⟨by have := b11.1; grind, b11.2⟩ br10 br10
  obtain ⟨t, vt, dt⟩ := sub v21 vr20 vr10 ⟨by have := b21.1; grind, by have := b21.2; grind⟩ br20 br10
  obtain ⟨u, vu, du⟩ := sub v22 vr20 vr20 ⟨by have := b22.1; grind, b22.2⟩ br20 br20
  clear sub
  have form : ∀ x y : Rat, 99 / 100 * (x * x + y * y) ≤ p * (x * x) + 2 * (t * (x * y)) + u * (y * y) := by
    have join : ∀ {z s σ e f : Rat}, (-(13 / 10000) ≤ s - σ ∧ s - σ ≤ 13 / 10000) → (-(5 / 10000) ≤ z - s ∧ z - s ≤ 5 / 10000) → -(2 / 1000) ≤ z - σ ∧ z - σ ≤ 2 / 1000 := by
      intro z s σ e f h k
      obtain ⟨h1, h2⟩ := h
      obtain ⟨k1, k2⟩ := k
      clear e00 e10 e20 e11 e21 e22 n00 n10 n20 dp dt du
      constructor <;> grind
    have small : ∀ {z : Rat}, (-(1 / 10000) ≤ z ∧ z ≤ 1 / 10000) → -(5 / 10000) ≤ z ∧ z ≤ 5 / 10000 := by
      intro z h; obtain ⟨h1, h2⟩ := h; constructor <;> grind
    have small2 : ∀ {r s l w : Rat}, (-(28 / 100000) ≤ r - (s - l * w) ∧ r - (s - l * w) ≤ 28 / 100000) → -(5 / 10000) ≤ r + l * w - s ∧ r + l * w - s ≤ 5 / 10000 := by
      intro r s l w h
      obtain ⟨h1, h2⟩ := h
      generalize l * w = z at *
      constructor <;> grind
    exact psd (a0 := a0) (a1 := a1) (a2 := a2) (a3 := a3) (a4 := a4) (a5 := a5) (a6 := a6) (a7 := a7) (a8 := a8) (by have := r00b.1; grind) (join (e := 0) (f := 0) e00 n00) (join (e := 0) (f := 0) e10 (small n10)) (join (e := 0) (f := 0) e20 (small n20)) (join (e := 0) (f := 0) e11 (small2 dp)) (join (e := 0) (f := 0) e21 (small2 dt)) (join (e := 0) (f := 0) e22 (small2 du))
  clear e00 e10 e20 e11 e21 e22
  have hp1 : 99 / 100 ≤ p := by have := form 1 0; grind
  have hu1 : 99 / 100 ≤ u := by have := form 0 1; grind
  have hp2 : p ≤ 916 := by
    obtain ⟨_, x2⟩ := b11
    have := sq_nn R10
    obtain ⟨_, y2⟩ := dp
    generalize R10 * R10 = q at *
    clear form n00 n10 n20 dt du
    grind
  have hu2 : u ≤ 916 := by
    obtain ⟨_, x2⟩ := b22
    have := sq_nn R20
    obtain ⟨_, y2⟩ := du
    generalize R20 * R20 = q at *
    clear form n00 n10 n20 dt dp
    grind
  have htt : t * t + 99 / 100 * p ≤ u * p := by
    have h := form (-t) p
    have e1 : p * (-t * -t) + 2 * (t * (-t * p)) + u * (p * p) = (u * p - t * t) * p := by grind
    have e2 : 99 / 100 * (-t * -t + p * p) = 99 / 100 * (t * t) + (99 / 100 * p) * p := by grind
    rw [e1, e2] at h
    have ht := sq_nn t
    have h2 : (99 / 100 * p) * p ≤ (u * p - t * t) * p := by
      generalize (99 / 100 * p) * p = z1 at *
      generalize (u * p - t * t) * p = z2 at *
      generalize t * t = z3 at *
      clear form n00 n10 n20 dt dp du
      grind
    have h3 := Rat.le_of_mul_le_mul_right h2 (by grind)
    generalize u * p = z1 at *
    generalize t * t = z2 at *
    clear form n00 n10 n20 dt dp du e1 e2
    grind
  clear form
  obtain ⟨R11, vr11, p11, k1, k2⟩ := root_val (t := p11T) h1 vp (by grind) (by grind)
  have r11b : 99 / 100 ≤ R11 ∧ R11 ≤ 303 / 10 := by
    clear n00 n10 n20 dt dp du htt
    exact ⟨(sq_le p11 (a := 99 / 100) (by generalize R11 * R11 = q at *; grind)).2, (sq_le (show (0 : Rat) ≤ 303 / 10 by decide +kernel) (a := R11) (by generalize R11 * R11 = q at *; grind)).2⟩
  -- the last cell but one
  obtain ⟨z, hz⟩ : ∃ z : Rat, z * R11 = t := ⟨t / R11, by have := r11b.1; grind⟩
  have hz1 : -(303 / 10) ≤ z ∧ z ≤ 303 / 10 := by
    obtain ⟨x1, x2⟩ := sq_le (a := t) (c := 303 / 10 * R11) (by have := r11b.1; grind) (by
      have e : 303 / 10 * R11 * (303 / 10 * R11) = 303 / 10 * (303 / 10) * (R11 * R11) := by grind
      rw [e]
      have hup : u * p ≤ 916 * p := Rat.mul_le_mul_of_nonneg_right hu2 (by grind)
      generalize R11 * R11 = q at *
      generalize t * t = tt at *
      generalize u * p = up at *
      clear n00 n10 n20 dt dp du
      grind)
    rw [← hz] at x1 x2
    have hR : 0 < R11 := by have := r11b.1; grind
    constructor
    · refine Rat.le_of_mul_le_mul_right (c := R11) ?_ hR; grind
    · refine Rat.le_of_mul_le_mul_right (c := R11) ?_ hR; grind
  obtain ⟨R21, vr21, o1, o2⟩ := div_off (x := den E t21T) (y := den E r11T) vt vr11 (by have := r11b.1; grind) z hz (303 / 10) hz1.1 hz1.2 (by decide +kernel)
  have dz : -(37 / 10000000) ≤ R21 - z ∧ R21 - z ≤ 37 / 10000000 := by
    clear n00 n10 n20 dt dp du htt k1 k2
    constructor <;> grind
  have br21 : -(3031 / 100) ≤ R21 ∧ R21 ≤ 3031 / 100 := by
    obtain ⟨x1, x2⟩ := hz1
    obtain ⟨y1, y2⟩ := dz
    clear n00 n10 n20 dt dp du htt k1 k2 o1 o2
    constructor <;> grind
  have n21' : -(12 / 100000) ≤ R21 * R11 - t ∧ R21 * R11 - t ≤ 12 / 100000 := by
    obtain ⟨x1, x2⟩ := mul_bd (x := R21 - z) (y := R11) (X := 37 / 10000000) (Y := 303 / 10) dz.1 dz.2 (by have := r11b.1; grind) r11b.2
    have e : (R21 - z) * R11 = R21 * R11 - t := by rw [← hz]; grind
    rw [e] at x1 x2
    generalize R21 * R11 - t = w at *
    clear n00 n10 n20 dt dp du htt k1 k2 o1 o2 hz1 dz br21
    constructor <;> grind
  -- the last cell
  obtain ⟨p', vp', ⟨_, m2⟩, d1, d2⟩ := mulsub_step (xu := den E w22T) (xl := den E r21T) (xw := den E r21T) vu vr21 vr21 (3031 / 100) (3031 / 100) 916 919 1836 br21.1 br21.2 br21.1 br21.2 (by grind) hu2 (by decide +kernel) (by decide +kernel) (by decide +kernel) (by decide +kernel) (by decide +kernel)
  have hzz : z * z ≤ u - 98 / 100 - 1 / 1000 - 1 / 1000 := by
    have q1 : z * z * (R11 * R11) = t * t := by rw [← hz]; grind
    have q2 : z * z * (p - p * (1 / 2000000)) ≤ z * z * (R11 * R11) := Rat.mul_le_mul_of_nonneg_left (by generalize R11 * R11 = q at *; clear n00 n10 n20 dt dp du htt; grind) (sq_nn z)
    have q3 : z * z ≤ 919 := by
      have := (mul_bd hz1.1 hz1.2 hz1.1 hz1.2).2
      generalize z * z = zz at *
      clear n00 n10 n20 dt dp du htt k1 k2 o1 o2
      grind
    have q4 : (z * z) * p ≤ 919 * p := Rat.mul_le_mul_of_nonneg_right q3 (by grind)
    refine Rat.le_of_mul_le_mul_right (c := p) ?_ (by grind)
    have e : z * z * (p - p * (1 / 2000000)) = z * z * p - z * z * p * (1 / 2000000) := by grind
    have e2 : (u - 98 / 100 - 1 / 1000 - 1 / 1000) * p = u * p - 982 / 1000 * p := by grind
    rw [q1, e] at q2
    rw [e2]
    generalize z * z * p = zp at *
    generalize t * t = tt at *
    generalize u * p = up at *
    clear n00 n10 n20 dt dp du k1 k2 o1 o2 q1 e e2 hz d1 d2
    grind
  have hR2 : R21 * R21 - z * z ≤ 3 / 10000 := by
    have e : R21 * R21 - z * z = (R21 - z) * (R21 + z) := by grind
    rw [e]
    obtain ⟨_, x2⟩ := mul_bd (x := R21 - z) (y := R21 + z) (X := 37 / 10000000) (Y := 61) dz.1 dz.2 (by have := hz1.1; have := br21.1; grind) (by have := hz1.2; have := br21.2; grind)
    generalize (R21 - z) * (R21 + z) = w at *
    clear n00 n10 n20 dt dp du htt k1 k2 o1 o2 d1 d2
    grind
  have hpp : 98 / 100 ≤ p' ∧ p' ≤ 917 := by
    have := sq_nn R21
    generalize R21 * R21 = q at *
    generalize z * z = zz at *
    clear n00 n10 n20 dt dp du htt k1 k2 o1 o2
    constructor <;> grind
  obtain ⟨R22, vr22, p22, k3, k4⟩ := root_val (t := p22T) h1 vp' (by have := hpp.1; grind) (by have := hpp.2; grind)
  have r22b : R22 ≤ 303 / 10 := by
    obtain ⟨_, x2⟩ := hpp
    clear n00 n10 n20 dt dp du htt k1 k2 o1 o2
    exact (sq_le (show (0 : Rat) ≤ 303 / 10 by decide +kernel) (a := R22) (by generalize R22 * R22 = q at *; grind)).2
  refine ⟨R00, R10, R11, R20, R21, R22, vr00, vr10, vr11, vr20, vr21, vr22, ⟨p, vp, by grind⟩, ⟨p', vp', by have := hpp.1; grind⟩, ⟨by grind, by have := r00b.2; grind⟩, ⟨by have := br10.1; grind, by have := br10.2; grind⟩, ⟨by grind, by have := r11b.2; grind⟩, ⟨by have := br20.1; grind, by have := br20.2; grind⟩, br21, ⟨by grind, by grind⟩, ?_, ?_, ?_, ?_, ?_, ?_⟩
  · obtain ⟨x1, x2⟩ := n00
    generalize R00 * R00 - S00 = w at *
    clear n10 n20 dt dp du htt k1 k2 o1 o2
    constructor <;> grind
  · obtain ⟨x1, x2⟩ := n10
    generalize R10 * R00 - S10 = w at *
    clear n00 n20 dt dp du htt k1 k2 o1 o2
    constructor <;> grind
  · obtain ⟨x1, x2⟩ := n20
    generalize R20 * R00 - S20 = w at *
    clear n00 n10 dt dp du htt k1 k2 o1 o2
    constructor <;> grind
  · obtain ⟨x1, x2⟩ := dp
    generalize R10 * R10 = w at *
    generalize R11 * R11 = y at *
    clear n00 n10 n20 dt du htt o1 o2 d1 d2 k3 k4
    constructor <;> grind
  · obtain ⟨x1, x2⟩ := dt
    obtain ⟨y1, y2⟩ := n21'
    generalize R20 * R10 = w at *
    generalize R21 * R11 = y at *
    clear n00 n10 n20 dp du htt o1 o2 d1 d2 k3 k4 k1 k2
    constructor <;> grind
  · obtain ⟨x1, x2⟩ := du
    obtain ⟨y1, y2⟩ := hpp
    generalize R20 * R20 = w at *
    generalize R21 * R21 = y at *
    generalize R22 * R22 = v at *
    clear n00 n10 n20 dp dt htt o1 o2 k1 k2
    constructor <;> grind
end Go.Sx

/-   The facts on which the law of solved systems leans. Conditions: none. -/
namespace Go.Sx
open Ieee

def rootFacts : Facts := [fin (gT 0 0), fin (gT 0 1), fin (gT 0 2), fin (gT 1 0), fin (gT 1 1), fin (gT 1 2), fin (gT 2 0), fin (gT 2 1), fin (gT 2 2),
  ((.cmp 3 .f32 (gT 0 0) (.lit .f32 0)), true), ((.cmp 3 .f32 p11T (.lit .f32 0)), true), fin p11T, ((.cmp 3 .f32 p22T (.lit .f32 0)), true), fin p22T]

def backFacts : Facts := [nearF (dotT (.arg 27) (.arg 27) (.arg 28) (.arg 28) (.arg 29) (.arg 29)) (gT 2 2) 1008981770, nearF (dotT (.arg 27) (.arg 25) (.arg 28) (.arg 26) (.arg 29) l0) (gT 2 1) 1008981770, nearF (dotT (.arg 27) (.arg 24) (.arg 28) l0 (.arg 29) l0) (gT 2 0) 1008981770,
  nearF (dotT (.arg 25) (.arg 27) (.arg 26) (.arg 28) l0 (.arg 29)) (gT 1 2) 1008981770, nearF (dotT (.arg 25) (.arg 25) (.arg 26) (.arg 26) l0 l0) (gT 1 1) 1008981770, nearF (dotT (.arg 25) (.arg 24) (.arg 26) l0 l0 l0) (gT 1 0) 1008981770,
  nearF (dotT (.arg 24) (.arg 27) l0 (.arg 28) l0 (.arg 29)) (gT 0 2) 1008981770, nearF (dotT (.arg 24) (.arg 25) l0 (.arg 26) l0 l0) (gT 0 1) 1008981770, nearF (dotT (.arg 24) (.arg 24) l0 l0 l0 l0) (gT 0 0) 1008981770]

def litB : Rat := 5368709 / 536870912
theorem litB_val : Val (canon .f32 1008981770) litB := by
  have h := val_lit (b := 1008981770) (N := 5368709) (s := 29) (by decide +kernel)
  have e : ((5368709 : Int) : Rat) * p2 (-(29 : Nat)) = litB := by decide +kernel
  rw [e] at h; exact h

theorem back_one {E : Env} {p q r s t u c : T} {p' q' r' s' t' u' c' : Rat} (vp : Val (den E p) p') (vq : Val (den E q) q') (vr : Val (den E r) r') (vs : Val (den E s) s') (vt : Val (den E t) t') (vu : Val (den E u) u') (vc : Val (den E c) c')
    (bp : -(3031 / 100) ≤ p' ∧ p' ≤ 3031 / 100) (bq : -(3031 / 100) ≤ q' ∧ q' ≤ 3031 / 100) (br : -(3031 / 100) ≤ r' ∧ r' ≤ 3031 / 100) (bs : -(3031 / 100) ≤ s' ∧ s' ≤ 3031 / 100) (bt : -(3031 / 100) ≤ t' ∧ t' ≤ 3031 / 100) (bu : -(3031 / 100) ≤ u' ∧ u' ≤ 3031 / 100)
    (h : -(5 / 1000) ≤ p' * q' + r' * s' + t' * u' - c' ∧ p' * q' + r' * s' + t' * u' - c' ≤ 5 / 1000) : holds E (nearF (dotT p q r s t u) c 1008981770).1 = (nearF (dotT p q r s t u) c 1008981770).2 :=
  dot_near (S := 2757) vp vq vr vs vt vu vc (mul_bd bp.1 bp.2 bq.1 bq.2) (mul_bd br.1 br.2 bs.1 bs.2) (mul_bd bt.1 bt.2 bu.1 bu.2) (by decide +kernel) (by decide +kernel) (by decide +kernel) h litB_val (by unfold litB; decide +kernel) (by decide +kernel) (by decide +kernel)

theorem zero_in : -(3031 / 100) ≤ (0 : Rat) ∧ (0 : Rat) ≤ 3031 / 100 := ⟨by decide +kernel, by decide +kernel⟩

theorem near_join {z s σ c : Rat} (h : -(12 / 10000) ≤ z - s ∧ z - s ≤ 12 / 10000) (k : -(13 / 10000) ≤ s - σ ∧ s - σ ≤ 13 / 10000) (l : -(13 / 10000) ≤ c - σ ∧ c - σ ≤ 13 / 10000) : -(5 / 1000) ≤ z - c ∧ z - c ≤ 5 / 1000 := by
  obtain ⟨h1, h2⟩ := h
  obtain ⟨k1, k2⟩ := k
  obtain ⟨l1, l2⟩ := l
  constructor <;> grind

theorem root_facts {E : Env} {a : Nat → Rat} (h : MatV E a) (h1 : E.f1 = stdF1) (q24 : E.arg 24 = den E r00T) (q25 : E.arg 25 = den E r10T) (q26 : E.arg 26 = den E r11T) (q27 : E.arg 27 = den E r20T) (q28 : E.arg 28 = den E r21T) (q29 : E.arg 29 = den E r22T) :
    FactsOK E rootFacts ∧ FactsOK E backFacts := by
  obtain ⟨S00, v00, e00⟩ := g_val h (i := 0) (j := 0) (by decide) (by decide) (.inl ⟨rfl, rfl⟩)
  obtain ⟨S01, v01, e01⟩ := g_val h (i := 0) (j := 1) (by decide) (by decide) (.inr ⟨by decide, rfl⟩)
  obtain ⟨S02, v02, e02⟩ := g_val h (i := 0) (j := 2) (by decide) (by decide) (.inr ⟨by decide, rfl⟩)
  obtain ⟨S10, v10, e10⟩ := g_val h (i := 1) (j := 0) (by decide) (by decide) (.inr ⟨by decide, rfl⟩)
  obtain ⟨S11, v11, e11⟩ := g_val h (i := 1) (j := 1) (by decide) (by decide) (.inl ⟨rfl, rfl⟩)
  obtain ⟨S12, v12, e12⟩ := g_val h (i := 1) (j := 2) (by decide) (by decide) (.inr ⟨by decide, rfl⟩)
  obtain ⟨S20, v20, e20⟩ := g_val h (i := 2) (j := 0) (by decide) (by decide) (.inr ⟨by decide, rfl⟩)
  obtain ⟨S21, v21, e21⟩ := g_val h (i := 2) (j := 1) (by decide) (by decide) (.inr ⟨by decide, rfl⟩)
  obtain ⟨S22, v22, e22⟩ := g_val h (i := 2) (j := 2) (by decide) (by decide) (.inl ⟨rfl, rfl⟩)
  simp only [Nat.mul_zero, Nat.mul_one, Nat.zero_add, Nat.reduceMul, Nat.reduceAdd, Rat.add_zero] at e00 e01 e02 e10 e11 e12 e20 e21 e22
  have ha := h.all
  have b00 : 399 ≤ S00 ∧ S00 ≤ 915 := by
    obtain ⟨x1, x2⟩ := diag_bounds h.d0 h.o1 h.o2
    obtain ⟨y1, y2⟩ := e00
    generalize a 0 * a 0 + a 1 * a 1 + a 2 * a 2 = z at *
    clear e01 e02 e10 e11 e12 e20 e21 e22 ha h
    constructor <;> grind
  have b11 : 399 ≤ S11 ∧ S11 ≤ 915 := by
    obtain ⟨x1, x2⟩ := diag_bounds h.d4 h.o3 h.o5
    obtain ⟨y1, y2⟩ := e11
    have e : a 4 * a 4 + a 3 * a 3 + a 5 * a 5 = a 3 * a 3 + a 4 * a 4 + a 5 * a 5 := by rw [Rat.add_comm (a 4 * a 4)]
    rw [e] at x1 x2
    generalize a 3 * a 3 + a 4 * a 4 + a 5 * a 5 = z at *
    clear e01 e02 e10 e00 e12 e20 e21 e22 ha h
    constructor <;> grind
  have b22 : 399 ≤ S22 ∧ S22 ≤ 915 := by
    obtain ⟨x1, x2⟩ := diag_bounds h.d8 h.o6 h.o7
    obtain ⟨y1, y2⟩ := e22
    have e : a 8 * a 8 + a 6 * a 6 + a 7 * a 7 = a 6 * a 6 + a 7 * a 7 + a 8 * a 8 := by
      generalize a 6 * a 6 = p
      generalize a 7 * a 7 = q
      generalize a 8 * a 8 = r
      clear x1 x2 y1 y2 e00 e01 e02 e10 e11 e12 e20 e21 b00 b11
      grind
    rw [e] at x1 x2
    generalize a 6 * a 6 + a 7 * a 7 + a 8 * a 8 = z at *
    clear e01 e02 e10 e11 e12 e20 e21 e00 ha h
    constructor <;> grind
  have small : ∀ {s σ : Rat}, (-(13 / 10000) ≤ s - σ ∧ s - σ ≤ 13 / 10000) → (-(5125 / 10) ≤ σ ∧ σ ≤ 5125 / 10) → -513 ≤ s ∧ s ≤ 513 := by
    intro s σ x y
    obtain ⟨x1, x2⟩ := x
    obtain ⟨y1, y2⟩ := y
    clear e01 e02 e10 e11 e12 e20 e21 e22 e00 b00 b11 b22 ha h
    constructor <;> grind
  have comm2 : ∀ p q x y z w : Rat, p * q + x * y + z * w = q * p + y * x + w * z := fun p q x y z w => by grind
  have b10 := small e10 (by rw [comm2]; exact off_bounds (ha 0 (by decide)) h.o3 h.o1 (ha 4 (by decide)) h.o2 h.o5)
  have b20 := small e20 (by
    have r : a 6 * a 0 + a 7 * a 1 + a 8 * a 2 = a 0 * a 6 + a 2 * a 8 + a 1 * a 7 := by
      clear e01 e02 e10 e11 e12 e20 e21 e22 e00 b00 b11 b22 ha
      grind
    rw [r]; exact off_bounds (ha 0 (by decide)) h.o6 h.o2 (ha 8 (by decide)) h.o1 h.o7)
  have b21 := small e21 (by
    have r : a 6 * a 3 + a 7 * a 4 + a 8 * a 5 = a 4 * a 7 + a 5 * a 8 + a 3 * a 6 := by
      clear e01 e02 e10 e11 e12 e20 e21 e22 e00 b00 b11 b22 ha
      grind
    rw [r]; exact off_bounds (ha 4 (by decide)) h.o7 h.o5 (ha 8 (by decide)) h.o3 h.o6)
  obtain ⟨R00, R10, R11, R20, R21, R22, R⟩ := root_ok h1 v00 v10 v11 v20 v21 v22 e00 e10 e20 e11 e21 e22 b00 b11 b22 b10 b20 b21
  have w24 : Val (den E (.arg 24)) R00 := by show Val (E.arg 24) R00; rw [q24]; exact R.v00
  have w25 : Val (den E (.arg 25)) R10 := by show Val (E.arg 25) R10; rw [q25]; exact R.v10
  have w26 : Val (den E (.arg 26)) R11 := by show Val (E.arg 26) R11; rw [q26]; exact R.v11
  have w27 : Val (den E (.arg 27)) R20 := by show Val (E.arg 27) R20; rw [q27]; exact R.v20
  have w28 : Val (den E (.arg 28)) R21 := by show Val (E.arg 28) R21; rw [q28]; exact R.v21
  have w29 : Val (den E (.arg 29)) R22 := by show Val (E.arg 29) R22; rw [q29]; exact R.v22
  have z := l0_val E
  constructor
  · obtain ⟨p, vp, hp⟩ := R.w11
    obtain ⟨p', vp', hp'⟩ := R.w22
    refine facts_fin v00 <| facts_fin v01 <| facts_fin v02 <| facts_fin v10 <| facts_fin v11 <| facts_fin v12 <| facts_fin v20 <| facts_fin v21 <| facts_fin v22 ?_
    refine facts_cons (gtr_zero v00 (by have := b00.1; clear e01 e02 e10 e11 e12 e20 e21 e22 e00; grind)) ?_
    refine facts_cons (gtr_zero vp hp) <| facts_fin vp <| facts_cons (gtr_zero vp' hp') <| facts_fin vp' facts_nil
  · have k10 := R.n10
    have k20 := R.n20
    have k21 := R.n21
    have e01' : -(13 / 10000) ≤ S01 - (a 3 * a 0 + a 4 * a 1 + a 5 * a 2) ∧ S01 - (a 3 * a 0 + a 4 * a 1 + a 5 * a 2) ≤ 13 / 10000 := by rw [comm2 (a 3)]; exact e01
    have e02' : -(13 / 10000) ≤ S02 - (a 6 * a 0 + a 7 * a 1 + a 8 * a 2) ∧ S02 - (a 6 * a 0 + a 7 * a 1 + a 8 * a 2) ≤ 13 / 10000 := by rw [comm2 (a 6)]; exact e02
    have e12' : -(13 / 10000) ≤ S12 - (a 6 * a 3 + a 7 * a 4 + a 8 * a 5) ∧ S12 - (a 6 * a 3 + a 7 * a 4 + a 8 * a 5) ≤ 13 / 10000 := by rw [comm2 (a 6)]; exact e12
    have n22 : -(5 / 1000) ≤ R20 * R20 + R21 * R21 + R22 * R22 - S22 ∧ R20 * R20 + R21 * R21 + R22 * R22 - S22 ≤ 5 / 1000 := near_join R.n22 e22 e22
    have n21 : -(5 / 1000) ≤ R20 * R10 + R21 * R11 + R22 * 0 - S21 ∧ R20 * R10 + R21 * R11 + R22 * 0 - S21 ≤ 5 / 1000 := by rw [Rat.mul_zero, Rat.add_zero]; exact near_join k21 e21 e21
    have n20 : -(5 / 1000) ≤ R20 * R00 + R21 * 0 + R22 * 0 - S20 ∧ R20 * R00 + R21 * 0 + R22 * 0 - S20 ≤ 5 / 1000 := by rw [Rat.mul_zero, Rat.mul_zero, Rat.add_zero, Rat.add_zero]; exact near_join k20 e20 e20
    have n12 : -(5 / 1000) ≤ R10 * R20 + R11 * R21 + 0 * R22 - S12 ∧ R10 * R20 + R11 * R21 + 0 * R22 - S12 ≤ 5 / 1000 := by rw [Rat.zero_mul, Rat.add_zero, Rat.mul_comm R10, Rat.mul_comm R11]; exact near_join k21 e21 e12'
    have n11 : -(5 / 1000) ≤ R10 * R10 + R11 * R11 + 0 * 0 - S11 ∧ R10 * R10 + R11 * R11 + 0 * 0 - S11 ≤ 5 / 1000 := by rw [Rat.zero_mul, Rat.add_zero]; exact near_join R.n11 e11 e11
    have n10 : -(5 / 1000) ≤ R10 * R00 + R11 * 0 + 0 * 0 - S10 ∧ R10 * R00 + R11 * 0 + 0 * 0 - S10 ≤ 5 / 1000 := by rw [Rat.mul_zero, Rat.mul_zero, Rat.add_zero, Rat.add_zero]; exact near_join k10 e10 e10
    have n02 : -(5 / 1000) ≤ R00 * R20 + 0 * R21 + 0 * R22 - S02 ∧ R00 * R20 + 0 * R21 + 0 * R22 - S02 ≤ 5 / 1000 := by rw [Rat.zero_mul, Rat.zero_mul, Rat.add_zero, Rat.add_zero, Rat.mul_comm R00]; exact near_join k20 e20 e02'
    have n01 : -(5 / 1000) ≤ R00 * R10 + 0 * R11 + 0 * 0 - S01 ∧ R00 * R10 + 0 * R11 + 0 * 0 - S01 ≤ 5 / 1000 := by rw [Rat.zero_mul, Rat.mul_zero, Rat.add_zero, Rat.add_zero, Rat.mul_comm R00]; exact near_join k10 e10 e01'
    have n00 : -(5 / 1000) ≤ R00 * R00 + 0 * 0 + 0 * 0 - S00 ∧ R00 * R00 + 0 * 0 + 0 * 0 - S00 ≤ 5 / 1000 := by rw [Rat.mul_zero, Rat.add_zero, Rat.add_zero]; exact near_join R.n00 e00 e00
    have c00 := R.b00; have c10 := R.b10; have c11 := R.b11; have c20 := R.b20; have c21 := R.b21; have c22 := R.b22
    have z0 := zero_in
    refine facts_cons (back_one w27 w27 w28 w28 w29 w29 v22 c20 c20 c21 c21 c22 c22 n22) ?_
    refine facts_cons (back_one w27 w25 w28 w26 w29 z v21 c20 c10 c21 c11 c22 z0 n21) ?_
    refine facts_cons (back_one w27 w24 w28 z w29 z v20 c20 c00 c21 z0 c22 z0 n20) ?_
    refine facts_cons (back_one w25 w27 w26 w28 z w29 v12 c10 c20 c11 c21 z0 c22 n12) ?_
    refine facts_cons (back_one w25 w25 w26 w26 z z v11 c10 c10 c11 c11 z0 z0 n11) ?_
    refine facts_cons (back_one w25 w24 w26 z z z v10 c10 c00 c11 z0 z0 z0 n10) ?_
    refine facts_cons (back_one w24 w27 z w28 z w29 v02 c00 c20 z0 c21 z0 c22 n02) ?_
    refine facts_cons (back_one w24 w25 z w26 z z v01 c00 c10 z0 c11 z0 z0 n01) ?_
    exact facts_cons (back_one w24 w24 z z z z v00 c00 c00 z0 z0 z0 z0 n00) facts_nil
end Go.Sx

/-   A system with a row of nothing: what the run asks. Conditions: none. -/
namespace Go.Sx
open Ieee

theorem nearest_zero (g : Bool) (p : Int) : Val (some (single.nearest g 0 p)) 0 := by
  refine ⟨_, g, 0, -149, rfl, ?_, by omega, (datV_zero _ _).symm⟩
  unfold Format.nearest
  rw [if_pos rfl]
  cases g <;> decide

theorem datV_eq_zero {g : Bool} {m : Nat} {e : Int} (h : datV g m e = 0) : m = 0 := by
  by_cases h0 : m = 0
  · exact h0
  · have h1 := Rat.mul_pos (nat_pos h0) (p2_pos e)
    unfold datV at h
    generalize (m : Rat) * p2 e = u at *
    rcases sgq_cases g with k | k <;> rw [k] at h <;> grind

theorem zero_quo {x y : CF} {b : Rat} (hx : Val x 0) (hy : Val y b) (hb : b ≠ 0) : Val (cbin .quo .f32 x y) 0 := by
  obtain ⟨c, g, m, e, rfl, k1, _, k3⟩ := hx
  obtain ⟨d, g', n, e', rfl, l1, _, rfl⟩ := hy
  have hm := datV_eq_zero k3.symm
  subst hm
  have hn : n ≠ 0 := fun h => hb (by rw [h]; exact datV_zero _ _)
  have hv : cbin .quo .f32 (some c) (some d) = Option.map single.write ((single.read c).quotient 25 (single.read d)) := rfl
  rw [hv, k1, l1]
  simp only [Datum.quotient]
  rw [if_neg hn]
  show Val (some (single.nearest (g ^^ g') _ _)) 0
  have e0 : 2 * ((0 <<< (25 + n.log2 - Nat.log2 0)) / n) + ((0 <<< (25 + n.log2 - Nat.log2 0)) % n != 0).toNat = 0 := by simp
  rw [e0]
  exact nearest_zero _ _
theorem zero_mul {x y : CF} {b : Rat} (hx : Val x 0) (hy : Val y b) : Val (cbin .mul .f32 x y) 0 := by
  obtain ⟨c, g, m, e, rfl, k1, _, k3⟩ := hx
  obtain ⟨d, g', n, e', rfl, l1, _, rfl⟩ := hy
  have hm := datV_eq_zero k3.symm
  subst hm
  have hv : cbin .mul .f32 (some c) (some d) = Option.map single.write ((single.read c).product (single.read d)) := rfl
  rw [hv, k1, l1]
  show Val (some (single.nearest (g ^^ g') (0 * n) _)) 0
  rw [Nat.zero_mul]
  exact nearest_zero _ _
theorem zero_sub {x y : CF} (hx : Val x 0) (hy : Val y 0) : Val (cbin .sub .f32 x y) 0 := by
  obtain ⟨c, g, m, e, rfl, k1, _, k3⟩ := hx
  obtain ⟨d, g', n, e', rfl, l1, _, l3⟩ := hy
  have hv : cbin .sub .f32 (some c) (some d) = Option.map single.write ((single.read c).sum (single.read d).opposite) := rfl
  rw [hv, k1, l1]
  show Val (Option.map single.write ((Datum.number g m e).sum (.number (!g') n e'))) 0
  obtain ⟨G, M, P, q1, q2⟩ := @sum_q g (!g') m n e e'
  rw [q1]
  rw [datV_neg, ← k3, ← l3] at q2
  have hM : M = 0 := datV_eq_zero (by rw [q2]; decide +kernel)
  subst hM
  exact nearest_zero _ _

theorem sq_lt_iff {r s : Rat} (hr : 0 ≤ r) (hs : 0 ≤ s) : s < r ↔ s * s < r * r := by
  constructor
  · intro h
    have h1 := Rat.mul_le_mul_of_nonneg_left (Rat.le_of_lt h) hs
    have h2 := Rat.mul_lt_mul_of_pos_right h (show 0 < r by grind)
    grind
  · intro h
    by_cases h1 : s < r
    · exact h1
    · have h2 : r ≤ s := Rat.not_lt.1 h1
      have h3 := Rat.mul_le_mul_of_nonneg_left h2 hr
      have h4 := Rat.mul_le_mul_of_nonneg_right h2 hs
      grind

/-- Which is greater. -/
theorem gtr_sq {x y : CF} {a b : Rat} (hx : Val x a) (hy : Val y b) : ccmp .gtr .f32 (cabs .f32 x) (cabs .f32 y) = decide (b * b < a * a) := by
  obtain ⟨r, vr, hr, er⟩ := val_abs hx
  obtain ⟨s, vs, hs, es⟩ := val_abs hy
  have e1 : r * r = a * a := by rcases er with rfl | rfl <;> grind
  have e2 : s * s = b * b := by rcases es with rfl | rfl <;> grind
  rw [← e1, ← e2]
  obtain ⟨o1, o2, o3⟩ := val_ord vr vs
  have hi := sq_lt_iff hr hs
  show (cord .f32 _ _ == some .gt) = _
  rcases (show r < s ∨ r = s ∨ s < r by grind) with h | h | h
  · rw [o1 h, decide_eq_false (fun k => by have := hi.2 k; grind)]; rfl
  · rw [o2 h, decide_eq_false (fun k => by have := hi.2 k; grind)]; rfl
  · rw [o3 h, decide_eq_true (hi.1 h)]; rfl
theorem eql_zero {x : CF} {a : Rat} (hx : Val x a) : ccmp .eql .f32 x (canon .f32 0) = decide (a = 0) := by
  obtain ⟨o1, o2, o3⟩ := val_ord hx zero_val
  show (cord .f32 _ _ == some .eq) = _
  rcases (show a < 0 ∨ a = 0 ∨ 0 < a by grind) with h | h | h
  · rw [o1 h, decide_eq_false (by grind)]; rfl
  · rw [o2 h, decide_eq_true h]; rfl
  · rw [o3 h, decide_eq_false (by grind)]; rfl

def gtrF (x y : T) (b : Bool) : Atom × Bool := ((.cmp 3 .f32 (.abs .f32 x) (.abs .f32 y)), b)
def nilF (x : T) (b : Bool) : Atom × Bool := ((.cmp 0 .f32 x (.lit .f32 0)), b)
theorem gtrF_ok {E : Env} {x y : T} {a b : Rat} {fs : Facts} {t : Bool} (hx : Val (den E x) a) (hy : Val (den E y) b) (h : decide (b * b < a * a) = t) (hf : FactsOK E fs) : FactsOK E (gtrF x y t :: fs) :=
  facts_cons ((gtr_sq hx hy).trans h) hf
theorem nilF_ok {E : Env} {x : T} {a : Rat} {fs : Facts} {t : Bool} (hx : Val (den E x) a) (h : decide (a = 0) = t) (hf : FactsOK E fs) : FactsOK E (nilF x t :: fs) :=
  facts_cons ((eql_zero hx).trans h) hf

/-- A row of nothing, and a row, behind a row that is taken away. -/
def zT (p j : Nat) : T := .bin 1 l0 (.bin 2 (.bin 3 l0 (.arg p)) (.arg (p + j)))
def wT (q p j : Nat) : T := .bin 1 (.arg (q + j)) (.bin 2 (.bin 3 (.arg q) (.arg p)) (.arg (p + j)))
def endT (p q : Nat) : T := .bin 1 (zT p 2) (.bin 2 (.bin 3 (zT p 1) (wT q p 1)) (wT q p 2))
def tailW (p q : Nat) : Facts := [gtrF (wT q p 1) (zT p 1) true, nilF (endT p q) true]
def tailZ (p q : Nat) : Facts := [gtrF (wT q p 1) (zT p 1) false, nilF (zT p 1) true]
def tailC (p q : Nat) : Facts := [gtrF (zT p 1) (wT q p 1) false, nilF (wT q p 1) true]
def tailD (p q : Nat) : Facts := [gtrF (zT p 1) (wT q p 1) false, nilF (wT q p 1) false, nilF (endT p q) true]

theorem w_val {x y z u : CF} {a b c d : Rat} (hx : Val x a) (hy : Val y b) (hz : Val z c) (hu : Val u d) (hb : b ≠ 0) (hab : a * a ≤ b * b) (bc : -(2801 / 100) ≤ c ∧ c ≤ 2801 / 100) (bd : -(2801 / 100) ≤ d ∧ d ≤ 2801 / 100) :
    ∃ w, Val (cbin .sub .f32 u (cbin .mul .f32 (cbin .quo .f32 x y) z)) w := by
  obtain ⟨q, hq⟩ : ∃ q : Rat, q * b = a := ⟨a / b, by grind⟩
  have q1 : -1 ≤ q ∧ q ≤ 1 := by
    refine sq_le (by decide +kernel) ?_
    have hbb : 0 < b * b := by
      have h1 := sq_nn b
      have h2 : b * b ≠ 0 := by grind
      grind
    refine Rat.le_of_mul_le_mul_right (c := b * b) ?_ hbb
    have e : q * q * (b * b) = a * a := by rw [← hq]; grind
    rw [e]
    generalize a * a = aa at *
    generalize b * b = bb at *
    grind
  obtain ⟨f, vf, f1, f2⟩ := div_off hx hy hb q hq 1 q1.1 q1.2 (by decide +kernel)
  have bf : -(101 / 100) ≤ f ∧ f ≤ 101 / 100 := by
    obtain ⟨x1, x2⟩ := q1
    clear hab hq bc bd
    constructor <;> grind
  obtain ⟨m1, m2⟩ := mul_bd bf.1 bf.2 bc.1 bc.2
  obtain ⟨p, vp, p1, p2⟩ := mul_off vf hz 29 (by clear hab hq bc bd; grind) (by clear hab hq bc bd; grind) (by decide +kernel)
  generalize f * c = fc at *
  obtain ⟨x1, x2⟩ := bd
  obtain ⟨w, vw, _⟩ := sub_off hu vp 60 (by clear hab hq bc q1 bf f1 f2; grind) (by clear hab hq bc q1 bf f1 f2; grind) (by decide +kernel)
  exact ⟨w, vw⟩

/-- Either the row keeps something, or it does not. -/
theorem tails {E : Env} {a : Nat → Rat} (h : MatV E a) {p q : Nat} (hp : p + 2 < 9) (hq : q + 2 < 9) (hb : a p ≠ 0) (hab : a q * a q ≤ a p * a p) :
    (FactsOK E (tailW p q) ∧ FactsOK E (tailD p q)) ∨ (FactsOK E (tailZ p q) ∧ FactsOK E (tailC p q)) := by
  have hv := h.val
  have ha := h.all
  have z := l0_val E
  have z1 : Val (den E (zT p 1)) 0 := zero_sub z (zero_mul (zero_quo z (hv p (by omega)) hb) (hv (p + 1) (by omega)))
  have z2 : Val (den E (zT p 2)) 0 := zero_sub z (zero_mul (zero_quo z (hv p (by omega)) hb) (hv (p + 2) (by omega)))
  obtain ⟨w1, v1⟩ := w_val (hv q (by omega)) (hv p (by omega)) (hv (p + 1) (by omega)) (hv (q + 1) (by omega)) hb hab (ha _ (by omega)) (ha _ (by omega))
  obtain ⟨w2, v2⟩ := w_val (hv q (by omega)) (hv p (by omega)) (hv (p + 2) (by omega)) (hv (q + 2) (by omega)) hb hab (ha _ (by omega)) (ha _ (by omega))
  have v1' : Val (den E (wT q p 1)) w1 := v1
  have v2' : Val (den E (wT q p 2)) w2 := v2
  have hno : ∀ x : Rat, ¬ x * x < 0 * 0 := fun x k => by have := sq_nn x; grind
  by_cases hw : w1 = 0
  · right
    constructor
    · exact gtrF_ok v1' z1 (decide_eq_false (by rw [hw]; decide +kernel)) <| nilF_ok z1 (decide_eq_true rfl) facts_nil
    · exact gtrF_ok z1 v1' (decide_eq_false (by rw [hw]; decide +kernel)) <| nilF_ok v1' (decide_eq_true hw) facts_nil
  · left
    have hend : Val (den E (endT p q)) 0 := zero_sub z2 (zero_mul (zero_quo z1 v1' hw) v2')
    have hpos : 0 * 0 < w1 * w1 := by
      have h1 := sq_nn w1
      have h2 : w1 * w1 ≠ 0 := by grind
      grind
    constructor
    · exact gtrF_ok v1' z1 (decide_eq_true hpos) <| nilF_ok hend (decide_eq_true rfl) facts_nil
    · exact gtrF_ok z1 v1' (decide_eq_false (hno w1)) <| nilF_ok v1' (decide_eq_false hw) <| nilF_ok hend (decide_eq_true rfl) facts_nil
end Go.Sx

/-   The law of solved systems: what its runs ask, and that it holds. Conditions: none. -/
namespace Go.Sx
open Ieee

def lastA : Facts := [gtrF (.arg 3) l0 false, gtrF (.arg 6) l0 false, nilF l0 true]
def preB : Facts := [gtrF (.arg 3) l0 true, gtrF (.arg 6) (.arg 3) false, nilF (.arg 3) false]
def preC : Facts := [gtrF (.arg 3) l0 true, gtrF (.arg 6) (.arg 3) true, nilF (.arg 6) false]
def preN : Facts := [gtrF (.arg 3) l0 false, gtrF (.arg 6) l0 true, nilF (.arg 6) false]
def preD : Facts := [gtrF l0 (.arg 0) false, gtrF (.arg 6) (.arg 0) false, nilF (.arg 0) false]
def preK : Facts := [gtrF (.arg 3) (.arg 0) false, gtrF l0 (.arg 0) false, nilF (.arg 0) false]

/-- All cells are finite. -/
def lastFin : Facts := matFin ++ [fin l0, fin (.arg 9), fin (.arg 10), fin (.arg 11)]
theorem last_fin {E : Env} {a : Nat → Rat} (h : MatV E a) {c0 c1 c2 : Rat} (v9 : Val (E.arg 9) c0) (v10 : Val (E.arg 10) c1) (v11 : Val (E.arg 11) c2) : FactsOK E lastFin :=
  facts_app (mat_fin h) <| facts_fin (l0_val E) <| facts_fin (t := .arg 9) v9 <| facts_fin (t := .arg 10) v10 <| facts_fin (t := .arg 11) v11 facts_nil

theorem pos_sq {x : Rat} (h : x ≠ 0) : 0 * 0 < x * x := by
  have h1 := sq_nn x
  have h2 : x * x ≠ 0 := by grind
  grind
theorem not_sq (x : Rat) : ¬ x * x < 0 * 0 := fun k => by have := sq_nn x; grind

theorem last0 {E : Env} {a : Nat → Rat} (h : MatV E a) : FactsOK E lastA ∨ FactsOK E (preB ++ tailW 3 6) ∨ FactsOK E (preB ++ tailZ 3 6) ∨ FactsOK E (preC ++ tailC 6 3) ∨ FactsOK E (preC ++ tailD 6 3) ∨ FactsOK E (preN ++ tailC 6 3) ∨ FactsOK E (preN ++ tailD 6 3) := by
  have z := l0_val E
  have v3 : Val (den E (.arg 3)) (a 3) := h.val 3 (by decide)
  have v6 : Val (den E (.arg 6)) (a 6) := h.val 6 (by decide)
  by_cases h3 : a 3 = 0
  · by_cases h6 : a 6 = 0
    · left
      exact gtrF_ok v3 z (decide_eq_false (by rw [h3]; decide +kernel)) <| gtrF_ok v6 z (decide_eq_false (by rw [h6]; decide +kernel)) <| nilF_ok z (decide_eq_true rfl) facts_nil
    · have pre : FactsOK E preN := gtrF_ok v3 z (decide_eq_false (by rw [h3]; decide +kernel)) <| gtrF_ok v6 z (decide_eq_true (pos_sq h6)) <| nilF_ok v6 (decide_eq_false h6) facts_nil
      rcases tails h (p := 6) (q := 3) (by decide) (by decide) h6 (by rw [h3, Rat.mul_zero]; exact sq_nn _) with ⟨_, t⟩ | ⟨_, t⟩
      · right; right; right; right; right; right; exact facts_app pre t
      · right; right; right; right; right; left; exact facts_app pre t
  · by_cases hc : a 3 * a 3 < a 6 * a 6
    · have h6 : a 6 ≠ 0 := fun k => by rw [k, Rat.mul_zero] at hc; have := sq_nn (a 3); grind
      have pre : FactsOK E preC := gtrF_ok v3 z (decide_eq_true (pos_sq h3)) <| gtrF_ok v6 v3 (decide_eq_true hc) <| nilF_ok v6 (decide_eq_false h6) facts_nil
      rcases tails h (p := 6) (q := 3) (by decide) (by decide) h6 (Rat.le_of_lt hc) with ⟨_, t⟩ | ⟨_, t⟩
      · right; right; right; right; left; exact facts_app pre t
      · right; right; right; left; exact facts_app pre t
    · have pre : FactsOK E preB := gtrF_ok v3 z (decide_eq_true (pos_sq h3)) <| gtrF_ok v6 v3 (decide_eq_false hc) <| nilF_ok v3 (decide_eq_false h3) facts_nil
      rcases tails h (p := 3) (q := 6) (by decide) (by decide) h3 (Rat.not_lt.1 hc) with ⟨t, _⟩ | ⟨t, _⟩
      · right; left; exact facts_app pre t
      · right; right; left; exact facts_app pre t

theorem heavy_sq {E : Env} {a : Nat → Rat} (h : MatV E a) {x : Rat} (hx : -8 ≤ x ∧ x ≤ 8) : x * x ≤ a 0 * a 0 ∧ a 0 ≠ 0 := by
  have h0 := h.d0
  have m := (mul_bd hx.1 hx.2 hx.1 hx.2).2
  have lo1 := Rat.mul_le_mul_of_nonneg_left h0.1 (show 0 ≤ a 0 by grind)
  have lo2 : 1999 / 100 * (1999 / 100) ≤ a 0 * (1999 / 100) := Rat.mul_le_mul_of_nonneg_right h0.1 (by decide +kernel)
  generalize x * x = X at *
  generalize a 0 * a 0 = Y at *
  constructor <;> grind

theorem last1 {E : Env} {a : Nat → Rat} (h : MatV E a) : FactsOK E (preD ++ tailW 0 6) ∨ FactsOK E (preD ++ tailZ 0 6) := by
  have z := l0_val E
  have v0 : Val (den E (.arg 0)) (a 0) := h.val 0 (by decide)
  have v6 : Val (den E (.arg 6)) (a 6) := h.val 6 (by decide)
  obtain ⟨s6, n0⟩ := heavy_sq h h.o6
  have pre : FactsOK E preD := gtrF_ok z v0 (decide_eq_false (not_sq _)) <| gtrF_ok v6 v0 (decide_eq_false (Rat.not_lt.2 s6)) <| nilF_ok v0 (decide_eq_false n0) facts_nil
  rcases tails h (p := 0) (q := 6) (by decide) (by decide) n0 s6 with ⟨t, _⟩ | ⟨t, _⟩
  · exact .inl (facts_app pre t)
  · exact .inr (facts_app pre t)
theorem last2 {E : Env} {a : Nat → Rat} (h : MatV E a) : FactsOK E (preK ++ tailC 0 3) ∨ FactsOK E (preK ++ tailD 0 3) := by
  have z := l0_val E
  have v0 : Val (den E (.arg 0)) (a 0) := h.val 0 (by decide)
  have v3 : Val (den E (.arg 3)) (a 3) := h.val 3 (by decide)
  obtain ⟨s3, n0⟩ := heavy_sq h h.o3
  have pre : FactsOK E preK := gtrF_ok v3 v0 (decide_eq_false (Rat.not_lt.2 s3)) <| gtrF_ok z v0 (decide_eq_false (not_sq _)) <| nilF_ok v0 (decide_eq_false n0) facts_nil
  rcases tails h (p := 0) (q := 3) (by decide) (by decide) n0 s3 with ⟨_, t⟩ | ⟨_, t⟩
  · exact .inr (facts_app pre t)
  · exact .inl (facts_app pre t)

/-! ### The whole law -/
def mL : List T := [.arg 0, .arg 1, .arg 2, .arg 3, .arg 4, .arg 5, .arg 6, .arg 7, .arg 8]
def vL : List T := [.arg 9, .arg 10, .arg 11]
def unitL : Nat → List T
  | 0 => [l1, l0, l0]
  | 1 => [l0, l1, l0]
  | _ => [l0, l0, l1]
def outL (i : Nat) : List T := [.arg i, .arg (i + 1), .arg (i + 2)]
def zeroRow : Nat → List T
  | 0 => [l0, l0, l0, .arg 3, .arg 4, .arg 5, .arg 6, .arg 7, .arg 8]
  | 1 => [.arg 0, .arg 1, .arg 2, l0, l0, l0, .arg 6, .arg 7, .arg 8]
  | _ => [.arg 0, .arg 1, .arg 2, .arg 3, .arg 4, .arg 5, l0, l0, l0]
def sL : List T := [gT 0 0, gT 0 1, gT 0 2, gT 1 0, gT 1 1, gT 1 2, gT 2 0, gT 2 1, gT 2 2]
def rL : List T := [.arg 24, l0, l0, .arg 25, .arg 26, l0, .arg 27, .arg 28, .arg 29]
def rootL : List T := [r00T, l0, l0, r10T, r11T, l0, r20T, r21T, r22T]
def solL (b0 b1 b2 : T) : List T := [x0T b0 b1 b2, x1T b0 b1 b2, x2T b0 b1 b2]
def solveE : List Entry := [([mL, vL], outL 12, 0), ([mL, unitL 0], outL 15, 0), ([mL, unitL 1], outL 18, 0), ([mL, unitL 2], outL 21, 0)]
def lastE (k : Nat) : Entry := ([zeroRow k, vL], [l0, l0, l0], 4)
def rootE : List Entry := [([sL], rL, 0)]

/-- What the later arguments stand for. -/
def solTerm : Nat → T
  | 0 => x0T (.arg 9) (.arg 10) (.arg 11)
  | 1 => x1T (.arg 9) (.arg 10) (.arg 11)
  | 2 => x2T (.arg 9) (.arg 10) (.arg 11)
  | 3 => x0T l1 l0 l0
  | 4 => x1T l1 l0 l0
  | 5 => x2T l1 l0 l0
  | 6 => x0T l0 l1 l0
  | 7 => x1T l0 l1 l0
  | 8 => x2T l0 l1 l0
  | 9 => x0T l0 l0 l1
  | 10 => x1T l0 l0 l1
  | 11 => x2T l0 l0 l1
  | 12 => r00T
  | 13 => r10T
  | 14 => r11T
  | 15 => r20T
  | 16 => r21T
  | 17 => r22T
  | _ => l0

def fullArg (base : Nat → CF) (i : Nat) : CF :=
  if i < 12 then base i else den { arg := base, f1 := stdF1, f2 := fun _ x _ => x } (solTerm (i - 12))

theorem sol_below : ∀ k, k < 18 → below 12 (solTerm k) = true := by decide +kernel
theorem full_sol {E : Env} {base : Nat → CF} (ha : E.arg = fullArg base) (h1 : E.f1 = stdF1) (h2 : E.f2 = fun _ x _ => x) {k : Nat} (hk : k < 18) : E.arg (12 + k) = den E (solTerm k) := by
  have hb := sol_below k hk
  rw [den_below (E := E) (E' := { arg := base, f1 := stdF1, f2 := fun _ x _ => x }) (n := 12) (fun i hi => by rw [ha]; show fullArg base i = base i; unfold fullArg; rw [if_pos hi]) h1 h2 hb, ha]
  unfold fullArg
  rw [if_neg (by omega), Nat.add_sub_cancel_left]

def rowsF (i : Nat) (t0 t1 t2 : T) : Facts := [nearF (dotT (.arg 6) (.arg i) (.arg 7) (.arg (i + 1)) (.arg 8) (.arg (i + 2))) t2 981668463, nearF (dotT (.arg 3) (.arg i) (.arg 4) (.arg (i + 1)) (.arg 5) (.arg (i + 2))) t1 981668463, nearF (dotT (.arg 0) (.arg i) (.arg 1) (.arg (i + 1)) (.arg 2) (.arg (i + 2))) t0 981668463]
def colF (j : Nat) (t0 t1 t2 : T) : Facts := [nearF (dotT (.arg 17) (.arg j) (.arg 20) (.arg (3 + j)) (.arg 23) (.arg (6 + j))) t2 981668463, nearF (dotT (.arg 16) (.arg j) (.arg 19) (.arg (3 + j)) (.arg 22) (.arg (6 + j))) t1 981668463, nearF (dotT (.arg 15) (.arg j) (.arg 18) (.arg (3 + j)) (.arg 21) (.arg (6 + j))) t0 981668463]
def mainFacts : Facts := rowsF 12 (.arg 9) (.arg 10) (.arg 11) ++ (rowsF 15 l1 l0 l0 ++ (rowsF 18 l0 l1 l0 ++ (rowsF 21 l0 l0 l1 ++ (colF 0 l1 l0 l0 ++ (colF 1 l0 l1 l0 ++ (colF 2 l0 l0 l1 ++ (backFacts ++ [nilF l0 true])))))))

theorem solved_facts {E : Env} (h1 : E.f1 = stdF1) {a : Nat → Rat} (h : MatV E a) {c0 c1 c2 : Rat} (v9 : Val (E.arg 9) c0) (v10 : Val (E.arg 10) c1) (v11 : Val (E.arg 11) c2) (b0 : -8 ≤ c0 ∧ c0 ≤ 8) (b1 : -8 ≤ c1 ∧ c1 ≤ 8) (b2 : -8 ≤ c2 ∧ c2 ≤ 8)
    (hx : ∀ k, k < 18 → E.arg (12 + k) = den E (solTerm k)) :
    FactsOK E mainFacts ∧ FactsOK E (solveFacts (.arg 9) (.arg 10) (.arg 11)) ∧ FactsOK E (solveFacts l1 l0 l0) ∧ FactsOK E (solveFacts l0 l1 l0) ∧ FactsOK E (solveFacts l0 l0 l1) ∧ FactsOK E rootFacts := by
  obtain ⟨L1, L2, L3, U11, U12, V21, V22, U22, F⟩ := fac_ok h
  have z := l0_val E
  have o := l1_val E
  have bz : -(1 : Rat) ≤ 0 ∧ (0 : Rat) ≤ 1 := ⟨by decide +kernel, by decide +kernel⟩
  have bo : -(1 : Rat) ≤ 1 ∧ (1 : Rat) ≤ 1 := ⟨by decide +kernel, by decide +kernel⟩
  have w9 : Val (den E (.arg 9)) c0 := v9
  have w10 : Val (den E (.arg 10)) c1 := v10
  have w11 : Val (den E (.arg 11)) c2 := v11
  obtain ⟨x0, x1, x2, S⟩ := sol_ok (B := 8) h F (by decide +kernel) (by decide +kernel) w9 w10 w11 b0 b1 b2
  obtain ⟨p0, p1, p2, P⟩ := sol_ok (B := 1) h F (by decide +kernel) (by decide +kernel) o z z bo bz bz
  obtain ⟨q0, q1, q2, Q⟩ := sol_ok (B := 1) h F (by decide +kernel) (by decide +kernel) z o z bz bo bz
  obtain ⟨r0, r1, r2, R⟩ := sol_ok (B := 1) h F (by decide +kernel) (by decide +kernel) z z o bz bz bo
  have X := S.xv (i := 12) (hx 0 (by decide)) (hx 1 (by decide)) (hx 2 (by decide))
  have PX := P.xv (i := 15) (hx 3 (by decide)) (hx 4 (by decide)) (hx 5 (by decide))
  have QX := Q.xv (i := 18) (hx 6 (by decide)) (hx 7 (by decide)) (hx 8 (by decide))
  have RX := R.xv (i := 21) (hx 9 (by decide)) (hx 10 (by decide)) (hx 11 (by decide))
  obtain ⟨RF, BF⟩ := root_facts h h1 (hx 12 (by decide)) (hx 13 (by decide)) (hx 14 (by decide)) (hx 15 (by decide)) (hx 16 (by decide)) (hx 17 (by decide))
  have one : ∀ x y w : Rat, x * 1 + y * 0 + w * 0 = x := fun x y w => by grind
  have two : ∀ x y w : Rat, x * 0 + y * 1 + w * 0 = y := fun x y w => by grind
  have thr : ∀ x y w : Rat, x * 0 + y * 0 + w * 1 = w := fun x y w => by grind
  refine ⟨?_, solve_facts h F S w9 w10 w11, solve_facts h F P o z z, solve_facts h F Q z o z, solve_facts h F R z z o, RF⟩
  refine facts_app (rows_near h X (by decide +kernel) (by decide +kernel) w9 w10 w11) ?_
  refine facts_app (rows_near h PX (by decide +kernel) (by decide +kernel) o z z) ?_
  refine facts_app (rows_near h QX (by decide +kernel) (by decide +kernel) z o z) ?_
  refine facts_app (rows_near h RX (by decide +kernel) (by decide +kernel) z z o) ?_
  refine facts_app (col_near h PX QX RX (j := 0) (by decide) o z z (one _ _ _) (one _ _ _) (one _ _ _)) ?_
  refine facts_app (col_near h PX QX RX (j := 1) (by decide) z o z (two _ _ _) (two _ _ _) (two _ _ _)) ?_
  refine facts_app (col_near h PX QX RX (j := 2) (by decide) z z o (thr _ _ _) (thr _ _ _) (thr _ _ _)) ?_
  exact facts_app BF (nilF_ok z (decide_eq_true rfl) facts_nil)
end Go.Sx

/-   A heavy diagonal, drawn. Conditions: none. -/
namespace Go.Sx
open Ieee

theorem eighth_bounds {n : Int} (h : n.natAbs ≤ 64) : -8 ≤ (n : Rat) * (1 / 8) ∧ (n : Rat) * (1 / 8) ≤ 8 := by
  have h1 : (-64 : Int) ≤ n := by omega
  have h2 : n ≤ 64 := by omega
  have k1 := Rat.intCast_le_intCast.2 h1
  have k2 := Rat.intCast_le_intCast.2 h2
  have e1 : ((-64 : Int) : Rat) = -64 := rfl
  have e2 : ((64 : Int) : Rat) = 64 := rfl
  rw [e1] at k1
  rw [e2] at k2
  constructor <;> grind

theorem twenty_val : Val (canon .f32 1101004800) 20 := by
  have h := val_lit (b := 1101004800) (N := 20) (s := 0) (by decide +kernel)
  have e : ((20 : Int) : Rat) * p2 (-(0 : Nat)) = 20 := by decide +kernel
  rw [e] at h; exact h

/-- A diagonal cell: its size, and twenty. -/
theorem heavy_val {n : Int} {x : CF} (h : Rep n 3 x) (hn : n.natAbs ≤ 64) : ∃ r, Val (cbin .add .f32 (cabs .f32 x) (canon .f32 1101004800)) r ∧ 1999 / 100 ≤ r ∧ r ≤ 2801 / 100 := by
  obtain ⟨b1, b2⟩ := eighth_bounds hn
  obtain ⟨s, vs, s0, es⟩ := val_abs (arg_val h)
  have hs : s ≤ 8 := by rcases es with rfl | rfl <;> grind
  obtain ⟨r, vr, r1, r2⟩ := add_off vs twenty_val 28 (by clear es; grind) (by clear es; grind) (by decide +kernel)
  exact ⟨r, vr, by clear es; grind, by clear es; grind⟩

def heavyL : List T := [.bin 0 (.abs .f32 (.arg 0)) (.lit .f32 1101004800), .arg 1, .arg 2, .arg 3, .bin 0 (.abs .f32 (.arg 4)) (.lit .f32 1101004800), .arg 5, .arg 6, .arg 7, .bin 0 (.abs .f32 (.arg 8)) (.lit .f32 1101004800)]

/-- The first twelve arguments. -/
def heavyBase (m v : Nat → CF) (i : Nat) : CF :=
  if i < 9 then (if i % 4 = 0 then cbin .add .f32 (cabs .f32 (m i)) (canon .f32 1101004800) else m i) else v (i - 9)

theorem heavy_mat {E : Env} {m v : Nat → CF} {k : Nat → Int} (hm : ∀ i, i < 9 → Rep (k i) 3 (m i) ∧ (k i).natAbs ≤ 64) (ha : ∀ i, i < 9 → E.arg i = heavyBase m v i) : ∃ a, MatV E a := by
  obtain ⟨r0, v0, d0⟩ := heavy_val (hm 0 (by decide)).1 (hm 0 (by decide)).2
  obtain ⟨r4, v4, d4⟩ := heavy_val (hm 4 (by decide)).1 (hm 4 (by decide)).2
  obtain ⟨r8, v8, d8⟩ := heavy_val (hm 8 (by decide)).1 (hm 8 (by decide)).2
  refine ⟨fun i => match i with | 0 => r0 | 4 => r4 | 8 => r8 | i => (k i : Rat) * (1 / 8), ?_, d0, d4, d8, eighth_bounds (hm 1 (by decide)).2, eighth_bounds (hm 2 (by decide)).2, eighth_bounds (hm 3 (by decide)).2, eighth_bounds (hm 5 (by decide)).2, eighth_bounds (hm 6 (by decide)).2, eighth_bounds (hm 7 (by decide)).2⟩
  intro i hi
  rw [ha i hi]
  match i, hi with
  | 0, _ => exact v0
  | 1, _ => exact arg_val (hm 1 (by decide)).1
  | 2, _ => exact arg_val (hm 2 (by decide)).1
  | 3, _ => exact arg_val (hm 3 (by decide)).1
  | 4, _ => exact v4
  | 5, _ => exact arg_val (hm 5 (by decide)).1
  | 6, _ => exact arg_val (hm 6 (by decide)).1
  | 7, _ => exact arg_val (hm 7 (by decide)).1
  | 8, _ => exact v8
end Go.Sx
