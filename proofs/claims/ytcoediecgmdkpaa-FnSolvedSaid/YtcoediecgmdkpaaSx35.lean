/-
  The symbolic executor, texts 34 to 35. Conditions: none.
-/
import Derived.Test.YtcoediecgmdkpaaSx33
/-   Lengths and unit vectors of small numbers: how near they are. Conditions: none. -/
namespace Go.Sx
open Ieee

def dT : T := .bin 0 (.bin 0 (.bin 2 (.arg 0) (.arg 0)) (.bin 2 (.arg 1) (.arg 1))) (.bin 2 (.arg 2) (.arg 2))
def nT : T := .narrow (.f1 2 (.wide dT))
def uT (i : Nat) : T := .bin 3 (.arg i) nT
def sT : T := .bin 0 (.bin 0 (.bin 2 (uT 0) (uT 0)) (.bin 2 (uT 1) (uT 1))) (.bin 2 (uT 2) (uT 2))
def lT : T := .narrow (.f1 2 (.wide sT))

theorem near_pure {D n Z a b c za zb zc : Rat} (hn1 : 1 / 10 ≤ n) (e1 : n * n - D ≤ D * (1 / 2000000)) (e2 : D - n * n ≤ D * (1 / 2000000)) (hD : D = a * a + b * b + c * c)
    (ha : za * n = a) (hb : zb * n = b) (hc : zc * n = c) (hZ : Z = za * za + zb * zb + zc * zc) : Z ≤ 1 + 1 / 1000000 ∧ 1 - 1 / 1000000 ≤ Z := by
  have hq : 0 < n * n := Rat.mul_pos (by grind) (by grind)
  have hZD : Z * (n * n) = D := by subst hZ; subst ha; subst hb; subst hc; rw [hD]; grind
  rw [← hZD] at e1 e2
  constructor
  · refine Rat.le_of_mul_le_mul_right (c := n * n) ?_ hq
    generalize n * n = q at *
    generalize hy : Z * q = y at *
    grind
  · refine Rat.le_of_mul_le_mul_right (c := n * n) ?_ hq
    generalize n * n = q at *
    generalize hy : Z * q = y at *
    grind
theorem facts_cons {E : Env} {a : Atom} {b : Bool} {fs : Facts} (h : holds E a = b) (hf : FactsOK E fs) : FactsOK E ((a, b) :: fs) := by
  intro p hp
  rcases List.mem_cons.1 hp with rfl | hp
  · exact h
  · exact hf p hp
theorem facts_nil {E : Env} : FactsOK E [] := fun _ h => by cases h
theorem facts_app {E : Env} {fs gs : Facts} (h : FactsOK E fs) (k : FactsOK E gs) : FactsOK E (fs ++ gs) := by
  intro p hp
  rcases List.mem_append.1 hp with h1 | h1
  · exact h p h1
  · exact k p h1

/-- A root between a tenth and fourteen. -/
theorem root_bounds {D n : Rat} (h0 : 0 ≤ n) (e1 : n * n - D ≤ D * (1 / 2000000)) (e2 : D - n * n ≤ D * (1 / 2000000)) (hlo : 1 / 64 ≤ D) (hhi : D ≤ 192) : 1 / 10 ≤ n ∧ n ≤ 14 := by
  constructor
  · exact (sq_le h0 (a := 1 / 10) (by generalize n * n = q at *; grind)).2
  · exact (sq_le (show (0 : Rat) ≤ 14 by decide +kernel) (a := n) (by generalize n * n = q at *; grind)).2

/-- A cell over the length. -/
theorem cell_pure {D n a r : Rat} (hn1 : 1 / 10 ≤ n) (e2 : D - n * n ≤ D * (1 / 2000000)) (ha : a * a ≤ D) (hr : r * n = a) : -(1001 / 1000) ≤ r ∧ r ≤ 1001 / 1000 := by
  have hn : 0 < n := by grind
  obtain ⟨h1, h2⟩ := sq_le (a := a) (c := 1001 / 1000 * n) (by grind) (by
    have hq : 0 < n * n := Rat.mul_pos hn hn
    have e : 1001 / 1000 * n * (1001 / 1000 * n) = 1001 / 1000 * (1001 / 1000) * (n * n) := by grind
    rw [e]
    generalize n * n = q at *
    generalize a * a = p at *
    grind)
  constructor
  · refine Rat.le_of_mul_le_mul_right (c := n) ?_ hn; grind
  · refine Rat.le_of_mul_le_mul_right (c := n) ?_ hn; grind

theorem sq_off {z e : Rat} (h1 : -(1001 / 1000) ≤ z) (h2 : z ≤ 1001 / 1000) (h3 : -(13 / 100000000) ≤ e) (h4 : e ≤ 13 / 100000000) : -(27 / 100000000) ≤ (z + e) * (z + e) - z * z ∧ (z + e) * (z + e) - z * z ≤ 27 / 100000000 := by
  have e0 : (z + e) * (z + e) - z * z = e * (2 * z + e) := by grind
  rw [e0]
  obtain ⟨m1, m2⟩ := mul_bd (x := e) (y := 2 * z + e) (X := 13 / 100000000) (Y := 2003 / 1000) (by grind) (by grind) (by grind) (by grind)
  have : 13 / 100000000 * (2003 / 1000) ≤ (27 / 100000000 : Rat) := by decide +kernel
  constructor <;> grind

theorem quo_off {q z : Rat} (h : Off q z (1001 / 1000)) : -(13 / 100000000) ≤ q - z ∧ q - z ≤ 13 / 100000000 := by
  obtain ⟨h1, h2⟩ := h
  constructor <;> grind

theorem sq_nn (z : Rat) : 0 ≤ z * z := by
  by_cases h : 0 ≤ z
  · exact Rat.mul_nonneg h h
  · have := Rat.mul_nonneg (show 0 ≤ -z by grind) (show 0 ≤ -z by grind)
    grind

def litU : Rat := 2748779 / 274877906944
def litV4 : Rat := 13743895 / 137438953472
def litM : Rat := 8589935 / 8589934592
theorem litU_val : Val (canon .f32 925353388) litU := by
  have h := val_lit (b := 925353388) (N := 2748779) (s := 38) (by decide +kernel)
  have e : ((2748779 : Int) : Rat) * p2 (-(38 : Nat)) = litU := by decide +kernel
  rw [e] at h; exact h
theorem litV4_val : Val (canon .f32 953267991) litV4 := by
  have h := val_lit (b := 953267991) (N := 13743895) (s := 37) (by decide +kernel)
  have e : ((13743895 : Int) : Rat) * p2 (-(37 : Nat)) = litV4 := by decide +kernel
  rw [e] at h; exact h
theorem litM_val : Val (canon .f32 981668463) litM := by
  have h := val_lit (b := 981668463) (N := 8589935) (s := 33) (by decide +kernel)
  have e : ((8589935 : Int) : Rat) * p2 (-(33 : Nat)) = litM := by decide +kernel
  rw [e] at h; exact h
theorem one_val : Val (canon .f32 1065353216) 1 := by
  have h := val_lit (b := 1065353216) (N := 1) (s := 0) (by decide +kernel)
  have e : ((1 : Int) : Rat) * p2 (-(0 : Nat)) = 1 := by decide +kernel
  rw [e] at h; exact h

/-- Near in size. -/
theorem size_leq {x : CF} {a b : Rat} {y : CF} (hx : Val x a) (hy : Val y b) (h1 : -b ≤ a) (h2 : a ≤ b) : ccmp .leq .f32 (cabs .f32 x) y = true := by
  obtain ⟨r, v, _, h⟩ := val_abs hx
  refine val_leq v hy ?_
  rcases h with rfl | rfl
  · exact h2
  · grind

/-- A cell of the unit vector, taken by the length, is the cell again. -/
theorem cell_near {x y q : CF} {n a z b : Rat} (hx : Val x a) (hn : Val y n) (hq : Val q b) (hn1 : 1 / 10 ≤ n) (hn2 : n ≤ 14) (hz : z * n = a) (z1 : -(1001 / 1000) ≤ z) (z2 : z ≤ 1001 / 1000) (hb1 : -(13 / 100000000) ≤ b - z) (hb2 : b - z ≤ 13 / 100000000) :
    ccmp .leq .f32 (cabs .f32 (cbin .sub .f32 (cbin .mul .f32 q y) x)) (canon .f32 953267991) = true := by
  obtain ⟨m1, m2⟩ := mul_bd (x := b) (y := n) (X := 1002 / 1000) (Y := 14) (by grind) (by grind) (by grind) (by grind)
  obtain ⟨m3, m4⟩ := mul_bd (x := b - z) (y := n) (X := 13 / 100000000) (Y := 14) (by grind) (by grind) (by grind) (by grind)
  obtain ⟨t, vt, o1, o2⟩ := mul_off hq hn (1002 / 1000 * 14) m1 m2 (by decide +kernel)
  have e : (b - z) * n = b * n - a := by rw [← hz]; grind
  rw [e] at m3 m4
  generalize b * n = w at *
  obtain ⟨s, vs, p1, p2⟩ := sub_off vt hx (1 / 100000) (by grind) (by grind) (by decide +kernel)
  refine size_leq vs litV4_val ?_ ?_ <;> unfold litV4 <;> grind

def vecNear : Facts := [((.cmp 2 .f32 (.abs .f32 (.bin 1 (.arg 2) (.arg 2))) (.lit .f32 0)), true),
  ((.cmp 2 .f32 (.abs .f32 (.bin 1 (.arg 1) (.arg 1))) (.lit .f32 0)), true),
  ((.cmp 2 .f32 (.abs .f32 (.bin 1 (.arg 0) (.arg 0))) (.lit .f32 0)), true),
  ((.cmp 2 .f32 (.abs .f32 (.bin 1 (.bin 2 (uT 2) nT) (.arg 2))) (.lit .f32 953267991)), true),
  ((.cmp 2 .f32 (.abs .f32 (.bin 1 (.bin 2 (uT 1) nT) (.arg 1))) (.lit .f32 953267991)), true),
  ((.cmp 2 .f32 (.abs .f32 (.bin 1 (.bin 2 (uT 0) nT) (.arg 0))) (.lit .f32 953267991)), true),
  ((.cmp 2 .f32 (.bin 1 (.lit .f32 1065353216) lT) (.lit .f32 925353388)), true),
  ((.cmp 2 .f32 (.bin 1 lT (.lit .f32 1065353216)) (.lit .f32 925353388)), true),
  ((.cmp 2 .f32 (.bin 1 dT (.bin 2 nT nT)) (.lit .f32 981668463)), true),
  ((.cmp 2 .f32 (.bin 1 (.bin 2 nT nT) dT) (.lit .f32 981668463)), true),
  ((.cmp 0 .f32 (.bin 1 nT nT) (.lit .f32 0)), true),
  ((.cmp 0 .f32 nT (.lit .f32 0)), false)]

theorem vec_near {E : Env} (h1 : E.f1 = stdF1) {a b c D : Rat} (va : Val (E.arg 0) a) (vb : Val (E.arg 1) b) (vc : Val (E.arg 2) c) (vd : Val (den E dT) D) (hD : D = a * a + b * b + c * c) (hlo : 1 / 64 ≤ D) (hhi : D ≤ 192) : FactsOK E vecNear := by
  have enT : den E nT = cnarrow (csqrt (cwide (den E dT))) := by
    show cnarrow (E.f1 2 _) = _; rw [h1]; rfl
  have elT : den E lT = cnarrow (csqrt (cwide (den E sT))) := by
    show cnarrow (E.f1 2 _) = _; rw [h1]; rfl
  obtain ⟨n, vn, hn0, e1, e2⟩ := val_root vd (by grind) (by grind)
  rw [← enT] at vn
  obtain ⟨hn1, hn2⟩ := root_bounds hn0 e1 e2 hlo hhi
  have hnz : n ≠ 0 := by grind
  have sa := sq_nn a
  have sb := sq_nn b
  have sc := sq_nn c
  -- the cells
  have cell : ∀ {x : CF} {r : Rat}, Val x r → r * r ≤ D → ∃ z q, z * n = r ∧ -(1001 / 1000) ≤ z ∧ z ≤ 1001 / 1000 ∧ Val (cbin .quo .f32 x (den E nT)) q ∧ -(13 / 100000000) ≤ q - z ∧ q - z ≤ 13 / 100000000 := by
    intro x r hx hr
    obtain ⟨z, hz⟩ : ∃ z : Rat, z * n = r := ⟨r / n, by grind⟩
    obtain ⟨z1, z2⟩ := cell_pure hn1 e2 hr hz
    obtain ⟨q, vq, hq⟩ := div_off hx vn hnz z hz (1001 / 1000) z1 z2 (by decide +kernel)
    obtain ⟨q1, q2⟩ := quo_off hq
    exact ⟨z, q, hz, z1, z2, vq, q1, q2⟩
  obtain ⟨za, qa, hza, za1, za2, vqa, qa1, qa2⟩ := cell va (by generalize a * a = x at *; generalize b * b = y at *; generalize c * c = w at *; grind)
  obtain ⟨zb, qb, hzb, zb1, zb2, vqb, qb1, qb2⟩ := cell vb (by generalize a * a = x at *; generalize b * b = y at *; generalize c * c = w at *; grind)
  obtain ⟨zc, qc, hzc, zc1, zc2, vqc, qc1, qc2⟩ := cell vc (by generalize a * a = x at *; generalize b * b = y at *; generalize c * c = w at *; grind)
  have v0 := zero_val
  refine facts_cons (size_leq (sub_self_val vc) v0 (by decide +kernel) (by decide +kernel)) (facts_cons (size_leq (sub_self_val vb) v0 (by decide +kernel) (by decide +kernel)) (facts_cons (size_leq (sub_self_val va) v0 (by decide +kernel) (by decide +kernel)) ?_))
  refine facts_cons (cell_near vc vn vqc hn1 hn2 hzc zc1 zc2 qc1 qc2) (facts_cons (cell_near vb vn vqb hn1 hn2 hzb zb1 zb2 qb1 qb2) (facts_cons (cell_near va vn vqa hn1 hn2 hza za1 za2 qa1 qa2) ?_))
  -- the length of the unit vector
  obtain ⟨l, vl, l1, l2⟩ : ∃ l, Val (den E lT) l ∧ -(4 / 1000000) ≤ l - 1 ∧ l - 1 ≤ 4 / 1000000 := by
    obtain ⟨Z1, Z2⟩ := near_pure hn1 e1 e2 hD hza hzb hzc rfl
    have qz : ∀ {z q : Rat}, -(1001 / 1000) ≤ z → z ≤ 1001 / 1000 → -(13 / 100000000) ≤ q - z → q - z ≤ 13 / 100000000 → -(27 / 100000000) ≤ q * q - z * z ∧ q * q - z * z ≤ 27 / 100000000 := by
      intro z q z1 z2 q1 q2
      have h := sq_off z1 z2 q1 q2
      have e : z + (q - z) = q := by grind
      rw [e] at h
      exact h
    obtain ⟨x1, x2⟩ := qz za1 za2 qa1 qa2
    obtain ⟨y1, y2⟩ := qz zb1 zb2 qb1 qb2
    obtain ⟨w1, w2⟩ := qz zc1 zc2 qc1 qc2
    have na := sq_nn za
    have nb := sq_nn zb
    have nc := sq_nn zc
    have na' := sq_nn qa
    have nb' := sq_nn qb
    have nc' := sq_nn qc
    obtain ⟨ra, wa, ra1, ra2⟩ := mul_off vqa vqa (101 / 100) (by grind) (by grind) (by decide +kernel)
    obtain ⟨rb, wb, rb1, rb2⟩ := mul_off vqb vqb (101 / 100) (by grind) (by grind) (by decide +kernel)
    obtain ⟨rc, wc, rc1, rc2⟩ := mul_off vqc vqc (101 / 100) (by grind) (by grind) (by decide +kernel)
    generalize za * za = A at *
    generalize zb * zb = B at *
    generalize zc * zc = C at *
    generalize qa * qa = A' at *
    generalize qb * qb = B' at *
    generalize qc * qc = C' at *
    obtain ⟨s1, ws1, s11, s12⟩ := add_off wa wb (102 / 100) (by grind) (by grind) (by decide +kernel)
    obtain ⟨s2, ws2, s21, s22⟩ := add_off ws1 wc (103 / 100) (by grind) (by grind) (by decide +kernel)
    have ws : Val (den E sT) s2 := ws2
    obtain ⟨l, vl, hl0, le1, le2⟩ := val_root ws (by grind) (by grind)
    rw [← elT] at vl
    have b1 : s2 ≤ 1 + 4 / 1000000 - 1 / 2000000 - 1 / 100000000 := by grind
    have b2 : 1 - 3 / 1000000 ≤ s2 := by grind
    obtain ⟨_, c2⟩ := sq_le (a := l) (c := 1 + 4 / 1000000) (by decide +kernel) (by generalize l * l = q at *; grind)
    obtain ⟨_, c4⟩ := sq_le (a := 1 - 4 / 1000000) (c := l) hl0 (by generalize l * l = q at *; grind)
    exact ⟨l, vl, by grind, by grind⟩
  have vone := one_val
  refine facts_cons (a := .cmp 2 .f32 (.bin 1 (.lit .f32 1065353216) lT) (.lit .f32 925353388)) ?_ (facts_cons (a := .cmp 2 .f32 (.bin 1 lT (.lit .f32 1065353216)) (.lit .f32 925353388)) ?_ ?_)
  · obtain ⟨s, vs, o1, o2⟩ := sub_off vone vl (1 / 1000) (by grind) (by grind) (by decide +kernel)
    exact val_leq vs litU_val (by unfold litU; grind)
  · obtain ⟨s, vs, o1, o2⟩ := sub_off vl vone (1 / 1000) (by grind) (by grind) (by decide +kernel)
    exact val_leq vs litU_val (by unfold litU; grind)
  -- the square of the length
  obtain ⟨p, vp, p1, p2⟩ := mul_off vn vn 193 (by generalize n * n = q at *; grind) (by generalize n * n = q at *; grind) (by decide +kernel)
  generalize n * n = q at *
  refine facts_cons (a := .cmp 2 .f32 (.bin 1 dT (.bin 2 nT nT)) (.lit .f32 981668463)) ?_ (facts_cons (a := .cmp 2 .f32 (.bin 1 (.bin 2 nT nT) dT) (.lit .f32 981668463)) ?_ ?_)
  · obtain ⟨s, vs, o1, o2⟩ := sub_off vd vp (1 / 1000) (by grind) (by grind) (by decide +kernel)
    exact val_leq vs litM_val (by unfold litM; grind)
  · obtain ⟨s, vs, o1, o2⟩ := sub_off vp vd (1 / 1000) (by grind) (by grind) (by decide +kernel)
    exact val_leq vs litM_val (by unfold litM; grind)
  refine facts_cons ?_ (facts_cons ?_ facts_nil)
  · show (cord .f32 (cbin .sub .f32 (den E nT) (den E nT)) (canon .f32 0) == some .eq) = true
    rw [(val_ord (sub_self_val vn) v0).2.1 rfl]; rfl
  · show (cord .f32 (den E nT) (canon .f32 0) == some .eq) = false
    rw [(val_ord vn v0).2.2 (by grind)]; rfl
end Go.Sx

/-   The facts on which the law of vectors leans. Conditions: none. -/
namespace Go.Sx
open Ieee

theorem root_zero {x : CF} (hx : Val x 0) : Val (cnarrow (csqrt (cwide x))) 0 := by
  obtain ⟨b, g, m, e, hb, k1, k2, hD⟩ := val_wide hx
  rw [hb]
  have hv : csqrt (some b) = ((double.read b).root 54).map double.write := rfl
  rw [hv, k1]
  have hm : m = 0 := by
    by_cases h0 : m = 0
    · exact h0
    · have h1 := Rat.mul_pos (nat_pos h0) (p2_pos e)
      unfold datV at hD
      generalize (m : Rat) * p2 e = u at *
      rcases sgq_cases g with h | h <;> rw [h] at hD <;> grind
  subst hm
  simp only [Datum.root]
  rw [if_pos trivial]
  show Val (cnarrow (some (double.nearest g 0 e))) 0
  have e1 : double.nearest g 0 e = double.nearest g 0 0 := by
    unfold Format.nearest; rw [if_pos rfl, if_pos rfl]
  rw [e1]
  cases g
  · exact ⟨0, false, 0, -149, by decide +kernel, by decide +kernel, by omega, (datV_zero _ _).symm⟩
  · exact ⟨2147483648, true, 0, -149, by decide +kernel, by decide +kernel, by omega, (datV_zero _ _).symm⟩

/-- An argument of eighths. -/
theorem arg_val {n : Int} {x : CF} (h : Rep n 3 x) : Val x ((n : Rat) * (1 / 8)) := by
  have := rep_val h (by decide)
  have e : p2 (-(3 : Nat)) = 1 / 8 := by decide +kernel
  rw [e] at this
  exact this

def dP : Poly := ((exact 6 dT).getD (0, 0, [])).2.2
theorem dT_exact : exact 6 dT = some (6, 12288, dP) := by decide +kernel

theorem dT_val {E : Env} {k : Nat → Int} (hk : ∀ i, i < 6 → Rep (k i) 3 (E.arg i) ∧ (k i).natAbs ≤ 64) :
    Val (den E dT) (((k 0 : Rat) * (1 / 8)) * ((k 0 : Rat) * (1 / 8)) + ((k 1 : Rat) * (1 / 8)) * ((k 1 : Rat) * (1 / 8)) + ((k 2 : Rat) * (1 / 8)) * ((k 2 : Rat) * (1 / 8))) ∧ k 0 * k 0 + k 1 * k 1 + k 2 * k 2 ≤ 12288 := by
  obtain ⟨h1, h2, _, _⟩ := exact_ok hk dT_exact
  have e : evP k dP = k 0 * k 0 + k 1 * k 1 + k 2 * k 2 := by
    have : dP = [([0, 0], 1), ([1, 1], 1), ([2, 2], 1)] := by decide +kernel
    rw [this]
    simp [evP, evM]
    omega
  rw [e] at h1 h2
  have h3 := rep_val h1 (by decide)
  have e6 : p2 (-(6 : Nat)) = 1 / 64 := by decide +kernel
  rw [e6] at h3
  refine ⟨?_, by omega⟩
  have e2 : ((k 0 * k 0 + k 1 * k 1 + k 2 * k 2 : Int) : Rat) * (1 / 64) = ((k 0 : Rat) * (1 / 8)) * ((k 0 : Rat) * (1 / 8)) + ((k 1 : Rat) * (1 / 8)) * ((k 1 : Rat) * (1 / 8)) + ((k 2 : Rat) * (1 / 8)) * ((k 2 : Rat) * (1 / 8)) := by
    rw [Rat.intCast_add, Rat.intCast_add, Rat.intCast_mul, Rat.intCast_mul, Rat.intCast_mul]
    grind
  rw [e2] at h3
  exact h3

theorem int_sq (x : Int) : 0 ≤ x * x := by
  rcases Int.le_total 0 x with h | h
  · exact Int.mul_nonneg h h
  · exact Int.mul_nonneg_of_nonpos_of_nonpos h h
theorem int_sq_pos {x : Int} (h : x ≠ 0) : 1 ≤ x * x := by
  have := int_sq x
  have h2 : x * x ≠ 0 := Int.mul_ne_zero h h
  omega

/-- Vectors that are not nothing. -/
theorem vec_facts {E : Env} (h1 : E.f1 = stdF1) {k : Nat → Int} (hk : ∀ i, i < 6 → Rep (k i) 3 (E.arg i) ∧ (k i).natAbs ≤ 64) (hn : 1 ≤ k 0 * k 0 + k 1 * k 1 + k 2 * k 2) : FactsOK E vecNear := by
  obtain ⟨hd, hb⟩ := dT_val hk
  refine vec_near h1 (arg_val (hk 0 (by decide)).1) (arg_val (hk 1 (by decide)).1) (arg_val (hk 2 (by decide)).1) hd rfl ?_ ?_
  · have h := Rat.intCast_le_intCast.2 hn
    rw [Rat.intCast_add, Rat.intCast_add, Rat.intCast_mul, Rat.intCast_mul, Rat.intCast_mul] at h
    have e : ((1 : Int) : Rat) = 1 := rfl
    rw [e] at h
    grind
  · have h := Rat.intCast_le_intCast.2 hb
    rw [Rat.intCast_add, Rat.intCast_add, Rat.intCast_mul, Rat.intCast_mul, Rat.intCast_mul] at h
    have e : ((12288 : Int) : Rat) = 12288 := rfl
    rw [e] at h
    grind

/-- A cell, against nothing. -/
theorem cell_zero {E : Env} {k : Nat → Int} (hk : ∀ i, i < 6 → Rep (k i) 3 (E.arg i) ∧ (k i).natAbs ≤ 64) {i : Nat} (hi : i < 6) : holds E (.cmp 0 .f32 (.arg i) (.lit .f32 0)) = decide (k i = 0) := by
  show (cord .f32 (E.arg i) (canon .f32 0) == some .eq) = _
  obtain ⟨r1, r2, r3⟩ := val_ord (arg_val (hk i hi).1) zero_val
  have lt : ∀ a b : Int, a < b → (a : Rat) < (b : Rat) := fun a b h => Rat.intCast_lt_intCast.2 h
  have e0 : ((0 : Int) : Rat) = 0 := rfl
  rcases Int.lt_trichotomy (k i) 0 with h | h | h
  · have := lt _ _ h
    rw [e0] at this
    rw [r1 (by grind), decide_eq_false (by omega)]; rfl
  · rw [h] at r2
    rw [r2 (by rw [e0]; grind), decide_eq_true h]; rfl
  · have := lt _ _ h
    rw [e0] at this
    rw [r3 (by grind), decide_eq_false (by omega)]; rfl

/-- The length of nothing. -/
theorem zero_facts {E : Env} (h1 : E.f1 = stdF1) {k : Nat → Int} (hk : ∀ i, i < 6 → Rep (k i) 3 (E.arg i) ∧ (k i).natAbs ≤ 64) (h0 : k 0 = 0) (h1' : k 1 = 0) (h2 : k 2 = 0) : FactsOK E [((.cmp 0 .f32 nT (.lit .f32 0)), true)] := by
  obtain ⟨hd, _⟩ := dT_val hk
  rw [h0, h1', h2] at hd
  have e : ((((0 : Int) : Rat) * (1 / 8)) * (((0 : Int) : Rat) * (1 / 8)) + (((0 : Int) : Rat) * (1 / 8)) * (((0 : Int) : Rat) * (1 / 8)) + (((0 : Int) : Rat) * (1 / 8)) * (((0 : Int) : Rat) * (1 / 8))) = 0 := by decide +kernel
  rw [e] at hd
  refine facts_cons ?_ facts_nil
  show (cord .f32 (den E nT) (canon .f32 0) == some .eq) = true
  have enT : den E nT = cnarrow (csqrt (cwide (den E dT))) := by
    show cnarrow (E.f1 2 _) = _; rw [h1]; rfl
  rw [enT, (val_ord (root_zero hd) zero_val).2.1 rfl]; rfl
end Go.Sx
