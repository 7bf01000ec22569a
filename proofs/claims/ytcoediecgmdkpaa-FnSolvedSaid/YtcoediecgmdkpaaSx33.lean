/-
  The symbolic executor, texts 31 to 33. Conditions: none.
-/
import Derived.Test.YtcoediecgmdkpaaSx15
/-   Exact numbers: what a term gives whose intermediate results all are whole multiples of a power of two, of fewer than 24 binary digits. Conditions: none. -/
namespace Go.Sx
open Ieee

/-- A shift of an exact magnitude changes nothing. -/
theorem near_shift (neg : Bool) {A : Nat} (K : Nat) {p : Int} (hA : A ≠ 0) (hl : lastPlace single A p ≤ p) : single.nearest neg (A * 2 ^ K) (p - K) = single.nearest neg A p := by
  have hA2 : A * 2 ^ K ≠ 0 := Nat.mul_ne_zero hA (by have := Nat.two_pow_pos K; omega)
  have e1 : lastPlace single (A * 2 ^ K) (p - K) = lastPlace single A p := by
    unfold lastPlace
    rw [log2_shift hA]
    congr 2
    omega
  rw [nearest_eq single neg _ hA2, nearest_eq single neg _ hA, e1]
  have e2 : keptOf single (A * 2 ^ K) (p - K) = keptOf single A p := by
    unfold keptOf
    rw [e1]
    generalize lastPlace single A p = L at *
    have h0 : (L - p).toNat = 0 := by omega
    rw [h0, cut_zero, Nat.shiftLeft_eq, Nat.shiftLeft_eq]
    by_cases h : L ≤ p - K
    · have h1 : (L - (p - K)).toNat = 0 := by omega
      rw [h1, cut_zero, Nat.mul_assoc, ← Nat.pow_add]
      congr 2; omega
    · have h1 : (p - K - L).toNat = 0 := by omega
      rw [h1, Nat.pow_zero, Nat.mul_one]
      have e : A * 2 ^ K = (A * 2 ^ (p - L).toNat) * 2 ^ (L - (p - K)).toNat := by
        rw [Nat.mul_assoc, ← Nat.pow_add]
        congr 2; omega
      rw [e]
      exact cut_mul (Nat.mul_ne_zero hA (by have := Nat.two_pow_pos (p - L).toNat; omega)) _
  rw [e2]

theorem near_num (neg : Bool) {A : Nat} {p : Int} (hA : A ≠ 0) (h24 : A < 2 ^ 24) (hp : -149 ≤ p) (hp2 : p ≤ 100) (K : Nat) :
    ∃ m e, single.read (single.nearest neg (A * 2 ^ K) (p - K)) = .number neg m e ∧ (-149 : Int) ≤ e ∧ m * 2 ^ (e + 149).toNat = A * 2 ^ (p + 149).toNat := by
  obtain ⟨s1, s2, s3, s4, s5⟩ := single_facts
  have hlog : A.log2 ≤ 23 := log2_lt h24
  have hl : lastPlace single A p ≤ p := by unfold lastPlace; rw [s4, s5]; omega
  have hl2 : (-149 : Int) ≤ lastPlace single A p := by unfold lastPlace; rw [s4]; omega
  rw [near_shift neg K hA hl]
  obtain ⟨h1, _⟩ := nearest_exact single neg hA hl (by show p + _ < ((2 : Nat) ^ (8 - 1) : Int) - 1; omega) (by decide)
  refine ⟨_, _, h1, hl2, ?_⟩
  rw [Nat.mul_assoc, ← Nat.pow_add]
  congr 2; omega

/-- A magnitude that is N / 2^s. -/
theorem near_rep (neg : Bool) {mag : Nat} {place : Int} {N s : Nat} (hpl : -298 ≤ place) (hs : s ≤ 100) (hN : N < 2 ^ 24) (h : mag * 2 ^ (place + 298).toNat = N * 2 ^ (298 - s)) :
    ∃ m e, single.read (single.nearest neg mag place) = .number neg m e ∧ (-149 : Int) ≤ e ∧ m * 2 ^ (e + 149).toNat = N * 2 ^ (149 - s) := by
  by_cases h0 : mag = 0
  · subst h0
    have hn0 : N = 0 := by
      rw [Nat.zero_mul] at h
      rcases Nat.mul_eq_zero.1 h.symm with h | h
      · exact h
      · have := Nat.two_pow_pos (298 - s); omega
    subst hn0
    refine ⟨0, -149, ?_, by omega, by simp⟩
    unfold Format.nearest
    rw [if_pos rfl]
    cases neg <;> decide
  · have hN0 : N ≠ 0 := by
      intro e; subst e
      rw [Nat.zero_mul] at h
      rcases Nat.mul_eq_zero.1 h with h | h
      · exact h0 h
      · have := Nat.two_pow_pos (place + 298).toNat; omega
    by_cases hp : place ≤ -s
    · have hK : mag = N * 2 ^ (-s - place).toNat := by
        have e : 298 - s = (-s - place).toNat + (place + 298).toNat := by omega
        rw [e, Nat.pow_add, ← Nat.mul_assoc] at h
        exact Nat.eq_of_mul_eq_mul_right (Nat.two_pow_pos _) h
      obtain ⟨m, e, h1, h2, h3⟩ := near_num neg (p := -s) hN0 hN (by omega) (by omega) (-s - place).toNat
      have e1 : (-(s : Int) - ((-s - place).toNat : Nat)) = place := by omega
      rw [e1, ← hK] at h1
      refine ⟨m, e, h1, h2, h3.trans ?_⟩
      congr 2; omega
    · have hK : mag * 2 ^ (place + s).toNat = N := by
        have e : (place + 298).toNat = (place + s).toNat + (298 - s) := by omega
        rw [e, Nat.pow_add, ← Nat.mul_assoc] at h
        exact Nat.eq_of_mul_eq_mul_right (Nat.two_pow_pos _) h
      have hge : mag ≤ N := by
        rw [← hK]; exact Nat.le_mul_of_pos_right _ (Nat.two_pow_pos _)
      have hpl2 : 2 ^ (place + s).toNat ≤ N := by
        rw [← hK]; exact Nat.le_mul_of_pos_left _ (by omega)
      have hlt : (place + s).toNat < 24 := (Nat.pow_lt_pow_iff_right (by decide : 1 < 2)).1 (Nat.lt_of_le_of_lt hpl2 hN)
      obtain ⟨m, e, h1, h2, h3⟩ := near_num neg (A := mag) (p := place) h0 (by omega) (by omega) (by omega) 0
      have e1 : (place - ((0 : Nat) : Int)) = place := by omega
      rw [Nat.pow_zero, Nat.mul_one, e1] at h1
      refine ⟨m, e, h1, h2, h3.trans ?_⟩
      rw [← hK, Nat.mul_assoc, ← Nat.pow_add]
      congr 2; omega

def sg (s : Bool) : Int := if s then -1 else 1
theorem signed_eq (s : Bool) (m k : Nat) : signed s m k = sg s * ((m * 2 ^ k : Nat) : Int) := by
  unfold signed sg
  rw [Nat.shiftLeft_eq]
  cases s <;> simp

/-- It stands for n / 2^s. -/
def Rep (n : Int) (s : Nat) (x : CF) : Prop :=
  ∃ b g m e, x = some b ∧ single.read b = .number g m e ∧ (-149 : Int) ≤ e ∧ sg g * ((m * 2 ^ (e + 149).toNat : Nat) : Int) = n * ((2 ^ (149 - s) : Nat) : Int)

theorem sg_nat (g : Bool) {M N : Nat} {n : Int} (h : sg g * (M : Int) = n * (N : Int)) (_ : 0 < N) : M = n.natAbs * N := by
  have h1 : (sg g * (M : Int)).natAbs = (n * (N : Int)).natAbs := by rw [h]
  rw [Int.natAbs_mul, Int.natAbs_mul] at h1
  cases g <;> simpa [sg] using h1

theorem mul_cancel_pow {a b : Int} (k : Nat) (h : a * ((2 ^ k : Nat) : Int) = b * ((2 ^ k : Nat) : Int)) : a = b :=
  Int.eq_of_mul_eq_mul_right (by have := Nat.two_pow_pos k; omega) h

theorem sg_xor (a b : Bool) : sg (a ^^ b) = sg a * sg b := by cases a <;> cases b <;> rfl
theorem sg_sq (a : Bool) : sg a * sg a = 1 := by cases a <;> rfl

theorem rep_mul {n n' : Int} {s s' : Nat} {x y : CF} (hx : Rep n s x) (hy : Rep n' s' y) (hs : s + s' ≤ 100) (hb : (n * n').natAbs < 2 ^ 24) : Rep (n * n') (s + s') (cbin .mul .f32 x y) := by
  obtain ⟨b, g, m, e, rfl, h1, h2, h3⟩ := hx
  obtain ⟨c, g', m', e', rfl, k1, k2, k3⟩ := hy
  have hv : cbin .mul .f32 (some b) (some c) = some (single.nearest (g ^^ g') (m * m') (e + e')) := by
    show Option.map single.write ((single.read b).product (single.read c)) = _
    rw [h1, k1]; rfl
  have hm : m * m' * 2 ^ (e + e' + 298).toNat = (n * n').natAbs * 2 ^ (298 - (s + s')) := by
    have q1 := sg_nat g h3 (Nat.two_pow_pos _)
    have q2 := sg_nat g' k3 (Nat.two_pow_pos _)
    have e1 : (e + e' + 298).toNat = (e + 149).toNat + (e' + 149).toNat := by omega
    have e2 : 298 - (s + s') = (149 - s) + (149 - s') := by omega
    rw [e1, e2, Nat.pow_add, Nat.pow_add, Int.natAbs_mul]
    calc m * m' * (2 ^ (e + 149).toNat * 2 ^ (e' + 149).toNat) = (m * 2 ^ (e + 149).toNat) * (m' * 2 ^ (e' + 149).toNat) := by ac_rfl
      _ = _ := by rw [q1, q2]; ac_rfl
  obtain ⟨M, E, r1, r2, r3⟩ := near_rep (g ^^ g') (by omega) hs hb hm
  refine ⟨_, _, M, E, hv, r1, r2, ?_⟩
  rw [r3, sg_xor]
  -- the signs
  apply mul_cancel_pow 149
  have e2 : (149 - (s + s')) + 149 = (149 - s) + (149 - s') := by omega
  have hN : ((2 ^ (149 - (s + s')) : Nat) : Int) * ((2 ^ 149 : Nat) : Int) = ((2 ^ (149 - s) : Nat) : Int) * ((2 ^ (149 - s') : Nat) : Int) := by
    rw [← Int.natCast_mul, ← Int.natCast_mul, ← Nat.pow_add, ← Nat.pow_add, e2]
  have q1 := sg_nat g h3 (Nat.two_pow_pos _)
  have q2 := sg_nat g' k3 (Nat.two_pow_pos _)
  rw [q1] at h3
  rw [q2] at k3
  rw [Int.natAbs_mul, Int.mul_assoc, Int.natCast_mul, Int.natCast_mul, Int.mul_assoc (((n.natAbs : Nat) : Int) * _), hN]
  rw [Int.mul_assoc (n * n'), hN]
  rw [Int.natCast_mul] at h3 k3
  calc sg g * sg g' * (((n.natAbs : Nat) : Int) * ((n'.natAbs : Nat) : Int) * (((2 ^ (149 - s) : Nat) : Int) * ((2 ^ (149 - s') : Nat) : Int)))
      = (sg g * (((n.natAbs : Nat) : Int) * ((2 ^ (149 - s) : Nat) : Int))) * (sg g' * (((n'.natAbs : Nat) : Int) * ((2 ^ (149 - s') : Nat) : Int))) := by ac_rfl
    _ = _ := by rw [h3, k3]; ac_rfl

theorem natAbs_sg (t : Int) : ∀ g : Bool, (t ≠ 0 → g = decide (t < 0)) → sg g * (t.natAbs : Int) = t := by
  intro g hg
  by_cases h0 : t = 0
  · subst h0; simp
  · rw [hg h0]
    by_cases ht : t < 0
    · simp [sg, ht]; omega
    · simp [sg, ht]; omega

theorem rep_sum {n n' : Int} {s s' S : Nat} {g g' : Bool} {m m' : Nat} {e e' : Int} (h2 : (-149 : Int) ≤ e) (h3 : sg g * ((m * 2 ^ (e + 149).toNat : Nat) : Int) = n * ((2 ^ (149 - s) : Nat) : Int))
    (k2 : (-149 : Int) ≤ e') (k3 : sg g' * ((m' * 2 ^ (e' + 149).toNat : Nat) : Int) = n' * ((2 ^ (149 - s') : Nat) : Int)) (hS : S ≤ 100) (hs : s ≤ S) (hs' : s' ≤ S)
    (hb : (n * ((2 ^ (S - s) : Nat) : Int) + n' * ((2 ^ (S - s') : Nat) : Int)).natAbs < 2 ^ 24) {d : Datum} (hd : (Datum.number g m e).sum (.number g' m' e') = some d) :
    Rep (n * ((2 ^ (S - s) : Nat) : Int) + n' * ((2 ^ (S - s') : Nat) : Int)) S (some (single.write d)) := by
  simp only [Datum.sum, Option.some.injEq] at hd
  subst hd
  generalize ht : signed g m (e - min e e').toNat + signed g' m' (e' - min e e').toNat = t
  have htv : t * ((2 ^ (min e e' + 149).toNat : Nat) : Int) = (n * ((2 ^ (S - s) : Nat) : Int) + n' * ((2 ^ (S - s') : Nat) : Int)) * ((2 ^ (149 - S) : Nat) : Int) := by
    rw [← ht, signed_eq, signed_eq, Int.add_mul, Int.add_mul]
    have pw : ∀ (a b c : Nat), a + b = c → ((2 ^ a : Nat) : Int) * ((2 ^ b : Nat) : Int) = ((2 ^ c : Nat) : Int) := fun a b c h => by rw [← Int.natCast_mul, ← Nat.pow_add, h]
    congr 1
    · rw [Int.mul_assoc n, pw (S - s) (149 - S) (149 - s) (by omega), ← h3, Int.mul_assoc, Int.natCast_mul, Int.mul_assoc, pw _ _ (e + 149).toNat (by omega), ← Int.natCast_mul]
    · rw [Int.mul_assoc n', pw (S - s') (149 - S) (149 - s') (by omega), ← k3, Int.mul_assoc, Int.natCast_mul, Int.mul_assoc, pw _ _ (e' + 149).toNat (by omega), ← Int.natCast_mul]
  generalize n * ((2 ^ (S - s) : Nat) : Int) + n' * ((2 ^ (S - s') : Nat) : Int) = N at *
  generalize hg : (if t = 0 then g && g' else decide (t < 0)) = G
  have hmag : t.natAbs * 2 ^ (min e e' + 298).toNat = N.natAbs * 2 ^ (298 - S) := by
    have h1 : (t * ((2 ^ (min e e' + 149).toNat : Nat) : Int)).natAbs = (N * ((2 ^ (149 - S) : Nat) : Int)).natAbs := by rw [htv]
    rw [Int.natAbs_mul, Int.natAbs_mul, Int.natAbs_natCast, Int.natAbs_natCast] at h1
    have e1 : (min e e' + 298).toNat = (min e e' + 149).toNat + 149 := by omega
    have e2 : 298 - S = (149 - S) + 149 := by omega
    rw [e1, e2, Nat.pow_add, Nat.pow_add, ← Nat.mul_assoc, ← Nat.mul_assoc, h1]
  obtain ⟨M, E, r1, r2, r3⟩ := near_rep G (by omega) hS hb hmag
  refine ⟨_, G, M, E, rfl, r1, r2, ?_⟩
  rw [r3]
  apply mul_cancel_pow (min e e' + 149).toNat
  have hsg : sg G * (t.natAbs : Int) = t := natAbs_sg t G (fun h0 => by rw [← hg, if_neg h0])
  have h1 : (t.natAbs : Int) * ((2 ^ (min e e' + 149).toNat : Nat) : Int) = ((N.natAbs * 2 ^ (149 - S) : Nat) : Int) := by
    have h1 : (t * ((2 ^ (min e e' + 149).toNat : Nat) : Int)).natAbs = (N * ((2 ^ (149 - S) : Nat) : Int)).natAbs := by rw [htv]
    rw [Int.natAbs_mul, Int.natAbs_mul, Int.natAbs_natCast, Int.natAbs_natCast] at h1
    rw [← h1, Int.natCast_mul]
  rw [← h1, ← Int.mul_assoc, hsg, htv]

theorem rep_add {n n' : Int} {s s' S : Nat} {x y : CF} (hx : Rep n s x) (hy : Rep n' s' y) (hS : S ≤ 100) (hs : s ≤ S) (hs' : s' ≤ S)
    (hb : (n * ((2 ^ (S - s) : Nat) : Int) + n' * ((2 ^ (S - s') : Nat) : Int)).natAbs < 2 ^ 24) : Rep (n * ((2 ^ (S - s) : Nat) : Int) + n' * ((2 ^ (S - s') : Nat) : Int)) S (cbin .add .f32 x y) := by
  obtain ⟨b, g, m, e, rfl, h1, h2, h3⟩ := hx
  obtain ⟨c, g', m', e', rfl, k1, k2, k3⟩ := hy
  have hv : cbin .add .f32 (some b) (some c) = Option.map single.write ((single.read b).sum (single.read c)) := rfl
  rw [hv, h1, k1]
  cases hd : (Datum.number g m e).sum (.number g' m' e') with
  | none => simp [Datum.sum] at hd
  | some d => exact rep_sum h2 h3 k2 k3 hS hs hs' hb hd

theorem rep_neg_datum {n : Int} {s : Nat} {g : Bool} {M : Nat} (h : sg g * (M : Int) = n * ((2 ^ (149 - s) : Nat) : Int)) : sg (!g) * (M : Int) = -n * ((2 ^ (149 - s) : Nat) : Int) := by
  have : sg (!g) = - sg g := by cases g <;> rfl
  rw [this, Int.neg_mul, h, Int.neg_mul]

theorem rep_sub {n n' : Int} {s s' S : Nat} {x y : CF} (hx : Rep n s x) (hy : Rep n' s' y) (hS : S ≤ 100) (hs : s ≤ S) (hs' : s' ≤ S)
    (hb : (n * ((2 ^ (S - s) : Nat) : Int) + -n' * ((2 ^ (S - s') : Nat) : Int)).natAbs < 2 ^ 24) : Rep (n * ((2 ^ (S - s) : Nat) : Int) + -n' * ((2 ^ (S - s') : Nat) : Int)) S (cbin .sub .f32 x y) := by
  obtain ⟨b, g, m, e, rfl, h1, h2, h3⟩ := hx
  obtain ⟨c, g', m', e', rfl, k1, k2, k3⟩ := hy
  have hv : cbin .sub .f32 (some b) (some c) = Option.map single.write ((single.read b).sum (single.read c).opposite) := rfl
  rw [hv, h1, k1]
  show Rep _ _ (Option.map single.write ((Datum.number g m e).sum (.number (!g') m' e')))
  cases hd : (Datum.number g m e).sum (.number (!g') m' e') with
  | none => simp [Datum.sum] at hd
  | some d => exact rep_sum h2 h3 k2 (rep_neg_datum k3) hS hs hs' hb hd

/-- The order of two exact numbers. -/
theorem rep_ord {n n' : Int} {s s' : Nat} {x y : CF} (hx : Rep n s x) (hy : Rep n' s' y) (hs : s ≤ 149) (hs' : s' ≤ 149) :
    cord .f32 x y = some (compare (n * ((2 ^ s' : Nat) : Int)) (n' * ((2 ^ s : Nat) : Int))) := by
  obtain ⟨b, g, m, e, rfl, h1, h2, h3⟩ := hx
  obtain ⟨c, g', m', e', rfl, k1, k2, k3⟩ := hy
  have hv : cord .f32 (some b) (some c) = (single.read b).order (single.read c) := rfl
  rw [hv, h1, k1]
  simp only [Datum.order, Option.some.injEq]
  have pw : ∀ (a b c : Nat), a + b = c → ((2 ^ a : Nat) : Int) * ((2 ^ b : Nat) : Int) = ((2 ^ c : Nat) : Int) := fun a b c h => by rw [← Int.natCast_mul, ← Nat.pow_add, h]
  -- both sides, taken by a positive number
  have cmpMul : ∀ (a b : Int) (k : Nat), compare (a * ((2 ^ k : Nat) : Int)) (b * ((2 ^ k : Nat) : Int)) = compare a b := fun a b k => by
    have hk : (0 : Int) < ((2 ^ k : Nat) : Int) := by have := Nat.two_pow_pos k; omega
    show compareOfLessAndEq _ _ = compareOfLessAndEq _ _
    unfold compareOfLessAndEq
    have l1 : (a * ((2 ^ k : Nat) : Int) < b * ((2 ^ k : Nat) : Int)) ↔ a < b := ⟨fun h => Int.lt_of_mul_lt_mul_right h (Int.le_of_lt hk), fun h => Int.mul_lt_mul_of_pos_right h hk⟩
    have l2 : (a * ((2 ^ k : Nat) : Int) = b * ((2 ^ k : Nat) : Int)) ↔ a = b := ⟨fun h => Int.eq_of_mul_eq_mul_right (by omega) h, fun h => by rw [h]⟩
    simp only [l1, l2]
  rw [signed_eq, signed_eq]
  rw [← cmpMul _ _ (min e e' + 149).toNat]
  rw [Int.mul_assoc, Int.natCast_mul, Int.mul_assoc, pw _ _ (e + 149).toNat (by omega), ← Int.natCast_mul, h3]
  rw [Int.mul_assoc (sg g'), Int.natCast_mul, Int.mul_assoc, pw _ _ (e' + 149).toNat (by omega), ← Int.natCast_mul, k3]
  rw [← cmpMul (n * ((2 ^ (149 - s) : Nat) : Int)) _ (s + s'), ← cmpMul (n * ((2 ^ s' : Nat) : Int)) _ 149]
  rw [Int.mul_assoc, Int.mul_assoc, Int.mul_assoc, Int.mul_assoc, pw (149 - s) (s + s') (149 + s') (by omega), pw (149 - s') (s + s') (149 + s) (by omega), pw s' 149 (149 + s') (by omega), pw s 149 (149 + s) (by omega)]

/-! ### Polynomials of whole numbers -/
abbrev Mono := List Nat
abbrev Poly := List (Mono × Int)
def evM (k : Nat → Int) : Mono → Int
  | [] => 1
  | i :: r => k i * evM k r
def evP (k : Nat → Int) : Poly → Int
  | [] => 0
  | (m, c) :: r => c * evM k m + evP k r
def insM (i : Nat) : Mono → Mono
  | [] => [i]
  | j :: r => if Nat.ble i j then i :: j :: r else j :: insM i r
def mulM : Mono → Mono → Mono
  | [], m => m
  | i :: r, m => insM i (mulM r m)
def eqM : Mono → Mono → Bool
  | [], [] => true
  | i :: r, j :: t => Nat.beq i j && eqM r t
  | _, _ => false
def ltM : Mono → Mono → Bool
  | [], [] => false
  | [], _ :: _ => true
  | _ :: _, [] => false
  | i :: r, j :: t => if Nat.beq i j then ltM r t else Nat.blt i j
/-- A monomial more. -/
def addT (m : Mono) (c : Int) : Poly → Poly
  | [] => [(m, c)]
  | (n, d) :: r => if eqM m n then (n, c + d) :: r else if ltM m n then (m, c) :: (n, d) :: r else (n, d) :: addT m c r
def addP : Poly → Poly → Poly
  | [], q => q
  | (m, c) :: r, q => addT m c (addP r q)
def scaleP (d : Int) : Poly → Poly
  | [] => []
  | (m, c) :: r => (m, d * c) :: scaleP d r
def mulT (m : Mono) (c : Int) : Poly → Poly → Poly
  | [], acc => acc
  | (n, d) :: r, acc => addT (mulM m n) (c * d) (mulT m c r acc)
def mulP : Poly → Poly → Poly
  | [], _ => []
  | (m, c) :: r, q => mulT m c q (mulP r q)
def zeroP : Poly → Bool
  | [] => true
  | (_, c) :: r => decide (c = 0) && zeroP r

theorem evM_ins (k : Nat → Int) (i : Nat) : ∀ m, evM k (insM i m) = k i * evM k m
  | [] => rfl
  | j :: r => by
    unfold insM
    split
    · rfl
    · show k j * evM k (insM i r) = k i * (k j * evM k r)
      rw [evM_ins k i r, Int.mul_left_comm]
theorem evM_mul (k : Nat → Int) : ∀ m n, evM k (mulM m n) = evM k m * evM k n
  | [], n => by show evM k n = 1 * evM k n; rw [Int.one_mul]
  | i :: r, n => by
    show evM k (insM i (mulM r n)) = k i * evM k r * evM k n
    rw [evM_ins, evM_mul k r n, Int.mul_assoc]
theorem eqM_eq : ∀ {m n : Mono}, eqM m n = true → m = n
  | [], [], _ => rfl
  | i :: r, j :: t, h => by
    simp only [eqM, Bool.and_eq_true] at h
    rw [Nat.eq_of_beq_eq_true h.1, eqM_eq h.2]
  | [], _ :: _, h => by cases h
  | _ :: _, [], h => by cases h
theorem evP_addT (k : Nat → Int) (m : Mono) (c : Int) : ∀ p, evP k (addT m c p) = c * evM k m + evP k p
  | [] => rfl
  | (n, d) :: r => by
    unfold addT
    split
    · rename_i h
      rw [eqM_eq h]
      show (c + d) * evM k n + evP k r = c * evM k n + (d * evM k n + evP k r)
      rw [Int.add_mul, Int.add_assoc]
    · split
      · rfl
      · show d * evM k n + evP k (addT m c r) = c * evM k m + (d * evM k n + evP k r)
        rw [evP_addT k m c r, Int.add_left_comm]
theorem evP_add (k : Nat → Int) : ∀ p q, evP k (addP p q) = evP k p + evP k q
  | [], q => by show evP k q = 0 + evP k q; rw [Int.zero_add]
  | (m, c) :: r, q => by
    show evP k (addT m c (addP r q)) = c * evM k m + evP k r + evP k q
    rw [evP_addT, evP_add k r q, Int.add_assoc]
theorem evP_scale (k : Nat → Int) (d : Int) : ∀ p, evP k (scaleP d p) = d * evP k p
  | [] => by show (0 : Int) = d * 0; rw [Int.mul_zero]
  | (m, c) :: r => by
    show d * c * evM k m + evP k (scaleP d r) = d * (c * evM k m + evP k r)
    rw [evP_scale k d r, Int.mul_add, Int.mul_assoc]
theorem evP_mulT (k : Nat → Int) (m : Mono) (c : Int) (acc : Poly) : ∀ p, evP k (mulT m c p acc) = c * evM k m * evP k p + evP k acc
  | [] => by show evP k acc = c * evM k m * 0 + evP k acc; rw [Int.mul_zero, Int.zero_add]
  | (n, d) :: r => by
    show evP k (addT (mulM m n) (c * d) (mulT m c r acc)) = c * evM k m * (d * evM k n + evP k r) + evP k acc
    rw [evP_addT, evP_mulT k m c acc r, evM_mul, Int.mul_add, ← Int.add_assoc]
    congr 2
    ac_rfl
theorem evP_mul (k : Nat → Int) : ∀ p q, evP k (mulP p q) = evP k p * evP k q
  | [], q => by show (0 : Int) = 0 * evP k q; rw [Int.zero_mul]
  | (m, c) :: r, q => by
    show evP k (mulT m c q (mulP r q)) = (c * evM k m + evP k r) * evP k q
    rw [evP_mulT, evP_mul k r q, Int.add_mul]
theorem evP_zero (k : Nat → Int) : ∀ {p}, zeroP p = true → evP k p = 0
  | [], _ => rfl
  | (m, c) :: r, h => by
    simp only [zeroP, Bool.and_eq_true, decide_eq_true_eq] at h
    show c * evM k m + evP k r = 0
    rw [h.1, evP_zero k h.2, Int.zero_mul, Int.zero_add]

/-! ### What an exact term gives -/
/-- Scale, bound and polynomial of a term over arguments i < n that are whole eighths of at most 8. -/
def exact (n : Nat) : T → Option (Nat × Nat × Poly)
  | .arg i => if Nat.blt i n then some (3, 64, [([i], 1)]) else none
  | .lit k b => match k with
    | .f32 => if Nat.beq b 0 then some (0, 0, []) else if Nat.beq b 1065353216 then some (0, 1, [([], 1)]) else if Nat.beq b 3212836864 then some (0, 1, [([], -1)]) else none
    | _ => none
  | .bin c x y => match exact n x, exact n y with
    | some (s, b, p), some (s', b', q) =>
      if Nat.beq c 2 then
        if Nat.ble (s + s') 100 && Nat.blt (b * b') (2 ^ 24) then some (s + s', b * b', mulP p q) else none
      else if Nat.beq c 0 then
        if Nat.ble (max s s') 100 && Nat.blt (b * 2 ^ (max s s' - s) + b' * 2 ^ (max s s' - s')) (2 ^ 24) then
          some (max s s', b * 2 ^ (max s s' - s) + b' * 2 ^ (max s s' - s'), addP (scaleP ((2 ^ (max s s' - s) : Nat) : Int) p) (scaleP ((2 ^ (max s s' - s') : Nat) : Int) q)) else none
      else if Nat.beq c 1 then
        if Nat.ble (max s s') 100 && Nat.blt (b * 2 ^ (max s s' - s) + b' * 2 ^ (max s s' - s')) (2 ^ 24) then
          some (max s s', b * 2 ^ (max s s' - s) + b' * 2 ^ (max s s' - s'), addP (scaleP ((2 ^ (max s s' - s) : Nat) : Int) p) (scaleP (-((2 ^ (max s s' - s') : Nat) : Int)) q)) else none
      else none
    | _, _ => none
  | _ => none

theorem rep_lit (b : Nat) (n : Int) (h : (b = 0 ∧ n = 0) ∨ (b = 1065353216 ∧ n = 1) ∨ (b = 3212836864 ∧ n = -1)) : Rep n 0 (canon .f32 b) := by
  rcases h with ⟨rfl, rfl⟩ | ⟨rfl, rfl⟩ | ⟨rfl, rfl⟩
  · exact ⟨0, false, 0, -149, by decide, by decide, by omega, by decide⟩
  · exact ⟨1065353216, false, 8388608, -23, by decide, by decide, by omega, by decide⟩
  · exact ⟨3212836864, true, 8388608, -23, by decide, by decide, by omega, by decide⟩

theorem exact_ok {E : Env} {n : Nat} {k : Nat → Int} (hk : ∀ i, i < n → Rep (k i) 3 (E.arg i) ∧ (k i).natAbs ≤ 64) :
    ∀ {t : T} {s b : Nat} {p : Poly}, exact n t = some (s, b, p) → Rep (evP k p) s (den E t) ∧ (evP k p).natAbs ≤ b ∧ s ≤ 100 ∧ b < 2 ^ 24 := by
  intro t
  induction t with
  | arg i =>
    intro s b p h
    simp only [exact] at h
    split at h
    · rename_i hi
      cases h
      have hi' : i < n := Nat.le_of_ble_eq_true hi
      have e : evP k [([i], 1)] = k i := by simp [evP, evM]
      rw [e]
      exact ⟨(hk i hi').1, (hk i hi').2, by decide, by decide⟩
    · cases h
  | lit kk b0 =>
    intro s b p h
    cases kk with
    | f32 =>
      simp only [exact] at h
      split at h
      · rename_i h0; cases h
        exact ⟨rep_lit _ _ (.inl ⟨Nat.eq_of_beq_eq_true h0, rfl⟩), by simp [evP], by decide, by decide⟩
      · split at h
        · rename_i h0; cases h
          exact ⟨rep_lit _ _ (.inr (.inl ⟨Nat.eq_of_beq_eq_true h0, rfl⟩)), by simp [evP, evM], by decide, by decide⟩
        · split at h
          · rename_i h0; cases h
            exact ⟨rep_lit _ _ (.inr (.inr ⟨Nat.eq_of_beq_eq_true h0, rfl⟩)), by simp [evP, evM], by decide, by decide⟩
          · cases h
    | f64 => cases h
  | bin c x y ihx ihy =>
    intro s b p h
    simp only [exact] at h
    split at h
    · rename_i s1 b1 p1 s2 b2 p2 hx hy
      obtain ⟨r1, r2, r3, r4⟩ := ihx hx
      obtain ⟨q1, q2, q3, q4⟩ := ihy hy
      split at h
      · rename_i hc
        have := Nat.eq_of_beq_eq_true hc
        subst this
        split at h
        · rename_i hb
          cases h
          simp only [Bool.and_eq_true] at hb
          have hs := Nat.le_of_ble_eq_true hb.1
          have hbb : b1 * b2 < 2 ^ 24 := Nat.le_of_ble_eq_true hb.2
          rw [evP_mul]
          have hle : (evP k p1 * evP k p2).natAbs ≤ b1 * b2 := by rw [Int.natAbs_mul]; exact Nat.mul_le_mul r2 q2
          exact ⟨rep_mul r1 q1 hs (Nat.lt_of_le_of_lt hle hbb), hle, hs, hbb⟩
        · cases h
      · split at h
        · rename_i hc
          have := Nat.eq_of_beq_eq_true hc
          subst this
          split at h
          · rename_i hb
            cases h
            simp only [Bool.and_eq_true] at hb
            have hs := Nat.le_of_ble_eq_true hb.1
            have hbb : b1 * 2 ^ (max s1 s2 - s1) + b2 * 2 ^ (max s1 s2 - s2) < 2 ^ 24 := Nat.le_of_ble_eq_true hb.2
            rw [evP_add, evP_scale, evP_scale, Int.mul_comm _ (evP k p1), Int.mul_comm _ (evP k p2)]
            have hle : (evP k p1 * ((2 ^ (max s1 s2 - s1) : Nat) : Int) + evP k p2 * ((2 ^ (max s1 s2 - s2) : Nat) : Int)).natAbs ≤ b1 * 2 ^ (max s1 s2 - s1) + b2 * 2 ^ (max s1 s2 - s2) := by
              refine Nat.le_trans (Int.natAbs_add_le _ _) ?_
              rw [Int.natAbs_mul, Int.natAbs_mul, Int.natAbs_natCast, Int.natAbs_natCast]
              exact Nat.add_le_add (Nat.mul_le_mul_right _ r2) (Nat.mul_le_mul_right _ q2)
            exact ⟨rep_add r1 q1 hs (Nat.le_max_left _ _) (Nat.le_max_right _ _) (Nat.lt_of_le_of_lt hle hbb), hle, hs, hbb⟩
          · cases h
        · split at h
          · rename_i hc
            have := Nat.eq_of_beq_eq_true hc
            subst this
            split at h
            · rename_i hb
              cases h
              simp only [Bool.and_eq_true] at hb
              have hs := Nat.le_of_ble_eq_true hb.1
              have hbb : b1 * 2 ^ (max s1 s2 - s1) + b2 * 2 ^ (max s1 s2 - s2) < 2 ^ 24 := Nat.le_of_ble_eq_true hb.2
              have e : evP k (addP (scaleP ((2 ^ (max s1 s2 - s1) : Nat) : Int) p1) (scaleP (-((2 ^ (max s1 s2 - s2) : Nat) : Int)) p2)) =
                  evP k p1 * ((2 ^ (max s1 s2 - s1) : Nat) : Int) + -evP k p2 * ((2 ^ (max s1 s2 - s2) : Nat) : Int) := by
                rw [evP_add, evP_scale, evP_scale, Int.mul_comm _ (evP k p1), Int.neg_mul, Int.neg_mul, Int.mul_comm _ (evP k p2)]
              rw [e]
              have hle : (evP k p1 * ((2 ^ (max s1 s2 - s1) : Nat) : Int) + -evP k p2 * ((2 ^ (max s1 s2 - s2) : Nat) : Int)).natAbs ≤ b1 * 2 ^ (max s1 s2 - s1) + b2 * 2 ^ (max s1 s2 - s2) := by
                refine Nat.le_trans (Int.natAbs_add_le _ _) ?_
                rw [Int.natAbs_mul, Int.natAbs_mul, Int.natAbs_natCast, Int.natAbs_natCast, Int.natAbs_neg]
                exact Nat.add_le_add (Nat.mul_le_mul_right _ r2) (Nat.mul_le_mul_right _ q2)
              exact ⟨rep_sub r1 q1 hs (Nat.le_max_left _ _) (Nat.le_max_right _ _) (Nat.lt_of_le_of_lt hle hbb), hle, hs, hbb⟩
            · cases h
          · cases h
    · cases h
  | _ => intro s b p h; cases h

/-- Two terms that are exact and the same. -/
def sameX (n : Nat) (x y : T) : Bool :=
  match exact n x, exact n y with
  | some (s, _, p), some (s', _, q) => zeroP (addP (scaleP ((2 ^ s' : Nat) : Int) p) (scaleP (-((2 ^ s : Nat) : Int)) q))
  | _, _ => false

/-- Facts that hold of exact terms. -/
def factX (n : Nat) : Atom × Bool → Bool
  | (.cmp 0 .f32 x y, true) => sameX n x y
  | _ => false

theorem sameX_ok {E : Env} {n : Nat} {k : Nat → Int} (hk : ∀ i, i < n → Rep (k i) 3 (E.arg i) ∧ (k i).natAbs ≤ 64) {x y : T} (h : sameX n x y = true) : ccmp .eql .f32 (den E x) (den E y) = true := by
  unfold sameX at h
  split at h
  · rename_i s b p s' b' q hx hy
    obtain ⟨r1, _, r3, _⟩ := exact_ok hk hx
    obtain ⟨q1, _, q3, _⟩ := exact_ok hk hy
    have hz := evP_zero k h
    rw [evP_add, evP_scale, evP_scale] at hz
    have he : evP k p * ((2 ^ s' : Nat) : Int) = evP k q * ((2 ^ s : Nat) : Int) := by
      rw [Int.neg_mul] at hz
      rw [Int.mul_comm (evP k p), Int.mul_comm (evP k q)]
      omega
    show (cord .f32 _ _ == some .eq) = true
    rw [rep_ord r1 q1 (by omega) (by omega), he]
    have : compare (evP k q * ((2 ^ s : Nat) : Int)) (evP k q * ((2 ^ s : Nat) : Int)) = .eq := by
      show compareOfLessAndEq _ _ = _
      unfold compareOfLessAndEq
      simp
    rw [this]; rfl
  · cases h

theorem facts_exact {E : Env} {n : Nat} {k : Nat → Int} (hk : ∀ i, i < n → Rep (k i) 3 (E.arg i) ∧ (k i).natAbs ≤ 64) {fs : Facts} (h : fs.all (factX n) = true) : FactsOK E fs := by
  intro p hp
  have := List.all_eq_true.1 h p hp
  unfold factX at this
  split at this
  · exact sameX_ok hk this
  · cases this

end Go.Sx

/-   Numbers as they stand for rationals, and how far a rounded result is from the exact one. Conditions: none. -/
namespace Go.Sx
open Ieee

def p2 (e : Int) : Rat := (2 : Rat) ^ e
theorem p2_pos (e : Int) : 0 < p2 e := Rat.zpow_pos (by decide)
theorem p2_add (a b : Int) : p2 (a + b) = p2 a * p2 b := Rat.zpow_add (by decide) a b
theorem p2_nat (n : Nat) : p2 n = ((2 ^ n : Nat) : Rat) := by
  show (2 : Rat) ^ (n : Int) = _
  rw [Rat.zpow_natCast]
  induction n with
  | zero => rfl
  | succ n ih => rw [Rat.pow_succ, ih, Nat.pow_succ]; simp [Rat.natCast_mul]
theorem p2_one : p2 1 = 2 := Rat.zpow_one 2
theorem p2_zero : p2 0 = 1 := Rat.zpow_zero 2

def sgq (s : Bool) : Rat := if s then -1 else 1
/-- What a number stands for. -/
def datV (s : Bool) (m : Nat) (e : Int) : Rat := sgq s * ((m : Rat) * p2 e)

theorem nat_le {a b : Nat} (h : a ≤ b) : (a : Rat) ≤ b := Rat.natCast_le_natCast.2 h
theorem nat_nn (a : Nat) : (0 : Rat) ≤ a := nat_le (Nat.zero_le a)
theorem nat_pos {a : Nat} (h : a ≠ 0) : (0 : Rat) < a := by
  have := nat_le (show 1 ≤ a by omega)
  have e : ((1 : Nat) : Rat) = 1 := rfl
  grind

/-- Shifted by a power of two. -/
theorem shift_val (m : Nat) (k : Nat) {e e' : Int} (h : e' = e - k) : ((m * 2 ^ k : Nat) : Rat) * p2 e' = (m : Rat) * p2 e := by
  have h : p2 e = p2 k * p2 e' := by rw [← p2_add]; congr 1; omega
  rw [h, p2_nat, Rat.natCast_mul, Rat.mul_assoc]

theorem half_place (e : Int) : p2 (e - 1) * 2 = p2 e := by
  have h : p2 e = p2 (e - 1) * p2 1 := by rw [← p2_add]; congr 1; omega
  rw [h, p2_one]

theorem cutErr (n d : Nat) : 2 * (Toward.even.cut false n d * 2 ^ d) ≤ 2 * n + 2 ^ d ∧ 2 * n ≤ 2 * (Toward.even.cut false n d * 2 ^ d) + 2 ^ d := by
  unfold Toward.cut
  dsimp only
  rw [Nat.one_shiftLeft]
  by_cases hd : d ≤ n.log2 + 2
  · rw [Nat.min_eq_left hd]
    have h1 := Nat.div_add_mod n (2 ^ d)
    have h2 : n % 2 ^ d < 2 ^ d := Nat.mod_lt _ (Nat.two_pow_pos d)
    generalize n / 2 ^ d = low at *
    generalize n % 2 ^ d = rest at *
    rw [Nat.mul_comm] at h1
    generalize 2 ^ d = gap at *
    cases hb : (decide (gap < 2 * rest) || (gap == 2 * rest && low % 2 == 1))
    · have hle : 2 * rest ≤ gap := by
        simp only [Bool.or_eq_false_iff, decide_eq_false_iff_not] at hb
        omega
      simp only [Bool.toNat_false, Nat.add_zero]
      omega
    · have hge : gap ≤ 2 * rest := by
        rcases Bool.or_eq_true _ _ ▸ hb with h | h
        · have : gap < 2 * rest := by simpa using h
          omega
        · rw [Bool.and_eq_true] at h
          have : gap = 2 * rest := by simpa using h.1
          omega
      simp only [Bool.toNat_true, Nat.add_mul, Nat.one_mul]
      omega
  · rw [Nat.min_eq_right (by omega)]
    have hlt : n < 2 ^ (n.log2 + 1) := Nat.lt_log2_self
    have h2 : 2 ^ (n.log2 + 2) ≤ 2 ^ d := Nat.pow_le_pow_right (by decide) (by omega)
    have h3 : 2 ^ (n.log2 + 2) = 2 * 2 ^ (n.log2 + 1) := by rw [Nat.pow_succ]; omega
    have h4 : n / 2 ^ (n.log2 + 2) = 0 := Nat.div_eq_of_lt (by omega)
    have h5 : n % 2 ^ (n.log2 + 2) = n := Nat.mod_eq_of_lt (by omega)
    rw [h4, h5]
    have hb : (decide (2 ^ (n.log2 + 2) < 2 * n) || (2 ^ (n.log2 + 2) == 2 * n && 0 % 2 == 1)) = false := by
      have h6 : ¬ 2 ^ (n.log2 + 2) < 2 * n := by omega
      simp [h6]
    rw [hb]
    simp only [Bool.toNat_false, Nat.add_zero, Nat.zero_mul, Nat.mul_zero]
    omega

theorem step_arith {K D p mag y l L : Rat} (m1 : 2 * (K * D) * p ≤ (2 * mag + D) * p) (m2 : 2 * mag * p ≤ (2 * (K * D) + D) * p) (hD : L = D * p) (hh : L ≤ 2 * y + 2 * l) :
    K * L - mag * p ≤ y + l ∧ mag * p - K * L ≤ y + l := by
  subst hD
  constructor <;> grind

theorem one_arith {z y l : Rat} (hy : 0 ≤ y) (hl : 0 < l) : z - z ≤ y + l ∧ z - z ≤ y + l := by constructor <;> grind

/-- The rounded result of a number that is not 0, and not too great. -/
theorem near_val (f : Format) (neg : Bool) {mag : Nat} {place : Int} (hm : mag ≠ 0) (hup : (lastPlace f mag place - f.leastPlace).toNat + 3 < 2 ^ f.exponentBits) :
    ∃ m e, f.read (f.nearest neg mag place) = .number neg m e ∧ f.leastPlace ≤ e ∧
      (m : Rat) * p2 e - mag * p2 place ≤ mag * p2 place * p2 (-f.fractionBits - 1) + p2 (f.leastPlace - 1) ∧ mag * p2 place - (m : Rat) * p2 e ≤ mag * p2 place * p2 (-f.fractionBits - 1) + p2 (f.leastPlace - 1) := by
  obtain ⟨hk1, hk2⟩ := kept_bounds f place hm
  have hlow : (lastPlace f mag place - f.leastPlace).toNat = 0 ∨ f.binade ≤ keptOf f mag place := by
    rcases hk2 with h2 | h2
    · left; rw [h2]; simp
    · exact .inr h2
  have hfin : (lastPlace f mag place - f.leastPlace).toNat * f.binade + keptOf f mag place < f.infRung := by
    unfold Format.infRung
    obtain ⟨X, hX⟩ : ∃ X, 2 ^ f.exponentBits = X := ⟨_, rfl⟩
    rw [hX] at hup ⊢
    calc (lastPlace f mag place - f.leastPlace).toNat * f.binade + keptOf f mag place ≤ (lastPlace f mag place - f.leastPlace).toNat * f.binade + 2 * f.binade := Nat.add_le_add_left hk1 _
      _ = ((lastPlace f mag place - f.leastPlace).toNat + 2) * f.binade := by rw [Nat.add_mul]
      _ < (X - 1) * f.binade := Nat.mul_lt_mul_of_pos_right (by omega) (Nat.two_pow_pos _)
  obtain ⟨m, e, h1, h2, h3⟩ := read_rung f neg hk1 hlow hfin
  rw [nearest_eq f neg place hm, Nat.min_eq_left (Nat.le_of_lt hfin), h1]
  refine ⟨m, e, rfl, h2, ?_⟩
  have hlast1 : f.leastPlace ≤ lastPlace f mag place := Int.le_max_right _ _
  -- what was read is what is kept, at the last place
  have hv : (m : Rat) * p2 e = (keptOf f mag place : Rat) * p2 (lastPlace f mag place) := by
    have q1 := shift_val m (e - f.leastPlace).toNat (e := e) (e' := f.leastPlace) (by omega)
    have q2 := shift_val (keptOf f mag place) (lastPlace f mag place - f.leastPlace).toNat (e := lastPlace f mag place) (e' := f.leastPlace) (by omega)
    rw [← q1, ← q2, h3]
  rw [hv]
  have hz : 0 ≤ (mag : Rat) * p2 place := Rat.mul_nonneg (nat_nn _) (Rat.le_of_lt (p2_pos _))
  have hy : 0 ≤ (mag : Rat) * p2 place * p2 (-f.fractionBits - 1) := Rat.mul_nonneg hz (Rat.le_of_lt (p2_pos _))
  have hl := p2_pos (f.leastPlace - 1)
  by_cases hle : lastPlace f mag place ≤ place
  · have hk : (keptOf f mag place : Rat) * p2 (lastPlace f mag place) = (mag : Rat) * p2 place := by
      have : keptOf f mag place = mag * 2 ^ (place - lastPlace f mag place).toNat := by
        unfold keptOf
        rw [show (lastPlace f mag place - place).toNat = 0 by omega, cut_zero, Nat.shiftLeft_eq]
      rw [this]
      exact shift_val mag _ (by omega)
    rw [hk]
    exact one_arith hy hl
  · have hk : keptOf f mag place = Toward.even.cut false mag (lastPlace f mag place - place).toNat := by
      unfold keptOf
      rw [show (place - lastPlace f mag place).toNat = 0 by omega, Nat.shiftLeft_zero]
    obtain ⟨c1, c2⟩ := cutErr mag (lastPlace f mag place - place).toNat
    rw [← hk] at c1 c2
    have d1 := nat_le c1
    have d2 := nat_le c2
    simp only [Rat.natCast_mul, Rat.natCast_add] at d1 d2
    rw [← p2_nat] at d1 d2
    have hp := p2_pos place
    have hD : p2 (lastPlace f mag place) = p2 ((lastPlace f mag place - place).toNat : Int) * p2 place := by rw [← p2_add]; congr 1; omega
    -- half a last place
    have hhalf : p2 (lastPlace f mag place) ≤ 2 * ((mag : Rat) * p2 place * p2 (-f.fractionBits - 1)) + 2 * p2 (f.leastPlace - 1) := by
      by_cases hc : lastPlace f mag place = f.leastPlace
      · rw [hc]
        have := half_place f.leastPlace
        grind
      · have hlast : lastPlace f mag place = place + mag.log2 - f.fractionBits := by unfold lastPlace at hc ⊢; omega
        have hlog := nat_le (Nat.log2_self_le hm)
        rw [← p2_nat] at hlog
        have e1 : p2 (lastPlace f mag place) = 2 * (p2 (mag.log2 : Int) * p2 place * p2 (-f.fractionBits - 1)) := by
          rw [hlast, ← p2_add, ← p2_add, Rat.mul_comm, ← half_place]
          congr 2
          omega
        have h1 : p2 (mag.log2 : Int) * p2 place ≤ mag * p2 place := Rat.mul_le_mul_of_nonneg_right hlog (Rat.le_of_lt hp)
        have h2 := Rat.mul_le_mul_of_nonneg_right h1 (Rat.le_of_lt (p2_pos (-f.fractionBits - 1)))
        rw [e1]
        generalize (mag : Rat) * p2 place * p2 (-f.fractionBits - 1) = y at *
        generalize p2 (mag.log2 : Int) * p2 place * p2 (-f.fractionBits - 1) = y' at *
        generalize p2 (f.leastPlace - 1) = l at *

        grind
    have m1 := Rat.mul_le_mul_of_nonneg_right d1 (Rat.le_of_lt hp)
    have m2 := Rat.mul_le_mul_of_nonneg_right d2 (Rat.le_of_lt hp)
    have two : ((2 : Nat) : Rat) = 2 := rfl
    rw [two] at m1 m2
    exact step_arith m1 m2 hD hhalf
/-! ### Values -/
theorem p2_lt {a b : Int} (h : a < b) : p2 a < p2 b := by
  have e : p2 b = p2 a * p2 ((b - a).toNat : Int) := by rw [← p2_add]; congr 1; omega
  have h1 : 2 ^ 1 ≤ 2 ^ (b - a).toNat := Nat.pow_le_pow_right (by decide) (by omega)
  have h2 := nat_le h1
  rw [← p2_nat ((b - a).toNat)] at h2
  have h3 := Rat.mul_le_mul_of_nonneg_left h2 (Rat.le_of_lt (p2_pos a))
  have h4 : (((2 ^ 1 : Nat)) : Rat) = 2 := rfl
  rw [h4] at h3
  have := p2_pos a
  rw [e]
  generalize p2 a * p2 ((b - a).toNat : Int) = y at *
  generalize p2 a = x at *
  grind
theorem p2_le {a b : Int} (h : a ≤ b) : p2 a ≤ p2 b := by
  by_cases e : a = b
  · rw [e]; exact Rat.le_refl
  · exact Rat.le_of_lt (p2_lt (by omega))
theorem p2_le_iff {a b : Int} (h : p2 a ≤ p2 b) : a ≤ b := by
  by_cases e : a ≤ b
  · exact e
  · exact absurd h (Rat.not_le.2 (p2_lt (by omega)))

/-- How great a number is, by its last digit. -/
theorem log_place {mag : Nat} {place k : Int} (hm : mag ≠ 0) (h : (mag : Rat) * p2 place ≤ p2 k) : place + mag.log2 ≤ k := by
  have h1 := nat_le (Nat.log2_self_le hm)
  rw [← p2_nat] at h1
  have h2 := Rat.mul_le_mul_of_nonneg_right h1 (Rat.le_of_lt (p2_pos place))
  rw [← p2_add] at h2
  have := p2_le_iff (Rat.le_trans h2 h)
  omega

/-- It stands for r. -/
def Val (x : CF) (r : Rat) : Prop := ∃ b g m e, x = some b ∧ single.read b = .number g m e ∧ (-149 : Int) ≤ e ∧ r = datV g m e
def ValD (x : CF) (r : Rat) : Prop := ∃ b g m e, x = some b ∧ double.read b = .number g m e ∧ (-1074 : Int) ≤ e ∧ r = datV g m e

def tq : Rat := 1 / 1000000000000000000000000000000
/-- r is z, rounded once. -/
def Rnd1 (r z : Rat) : Prop := ∀ B : Rat, -B ≤ z → z ≤ B → -(B * (1 / 16777216) + 1 / 1000000000000000000000000000000) ≤ r - z ∧ r - z ≤ B * (1 / 16777216) + 1 / 1000000000000000000000000000000
/-- r is z, rounded. -/
def Rnd (r z : Rat) : Prop := ∀ B : Rat, -B ≤ z → z ≤ B → -(B * (1 / 8388608) + 1 / 1000000000000000000000000000000) ≤ r - z ∧ r - z ≤ B * (1 / 8388608) + 1 / 1000000000000000000000000000000
theorem Rnd1.weak {r z : Rat} (h : Rnd1 r z) : Rnd r z := fun B b1 b2 => by
  obtain ⟨h1, h2⟩ := h B b1 b2
  constructor <;> grind

theorem p2_24 : p2 (-24) = 1 / 16777216 := by decide +kernel
theorem p2_150 : p2 (-150) ≤ tq := by decide +kernel
theorem p2_53 : p2 (-53) = 1 / 9007199254740992 := by decide +kernel
theorem p2_1075 : p2 (-1075) ≤ p2 (-150) := p2_le (by omega)

theorem sgq_cases (s : Bool) : sgq s = 1 ∨ sgq s = -1 := by cases s; exact .inl rfl; exact .inr rfl

theorem datV_zero (s : Bool) (e : Int) : datV s 0 e = 0 := by
  unfold datV
  have : ((0 : Nat) : Rat) = 0 := rfl
  rw [this, Rat.zero_mul, Rat.mul_zero]

theorem rnd_arith {s R Z z l : Rat} (hs : s = 1 ∨ s = -1) (hz : z = s * Z) (hl : l ≤ 1 / 1000000000000000000000000000000) (e1 : R - Z ≤ Z * (1 / 16777216) + l) (e2 : Z - R ≤ Z * (1 / 16777216) + l) (_ : 0 ≤ Z) (B : Rat) (h1 : -B ≤ z) (h2 : z ≤ B) :
    -(B * (1 / 16777216) + 1 / 1000000000000000000000000000000) ≤ s * R - z ∧ s * R - z ≤ B * (1 / 16777216) + 1 / 1000000000000000000000000000000 := by
  rcases hs with rfl | rfl
  · constructor <;> grind
  · constructor <;> grind

theorem val_write {neg : Bool} {mag : Nat} {place : Int} {z : Rat} (hz : z = datV neg mag place) (h1 : -p2 100 ≤ z) (h2 : z ≤ p2 100) : ∃ r, Val (some (single.nearest neg mag place)) r ∧ Rnd1 r z := by
  by_cases hm : mag = 0
  · subst hm
    rw [datV_zero] at hz
    subst hz
    refine ⟨0, ⟨_, neg, 0, -149, rfl, ?_, by omega, (datV_zero _ _).symm⟩, ?_⟩
    · unfold Format.nearest
      rw [if_pos rfl]
      cases neg <;> decide
    · intro B b1 b2
      constructor <;> grind
  · have hZ : 0 ≤ (mag : Rat) * p2 place := Rat.mul_nonneg (nat_nn _) (Rat.le_of_lt (p2_pos _))
    have hle : (mag : Rat) * p2 place ≤ p2 100 := by
      unfold datV at hz
      rcases sgq_cases neg with h | h <;> rw [h] at hz
      · generalize (mag : Rat) * p2 place = Z at *
        generalize p2 100 = K at *
        grind
      · generalize (mag : Rat) * p2 place = Z at *
        generalize p2 100 = K at *
        grind
    have hl := log_place hm hle
    obtain ⟨s1, s2, s3, s4, s5⟩ := single_facts
    obtain ⟨m, e, r1, r2, r3, r4⟩ := near_val single neg (place := place) hm (by
      have : lastPlace single mag place ≤ 100 := by unfold lastPlace; rw [s4, s5]; omega
      rw [s4]
      show _ < 2 ^ 8
      omega)
    rw [s4] at r2 r3 r4
    rw [s5] at r3 r4
    refine ⟨datV neg m e, ⟨_, neg, m, e, rfl, r1, r2, rfl⟩, ?_⟩
    have e1 : p2 (-(23 : Nat) - 1) = 1 / 16777216 := p2_24
    have e2 : p2 (-149 - 1) = p2 (-150) := congrArg p2 (by omega)
    rw [e1, e2] at r3 r4
    have q := p2_150
    unfold tq at q
    exact rnd_arith (sgq_cases neg) hz q r3 r4 hZ

theorem sgq_sg (s : Bool) : sgq s = ((sg s : Int) : Rat) := by cases s <;> rfl
theorem signed_q (s : Bool) (m k : Nat) : ((signed s m k : Int) : Rat) = sgq s * ((m * 2 ^ k : Nat) : Rat) := by
  rw [signed_eq, Rat.intCast_mul, sgq_sg, Rat.intCast_natCast]

/-- A sum of numbers, before it is rounded. -/
theorem sum_q {g g' : Bool} {m m' : Nat} {e e' : Int} : ∃ G M P, (Datum.number g m e).sum (.number g' m' e') = some (.number G M P) ∧ datV G M P = datV g m e + datV g' m' e' := by
  refine ⟨_, _, _, rfl, ?_⟩
  generalize ht : signed g m (e - min e e').toNat + signed g' m' (e' - min e e').toNat = t
  generalize hg : (if t = 0 then g && g' else decide (t < 0)) = G
  have hsg : sg G * (t.natAbs : Int) = t := natAbs_sg t G (fun h0 => by rw [← hg, if_neg h0])
  have h1 : sgq G * (t.natAbs : Rat) = (t : Rat) := by rw [sgq_sg, ← Rat.intCast_natCast, ← Rat.intCast_mul, hsg]
  unfold datV
  rw [← Rat.mul_assoc, h1, ← ht, Rat.intCast_add, Rat.add_mul, signed_q, signed_q, Rat.mul_assoc, Rat.mul_assoc]
  rw [shift_val m _ (e := e) (by omega), shift_val m' _ (e := e') (by omega)]

theorem val_add {x y : CF} {a b : Rat} (hx : Val x a) (hy : Val y b) (h1 : -p2 100 ≤ a + b) (h2 : a + b ≤ p2 100) : ∃ r, Val (cbin .add .f32 x y) r ∧ Rnd1 r (a + b) := by
  obtain ⟨c, g, m, e, rfl, k1, k2, rfl⟩ := hx
  obtain ⟨d, g', m', e', rfl, l1, l2, rfl⟩ := hy
  have hv : cbin .add .f32 (some c) (some d) = Option.map single.write ((single.read c).sum (single.read d)) := rfl
  rw [hv, k1, l1]
  obtain ⟨G, M, P, q1, q2⟩ := @sum_q g g' m m' e e'
  rw [q1]
  exact val_write q2.symm h1 h2

theorem datV_neg (g : Bool) (m : Nat) (e : Int) : datV (!g) m e = - datV g m e := by
  unfold datV
  have : sgq (!g) = - sgq g := by cases g <;> rfl
  rw [this, Rat.neg_mul]

theorem val_sub {x y : CF} {a b : Rat} (hx : Val x a) (hy : Val y b) (h1 : -p2 100 ≤ a - b) (h2 : a - b ≤ p2 100) : ∃ r, Val (cbin .sub .f32 x y) r ∧ Rnd1 r (a - b) := by
  obtain ⟨c, g, m, e, rfl, k1, k2, rfl⟩ := hx
  obtain ⟨d, g', m', e', rfl, l1, l2, rfl⟩ := hy
  have hv : cbin .sub .f32 (some c) (some d) = Option.map single.write ((single.read c).sum (single.read d).opposite) := rfl
  rw [hv, k1, l1]
  show ∃ r, Val (Option.map single.write ((Datum.number g m e).sum (.number (!g') m' e'))) r ∧ _
  obtain ⟨G, M, P, q1, q2⟩ := @sum_q g (!g') m m' e e'
  rw [q1]
  rw [datV_neg, ← Rat.sub_eq_add_neg] at q2
  exact val_write q2.symm h1 h2

theorem sgq_xor (a b : Bool) : sgq (a ^^ b) = sgq a * sgq b := by cases a <;> cases b <;> decide +kernel
theorem val_mul {x y : CF} {a b : Rat} (hx : Val x a) (hy : Val y b) (h1 : -p2 100 ≤ a * b) (h2 : a * b ≤ p2 100) : ∃ r, Val (cbin .mul .f32 x y) r ∧ Rnd1 r (a * b) := by
  obtain ⟨c, g, m, e, rfl, k1, k2, rfl⟩ := hx
  obtain ⟨d, g', m', e', rfl, l1, l2, rfl⟩ := hy
  have hv : cbin .mul .f32 (some c) (some d) = Option.map single.write ((single.read c).product (single.read d)) := rfl
  rw [hv, k1, l1]
  refine val_write ?_ h1 h2
  unfold datV
  rw [sgq_xor, Rat.natCast_mul, p2_add]
  generalize p2 e = u
  generalize p2 e' = v
  grind
theorem quoMag {D n : Nat} (hn : n ≠ 0) : (2 * (D / n) + (D % n != 0).toNat) * n ≤ 2 * D + n ∧ 2 * D ≤ (2 * (D / n) + (D % n != 0).toNat) * n + n := by
  have h1 := Nat.div_add_mod D n
  have h2 : D % n < n := Nat.mod_lt _ (Nat.pos_of_ne_zero hn)
  have h3 : D / n * n + D % n = D := by rw [Nat.mul_comm]; exact h1
  by_cases h0 : D % n = 0
  · have : (D % n != 0).toNat = 0 := by simp [h0]
    rw [this, Nat.add_zero]
    rw [Nat.mul_assoc]
    omega
  · have : (D % n != 0).toNat = 1 := by
      have : (D % n != 0) = true := by simpa using h0
      rw [this]; rfl
    rw [this, Nat.add_mul, Nat.mul_assoc]
    omega

theorem div_arith {W Z P n D2 Q c : Rat} (hn : 0 < n) (hP : 0 < P) (hW : W = Q * P) (hZ : Z * n = D2 * P) (q1 : Q * n ≤ D2 + n) (q2 : D2 ≤ Q * n + n) (hc : c * n ≤ D2) : W ≤ Z + P ∧ Z ≤ W + P ∧ c * P ≤ Z := by
  have hp : 0 ≤ P := Rat.le_of_lt hP
  subst hW
  have a1 := Rat.mul_le_mul_of_nonneg_right q1 hp
  have a2 := Rat.mul_le_mul_of_nonneg_right q2 hp
  have a3 := Rat.mul_le_mul_of_nonneg_right hc hp
  refine ⟨?_, ?_, ?_⟩
  · refine Rat.le_of_mul_le_mul_right ?_ hn; grind
  · refine Rat.le_of_mul_le_mul_right ?_ hn; grind
  · refine Rat.le_of_mul_le_mul_right ?_ hn; grind

theorem div_sign {s z w Z W P : Rat} (hs : s = 1 ∨ s = -1) (hz : z = s * Z) (hw : w = s * W) (h1 : W ≤ Z + P) (h2 : Z ≤ W + P) (h3 : 33554432 * P ≤ Z) (B : Rat) (b1 : -B ≤ z) (b2 : z ≤ B) :
    (-(B + B * (1 / 33554432)) ≤ w ∧ w ≤ B + B * (1 / 33554432)) ∧ -(B * (1 / 33554432)) ≤ w - z ∧ w - z ≤ B * (1 / 33554432) := by
  rcases hs with rfl | rfl
  · refine ⟨⟨?_, ?_⟩, ?_, ?_⟩ <;> grind
  · refine ⟨⟨?_, ?_⟩, ?_, ?_⟩ <;> grind

theorem rnd_two {r w z : Rat} (h : Rnd1 r w) (hB : ∀ B : Rat, -B ≤ z → z ≤ B → (-(B + B * (1 / 33554432)) ≤ w ∧ w ≤ B + B * (1 / 33554432)) ∧ -(B * (1 / 33554432)) ≤ w - z ∧ w - z ≤ B * (1 / 33554432)) : Rnd r z := by
  intro B b1 b2
  obtain ⟨⟨c1, c2⟩, c3, c4⟩ := hB B b1 b2
  obtain ⟨d1, d2⟩ := h (B + B * (1 / 33554432)) c1 c2
  constructor <;> grind

theorem p2_99 : p2 99 * (1 + 1 / 33554432) ≤ p2 100 := by
  have : p2 100 = p2 99 * 2 := by
    have := half_place 100
    rw [← this]; rfl
  have h := p2_pos 99
  rw [this]
  generalize p2 99 = x at *
  grind

theorem val_div {x y : CF} {a b : Rat} (hx : Val x a) (hy : Val y b) (hb : b ≠ 0) (h1 : -p2 99 ≤ a / b) (h2 : a / b ≤ p2 99) : ∃ r, Val (cbin .quo .f32 x y) r ∧ Rnd r (a / b) := by
  obtain ⟨c, g, m, e, rfl, k1, k2, rfl⟩ := hx
  obtain ⟨d, g', n, e', rfl, l1, l2, rfl⟩ := hy
  have hv : cbin .quo .f32 (some c) (some d) = Option.map single.write ((single.read c).quotient 25 (single.read d)) := rfl
  rw [hv, k1, l1]
  have hn : n ≠ 0 := fun h => hb (by rw [h]; exact datV_zero _ _)
  simp only [Datum.quotient]
  rw [if_neg hn]
  show ∃ r, Val (some (single.nearest (g ^^ g') _ _)) r ∧ _
  generalize hmore : 25 + n.log2 - m.log2 = more
  rw [Nat.shiftLeft_eq]
  generalize hD : m * 2 ^ more = D
  obtain ⟨q1, q2⟩ := quoMag (D := D) hn
  generalize hQ : 2 * (D / n) + (D % n != 0).toNat = Q at *
  generalize hPl : e - e' - (more : Int) - 1 = pl
  have hn0 := nat_pos hn
  have hp' : p2 e' ≠ 0 := by have := p2_pos e'; grind
  have hnR : (n : Rat) ≠ 0 := by grind
  -- the exact quotient
  have hz : datV g m e / datV g' n e' = sgq (g ^^ g') * ((m : Rat) / n * p2 (e - e')) := by
    unfold datV
    have e1 : p2 e = p2 (e - e') * p2 e' := by rw [← p2_add]; congr 1; omega
    rw [e1, sgq_xor]
    generalize p2 (e - e') = u
    generalize p2 e' = v at *
    rcases sgq_cases g' with h | h <;> rw [h] <;> grind
  have hZ : (m : Rat) / n * p2 (e - e') * n = ((2 * D : Nat) : Rat) * p2 pl := by
    have e1 : p2 (e - e') = p2 more * 2 * p2 pl := by rw [← p2_one, ← p2_add, ← p2_add]; congr 1; omega
    rw [e1, Rat.natCast_mul, ← hD, Rat.natCast_mul, ← p2_nat]
    have : ((2 : Nat) : Rat) = 2 := rfl
    rw [this]
    generalize p2 (more : Int) = u
    generalize p2 pl = v
    grind
  have hDn : m ≠ 0 → 33554432 * n ≤ 2 * D := by
    intro hm
    have a1 := Nat.log2_self_le hm
    have a2 : n < 2 ^ (n.log2 + 1) := Nat.lt_log2_self
    have a3 : 2 ^ (24 + (n.log2 + 1)) ≤ D := by
      rw [← hD]
      calc 2 ^ (24 + (n.log2 + 1)) ≤ 2 ^ (m.log2 + more) := Nat.pow_le_pow_right (by decide) (by omega)
        _ = 2 ^ m.log2 * 2 ^ more := Nat.pow_add _ _ _
        _ ≤ m * 2 ^ more := Nat.mul_le_mul_right _ a1
    rw [Nat.pow_add] at a3
    have : (2 : Nat) ^ 24 = 16777216 := by decide
    rw [this] at a3
    omega
  by_cases hm : m = 0
  · subst hm
    have hD0 : D = 0 := by rw [← hD]; exact Nat.zero_mul _
    have hQ0 : Q = 0 := by
      subst hD0
      rw [Nat.mul_zero, Nat.zero_add] at q1
      rw [← hQ]; simp
    rw [hQ0]
    obtain ⟨r, v1, v2⟩ := val_write (neg := g ^^ g') (mag := 0) (place := pl) (z := 0) (datV_zero _ _).symm (by have := p2_pos 100; grind) (Rat.le_of_lt (p2_pos 100))
    refine ⟨r, v1, ?_⟩
    rw [datV_zero, Rat.div_def, Rat.zero_mul]
    exact v2.weak
  · have hc := nat_le (hDn hm)
    rw [Rat.natCast_mul (33554432)] at hc
    have c1 := nat_le q1
    have c2 := nat_le q2
    rw [Rat.natCast_add, Rat.natCast_mul Q] at c1 c2
    obtain ⟨d1, d2, d3⟩ := div_arith hn0 (p2_pos pl) rfl hZ c1 c2 hc
    have dS := div_sign (sgq_cases (g ^^ g')) hz (show datV (g ^^ g') Q pl = _ from rfl) d1 d2 d3
    obtain ⟨⟨w1, w2⟩, _⟩ := dS (p2 99) h1 h2
    have hk := p2_99
    obtain ⟨r, v1, v2⟩ := val_write (neg := g ^^ g') (mag := Q) (place := pl) rfl (by generalize p2 99 = u at *; generalize p2 100 = v at *; grind) (by generalize p2 99 = u at *; generalize p2 100 = v at *; grind)
    exact ⟨r, v1, rnd_two v2 dS⟩
end Go.Sx

/-   Numbers as they stand for rationals: order, size, roots. Conditions: none. -/
namespace Go.Sx
open Ieee

/-- The order of numbers is that of what they stand for. -/
theorem val_ord {x y : CF} {a b : Rat} (hx : Val x a) (hy : Val y b) : (a < b → cord .f32 x y = some .lt) ∧ (a = b → cord .f32 x y = some .eq) ∧ (b < a → cord .f32 x y = some .gt) := by
  obtain ⟨c, g, m, e, rfl, k1, k2, rfl⟩ := hx
  obtain ⟨d, g', n, e', rfl, l1, l2, rfl⟩ := hy
  have hv : cord .f32 (some c) (some d) = (single.read c).order (single.read d) := rfl
  rw [hv, k1, l1]
  simp only [Datum.order, Option.some.injEq]
  have e1 : datV g m e = ((signed g m (e - min e e').toNat : Int) : Rat) * p2 (min e e') := by
    rw [signed_q, Rat.mul_assoc, shift_val m _ (e := e) (by omega)]; rfl
  have e2 : datV g' n e' = ((signed g' n (e' - min e e').toNat : Int) : Rat) * p2 (min e e') := by
    rw [signed_q, Rat.mul_assoc, shift_val n _ (e := e') (by omega)]; rfl
  rw [e1, e2]
  generalize signed g m (e - min e e').toNat = S
  generalize signed g' n (e' - min e e').toNat = T
  have hp := p2_pos (min e e')
  generalize p2 (min e e') = p at *
  have hpn : 0 ≤ p := Rat.le_of_lt hp
  have lt_of : ∀ (S T : Int), (S : Rat) * p < (T : Rat) * p → S < T := fun S T h => by
    rcases Int.lt_or_le S T with h1 | h1
    · exact h1
    · have h2 : (T : Rat) ≤ S := Rat.intCast_le_intCast.2 h1
      exact absurd h (Rat.not_lt.2 (Rat.mul_le_mul_of_nonneg_right h2 hpn))
  have eq_of : (S : Rat) * p = (T : Rat) * p → S = T := fun h => by
    have h1 : ∀ (S T : Int), (S : Rat) * p = (T : Rat) * p → S ≤ T := fun S T h => by
      rcases Int.lt_or_le T S with h1 | h1
      · have h2 : (T : Rat) < S := Rat.intCast_lt_intCast.2 h1
        have h3 := Rat.mul_lt_mul_of_pos_right h2 hp
        rw [h] at h3
        exact absurd h3 (Rat.lt_irrefl)
      · exact h1
    exact Int.le_antisymm (h1 S T h) (h1 T S h.symm)
  refine ⟨fun h => ?_, fun h => ?_, fun h => ?_⟩
  · exact Int.compare_eq_lt.2 (lt_of _ _ h)
  · exact Int.compare_eq_eq.2 (eq_of h)
  · exact Int.compare_eq_gt.2 (lt_of _ _ h)

theorem val_leq {x y : CF} {a b : Rat} (hx : Val x a) (hy : Val y b) (h : a ≤ b) : ccmp .leq .f32 x y = true := by
  obtain ⟨h1, h2, _⟩ := val_ord hx hy
  rcases (show a < b ∨ a = b by grind) with h | h
  · simp [ccmp, h1 h]
  · simp [ccmp, h2 h]

/-- What a literal stands for. -/
def litV (b : Nat) (N : Int) (s : Nat) : Bool :=
  match single.read b with
  | .number g m e => decide ((-149 : Int) ≤ e) && decide (sg g * ((m * 2 ^ (e + 149).toNat : Nat) : Int) * (2 ^ s : Nat) = N * (2 ^ 149 : Nat))
  | _ => false

theorem val_scaled {g : Bool} {m : Nat} {e : Int} {N : Int} {s : Nat} (he : (-149 : Int) ≤ e) (h : sg g * ((m * 2 ^ (e + 149).toNat : Nat) : Int) * ((2 ^ s : Nat) : Int) = N * ((2 ^ 149 : Nat) : Int)) : datV g m e = (N : Rat) * p2 (-s) := by
  have h1 : (((sg g * ((m * 2 ^ (e + 149).toNat : Nat) : Int) * ((2 ^ s : Nat) : Int) : Int)) : Rat) = ((N * ((2 ^ 149 : Nat) : Int) : Int) : Rat) := by rw [h]
  rw [Rat.intCast_mul, Rat.intCast_mul, Rat.intCast_mul, Rat.intCast_natCast, Rat.intCast_natCast, Rat.intCast_natCast, ← sgq_sg, ← p2_nat, ← p2_nat] at h1
  have h2 := shift_val m (e + 149).toNat (e := e) (e' := -149) (by omega)
  unfold datV
  rw [← h2]
  have a1 : p2 (s : Int) * p2 (-s) = 1 := by rw [← p2_add, ← p2_zero]; congr 1; omega
  have a2 : p2 ((149 : Nat) : Int) * p2 (-149) = 1 := by rw [← p2_add, ← p2_zero]; congr 1
  generalize ((m * 2 ^ (e + 149).toNat : Nat) : Rat) = M at *
  generalize p2 (s : Int) = u at *
  generalize p2 (-s) = v at *
  generalize p2 ((149 : Nat) : Int) = u' at *
  generalize p2 (-149) = v' at *
  generalize (N : Rat) = n at *
  calc sgq g * (M * v') = sgq g * M * v' * 1 := by grind
    _ = sgq g * M * v' * (u * v) := by rw [a1]
    _ = (sgq g * M * u) * v' * v := by grind
    _ = (n * u') * v' * v := by rw [h1]
    _ = n * (u' * v') * v := by grind
    _ = n * v := by rw [a2]; grind

theorem val_lit {b : Nat} {N : Int} {s : Nat} (h : litV b N s = true) : Val (canon .f32 b) ((N : Rat) * p2 (-s)) := by
  unfold litV at h
  split at h
  · rename_i g m e hd
    simp only [Bool.and_eq_true, decide_eq_true_eq] at h
    have hc : canon .f32 b = some b := canon_num (show (single.read b).isNaN = false by rw [hd]; rfl)
    exact ⟨b, g, m, e, hc, hd, h.1, (val_scaled h.1 h.2).symm⟩
  · cases h

/-- An exact number. -/
theorem rep_val {n : Int} {s : Nat} {x : CF} (h : Rep n s x) (hs : s ≤ 149) : Val x ((n : Rat) * p2 (-s)) := by
  obtain ⟨b, g, m, e, rfl, h1, h2, h3⟩ := h
  refine ⟨b, g, m, e, rfl, h1, h2, (val_scaled h2 ?_).symm⟩
  rw [h3, Int.mul_assoc, ← Int.natCast_mul, ← Nat.pow_add]
  congr 4; omega

theorem read_abs {b : Nat} {g : Bool} {m : Nat} {e : Int} (h : single.read b = .number g m e) : single.read (b % 2147483648) = .number false m e := by
  obtain ⟨s1, s2, s3, s4, s5⟩ := single_facts
  unfold Format.read at h ⊢
  simp only [s1] at h ⊢
  have hn : (b % 2147483648 / 2147483648 % 2 == 1) = false := by
    have : b % 2147483648 / 2147483648 = 0 := Nat.div_eq_of_lt (Nat.mod_lt _ (by decide))
    rw [this]; rfl
  rw [hn]
  rw [Nat.mod_mod]
  split at h
  · rename_i q
    rw [if_pos q]
    simp only [Datum.number.injEq] at h ⊢
    exact ⟨trivial, h.2⟩
  · rename_i q
    rw [if_neg q]
    split at h
    · rename_i q2
      rw [if_pos q2]
      simp only [Datum.number.injEq] at h ⊢
      exact ⟨trivial, h.2⟩
    · exact absurd h (by split <;> simp)

theorem val_abs {x : CF} {a : Rat} (h : Val x a) : ∃ r, Val (cabs .f32 x) r ∧ 0 ≤ r ∧ (r = a ∨ r = -a) := by
  obtain ⟨b, g, m, e, rfl, h1, h2, rfl⟩ := h
  obtain ⟨s1, _⟩ := single_facts
  have hv : cabs .f32 (some b) = some (b % 2147483648) := congrArg some (congrArg (b % ·) s1)
  refine ⟨datV false m e, ⟨_, false, m, e, hv, read_abs h1, h2, rfl⟩, ?_, ?_⟩
  · have : 0 ≤ (m : Rat) * p2 e := Rat.mul_nonneg (nat_nn _) (Rat.le_of_lt (p2_pos _))
    unfold datV sgq
    simpa using this
  · unfold datV
    cases g
    · exact .inl rfl
    · refine .inr ?_
      show 1 * _ = -(-1 * _)
      grind

/-- Widened, it stands for the same. -/
theorem val_wide {x : CF} {a : Rat} (h : Val x a) : ValD (cwide x) a := by
  obtain ⟨b, g, m, e, rfl, h1, h2, rfl⟩ := h
  obtain ⟨k, r1, _, _, r4⟩ := wide_num h1
  refine ⟨_, g, m * 2 ^ k, e - k, cwide_num h1, r1, r4, ?_⟩
  unfold datV
  rw [shift_val m k rfl]

theorem val_narrow {x : CF} {a : Rat} (h : ValD x a) (h1 : -p2 100 ≤ a) (h2 : a ≤ p2 100) : ∃ r, Val (cnarrow x) r ∧ Rnd1 r a := by
  obtain ⟨b, g, m, e, rfl, k1, k2, rfl⟩ := h
  obtain ⟨r, v1, v2⟩ := val_write (neg := g) (mag := m) (place := e) rfl h1 h2
  refine ⟨r, ?_, v2⟩
  have hv : cnarrow (some b) = some (single.nearest g m e) := by
    obtain ⟨c, g', m', e', q1, q2, _⟩ := v1
    have q3 : single.nearest g m e = c := by injection q1
    have hd : FloatKind.f64.decode b = .number g m e := k1
    have hni : (FloatKind.f32.decode (FloatKind.f32.encode (.number g m e))).isInfinity = false := by
      show (single.read (single.nearest g m e)).isInfinity = false
      rw [q3, q2]; rfl
    simp only [cnarrow, Option.bind_some, floatToFloatBits, hd, hni]
    rfl
  rw [hv]
  exact v1

theorem rootFrom_spec (n : Nat) : ∀ (todo root : Nat), root * root ≤ n → n < (root + 2 ^ todo) * (root + 2 ^ todo) → Datum.rootFrom n todo root * Datum.rootFrom n todo root ≤ n ∧ n < (Datum.rootFrom n todo root + 1) * (Datum.rootFrom n todo root + 1)
  | 0, root, h1, h2 => by simpa [Datum.rootFrom] using ⟨h1, h2⟩
  | todo + 1, root, h1, h2 => by
    simp only [Datum.rootFrom]
    have hp : 2 ^ (todo + 1) = 2 ^ todo + 2 ^ todo := by rw [Nat.pow_succ]; omega
    rw [hp] at h2
    rw [Nat.one_shiftLeft]
    split
    · rename_i q
      exact rootFrom_spec n todo _ q (by rw [Nat.add_assoc]; exact h2)
    · rename_i q
      exact rootFrom_spec n todo _ h1 (by omega)

theorem root_arith {w n D p W : Rat} (hp : 0 < p) (hw : 0 ≤ w) (hbig : 18014398509481984 ≤ w) (q1 : w * w ≤ n) (q2 : n ≤ w * w + 2 * w) (hD : D = n * (p * p)) (hW : W = w * p ∨ W = (w + 1 / 2) * p) :
    W * W - D ≤ D * (1 / 1000000000000000) ∧ D - W * W ≤ D * (1 / 1000000000000000) := by
  have hq : 0 < p * p := Rat.mul_pos hp hp
  have hWW : W * W = (w * w) * (p * p) ∨ W * W = (w * w) * (p * p) + w * (p * p) + (1 / 4) * (p * p) := by
    rcases hW with rfl | rfl
    · left; grind
    · right; grind
  generalize W * W = V at *
  generalize p * p = q at *
  have hq0 : 0 ≤ q := Rat.le_of_lt hq
  have m1 := Rat.mul_le_mul_of_nonneg_right q1 hq0
  have m2 := Rat.mul_le_mul_of_nonneg_right q2 hq0
  have m3 := Rat.mul_le_mul_of_nonneg_right (Rat.mul_le_mul_of_nonneg_right hbig hw) hq0
  have m4 := Rat.mul_le_mul_of_nonneg_right hbig hq0
  subst hD
  generalize hA : w * w * q = A at *
  generalize hB : w * q = B at *
  generalize n * q = C at *
  have m2' : C ≤ A + 2 * B := by grind
  have m3' : 18014398509481984 * B ≤ A := by grind
  clear m2 m3 hA hB
  rcases hWW with rfl | rfl
  · constructor <;> grind
  · constructor <;> grind

theorem sq_lt {a c : Rat} (hc : 0 ≤ c) (h : a * a < c * c) : a < c := by
  by_cases h1 : a < c
  · exact h1
  · have h2 : c ≤ a := Rat.not_lt.1 h1
    have h3 := Rat.mul_le_mul_of_nonneg_right h2 hc
    have h4 := Rat.mul_le_mul_of_nonneg_left h2 (Rat.le_trans hc h2)
    grind

theorem sq_rel {r W D : Rat} (h0 : 1 / 1000 ≤ D) (hW0 : 1 / 100 ≤ W) (e1 : W * W - D ≤ D * (1 / 1000000000000000)) (e2 : D - W * W ≤ D * (1 / 1000000000000000)) (d1 : r - W ≤ W * (1 / 8388608)) (d2 : W - r ≤ W * (1 / 8388608)) :
    0 ≤ r ∧ r * r - D ≤ D * (1 / 2000000) ∧ D - r * r ≤ D * (1 / 2000000) := by
  have hr : 0 ≤ r := by grind
  have hW : 0 ≤ W := by grind
  have u1 : r ≤ W * (8388609 / 8388608) := by grind
  have u2 : W * (8388607 / 8388608) ≤ r := by grind
  have p1 := Rat.mul_le_mul_of_nonneg_left u1 hr
  have p2 := Rat.mul_le_mul_of_nonneg_right u1 (show 0 ≤ W * (8388609 / 8388608) by grind)
  have p3 := Rat.mul_le_mul_of_nonneg_left u2 hr
  have p4 := Rat.mul_le_mul_of_nonneg_right u2 (show 0 ≤ W * (8388607 / 8388608) by grind)
  generalize hV : W * W = V at *
  have p2' : r * (W * (8388609 / 8388608)) ≤ V * (8388609 / 8388608) * (8388609 / 8388608) := by rw [← hV]; grind
  have p4' : V * (8388607 / 8388608) * (8388607 / 8388608) ≤ r * (W * (8388607 / 8388608)) := by rw [← hV]; grind
  refine ⟨hr, ?_, ?_⟩ <;> grind

/-- The root of a number between a thousandth and a million. -/
theorem val_root {x : CF} {D : Rat} (hx : Val x D) (hlo : 1 / 1000 ≤ D) (hhi : D ≤ 1000000) :
    ∃ r, Val (cnarrow (csqrt (cwide x))) r ∧ 0 ≤ r ∧ r * r - D ≤ D * (1 / 2000000) ∧ D - r * r ≤ D * (1 / 2000000) := by
  obtain ⟨b, g, m, e, hb, k1, k2, hD⟩ := val_wide hx
  rw [hb]
  have hv : csqrt (some b) = ((double.read b).root 54).map double.write := rfl
  rw [hv, k1]
  have hm : m ≠ 0 := fun h => by rw [h, datV_zero] at hD; grind
  have hg : g = false := by
    cases g
    · rfl
    · have h1 : 0 ≤ (m : Rat) * p2 e := Rat.mul_nonneg (nat_nn _) (Rat.le_of_lt (p2_pos _))
      have h2 : D = -1 * ((m : Rat) * p2 e) := hD
      generalize (m : Rat) * p2 e = z at *
      grind
  subst hg
  have hDz : D = (m : Rat) * p2 e := by
    have h2 : D = 1 * ((m : Rat) * p2 e) := hD
    rw [h2, Rat.one_mul]
  simp only [Datum.root]
  rw [if_neg hm]
  simp only [Bool.false_eq_true, if_false, Option.map_some]
  generalize hmore : 2 * 54 - m.log2 + ((e - ((2 * 54 - m.log2 : Nat) : Int)) % 2).toNat = more
  have heven : (e - more) = 2 * ((e - more) / 2) := by omega
  have hbig : 108 ≤ m.log2 + more := by omega
  rw [Nat.shiftLeft_eq]
  have hlog : (m * 2 ^ more).log2 = m.log2 + more := log2_shift hm more
  have hN0 : m * 2 ^ more ≠ 0 := Nat.mul_ne_zero hm (by have := Nat.two_pow_pos more; omega)
  have hNlo : 2 ^ 108 ≤ m * 2 ^ more := by
    refine Nat.le_trans ?_ (Nat.log2_self_le hN0)
    rw [hlog]; exact Nat.pow_le_pow_right (by decide) hbig
  have hDN : D = ((m * 2 ^ more : Nat) : Rat) * (p2 ((e - more) / 2) * p2 ((e - more) / 2)) := by
    rw [hDz, ← p2_add, ← Int.two_mul, ← heven, shift_val m more rfl]
  generalize m * 2 ^ more = N at *
  obtain ⟨w1, w2⟩ := rootFrom_spec N (N.log2 / 2 + 1) 0 (by simp) (by
    rw [Nat.zero_add, ← Nat.pow_add]
    exact Nat.lt_of_lt_of_le Nat.lt_log2_self (Nat.pow_le_pow_right (by decide) (by omega)))
  generalize Datum.rootFrom N (N.log2 / 2 + 1) 0 = w at *
  have hw : 18014398509481984 ≤ w := by
    rcases Nat.lt_or_ge w 18014398509481984 with h | h
    · have h1 : (w + 1) * (w + 1) ≤ 18014398509481984 * 18014398509481984 := Nat.mul_le_mul (by omega) (by omega)
      have h2 : (2 : Nat) ^ 108 = 18014398509481984 * 18014398509481984 := by decide
      omega
    · exact h
  generalize hst : (w * w != N).toNat = st
  have hst1 : st ≤ 1 := by rw [← hst]; cases (w * w != N) <;> decide
  generalize hP : (e - (more : Int)) / 2 = P at *
  -- the root before it is rounded
  have hW : ((2 * w + st : Nat) : Rat) * p2 (P - 1) = (w : Rat) * p2 P ∨ ((2 * w + st : Nat) : Rat) * p2 (P - 1) = ((w : Rat) + 1 / 2) * p2 P := by
    rw [← half_place P, Rat.natCast_add, Rat.natCast_mul]
    have two : ((2 : Nat) : Rat) = 2 := rfl
    have h0 : ((0 : Nat) : Rat) = 0 := rfl
    have h1 : ((1 : Nat) : Rat) = 1 := rfl
    rw [two]
    generalize p2 (P - 1) = q
    rcases (show st = 0 ∨ st = 1 by omega) with h | h <;> rw [h]
    · left; rw [h0]; grind
    · right; rw [h1]; grind
  have c1 := nat_le w1
  have c2 := nat_le (show N ≤ w * w + 2 * w by
    have : (w + 1) * (w + 1) = w * w + 2 * w + 1 := by rw [Nat.add_mul, Nat.mul_add]; omega
    omega)
  have c3 := nat_le hw
  rw [Rat.natCast_mul] at c1
  rw [Rat.natCast_add, Rat.natCast_mul, Rat.natCast_mul] at c2
  obtain ⟨E1, E2⟩ := root_arith (p2_pos P) (nat_nn w) c3 c1 c2 hDN hW
  have hWnn : 0 ≤ ((2 * w + st : Nat) : Rat) * p2 (P - 1) := Rat.mul_nonneg (nat_nn _) (Rat.le_of_lt (p2_pos _))
  show ∃ r, Val (cnarrow (some (double.nearest false (2 * w + st) (P - 1)))) r ∧ _
  have hmag : 2 * w + st ≠ 0 := by omega
  have hWlo : 1 / 100 < ((2 * w + st : Nat) : Rat) * p2 (P - 1) := by
    generalize ((2 * w + st : Nat) : Rat) * p2 (P - 1) = W at *
    exact sq_lt hWnn (by grind)
  have hWhi : ((2 * w + st : Nat) : Rat) * p2 (P - 1) < 1001 := by
    generalize ((2 * w + st : Nat) : Rat) * p2 (P - 1) = W at *
    exact sq_lt (by decide) (by grind)
  have hp10 : p2 10 = 1024 := by decide +kernel
  have hl := log_place (place := P - 1) (k := 10) hmag (by rw [hp10]; exact Rat.le_trans (Rat.le_of_lt hWhi) (by decide +kernel))
  obtain ⟨s1, s2, s3, s4, s5, s6⟩ := double_facts
  obtain ⟨m', e', r1, r2, r3, r4⟩ := near_val double false (place := P - 1) hmag (by
    have : lastPlace double (2 * w + st) (P - 1) ≤ 10 := by unfold lastPlace; rw [s4, s5]; omega
    rw [s4]
    show _ < 2 ^ 11
    omega)
  rw [s4] at r2 r3 r4
  rw [s5] at r3 r4
  have x1 : p2 (-(52 : Nat) - 1) = 1 / 9007199254740992 := p2_53
  have x2 : p2 (-1074 - 1) ≤ 1 / 1000000000000000000000000000000 := Rat.le_trans (p2_le (by omega)) p2_150
  rw [x1] at r3 r4
  generalize ((2 * w + st : Nat) : Rat) * p2 (P - 1) = W at *
  have hR : ValD (some (double.nearest false (2 * w + st) (P - 1))) ((m' : Rat) * p2 e') := ⟨_, false, m', e', rfl, r1, r2, by unfold datV sgq; simp⟩
  generalize p2 (-1074 - 1) = t at *
  generalize (m' : Rat) * p2 e' = R at *
  have hp100 : (1024 : Rat) ≤ p2 100 := by rw [← hp10]; exact p2_le (by omega)
  obtain ⟨r, v1, v2⟩ := val_narrow hR (by grind) (by grind)
  obtain ⟨z1, z2⟩ := v2 (W * (1 + 1 / 1000000000)) (by grind) (by grind)
  exact ⟨r, v1, sq_rel hlo (Rat.le_of_lt hWlo) E1 E2 (by grind) (by grind)⟩

/-! ### Numbers below a million -/
theorem big100 : (1000000 : Rat) ≤ p2 100 := by decide +kernel
theorem big99 : (1000000 : Rat) ≤ p2 99 := by decide +kernel
theorem in100 {z : Rat} (h1 : -1000000 ≤ z) (h2 : z ≤ 1000000) : -p2 100 ≤ z ∧ z ≤ p2 100 := by
  have := big100
  generalize p2 100 = u at *
  constructor <;> grind
theorem in99 {z : Rat} (h1 : -1000000 ≤ z) (h2 : z ≤ 1000000) : -p2 99 ≤ z ∧ z ≤ p2 99 := by
  have := big99
  generalize p2 99 = u at *
  constructor <;> grind

/-- What is bounded by B, is rounded. -/
def Off (r z B : Rat) : Prop := -(B * (1 / 8388608) + 1 / 1000000000000000000000000000000) ≤ r - z ∧ r - z ≤ B * (1 / 8388608) + 1 / 1000000000000000000000000000000

theorem add_off {x y : CF} {a b : Rat} (hx : Val x a) (hy : Val y b) (B : Rat) (h1 : -B ≤ a + b) (h2 : a + b ≤ B) (hB : B ≤ 1000000) : ∃ r, Val (cbin .add .f32 x y) r ∧ Off r (a + b) B := by
  obtain ⟨i1, i2⟩ := in100 (z := a + b) (by grind) (by grind)
  obtain ⟨r, v, h⟩ := val_add hx hy i1 i2
  exact ⟨r, v, h.weak B h1 h2⟩
theorem sub_off {x y : CF} {a b : Rat} (hx : Val x a) (hy : Val y b) (B : Rat) (h1 : -B ≤ a - b) (h2 : a - b ≤ B) (hB : B ≤ 1000000) : ∃ r, Val (cbin .sub .f32 x y) r ∧ Off r (a - b) B := by
  obtain ⟨i1, i2⟩ := in100 (z := a - b) (by grind) (by grind)
  obtain ⟨r, v, h⟩ := val_sub hx hy i1 i2
  exact ⟨r, v, h.weak B h1 h2⟩
theorem mul_off {x y : CF} {a b : Rat} (hx : Val x a) (hy : Val y b) (B : Rat) (h1 : -B ≤ a * b) (h2 : a * b ≤ B) (hB : B ≤ 1000000) : ∃ r, Val (cbin .mul .f32 x y) r ∧ Off r (a * b) B := by
  obtain ⟨i1, i2⟩ := in100 (z := a * b) (by grind) (by grind)
  obtain ⟨r, v, h⟩ := val_mul hx hy i1 i2
  exact ⟨r, v, h.weak B h1 h2⟩
/-- A quotient: z is the exact one. -/
theorem div_off {x y : CF} {a b : Rat} (hx : Val x a) (hy : Val y b) (hb : b ≠ 0) (z : Rat) (hz : z * b = a) (B : Rat) (h1 : -B ≤ z) (h2 : z ≤ B) (hB : B ≤ 1000000) : ∃ r, Val (cbin .quo .f32 x y) r ∧ Off r z B := by
  have e : a / b = z := by rw [← hz]; grind
  obtain ⟨i1, i2⟩ := in99 (z := z) (by grind) (by grind)
  obtain ⟨r, v, h⟩ := val_div hx hy hb (by rw [e]; exact i1) (by rw [e]; exact i2)
  rw [e] at h
  exact ⟨r, v, h B h1 h2⟩

/-- A number taken from itself is nothing. -/
theorem sub_self_val {x : CF} {a : Rat} (hx : Val x a) : Val (cbin .sub .f32 x x) 0 := by
  obtain ⟨c, g, m, e, rfl, k1, k2, rfl⟩ := hx
  have hv : cbin .sub .f32 (some c) (some c) = Option.map single.write ((single.read c).sum (single.read c).opposite) := rfl
  rw [hv, k1]
  show Val (Option.map single.write ((Datum.number g m e).sum (.number (!g) m e))) 0
  obtain ⟨G, M, P, q1, q2⟩ := @sum_q g (!g) m m e e
  rw [q1]
  rw [datV_neg] at q2
  have hM : M = 0 := by
    by_cases h0 : M = 0
    · exact h0
    · have h1 := Rat.mul_pos (nat_pos h0) (p2_pos P)
      unfold datV at q2
      rcases sgq_cases G with h | h <;> rw [h] at q2
      · generalize (M : Rat) * p2 P = u at *
        generalize sgq g * ((m : Rat) * p2 e) = v at *
        grind
      · generalize (M : Rat) * p2 P = u at *
        generalize sgq g * ((m : Rat) * p2 e) = v at *
        grind
  subst hM
  refine ⟨_, G, 0, -149, rfl, ?_, by omega, (datV_zero _ _).symm⟩
  show single.read (single.nearest G 0 P) = _
  unfold Format.nearest
  rw [if_pos rfl]
  cases G <;> decide

theorem zero_val : Val (canon .f32 0) 0 := ⟨0, false, 0, -149, by decide, by decide, by omega, (datV_zero _ _).symm⟩

/-- A product of bounded numbers. -/
theorem mul_bd {x y X Y : Rat} (h1 : -X ≤ x) (h2 : x ≤ X) (h3 : -Y ≤ y) (h4 : y ≤ Y) : -(X * Y) ≤ x * y ∧ x * y ≤ X * Y := by
  have a1 := Rat.mul_nonneg (show 0 ≤ X - x by grind) (show 0 ≤ Y - y by grind)
  have a2 := Rat.mul_nonneg (show 0 ≤ X + x by grind) (show 0 ≤ Y + y by grind)
  have a3 := Rat.mul_nonneg (show 0 ≤ X - x by grind) (show 0 ≤ Y + y by grind)
  have a4 := Rat.mul_nonneg (show 0 ≤ X + x by grind) (show 0 ≤ Y - y by grind)
  constructor <;> grind

/-- Square and bound. -/
theorem sq_le {a c : Rat} (hc : 0 ≤ c) (h : a * a ≤ c * c) : -c ≤ a ∧ a ≤ c := by
  constructor
  · by_cases h1 : -c ≤ a
    · exact h1
    · have h2 : c < -a := by grind
      have h3 := Rat.mul_lt_mul_of_pos_right h2 (show 0 < -a by grind)
      have h4 := Rat.mul_le_mul_of_nonneg_left (Rat.le_of_lt h2) hc
      grind
  · by_cases h1 : a ≤ c
    · exact h1
    · have h2 : c < a := by grind
      have h3 := Rat.mul_lt_mul_of_pos_right h2 (show 0 < a by grind)
      have h4 := Rat.mul_le_mul_of_nonneg_left (Rat.le_of_lt h2) hc
      grind
end Go.Sx
