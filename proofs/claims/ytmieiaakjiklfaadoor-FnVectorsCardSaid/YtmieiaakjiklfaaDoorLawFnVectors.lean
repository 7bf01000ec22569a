/-
  The law 'FnVectors': its walk. Conditions: what the library's variables hold; the bytes lie there.
-/
import Derived.Test.YtmieiaakjiklfaaDoorLawShared
import Derived.Test.YtmieiaakjiklfaaDoorRunVec
namespace Go.Proofs.YtmieiaakjiklfaaDoor
open Go.RowKit Go.Sx
set_option maxRecDepth 100000

def vecArg (zs1 zs2 : List Int) (i : Nat) : CF :=
  if i < 3 then canon .f32 (plainAt zs1 i) else if i < 6 then canon .f32 (plainAt zs2 (i - 3)) else if i = 6 then canon .f32 (plainAt zs2 0)
  else if i < 10 then anyAt zs1 (i - 7) else none
def vecK (zs1 zs2 : List Int) (i : Nat) : Int :=
  if i < 3 then eighths zs1 i else if i < 6 then eighths zs2 (i - 3) else eighths zs2 0

theorem vecArg_good (zs1 zs2 : List Int) (i c : Nat) (h : vecArg zs1 zs2 i = some c) : c < 4294967296 ∧ canon .f32 c = some c := by
  unfold vecArg at h
  split at h
  · exact plain_good h
  · split at h
    · exact plain_good h
    · split at h
      · exact plain_good h
      · split at h
        · exact anyR_good h
        · cases h

theorem vecArg_rep (zs1 zs2 : List Int) (i : Nat) (hi : i < 7) : Rep (vecK zs1 zs2 i) 3 (vecArg zs1 zs2 i) ∧ (vecK zs1 zs2 i).natAbs ≤ 64 := by
  unfold vecArg vecK
  by_cases h1 : i < 3
  · rw [if_pos h1, if_pos h1]; exact plain_rep _ _
  · rw [if_neg h1, if_neg h1]
    by_cases h2 : i < 6
    · rw [if_pos h2, if_pos h2]; exact plain_rep _ _
    · rw [if_neg h2, if_neg h2, if_pos (by omega)]; exact plain_rep _ _

/-- What the symbols of 'FnVectors' stand for. -/
def envVec (v1 v2 : Value) (zs1 zs2 : List Int) : Env where
  arg := vecArg zs1 zs2
  f1 := g1
  f2 := g2
  opq := fun i => if i = 0 then v1 else v2
  txt := etxt
  inv := fun W => BytesV v1 zs1 W ∧ BytesV v2 zs2 W ∧ LaidM W
  stable := fun _ _ g h => ⟨h.1.kept (kept_grown g), h.2.1.kept (kept_grown g), h.2.2.kept (kept_grown g)⟩

theorem drawOne_ok {E : Env} {β : Beta} {zs : List Int} {v : Value} {i : Nat} {W : World} (hb : BytesV v zs W) (hl : zs.length ≤ 3000) (ha : canon .f32 (plainAt zs 0) = E.arg i) :
    CallRuns Tryd.prog 28 #[v] W fun u W' => Gr W W' ∧ KnownRel E β (.val (.sc (.flt .f32 (.arg i)))) u :=
  runs_of Tryd.func28 (by kernel_rfl) ((a2plain v zs W hb (by omega)).mono fun e w' ⟨he, hk⟩ => ⟨_, he, gr_kept hk, _, rfl, ha⟩)
theorem drawWild_ok {E : Env} {β : Beta} {zs : List Int} {v : Value} {i : Nat} {W : World} (hb : BytesV v zs W) (hl : zs.length ≤ 3000) (ha : ∀ j, j < 3 → anyAt zs j = E.arg (i + j)) :
    CallRuns Tryd.prog 34 #[v] W fun u W' => Gr W W' ∧ KnownRel E β (.val (.agg (argsFrom i 3))) u :=
  runs_of Tryd.func34 (by kernel_rfl) ((a2wild v zs W hb (by omega)).mono fun e w' ⟨⟨x, y, z, he, hx, hy, hz⟩, hk⟩ =>
    ⟨_, he, gr_kept hk, _, rfl, argsFrom_rel (fun j => match j with | 0 => x | 1 => y | _ => z) 3 i fun j hj => by
      match j, hj with
      | 0, hj => exact hx.trans (ha 0 hj)
      | 1, hj => exact hy.trans (ha 1 hj)
      | 2, hj => exact hz.trans (ha 2 hj)⟩)

set_option maxRecDepth 100000 in
theorem vecS_ok (v1 v2 : Value) (zs1 zs2 : List Int) (l1 : zs1.length ≤ 3000) (l2 : zs2.length ≤ 3000) : SumOK (envVec v1 v2 zs1 zs2) Tryd.prog vecS := by
  intro f args kn h β vals W hv hi
  obtain ⟨b1, b2, hL⟩ := id hi
  have hB := vecArg_good zs1 zs2
  unfold vecS at h
  split at h
  · unfold longK at h
    split at h
    · cases h
      obtain ⟨x, y, rfl, hx, hy⟩ := vs2 hv
      have hx' : x = v1 := hx
      have hy' : y = v2 := hy
      subst hx'; subst hy'
      exact long_ok b1 b2 l1 l2
    · cases h
  · unfold drawK at h
    split at h
    · cases h
      obtain ⟨x, rfl, hx⟩ := vs1 hv
      have hx' : x = v1 := hx
      subst hx'
      exact draw3_ok b1 l1 fun j hj => by
        show _ = vecArg zs1 zs2 (0 + j)
        unfold vecArg; rw [Nat.zero_add, if_pos hj]
    · cases h
      obtain ⟨x, rfl, hx⟩ := vs1 hv
      have hx' : x = v2 := hx
      subst hx'
      exact draw3_ok b2 l2 fun j hj => by
        show _ = vecArg zs1 zs2 (3 + j)
        unfold vecArg; rw [if_neg (by omega), if_pos (by omega), Nat.add_sub_cancel_left]
    · cases h
  · unfold drawOneK at h
    split at h
    · cases h
      obtain ⟨x, rfl, hx⟩ := vs1 hv
      have hx' : x = v2 := hx
      subst hx'
      exact drawOne_ok b2 l2 rfl
    · cases h
  · unfold drawOfK at h
    split at h
    · cases h
      obtain ⟨x, rfl, hx⟩ := vs1 hv
      have hx' : x = v1 := hx
      subst hx'
      exact drawWild_ok b1 l1 fun j hj => by
        show _ = vecArg zs1 zs2 (7 + j)
        unfold vecArg; rw [if_neg (by omega), if_neg (by omega), if_neg (by omega), if_pos (by omega), Nat.add_sub_cancel_left]
    · cases h
  · exact text3_ok (fun i c h => (hB i c h).1) rfl h hv hL
  · exact read3_ok hB rfl h hv hL
  · exact known_ok _ rfl rfl f args kn h β vals W hv hi

set_option maxRecDepth 100000 in
theorem law_vectors (v1 v2 : Value) (zs1 zs2 : List Int) (W : World) (h1 : BytesV v1 zs1 W) (h2 : BytesV v2 zs2 W) (hL : LaidM W) :
    Calls Tryd.prog 4 #[v1, v2] W fun e w' => e = .returned (.bool true) ∧ Kept W w' := by
  by_cases hl : 3000 < zs1.length ∨ 3000 < zs2.length
  · obtain ⟨p, c, rfl, _⟩ := h1
    obtain ⟨q, d, rfl, _⟩ := h2
    have hS := long_calls p q zs1.length zs2.length c d
    have hd : (decide (3000 < zs1.length) || decide (3000 < zs2.length)) = true := by rcases hl with h | h <;> simp [h]
    rw [hd] at hS
    clear hL hd
    go_enter Tryd.func4, Tryd.ntmps4
    go_wp2_with fail
    refine (hS _).mono ?_
    rintro e w1 ⟨rfl, rfl⟩
    go_wp2
    go_ret
    exact ⟨rfl, Kept.refl _⟩
  · have hS := vecS_ok v1 v2 zs1 zs2 (by omega) (by omega)
    have hk7 : ∀ i, i < 7 → Rep (vecK zs1 zs2 i) 3 ((envVec v1 v2 zs1 zs2).arg i) ∧ (vecK zs1 zs2 i).natAbs ≤ 64 := fun i hi => vecArg_rep zs1 zs2 i hi
    have hk6 : ∀ i, i < 6 → Rep (vecK zs1 zs2 i) 3 ((envVec v1 v2 zs1 zs2).arg i) ∧ (vecK zs1 zs2 i).natAbs ≤ 64 := fun i hi => vecArg_rep zs1 zs2 i (by omega)
    have hX := facts_exact (E := envVec v1 v2 zs1 zs2) hk7 vecExact_exact
    have c0 := cell_zero hk6 (i := 0) (by decide)
    have c1 := cell_zero hk6 (i := 1) (by decide)
    have c2 := cell_zero hk6 (i := 2) (by decide)
    have s0 := int_sq (vecK zs1 zs2 0)
    have s1 := int_sq (vecK zs1 zs2 1)
    have s2 := int_sq (vecK zs1 zs2 2)
    have fin : ∀ {fs : Facts}, runA Tryd.prog vecS 200 4 [.opq 0, .opq 1] fs isTrue = true → FactsOK (envVec v1 v2 zs1 zs2) fs → Calls Tryd.prog 4 #[v1, v2] W fun e w' => e = .returned (.bool true) ∧ Kept W w' := by
      intro fs hr hf
      obtain ⟨sv, fs', k1, _, k3⟩ := runA_sound mixed names hS hr hf
      have := isTrue_spec k1
      subst this
      refine (k3 [v1, v2] W ⟨rfl, fun i s v hs hv => ?_⟩ ⟨h1, h2, hL⟩).mono fun e w' ⟨v, he, hr, hg⟩ => ⟨by rw [he]; exact congrArg Ending.returned hr, kept_grown hg⟩
      match i, hs with
      | 0, hs => simp at hs hv; subst hs; subst hv; rfl
      | 1, hs => simp at hs hv; subst hs; subst hv; rfl
    by_cases e0 : vecK zs1 zs2 0 = 0
    · rw [decide_eq_true e0] at c0
      by_cases e1 : vecK zs1 zs2 1 = 0
      · rw [decide_eq_true e1] at c1
        by_cases e2 : vecK zs1 zs2 2 = 0
        · rw [decide_eq_true e2] at c2
          exact fin run_vecZ (facts_cons c0 (facts_cons c1 (facts_cons c2 (facts_app (zero_facts rfl hk6 e0 e1 e2) hX))))
        · rw [decide_eq_false e2] at c2
          have p := int_sq_pos e2
          exact fin run_vecC (facts_cons c0 (facts_cons c1 (facts_cons c2 (facts_app (vec_facts rfl hk6 (by omega)) hX))))
      · rw [decide_eq_false e1] at c1
        have p := int_sq_pos e1
        exact fin run_vecB (facts_cons c0 (facts_cons c1 (facts_app (vec_facts rfl hk6 (by omega)) hX)))
    · rw [decide_eq_false e0] at c0
      have p := int_sq_pos e0
      exact fin run_vecA (facts_cons c0 (facts_app (vec_facts rfl hk6 (by omega)) hX))
end Go.Proofs.YtmieiaakjiklfaaDoor
