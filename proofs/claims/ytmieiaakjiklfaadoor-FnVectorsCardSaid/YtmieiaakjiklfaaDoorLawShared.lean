/-
  What the laws of matrices and of vectors share: what the draws give. Conditions: the bytes lie there.
-/
import Derived.Test.YtmieiaakjiklfaaDoorSum
namespace Go.Proofs.YtmieiaakjiklfaaDoor
open Go.RowKit Go.Sx
set_option maxRecDepth 100000

theorem canon_twice {n c : Nat} (h : canon .f32 n = some c) : canon .f32 c = some c := by
  obtain ⟨rfl, hn⟩ := canon_eq_some h
  exact canon_num hn

theorem anyR_good {zs : List Int} {at_ : Nat} {seed : Int} {c : Nat} (h : (anyR zs at_ seed).1 = some c) : c < 4294967296 ∧ canon .f32 c = some c := by
  refine ⟨anyR_lt h, ?_⟩
  unfold anyR at h
  dsimp only at h
  split at h
  · cases h
  · split at h
    · cases h; decide +kernel
    · split at h
      · cases h; decide +kernel
      · split at h
        · cases h; decide +kernel
        · split at h
          · exact canon_twice h
          · split at h
            · exact canon_twice h
            · split at h
              · have h' : cbin .quo .f32 (canon .f32 (floatOfInt .f32 (pickL zs (at_ + 1) (seedNext zs at_ seed) 2000000 - 1000000))) (canon .f32 1148846080) = some c := h
                rw [cbin_canon] at h'
                exact canon_num (floatBits_notNaN h')
              · exact canon_twice h

theorem plain_good {zs : List Int} {j c : Nat} (h : canon .f32 (plainAt zs j) = some c) : c < 4294967296 ∧ canon .f32 c = some c := by
  obtain ⟨h1, h2⟩ := pickS_bounds (zs := zs) j (seedAt zs j) 129 (by decide)
  obtain ⟨rfl, hn⟩ := canon_eq_some h
  exact ⟨(plain_fact h1 h2).2.1, canon_num hn⟩

/-- The eighths of a plain number. -/
def eighths (zs : List Int) (j : Nat) : Int := pickS zs j (seedAt zs j) 129 - 64
theorem plain_rep (zs : List Int) (j : Nat) : Rep (eighths zs j) 3 (canon .f32 (plainAt zs j)) ∧ (eighths zs j).natAbs ≤ 64 := by
  obtain ⟨h1, h2⟩ := pickS_bounds (zs := zs) j (seedAt zs j) 129 (by decide)
  refine ⟨(plain_fact h1 h2).2.2, ?_⟩
  unfold eighths
  omega

theorem draw9_ok {E : Env} {β : Beta} {zs : List Int} {v : Value} {i : Nat} {W : World} (hb : BytesV v zs W) (hl : zs.length ≤ 3000) (ha : ∀ j, j < 9 → canon .f32 (plainAt zs j) = E.arg (i + j)) :
    CallRuns Tryd.prog 6 #[v] W fun u W' => Gr W W' ∧ KnownRel E β (.val (.agg (argsFrom i 9))) u :=
  runs_of Tryd.func6 (by kernel_rfl) ((a2mat v zs W hb (by omega)).mono fun e w' ⟨he, hk⟩ => ⟨_, he, gr_kept hk, _, rfl, argsFrom_rel (plainAt zs) 9 i ha⟩)
theorem draw3_ok {E : Env} {β : Beta} {zs : List Int} {v : Value} {i : Nat} {W : World} (hb : BytesV v zs W) (hl : zs.length ≤ 3000) (ha : ∀ j, j < 3 → canon .f32 (plainAt zs j) = E.arg (i + j)) :
    CallRuns Tryd.prog 7 #[v] W fun u W' => Gr W W' ∧ KnownRel E β (.val (.agg (argsFrom i 3))) u :=
  runs_of Tryd.func7 (by kernel_rfl) ((a2vec v zs W hb (by omega)).mono fun e w' ⟨he, hk⟩ => ⟨_, he, gr_kept hk, _, rfl, argsFrom_rel (plainAt zs) 3 i ha⟩)
theorem drawAny_ok {E : Env} {β : Beta} {zs : List Int} {v : Value} {i : Nat} {W : World} (hb : BytesV v zs W) (hl : zs.length ≤ 3000) (ha : (anyR zs 0 0).1 = E.arg i) :
    CallRuns Tryd.prog 21 #[v] W fun u W' => Gr W W' ∧ KnownRel E β (.val (.sc (.flt .f32 (.arg i)))) u :=
  runs_of Tryd.func21 (by kernel_rfl) ((a2any v zs W hb (by omega)).mono fun e w' ⟨x, he, hx, hk⟩ => ⟨_, he, gr_kept hk, x, rfl, hx.trans ha⟩)

theorem long_ok {E : Env} {β : Beta} {zs1 zs2 : List Int} {v1 v2 : Value} {W : World} (h1 : BytesV v1 zs1 W) (h2 : BytesV v2 zs2 W) (l1 : zs1.length ≤ 3000) (l2 : zs2.length ≤ 3000) :
    CallRuns Tryd.prog 5 #[v1, v2] W fun u W' => Gr W W' ∧ KnownRel E β (.val (.sc (.bool false))) u := by
  obtain ⟨p, c, rfl, _⟩ := h1
  obtain ⟨q, d, rfl, _⟩ := h2
  refine runs_of Tryd.func5 (by kernel_rfl) ((long_calls p q zs1.length zs2.length c d W).mono fun e w' ⟨he, hw⟩ => ⟨_, he, by rw [hw]; exact Gr.refl _, ?_⟩)
  rw [decide_eq_false (by omega), decide_eq_false (by omega)]
  rfl

end Go.Proofs.YtmieiaakjiklfaaDoor
