/-
  The law 'FnMatrices': its walk. Conditions: what the library's variables hold; the bytes lie there.
-/
import Derived.Test.YtmieiaakjiklfaaDoorLawShared
import Derived.Test.YtmieiaakjiklfaaDoorRunMat
namespace Go.Proofs.YtmieiaakjiklfaaDoor
open Go.RowKit Go.Sx
set_option maxRecDepth 100000

def matArg (zs1 zs2 : List Int) (i : Nat) : CF :=
  if i < 9 then canon .f32 (plainAt zs1 i) else if i < 18 then canon .f32 (plainAt zs2 (i - 9)) else if i < 21 then canon .f32 (plainAt zs1 (i - 18))
  else if i < 24 then canon .f32 (plainAt zs2 (i - 21)) else if i = 24 then (anyR zs2 0 0).1 else none
def matK (zs1 zs2 : List Int) (i : Nat) : Int :=
  if i < 9 then eighths zs1 i else if i < 18 then eighths zs2 (i - 9) else if i < 21 then eighths zs1 (i - 18) else eighths zs2 (i - 21)

theorem matArg_good (zs1 zs2 : List Int) (i c : Nat) (h : matArg zs1 zs2 i = some c) : c < 4294967296 ∧ canon .f32 c = some c := by
  unfold matArg at h
  split at h
  · exact plain_good h
  · split at h
    · exact plain_good h
    · split at h
      · exact plain_good h
      · split at h
        · exact plain_good h
        · split at h
          · exact anyR_good h
          · cases h

theorem matArg_rep (zs1 zs2 : List Int) (i : Nat) (hi : i < 24) : Rep (matK zs1 zs2 i) 3 (matArg zs1 zs2 i) ∧ (matK zs1 zs2 i).natAbs ≤ 64 := by
  unfold matArg matK
  by_cases h1 : i < 9
  · rw [if_pos h1, if_pos h1]; exact plain_rep _ _
  · rw [if_neg h1, if_neg h1]
    by_cases h2 : i < 18
    · rw [if_pos h2, if_pos h2]; exact plain_rep _ _
    · rw [if_neg h2, if_neg h2]
      by_cases h3 : i < 21
      · rw [if_pos h3, if_pos h3]; exact plain_rep _ _
      · rw [if_neg h3, if_neg h3, if_pos hi]; exact plain_rep _ _

/-- What the symbols of 'FnMatrices' stand for. -/
def envMat (v1 v2 : Value) (zs1 zs2 : List Int) : Env where
  arg := matArg zs1 zs2
  f1 := g1
  f2 := g2
  opq := fun i => if i = 0 then v1 else v2
  txt := etxt
  inv := fun W => BytesV v1 zs1 W ∧ BytesV v2 zs2 W ∧ LaidM W
  stable := fun _ _ g h => ⟨h.1.kept (kept_grown g), h.2.1.kept (kept_grown g), h.2.2.kept (kept_grown g)⟩

set_option maxRecDepth 100000 in
theorem matS_ok (v1 v2 : Value) (zs1 zs2 : List Int) (l1 : zs1.length ≤ 3000) (l2 : zs2.length ≤ 3000) : SumOK (envMat v1 v2 zs1 zs2) Tryd.prog matS := by
  intro f args kn h β vals W hv hi
  obtain ⟨b1, b2, hL⟩ := id hi
  have hB := matArg_good zs1 zs2
  unfold matS at h
  split at h
  · unfold longK at h
    split at h
    · cases h
      obtain ⟨x, y, rfl, hx, hy⟩ := vs2 hv
      have hx' : x = v1 := hx
      have hy' : y = v2 := hy
      subst hx'; subst hy'
      exact long_ok b1 b2 l1 l2
    · cases h
  · unfold drawK at h
    split at h
    · cases h
      obtain ⟨x, rfl, hx⟩ := vs1 hv
      have hx' : x = v1 := hx
      subst hx'
      exact draw9_ok b1 l1 fun j hj => by
        show _ = matArg zs1 zs2 (0 + j)
        unfold matArg; rw [Nat.zero_add, if_pos hj]
    · cases h
      obtain ⟨x, rfl, hx⟩ := vs1 hv
      have hx' : x = v2 := hx
      subst hx'
      exact draw9_ok b2 l2 fun j hj => by
        show _ = matArg zs1 zs2 (9 + j)
        unfold matArg; rw [if_neg (by omega), if_pos (by omega), Nat.add_sub_cancel_left]
    · cases h
  · unfold drawK at h
    split at h
    · cases h
      obtain ⟨x, rfl, hx⟩ := vs1 hv
      have hx' : x = v1 := hx
      subst hx'
      exact draw3_ok b1 l1 fun j hj => by
        show _ = matArg zs1 zs2 (18 + j)
        unfold matArg; rw [if_neg (by omega), if_neg (by omega), if_pos (by omega), Nat.add_sub_cancel_left]
    · cases h
      obtain ⟨x, rfl, hx⟩ := vs1 hv
      have hx' : x = v2 := hx
      subst hx'
      exact draw3_ok b2 l2 fun j hj => by
        show _ = matArg zs1 zs2 (21 + j)
        unfold matArg; rw [if_neg (by omega), if_neg (by omega), if_neg (by omega), if_pos (by omega), Nat.add_sub_cancel_left]
    · cases h
  · unfold drawOneK at h
    split at h
    · cases h
      obtain ⟨x, rfl, hx⟩ := vs1 hv
      have hx' : x = v2 := hx
      subst hx'
      exact drawAny_ok b2 l2 rfl
    · cases h
  · exact text9_ok (fun i c h => (hB i c h).1) rfl h hv hL
  · exact read9_ok hB rfl h hv hL
  · exact text1_ok (fun i c h => (hB i c h).1) rfl h hv hL
  · exact read1_ok hB rfl h hv hL
  · exact known_ok _ rfl rfl f args kn h β vals W hv hi

set_option maxRecDepth 100000 in
theorem law_matrices (v1 v2 : Value) (zs1 zs2 : List Int) (W : World) (h1 : BytesV v1 zs1 W) (h2 : BytesV v2 zs2 W) (hL : LaidM W) :
    Calls Tryd.prog 3 #[v1, v2] W fun e w' => e = .returned (.bool true) ∧ Kept W w' := by
  by_cases hl : 3000 < zs1.length ∨ 3000 < zs2.length
  · obtain ⟨p, c, rfl, _⟩ := h1
    obtain ⟨q, d, rfl, _⟩ := h2
    have hS := long_calls p q zs1.length zs2.length c d
    have hd : (decide (3000 < zs1.length) || decide (3000 < zs2.length)) = true := by rcases hl with h | h <;> simp [h]
    rw [hd] at hS
    clear hL hd
    go_enter Tryd.func3, Tryd.ntmps3
    go_wp2_with fail
    refine (hS _).mono ?_
    rintro e w1 ⟨rfl, rfl⟩
    go_wp2
    go_ret
    exact ⟨rfl, Kept.refl _⟩
  · obtain ⟨sv, fs', k1, _, k3⟩ := runA_sound (E := envMat v1 v2 zs1 zs2) mixed names (matS_ok v1 v2 zs1 zs2 (by omega) (by omega)) run_matrices
      (facts_exact (E := envMat v1 v2 zs1 zs2) (n := 24) (k := matK zs1 zs2) (fun i hi => matArg_rep zs1 zs2 i hi) matFacts_exact)
    have := isTrue_spec k1
    subst this
    refine (k3 [v1, v2] W ⟨rfl, fun i s v hs hv => ?_⟩ ⟨h1, h2, hL⟩).mono fun e w' ⟨v, he, hr, hg⟩ => ⟨by rw [he]; exact congrArg Ending.returned hr, kept_grown hg⟩
    match i, hs with
    | 0, hs => simp at hs hv; subst hs; subst hv; rfl
    | 1, hs => simp at hs hv; subst hs; subst hv; rfl
end Go.Proofs.YtmieiaakjiklfaaDoor
