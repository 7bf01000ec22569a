/-
  The law 'FnSolved': its walk. Conditions: the bytes lie there.
-/
import Derived.Test.YtcoediecgmdkpaaRuns5
import Derived.Test.YtcoediecgmdkpaaRunsI
import Derived.Test.YtcoediecgmdkpaaRunsS
import Derived.Test.YtcoediecgmdkpaaRunsR
import Derived.Test.YtcoediecgmdkpaaRunsA
import Derived.Test.YtcoediecgmdkpaaRunsB
import Derived.Test.YtcoediecgmdkpaaAt5
namespace Go.Proofs.Ytcoediecgmdkpaa
open Go.RowKit Go.Sx
set_option maxRecDepth 100000

section
variable {E : Env} {β : Beta}
theorem vs1 {a : V} {vals : List Value} (h : VsRel E β [a] vals) : ∃ v, vals = [v] ∧ VRel E β a v := by
  match vals, h with
  | [v], h => exact ⟨v, rfl, h.2 0 a v rfl rfl⟩
  | [], h => have := h.1; simp at this
  | _ :: _ :: _, h => have := h.1; simp at this
theorem vs2 {a b : V} {vals : List Value} (h : VsRel E β [a, b] vals) : ∃ v u, vals = [v, u] ∧ VRel E β a v ∧ VRel E β b u := by
  match vals, h with
  | [v, u], h => exact ⟨v, u, rfl, h.2 0 a v rfl rfl, h.2 1 b u rfl rfl⟩
  | [], h => have := h.1; simp at this
  | [_], h => have := h.1; simp at this
  | _ :: _ :: _ :: _, h => have := h.1; simp at this

theorem argsFrom_rel (c : Nat → Nat) : ∀ (n i : Nat), (∀ j, j < n → canon .f32 (c j) = E.arg (i + j)) → LRel E β (argsFrom i n) ((List.range n).map fun j => Value.float .f32 (c j))
  | 0, _, _ => LRel.nil
  | n + 1, i, h => by
    rw [List.range_succ_eq_map]
    simp only [List.map_cons, List.map_map]
    exact LRel.cons ⟨c 0, rfl, h 0 (by omega)⟩ (argsFrom_rel (fun j => c (j + 1)) n (i + 1) fun j hj => by rw [h (j + 1) (by omega)]; congr 1; omega)

end

theorem runs_of {f : FuncId} {fn : Func} (hfn : Try.prog.funcs[f]? = some fn) (hb : fn.body.isSome = true) {args : Array Value} {W : World} {R : Value → World → Prop}
    (h : Calls Try.prog f args W fun e w' => ∃ v, e = .returned v ∧ R v w') : CallRuns Try.prog f args W R := by
  obtain ⟨c, hc⟩ := Option.isSome_iff_exists.1 hb
  exact callRuns_of_calls names hfn hc h

/-- The eighths of a plain number. -/
def eighths (zs : List Int) (j : Nat) : Int := pickS zs j (seedAt zs j) 129 - 64
theorem plain_rep (zs : List Int) (j : Nat) : Rep (eighths zs j) 3 (canon .f32 (plainAt zs j)) ∧ (eighths zs j).natAbs ≤ 64 := by
  obtain ⟨h1, h2⟩ := pickS_bounds (zs := zs) j (seedAt zs j) 129 (by decide)
  refine ⟨(plain_fact h1 h2).2.2, ?_⟩
  unfold eighths
  omega

theorem draw9_ok {E : Env} {β : Beta} {zs : List Int} {v : Value} {i : Nat} {W : World} (hb : BytesV v zs W) (hl : zs.length ≤ 3000) (ha : ∀ j, j < 9 → canon .f32 (plainAt zs j) = E.arg (i + j)) :
    CallRuns Try.prog 22 #[v] W fun u W' => Gr W W' ∧ KnownRel E β (.val (.agg (argsFrom i 9))) u :=
  runs_of Try.func22 (by kernel_rfl) ((a2mat v zs W hb (by omega)).mono fun e w' ⟨he, hk⟩ => ⟨_, he, gr_kept hk, _, rfl, argsFrom_rel (plainAt zs) 9 i ha⟩)
theorem draw3_ok {E : Env} {β : Beta} {zs : List Int} {v : Value} {i : Nat} {W : World} (hb : BytesV v zs W) (hl : zs.length ≤ 3000) (ha : ∀ j, j < 3 → canon .f32 (plainAt zs j) = E.arg (i + j)) :
    CallRuns Try.prog 6 #[v] W fun u W' => Gr W W' ∧ KnownRel E β (.val (.agg (argsFrom i 3))) u :=
  runs_of Try.func6 (by kernel_rfl) ((a2vec v zs W hb (by omega)).mono fun e w' ⟨he, hk⟩ => ⟨_, he, gr_kept hk, _, rfl, argsFrom_rel (plainAt zs) 3 i ha⟩)
theorem long_ok {E : Env} {β : Beta} {zs1 zs2 : List Int} {v1 v2 : Value} {W : World} (h1 : BytesV v1 zs1 W) (h2 : BytesV v2 zs2 W) (l1 : zs1.length ≤ 3000) (l2 : zs2.length ≤ 3000) :
    CallRuns Try.prog 4 #[v1, v2] W fun u W' => Gr W W' ∧ KnownRel E β (.val (.sc (.bool false))) u := by
  obtain ⟨p, c, rfl, _⟩ := h1
  obtain ⟨q, d, rfl, _⟩ := h2
  refine runs_of Try.func4 (by kernel_rfl) ((long_calls p q zs1.length zs2.length c d W).mono fun e w' ⟨he, hw⟩ => ⟨_, he, by rw [hw]; exact Gr.refl _, ?_⟩)
  rw [decide_eq_false (by omega), decide_eq_false (by omega)]
  rfl


theorem vs3 {E : Env} {β : Beta} {a b c : V} {vals : List Value} (h : VsRel E β [a, b, c] vals) : ∃ v u x, vals = [v, u, x] ∧ VRel E β a v ∧ VRel E β b u ∧ VRel E β c x := by
  match vals, h with
  | [v, u, x], h => exact ⟨v, u, x, rfl, h.2 0 a v rfl rfl, h.2 1 b u rfl rfl, h.2 2 c x rfl rfl⟩
  | [], h => have := h.1; simp at this
  | [_], h => have := h.1; simp at this
  | [_, _], h => have := h.1; simp at this
  | _ :: _ :: _ :: _ :: _, h => have := h.1; simp at this

/-- Cells that stand for the same. -/
theorem cells_move {E E' : Env} {β β' : Beta} : ∀ {ts us : List T} {r : List Value}, ts.map (den E) = us.map (den E') → LRel E β (cells ts) r → LRel E' β' (cells us) r
  | [], [], r, _, h => by
    match r, h with
    | [], _ => exact LRel.nil
    | _ :: _, h => have := h.1; simp [cells] at this
  | [], _ :: _, _, h, _ => by cases h
  | _ :: _, [], _, h, _ => by cases h
  | t :: ts, u :: us, r, h, hr => by
    simp only [List.map_cons, List.cons.injEq] at h
    match r, hr with
    | [], hr => have := hr.1; simp [cells] at this
    | v :: r, hr =>
      obtain ⟨b, rfl, hb⟩ := hr.2 0 _ v rfl rfl
      exact LRel.cons ⟨b, rfl, hb.trans h.1⟩ (cells_move h.2 ⟨by have := hr.1; simpa [cells] using this, fun i s w h1 h2 => hr.2 (i + 1) s w (by simpa [cells] using h1) (by simpa using h2)⟩)

/-- What the symbols stand for where the heavy matrix is drawn. -/
def envHeavy (v : Value) (zs : List Int) : Env where
  arg := fun i => canon .f32 (plainAt zs i)
  f1 := g1
  f2 := g2
  opq := fun _ => v
  inv := fun W => BytesV v zs W
  stable := fun _ _ g h => h.kept (kept_grown g)

set_option maxRecDepth 100000 in
theorem heavyS_ok (v : Value) (zs : List Int) (l : zs.length ≤ 3000) : SumOK (envHeavy v zs) Try.prog heavyS := by
  intro f args kn h β vals W hv hi
  unfold heavyS at h
  split at h
  · unfold drawOfK at h
    split at h
    · cases h
      obtain ⟨x, rfl, hx⟩ := vs1 hv
      have hx' : x = v := hx
      subst hx'
      exact draw9_ok hi l fun j hj => by
        show _ = canon .f32 (plainAt zs (0 + j))
        rw [Nat.zero_add]
    · cases h
  · exact known_ok _ rfl rfl f args kn h β vals W hv hi

/-- What the symbols of 'FnSolved' stand for. -/
def solBase (zs1 zs2 : List Int) : Nat → CF := heavyBase (fun i => canon .f32 (plainAt zs1 i)) (fun i => canon .f32 (plainAt zs2 i))
def envSol (v1 v2 : Value) (zs1 zs2 : List Int) : Env where
  arg := fullArg (solBase zs1 zs2)
  f1 := g1
  f2 := g2
  opq := fun i => if i = 0 then v1 else v2
  inv := fun W => BytesV v1 zs1 W ∧ BytesV v2 zs2 W
  stable := fun _ _ g h => ⟨h.1.kept (kept_grown g), h.2.kept (kept_grown g)⟩

theorem sol_base (v1 v2 : Value) (zs1 zs2 : List Int) (i : Nat) (hi : i < 12) : (envSol v1 v2 zs1 zs2).arg i = solBase zs1 zs2 i := by
  show fullArg _ i = _
  unfold fullArg; rw [if_pos hi]
theorem sol_rest (v1 v2 : Value) (zs1 zs2 : List Int) (k : Nat) (hk : k < 18) : (envSol v1 v2 zs1 zs2).arg (12 + k) = den (envSol v1 v2 zs1 zs2) (solTerm k) := full_sol rfl rfl rfl hk
theorem sol_mat (v1 v2 : Value) (zs1 zs2 : List Int) : ∃ a, MatV (envSol v1 v2 zs1 zs2) a :=
  heavy_mat (m := fun i => canon .f32 (plainAt zs1 i)) (v := fun i => canon .f32 (plainAt zs2 i)) (k := eighths zs1) (fun i _ => plain_rep zs1 i) fun i hi => sol_base v1 v2 zs1 zs2 i (by omega)
theorem sol_vec (v1 v2 : Value) (zs1 zs2 : List Int) (j : Nat) (hj : j < 3) : (envSol v1 v2 zs1 zs2).arg (9 + j) = canon .f32 (plainAt zs2 j) := by
  rw [sol_base _ _ _ _ _ (by omega)]
  unfold solBase heavyBase
  rw [if_neg (by omega), Nat.add_sub_cancel_left]

/-- Everything that the runs ask. -/
theorem sol_facts (v1 v2 : Value) (zs1 zs2 : List Int) : FactsOK (envSol v1 v2 zs1 zs2) mainFacts ∧ FactsOK (envSol v1 v2 zs1 zs2) (solveFacts (.arg 9) (.arg 10) (.arg 11)) ∧ FactsOK (envSol v1 v2 zs1 zs2) (solveFacts l1 l0 l0) ∧ FactsOK (envSol v1 v2 zs1 zs2) (solveFacts l0 l1 l0) ∧ FactsOK (envSol v1 v2 zs1 zs2) (solveFacts l0 l0 l1) ∧ FactsOK (envSol v1 v2 zs1 zs2) rootFacts := by
  obtain ⟨a, h⟩ := sol_mat v1 v2 zs1 zs2
  have w : ∀ j, j < 3 → Val ((envSol v1 v2 zs1 zs2).arg (9 + j)) ((eighths zs2 j : Rat) * (1 / 8)) := fun j hj => by
    rw [sol_vec _ _ _ _ j hj]; exact arg_val (plain_rep zs2 j).1
  exact solved_facts rfl h (w 0 (by decide)) (w 1 (by decide)) (w 2 (by decide)) (eighth_bounds (plain_rep zs2 0).2) (eighth_bounds (plain_rep zs2 1).2) (eighth_bounds (plain_rep zs2 2).2) (sol_rest v1 v2 zs1 zs2)

section
variable (v1 v2 : Value) (zs1 zs2 : List Int)

theorem out_sol {b0 b1 b2 : T} {i : Nat} (hi : i + 2 < 18) (h0 : solTerm i = x0T b0 b1 b2) (h1 : solTerm (i + 1) = x1T b0 b1 b2) (h2 : solTerm (i + 2) = x2T b0 b1 b2) :
    (solL b0 b1 b2).map (den (envSol v1 v2 zs1 zs2)) = (outL (12 + i)).map (den (envSol v1 v2 zs1 zs2)) := by
  have e0 := sol_rest v1 v2 zs1 zs2 i (by omega)
  have e1 := sol_rest v1 v2 zs1 zs2 (i + 1) (by omega)
  have e2 := sol_rest v1 v2 zs1 zs2 (i + 2) (by omega)
  rw [h0] at e0
  rw [h1] at e1
  rw [h2] at e2
  show [_, _, _] = [(envSol v1 v2 zs1 zs2).arg (12 + i), (envSol v1 v2 zs1 zs2).arg (12 + i + 1), (envSol v1 v2 zs1 zs2).arg (12 + i + 2)]
  rw [show 12 + i + 1 = 12 + (i + 1) by omega, show 12 + i + 2 = 12 + (i + 2) by omega, e0, e1, e2]

theorem solve_impl : ∀ e ∈ solveE, Runs (envSol v1 v2 zs1 zs2) Try.prog 7 e.1 e.2.1 e.2.2 := by
  obtain ⟨_, fv, f0, f1, f2, _⟩ := sol_facts v1 v2 zs1 zs2
  have hk := known_ok (envSol v1 v2 zs1 zs2) rfl rfl
  intro e he
  rcases List.mem_cons.1 he with rfl | he
  · exact runs_ok mixed names hk run_impl_v fv (out_sol v1 v2 zs1 zs2 (i := 0) (by decide) rfl rfl rfl)
  rcases List.mem_cons.1 he with rfl | he
  · exact runs_ok mixed names hk run_impl_0 f0 (out_sol v1 v2 zs1 zs2 (i := 3) (by decide) rfl rfl rfl)
  rcases List.mem_cons.1 he with rfl | he
  · exact runs_ok mixed names hk run_impl_1 f1 (out_sol v1 v2 zs1 zs2 (i := 6) (by decide) rfl rfl rfl)
  rcases List.mem_cons.1 he with rfl | he
  · exact runs_ok mixed names hk run_impl_2 f2 (out_sol v1 v2 zs1 zs2 (i := 9) (by decide) rfl rfl rfl)
  cases he
theorem solve_spec : ∀ e ∈ solveE, Runs (envSol v1 v2 zs1 zs2) Try.prog 30 e.1 e.2.1 e.2.2 := by
  obtain ⟨_, fv, f0, f1, f2, _⟩ := sol_facts v1 v2 zs1 zs2
  have hk := known_ok (envSol v1 v2 zs1 zs2) rfl rfl
  intro e he
  rcases List.mem_cons.1 he with rfl | he
  · exact runs_ok mixed names hk run_spec_v fv (out_sol v1 v2 zs1 zs2 (i := 0) (by decide) rfl rfl rfl)
  rcases List.mem_cons.1 he with rfl | he
  · exact runs_ok mixed names hk run_spec_0 f0 (out_sol v1 v2 zs1 zs2 (i := 3) (by decide) rfl rfl rfl)
  rcases List.mem_cons.1 he with rfl | he
  · exact runs_ok mixed names hk run_spec_1 f1 (out_sol v1 v2 zs1 zs2 (i := 6) (by decide) rfl rfl rfl)
  rcases List.mem_cons.1 he with rfl | he
  · exact runs_ok mixed names hk run_spec_2 f2 (out_sol v1 v2 zs1 zs2 (i := 9) (by decide) rfl rfl rfl)
  cases he

theorem out_root : rootL.map (den (envSol v1 v2 zs1 zs2)) = rL.map (den (envSol v1 v2 zs1 zs2)) := by
  have e0 := sol_rest v1 v2 zs1 zs2 12 (by decide)
  have e1 := sol_rest v1 v2 zs1 zs2 13 (by decide)
  have e2 := sol_rest v1 v2 zs1 zs2 14 (by decide)
  have e3 := sol_rest v1 v2 zs1 zs2 15 (by decide)
  have e4 := sol_rest v1 v2 zs1 zs2 16 (by decide)
  have e5 := sol_rest v1 v2 zs1 zs2 17 (by decide)
  show [den _ (solTerm 12), den _ l0, den _ l0, den _ (solTerm 13), den _ (solTerm 14), den _ l0, den _ (solTerm 15), den _ (solTerm 16), den _ (solTerm 17)] =
    [(envSol v1 v2 zs1 zs2).arg (12 + 12), den _ l0, den _ l0, (envSol v1 v2 zs1 zs2).arg (12 + 13), (envSol v1 v2 zs1 zs2).arg (12 + 14), den _ l0, (envSol v1 v2 zs1 zs2).arg (12 + 15), (envSol v1 v2 zs1 zs2).arg (12 + 16), (envSol v1 v2 zs1 zs2).arg (12 + 17)]
  rw [e0, e1, e2, e3, e4, e5]
theorem root_impl : ∀ e ∈ rootE, Runs (envSol v1 v2 zs1 zs2) Try.prog 19 e.1 e.2.1 e.2.2 := by
  obtain ⟨_, _, _, _, _, fr⟩ := sol_facts v1 v2 zs1 zs2
  intro e he
  rcases List.mem_cons.1 he with rfl | he
  · exact runs_ok mixed names (known_ok (envSol v1 v2 zs1 zs2) rfl rfl) run_impl_root fr (out_root v1 v2 zs1 zs2)
  cases he
theorem root_spec : ∀ e ∈ rootE, Runs (envSol v1 v2 zs1 zs2) Try.prog 20 e.1 e.2.1 e.2.2 := by
  obtain ⟨_, _, _, _, _, fr⟩ := sol_facts v1 v2 zs1 zs2
  intro e he
  rcases List.mem_cons.1 he with rfl | he
  · exact runs_ok mixed names (known_ok (envSol v1 v2 zs1 zs2) rfl rfl) run_spec_root fr (out_root v1 v2 zs1 zs2)
  cases he

theorem last_run (k : Nat) (hk : k < 3) : Runs (envSol v1 v2 zs1 zs2) Try.prog 7 (lastE k).1 (lastE k).2.1 (lastE k).2.2 := by
  obtain ⟨a, h⟩ := sol_mat v1 v2 zs1 zs2
  have hS := known_ok (envSol v1 v2 zs1 zs2) rfl rfl
  have w : ∀ j, j < 3 → Val ((envSol v1 v2 zs1 zs2).arg (9 + j)) ((eighths zs2 j : Rat) * (1 / 8)) := fun j hj => by
    rw [sol_vec _ _ _ _ j hj]; exact arg_val (plain_rep zs2 j).1
  have hF := last_fin h (w 0 (by decide)) (w 1 (by decide)) (w 2 (by decide))
  match k, hk with
  | 0, _ =>
    rcases last0 h with f | f | f | f | f | f | f
    · exact runs_ok mixed names hS run_last_A (facts_app hF f) rfl
    · exact runs_ok mixed names hS run_last_B1 (facts_app hF f) rfl
    · exact runs_ok mixed names hS run_last_B2 (facts_app hF f) rfl
    · exact runs_ok mixed names hS run_last_C1 (facts_app hF f) rfl
    · exact runs_ok mixed names hS run_last_C2 (facts_app hF f) rfl
    · exact runs_ok mixed names hS run_last_N1 (facts_app hF f) rfl
    · exact runs_ok mixed names hS run_last_N2 (facts_app hF f) rfl
  | 1, _ =>
    rcases last1 h with f | f
    · exact runs_ok mixed names hS run_last_D1 (facts_app hF f) rfl
    · exact runs_ok mixed names hS run_last_D2 (facts_app hF f) rfl
  | 2, _ =>
    rcases last2 h with f | f
    · exact runs_ok mixed names hS run_last_K1 (facts_app hF f) rfl
    · exact runs_ok mixed names hS run_last_K2 (facts_app hF f) rfl
end

theorem heavy_cells (v1 v2 : Value) (zs1 zs2 : List Int) : heavyL.map (den (envHeavy v1 zs1)) = mL.map (den (envSol v1 v2 zs1 zs2)) := by
  have e : ∀ i, i < 9 → (envSol v1 v2 zs1 zs2).arg i = heavyBase (fun i => canon .f32 (plainAt zs1 i)) (fun i => canon .f32 (plainAt zs2 i)) i := fun i hi => sol_base v1 v2 zs1 zs2 i (by omega)
  show _ = [(envSol v1 v2 zs1 zs2).arg 0, (envSol v1 v2 zs1 zs2).arg 1, (envSol v1 v2 zs1 zs2).arg 2, (envSol v1 v2 zs1 zs2).arg 3, (envSol v1 v2 zs1 zs2).arg 4, (envSol v1 v2 zs1 zs2).arg 5, (envSol v1 v2 zs1 zs2).arg 6, (envSol v1 v2 zs1 zs2).arg 7, (envSol v1 v2 zs1 zs2).arg 8]
  rw [e 0 (by decide), e 1 (by decide), e 2 (by decide), e 3 (by decide), e 4 (by decide), e 5 (by decide), e 6 (by decide), e 7 (by decide), e 8 (by decide)]
  rfl

set_option maxRecDepth 100000 in
theorem heavy_ok {v1 v2 : Value} {zs1 zs2 : List Int} {β : Beta} {W : World} (hb : BytesV v1 zs1 W) (l : zs1.length ≤ 3000) :
    CallRuns Try.prog 5 #[v1] W fun u W' => Gr W W' ∧ KnownRel (envSol v1 v2 zs1 zs2) β (.val (.agg (argsFrom 0 9))) u := by
  obtain ⟨fn, c, hfn, hbody⟩ := runA_body run_heavy
  obtain ⟨sv, fs', k1, _, k3⟩ := runA_sound mixed names (heavyS_ok v1 zs1 l) run_heavy facts_nil
  have := isCells_spec (show isCells heavyL sv = true from k1)
  subst this
  refine callRuns_of_calls names hfn hbody ((k3 [v1] W ⟨rfl, fun i s u hs hu => ?_⟩ hb).mono fun e W' ⟨u, he, ⟨arr, hu, hr⟩, hg⟩ => ⟨u, he, hg, arr, hu, ?_⟩)
  · match i, hs with
    | 0, hs => simp at hs hu; subst hs; subst hu; rfl
  · exact cells_move (ts := heavyL) (us := mL) (heavy_cells v1 v2 zs1 zs2) hr

set_option maxRecDepth 100000 in
theorem solS_ok (v1 v2 : Value) (zs1 zs2 : List Int) (l1 : zs1.length ≤ 3000) (l2 : zs2.length ≤ 3000) (k : Nat) (hk3 : k < 3) (hk : atZ zs2 = (k : Int)) : SumOK (envSol v1 v2 zs1 zs2) Try.prog (solS k) := by
  intro f args kn h β vals W hv hi
  obtain ⟨b1, b2⟩ := id hi
  unfold solS at h
  split at h
  · unfold longK at h
    split at h
    · cases h
      obtain ⟨x, y, rfl, hx, hy⟩ := vs2 hv
      have hx' : x = v1 := hx
      have hy' : y = v2 := hy
      subst hx'; subst hy'
      exact long_ok b1 b2 l1 l2
    · cases h
  · unfold drawOfK at h
    split at h
    · cases h
      obtain ⟨x, rfl, hx⟩ := vs1 hv
      have hx' : x = v1 := hx
      subst hx'
      exact heavy_ok b1 l1
    · cases h
  · unfold drawTwoK at h
    split at h
    · cases h
      obtain ⟨x, rfl, hx⟩ := vs1 hv
      have hx' : x = v2 := hx
      subst hx'
      exact draw3_ok b2 l2 fun j hj => (sol_vec v1 x zs1 zs2 j hj).symm
    · cases h
  · unfold atK at h
    split at h
    · cases h
      obtain ⟨x, y, z, rfl, hx, hy, hz⟩ := vs3 hv
      have hx' : x = v2 := hx
      have hy' : y = .int .i64 0 := hy
      have hz' : z = .int .i64 3 := hz
      subst hx'; subst hy'; subst hz'
      refine runs_of Try.func21 (by kernel_rfl) ((at_calls x zs2 W b2).mono fun e w' ⟨he, hkp⟩ => ⟨_, he, gr_kept hkp, ?_⟩)
      rw [hk]; rfl
    · cases h
  · exact tabK_ok (fun e he => by
      rcases List.mem_cons.1 he with rfl | he
      · exact last_run v1 v2 zs1 zs2 k hk3
      · exact solve_impl v1 v2 zs1 zs2 e he) h hv hi
  · exact tabK_ok (solve_spec v1 v2 zs1 zs2) h hv hi
  · exact tabK_ok (root_impl v1 v2 zs1 zs2) h hv hi
  · exact tabK_ok (root_spec v1 v2 zs1 zs2) h hv hi
  · exact known_ok _ rfl rfl f args kn h β vals W hv hi

theorem at_bounds {v : Value} {zs : List Int} {W : World} (h : BytesV v zs W) : ∃ k : Nat, k < 3 ∧ atZ zs = (k : Int) := by
  obtain ⟨_, _, _, hz, _⟩ := h
  unfold atZ
  split
  · rename_i h0
    have hb := hz (zs.getD 0 0) (by rw [List.getD, List.getElem?_eq_getElem h0]; exact List.getElem_mem h0)
    exact ⟨(zs.getD 0 0 % 3).toNat, by omega, by omega⟩
  · exact ⟨0, by decide, rfl⟩

set_option maxRecDepth 100000 in
theorem law_solved (v1 v2 : Value) (zs1 zs2 : List Int) (W : World) (h1 : BytesV v1 zs1 W) (h2 : BytesV v2 zs2 W) :
    Calls Try.prog 3 #[v1, v2] W fun e w' => e = .returned (.bool true) ∧ Kept W w' := by
  by_cases hl : 3000 < zs1.length ∨ 3000 < zs2.length
  · obtain ⟨p, c, rfl, _⟩ := h1
    obtain ⟨q, d, rfl, _⟩ := h2
    have hS := long_calls p q zs1.length zs2.length c d
    have hd : (decide (3000 < zs1.length) || decide (3000 < zs2.length)) = true := by rcases hl with h | h <;> simp [h]
    rw [hd] at hS
    clear hd
    go_enter Try.func3, Try.ntmps3
    go_wp2_with fail
    refine (hS _).mono ?_
    rintro e w1 ⟨rfl, rfl⟩
    go_wp2
    go_ret
    exact ⟨rfl, Kept.refl _⟩
  · obtain ⟨k, hk3, hk⟩ := at_bounds h2
    have hS := solS_ok v1 v2 zs1 zs2 (by omega) (by omega) k hk3 hk
    have hf := (sol_facts v1 v2 zs1 zs2).1
    have fin : runA Try.prog (solS k) 300 3 [.opq 0, .opq 1] mainFacts isTrue = true := by
      match k, hk3 with
      | 0, _ => exact run_main_0
      | 1, _ => exact run_main_1
      | 2, _ => exact run_main_2
    obtain ⟨sv, fs', k1, _, k3⟩ := runA_sound mixed names hS fin hf
    have := isTrue_spec k1
    subst this
    refine (k3 [v1, v2] W ⟨rfl, fun i s v hs hv => ?_⟩ ⟨h1, h2⟩).mono fun e w' ⟨v, he, hr, hg⟩ => ⟨by rw [he]; exact congrArg Ending.returned hr, kept_grown hg⟩
    match i, hs with
    | 0, hs => simp at hs hv; subst hs; subst hv; rfl
    | 1, hs => simp at hs hv; subst hs; subst hv; rfl
end Go.Proofs.Ytcoediecgmdkpaa
