/-
  Code, calls, whole functions: a run on symbols that answers true tells what the call returns. Conditions: none.
-/
import Derived.Test.YtiidgljfdhcmgaaDoorSx8
import Derived.LoopN
import Derived.Scope
namespace Go.Sx
open Go.RowKit

def XE.exit' : XE → Exit
  | .normal => .normal
  | .exit id => .exit id
  | .ret => .ret

section
variable {E : Env} {P : Program} {S : FuncId → List V → Option Known}

/-- What a piece of code owes. -/
def CodeOK (E : Env) (P : Program) (c : Code) (tmps : List V) (st : St) (e : XE) (tmps' : List V) (st' : St) : Prop :=
  ∀ (W0 : World) (β : Beta) (a : Act) (W : World) (Q : Exit → Act → World → Prop), Rel E W0 β tmps st.heap st.old a W →
    (∀ β' a' W', Rel E W0 β' tmps' st'.heap st.old a' W' → Q e.exit' a' W') → c.wp P Q a W

def RunOK (E : Env) (P : Program) (r : Run) : Prop :=
  ∀ c tmps st K, r c tmps st K = true → FactsOK E st.facts → ∃ e tmps' st', K e tmps' st' = true ∧ FactsOK E st'.facts ∧ st'.old = st.old ∧ CodeOK E P c tmps st e tmps' st'

theorem HRel.empty {heap : List (List SV)} {W : World} : HRel E (fun _ => none) heap W :=
  ⟨fun _ _ hb => absurd hb (by simp), fun _ _ _ hb _ => absurd hb (by simp)⟩

theorem handOver_sound : ∀ (args : List V) (heap bs : List (List SV)) (K : List V → List (List SV) → Bool), handOver heap args bs K = true →
    ∃ vs hs, K vs hs = true ∧ ∀ (β : Beta) (vals : List Value) (W : World), VsRel E β args vals → HRel E β heap W →
      ∀ β0 : Beta, (∀ i, bs.length ≤ i → β0 i = none) → HRel E β0 bs W →
        ∃ β1 : Beta, (∀ i, hs.length ≤ i → β1 i = none) ∧ HRel E β1 hs W ∧ Ext β0 β1 ∧ VsRel E β1 vs vals
  | [], heap, bs, K, h => ⟨[], bs, h, fun β vals W hv _ β0 h0 hr => ⟨β0, h0, hr, Ext.refl β0, by
      have : vals = [] := by have := hv.1; simpa using this.symm
      subst this
      exact ⟨rfl, fun i s v hs _ => by simp at hs⟩⟩⟩
  | v :: r, heap, bs, K, h => by
    unfold handOver at h
    split at h
    · rename_i id off len cap
      split at h
      · rename_i cells hc
        split at h
        · rename_i hn
          obtain ⟨vs, hs, hk, hrest⟩ := handOver_sound r heap _ _ h
          refine ⟨_, hs, hk, fun β vals W hv hr β0 h0 hb0 => ?_⟩
          cases vals with
          | nil => have := hv.1; simp at this
          | cons x xs =>
            have hx := hv.2 0 _ x rfl rfl
            obtain ⟨blk, hb, rfl⟩ := hx
            obtain ⟨arr, ty, hw, hl⟩ := hr.ok id blk cells hb hc
            have hext : Ext β0 (fun i => if i = bs.length then some blk else β0 i) := fun i b hib => by
              dsimp only
              rw [if_neg (by intro e; subst e; rw [h0 _ (Nat.le_refl _)] at hib; cases hib)]
              exact hib
            obtain ⟨β1, k1, k2, k3, k4⟩ := hrest β xs W ⟨by have := hv.1; simpa using this, fun i s w hs hw => hv.2 (i + 1) s w (by simpa using hs) (by simpa using hw)⟩ hr
              (fun i => if i = bs.length then some blk else β0 i)
              (fun i hi => by simp at hi; rw [if_neg (by omega)]; exact h0 i (by omega))
              ⟨fun id' blk' hb' => by
                split at hb'
                · cases hb'; exact hr.lt id blk hb
                · exact hb0.lt id' blk' hb', fun id' blk' l' hb' hl' => by
                split at hb'
                · rename_i e
                  cases hb'
                  subst e
                  rw [List.getElem?_append_right (Nat.le_refl _)] at hl'
                  simp at hl'
                  subst hl'
                  exact ⟨arr, ty, hw, hl.noPtr hn⟩
                · rename_i e
                  have : bs[id']? = some l' := by
                    by_cases hid : id' < bs.length
                    · rwa [List.getElem?_append_left hid] at hl'
                    · rw [h0 id' (by omega)] at hb'; cases hb'
                  obtain ⟨c, t, q1, q2⟩ := hb0.ok id' blk' l' hb' this
                  exact ⟨c, t, q1, q2.mono hext⟩⟩
            refine ⟨β1, k1, k2, hext.trans k3, ⟨by have := k4.1; simp [this], fun i s w hs hw => ?_⟩⟩
            cases i with
            | zero =>
              simp at hs hw
              subst hs; subst hw
              exact ⟨blk, k3 _ _ (by simp), rfl⟩
            | succ i => exact k4.2 i s w (by simpa using hs) (by simpa using hw)
        · cases h
      · cases h
    · split at h
      · rename_i hn
        obtain ⟨vs, hs, hk, hrest⟩ := handOver_sound r heap bs _ h
        refine ⟨_, hs, hk, fun β vals W hv hr β0 h0 hb0 => ?_⟩
        cases vals with
        | nil => have := hv.1; simp at this
        | cons x xs =>
          have hx := hv.2 0 _ x rfl rfl
          obtain ⟨β1, k1, k2, k3, k4⟩ := hrest β xs W ⟨by have := hv.1; simpa using this, fun i s w hs hw => hv.2 (i + 1) s w (by simpa using hs) (by simpa using hw)⟩ hr β0 h0 hb0
          refine ⟨β1, k1, k2, k3, ⟨by have := k4.1; simp [this], fun i s w hs hw => ?_⟩⟩
          cases i with
          | zero =>
            simp at hs hw
            subst hs; subst hw
            exact hx.noPtr hn
          | succ i => exact k4.2 i s w (by simpa using hs) (by simpa using hw)
      · cases h

/-- One result. -/
def resultOf (ts : Array Value) (r : ResultVar) : Sem Value :=
  match r with
  | .tmp t => pure (ts.getD t undef)
  | .cell a t => do loadVar t (← asAddr (ts.getD a undef))

theorem resultA_sound {heap : List (List SV)} {tmps : List V} {r : ResultVar} {sv : V} {β : Beta} {W : World} {ts : Array Value} (h : resultA P heap tmps r = some sv)
    (hv : ∀ t, VRel E β (tmps.getD t undefV) (ts.getD t undef)) (hr : HRel E β heap W) :
    ∃ y, (resultOf ts r).run P W = .ok y W ∧ VRel E β sv y := by
  cases r with
  | tmp t => simp only [resultA, Option.some.injEq] at h; subst h; exact ⟨_, rfl, hv t⟩
  | cell a t =>
    simp only [resultA] at h
    obtain ⟨y, h1, h2⟩ := loadA_sound (W := W) h (hv a) hr
    refine ⟨y, ?_, h2⟩
    unfold resultOf
    dsimp only
    have hp : ∃ ad, ts.getD a undef = .pointer (some ad) := by
      have hva := hv a
      unfold loadA at h
      split at h
      · rename_i id off hx
        rw [hx] at hva
        obtain ⟨blk, _, e⟩ := hva
        exact ⟨_, e⟩
      · cases h
    obtain ⟨ad, e⟩ := hp
    rw [e] at h1 ⊢
    simpa [Instr.loadAt, Instr.sureAddr, asAddr] using h1

theorem results_eq (fn : Func) (ts : Array Value) : results fn ts = (do
    let vs ← fn.results.mapM (resultOf ts)
    pure (if h : vs.size = 1 then vs[0] else .tuple vs)) := by
  unfold results
  congr 1

theorem resultsA_sound {heap : List (List SV)} {tmps : List V} {fn : Func} {sv : V} {β : Beta} {W : World} {ts : Array Value} (h : resultsA P heap tmps fn.results.toList = some sv)
    (hv : ∀ t, VRel E β (tmps.getD t undefV) (ts.getD t undef)) (hr : HRel E β heap W) : ∃ y, (results fn ts).run P W = .ok y W ∧ VRel E β sv y := by
  rw [results_eq]
  unfold resultsA at h
  split at h
  · rename_i r hl
    have he : fn.results = #[r] := by apply Array.ext'; simpa using hl
    obtain ⟨y, h1, h2⟩ := resultA_sound h hv hr
    refine ⟨y, ?_, h2⟩
    rw [he]
    simp [h1]
  · rename_i r s hl
    have he : fn.results = #[r, s] := by apply Array.ext'; simpa using hl
    split at h
    · rename_i x y hx hy
      cases h
      obtain ⟨u, h1, h2⟩ := resultA_sound hx hv hr
      obtain ⟨w, h3, h4⟩ := resultA_sound hy hv hr
      refine ⟨.tuple #[u, w], ?_, ⟨u, w, rfl, h2, h4⟩⟩
      rw [he]
      simp [h1, h3]
    · cases h
  · cases h

theorem run_callFunc {f : FuncId} {fn : Func} {c : Code} {args : Array Value} {W : World} (hfn : P.funcs[f]? = some fn) (hne : (fn.name == "runtime.NumGoroutine") = false) (hb : fn.body = some c) :
    (callFunc f args).run P W = .ok (.enter f args) W := by
  unfold callFunc
  rw [Sem.run_bind, run_program]
  simp only [Result.andThen_ok, hfn, hne, hb, Option.isNone_some, Bool.false_eq_true, if_false]
  rfl

theorem callA_sound (hN : ∀ (f : FuncId) (fn : Func), P.funcs[f]? = some fn → (fn.name == "runtime.NumGoroutine") = false) {r : Run} (hr : RunOK E P r) : CallOK E P (callA P r) := by
  intro f args st K h hf
  unfold callA at h
  split at h
  · rename_i fn hfn
    split at h
    · rename_i c hc
      obtain ⟨vs, hs, hk, hhand⟩ := handOver_sound (E := E) args st.heap [] _ h
      rw [forceL_eq] at hk
      obtain ⟨e, t', s', h1, h2, h3, h4⟩ := hr _ _ _ _ hk hf
      -- the two ways to the end
      have fin : ∃ sv, resultsA P s'.heap t' fn.results.toList = some sv ∧ noPtr sv = true ∧ K sv s'.facts = true ∧ (e = .normal ∨ e = .ret) := by
        cases e with
        | exit id => cases h1
        | normal =>
          dsimp only at h1
          split at h1
          · rename_i sv hsv
            split at h1
            · rename_i hnp; rw [forceV_eq] at h1; exact ⟨sv, hsv, hnp, h1, .inl rfl⟩
            · cases h1
          · cases h1
        | ret =>
          dsimp only at h1
          split at h1
          · rename_i sv hsv
            split at h1
            · rename_i hnp; rw [forceV_eq] at h1; exact ⟨sv, hsv, hnp, h1, .inr rfl⟩
            · cases h1
          · cases h1
      obtain ⟨sv, hsv, hnp, hK, he⟩ := fin
      refine ⟨sv, s'.facts, hK, h2, fun β vals W hv hH => ?_⟩
      obtain ⟨β1, k1, k2, _, k4⟩ := hhand β vals W hv hH (fun _ => none) (fun _ _ => rfl) HRel.empty
      unfold CallRuns
      have hrun : (callFunc f vals.toArray).run P W = .ok (.enter f vals.toArray) W := run_callFunc hfn (hN f fn hfn) hc
      rw [hrun]
      refine calls_of_wp hfn hc (h4 W β1 _ W _ ⟨?_, ?_, rfl, k2, fun id blk hold hb => ?_, fun id id' blk hold hb _ => ?_, Grown.refl W, k1, Nat.le_refl _⟩ fun β' a' W' hR => ?_)
      · simp [k4.1]
      · intro i v hi
        have hlen := k4.1
        by_cases hlt : i < vs.length
        · rw [List.getElem?_append_left hlt] at hi
          have hlt2 : i < vals.length := by omega
          have e1 : (vals.toArray ++ Array.replicate (fn.ntmps - vals.toArray.size) undef).getD i undef = vals[i] := by
            rw [Array.getD_eq_getD_getElem?, Array.getElem?_append_left (by simpa using hlt2)]
            simp [hlt2]
          rw [e1]
          exact k4.2 i v _ hi (List.getElem?_eq_getElem hlt2)
        · rw [List.getElem?_append_right (by omega), List.getElem?_replicate] at hi
          split at hi
          · rename_i hlt3
            cases hi
            have e1 : (vals.toArray ++ Array.replicate (fn.ntmps - vals.toArray.size) undef).getD i undef = undef := by
              rw [Array.getD_eq_getD_getElem?, Array.getElem?_append_right (by simp; omega), Array.getElem?_replicate]
              split <;> rfl
            rw [e1]; rfl
          · cases hi
      · dsimp only at hold; rw [k1 id hold] at hb; cases hb
      · dsimp only at hold; rw [k1 id hold] at hb; cases hb
      · have hgd := getD_rel hR.size hR.vals
        obtain ⟨y, q1, q2⟩ := resultsA_sound hsv hgd hR.h
        have : bodyPost P fn (fun e W'' => ∃ v, e = .returned v ∧ VRel E β sv v ∧ Grown W W'') e.exit' a' W' := by
          rcases he with rfl | rfl
          · exact ⟨hR.defers, y, q1, y, rfl, q2.noPtr hnp, hR.grown⟩
          · exact ⟨hR.defers, y, q1, y, rfl, q2.noPtr hnp, hR.grown⟩
        exact this
    · cases h
  · cases h

/-- A loop: so many rounds. -/
def LoopOK (E : Env) (P : Program) (b : Code) (tmps : List V) (st : St) (e : XE) (tmps' : List V) (st' : St) : Prop :=
  ∃ r, ∀ (W0 : World) (β : Beta) (a : Act) (W : World) (Q : Exit → Act → World → Prop), Rel E W0 β tmps st.heap st.old a W →
    (∀ β' a' W', Rel E W0 β' tmps' st'.heap st.old a' W' → Q e.exit' a' W') → Code.rounds P b Q r a W

theorem code_sound (hm : P.follows .mixedOrders = true) (hN : ∀ (f : FuncId) (fn : Func), P.funcs[f]? = some fn → (fn.name == "runtime.NumGoroutine") = false) (hS : SumOK E P S) :
    ∀ n, RunOK E P (codeA P S n) ∧ ∀ b tmps st K, codeA P S n (.loop b) tmps st K = true → FactsOK E st.facts → ∃ e tmps' st', K e tmps' st' = true ∧ FactsOK E st'.facts ∧ st'.old = st.old ∧ LoopOK E P b tmps st e tmps' st'
  | 0 => ⟨fun c tmps st K h => absurd h (by simp [codeA]), fun b tmps st K h => absurd h (by simp [codeA])⟩
  | n + 1 => by
    obtain ⟨ih, ihL⟩ := code_sound hm hN hS n
    have hcall := callA_sound hN ih
    have loop : ∀ b tmps st K, codeA P S (n + 1) (.loop b) tmps st K = true → FactsOK E st.facts → ∃ e tmps' st', K e tmps' st' = true ∧ FactsOK E st'.facts ∧ st'.old = st.old ∧ LoopOK E P b tmps st e tmps' st' := by
      intro b tmps st K h hf
      have h' : codeA P S n b tmps st (fun e t s => match e with | .normal => codeA P S n (.loop b) t s K | e => K e t s) = true := h
      obtain ⟨e, t, s, h1, h2, h3, h4⟩ := ih _ _ _ _ h' hf
      cases e with
      | normal =>
        obtain ⟨e', t', s', g1, g2, g3, r, g4⟩ := ihL b t s K h1 h2
        refine ⟨e', t', s', g1, g2, g3.trans h3, r + 1, fun W0 β a W Q hR hQ => ?_⟩
        rw [rounds_succ]
        refine h4 W0 β a W _ hR fun β' a' W' hR' => ?_
        rw [h3] at g4
        exact g4 W0 β' a' W' Q hR' hQ
      | exit id => exact ⟨_, t, s, h1, h2, h3, 1, fun W0 β a W Q hR hQ => by rw [rounds_succ]; exact h4 W0 β a W _ hR fun β' a' W' hR' => hQ β' a' W' hR'⟩
      | ret => exact ⟨_, t, s, h1, h2, h3, 1, fun W0 β a W Q hR hQ => by rw [rounds_succ]; exact h4 W0 β a W _ hR fun β' a' W' hR' => hQ β' a' W' hR'⟩
    refine ⟨fun c tmps st K h hf => ?_, loop⟩
    cases c with
    | skip => exact ⟨.normal, tmps, st, h, hf, rfl, fun W0 β a W Q hR hQ => wp_skip (hQ β a W hR)⟩
    | label l => exact ⟨.normal, tmps, st, h, hf, rfl, fun W0 β a W Q hR hQ => wp_label (hQ β a W hR)⟩
    | exit id => exact ⟨.exit id, tmps, st, h, hf, rfl, fun W0 β a W Q hR hQ => wp_exit (hQ β a W hR)⟩
    | ret => exact ⟨.ret, tmps, st, h, hf, rfl, fun W0 β a W Q hR hQ => wp_ret (hQ β a W hR)⟩
    | seq x y =>
      have h' : codeA P S n x tmps st (fun e t s => match e with | .normal => codeA P S n y t s K | e => K e t s) = true := h
      obtain ⟨e, t, s, h1, h2, h3, h4⟩ := ih _ _ _ _ h' hf
      cases e with
      | normal =>
        obtain ⟨e', t', s', g1, g2, g3, g4⟩ := ih _ _ _ _ h1 h2
        refine ⟨e', t', s', g1, g2, g3.trans h3, fun W0 β a W Q hR hQ => wp_seq (h4 W0 β a W _ hR fun β' a' W' hR' => ?_)⟩
        rw [← h3] at hR' hQ
        exact g4 W0 β' a' W' Q hR' hQ
      | exit id => exact ⟨_, t, s, h1, h2, h3, fun W0 β a W Q hR hQ => wp_seq (h4 W0 β a W _ hR fun β' a' W' hR' => hQ β' a' W' hR')⟩
      | ret => exact ⟨_, t, s, h1, h2, h3, fun W0 β a W Q hR hQ => wp_seq (h4 W0 β a W _ hR fun β' a' W' hR' => hQ β' a' W' hR')⟩
    | cond x p q =>
      have h' : (match evA tmps x with | .sc (.bool true) => codeA P S n p tmps st K | .sc (.bool false) => codeA P S n q tmps st K | _ => false) = true := h
      split at h'
      · rename_i hx
        obtain ⟨e, t, s, h1, h2, h3, h4⟩ := ih _ _ _ _ h' hf
        refine ⟨e, t, s, h1, h2, h3, fun W0 β a W Q hR hQ => ?_⟩
        have hv := evA_rel (E := E) (β := β) (getD_rel hR.size hR.vals) x
        rw [hx] at hv
        exact wp_cond_true hv (h4 W0 β a W Q hR hQ)
      · rename_i hx
        obtain ⟨e, t, s, h1, h2, h3, h4⟩ := ih _ _ _ _ h' hf
        refine ⟨e, t, s, h1, h2, h3, fun W0 β a W Q hR hQ => ?_⟩
        have hv := evA_rel (E := E) (β := β) (getD_rel hR.size hR.vals) x
        rw [hx] at hv
        exact wp_cond_false hv (h4 W0 β a W Q hR hQ)
      · cases h'
    | block id b =>
      have h' : codeA P S n b tmps st (fun e t s => match e with | .exit i => if Nat.beq i id then K .normal t s else K (.exit i) t s | e => K e t s) = true := h
      obtain ⟨e, t, s, h1, h2, h3, h4⟩ := ih _ _ _ _ h' hf
      cases e with
      | normal => exact ⟨_, t, s, h1, h2, h3, fun W0 β a W Q hR hQ => wp_block (h4 W0 β a W _ hR fun β' a' W' hR' => hQ β' a' W' hR')⟩
      | ret => exact ⟨_, t, s, h1, h2, h3, fun W0 β a W Q hR hQ => wp_block (h4 W0 β a W _ hR fun β' a' W' hR' => hQ β' a' W' hR')⟩
      | exit i =>
        dsimp only at h1
        split at h1
        · rename_i hi
          have hi' := Nat.eq_of_beq_eq_true hi
          refine ⟨_, t, s, h1, h2, h3, fun W0 β a W Q hR hQ => wp_block (h4 W0 β a W _ hR fun β' a' W' hR' => ?_)⟩
          show (if i = id then Q .normal a' W' else Q (.exit i) a' W')
          rw [if_pos hi']; exact hQ β' a' W' hR'
        · rename_i hi
          have hi' : i ≠ id := fun e => hi (by subst e; exact Nat.beq_refl i)
          refine ⟨_, t, s, h1, h2, h3, fun W0 β a W Q hR hQ => wp_block (h4 W0 β a W _ hR fun β' a' W' hR' => ?_)⟩
          show (if i = id then Q .normal a' W' else Q (.exit i) a' W')
          rw [if_neg hi']; exact hQ β' a' W' hR'
    | loop b =>
      obtain ⟨e, t, s, h1, h2, h3, r, h4⟩ := loop b tmps st K h hf
      exact ⟨e, t, s, h1, h2, h3, fun W0 β a W Q hR hQ => wp_loop_rounds r (h4 W0 β a W Q hR hQ)⟩
    | scope b =>
      obtain ⟨e, t, s, h1, h2, h3, h4⟩ := ih b tmps st K h hf
      refine ⟨e, t, s, h1, h2, h3, fun W0 β a W Q hR hQ => wp_scope_straight (h4 W0 β a W _ hR fun β' a' W' hR' => ?_)⟩
      have := hQ β' a' W' hR'
      cases e <;> exact this
    | region id ops draw =>
      cases draw with
      | false =>
        have h' : opsA P S (callA P (codeA P S n)) ops ops.toList tmps st (K .normal) = true := h
        obtain ⟨tm, hp, vl, st', g1, g2, g3, g4, g5, g6, g7⟩ := opsA_seq hS hcall _ _ _ _ h' hf
        rw [Array.length_toList] at g1 g4
        refine ⟨.normal, _, st', g1, g2, g3, fun W0 β a W Q hR hQ => region_text g7 (by rw [g5, g6]; exact hR) fun β' a' W' hR' => hQ β' a' W' (by rw [g4]; exact hR')⟩
      | true =>
        have h' : (if drawOK ops then opsA P S (callA P (codeA P S n)) ops ops.toList tmps st (K .normal) else false) = true := h
        split at h'
        · rename_i hd
          obtain ⟨tm, hp, vl, st', g1, g2, g3, g4, g5, g6, g7⟩ := opsA_seq hS hcall _ _ _ _ h' hf
          rw [Array.length_toList] at g1 g4
          refine ⟨.normal, _, st', g1, g2, g3, fun W0 β a W Q hR hQ => region_draw hm hd g7 (by rw [g5, g6]; exact hR) fun β' a' W' hR' => hQ β' a' W' (by rw [g4]; exact hR')⟩
        · cases h'
    | rangeFunc f params assign body => cases h
    | goto l => cases h
    | refuse why => cases h

/-- ████ A run on symbols that answers true: what the call returns. -/
theorem runA_sound (hm : P.follows .mixedOrders = true) (hN : ∀ (f : FuncId) (fn : Func), P.funcs[f]? = some fn → (fn.name == "runtime.NumGoroutine") = false) (hS : SumOK E P S)
    {n : Nat} {f : FuncId} {args : List V} {fs : Facts} {K : V → Facts → Bool} (h : runA P S n f args fs K = true) (hf : FactsOK E fs) :
    ∃ sv fs', K sv fs' = true ∧ FactsOK E fs' ∧ ∀ (vals : List Value) (W : World), VsRel E (fun _ => none) args vals →
      Calls P f vals.toArray W fun e W' => ∃ v, e = .returned v ∧ VRel E (fun _ => none) sv v ∧ Grown W W' := by
  obtain ⟨sv, fs', h1, h2, h3⟩ := callA_sound hN (code_sound hm hN hS n).1 f args { facts := fs, heap := [], old := 0 } K h hf
  refine ⟨sv, fs', h1, h2, fun vals W hv => ?_⟩
  have h4 := h3 (fun _ => none) vals W hv HRel.empty
  unfold CallRuns at h4
  have hfn : ∃ fn, P.funcs[f]? = some fn ∧ fn.body.isSome = true := by
    unfold runA callA at h
    split at h
    · rename_i fn hfn
      split at h
      · rename_i c hc; exact ⟨fn, hfn, by simp [hc]⟩
      · cases h
    · cases h
  obtain ⟨fn, hfn, hb⟩ := hfn
  have hrun : (callFunc f vals.toArray).run P W = .ok (.enter f vals.toArray) W := by
    cases hbb : fn.body with
    | none => rw [hbb] at hb; cases hb
    | some c => exact run_callFunc hfn (hN f fn hfn) hbb
  rw [hrun] at h4
  exact h4

end
end Go.Sx
