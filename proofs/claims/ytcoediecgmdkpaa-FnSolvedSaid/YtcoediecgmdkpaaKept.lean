/-
  What was there stays as it was: a word for both kinds of contract; the laws' turning of arrays into vectors and matrices, by a run on symbols. Conditions: none.
-/
import Derived.Test.YtcoediecgmdkpaaSx15
import Derived.Test.YtcoediecgmdkpaaNum
import Derived.Test.YtcoediecgmdkpaaEnd
namespace Go.Proofs.Ytcoediecgmdkpaa
open Go.RowKit Go.Sx

/-- What was there is as it was. -/
structure Kept (w w' : World) : Prop where
  os : w'.os = w.os
  output : w'.output = w.output
  size : w.heap.size ≤ w'.heap.size
  block : ∀ k, k < w.heap.size → w'.heap[k]? = w.heap[k]?

theorem Kept.refl (w : World) : Kept w w := ⟨rfl, rfl, Nat.le_refl _, fun _ _ => rfl⟩
theorem Kept.trans {a b c : World} (h : Kept a b) (k : Kept b c) : Kept a c :=
  ⟨k.os.trans h.os, k.output.trans h.output, Nat.le_trans h.size k.size, fun i hi => (k.block i (Nat.lt_of_lt_of_le hi h.size)).trans (h.block i hi)⟩
theorem Kept.alloc {a w : World} (h : Kept a w) (o : Obj) : Kept a (w.alloc o) :=
  h.trans ⟨rfl, rfl, by simp, fun k hk => Below.heap_alloc _ _ _ hk⟩
theorem Kept.setCell {a w : World} (h : Kept a w) {p : Addr} (hp : a.heap.size ≤ p.block) (u : Value) : Kept a (w.setCell p u) :=
  ⟨h.os, h.output, Nat.le_trans h.size (by simp [World.setCell]), fun k hk => (Below.heap_setCell _ _ _ _ (by omega)).trans (h.block k hk)⟩
theorem Kept.drew {a w : World} (h : Kept a w) : Kept a w.drew := ⟨h.os, h.output, h.size, h.block⟩
theorem Kept.drewN {a w : World} (h : Kept a w) (n : Nat) : Kept a (w.drewN n) := ⟨h.os, h.output, h.size, h.block⟩
theorem Kept.cell {w w' : World} (h : Kept w w') {p : Addr} (hp : p.block < w.heap.size) : w'.cell? p = w.cell? p := World.cell?_of_block (w := w) (h.block p.block hp)
theorem Kept.frozen {w w' : World} (h : Kept w w') {p : Addr} (hp : p.block < w.heap.size) : w'.frozen? p = w.frozen? p := World.frozen?_of_block (w := w) (h.block p.block hp)
theorem Kept.frame {W W' : World} (h : Kept W W') (may : MemPlace → Prop) : W.keptBut W' may := by
  refine ⟨h.os, h.output, fun i hi => ?_⟩
  rw [h.block i hi]
  split <;> simp_all
theorem kept_below {w w' : World} (h : Below w.heap.size w w') : Kept w w' := ⟨h.os, h.output, h.size, h.block⟩
theorem kept_grown {w w' : World} (h : Gr w w') : Kept w w' := ⟨h.os, h.output, h.size, h.block⟩
theorem gr_kept {w w' : World} (h : Kept w w') : Gr w w' := ⟨h.os, h.output, h.size, h.block⟩

section
variable {H : Type} {enc : TypeId × Value → H}
open Go.WideShapes Go.ChangeShapes
/-- The end of a call behind which what was there is as it was. -/
theorem post_kept {P : Program} {f : Func} {s : ChangeSpec} {apart fresh handsOn again : Bool} {W W' : World} {args : Array Value} {v : Value} {ds gs : List (DataW H)} {before pa pv : List MemPlace}
    (hW : DataW.Whole enc P f.params.toList s.vars apart W args.toList ds gs before)
    (hres : ∀ (b : Nat) (sp : Nat → Bool) (hd : Bool), DataW.TrodAll enc P W' b sp hd f.resultTypes.toList (v.resultList f.resultTypes.size) (s.fn H (ds ++ gs)).results [])
    (hargs : ∀ sp : Nat → Bool, (∀ p ∈ before, sp p.block = true) → DataW.TrodAll enc P W' 0 sp true f.params.toList args.toList (s.fn H (ds ++ gs)).args pa)
    (hvars : ∀ sp : Nat → Bool, (∀ p ∈ before, sp p.block = true) → DataW.TrodVars enc P W' sp s.vars (s.fn H (ds ++ gs)).vars pv)
    (hps : before = pa ++ pv) (hb : Kept W W')
    (hok : ∀ (j : Nat) (t : TypeId) (r : Value), f.resultTypes[j]? = some t → (v.resultList f.resultTypes.size)[j]? = some r → Value.okWide P W' .any 0 t r) :
    s.post enc P f apart fresh handsOn again W args v W' := by
  subst hps
  have hin : ∀ p ∈ pa ++ pv, p.block < W.heap.size := fun p hp => hW.lt p hp
  have hsp : ∀ p ∈ pa ++ pv, (fun b => decide (b < W.heap.size)) p.block = true := fun p hp => decide_eq_true (hin p hp)
  obtain ⟨_, _, _, _, _, hz, hn⟩ := id hW
  refine ⟨ds, gs, pa ++ pv, [], pa, pv, hW, hres _ _ _, hargs _ hsp, hvars _ hsp, World.keptBut_mono (fun p hp => ⟨hp, .inr (List.mem_append.1 hp)⟩) (hb.frame (· ∈ pa ++ pv)), fun _ => ?_⟩
  refine ⟨hok, _, _, ([] ++ pa) ++ pv, ⟨[] ++ pa, pv, trodAll_append (hargs _ (fun _ _ => rfl)) (hres _ _ _), hvars _ (fun _ _ => rfl), rfl, ?_, ?_⟩, ?_⟩
  · intro b off hp
    have hp' : MemPlace.cell b off ∈ pa ++ pv := by simpa using hp
    rw [hb.frozen (hin _ hp')]
    exact hz b off hp'
  · intro ha
    simpa using hn ha
  · intro p hp _
    simpa using hp
end

theorem mixed : Try.prog.follows .mixedOrders = true := by kernel_rfl
theorem names (f : FuncId) (fn : Func) (h : Try.prog.funcs[f]? = some fn) : (fn.name == "runtime.NumGoroutine") = false :=
  names_ok (P := Try.prog) (by kernel_rfl) f fn h

/-- Are the cells the arguments, from the i-th on? -/
def argsL : Nat → List SV → Bool
  | _, [] => true
  | i, s :: r => (match s with
    | .flt .f32 (.arg j) => Nat.beq i j
    | _ => false) && argsL (i + 1) r
def isArgs (n : Nat) (v : V) (_ : Facts) : Bool :=
  match v with
  | .agg l => Nat.beq l.length n && argsL 0 l
  | _ => false

theorem argsL_get : ∀ {l : List SV} {i : Nat}, argsL i l = true → ∀ k (h : k < l.length), l[k] = .flt .f32 (.arg (i + k))
  | [], _, _, k, h => absurd h (by simp)
  | s :: r, i, h, k, hk => by
    simp only [argsL, Bool.and_eq_true] at h
    obtain ⟨h1, h2⟩ := h
    cases k with
    | zero =>
      split at h1
      · rename_i j; have := Nat.eq_of_beq_eq_true h1; subst this; rfl
      · cases h1
    | succ k =>
      have := argsL_get h2 k (by simpa using hk)
      simp only [List.getElem_cons_succ, this]
      congr 2; omega

/-- What floats stand for. -/
def envA (a : Nat → Nat) : Env := { arg := fun i => canon .f32 (a i), f1 := fun _ x => x, f2 := fun _ x _ => x }

theorem txt_canon {a b : Nat} (h : canon .f32 a = canon .f32 b) : txt a = txt b := by
  unfold canon at h
  unfold txt nanB
  cases ha : (FloatKind.f32.format.read a).isNaN <;> cases hb : (FloatKind.f32.format.read b).isNaN <;> simp_all

theorem none_ok (E : Env) (P : Program) : SumOK E P (fun _ _ => none) := fun _ _ _ h => by cases h

def flts (b : Nat → Nat) : Nat → List Value
  | 0 => []
  | n + 1 => flts b n ++ [.float .f32 (b n)]
theorem flts_len (b : Nat → Nat) : ∀ n, (flts b n).length = n
  | 0 => rfl
  | n + 1 => by simp [flts, flts_len b n]
theorem flts_get (b : Nat → Nat) : ∀ n k, k < n → (flts b n)[k]? = some (.float .f32 (b k))
  | n + 1, k, h => by
    by_cases hk : k < n
    · rw [flts, List.getElem?_append_left (by rw [flts_len]; exact hk)]; exact flts_get b n k hk
    · have : k = n := by omega
      subst this
      rw [flts, List.getElem?_append_right (by rw [flts_len]; omega), flts_len]; simp

theorem rel_flts (a : Nat → Nat) (β : Beta) (n : Nat) (l : List SV) (hl : l.length = n) (h : argsL 0 l = true) : VRel (envA a) β (.agg l) (.agg (flts a n).toArray) := by
  refine ⟨_, rfl, by simp [flts_len, hl], fun i s v hs hv => ?_⟩
  have hi : i < l.length := (List.getElem?_eq_some_iff.1 hs).1
  have h1 := argsL_get h i hi
  rw [List.getElem?_eq_getElem hi, h1] at hs
  simp only [flts_get a n i (by omega)] at hv
  cases hs; cases hv
  exact ⟨a i, rfl, by simp [den, envA]⟩

theorem rel_back (a : Nat → Nat) (β : Beta) (n : Nat) (v : V) (x : Value) (fs : Facts) (h : isArgs n v fs = true) (hv : VRel (envA a) β v x) : ∃ b : Nat → Nat, x = .agg (flts b n).toArray ∧ ∀ i, i < n → txt (b i) = txt (a i) := by
  unfold isArgs at h
  split at h
  · rename_i l
    simp only [Bool.and_eq_true] at h
    obtain ⟨h1, h2⟩ := h
    have h1 := Nat.eq_of_beq_eq_true h1
    obtain ⟨arr, rfl, h3, h4⟩ := hv
    have hget : ∀ i, i < n → ∃ c, arr.toList[i]? = some (.float .f32 c) ∧ txt c = txt (a i) := fun i hi => by
      have hi' : i < arr.toList.length := by omega
      have := h4 i _ _ (List.getElem?_eq_getElem (show i < l.length by omega)) (List.getElem?_eq_getElem hi')
      rw [argsL_get h2 i (by omega)] at this
      obtain ⟨c, e, hc⟩ := this
      refine ⟨c, by rw [List.getElem?_eq_getElem hi', e], txt_canon ?_⟩
      rw [hc]; simp [den, envA]
    refine ⟨fun i => if h : i < n then (hget i h).choose else 0, ?_, fun i hi => ?_⟩
    · congr 1
      apply Array.ext'
      apply List.ext_getElem?
      intro i
      by_cases hi : i < n
      · rw [(hget i hi).choose_spec.1]
        show _ = (flts _ n)[i]?
        rw [flts_get _ n i hi, dif_pos hi]
      · rw [List.getElem?_eq_none (by omega), List.getElem?_eq_none (by simp [flts_len]; omega)]
    · dsimp only; rw [dif_pos hi]; exact (hget i hi).choose_spec.2
  · cases h

theorem calls_args {n k : Nat} {f : FuncId} {l : List SV} (hl : l.length = n) (hla : argsL 0 l = true) (h : runA Try.prog (fun _ _ => none) k f [.agg l] [] (isArgs n) = true) (a : Nat → Nat) (w : World) :
    Calls Try.prog f #[.agg (flts a n).toArray] w fun e w' => (∃ b : Nat → Nat, e = .returned (.agg (flts b n).toArray) ∧ ∀ i, i < n → txt (b i) = txt (a i)) ∧ Kept w w' := by
  obtain ⟨sv, fs', h1, _, h3⟩ := runA_sound (E := envA a) mixed names (none_ok _ _) h (fun p hp => by cases hp)
  refine (h3 [.agg (flts a n).toArray] w ⟨rfl, fun i s v hs hv => ?_⟩ trivial).mono fun e w' ⟨v, he, hr, hg⟩ => ?_
  · match i, hs with
    | 0, hs => simp at hs hv; subst hs; subst hv; exact rel_flts a _ n l hl hla
  · obtain ⟨b, rfl, hb⟩ := rel_back a _ n sv v fs' h1 hr
    exact ⟨⟨b, he, hb⟩, kept_grown hg⟩

theorem arr_flts {arr : Array Value} {n : Nat} (hs : arr.size = n) (h : ∀ c ∈ arr.toList, fltCell c) : ∃ a : Nat → Nat, arr = (flts a n).toArray ∧ ∀ i, i < n → a i < 4294967296 := by
  have hget : ∀ i, i < n → ∃ c, arr.toList[i]? = some (.float .f32 c) ∧ c < 4294967296 := fun i hi => by
    have hi' : i < arr.toList.length := by simp [hs, hi]
    obtain ⟨c, e, hc⟩ := h _ (List.getElem_mem hi')
    exact ⟨c, by rw [List.getElem?_eq_getElem hi', e], hc⟩
  refine ⟨fun i => if h : i < n then (hget i h).choose else 0, ?_, fun i hi => ?_⟩
  · apply Array.ext'
    apply List.ext_getElem?
    intro i
    by_cases hi : i < n
    · rw [(hget i hi).choose_spec.1]
      show _ = (flts _ n)[i]?
      rw [flts_get _ n i hi, dif_pos hi]
    · rw [List.getElem?_eq_none (by simp [hs]; omega), List.getElem?_eq_none (by simp [flts_len]; omega)]
  · dsimp only; rw [dif_pos hi]; exact (hget i hi).choose_spec.2

theorem arg_flts {P : Program} {W : World} {r : Reach} {base : Nat} {t e : TypeId} {n : Nat} {v : Value} {k : Nat} (hu : P.underlying t = some (.array n e)) (hc : P.cellsOf t = k) (hval : Value.okWide P W r base t v) (h : (∀ c ∈ v.cells.toList, fltCell c) ∧ v.cells.size = P.cellsOf t) :
    ∃ a : Nat → Nat, v = .agg (flts a k).toArray ∧ ∀ i, i < k → a i < 4294967296 := by
  unfold Value.okWide at hval
  rw [hu] at hval
  obtain ⟨cs, rfl, _⟩ := hval
  obtain ⟨a, rfl, h2⟩ := arr_flts (h.2.trans hc) h.1
  exact ⟨a, rfl, h2⟩

/-- A listed variable of an interface type holds nil or a value. -/
theorem laid_iface {P : Program} {n : String} {d : DataW Unit} {r : List (String × DataW Unit)} {W : World} {g : Nat} {t : TypeId} {ms : Array (String × TypeId)}
    (h : laidMet P ((n, d) :: r) W) (hg : P.globalNamed n = some g) (ht : (P.globals[g]?).map (·.type) = some t) (hi : P.underlying t = some (.interface ms)) :
    ∃ ev, W.cell? ⟨g, 0, none⟩ = some ev ∧ (ev = .nilIface ∨ ∃ te pe, ev = .iface te pe) := by
  obtain ⟨ps, ⟨g', t', cs, fuel, p, q, hg', ht', hv, hd, _, _⟩, _⟩ := h
  obtain rfl := Option.some.inj (hg.symm.trans hg')
  obtain rfl := Option.some.inj (ht.symm.trans ht')
  have hc := World.var?_cell hg hv 0
  obtain ⟨l⟩ := cs
  rcases l with _ | ⟨c, _ | ⟨c2, l⟩⟩
  · exfalso
    cases fuel <;> simp [DataW.trod, hi] at hd
  · refine ⟨c, by simpa using hc, ?_⟩
    cases fuel with
    | zero => simp [DataW.trod] at hd
    | succ fuel =>
      cases c
      case nilIface => exact .inl rfl
      case iface => exact .inr ⟨_, _, rfl⟩
      all_goals (exfalso; simp [DataW.trod, hi] at hd)
  · exfalso
    cases fuel <;> simp [DataW.trod, hi] at hd
end Go.Proofs.Ytcoediecgmdkpaa
