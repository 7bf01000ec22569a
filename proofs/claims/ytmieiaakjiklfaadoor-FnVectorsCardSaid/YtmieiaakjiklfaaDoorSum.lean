/-
  The table of functions known beforehand: what each gives. Conditions: what the draws give; what the library's variables hold.
-/
import Derived.Test.YtmieiaakjiklfaaDoorWild
import Derived.Test.YtmieiaakjiklfaaDoorBack
namespace Go.Proofs.YtmieiaakjiklfaaDoor
open Go.RowKit Go.Sx
set_option maxRecDepth 100000

/-- What a text of numbers is. -/
def etxt (n : Nat) (l : List CF) : Value :=
  match n with
  | 1 => .string ⟨(hex8 (txtC (l.getD 0 none))).toArray⟩
  | 3 => .string ⟨(rowT (fun i => txtC (l.getD i none)) 3).toArray⟩
  | _ => .string ⟨(matT (fun i => txtC (l.getD i none)) 3).toArray⟩

section
variable {E : Env} {β : Beta}

theorem vs1 {a : V} {vals : List Value} (h : VsRel E β [a] vals) : ∃ v, vals = [v] ∧ VRel E β a v := by
  match vals, h with
  | [v], h => exact ⟨v, rfl, h.2 0 a v rfl rfl⟩
  | [], h => have := h.1; simp at this
  | _ :: _ :: _, h => have := h.1; simp at this
theorem vs2 {a b : V} {vals : List Value} (h : VsRel E β [a, b] vals) : ∃ v u, vals = [v, u] ∧ VRel E β a v ∧ VRel E β b u := by
  match vals, h with
  | [v, u], h => exact ⟨v, u, rfl, h.2 0 a v rfl rfl, h.2 1 b u rfl rfl⟩
  | [], h => have := h.1; simp at this
  | [_], h => have := h.1; simp at this
  | _ :: _ :: _ :: _, h => have := h.1; simp at this

theorem txt_lt_of {b : Nat} {c : CF} (h : canon .f32 b = c) (hB : ∀ x, c = some x → x < 4294967296) : txt b < 4294967296 := by
  rw [txt_eq, h]
  cases c with
  | none => decide
  | some x => exact hB x rfl

theorem terms_rel (hB : ∀ i c, E.arg i = some c → c < 4294967296) : ∀ {l : List SV} {ts : List T} {vs : List Value}, termsOf l = some ts → LRel E β l vs →
    ∃ bs : List Nat, vs = bs.map (Value.float .f32 ·) ∧ bs.map (canon .f32) = ts.map (den E) ∧ ∀ b ∈ bs, txt b < 4294967296
  | [], ts, vs, h, hr => by
    cases h
    have : vs = [] := List.length_eq_zero_iff.1 hr.1.symm
    subst this
    exact ⟨[], rfl, rfl, fun b hb => by cases hb⟩
  | s :: l, ts, vs, h, hr => by
    match vs, hr with
    | [], hr => have := hr.1; simp at this
    | v :: vs, hr =>
      unfold termsOf at h
      split at h
      · rename_i heq; cases heq
      · rename_i i r heq
        cases heq
        cases ht : termsOf l with
        | none => rw [ht] at h; cases h
        | some ts' =>
          rw [ht] at h
          cases h
          obtain ⟨bs, rfl, h2, h3⟩ := terms_rel hB ht ⟨by have := hr.1; simpa using this, fun i s w h1 h2 => hr.2 (i + 1) s w (by simpa using h1) (by simpa using h2)⟩
          obtain ⟨b, rfl, hb⟩ := hr.2 0 _ v rfl rfl
          exact ⟨b :: bs, rfl, by simp [hb, h2], fun x hx => by
            rcases List.mem_cons.1 hx with rfl | hx
            · exact txt_lt_of hb (hB i)
            · exact h3 x hx⟩
      · cases h

theorem ofTerms_rel {bs : List Nat} : ∀ {ts : List T}, bs.map (canon .f32) = ts.map (den E) → LRel E β (ofTerms ts) (bs.map (Value.float .f32 ·)) := by
  induction bs with
  | nil => intro ts h; cases ts with
    | nil => exact LRel.nil
    | cons t r => cases h
  | cons b bs ih => intro ts h; cases ts with
    | nil => cases h
    | cons t r =>
      simp only [List.map_cons, List.cons.injEq] at h
      exact LRel.cons ⟨b, rfl, h.1⟩ (ih h.2)

theorem argsFrom_rel (c : Nat → Nat) : ∀ (n i : Nat), (∀ j, j < n → canon .f32 (c j) = E.arg (i + j)) → LRel E β (argsFrom i n) ((List.range n).map fun j => Value.float .f32 (c j))
  | 0, _, _ => LRel.nil
  | n + 1, i, h => by
    rw [List.range_succ_eq_map]
    simp only [List.map_cons, List.map_map]
    exact LRel.cons ⟨c 0, rfl, h 0 (by omega)⟩ (argsFrom_rel (fun j => c (j + 1)) n (i + 1) fun j hj => by rw [h (j + 1) (by omega)]; congr 1; omega)

theorem getD_canon {bs : List Nat} {ts : List T} (h : bs.map (canon .f32) = ts.map (den E)) {i : Nat} (hi : i < bs.length) : txt (txtC ((ts.map (den E)).getD i none)) = txt (bs.getD i 0) := by
  rw [← h]
  have e : (bs.map (canon .f32)).getD i none = canon .f32 (bs.getD i 0) := by simp [List.getD, List.getElem?_eq_getElem hi]
  rw [e, ← txt_eq, txt_txt]

theorem bs_get {bs : List Nat} (h : ∀ b ∈ bs, txt b < 4294967296) {i : Nat} (hi : i < bs.length) : txt (bs.getD i 0) < 4294967296 := by
  rw [List.getD, List.getElem?_eq_getElem hi]
  exact h _ (List.getElem_mem hi)
end

theorem runs_of {f : FuncId} {fn : Func} (hfn : Tryd.prog.funcs[f]? = some fn) (hb : fn.body.isSome = true) {args : Array Value} {W : World} {R : Value → World → Prop}
    (h : Calls Tryd.prog f args W fun e w' => ∃ v, e = .returned v ∧ R v w') : CallRuns Tryd.prog f args W R := by
  obtain ⟨c, hc⟩ := Option.isSome_iff_exists.1 hb
  exact callRuns_of_calls names hfn hc h

section
variable {E : Env} {β : Beta} (hB : ∀ i c, E.arg i = some c → c < 4294967296) (hT : E.txt = etxt)
include hB hT

theorem text9_ok {args : List V} {kn : Known} (h : textK 9 args = some kn) {vals : List Value} {W : World} (hv : VsRel E β args vals) (hL : LaidM W) :
    CallRuns Tryd.prog 20 vals.toArray W fun v W' => Gr W W' ∧ KnownRel E β kn v := by
  unfold textK at h
  split at h
  · rename_i l
    split at h
    · rename_i ts hts
      split at h
      · rename_i hn
        cases h
        obtain ⟨v, rfl, arr, rfl, hl⟩ := vs1 hv
        obtain ⟨bs, hbs, h2, h3⟩ := terms_rel hB hts hl
        have hlen : bs.length = 9 := by
          have := congrArg List.length h2
          simp only [List.length_map] at this
          rw [this]; exact Nat.eq_of_beq_eq_true hn
        have harr : Value.agg arr = .agg (nineV fun i => bs.getD i 0) := by
          match bs, hlen with
          | [b0, b1, b2, b3, b4, b5, b6, b7, b8], _ => exact congrArg Value.agg (Array.ext' hbs)
        show CallRuns _ _ #[Value.agg arr] _ _
        rw [harr]
        refine runs_of Tryd.func20 (by kernel_rfl) ((impl_mat (fun i => bs.getD i 0) (fun i hi => bs_get h3 (by omega)) W hL.laid.1).mono fun e w' ⟨he, hb⟩ => ⟨_, he, gr_kept (kept_below hb), ?_⟩)
        show _ = E.txt 9 _
        rw [hT]
        show _ = Value.string ⟨(matT _ 3).toArray⟩
        rw [matT_congr (b := fun i => bs.getD i 0) (a := fun i => txtC ((ts.map (den E)).getD i none)) fun i hi => (getD_canon h2 (by omega)).symm]
      · cases h
    · cases h
  · cases h

theorem text3_ok {args : List V} {kn : Known} (h : textK 3 args = some kn) {vals : List Value} {W : World} (hv : VsRel E β args vals) (hL : LaidM W) :
    CallRuns Tryd.prog 36 vals.toArray W fun v W' => Gr W W' ∧ KnownRel E β kn v := by
  unfold textK at h
  split at h
  · rename_i l
    split at h
    · rename_i ts hts
      split at h
      · rename_i hn
        cases h
        obtain ⟨v, rfl, arr, rfl, hl⟩ := vs1 hv
        obtain ⟨bs, hbs, h2, h3⟩ := terms_rel hB hts hl
        have hlen : bs.length = 3 := by
          have := congrArg List.length h2
          simp only [List.length_map] at this
          rw [this]; exact Nat.eq_of_beq_eq_true hn
        have harr : Value.agg arr = .agg #[.float .f32 (bs.getD 0 0), .float .f32 (bs.getD 1 0), .float .f32 (bs.getD 2 0)] := by
          match bs, hlen with
          | [b0, b1, b2], _ => exact congrArg Value.agg (Array.ext' hbs)
        show CallRuns _ _ #[Value.agg arr] _ _
        rw [harr]
        refine runs_of Tryd.func36 (by kernel_rfl) ((impl_vec (fun i => bs.getD i 0) (fun i hi => bs_get h3 (by omega)) W hL.laid.1).mono fun e w' ⟨he, hb⟩ => ⟨_, he, gr_kept (kept_below hb), ?_⟩)
        show _ = E.txt 3 _
        rw [hT]
        show _ = Value.string ⟨(rowT _ 3).toArray⟩
        rw [rowT_congr (n := 3) (b := fun i => bs.getD i 0) (a := fun i => txtC ((ts.map (den E)).getD i none)) (fun i hi => (getD_canon h2 (by omega)).symm) 3 (Nat.le_refl _)]
      · cases h
    · cases h
  · cases h

theorem text1_ok {args : List V} {kn : Known} (h : textOneK args = some kn) {vals : List Value} {W : World} (hv : VsRel E β args vals) (hL : LaidM W) :
    CallRuns Tryd.prog 23 vals.toArray W fun v W' => Gr W W' ∧ KnownRel E β kn v := by
  unfold textOneK at h
  split at h
  · rename_i i
    cases h
    obtain ⟨v, rfl, b, rfl, hb⟩ := vs1 hv
    refine runs_of Tryd.func23 (by kernel_rfl) ((num_text b (txt_lt_of hb (hB i)) W hL.laid.1).mono fun e w' ⟨he, hk⟩ => ⟨_, he, gr_kept (kept_below hk), ?_⟩)
    show _ = E.txt 1 _
    rw [hT]
    show _ = Value.string ⟨(hex8 (txtC (den E (.arg i)))).toArray⟩
    rw [← hb, ← txt_eq]
  · cases h
end

theorem txtC_lt {c : CF} (hB : ∀ x, c = some x → x < 4294967296 ∧ canon .f32 x = some x) : txt (txtC c) < 4294967296 := by
  cases c with
  | none => exact txt_lt (by decide)
  | some x => exact txt_lt (hB x rfl).1
theorem canon_txtC {c : CF} (hB : ∀ x, c = some x → x < 4294967296 ∧ canon .f32 x = some x) : canon .f32 (txt (txtC c)) = c := by
  rw [canon_txt]
  cases c with
  | none => exact (show canon .f32 2143289344 = (none : CF) by decide +kernel)
  | some x => exact (hB x rfl).2

section
variable {E : Env} {β : Beta} (hB : ∀ i c, E.arg i = some c → c < 4294967296 ∧ canon .f32 c = some c) (hT : E.txt = etxt)
include hB hT

omit hT in
theorem den_good {t : T} (h : isArg t = true) : ∀ x, den E t = some x → x < 4294967296 ∧ canon .f32 x = some x := by
  unfold isArg at h
  split at h
  · rename_i i; exact hB i
  · cases h

theorem read9_ok {args : List V} {kn : Known} (h : readK 9 args = some kn) {vals : List Value} {W : World} (hv : VsRel E β args vals) (hL : LaidM W) :
    CallRuns Tryd.prog 19 vals.toArray W fun v W' => Gr W W' ∧ KnownRel E β kn v := by
  unfold readK at h
  split at h
  · rename_i m ts
    split at h
    · rename_i hc
      cases h
      simp only [Bool.and_eq_true] at hc
      obtain ⟨⟨hm, hn⟩, ha⟩ := hc
      have e1 := Nat.eq_of_beq_eq_true hm
      have e2 := Nat.eq_of_beq_eq_true hn
      subst e1
      obtain ⟨v, rfl, hvv⟩ := vs1 hv
      match ts, e2 with
      | [t0, t1, t2, t3, t4, t5, t6, t7, t8], _ =>
        simp only [List.all_cons, List.all_nil, Bool.and_eq_true, Bool.and_true] at ha
        obtain ⟨h0, h1, h2, h3, h4, h5, h6, h7, h8⟩ := ha
        have hv1 : v = E.txt 9 ([t0, t1, t2, t3, t4, t5, t6, t7, t8].map (den E)) := hvv
        rw [hT] at hv1
        have hv2 : v = Value.string ⟨(matT (fun i => txtC (([t0, t1, t2, t3, t4, t5, t6, t7, t8].map (den E)).getD i none)) 3).toArray⟩ := hv1
        subst hv2
        have hbk := mat_back (fun i => txtC (([t0, t1, t2, t3, t4, t5, t6, t7, t8].map (den E)).getD i none)) (fun i hi => by
          match i, hi with
          | 0, _ => exact txtC_lt (den_good hB h0)
          | 1, _ => exact txtC_lt (den_good hB h1)
          | 2, _ => exact txtC_lt (den_good hB h2)
          | 3, _ => exact txtC_lt (den_good hB h3)
          | 4, _ => exact txtC_lt (den_good hB h4)
          | 5, _ => exact txtC_lt (den_good hB h5)
          | 6, _ => exact txtC_lt (den_good hB h6)
          | 7, _ => exact txtC_lt (den_good hB h7)
          | 8, _ => exact txtC_lt (den_good hB h8))
        have hsz := matT_len (fun i => txtC (([t0, t1, t2, t3, t4, t5, t6, t7, t8].map (den E)).getD i none)) 3
        generalize hM : matT (fun i => txtC (([t0, t1, t2, t3, t4, t5, t6, t7, t8].map (den E)).getD i none)) 3 = M at *
        refine runs_of Tryd.func19 (by kernel_rfl) ((impl_readmat ⟨M.toArray⟩ W (by rw [ba_size]; simp; omega) hL).mono fun e w' hp => ?_)
        unfold matPost at hp
        have e3 : (⟨M.toArray⟩ : ByteArray).data.toList = M := rfl
        rw [e3, hbk] at hp
        refine ⟨_, hp.2, gr_kept hp.1, _, _, rfl, ⟨_, rfl, ?_⟩, rfl⟩
        have hh := ofTerms_rel (E := E) (β := β) (bs := [txt (txtC (den E t0)), txt (txtC (den E t1)), txt (txtC (den E t2)), txt (txtC (den E t3)), txt (txtC (den E t4)), txt (txtC (den E t5)), txt (txtC (den E t6)), txt (txtC (den E t7)), txt (txtC (den E t8))]) (ts := [t0, t1, t2, t3, t4, t5, t6, t7, t8])
          (by simp only [List.map_cons, List.map_nil, canon_txtC (den_good hB h0), canon_txtC (den_good hB h1), canon_txtC (den_good hB h2), canon_txtC (den_good hB h3), canon_txtC (den_good hB h4), canon_txtC (den_good hB h5), canon_txtC (den_good hB h6), canon_txtC (den_good hB h7), canon_txtC (den_good hB h8)])
        exact hh
    · cases h
  · cases h

theorem read3_ok {args : List V} {kn : Known} (h : readK 3 args = some kn) {vals : List Value} {W : World} (hv : VsRel E β args vals) (hL : LaidM W) :
    CallRuns Tryd.prog 35 vals.toArray W fun v W' => Gr W W' ∧ KnownRel E β kn v := by
  unfold readK at h
  split at h
  · rename_i m ts
    split at h
    · rename_i hc
      cases h
      simp only [Bool.and_eq_true] at hc
      obtain ⟨⟨hm, hn⟩, ha⟩ := hc
      have e1 := Nat.eq_of_beq_eq_true hm
      have e2 := Nat.eq_of_beq_eq_true hn
      subst e1
      obtain ⟨v, rfl, hvv⟩ := vs1 hv
      match ts, e2 with
      | [t0, t1, t2], _ =>
        simp only [List.all_cons, List.all_nil, Bool.and_eq_true, Bool.and_true] at ha
        obtain ⟨h0, h1, h2⟩ := ha
        have hv1 : v = E.txt 3 ([t0, t1, t2].map (den E)) := hvv
        rw [hT] at hv1
        have hv2 : v = Value.string ⟨(rowT (fun i => txtC (([t0, t1, t2].map (den E)).getD i none)) 3).toArray⟩ := hv1
        subst hv2
        have hbk := row_back (fun i => txtC (([t0, t1, t2].map (den E)).getD i none)) (fun i hi => by
          match i, hi with
          | 0, _ => exact txtC_lt (den_good hB h0)
          | 1, _ => exact txtC_lt (den_good hB h1)
          | 2, _ => exact txtC_lt (den_good hB h2))
        have hsz := rowT_len (fun i => txtC (([t0, t1, t2].map (den E)).getD i none)) 3
        generalize hM : rowT (fun i => txtC (([t0, t1, t2].map (den E)).getD i none)) 3 = M at *
        refine runs_of Tryd.func35 (by kernel_rfl) ((impl_readvec ⟨M.toArray⟩ W (by rw [ba_size]; simp; omega) hL).mono fun e w' hp => ?_)
        unfold vecPost at hp
        have e3 : (⟨M.toArray⟩ : ByteArray).data.toList = M := rfl
        rw [e3, hbk] at hp
        refine ⟨_, hp.2, gr_kept hp.1, _, _, rfl, ⟨_, rfl, ?_⟩, rfl⟩
        have hh := ofTerms_rel (E := E) (β := β) (bs := [txt (txtC (den E t0)), txt (txtC (den E t1)), txt (txtC (den E t2))]) (ts := [t0, t1, t2])
          (by simp only [List.map_cons, List.map_nil, canon_txtC (den_good hB h0), canon_txtC (den_good hB h1), canon_txtC (den_good hB h2)])
        exact hh
    · cases h
  · cases h

theorem read1_ok {args : List V} {kn : Known} (h : readOneK args = some kn) {vals : List Value} {W : World} (hv : VsRel E β args vals) (hL : LaidM W) :
    CallRuns Tryd.prog 22 vals.toArray W fun v W' => Gr W W' ∧ KnownRel E β kn v := by
  unfold readOneK at h
  split at h
  · rename_i i
    cases h
    obtain ⟨v, rfl, hvv⟩ := vs1 hv
    have hv1 : v = E.txt 1 [den E (.arg i)] := hvv
    rw [hT] at hv1
    have hv2 : v = Value.string ⟨(hex8 (txtC (E.arg i))).toArray⟩ := hv1
    subst hv2
    have ht : txt (txtC (E.arg i)) = txtC (E.arg i) := by
      cases hc : E.arg i with
      | none => exact (show txt 2143289344 = 2143289344 by decide +kernel)
      | some x => rw [txt_eq]; show txtC (canon .f32 x) = x; rw [(hB i x hc).2]; rfl
    have hlt : txtC (E.arg i) < 4294967296 := by rw [← ht]; exact txtC_lt (hB i)
    refine runs_of Tryd.func22 (by kernel_rfl) ((impl_read ⟨(hex8 (txtC (E.arg i))).toArray⟩ (by rw [ba_size]; show (hex8 _).length ≤ _; rw [hex8_length]; decide) W hL.laid).mono fun e w' hp => ?_)
    unfold Nums at hp
    have e3 : (⟨(hex8 (txtC (E.arg i))).toArray⟩ : ByteArray).data.toList = hex8 (txtC (E.arg i)) := rfl
    rw [e3, readR_hex8 hlt ht] at hp
    refine ⟨_, hp.2, gr_kept hp.1, _, _, rfl, ⟨_, rfl, ?_⟩, rfl⟩
    rw [← ht]
    exact canon_txtC (hB i)
  · cases h
end
end Go.Proofs.YtmieiaakjiklfaaDoor
