/-
  Each operation on symbols is the model's operation: floats, comparisons, calls; the whole table. Conditions: none.
-/
import Derived.Test.YtiidgljfdhcmgaaDoorSx4
namespace Go.Sx
open Go.RowKit

section
variable {E : Env} {P : Program} {W : World}

theorem read_word_notInf (f : Ieee.Format) (neg : Bool) (rung : Nat) (h : rung < f.infRung) : (f.read (f.word neg rung)).isInfinity = false := by
  have hlt : rung < f.signWeight := Nat.lt_trans h f.infRung_lt
  unfold Ieee.Format.read
  simp only [read_word_rung f neg rung hlt]
  by_cases hb : rung < f.binade
  · rw [if_pos hb]; rfl
  · rw [if_neg hb]
    split
    · rfl
    · exact absurd h (by assumption)

theorem decode32_small {b : Nat} {s : Bool} {m : Nat} {e : Int} (h : FloatKind.f32.decode b = .number s m e) : e + m.log2 < 1023 := by
  have h' : Ieee.single.read b = .number s m e := h
  have s1 : Ieee.single.signWeight = 2147483648 := by decide
  have s2 : Ieee.single.binade = 8388608 := by decide
  have s3 : Ieee.single.infRung = 2139095040 := by decide
  have s4 : Ieee.single.leastPlace = -149 := by decide
  unfold Ieee.Format.read at h'
  simp only [s1, s2, s3, s4] at h'
  obtain ⟨r, hr0⟩ : ∃ r, b % 2147483648 = r := ⟨_, rfl⟩
  rw [hr0] at h'
  have hl : ∀ n : Nat, n < 2 ^ 25 → n.log2 < 25 := fun n hn => by
    by_cases h0 : n = 0
    · subst h0; decide
    · exact (Nat.log2_lt h0).2 hn
  split at h'
  · rename_i hr
    simp only [Ieee.Datum.number.injEq] at h'
    obtain ⟨_, rfl, rfl⟩ := h'
    have := hl r (by omega)
    omega
  · split at h'
    · rename_i h1 hr
      simp only [Ieee.Datum.number.injEq] at h'
      obtain ⟨_, rfl, rfl⟩ := h'
      have h2 : r % 8388608 < 8388608 := Nat.mod_lt _ (by decide)
      have := hl (8388608 + r % 8388608) (by omega)
      have h3 : r / 8388608 ≤ 255 := by omega
      omega
    · split at h' <;> cases h'

theorem wide_notInf {b : Nat} {s : Bool} {m : Nat} {e : Int} (h : FloatKind.f32.decode b = .number s m e) :
    (FloatKind.f64.decode (FloatKind.f64.encode (.number s m e))).isInfinity = false := by
  obtain ⟨rung, h1, h2⟩ := nearest_fin Ieee.double s m e (by decide) (by have := decode32_small h; show e + _ < (2 : Int) ^ 10 - 1; omega)
  show (Ieee.double.read (Ieee.double.nearest s m e)).isInfinity = false
  rw [h2]; exact read_word_notInf _ _ _ h1

theorem run_wide (b : Nat) (W : World) : ∃ r n, (Conv.floatToFloat .f32 b .f64).run P W = .ok (.float .f64 r) (W.drewN n) ∧ canon .f64 r = cwide (canon .f32 b) := by
  unfold Conv.floatToFloat
  rw [if_neg (by decide)]
  cases hd : FloatKind.f32.decode b with
  | nan s t =>
    refine ⟨(Question.nanConv .f64 b).cut (W.tape W.drawn (.nanConv .f64 b)), 1, ?_, ?_⟩
    · simp [Question.forced, World.drewN]
    · rw [cut_nanConv, canon_nan (show (FloatKind.f32.format.read b).isNaN = true by show (FloatKind.f32.decode b).isNaN = true; rw [hd]; rfl)]; rfl
  | infinity s =>
    refine ⟨_, 0, rfl, ?_⟩
    have hw : (FloatKind.f64.format.read (FloatKind.f64.encode (.infinity s))).isNaN = false := write_notNaN Ieee.double (.infinity s) rfl
    rw [canon_num (show (FloatKind.f32.format.read b).isNaN = false by show (FloatKind.f32.decode b).isNaN = false; rw [hd]; rfl)]
    rw [canon_num hw]
    simp [cwide, floatToFloatBits, hd]
  | number s m e =>
    have hinf := wide_notInf hd
    refine ⟨FloatKind.f64.encode (.number s m e), 0, ?_, ?_⟩
    · simp [hinf, World.drewN_zero]
    · rw [canon_num (show (FloatKind.f32.format.read b).isNaN = false by show (FloatKind.f32.decode b).isNaN = false; rw [hd]; rfl)]
      have hw : (FloatKind.f64.format.read (FloatKind.f64.encode (.number s m e))).isNaN = false := write_notNaN Ieee.double (.number s m e) rfl
      rw [canon_num hw]
      simp [cwide, floatToFloatBits, hd, hinf]

theorem run_narrow (b : Nat) (W : World) (hf : fitsC (canon .f64 b) = true) : ∃ r n, (Conv.floatToFloat .f64 b .f32).run P W = .ok (.float .f32 r) (W.drewN n) ∧ canon .f32 r = cnarrow (canon .f64 b) := by
  unfold Conv.floatToFloat
  rw [if_neg (by decide)]
  cases hd : FloatKind.f64.decode b with
  | nan s t =>
    refine ⟨(Question.nanConv .f32 b).cut (W.tape W.drawn (.nanConv .f32 b)), 1, ?_, ?_⟩
    · simp [Question.forced, World.drewN]
    · rw [cut_nanConv, canon_nan (show (FloatKind.f64.format.read b).isNaN = true by show (FloatKind.f64.decode b).isNaN = true; rw [hd]; rfl)]; rfl
  | infinity s =>
    refine ⟨_, 0, rfl, ?_⟩
    have hw : (FloatKind.f32.format.read (FloatKind.f32.encode (.infinity s))).isNaN = false := write_notNaN Ieee.single (.infinity s) rfl
    rw [canon_num (show (FloatKind.f64.format.read b).isNaN = false by show (FloatKind.f64.decode b).isNaN = false; rw [hd]; rfl)]
    rw [canon_num hw]
    simp [cnarrow, floatToFloatBits, hd]
  | number s m e =>
    have hc : canon .f64 b = some b := canon_num (show (FloatKind.f64.format.read b).isNaN = false by show (FloatKind.f64.decode b).isNaN = false; rw [hd]; rfl)
    have hinf : (FloatKind.f32.decode (FloatKind.f32.encode (.number s m e))).isInfinity = false := by
      rw [hc] at hf
      simpa [fitsC, hd] using hf
    refine ⟨FloatKind.f32.encode (.number s m e), 0, ?_, ?_⟩
    · simp [hinf, World.drewN_zero]
    · have hw : (FloatKind.f32.format.read (FloatKind.f32.encode (.number s m e))).isNaN = false := write_notNaN Ieee.single (.number s m e) rfl
      rw [hc, canon_num hw]
      simp [cnarrow, floatToFloatBits, hd, hinf]

theorem run_convert_ff {src dst : TypeId} {u : TypeDesc} {k s : FloatKind} {b : Nat} (hs : P.underlying src = some u) (hd : P.underlying dst = some (.float k)) (W : World) :
    (convert src dst (.float s b)).run P W = (Conv.floatToFloat s b k).run P W := by
  simp only [convert, Sem.run_bind, run_underlying hs, run_underlying hd, Result.andThen_ok]
theorem run_convert_if {src dst : TypeId} {u : TypeDesc} {k : FloatKind} {s : IntKind} {n : Int} (hs : P.underlying src = some u) (hd : P.underlying dst = some (.float k)) (W : World) :
    (convert src dst (.int s n)).run P W = .ok (.float k (k.nearest n)) W := by
  simp only [convert, Sem.run_bind, run_underlying hs, run_underlying hd, Result.andThen_ok]
  cases u <;> rfl
theorem run_convert_ii {src dst : TypeId} {u : TypeDesc} {k : IntKind} {s : IntKind} {n : Int} (hs : P.underlying src = some u) (hd : P.underlying dst = some (.int k)) (W : World) :
    (convert src dst (.int s n)).run P W = .ok (.int k (k.wrap n)) W := by
  simp only [convert, Sem.run_bind, run_underlying hs, run_underlying hd, Result.andThen_ok]
  cases u <;> rfl

theorem convertA_sound {β : Beta} {src dst : TypeId} {vx sv : V} {x : Value} {fs : Facts} (h : convertA P src dst vx fs = some sv) (hf : FactsOK E fs) (hx : VRel E β vx x) :
    ∃ v n, (convert src dst x).run P W = .ok v (W.drewN n) ∧ VRel E β sv v := by
  unfold convertA at h
  split at h
  · rename_i u k k' n hs hd
    cases h
    obtain rfl : x = _ := hx
    exact ⟨_, 0, run_convert_ii hs hd W, rfl⟩
  · rename_i u k k' n hs hd
    cases h
    obtain rfl : x = _ := hx
    exact ⟨_, 0, run_convert_if hs hd W, ⟨_, rfl, rfl⟩⟩
  · rename_i u t hs hd
    cases h
    obtain ⟨b, rfl, hb⟩ := hx
    exact ⟨_, 0, run_convert_ff hs hd W, ⟨_, rfl, hb⟩⟩
  · rename_i u t hs hd
    cases h
    obtain ⟨b, rfl, hb⟩ := hx
    exact ⟨_, 0, run_convert_ff hs hd W, ⟨_, rfl, hb⟩⟩
  · rename_i u t hs hd
    cases h
    obtain ⟨b, rfl, hb⟩ := hx
    obtain ⟨r, n, h1, h2⟩ := run_wide (P := P) b W
    exact ⟨.float .f64 r, n, (run_convert_ff hs hd W).trans h1, ⟨r, rfl, by rw [h2, hb]; rfl⟩⟩
  · rename_i u t hs hd
    split at h
    · rename_i hl
      cases h
      obtain ⟨b, rfl, hb⟩ := hx
      have hh := look_sound hl hf
      obtain ⟨r, n, h1, h2⟩ := run_narrow (P := P) b W (by rw [hb]; exact hh)
      exact ⟨.float .f32 r, n, (run_convert_ff hs hd W).trans h1, ⟨r, rfl, by rw [h2, hb]; rfl⟩⟩
    · split at h
      · split at h
        · rename_i hh
          cases h
          obtain ⟨b, rfl, hb⟩ := hx
          obtain ⟨r, n, h1, h2⟩ := run_narrow (P := P) b W (by rw [hb]; exact hh)
          exact ⟨.float .f32 r, n, (run_convert_ff hs hd W).trans h1, ⟨r, rfl, by rw [h2, hb]; rfl⟩⟩
        · cases h
      · cases h
  · cases h

theorem opOf_arith {op : BinOp} {c : Nat} (h : arithCode op = some c) : c < 4 ∧ opOf c = op ∧ (op = .add ∨ op = .sub ∨ op = .mul ∨ op = .quo) := by
  cases op <;> simp only [arithCode, reduceCtorEq, Option.some.injEq] at h <;> subst h <;> simp [opOf]

theorem cmpOf_code {op : BinOp} {c : Nat} {turn : Bool} (h : cmpCode op = some (c, turn)) (k : FloatKind) (x y : CF) :
    ccmp op k x y = (ccmp (cmpOf c) k x y != turn) ∧ (op = .eql ∨ op = .neq ∨ op = .lss ∨ op = .leq ∨ op = .gtr ∨ op = .geq) := by
  cases op <;> simp only [cmpCode, reduceCtorEq, Option.some.injEq, Prod.mk.injEq] at h <;> obtain ⟨rfl, rfl⟩ := h <;> refine ⟨?_, by simp⟩ <;> simp only [cmpOf, ccmp, bne]
  · cases (cord k x y == some .eq) <;> rfl
  · cases (cord k x y == some .eq) <;> rfl
  · cases (cord k x y == some .lt) <;> rfl
  · cases (cord k x y == some .lt || cord k x y == some .eq) <;> rfl
  · cases (cord k x y == some .gt) <;> rfl
  · cases (cord k x y == some .gt || cord k x y == some .eq) <;> rfl

theorem run_bool_eq {t : TypeId} {a b : Bool} (hu : P.underlying t = some .bool) : (Op.equal t (.bool a) (.bool b)).run P W = .ok (a == b) W := by
  show (Op.equalIn (9999 + 1) t (.bool a) (.bool b)).run P W = _
  unfold Op.equalIn
  rw [Sem.run_bind, run_underlying hu W]
  rfl

theorem run_keep (k : FloatKind) (t : TypeId) (b : Nat) (W : World) : (binOp .and t (.int (uk k) b) (.int (uk k) (keepMask k))).run P W = .ok (.int (uk k) ((b % k.format.signWeight : Nat) : Int)) W := by
  cases k
  · show (pure (Value.int .u32 (IntKind.u32.wrap ((BitVec.ofInt 32 (b : Int) &&& BitVec.ofInt 32 ((2147483647 : Nat) : Int)).toNat : Int))) : Sem Value).run P W = .ok (.int .u32 ((b % 2147483648 : Nat) : Int)) W
    have h : (BitVec.ofInt 32 (b : Int) &&& BitVec.ofInt 32 ((2147483647 : Nat) : Int)).toNat = b % 2147483648 := by
      have h1 : (BitVec.ofInt 32 (b : Int)).toNat = b % 4294967296 := by rw [BitVec.ofInt_natCast, BitVec.toNat_ofNat]
      have h2 : (BitVec.ofInt 32 ((2147483647 : Nat) : Int)).toNat = 2 ^ 31 - 1 := by rfl
      rw [BitVec.toNat_and, h1, h2, Nat.and_two_pow_sub_one_eq_mod]
      omega
    rw [h]
    simp only [IntKind.wrap, IntKind.signed, IntKind.bits, Bool.false_and, Bool.false_eq_true, if_false, Sem.run_pure]
    congr 2
    omega
  · show (pure (Value.int .u64 (IntKind.u64.wrap ((BitVec.ofInt 64 (b : Int) &&& BitVec.ofInt 64 ((9223372036854775807 : Nat) : Int)).toNat : Int))) : Sem Value).run P W = .ok (.int .u64 ((b % 9223372036854775808 : Nat) : Int)) W
    have h : (BitVec.ofInt 64 (b : Int) &&& BitVec.ofInt 64 ((9223372036854775807 : Nat) : Int)).toNat = b % 9223372036854775808 := by
      have h1 : (BitVec.ofInt 64 (b : Int)).toNat = b % 18446744073709551616 := by rw [BitVec.ofInt_natCast, BitVec.toNat_ofNat]
      have h2 : (BitVec.ofInt 64 ((9223372036854775807 : Nat) : Int)).toNat = 2 ^ 63 - 1 := by rfl
      rw [BitVec.toNat_and, h1, h2, Nat.and_two_pow_sub_one_eq_mod]
      omega
    rw [h]
    simp only [IntKind.wrap, IntKind.signed, IntKind.bits, Bool.false_and, Bool.false_eq_true, if_false, Sem.run_pure]
    congr 2
    omega

theorem run_strike (k : FloatKind) (t : TypeId) (b : Nat) (W : World) : (binOp .andNot t (.int (uk k) b) (.int (uk k) (signMask k))).run P W = .ok (.int (uk k) ((b % k.format.signWeight : Nat) : Int)) W := by
  cases k
  · show (pure (Value.int .u32 (IntKind.u32.wrap ((BitVec.ofInt 32 (b : Int) &&& ~~~ BitVec.ofInt 32 ((2147483648 : Nat) : Int)).toNat : Int))) : Sem Value).run P W = .ok (.int .u32 ((b % 2147483648 : Nat) : Int)) W
    have h : (BitVec.ofInt 32 (b : Int) &&& ~~~ BitVec.ofInt 32 ((2147483648 : Nat) : Int)).toNat = b % 2147483648 := by
      have h1 : (BitVec.ofInt 32 (b : Int)).toNat = b % 4294967296 := by rw [BitVec.ofInt_natCast, BitVec.toNat_ofNat]
      have h2 : (~~~ BitVec.ofInt 32 ((2147483648 : Nat) : Int)).toNat = 2 ^ 31 - 1 := by rfl
      rw [BitVec.toNat_and, h1, h2, Nat.and_two_pow_sub_one_eq_mod]
      omega
    rw [h]
    simp only [IntKind.wrap, IntKind.signed, IntKind.bits, Bool.false_and, Bool.false_eq_true, if_false, Sem.run_pure]
    congr 2
    omega
  · show (pure (Value.int .u64 (IntKind.u64.wrap ((BitVec.ofInt 64 (b : Int) &&& ~~~ BitVec.ofInt 64 ((9223372036854775808 : Nat) : Int)).toNat : Int))) : Sem Value).run P W = .ok (.int .u64 ((b % 9223372036854775808 : Nat) : Int)) W
    have h : (BitVec.ofInt 64 (b : Int) &&& ~~~ BitVec.ofInt 64 ((9223372036854775808 : Nat) : Int)).toNat = b % 9223372036854775808 := by
      have h1 : (BitVec.ofInt 64 (b : Int)).toNat = b % 18446744073709551616 := by rw [BitVec.ofInt_natCast, BitVec.toNat_ofNat]
      have h2 : (~~~ BitVec.ofInt 64 ((9223372036854775808 : Nat) : Int)).toNat = 2 ^ 63 - 1 := by rfl
      rw [BitVec.toNat_and, h1, h2, Nat.and_two_pow_sub_one_eq_mod]
      omega
    rw [h]
    simp only [IntKind.wrap, IntKind.signed, IntKind.bits, Bool.false_and, Bool.false_eq_true, if_false, Sem.run_pure]
    congr 2
    omega

theorem cmp_self (E : Env) (k : FloatKind) {a : T} {b : Nat} (h : canon k b = den E a) : holds E (.cmp 0 k a a) = (canon k b).isSome := by
  show ccmp .eql k (den E a) (den E a) = _
  rw [← h]; exact cord_self k b

/-- What a two-place operation gives. -/
theorem binA_sound {op : BinOp} {t : TypeId} {x y : V} {st : St} {K : V → Bool → Facts → Bool} (h : binA P op t x y st K = true) (hf : FactsOK E st.facts) :
    ∃ sv fs, K sv true fs = true ∧ FactsOK E fs ∧ ∀ (β : Beta) (ox oy : Operand) (a b : Value) (W : World), VRel E β x a → VRel E β y b →
      ∃ v n, (do eqGuard op t ox oy a b; binOp op t a b).run P W = .ok v (W.drewN n) ∧ VRel E β sv v := by
  unfold binA at h
  split at h
  · rename_i k p k' q
    split at h
    · rename_i hk
      have hkk := fk_inj hk
      subst hkk
      split at h
      · rename_i c hc
        rw [forceNat_eq] at h
        obtain ⟨hc4, ho, hop⟩ := opOf_arith hc
        refine ⟨_, _, h, hf, fun β ox oy a b W ha hb => ?_⟩
        obtain ⟨u, rfl, hu⟩ := ha
        obtain ⟨w, rfl, hw⟩ := hb
        obtain ⟨r, n, h1, h2⟩ := run_farith (P := P) W op t k u w hop
        refine ⟨_, n, by simp [eqGuard_plain (P := P) (W := W) (op := op) (t := t) (x := ox) (y := oy) (a := .float k u) (b := .float k w) rfl (by simp), h1], ⟨r, rfl, ?_⟩⟩
        have e1 : (c + 4 * fk k) % 4 = c := by omega
        have e2 : kindOf ((c + 4 * fk k) / 4) = k := by
          have : (c + 4 * fk k) / 4 = fk k := by omega
          rw [this]; cases k <;> rfl
        rw [h2, hu, hw]
        simp only [den, e1, e2, ho]
      · split at h
        · rename_i c turn hc
          obtain ⟨fs', h1, h2⟩ := ask_sound h hf
          rw [forceSV_eq] at h1
          refine ⟨_, _, h1, h2, fun β ox oy a b W ha hb => ?_⟩
          obtain ⟨u, rfl, hu⟩ := ha
          obtain ⟨w, rfl, hw⟩ := hb
          have hcc := cmpOf_code hc k (canon k u) (canon k w)
          have hr := run_fcmp (P := P) W op t k u w hcc.2
          refine ⟨.bool (ccmp op k (canon k u) (canon k w)), 0, by simp [eqGuard_plain (P := P) (W := W) (op := op) (t := t) (x := ox) (y := oy) (a := .float k u) (b := .float k w) rfl (by simp), hr, World.drewN_zero], ?_⟩
          show _ = _
          rw [hcc.1, hu, hw]; rfl
        · cases h
    · cases h
  · rename_i k p k' q
    split at h
    · rename_i hk
      have hkk : k = k' := by simpa using hk
      subst hkk
      split at h
      · rename_i s hs
        rw [forceSV_eq] at h
        refine ⟨_, _, h, hf, fun β ox oy a b W ha hb => ?_⟩
        obtain rfl : a = _ := ha
        obtain rfl : b = _ := hb
        obtain ⟨v, h1, h2⟩ := intOp_sound (P := P) (W := W) (E := E) (β := β) (t := t) hs
        exact ⟨v, 0, by simp [eqGuard_plain (P := P) (W := W) (op := op) (t := t) (x := ox) (y := oy) (a := .int k p) (b := .int k q) rfl (by simp), h1, World.drewN_zero], h2⟩
      · cases h
    · cases h
  · -- bits against bits
    rename_i k p k' q
    split at h
    · rename_i hk
      have hkk := fk_inj hk
      subst hkk
      split at h
      · obtain ⟨fs1, h1, hf1⟩ := ask_sound h hf
        obtain ⟨fs2, h2, hf2⟩ := ask_sound h1 hf1
        have key : ∀ (r : Bool) (fs' : Facts), K (.sc (.bool r)) true fs' = true → FactsOK E fs' → (∀ u w : Nat, canon k u = den E p → canon k w = den E q → ((u : Int) == (w : Int)) = r) →
            ∃ sv fs, K sv true fs = true ∧ FactsOK E fs ∧ ∀ (β : Beta) (ox oy : Operand) (a b : Value) (W : World), VRel E β (.sc (.bits k p)) a → VRel E β (.sc (.bits k q)) b →
              ∃ v n, (do eqGuard .eql t ox oy a b; binOp .eql t a b).run P W = .ok v (W.drewN n) ∧ VRel E β sv v := by
          intro r fs' hr hfs hval
          refine ⟨_, _, hr, hfs, fun β ox oy a b W ha hb => ?_⟩
          obtain ⟨u, rfl, hu⟩ := ha
          obtain ⟨w, rfl, hw⟩ := hb
          refine ⟨.bool ((u : Int) == (w : Int)), 0, by simp [eqGuard_plain (P := P) (W := W) (op := .eql) (t := t) (x := ox) (y := oy) (a := .int (uk k) u) (b := .int (uk k) w) rfl (by simp), binOp, Op.intCmp, World.drewN_zero], ?_⟩
          show _ = _
          rw [hval u w hu hw]
        split at h2
        · rename_i ta tb hta htb
          obtain ⟨fs3, h3, hf3⟩ := ask_sound h2 hf2
          rw [forceSV_eq] at h3
          refine key _ _ h3 hf3 fun u w hu hw => ?_
          rw [cmp_self E k hu] at hta
          rw [cmp_self E k hw] at htb
          show _ = (den E p == den E q)
          rw [← hu, ← hw]
          obtain ⟨x, hx⟩ := Option.isSome_iff_exists.1 hta
          obtain ⟨y, hy⟩ := Option.isSome_iff_exists.1 htb
          obtain ⟨e1, _⟩ := canon_eq_some hx
          obtain ⟨e2, _⟩ := canon_eq_some hy
          rw [hx, hy, e1, e2]
          rw [Bool.eq_iff_iff]
          simp
          exact Int.ofNat_inj
        · rename_i ta tb hta htb
          refine key _ _ h2 hf2 fun u w hu hw => ?_
          rw [cmp_self E k hu] at hta
          rw [cmp_self E k hw] at htb
          have : u ≠ w := fun e => by subst e; rw [hta] at htb; cases htb
          have h9 : ¬ (u : Int) = (w : Int) := fun e => this (Int.ofNat_inj.1 e)
          simpa using h9
        · rename_i ta tb hta htb
          refine key _ _ h2 hf2 fun u w hu hw => ?_
          rw [cmp_self E k hu] at hta
          rw [cmp_self E k hw] at htb
          have : u ≠ w := fun e => by subst e; rw [hta] at htb; cases htb
          have h9 : ¬ (u : Int) = (w : Int) := fun e => this (Int.ofNat_inj.1 e)
          simpa using h9
        · cases h2
      · cases h
    · cases h
  · -- bits under a mask
    rename_i k p k' n
    split at h
    · rename_i hk
      have hkk : uk k = k' := by simpa using hk
      subst hkk
      split at h
      · split at h
        · rename_i hn
          have hn' := Nat.eq_of_beq_eq_true hn
          subst hn'
          refine ⟨_, _, h, hf, fun β ox oy a b W ha hb => ?_⟩
          obtain ⟨u, rfl, hu⟩ := ha
          obtain rfl : b = _ := hb
          refine ⟨_, 0, by simp only [Sem.run_bind, eqGuard_plain (P := P) (W := W) (op := .and) (t := t) (x := ox) (y := oy) (a := .int (uk k) u) (b := .int (uk k) (Int.ofNat (keepMask k))) rfl (by simp), Result.andThen_ok]; exact run_keep k t u W, ⟨_, rfl, ?_⟩⟩
          rw [canon_mod, hu]; rfl
        · cases h
      · split at h
        · rename_i hn
          have hn' := Nat.eq_of_beq_eq_true hn
          subst hn'
          refine ⟨_, _, h, hf, fun β ox oy a b W ha hb => ?_⟩
          obtain ⟨u, rfl, hu⟩ := ha
          obtain rfl : b = _ := hb
          refine ⟨_, 0, by simp only [Sem.run_bind, eqGuard_plain (P := P) (W := W) (op := .andNot) (t := t) (x := ox) (y := oy) (a := .int (uk k) u) (b := .int (uk k) (Int.ofNat (signMask k))) rfl (by simp), Result.andThen_ok]; exact run_strike k t u W, ⟨_, rfl, ?_⟩⟩
          rw [canon_mod, hu]; rfl
        · cases h
      · cases h
    · cases h
  · rename_i p q
    split at h
    · rename_i hu
      split at h
      · rw [forceSV_eq] at h
        refine ⟨_, _, h, hf, fun β ox oy a b W ha hb => ?_⟩
        obtain rfl : a = _ := ha
        obtain rfl : b = _ := hb
        exact ⟨_, 0, by simp [eqGuard_plain (P := P) (W := W) (op := .eql) (t := t) (x := ox) (y := oy) (a := .bool p) (b := .bool q) rfl (by simp), binOp, run_bool_eq hu, World.drewN_zero], rfl⟩
      · rw [forceSV_eq] at h
        refine ⟨_, _, h, hf, fun β ox oy a b W ha hb => ?_⟩
        obtain rfl : a = _ := ha
        obtain rfl : b = _ := hb
        exact ⟨.bool (p != q), 0, by simp [eqGuard_plain (P := P) (W := W) (op := .neq) (t := t) (x := ox) (y := oy) (a := .bool p) (b := .bool q) rfl (by simp), binOp, run_bool_eq hu, World.drewN_zero, bne], rfl⟩
      · cases h
    · cases h
  · cases h

theorem cmm_canon (big : Bool) (k : FloatKind) (x y : Nat) : (match k.format.order x y with
      | none => none
      | some .lt => if big then some y else some x
      | some .gt => if big then some x else some y
      | some .eq => if (k.decode x).neg == big then some y else some x) = cmm big k (canon k x) (canon k y) := by
  have ho := cord_canon k x y
  cases hx : (k.format.read x).isNaN
  · cases hy : (k.format.read y).isNaN
    · rw [canon_num hx, canon_num hy]; rfl
    · rw [canon_nan hy] at ho ⊢
      have : k.format.order x y = none := by rw [← ho]; cases canon k x <;> rfl
      rw [this]; cases canon k x <;> rfl
  · rw [canon_nan hx] at ho ⊢
    have : k.format.order x y = none := by rw [← ho]; rfl
    rw [this]; rfl

theorem order_some_num {k : FloatKind} {x y : Nat} {o : Ordering} (h : k.format.order x y = some o) : canon k x = some x ∧ canon k y = some y := by
  have ho := cord_canon k x y
  rw [h] at ho
  cases hx : (k.format.read x).isNaN
  · cases hy : (k.format.read y).isNaN
    · exact ⟨canon_num hx, canon_num hy⟩
    · rw [canon_nan hy] at ho; cases hc : canon k x <;> rw [hc] at ho <;> cases ho
  · rw [canon_nan hx] at ho; cases ho

theorem run_max2 (k : FloatKind) (x y : Nat) (W : World) : ∃ r n, (Builtin.max2 (.float k x) (.float k y)).run P W = .ok (.float k r) (W.drewN n) ∧ canon k r = cmm true k (canon k x) (canon k y) := by
  rw [← cmm_canon]
  simp only [Builtin.max2]
  cases h : k.format.order x y with
  | none => exact ⟨(Question.nanMinMax k true x y).cut (W.tape W.drawn (.nanMinMax k true x y)), 1, by simp [Question.forced, World.drewN], cut_nanMinMax ..⟩
  | some o =>
    obtain ⟨hx, hy⟩ := order_some_num h
    cases o
    · exact ⟨y, 0, rfl, hy⟩
    · refine ⟨if (k.decode x).neg then y else x, 0, rfl, ?_⟩
      dsimp only
      cases (k.decode x).neg <;> simp [hx, hy]
    · exact ⟨x, 0, rfl, hx⟩

theorem run_min2 (k : FloatKind) (x y : Nat) (W : World) : ∃ r n, (Builtin.min2 (.float k x) (.float k y)).run P W = .ok (.float k r) (W.drewN n) ∧ canon k r = cmm false k (canon k x) (canon k y) := by
  rw [← cmm_canon]
  simp only [Builtin.min2]
  cases h : k.format.order x y with
  | none => exact ⟨(Question.nanMinMax k false x y).cut (W.tape W.drawn (.nanMinMax k false x y)), 1, by simp [Question.forced, World.drewN], cut_nanMinMax ..⟩
  | some o =>
    obtain ⟨hx, hy⟩ := order_some_num h
    cases o
    · exact ⟨x, 0, rfl, hx⟩
    · refine ⟨if (k.decode x).neg then x else y, 0, rfl, ?_⟩
      dsimp only
      cases (k.decode x).neg <;> simp [hx, hy]
    · exact ⟨y, 0, rfl, hy⟩

end
end Go.Sx
