/-
  Any numbers, drawn. Conditions: the bytes lie there.
-/
import Derived.Test.YtmieiaakjiklfaaDoorDrawMat
namespace Go.Proofs.YtmieiaakjiklfaaDoor
open Go.RowKit Go.Lib Go.Sx Ieee

theorem run_frombits64 (b : Nat) (w : World) : (callFunc 76 #[.int .u64 (b : Nat)]).run Tryd.prog w = .ok (.value (.float .f64 b)) w :=
  run_ext (e := Extern.MathFloatBits.float64frombits) Tryd.func76 (by kernel_rfl) rfl (by kernel_rfl) (by kernel_rfl) rfl

set_option maxRecDepth 100000 in
theorem nan_calls (w : World) : Calls Tryd.prog 62 #[] w fun e w' => e = .returned (.float .f64 9221120237041090561) ∧ w' = w := by
  have hf : ∀ w : World, (callFunc 76 #[.int .u64 9221120237041090561]).run Tryd.prog w = .ok (.value (.float .f64 9221120237041090561)) w := fun w => run_frombits64 9221120237041090561 w
  go_enter Tryd.func62, Tryd.ntmps62
  go_wp2
  go_ret
  exact ⟨rfl, rfl⟩
set_option maxRecDepth 100000 in
theorem inf_calls (w : World) : Calls Tryd.prog 63 #[.int .i64 1] w fun e w' => e = .returned (.float .f64 9218868437227405312) ∧ w' = w := by
  have hf : ∀ w : World, (callFunc 76 #[.int .u64 9218868437227405312]).run Tryd.prog w = .ok (.value (.float .f64 9218868437227405312)) w := fun w => run_frombits64 9218868437227405312 w
  go_enter Tryd.func63, Tryd.ntmps63
  go_wp2
  go_ret
  exact ⟨rfl, rfl⟩
set_option maxRecDepth 100000 in
theorem minf_calls (w : World) : Calls Tryd.prog 63 #[.int .i64 (-1)] w fun e w' => e = .returned (.float .f64 18442240474082181120) ∧ w' = w := by
  have hf : ∀ w : World, (callFunc 76 #[.int .u64 18442240474082181120]).run Tryd.prog w = .ok (.value (.float .f64 18442240474082181120)) w := fun w => run_frombits64 18442240474082181120 w
  go_enter Tryd.func63, Tryd.ntmps63
  go_wp2
  go_ret
  exact ⟨rfl, rfl⟩

/-- Any number: what it is, and the source's place and seed behind it. -/
def anyR (zs : List Int) (at_ : Nat) (seed : Int) : CF × Nat × Int :=
  let s1 := seedNext zs at_ seed
  let s3 := seedNext zs (at_ + 1 + 1) (seedNext zs (at_ + 1) s1)
  let x := pickS zs at_ seed 16
  if x = 0 then (none, at_ + 1, s1)
  else if x = 1 then (some 2139095040, at_ + 1, s1)
  else if x = 2 then (some 4286578688, at_ + 1, s1)
  else if x = 3 then (some 2147483648, at_ + 1, s1)
  else if x = 4 then (canon .f32 (pickL zs (at_ + 1) s1 16777220).toNat, at_ + 1 + 2, s3)
  else if x = 5 then (canon .f32 (pickL zs (at_ + 1) s1 1073741824 * 4 + pickS zs (at_ + 1 + 2) s3 4).toNat, at_ + 1 + 2 + 1, seedNext zs (at_ + 1 + 2) s3)
  else if x = 6 then (cbin .quo .f32 (canon .f32 (floatOfInt .f32 (pickL zs (at_ + 1) s1 2000000 - 1000000))) (canon .f32 1148846080), at_ + 1 + 2, s3)
  else (canon .f32 (plainB (pickS zs (at_ + 1) s1 129)), at_ + 1 + 1, seedNext zs (at_ + 1) s1)

theorem src_drewN {b : Nat} {v : Value} {zs : List Int} {at_ : Nat} {seed : Int} {w u : World} (n : Nat) (h : Src b v zs at_ seed w ∧ SrcStep b u w) : Src b v zs at_ seed (w.drewN n) ∧ SrcStep b u (w.drewN n) :=
  ⟨⟨h.1.bytes, h.1.c0, h.1.c1, h.1.c2, h.1.f1, h.1.f2, h.1.apart⟩, ⟨h.2.os, h.2.output, h.2.size, h.2.block⟩⟩

theorem pickL_bounds {zs : List Int} (at_ : Nat) (seed n : Int) (hn : 0 < n) : 0 ≤ pickL zs at_ seed n ∧ pickL zs at_ seed n < n :=
  ⟨Int.emod_nonneg _ (by omega), Int.emod_lt_of_pos _ hn⟩

/-- What any number owes. -/
def anyPost (b : Nat) (v : Value) (zs : List Int) (w : World) (r : CF × Nat × Int) (e : Ending) (w' : World) : Prop :=
  ∃ x, e = .returned (.float .f32 x) ∧ canon .f32 x = r.1 ∧ Src b v zs r.2.1 r.2.2 w' ∧ SrcStep b w w'

set_option maxHeartbeats 4000000 in
set_option maxRecDepth 100000 in
theorem any_calls (b : Nat) (v : Value) (zs : List Int) (at_ : Nat) (seed : Int) (w : World) (h : Src b v zs at_ seed w) (h1 : at_ ≤ 100000) (hl : zs.length ≤ 100000) :
    Calls Tryd.prog 47 #[.pointer (some ⟨b, 0, none⟩)] w (anyPost b v zs w (anyR zs at_ seed)) := by
  have HP := Lib.hid (pick_small b v zs at_ seed 16 w h (by omega) (by omega) (by decide) (by decide))
  have HL := Lib.hid (And.intro h1 hl)
  obtain ⟨hx1, hx2⟩ := pickS_bounds (zs := zs) at_ seed 16 (by decide)
  obtain ⟨r, hr⟩ : ∃ r, r = anyR zs at_ seed := ⟨_, rfl⟩
  rw [← hr]
  unfold anyR at hr
  generalize pickS zs at_ seed 16 = x at *
  generalize hs1 : seedNext zs at_ seed = s1 at *
  have HR := Lib.hid hr
  clear h h1 hl hr hs1
  have hc : x = 0 ∨ x = 1 ∨ x = 2 ∨ x = 3 ∨ x = 4 ∨ x = 5 ∨ x = 6 ∨ 7 ≤ x := by omega
  rcases hc with rfl | rfl | rfl | rfl | rfl | rfl | rfl | hc
  · have hN := nan_calls
    have hV := fun W : World => (run_narrow (P := Tryd.prog) 9221120237041090561 W (by decide))
    clear hx1 hx2
    go_enter Tryd.func47, Tryd.ntmps47
    go_wp2_with fail
    refine (HP.out).mono ?_
    rintro e w1 ⟨rfl, hs, ht⟩
    have HS := Lib.hid (And.intro hs ht)
    clear hs ht HP
    go_wp2_with fail
    refine (hN _).mono ?_
    rintro e w2 ⟨rfl, rfl⟩
    obtain ⟨c, n, hrun, hcn⟩ := hV w2
    have hrun' := (run_convert_ff (P := Tryd.prog) Tryd.underlying86 Tryd.underlying24 w2).trans hrun
    have HC := Lib.hid hcn
    clear hN hV hrun hcn
    go_wp2
    go_ret
    have hr := HR.out
    simp at hr
    subst hr
    exact ⟨c, rfl, HC.out.trans (show cnarrow (canon .f64 9221120237041090561) = (none : CF) by decide +kernel), src_drewN n HS.out⟩
  · have hN := inf_calls
    have hV := fun W : World => (run_narrow (P := Tryd.prog) 9218868437227405312 W (by decide))
    clear hx1 hx2
    go_enter Tryd.func47, Tryd.ntmps47
    go_wp2_with fail
    refine (HP.out).mono ?_
    rintro e w1 ⟨rfl, hs, ht⟩
    have HS := Lib.hid (And.intro hs ht)
    clear hs ht HP
    go_wp2_with fail
    refine (hN _).mono ?_
    rintro e w2 ⟨rfl, rfl⟩
    obtain ⟨c, n, hrun, hcn⟩ := hV w2
    have hrun' := (run_convert_ff (P := Tryd.prog) Tryd.underlying86 Tryd.underlying24 w2).trans hrun
    have HC := Lib.hid hcn
    clear hN hV hrun hcn
    go_wp2
    go_ret
    have hr := HR.out
    simp at hr
    subst hr
    exact ⟨c, rfl, HC.out.trans (show cnarrow (canon .f64 9218868437227405312) = (some 2139095040 : CF) by decide +kernel), src_drewN n HS.out⟩
  · have hN := minf_calls
    have hV := fun W : World => (run_narrow (P := Tryd.prog) 18442240474082181120 W (by decide))
    clear hx1 hx2
    go_enter Tryd.func47, Tryd.ntmps47
    go_wp2_with fail
    refine (HP.out).mono ?_
    rintro e w1 ⟨rfl, hs, ht⟩
    have HS := Lib.hid (And.intro hs ht)
    clear hs ht HP
    go_wp2_with fail
    refine (hN _).mono ?_
    rintro e w2 ⟨rfl, rfl⟩
    obtain ⟨c, n, hrun, hcn⟩ := hV w2
    have hrun' := (run_convert_ff (P := Tryd.prog) Tryd.underlying86 Tryd.underlying24 w2).trans hrun
    have HC := Lib.hid hcn
    clear hN hV hrun hcn
    go_wp2
    go_ret
    have hr := HR.out
    simp at hr
    subst hr
    exact ⟨c, rfl, HC.out.trans (show cnarrow (canon .f64 18442240474082181120) = (some 4286578688 : CF) by decide +kernel), src_drewN n HS.out⟩
  · have hV : ∀ w : World, (callFunc 49 #[.int .u32 2147483648]).run Tryd.prog w = .ok (.value (.float .f32 2147483648)) w := fun W : World => run_frombits 2147483648 W
    clear hx1 hx2
    go_enter Tryd.func47, Tryd.ntmps47
    go_wp2_with fail
    refine (HP.out).mono ?_
    rintro e w1 ⟨rfl, hs, ht⟩
    have HS := Lib.hid (And.intro hs ht)
    clear hs ht HP
    go_wp2
    go_ret
    have hr := HR.out
    simp at hr
    subst hr
    exact ⟨2147483648, rfl, (show canon .f32 2147483648 = (some 2147483648 : CF) by decide +kernel), HS.out⟩
  · clear hx1 hx2
    obtain ⟨hy1, hy2⟩ := pickL_bounds (zs := zs) (at_ + 1) s1 16777220 (by decide)
    obtain ⟨y, hy⟩ : ∃ y : Nat, pickL zs (at_ + 1) s1 16777220 = y := ⟨_, (Int.toNat_of_nonneg hy1).symm⟩
    have hr := HR.out
    simp at hr
    rw [hy] at hy2 hr
    have HRR := Lib.hid hr
    have HY := Lib.hid hy
    have hV := run_frombits y
    have hy3 : y < 16777220 := by omega
    clear hy1 hy2 hr hy HR
    go_enter Tryd.func47, Tryd.ntmps47
    go_wp2_with fail
    refine (HP.out).mono ?_
    rintro e w1 ⟨rfl, hs, ht⟩
    have hL := pick_large b v zs (at_ + 1) s1 16777220 w1 hs (by have := HL.out; omega) (by have := HL.out; omega) (by decide)
    rw [HY.out] at hL
    have HS := Lib.hid ht
    clear hs ht HP
    go_wp2_with fail
    refine hL.mono ?_
    rintro e w2 ⟨rfl, hs, ht⟩
    have HS2 := Lib.hid (And.intro hs (HS.out.trans ht))
    clear hs ht hL HS
    go_wp2
    go_ret
    have hr := HRR.out
    subst hr
    exact ⟨y, rfl, by simp, HS2.out⟩
  · clear hx1 hx2
    obtain ⟨hy1, hy2⟩ := pickL_bounds (zs := zs) (at_ + 1) s1 1073741824 (by decide)
    obtain ⟨hz1, hz2⟩ := pickS_bounds (zs := zs) (at_ + 1 + 2) (seedNext zs (at_ + 1 + 1) (seedNext zs (at_ + 1) s1)) 4 (by decide)
    obtain ⟨y, hy⟩ : ∃ y : Nat, pickL zs (at_ + 1) s1 1073741824 = y := ⟨_, (Int.toNat_of_nonneg hy1).symm⟩
    obtain ⟨z, hz⟩ : ∃ z : Nat, pickS zs (at_ + 1 + 2) (seedNext zs (at_ + 1 + 1) (seedNext zs (at_ + 1) s1)) 4 = z := ⟨_, (Int.toNat_of_nonneg hz1).symm⟩
    have hr := HR.out
    simp at hr
    rw [hy] at hy2
    rw [hz] at hz2
    rw [hy, hz] at hr
    have HRR := Lib.hid hr
    have HY := Lib.hid hy
    have HZ := Lib.hid hz
    have hV : ∀ w : World, (callFunc 49 #[.int .u32 ((y : Int) * 4 + (z : Int))]).run Tryd.prog w = .ok (.value (.float .f32 (y * 4 + z))) w := fun W => by
      have := run_frombits (y * 4 + z) W
      rw [show (((y * 4 + z : Nat)) : Int) = (y : Int) * 4 + (z : Int) by omega] at this
      exact this
    have hy3 : y < 1073741824 := by omega
    have hz3 : z < 4 := by omega
    clear hy1 hy2 hz1 hz2 hr hy hz HR
    go_enter Tryd.func47, Tryd.ntmps47
    go_wp2_with fail
    refine (HP.out).mono ?_
    rintro e w1 ⟨rfl, hs, ht⟩
    have hL := pick_large b v zs (at_ + 1) s1 1073741824 w1 hs (by have := HL.out; omega) (by have := HL.out; omega) (by decide)
    rw [HY.out] at hL
    have HS := Lib.hid ht
    clear hs ht HP
    go_wp2_with fail
    refine hL.mono ?_
    rintro e w2 ⟨rfl, hs, ht⟩
    have hM := pick_small b v zs (at_ + 1 + 2) (seedNext zs (at_ + 1 + 1) (seedNext zs (at_ + 1) s1)) 4 w2 hs (by have := HL.out; omega) (by have := HL.out; omega) (by decide) (by decide)
    rw [HZ.out] at hM
    have HS2 := Lib.hid (HS.out.trans ht)
    clear hs ht hL HS
    go_wp2_with fail
    refine hM.mono ?_
    rintro e w3 ⟨rfl, hs, ht⟩
    have HS3 := Lib.hid (And.intro hs (HS2.out.trans ht))
    clear hs ht hM HS2
    go_wp2
    go_ret
    have hr := HRR.out
    subst hr
    exact ⟨y * 4 + z, rfl, by first | rfl | (simp; done) | (congr 1; omega), HS3.out⟩
  · clear hx1 hx2
    obtain ⟨hy1, hy2⟩ := pickL_bounds (zs := zs) (at_ + 1) s1 2000000 (by decide)
    have hr := HR.out
    simp at hr
    generalize hy : pickL zs (at_ + 1) s1 2000000 = y at *
    have HRR := Lib.hid hr
    have HY := Lib.hid hy
    have hw : wrap64 (y - 1000000) = y - 1000000 := by first | (simp [wrap64]; omega) | (unfold wrap64; omega)
    clear hr hy HR
    go_enter Tryd.func47, Tryd.ntmps47
    go_wp2_with fail
    refine (HP.out).mono ?_
    rintro e w1 ⟨rfl, hs, ht⟩
    have hL := pick_large b v zs (at_ + 1) s1 2000000 w1 hs (by have := HL.out; omega) (by have := HL.out; omega) (by decide)
    rw [HY.out] at hL
    have HS := Lib.hid ht
    clear hs ht HP
    go_wp2_with fail
    refine hL.mono ?_
    rintro e w2 ⟨rfl, hs, ht⟩
    obtain ⟨c, n, hrun, hcn⟩ := run_farith (P := Tryd.prog) w2 .quo 24 .f32 (floatOfInt .f32 (y - 1000000)) 1148846080 (.inr (.inr (.inr rfl)))
    have HC := Lib.hid hcn
    have HS2 := Lib.hid (And.intro hs (HS.out.trans ht))
    clear hs ht hL HS hcn
    go_wp2
    go_ret
    have hr := HRR.out
    subst hr
    exact ⟨c, rfl, HC.out, src_drewN n HS2.out⟩
  · have hr := HR.out
    rw [if_neg (by omega), if_neg (by omega), if_neg (by omega), if_neg (by omega), if_neg (by omega), if_neg (by omega), if_neg (by omega)] at hr
    have HRR := Lib.hid hr
    have n0 : ¬ x = 0 := by omega
    have n1 : ¬ x = 1 := by omega
    have n2 : ¬ x = 2 := by omega
    have n3 : ¬ x = 3 := by omega
    have n4 : ¬ x = 4 := by omega
    have n5 : ¬ x = 5 := by omega
    have n6 : ¬ x = 6 := by omega
    clear hr HR
    go_enter Tryd.func47, Tryd.ntmps47
    go_wp2_with fail
    refine (HP.out).mono ?_
    rintro e w1 ⟨rfl, hs, ht⟩
    have hL := plain_calls b v zs (at_ + 1) s1 w1 hs (by have := HL.out; omega) (by have := HL.out; omega)
    have HS := Lib.hid ht
    clear hs ht HP
    go_wp2_with fail
    refine hL.mono ?_
    rintro e w2 ⟨rfl, hs, ht⟩
    have HS2 := Lib.hid (And.intro hs (HS.out.trans ht))
    clear hs ht hL HS
    go_wp2
    go_ret
    have hr := HRR.out
    subst hr
    exact ⟨_, rfl, rfl, HS2.out⟩

theorem anyR_lt {zs : List Int} {at_ : Nat} {seed : Int} {c : Nat} (h : (anyR zs at_ seed).1 = some c) : c < 4294967296 := by
  unfold anyR at h
  have cn : ∀ {n : Nat}, n < 4294967296 → canon .f32 n = some c → c < 4294967296 := fun hn hc => by
    obtain ⟨e, _⟩ := canon_eq_some hc
    omega
  dsimp only at h
  split at h
  · cases h
  · split at h
    · cases h; decide
    · split at h
      · cases h; decide
      · split at h
        · cases h; decide
        · split at h
          · obtain ⟨h1, h2⟩ := pickL_bounds (zs := zs) (at_ + 1) (seedNext zs at_ seed) 16777220 (by decide)
            exact cn (by omega) h
          · split at h
            · obtain ⟨h1, h2⟩ := pickL_bounds (zs := zs) (at_ + 1) (seedNext zs at_ seed) 1073741824 (by decide)
              obtain ⟨h3, h4⟩ := pickS_bounds (zs := zs) (at_ + 1 + 2) (seedNext zs (at_ + 1 + 1) (seedNext zs (at_ + 1) (seedNext zs at_ seed))) 4 (by decide)
              exact cn (by omega) h
            · split at h
              · have h' : cbin .quo .f32 (canon .f32 (floatOfInt .f32 (pickL zs (at_ + 1) (seedNext zs at_ seed) 2000000 - 1000000))) (canon .f32 1148846080) = some c := h
                rw [cbin_canon] at h'
                have := floatBits_wf h'
                simpa [Lit.wf] using this
              · obtain ⟨h1, h2⟩ := pickS_bounds (zs := zs) (at_ + 1) (seedNext zs at_ seed) 129 (by decide)
                exact cn (plain_fact h1 h2).2.1 h

set_option maxHeartbeats 1000000 in
set_option maxRecDepth 100000 in
theorem a2any (v : Value) (zs : List Int) (w : World) (h : BytesV v zs w) (hl : zs.length ≤ 100000) :
    Calls Tryd.prog 21 #[v] w fun e w' => ∃ x, e = .returned (.float .f32 x) ∧ canon .f32 x = (anyR zs 0 0).1 ∧ Kept w w' := by
  have HF := Lib.hid (from_calls v zs w h)
  have HL := Lib.hid hl
  clear h hl
  go_enter Tryd.func21, Tryd.ntmps21
  go_wp2_with fail
  refine (HF.out).mono ?_
  rintro e w1 ⟨rfl, hs, hk, hz⟩
  have HP := Lib.hid (any_calls w.heap.size v zs 0 0 w1 hs (by decide) HL.out)
  have HK := Lib.hid hk
  clear hs hk hz HF HL
  go_wp2_with fail
  refine (HP.out).mono ?_
  rintro e w2 ⟨x, rfl, hx, hs, ht⟩
  have HK2 := Lib.hid (And.intro hx (kept_step HK.out ht (Nat.le_refl _)))
  clear hs ht HP HK hx
  go_wp2
  go_ret
  exact ⟨x, rfl, HK2.out.1, HK2.out.2⟩

/-- The source's place and seed behind k numbers. -/
def anySt (zs : List Int) : Nat → Nat × Int
  | 0 => (0, 0)
  | k + 1 => (anyR zs (anySt zs k).1 (anySt zs k).2).2
def anyAt (zs : List Int) (k : Nat) : CF := (anyR zs (anySt zs k).1 (anySt zs k).2).1

theorem anyR_at (zs : List Int) (a : Nat) (s : Int) : (anyR zs a s).2.1 ≤ a + 4 := by
  unfold anyR
  dsimp only
  repeat' split
  all_goals (dsimp only; omega)
theorem anySt_at (zs : List Int) : ∀ k, (anySt zs k).1 ≤ 4 * k
  | 0 => Nat.le_refl _
  | k + 1 => by
    have h1 := anySt_at zs k
    have h2 := anyR_at zs (anySt zs k).1 (anySt zs k).2
    show (anyR zs (anySt zs k).1 (anySt zs k).2).2.1 ≤ _
    omega
end Go.Proofs.YtmieiaakjiklfaaDoor
