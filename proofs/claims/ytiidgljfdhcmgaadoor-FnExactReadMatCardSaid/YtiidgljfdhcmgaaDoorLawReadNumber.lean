/-
  The law 'FnExactReadNumber': its walk. Conditions: what the library's variables hold.
-/
import Derived.Test.YtiidgljfdhcmgaaDoorReadNum2
namespace Go.Proofs.YtiidgljfdhcmgaaDoor
open Go.RowKit Go.Sx

set_option maxRecDepth 100000 in
theorem same_f64 {x y : Nat} (h : canon .f64 x = canon .f64 y) (w : World) : Calls Tryd.prog 22 #[.float .f64 x, .float .f64 y] w fun e w' => e = .returned (.bool true) ∧ Kept w w' := by
  have hrun : runA Tryd.prog (fun _ _ => none) 1000 22 [.sc (.flt .f64 (.arg 0)), .sc (.flt .f64 (.arg 0))] [] isTrue = true := by kernel_rfl
  obtain ⟨sv, fs', h1, _, h3⟩ := runA_sound (E := ⟨fun _ => canon .f64 x, fun _ x => x, fun _ x _ => x⟩) mixed names (none_ok _ _) hrun (fun p hp => by cases hp)
  have := isTrue_spec h1
  subst this
  refine (h3 [.float .f64 x, .float .f64 y] w ⟨rfl, fun i s v hs hv => ?_⟩).mono fun e w' ⟨v, he, hr, hg⟩ => ⟨by rw [he]; exact congrArg Ending.returned hr, kept_grown hg⟩
  match i, hs with
  | 0, hs => simp at hs hv; subst hs; subst hv; exact ⟨x, rfl, rfl⟩
  | 1, hs => simp at hs hv; subst hs; subst hv; exact ⟨y, rfl, h.symm⟩

theorem run_widen (b : Nat) (W : World) : ∃ r n, (convert 22 40 (.float .f32 b)).run Tryd.prog W = .ok (.float .f64 r) (W.drewN n) ∧ canon .f64 r = cwide (canon .f32 b) := by
  obtain ⟨r, n, h1, h2⟩ := run_wide (P := Tryd.prog) b W
  exact ⟨r, n, (run_convert_ff Tryd.underlying22 Tryd.underlying40 W).trans h1, h2⟩

/-- One number and code for both. -/
theorem both_read (t : ByteArray) (hlim : t.size ≤ 281474976710656) : ∃ (n : Nat) (c : Int),
    (∀ w, Calls Tryd.prog 20 #[.string t] w fun e w' => e = .returned (.tuple #[.float .f32 n, .int .i64 c]) ∧ Kept w w') ∧
    (∀ w, Laid w → Calls Tryd.prog 21 #[.string t] w fun e w' => e = .returned (.tuple #[.float .f32 n, .int .i64 c]) ∧ Kept w w') := by
  cases hr : readR t.data.toList with
  | some n =>
    refine ⟨n, 0, fun w => (spec_read t w).mono fun e w' h => ?_, fun w hL => (impl_read t hlim w hL).mono fun e w' h => ?_⟩
    all_goals (unfold Nums at h; rw [hr] at h; exact ⟨h.2, h.1⟩)
  | none =>
    refine ⟨0, 5, fun w => (spec_read t w).mono fun e w' h => ?_, fun w hL => (impl_read t hlim w hL).mono fun e w' h => ?_⟩
    all_goals (unfold Nums at h; rw [hr] at h; exact ⟨h.2, h.1⟩)

set_option maxHeartbeats 1000000 in
set_option maxRecDepth 100000 in
theorem law_read (t : ByteArray) (w : World) (ht : t.size ≤ maxLen) (hL : Laid w) : Calls Tryd.prog 7 #[.string t] w fun e w' => e = .returned (.bool true) ∧ Kept w w' := by
  unfold maxLen at ht
  by_cases hs : 1048576 < t.size
  · have hs' : (1048576 : Int) < t.size := by omega
    clear hs hL
    go_enter Tryd.func7, Tryd.ntmps7
    go_wp2
    go_ret
    exact ⟨rfl, Kept.refl _⟩
  · have hs' : t.size ≤ 1048576 := by omega
    obtain ⟨n, c, hS, hI⟩ := both_read t (by omega)
    have HL := Lib.hid hL
    have HS := Lib.hid hS
    have HI := Lib.hid hI
    clear hs hL hS hI ht
    go_enter Tryd.func7, Tryd.ntmps7
    go_wp2_with fail
    refine (HS.out _).mono ?_
    rintro e w1 ⟨rfl, hk1⟩
    have HK1 := Lib.hid hk1
    clear hk1
    go_wp2_with fail
    refine (HI.out _ (HL.out.kept HK1.out)).mono ?_
    rintro e w2 ⟨rfl, hk2⟩
    have HK2 := Lib.hid (HK1.out.trans hk2)
    clear hk2
    obtain ⟨r1, m1, h1, c1⟩ := run_widen n w2
    obtain ⟨r2, m2, h2, c2⟩ := run_widen n (w2.drewN m1)
    have HSame := Lib.hid (same_f64 (c1.trans c2.symm))
    have HK3 : Hid (Kept w ((w2.drewN m1).drewN m2)) := (HK2.out.drewN _).drewN _
    clear c1 c2
    obtain ⟨w3, hw3⟩ : ∃ w3, w3 = (w2.drewN m1).drewN m2 := ⟨_, rfl⟩
    rw [← hw3] at h2 HK3
    clear hw3
    go_wp2_with fail
    refine (HSame.out _).mono ?_
    rintro e w4 ⟨rfl, hk4⟩
    clear h1 h2
    go_wp2
    go_ret
    exact ⟨rfl, HK3.out.trans hk4⟩
end Go.Proofs.YtiidgljfdhcmgaaDoor
