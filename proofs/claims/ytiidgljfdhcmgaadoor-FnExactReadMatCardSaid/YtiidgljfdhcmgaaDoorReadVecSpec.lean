/-
  The reference reads a vector. Conditions: the text is not too long.
-/
import Derived.Test.YtiidgljfdhcmgaaDoorNumsSpec
import Derived.Test.YtiidgljfdhcmgaaDoorOwn3
import Derived.RegionTactic
import Derived.CellFam
namespace Go.Proofs.YtiidgljfdhcmgaaDoor
open Go.RowKit Go.Lib

/-- Three numbers, if a text says so. -/
def readVecR (l : List UInt8) : Option (Nat × Nat × Nat) :=
  match readAll (splitL 32 l) with
  | some [a, b, c] => some (a, b, c)
  | _ => none

theorem readAll_len : ∀ {ps : List (List UInt8)} {ns : List Nat}, readAll ps = some ns → ns.length = ps.length
  | [], ns, h => by cases h; rfl
  | p :: ps, ns, h => by
    simp only [readAll] at h
    split at h
    · rename_i n ms h1 h2
      cases h
      simp [readAll_len h2]
    · cases h

def vecV (a b c : Nat) : Value := .agg #[.float .f32 a, .float .f32 b, .float .f32 c]

def vecPost (l : List UInt8) (yes no : Value) (w : World) (e : Ending) (w' : World) : Prop :=
  Kept w w' ∧ match readVecR l with
    | some (a, b, c) => e = .returned (.tuple #[vecV a b c, yes])
    | none => e = .returned (.tuple #[vecV 0 0 0, no])

theorem vecPost.yes {l : List UInt8} {y n : Value} {w w' : World} {a b c : Nat} (h : readVecR l = some (a, b, c)) (k : Kept w w') : vecPost l y n w (.returned (.tuple #[vecV a b c, y])) w' := by
  unfold vecPost; rw [h]; exact ⟨k, rfl⟩
theorem vecPost.no {l : List UInt8} {y n : Value} {w w' : World} (h : readVecR l = none) (k : Kept w w') : vecPost l y n w (.returned (.tuple #[vecV 0 0 0, n])) w' := by
  unfold vecPost; rw [h]; exact ⟨k, rfl⟩

set_option maxHeartbeats 4000000 in
set_option maxRecDepth 100000 in
theorem l01readvec (t : ByteArray) (w : World) (ht : t.size ≤ 1048576) :
    Calls Tryd.prog 41 #[.string t] w (vecPost t.data.toList (.bool true) (.bool false) w) := by
  have hS : ∀ W, Calls Tryd.prog 43 #[.string t, .int .u8 32] W (splitPost (splitL 32 t.data.toList) W) := fun W => l01split t 32 W ht
  have hlen := splitL_len 32 t.data.toList
  rw [← ba_size] at hlen
  have hne : 0 < (splitL 32 t.data.toList).length := List.length_pos_iff.2 (splitL_ne _ _)
  obtain ⟨ps, hps⟩ : ∃ ps, ps = splitL 32 t.data.toList := ⟨_, rfl⟩
  have hrv : readVecR t.data.toList = match readAll ps with | some [a, b, c] => some (a, b, c) | _ => none := by rw [hps]; rfl
  rw [← hps] at hS hlen hne
  have HRV := Lib.hid hrv
  have HS := Lib.hid hS
  have hp1 : ps.length ≤ 1048577 := by omega
  have HNE := Lib.hid hne
  clear hps hrv hS hlen hne
  go_enter Tryd.func41, Tryd.ntmps41
  go_wp2_with fail
  refine (HS.out _).mono ?_
  rintro e w1 ⟨g, cap, rfl, hg, hrow, hb1⟩
  have hN := l01numbers ps g cap w1 hp1 HNE.out hrow hg
  have hs1 := hb1.size
  simp at hs1
  have HB1 := Lib.hid hb1
  have hk1 : Kept w w1 := ((Kept.refl w).alloc _).trans (kept_below hb1)
  have HK1 := Lib.hid hk1
  clear hrow hg hb1 hk1
  cases hr : readAll ps with
  | none =>
    have hN' : Calls Tryd.prog 51 #[.slice (some ⟨g, 0, none⟩) ps.length cap] w1 fun e w' => ∃ v, e = .returned (.tuple #[v, .bool false]) ∧ Below w1.heap.size w1 w' := hN.mono fun e w' h => by unfold numsPost at h; rw [hr] at h; obtain ⟨h1, v, h2⟩ := h; exact ⟨v, h2, h1⟩
    have hno : readVecR t.data.toList = none := by rw [HRV.out, hr]
    have HNo := Lib.hid hno
    clear hN hr hno
    go_wp2_with fail
    refine hN'.mono ?_
    rintro e w2 ⟨v, rfl, hb2⟩
    have hk2 := HK1.out.trans (kept_below hb2)
    have HK2 := Lib.hid hk2
    have HOwn := Lib.hid (((own3_alloc w 29 (.float .f32 0) (.float .f32 0) (.float .f32 0)).kept (kept_below HB1.out)).kept (kept_below hb2))
    clear hk2 hb2
    obtain ⟨wa, wb, wc, s0, s1, s2, c0, c1, c2, hkc, -⟩ := store3 (P := Tryd.prog) HOwn.out 0 0 0
    have HKC := Lib.hid (hkc w (Nat.le_refl _) HK2.out)
    clear hkc
    go_wp2
    exact bodyPost_ret (v := .tuple #[vecV 0 0 0, .bool false]) (by simp [results, Tryd.results41, go_sem, vecV, c0, c1, c2]) rfl (vecPost.no HNo.out HKC.out)
  | some ns =>
    by_cases h3 : ps.length = 3
    · rw [h3] at hN
      have hN' : Calls Tryd.prog 51 #[.slice (some ⟨g, 0, none⟩) 3 cap] w1 fun e w' => ∃ g' cap', e = .returned (.tuple #[.slice (some ⟨g', 0, none⟩) 3 cap', .bool true]) ∧ Below w1.heap.size w1 w' ∧ (∀ j n, ns[j]? = some n → w'.cell? ⟨g', j, none⟩ = some (.float .f32 n)) ∧ ns.length = 3 :=
        hN.mono fun e w' h => by unfold numsPost at h; rw [hr, h3] at h; obtain ⟨h1, g', cap', h2, h4, h5⟩ := h; exact ⟨g', cap', h2, h1, h4, h5⟩
      have HRA := Lib.hid hr
      clear hN hr
      rw [h3]
      clear h3
      go_wp2_with fail
      refine hN'.mono ?_
      rintro e w2 ⟨g', cap', rfl, hb2, hcells, hnl⟩
      match ns, hnl with
      | [a, b, c], _ =>
      have hyes : readVecR t.data.toList = some (a, b, c) := by rw [HRV.out, HRA.out]
      have HYes := Lib.hid hyes
      have hk2 := HK1.out.trans (kept_below hb2)
      have HK2 := Lib.hid hk2
      have HOwn := Lib.hid (((own3_alloc w 29 (.float .f32 0) (.float .f32 0) (.float .f32 0)).kept (kept_below HB1.out)).kept (kept_below hb2))
      have l0 := hcells 0 a rfl
      have l1 := hcells 1 b rfl
      have l2 := hcells 2 c rfl
      clear hk2 hb2 hcells hyes
      obtain ⟨wa, wb, wc, s0, s1, s2, c0, c1, c2, hkc, -⟩ := store3 (P := Tryd.prog) (HOwn.out.kept (Kept.refl w2).drew) a b c
      have HKC := Lib.hid (hkc w (Nat.le_refl _) HK2.out.drew)
      clear hkc
      go_wp2_with fail
      go_region
      go_wp2
      exact bodyPost_ret (v := .tuple #[vecV a b c, .bool true]) (by simp [results, Tryd.results41, go_sem, vecV, c0, c1, c2]) rfl (vecPost.yes HYes.out HKC.out)
    · have hne3 : ¬ ((ps.length : Int) = 3) := by omega
      have hN' : Calls Tryd.prog 51 #[.slice (some ⟨g, 0, none⟩) ps.length cap] w1 fun e w' => ∃ g' cap', e = .returned (.tuple #[.slice (some ⟨g', 0, none⟩) ps.length cap', .bool true]) ∧ Below w1.heap.size w1 w' :=
        hN.mono fun e w' h => by unfold numsPost at h; rw [hr] at h; obtain ⟨h1, g', cap', h2, h4, h5⟩ := h; exact ⟨g', cap', h2, h1⟩
      have hnl : ns.length = ps.length := by
        clear hN hN'
        exact readAll_len hr
      have hno : readVecR t.data.toList = none := by
        rw [HRV.out, hr]
        match ns, hnl with
        | [], _ => rfl
        | [_], _ => rfl
        | [_, _], _ => rfl
        | [_, _, _], h => exact absurd h.symm h3
        | _ :: _ :: _ :: _ :: _, _ => rfl
      have HNo := Lib.hid hno
      clear hN hr hno hnl h3
      go_wp2_with fail
      refine hN'.mono ?_
      rintro e w2 ⟨g', cap', rfl, hb2⟩
      have hk2 := HK1.out.trans (kept_below hb2)
      have HK2 := Lib.hid hk2
      have HOwn := Lib.hid (((own3_alloc w 29 (.float .f32 0) (.float .f32 0) (.float .f32 0)).kept (kept_below HB1.out)).kept (kept_below hb2))
      clear hk2 hb2
      obtain ⟨wa, wb, wc, s0, s1, s2, c0, c1, c2, hkc, -⟩ := store3 (P := Tryd.prog) HOwn.out 0 0 0
      have HKC := Lib.hid (hkc w (Nat.le_refl _) HK2.out)
      clear hkc
      go_wp2
      exact bodyPost_ret (v := .tuple #[vecV 0 0 0, .bool false]) (by simp [results, Tryd.results41, go_sem, vecV, c0, c1, c2]) rfl (vecPost.no HNo.out HKC.out)
end Go.Proofs.YtiidgljfdhcmgaaDoor
