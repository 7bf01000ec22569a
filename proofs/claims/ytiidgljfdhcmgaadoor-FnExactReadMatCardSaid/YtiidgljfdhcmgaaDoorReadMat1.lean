/-
  The reference's ReadMat. Conditions: the text is not too long.
-/
import Derived.Test.YtiidgljfdhcmgaaDoorReadMatSpec
namespace Go.Proofs.YtiidgljfdhcmgaaDoor
open Go.RowKit Go.Lib

set_option maxHeartbeats 8000000 in
set_option maxRecDepth 100000 in
theorem spec_readmat (t : ByteArray) (w : World) (ht : t.size ≤ 1048576) :
    Calls Tryd.prog 26 #[.string t] w (matPost t.data.toList w) := by
  have hS := l01split t 10 (w.alloc (.cells zero9 34)) ht
  have hO2 := own9_alloc w 34 (fun _ => 0)
  have hK0 : Kept w (w.alloc (.cells zero9 34)) := (Kept.refl w).alloc _
  have hpl : ∀ p ∈ splitL 10 t.data.toList, p.length ≤ 1048576 := fun p hp => by have := splitL_piece 10 _ p hp; rw [← ba_size] at this; omega
  have hne := splitL_ne 10 t.data.toList
  obtain ⟨ps, hps⟩ : ∃ ps, ps = splitL 10 t.data.toList := ⟨_, rfl⟩
  rw [← hps] at hS hpl hne
  by_cases h4 : ps.length = 4
  · obtain ⟨p, q, r, s, rfl⟩ : ∃ p q r s, ps = [p, q, r, s] := by
      match ps, h4 with
      | [p, q, r, s], _ => exact ⟨p, q, r, s, rfl⟩
    by_cases hs : s = []
    · subst hs
      have hy := hps.symm
      have HO2 := Lib.hid hO2
      have HK0 := Lib.hid hK0
      have HP := Lib.hid hpl
      have HPS := Lib.hid hy
      clear hO2 hK0 hpl hne hps h4 hy
      unfold zero9 nineV at hS
      go_enter Tryd.func26, Tryd.ntmps26
      go_wp2_with fail
      refine hS.mono ?_
      rintro e w1 ⟨g, cap, rfl, hg, hrow, hb1⟩
      have l3 : w1.cell? ⟨g, 3, none⟩ = some (.string ⟨#[]⟩) := hrow 3 [] rfl
      have HK1 := Lib.hid (kept_below hb1)
      have hown := own9_alloc w1 34 (fun _ => 0)
      obtain ⟨v1, v2, v3, v4, v5, v6, v7, v8, v9, s0, s1, s2, s3, s4, s5, s6, s7, s8, hc, hm⟩ := store9 Tryd.prog hown (fun _ => 0)
      have hsz1 : w.heap.size < w1.heap.size := by have := HK1.out.size; simp at this; omega
      have hR0 : RowsIn w g w1.heap.size 0 [p, q, r, []] v9 := by
        have hka : Kept w1 (w1.alloc (.cells (nineV fun _ => 0) 34)) := (Kept.refl w1).alloc _
        refine ⟨((HK0.out.trans HK1.out).trans hka).mod hm (by omega), ((HO2.out.kept HK1.out (by omega)).kept hka (by omega)).same (hm.block _ (by omega)), fun o ho => ⟨⟨_, hc o ho⟩, (hm.froz o).trans (hown o ho).2⟩, fun j x hx => ?_, ?_, fun j x hj => by omega⟩
        · exact (World.cell?_of_block (w := w1.alloc (.cells (nineV fun _ => 0) 34)) (a := ⟨g, j, none⟩) (hm.block g (by omega))).trans ((hka.cell (p := ⟨g, j, none⟩) hg).trans (hrow j x hx))
        · rw [hm.size]; simp; omega
      have HR0 := Lib.hid hR0
      have HG := Lib.hid (And.intro hg hsz1)
      unfold nineV at s0
      clear hc hm hg hrow hb1 hown hR0 hsz1
      go_wp2_with fail
      clear s0 s1 s2 s3 s4 s5 s6 s7 s8 l3
      go_loopw [6] (fun vi wr => ∃ k : Nat, k ≤ 3 ∧ vi = .int .i64 k ∧ Hid (RowsIn w g w1.heap.size k [p, q, r, []] wr)) (fun vi _ => 3 - (RowKit.intOf vi).toNat)
      case atStart => exact ⟨0, by omega, rfl, HR0⟩
      case round =>
        obtain ⟨k, hk, rfl, hh⟩ := hrel
        rename World => W0
        by_cases hlt : k < 3
        · obtain ⟨y, hy⟩ : ∃ y, [p, q, r, ([] : List UInt8)][k]? = some y := ⟨_, List.getElem?_eq_getElem (by simp; omega)⟩
          have hcell : W0.cell? ⟨g, k, none⟩ = some (.string ⟨y.toArray⟩) := hh.out.row k y hy
          have hX := l01readvec ⟨y.toArray⟩ W0 (by rw [ba_size]; exact HP.out y (List.mem_of_getElem? hy))
          have hXe : (⟨y.toArray⟩ : ByteArray).data.toList = y := rfl
          rw [hXe] at hX
          obtain ⟨x, hx⟩ : ∃ x : ByteArray, x = ⟨y.toArray⟩ := ⟨_, rfl⟩
          rw [← hx] at hcell hX
          have HY := Lib.hid hy
          clear hx hXe hy
          cases hr : readVecR y with
          | none =>
            have hX' : Calls Tryd.prog 41 #[.string x] W0 fun e w' => e = .returned (.tuple #[.agg #[.float .f32 0, .float .f32 0, .float .f32 0], .bool false]) ∧ Kept W0 w' := hX.mono fun e w' h => by unfold vecPost at h; rw [hr] at h; exact ⟨h.2, h.1⟩
            have HNo := Lib.hid (readMatR_row HPS.out hlt HY.out hr)
            clear hX hr
            go_wp2_with fail
            refine hX'.mono ?_
            rintro e w2 ⟨rfl, hk2⟩
            have hsf := fun (W : World) (o b : Nat) => run_store_f32 Tryd.prog W ⟨w2.heap.size, o, none⟩ b
            have hR := (hh.out.keep hk2).keep ((Kept.refl w2).alloc (.cells #[.float .f32 0, .float .f32 0, .float .f32 0] 29))
            obtain ⟨z1, z2, z3, z4, z5, z6, z7, z8, z9, s0, s1, s2, s3, s4, s5, s6, s7, s8, hc, hm⟩ := store9 Tryd.prog hR.own2 (fun _ => 0)
            have c0 := hc 0 (by omega)
            have c1 := hc 1 (by omega)
            have c2 := hc 2 (by omega)
            have c3 := hc 3 (by omega)
            have c4 := hc 4 (by omega)
            have c5 := hc 5 (by omega)
            have c6 := hc 6 (by omega)
            have c7 := hc 7 (by omega)
            have c8 := hc 8 (by omega)
            have HKC := Lib.hid (hR.kept.mod hm (Nat.le_refl _))
            clear hc hm hR hk2
            go_wp2
            exact bodyPost_ret (v := .tuple #[.agg (nineV fun _ => 0), .int .i64 5]) (by simp [results, Tryd.results26, go_sem, nineV, c0, c1, c2, c3, c4, c5, c6, c7, c8]) rfl (matPost.no HNo.out HKC.out)
          | some abc =>
            obtain ⟨a, b, c⟩ := abc
            have hX' : Calls Tryd.prog 41 #[.string x] W0 fun e w' => e = .returned (.tuple #[.agg #[.float .f32 a, .float .f32 b, .float .f32 c], .bool true]) ∧ Kept W0 w' := hX.mono fun e w' h => by unfold vecPost at h; rw [hr] at h; exact ⟨h.2, h.1⟩
            have HRD := Lib.hid hr
            clear hX hr
            go_wp2_with fail
            refine hX'.mono ?_
            rintro e w2 ⟨rfl, hk2⟩
            have hsf := fun (W : World) (o b : Nat) => run_store_f32 Tryd.prog W ⟨w2.heap.size, o, none⟩ b
            have hR := (hh.out.keep hk2).keep ((Kept.refl w2).alloc (.cells #[.float .f32 a, .float .f32 b, .float .f32 c] 29))
            have HR := Lib.hid hR
            have hk' : k = 0 ∨ k = 1 ∨ k = 2 := by omega
            clear hR hk2
            rcases hk' with rfl | rfl | rfl
            · rw [show ((0 : Nat) : Int) = 0 from rfl]
              obtain ⟨wa, wb, wc, t0, t1, t2, own, c0, c1, c2, hrest, hm⟩ := step3 Tryd.prog HR.out.ownB (o0 := 0) (o1 := 1) (o2 := 2) (by omega) (by omega) (by omega) (by omega) (by omega) (by omega) a b c
              have HN := Lib.hid (HR.out.next hm own (by have := HG.out.1; omega) (by have := HG.out.2; omega) (by have := HG.out.2; omega) HY.out HRD.out c0 c1 c2 (fun o ho => hrest o (by omega) (by omega) (by omega)))
              clear own c0 c1 c2 hrest hm
              go_wp2_with fail
              go_roundw
              case rel => exact ⟨1, by omega, by first | rfl | go_num, HN⟩
              case measure => simp [RowKit.intOf]
            · rw [show ((1 : Nat) : Int) = 1 from rfl]
              obtain ⟨wa, wb, wc, t0, t1, t2, own, c0, c1, c2, hrest, hm⟩ := step3 Tryd.prog HR.out.ownB (o0 := 3) (o1 := 4) (o2 := 5) (by omega) (by omega) (by omega) (by omega) (by omega) (by omega) a b c
              have HN := Lib.hid (HR.out.next hm own (by have := HG.out.1; omega) (by have := HG.out.2; omega) (by have := HG.out.2; omega) HY.out HRD.out c0 c1 c2 (fun o ho => hrest o (by omega) (by omega) (by omega)))
              clear own c0 c1 c2 hrest hm
              go_wp2_with fail
              go_roundw
              case rel => exact ⟨2, by omega, by first | rfl | go_num, HN⟩
              case measure => simp [RowKit.intOf]
            · rw [show ((2 : Nat) : Int) = 2 from rfl]
              obtain ⟨wa, wb, wc, t0, t1, t2, own, c0, c1, c2, hrest, hm⟩ := step3 Tryd.prog HR.out.ownB (o0 := 6) (o1 := 7) (o2 := 8) (by omega) (by omega) (by omega) (by omega) (by omega) (by omega) a b c
              have HN := Lib.hid (HR.out.next hm own (by have := HG.out.1; omega) (by have := HG.out.2; omega) (by have := HG.out.2; omega) HY.out HRD.out c0 c1 c2 (fun o ho => hrest o (by omega) (by omega) (by omega)))
              clear own c0 c1 c2 hrest hm
              go_wp2_with fail
              go_roundw
              case rel => exact ⟨3, by omega, by first | rfl | go_num, HN⟩
              case measure => simp [RowKit.intOf]
        · have hk3 : k = 3 := by omega
          subst hk3
          obtain ⟨a, hyes, hcs⟩ := hh.out.all HPS.out
          have HYes := Lib.hid hyes
          have l0 := hcs 0 (by omega)
          have l1 := hcs 1 (by omega)
          have l2 := hcs 2 (by omega)
          have l3 := hcs 3 (by omega)
          have l4 := hcs 4 (by omega)
          have l5 := hcs 5 (by omega)
          have l6 := hcs 6 (by omega)
          have l7 := hcs 7 (by omega)
          have l8 := hcs 8 (by omega)
          obtain ⟨z1, z2, z3, z4, z5, z6, z7, z8, z9, s0, s1, s2, s3, s4, s5, s6, s7, s8, hc, hm⟩ := store9 Tryd.prog hh.out.own2 a
          have c0 := hc 0 (by omega)
          have c1 := hc 1 (by omega)
          have c2 := hc 2 (by omega)
          have c3 := hc 3 (by omega)
          have c4 := hc 4 (by omega)
          have c5 := hc 5 (by omega)
          have c6 := hc 6 (by omega)
          have c7 := hc 7 (by omega)
          have c8 := hc 8 (by omega)
          have HKC := Lib.hid (hh.out.kept.mod hm (Nat.le_refl _))
          clear hc hm hcs hyes
          go_wp2
          exact bodyPost_ret (v := .tuple #[.agg (nineV a), .int .i64 0]) (by simp [results, Tryd.results26, go_sem, nineV, c0, c1, c2, c3, c4, c5, c6, c7, c8]) rfl (matPost.yes HYes.out HKC.out)
    · have hno := Lib.hid (readMatR_bad hps.symm hs)
      have hemp : (⟨s.toArray⟩ : ByteArray).toList.isEmpty = false := by
        rw [ByteArray.toList_eq]; simp [hs]
      obtain ⟨x, hx⟩ : ∃ x : ByteArray, x = ⟨s.toArray⟩ := ⟨_, rfl⟩
      rw [← hx] at hemp
      have HO2 := Lib.hid hO2
      have HK0 := Lib.hid hK0
      have HX := Lib.hid hx
      clear hO2 hK0 hpl hne hps h4 hs hx
      unfold zero9 nineV at hS
      go_enter Tryd.func26, Tryd.ntmps26
      go_wp2_with fail
      refine hS.mono ?_
      rintro e w1 ⟨g, cap, rfl, hg, hrow, hb1⟩
      have l3 : w1.cell? ⟨g, 3, none⟩ = some (.string x) := by rw [HX.out]; exact hrow 3 s rfl
      have HK1 := Lib.hid (kept_below hb1)
      obtain ⟨v1, v2, v3, v4, v5, v6, v7, v8, v9, s0, s1, s2, s3, s4, s5, s6, s7, s8, hc, hm⟩ := store9 Tryd.prog (HO2.out.kept HK1.out (by omega)) (fun _ => 0)
      have c0 := hc 0 (by omega)
      have c1 := hc 1 (by omega)
      have c2 := hc 2 (by omega)
      have c3 := hc 3 (by omega)
      have c4 := hc 4 (by omega)
      have c5 := hc 5 (by omega)
      have c6 := hc 6 (by omega)
      have c7 := hc 7 (by omega)
      have c8 := hc 8 (by omega)
      have HKC := Lib.hid ((HK0.out.trans HK1.out).mod hm (Nat.le_refl _))
      clear hc hm hg hrow hb1
      go_wp2
      exact bodyPost_ret (v := .tuple #[.agg (nineV fun _ => 0), .int .i64 5]) (by simp [results, Tryd.results26, go_sem, nineV, c0, c1, c2, c3, c4, c5, c6, c7, c8]) rfl (matPost.no hno.out HKC.out)
  · have hno := Lib.hid (readMatR_len (by rw [← hps]; exact h4))
    have HO2 := Lib.hid hO2
    have HK0 := Lib.hid hK0
    obtain ⟨n, hn⟩ : ∃ n, n = ps.length := ⟨_, rfl⟩
    have hn4 : ¬ ((n : Int) = 4) := by omega
    have hS' : Calls Tryd.prog 43 #[.string t, .int .u8 10] (w.alloc (.cells zero9 34)) fun e w' => ∃ g cap, e = .returned (.slice (some ⟨g, 0, none⟩) n cap) ∧ Kept (w.alloc (.cells zero9 34)) w' :=
      hS.mono fun e w' h => by obtain ⟨g, cap, h1, _, _, h4⟩ := h; exact ⟨g, cap, by rw [hn]; exact h1, kept_below h4⟩
    clear hO2 hK0 hpl hne hps h4 hn hS
    unfold zero9 nineV at hS'
    go_enter Tryd.func26, Tryd.ntmps26
    go_wp2_with fail
    refine hS'.mono ?_
    rintro e w1 ⟨g, cap, rfl, hk1⟩
    have HK1 := Lib.hid hk1
    clear hk1
    obtain ⟨v1, v2, v3, v4, v5, v6, v7, v8, v9, s0, s1, s2, s3, s4, s5, s6, s7, s8, hc, hm⟩ := store9 Tryd.prog (HO2.out.kept HK1.out (by omega)) (fun _ => 0)
    have c0 := hc 0 (by omega)
    have c1 := hc 1 (by omega)
    have c2 := hc 2 (by omega)
    have c3 := hc 3 (by omega)
    have c4 := hc 4 (by omega)
    have c5 := hc 5 (by omega)
    have c6 := hc 6 (by omega)
    have c7 := hc 7 (by omega)
    have c8 := hc 8 (by omega)
    have HKC := Lib.hid ((HK0.out.trans HK1.out).mod hm (Nat.le_refl _))
    clear hc hm
    go_wp2
    exact bodyPost_ret (v := .tuple #[.agg (nineV fun _ => 0), .int .i64 5]) (by simp [results, Tryd.results26, go_sem, nineV, c0, c1, c2, c3, c4, c5, c6, c7, c8]) rfl (matPost.no hno.out HKC.out)
end Go.Proofs.YtiidgljfdhcmgaaDoor
