/-
  The program's ReadMat. Conditions: what the library's variables hold; the text is not too long.
-/
import Derived.Test.YtmieiaakjiklfaaDoorReadMat1
import Derived.StillTailTactics
namespace Go.Proofs.YtmieiaakjiklfaaDoor
open Go.RowKit Go.Lib

/-- What a touch of row k leaves. -/
theorem RowsIn.touched {w : World} {g B k : Nat} {ps : List (List UInt8)} {wr wr' : World} (h : RowsIn w g B k ps wr) (ht : Touch B (3 * k) wr wr') (h2 : w.heap.size ≠ B) (hw : w.heap.size ≤ B) : Kept w wr' ∧ OwnN wr' w.heap.size 9 :=
  ⟨h.kept.touch ht hw, h.own2.same (ht.block _ (h.own2.lt (by omega)) h2)⟩

theorem RowsIn.laid {w : World} {g B k : Nat} {ps : List (List UInt8)} {wr wr' : World} (h : RowsIn w g B k ps wr) (ht : Touch B (3 * k) wr wr') (hg : g ≠ B) (h2 : w.heap.size ≠ B) (hw : w.heap.size ≤ B)
    {x : List UInt8} (hx : ps[k]? = some x) {a b c : Nat} (hr : readVecR x = some (a, b, c)) (c0 : wr'.cell? ⟨B, 3 * k, none⟩ = some (.float .f32 a)) (c1 : wr'.cell? ⟨B, 3 * k + 1, none⟩ = some (.float .f32 b)) (c2 : wr'.cell? ⟨B, 3 * k + 2, none⟩ = some (.float .f32 c)) :
    RowsIn w g B (k + 1) ps wr' := by
  obtain ⟨hk, ho⟩ := h.touched ht h2 hw
  refine ⟨hk, ho, fun o hoo => ?_, fun j p hp => ?_, Nat.lt_of_lt_of_le h.lt ht.size, fun j y hj hy => ?_⟩
  · obtain ⟨⟨x1, h1⟩, h3⟩ := h.ownB o hoo
    refine ⟨?_, (ht.froz o).trans h3⟩
    by_cases hin : o < 3 * k ∨ 3 * k + 3 ≤ o
    · exact ⟨x1, (ht.rest o hin).trans h1⟩
    · have : o = 3 * k + 0 ∨ o = 3 * k + 1 ∨ o = 3 * k + 2 := by omega
      rcases this with rfl | rfl | rfl
      · exact (ht.own 0 (by omega)).1
      · exact (ht.own 1 (by omega)).1
      · exact (ht.own 2 (by omega)).1
  · exact (World.cell?_of_block (w := wr) (a := ⟨g, j, none⟩) (ht.block g h.lt hg)).trans (h.row j p hp)
  · by_cases e : j = k
    · subst e
      rw [hx] at hy; cases hy
      exact ⟨a, b, c, hr, c0, c1, c2⟩
    · obtain ⟨a', b', c', h1, d0, d1, d2⟩ := h.done j y (by omega) hy
      exact ⟨a', b', c', h1, by rw [ht.rest _ (.inl (by omega))]; exact d0, by rw [ht.rest _ (.inl (by omega))]; exact d1, by rw [ht.rest _ (.inl (by omega))]; exact d2⟩
set_option maxHeartbeats 8000000 in
set_option maxRecDepth 100000 in
theorem impl_readmat (t : ByteArray) (w : World) (ht : t.size ≤ 1048576) (hL : LaidM w) :
    Calls Tryd.prog 19 #[.string t] w (matPost t.data.toList w) := by
  have hsz1 : (w.alloc (.cells zero9 27)).heap.size = w.heap.size + 1 := by simp
  have hown := own9_alloc (w.alloc (.cells zero9 27)) 27 (fun _ => 0)
  have hO2 := own9_alloc w 27 (fun _ => 0)
  have hka : Kept w ((w.alloc (.cells zero9 27)).alloc (.cells (nineV fun _ => 0) 27)) := ((Kept.refl w).alloc _).alloc _
  have hO2' : OwnN ((w.alloc (.cells zero9 27)).alloc (.cells (nineV fun _ => 0) 27)) w.heap.size 9 := hO2.kept ((Kept.refl _).alloc _) (by omega)
  rw [hsz1] at hown
  obtain ⟨v1, v2, v3, v4, v5, v6, v7, v8, v9, s0, s1, s2, s3, s4, s5, s6, s7, s8, hc, hm⟩ := store9 Tryd.prog hown (fun _ => 0)
  have hk9 : Kept w v9 := hka.mod hm (by omega)
  have hO2v : OwnN v9 w.heap.size 9 := hO2'.same (hm.block _ (by omega))
  have hOBv : OwnN v9 (w.heap.size + 1) 9 := fun o ho => ⟨⟨_, hc o ho⟩, (hm.froz o).trans (hown o ho).2⟩
  have hv9 : w.heap.size + 1 < v9.heap.size := hOBv.lt (by omega)
  have hS := lib_split t 10 v9 ht (hL.kept hk9).max
  have hpl : ∀ p ∈ splitL 10 t.data.toList, p.length ≤ 1048576 := fun p hp => by have := splitL_piece 10 _ p hp; rw [← ba_size] at this; omega
  obtain ⟨ps, hps⟩ : ∃ ps, ps = splitL 10 t.data.toList := ⟨_, rfl⟩
  rw [← hps] at hS hpl
  unfold zero9 nineV at s0
  have HL := Lib.hid hL
  have HK9 := Lib.hid hk9
  have HO2 := Lib.hid hO2v
  have HOB := Lib.hid hOBv
  have HV9 := Lib.hid hv9
  have HP := Lib.hid hpl
  clear hsz1 hown hO2 hka hO2' hc hm hk9 hO2v hOBv hv9 hL hpl
  by_cases h4 : ps.length = 4
  · obtain ⟨p, q, r, s, rfl⟩ : ∃ p q r s, ps = [p, q, r, s] := by
      match ps, h4 with
      | [p, q, r, s], _ => exact ⟨p, q, r, s, rfl⟩
    by_cases hs : s = []
    · subst hs
      have HPS := Lib.hid hps.symm
      clear hps h4
      go_enter Tryd.func19, Tryd.ntmps19
      go_wp2_with fail
      refine hS.mono ?_
      rintro e w1 ⟨rfl, hrow, hb1⟩
      clear s0 s1 s2 s3 s4 s5 s6 s7 s8
      have l3 : w1.cell? ⟨v9.heap.size, 3, none⟩ = some (.string ⟨#[]⟩) := hrow 3 [] rfl
      have hk1 := kept_below hb1
      have HR0 : Hid (RowsIn w v9.heap.size (w.heap.size + 1) 0 [p, q, r, []] w1) :=
        Lib.hid ⟨HK9.out.trans hk1, HO2.out.kept hk1 (by omega), HOB.out.kept hk1 (by omega), hrow, World.block_lt_of_cell? _ _ l3, fun j x hj => by omega⟩
      clear hrow hb1 hk1 hS
      go_wp2_with fail
      clear l3
      go_loopw [20] (fun vi wr => ∃ k : Nat, k ≤ 3 ∧ vi = .int .i64 k ∧ Hid (RowsIn w v9.heap.size (w.heap.size + 1) k [p, q, r, []] wr)) (fun vi _ => 3 - (RowKit.intOf vi).toNat)
      case atStart => exact ⟨0, by omega, rfl, HR0⟩
      case round =>
        obtain ⟨k, hk, rfl, hh⟩ := hrel
        rename World => W0
        by_cases hlt : k < 3
        · obtain ⟨y, hy⟩ : ∃ y, [p, q, r, ([] : List UInt8)][k]? = some y := ⟨_, List.getElem?_eq_getElem (by simp; omega)⟩
          have hcell : W0.cell? ⟨v9.heap.size, k, none⟩ = some (.string ⟨y.toArray⟩) := hh.out.row k y hy
          have hRd := hh.out.keep (Kept.refl W0).drew
          obtain ⟨Wd, hWd⟩ : ∃ Wd, Wd = W0.drew := ⟨_, rfl⟩
          rw [← hWd] at hRd
          have HRd := Lib.hid hRd
          have HWd := Lib.hid hWd
          have hX := read_numbers ⟨y.toArray⟩ (w.heap.size + 1) (3 * k) 3 Wd (by rw [ba_size]; exact HP.out y (List.mem_of_getElem? hy)) (HL.out.kept HRd.out.kept) (HL.out.lts (by omega)) (fun j hj => HRd.out.ownB (3 * k + j) (by omega))
          have hXe : (⟨y.toArray⟩ : ByteArray).data.toList = y := rfl
          rw [hXe] at hX
          obtain ⟨x, hx⟩ : ∃ x : ByteArray, x = ⟨y.toArray⟩ := ⟨_, rfl⟩
          rw [← hx] at hcell hX
          have HY := Lib.hid hy
          have hk' : k = 0 ∨ k = 1 ∨ k = 2 := by omega
          clear hx hXe hy hRd hWd
          cases hr : readVecR y with
          | none =>
            have hX' : Calls Tryd.prog 45 #[.string x, .slice (some ⟨w.heap.size + 1, 3 * k, none⟩) 3 3] Wd fun e w' => e = .returned (.bool false) ∧ Touch (w.heap.size + 1) (3 * k) Wd w' := hX.mono fun e w' h => by unfold intoPost at h; rw [hr] at h; exact ⟨h.2, h.1⟩
            have HNo := Lib.hid (readMatR_row HPS.out hlt HY.out hr)
            clear hX hr
            rcases hk' with rfl | rfl | rfl
            · rw [show ((0 : Nat) : Int) = 0 from rfl]
              rw [show 3 * 0 = 0 from rfl] at hX'
              go_wp2_with fail
              go_still_tail 7, (by kernel_rfl)
              change wpList _ _ _ _ _ W0.drew
              rw [← HWd.out]
              go_wp2_with fail
              refine hX'.mono ?_
              rintro e w2 ⟨rfl, ht2⟩
              obtain ⟨hk2, ho2⟩ := HRd.out.touched ht2 (by omega) (by omega)
              obtain ⟨z1, z2, z3, z4, z5, z6, z7, z8, z9, s0, s1, s2, s3, s4, s5, s6, s7, s8, hc, hm⟩ := store9 Tryd.prog ho2 (fun _ => 0)
              have c0 := hc 0 (by omega)
              have c1 := hc 1 (by omega)
              have c2 := hc 2 (by omega)
              have c3 := hc 3 (by omega)
              have c4 := hc 4 (by omega)
              have c5 := hc 5 (by omega)
              have c6 := hc 6 (by omega)
              have c7 := hc 7 (by omega)
              have c8 := hc 8 (by omega)
              have HKC := Lib.hid (hk2.mod hm (Nat.le_refl _))
              clear hc hm hk2 ho2 ht2
              go_wp2
              exact bodyPost_ret (v := .tuple #[.agg (nineV fun _ => 0), .int .i64 5]) (by simp [results, Tryd.results19, go_sem, nineV, c0, c1, c2, c3, c4, c5, c6, c7, c8]) rfl (matPost.no HNo.out HKC.out)
            · rw [show ((1 : Nat) : Int) = 1 from rfl]
              rw [show 3 * 1 = 3 from rfl] at hX'
              go_wp2_with fail
              go_still_tail 7, (by kernel_rfl)
              change wpList _ _ _ _ _ W0.drew
              rw [← HWd.out]
              go_wp2_with fail
              refine hX'.mono ?_
              rintro e w2 ⟨rfl, ht2⟩
              obtain ⟨hk2, ho2⟩ := HRd.out.touched ht2 (by omega) (by omega)
              obtain ⟨z1, z2, z3, z4, z5, z6, z7, z8, z9, s0, s1, s2, s3, s4, s5, s6, s7, s8, hc, hm⟩ := store9 Tryd.prog ho2 (fun _ => 0)
              have c0 := hc 0 (by omega)
              have c1 := hc 1 (by omega)
              have c2 := hc 2 (by omega)
              have c3 := hc 3 (by omega)
              have c4 := hc 4 (by omega)
              have c5 := hc 5 (by omega)
              have c6 := hc 6 (by omega)
              have c7 := hc 7 (by omega)
              have c8 := hc 8 (by omega)
              have HKC := Lib.hid (hk2.mod hm (Nat.le_refl _))
              clear hc hm hk2 ho2 ht2
              go_wp2
              exact bodyPost_ret (v := .tuple #[.agg (nineV fun _ => 0), .int .i64 5]) (by simp [results, Tryd.results19, go_sem, nineV, c0, c1, c2, c3, c4, c5, c6, c7, c8]) rfl (matPost.no HNo.out HKC.out)
            · rw [show ((2 : Nat) : Int) = 2 from rfl]
              rw [show 3 * 2 = 6 from rfl] at hX'
              go_wp2_with fail
              go_still_tail 7, (by kernel_rfl)
              change wpList _ _ _ _ _ W0.drew
              rw [← HWd.out]
              go_wp2_with fail
              refine hX'.mono ?_
              rintro e w2 ⟨rfl, ht2⟩
              obtain ⟨hk2, ho2⟩ := HRd.out.touched ht2 (by omega) (by omega)
              obtain ⟨z1, z2, z3, z4, z5, z6, z7, z8, z9, s0, s1, s2, s3, s4, s5, s6, s7, s8, hc, hm⟩ := store9 Tryd.prog ho2 (fun _ => 0)
              have c0 := hc 0 (by omega)
              have c1 := hc 1 (by omega)
              have c2 := hc 2 (by omega)
              have c3 := hc 3 (by omega)
              have c4 := hc 4 (by omega)
              have c5 := hc 5 (by omega)
              have c6 := hc 6 (by omega)
              have c7 := hc 7 (by omega)
              have c8 := hc 8 (by omega)
              have HKC := Lib.hid (hk2.mod hm (Nat.le_refl _))
              clear hc hm hk2 ho2 ht2
              go_wp2
              exact bodyPost_ret (v := .tuple #[.agg (nineV fun _ => 0), .int .i64 5]) (by simp [results, Tryd.results19, go_sem, nineV, c0, c1, c2, c3, c4, c5, c6, c7, c8]) rfl (matPost.no HNo.out HKC.out)
          | some abc =>
            obtain ⟨a, b, c⟩ := abc
            have hX' : Calls Tryd.prog 45 #[.string x, .slice (some ⟨w.heap.size + 1, 3 * k, none⟩) 3 3] Wd fun e w' => e = .returned (.bool true) ∧ Touch (w.heap.size + 1) (3 * k) Wd w' ∧ w'.cell? ⟨w.heap.size + 1, 3 * k, none⟩ = some (.float .f32 a) ∧ w'.cell? ⟨w.heap.size + 1, 3 * k + 1, none⟩ = some (.float .f32 b) ∧ w'.cell? ⟨w.heap.size + 1, 3 * k + 2, none⟩ = some (.float .f32 c) := hX.mono fun e w' h => by unfold intoPost at h; rw [hr] at h; exact ⟨h.2.1, h.1, h.2.2.1, h.2.2.2.1, h.2.2.2.2⟩
            have HRD := Lib.hid hr
            clear hX hr
            rcases hk' with rfl | rfl | rfl
            · rw [show ((0 : Nat) : Int) = 0 from rfl]
              rw [show 3 * 0 = 0 from rfl] at hX'
              go_wp2_with fail
              go_still_tail 7, (by kernel_rfl)
              change wpList _ _ _ _ _ W0.drew
              rw [← HWd.out]
              go_wp2_with fail
              refine hX'.mono ?_
              rintro e w2 ⟨rfl, ht2, d0, d1, d2⟩
              have HN := Lib.hid (HRd.out.laid ht2 (by have := HV9.out; omega) (by omega) (by omega) HY.out HRD.out d0 d1 d2)
              clear ht2 d0 d1 d2
              go_wp2_with fail
              go_roundw
              case rel => exact ⟨1, by omega, by first | rfl | go_num, HN⟩
              case measure => simp [RowKit.intOf]
            · rw [show ((1 : Nat) : Int) = 1 from rfl]
              rw [show 3 * 1 = 3 from rfl] at hX'
              go_wp2_with fail
              go_still_tail 7, (by kernel_rfl)
              change wpList _ _ _ _ _ W0.drew
              rw [← HWd.out]
              go_wp2_with fail
              refine hX'.mono ?_
              rintro e w2 ⟨rfl, ht2, d0, d1, d2⟩
              have HN := Lib.hid (HRd.out.laid ht2 (by have := HV9.out; omega) (by omega) (by omega) HY.out HRD.out d0 d1 d2)
              clear ht2 d0 d1 d2
              go_wp2_with fail
              go_roundw
              case rel => exact ⟨2, by omega, by first | rfl | go_num, HN⟩
              case measure => simp [RowKit.intOf]
            · rw [show ((2 : Nat) : Int) = 2 from rfl]
              rw [show 3 * 2 = 6 from rfl] at hX'
              go_wp2_with fail
              go_still_tail 7, (by kernel_rfl)
              change wpList _ _ _ _ _ W0.drew
              rw [← HWd.out]
              go_wp2_with fail
              refine hX'.mono ?_
              rintro e w2 ⟨rfl, ht2, d0, d1, d2⟩
              have HN := Lib.hid (HRd.out.laid ht2 (by have := HV9.out; omega) (by omega) (by omega) HY.out HRD.out d0 d1 d2)
              clear ht2 d0 d1 d2
              go_wp2_with fail
              go_roundw
              case rel => exact ⟨3, by omega, by first | rfl | go_num, HN⟩
              case measure => simp [RowKit.intOf]
        · have hk3 : k = 3 := by omega
          subst hk3
          obtain ⟨a, hyes, hcs⟩ := hh.out.all HPS.out
          have HYes := Lib.hid hyes
          have l0 := hcs 0 (by omega)
          have l1 := hcs 1 (by omega)
          have l2 := hcs 2 (by omega)
          have l3 := hcs 3 (by omega)
          have l4 := hcs 4 (by omega)
          have l5 := hcs 5 (by omega)
          have l6 := hcs 6 (by omega)
          have l7 := hcs 7 (by omega)
          have l8 := hcs 8 (by omega)
          obtain ⟨z1, z2, z3, z4, z5, z6, z7, z8, z9, s0, s1, s2, s3, s4, s5, s6, s7, s8, hc, hm⟩ := store9 Tryd.prog hh.out.own2 a
          have c0 := hc 0 (by omega)
          have c1 := hc 1 (by omega)
          have c2 := hc 2 (by omega)
          have c3 := hc 3 (by omega)
          have c4 := hc 4 (by omega)
          have c5 := hc 5 (by omega)
          have c6 := hc 6 (by omega)
          have c7 := hc 7 (by omega)
          have c8 := hc 8 (by omega)
          have HKC := Lib.hid (hh.out.kept.mod hm (Nat.le_refl _))
          clear hc hm hcs hyes
          go_wp2
          exact bodyPost_ret (v := .tuple #[.agg (nineV a), .int .i64 0]) (by simp [results, Tryd.results19, go_sem, nineV, c0, c1, c2, c3, c4, c5, c6, c7, c8]) rfl (matPost.yes HYes.out HKC.out)
    · have hno := Lib.hid (readMatR_bad hps.symm hs)
      have hemp : (⟨s.toArray⟩ : ByteArray).toList.isEmpty = false := by
        rw [ByteArray.toList_eq]; simp [hs]
      obtain ⟨x, hx⟩ : ∃ x : ByteArray, x = ⟨s.toArray⟩ := ⟨_, rfl⟩
      rw [← hx] at hemp
      have HX := Lib.hid hx
      have HS := hS
      clear hps h4 hs hx hS
      go_enter Tryd.func19, Tryd.ntmps19
      go_wp2_with fail
      refine HS.mono ?_
      rintro e w1 ⟨rfl, hrow, hb1⟩
      clear s0 s1 s2 s3 s4 s5 s6 s7 s8
      have l3 : w1.cell? ⟨v9.heap.size, 3, none⟩ = some (.string x) := by rw [HX.out]; exact hrow 3 s rfl
      have hk1 := kept_below hb1
      obtain ⟨z1, z2, z3, z4, z5, z6, z7, z8, z9, s0, s1, s2, s3, s4, s5, s6, s7, s8, hc, hm⟩ := store9 Tryd.prog (HO2.out.kept hk1 (by omega)) (fun _ => 0)
      have c0 := hc 0 (by omega)
      have c1 := hc 1 (by omega)
      have c2 := hc 2 (by omega)
      have c3 := hc 3 (by omega)
      have c4 := hc 4 (by omega)
      have c5 := hc 5 (by omega)
      have c6 := hc 6 (by omega)
      have c7 := hc 7 (by omega)
      have c8 := hc 8 (by omega)
      have HKC := Lib.hid ((HK9.out.trans hk1).mod hm (Nat.le_refl _))
      clear hc hm hrow hb1 hk1
      go_wp2
      exact bodyPost_ret (v := .tuple #[.agg (nineV fun _ => 0), .int .i64 5]) (by simp [results, Tryd.results19, go_sem, nineV, c0, c1, c2, c3, c4, c5, c6, c7, c8]) rfl (matPost.no hno.out HKC.out)
  · have hno := Lib.hid (readMatR_len (by rw [← hps]; exact h4))
    · obtain ⟨n, hn⟩ : ∃ n, n = ps.length := ⟨_, rfl⟩
      have hn4 : ¬ ((n : Int) = 4) := by omega
      have HS := hS
      rw [← hn] at HS
      clear hps h4 hn hS
      go_enter Tryd.func19, Tryd.ntmps19
      go_wp2_with fail
      refine HS.mono ?_
      rintro e w1 ⟨rfl, hrow, hb1⟩
      clear s0 s1 s2 s3 s4 s5 s6 s7 s8
      have hk1 := kept_below hb1
      obtain ⟨z1, z2, z3, z4, z5, z6, z7, z8, z9, s0, s1, s2, s3, s4, s5, s6, s7, s8, hc, hm⟩ := store9 Tryd.prog (HO2.out.kept hk1 (by omega)) (fun _ => 0)
      have c0 := hc 0 (by omega)
      have c1 := hc 1 (by omega)
      have c2 := hc 2 (by omega)
      have c3 := hc 3 (by omega)
      have c4 := hc 4 (by omega)
      have c5 := hc 5 (by omega)
      have c6 := hc 6 (by omega)
      have c7 := hc 7 (by omega)
      have c8 := hc 8 (by omega)
      have HKC := Lib.hid ((HK9.out.trans hk1).mod hm (Nat.le_refl _))
      clear hc hm hrow hb1 hk1
      go_wp2
      exact bodyPost_ret (v := .tuple #[.agg (nineV fun _ => 0), .int .i64 5]) (by simp [results, Tryd.results19, go_sem, nineV, c0, c1, c2, c3, c4, c5, c6, c7, c8]) rfl (matPost.no hno.out HKC.out)
end Go.Proofs.YtmieiaakjiklfaaDoor
