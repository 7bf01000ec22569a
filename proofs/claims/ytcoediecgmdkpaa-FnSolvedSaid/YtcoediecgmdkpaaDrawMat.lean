/-
  Matrices that are drawn. Conditions: the bytes lie there.
-/
import Derived.Test.YtcoediecgmdkpaaDrawVec
import Derived.Deep.RegionWith
namespace Go.Proofs.Ytcoediecgmdkpaa
open Go.RowKit Go.Lib Go.Sx Ieee

set_option maxHeartbeats 4000000 in
set_option maxRecDepth 100000 in
theorem a2mat (v : Value) (zs : List Int) (w : World) (h : BytesV v zs w) (hl : zs.length ≤ 100000) :
    Calls Try.prog 22 #[v] w fun e w' => e = .returned (.agg (nineV (plainAt zs))) ∧ Kept w w' := by
  have hk0 : Kept w (w.alloc (.cells (nineV fun _ => 0) 27)) := (Kept.refl w).alloc _
  have hO2 := own9_alloc w 27 (fun _ => 0)
  have HF := from_calls v zs _ (h.kept hk0)
  have HB := Lib.hid h
  have HL := Lib.hid hl
  have HK0 := Lib.hid hk0
  have HO2 := Lib.hid hO2
  have hsz : (w.alloc (.cells (nineV fun _ => 0) 27)).heap.size = w.heap.size + 1 := by simp
  rw [hsz] at HF
  clear h hl hk0 hO2 hsz
  unfold nineV at HF
  go_enter Try.func22, Try.ntmps22
  go_wp2_with fail
  refine HF.mono ?_
  rintro e w1 ⟨rfl, hs, hk, hz⟩
  have hkw := HK0.out.trans hk
  have hsz1 : w1.heap.size = w.heap.size + 2 := hz
  have hk1 : Kept w1 (w1.alloc (.cells (nineV fun _ => 0) 27)) := (Kept.refl w1).alloc _
  have hown := own9_alloc w1 27 (fun _ => 0)
  obtain ⟨v1, v2, v3, v4, v5, v6, v7, v8, v9, s0, s1, s2, s3, s4, s5, s6, s7, s8, hc, hm⟩ := store9 Try.prog hown (fun _ => 0)
  have hkwc : Kept w1 v9 := hk1.mod hm (Nat.le_refl _)
  have HR0 : Hid (Fill w w.heap.size (w.heap.size + 1) w1.heap.size 9 v zs (fun k => (k, seedAt zs k)) (fun j x => x = plainAt zs j) 0 v9) := Lib.hid (by
    have hss : (w.heap.size + 1) < w1.heap.size := by omega
    have hsb := hkwc.block _ hss
    refine ⟨HB.out, hkw.trans hkwc, ⟨HB.out.kept (hkw.trans hkwc), ?_, ?_, ?_, ?_, ?_, hs.apart⟩, fun o ho => ⟨⟨_, hc o ho⟩, (hm.froz o).trans (hown o ho).2⟩, (OwnN.kept (n := 9) (fun o ho => HO2.out o ho) hk (by omega)).kept hkwc (by omega), fun j hj => by omega, by omega⟩
    · exact (World.cell?_of_block (w := w1) (a := ⟨w.heap.size + 1, 0, none⟩) hsb).trans hs.c0
    · exact (World.cell?_of_block (w := w1) (a := ⟨w.heap.size + 1, 1, none⟩) hsb).trans hs.c1
    · exact (World.cell?_of_block (w := w1) (a := ⟨w.heap.size + 1, 2, none⟩) hsb).trans hs.c2
    · exact (World.frozen?_of_block (w := w1) (a := ⟨w.heap.size + 1, 1, none⟩) hsb).trans hs.f1
    · exact (World.frozen?_of_block (w := w1) (a := ⟨w.heap.size + 1, 2, none⟩) hsb).trans hs.f2)
  clear hs hk hz hkw hk1 hown hc hm hkwc HF
  have HSZ := Lib.hid hsz1
  clear hsz1
  unfold nineV at s0
  go_wp2_with fail
  clear s0 s1 s2 s3 s4 s5 s6 s7 s8
  go_loopw [5] (fun vi wr => ∃ i : Nat, i ≤ 3 ∧ vi = .int .i64 i ∧ Hid (Fill w w.heap.size (w.heap.size + 1) w1.heap.size 9 v zs (fun k => (k, seedAt zs k)) (fun j x => x = plainAt zs j) (i * 3) wr)) (fun vi _ => 3 - (RowKit.intOf vi).toNat)
  case atStart => exact ⟨0, by omega, rfl, HR0⟩
  case round =>
    obtain ⟨i, hi, rfl, hh⟩ := hrel
    rename World => W0
    by_cases hlt : i < 3
    · go_wp2_with fail
      rw [show decide ((i : Int) < 3) = true from decide_eq_true (by omega)]
      go_loopw [6] (fun vj wr => ∃ j : Nat, j ≤ 3 ∧ vj = .int .i64 j ∧ Hid (Fill w w.heap.size (w.heap.size + 1) w1.heap.size 9 v zs (fun k => (k, seedAt zs k)) (fun j x => x = plainAt zs j) (i * 3 + j) wr)) (fun vj _ => 3 - (RowKit.intOf vj).toNat)
      case atStart => exact ⟨0, by omega, rfl, hh⟩
      case round =>
        obtain ⟨j, hj, rfl, hh⟩ := hrel
        rename World => W1
        by_cases hlj : j < 3
        · have hP : Calls Try.prog 25 #[.pointer (some ⟨w.heap.size + 1, 0, none⟩)] W1.drew fun e w' => e = .returned (.float .f32 (plainAt zs (i * 3 + j))) ∧ Src (w.heap.size + 1) v zs (i * 3 + j + 1) (seedAt zs (i * 3 + j + 1)) w' ∧ SrcStep (w.heap.size + 1) W1.drew w' :=
            plain_calls (w.heap.size + 1) v zs (i * 3 + j) (seedAt zs (i * 3 + j)) W1.drew hh.out.drew.src (by omega) (by have := HL.out; omega)
          go_wp2_with fail
          go_region_with (refine hP.mono ?_; rintro e w2 ⟨rfl, hs, ht⟩; obtain ⟨w3, e3, hF⟩ := hh.out.drew.step Try.prog (show i * 3 + j < 9 by omega) hs ht (x := plainAt zs (i * 3 + j)) rfl; have HF3 := Lib.hid hF; clear hs ht hF)
          all_goals
            go_wp2_with fail
            go_roundw
            case rel => exact ⟨j + 1, by omega, by first | rfl | go_num, HF3⟩
            case measure => simp [RowKit.intOf]; omega
        · have hj3 : j = 3 := by omega
          subst hj3
          have HH : Hid (Fill w w.heap.size (w.heap.size + 1) w1.heap.size 9 v zs (fun k => (k, seedAt zs k)) (fun j x => x = plainAt zs j) ((i + 1) * 3) W1) := Lib.hid (by
            have := hh.out
            rw [show (i + 1) * 3 = i * 3 + 3 by omega]; exact this)
          go_wp2_with fail
          go_roundw
          case rel => exact ⟨i + 1, by omega, by first | rfl | go_num, HH⟩
          case measure => simp [RowKit.intOf]; omega
    · have hi3 : i = 3 := by omega
      subst hi3
      obtain ⟨x0, l0, rfl⟩ := hh.out.done 0 (by omega)
      obtain ⟨x1, l1, rfl⟩ := hh.out.done 1 (by omega)
      obtain ⟨x2, l2, rfl⟩ := hh.out.done 2 (by omega)
      obtain ⟨x3, l3, rfl⟩ := hh.out.done 3 (by omega)
      obtain ⟨x4, l4, rfl⟩ := hh.out.done 4 (by omega)
      obtain ⟨x5, l5, rfl⟩ := hh.out.done 5 (by omega)
      obtain ⟨x6, l6, rfl⟩ := hh.out.done 6 (by omega)
      obtain ⟨x7, l7, rfl⟩ := hh.out.done 7 (by omega)
      obtain ⟨x8, l8, rfl⟩ := hh.out.done 8 (by omega)
      obtain ⟨z1, z2, z3, z4, z5, z6, z7, z8, z9, s0, s1, s2, s3, s4, s5, s6, s7, s8, hc, hm⟩ := store9 Try.prog hh.out.ownr (plainAt zs)
      have c0 := hc 0 (by omega)
      have c1 := hc 1 (by omega)
      have c2 := hc 2 (by omega)
      have c3 := hc 3 (by omega)
      have c4 := hc 4 (by omega)
      have c5 := hc 5 (by omega)
      have c6 := hc 6 (by omega)
      have c7 := hc 7 (by omega)
      have c8 := hc 8 (by omega)
      have HKC := Lib.hid (hh.out.kept.mod hm (Nat.le_refl _))
      clear hc hm hlt
      go_wp2
      exact bodyPost_ret (v := .agg (nineV (plainAt zs))) (by simp [results, Try.results22, go_sem, nineV, c0, c1, c2, c3, c4, c5, c6, c7, c8]) rfl ⟨rfl, HKC.out⟩
end Go.Proofs.Ytcoediecgmdkpaa
