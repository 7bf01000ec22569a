/-
  Vectors of any numbers that are drawn; whether the bytes are too many. Conditions: the bytes lie there.
-/
import Derived.Test.YtmieiaakjiklfaaDoorAny
namespace Go.Proofs.YtmieiaakjiklfaaDoor
open Go.RowKit Go.Lib Go.Sx Ieee

set_option maxHeartbeats 4000000 in
set_option maxRecDepth 100000 in
theorem a2wild (v : Value) (zs : List Int) (w : World) (h : BytesV v zs w) (hl : zs.length ≤ 100000) :
    Calls Tryd.prog 34 #[v] w fun e w' => (∃ x y z, e = .returned (vecV x y z) ∧ canon .f32 x = anyAt zs 0 ∧ canon .f32 y = anyAt zs 1 ∧ canon .f32 z = anyAt zs 2) ∧ Kept w w' := by
  have hk0 : Kept w (w.alloc (.cells #[.float .f32 0, .float .f32 0, .float .f32 0] 29)) := (Kept.refl w).alloc _
  have hO2 := own3_alloc w 29 (.float .f32 0) (.float .f32 0) (.float .f32 0)
  have HF := from_calls v zs _ (h.kept hk0)
  have HB := Lib.hid h
  have HL := Lib.hid hl
  have HK0 := Lib.hid hk0
  have HO2 := Lib.hid hO2
  have hsz : (w.alloc (.cells #[.float .f32 0, .float .f32 0, .float .f32 0] 29)).heap.size = w.heap.size + 1 := by simp
  rw [hsz] at HF
  clear h hl hk0 hO2 hsz
  go_enter Tryd.func34, Tryd.ntmps34
  go_wp2_with fail
  refine HF.mono ?_
  rintro e w1 ⟨rfl, hs, hk, hz⟩
  have hkw := HK0.out.trans hk
  have hsz1 : w1.heap.size = w.heap.size + 2 := hz
  have hk1 : Kept w1 (w1.alloc (.cells #[.float .f32 0, .float .f32 0, .float .f32 0] 29)) := (Kept.refl w1).alloc _
  have hown := own3_alloc w1 29 (.float .f32 0) (.float .f32 0) (.float .f32 0)
  obtain ⟨wa, wb, wc, s0, s1, s2, hc0, hc1, hc2, hkc, hsz, hblk, hown3, -⟩ := store3 (P := Tryd.prog) hown 0 0 0
  have hkwc : Kept w1 wc := hkc w1 (Nat.le_refl _) hk1
  have HR0 : Hid (Fill w w.heap.size (w.heap.size + 1) w1.heap.size 3 v zs (anySt zs) (fun j x => canon .f32 x = anyAt zs j) 0 wc) := Lib.hid (by
    have hb : ∀ k : Nat, k ≠ w1.heap.size → k < w1.heap.size → wc.heap[k]? = w1.heap[k]? := fun k h1 h2 => hkwc.block k h2
    have hss : (w.heap.size + 1) < w1.heap.size := by omega
    have hsb := hkwc.block _ hss
    refine ⟨HB.out, hkw.trans hkwc, ⟨HB.out.kept (hkw.trans hkwc), ?_, ?_, ?_, ?_, ?_, hs.apart⟩, hown3, (OwnN.kept (n := 3) (fun o ho => HO2.out o ho) hk (by omega)).kept hkwc (by omega), fun j hj => by omega, by omega⟩
    · exact (World.cell?_of_block (w := w1) (a := ⟨w.heap.size + 1, 0, none⟩) hsb).trans hs.c0
    · exact (World.cell?_of_block (w := w1) (a := ⟨w.heap.size + 1, 1, none⟩) hsb).trans hs.c1
    · exact (World.cell?_of_block (w := w1) (a := ⟨w.heap.size + 1, 2, none⟩) hsb).trans hs.c2
    · exact (World.frozen?_of_block (w := w1) (a := ⟨w.heap.size + 1, 1, none⟩) hsb).trans hs.f1
    · exact (World.frozen?_of_block (w := w1) (a := ⟨w.heap.size + 1, 2, none⟩) hsb).trans hs.f2)
  clear hs hk hz hkw hk1 hown hc0 hc1 hc2 hkc hsz hblk hown3 hkwc HF
  have HSZ := Lib.hid hsz1
  clear hsz1
  go_wp2_with fail
  clear s0 s1 s2
  go_loopw [5] (fun vi wr => ∃ k : Nat, k ≤ 3 ∧ vi = .int .i64 k ∧ Hid (Fill w w.heap.size (w.heap.size + 1) w1.heap.size 3 v zs (anySt zs) (fun j x => canon .f32 x = anyAt zs j) k wr)) (fun vi _ => 3 - (RowKit.intOf vi).toNat)
  case atStart => exact ⟨0, by omega, rfl, HR0⟩
  case round =>
    obtain ⟨k, hk, rfl, hh⟩ := hrel
    rename World => W0
    by_cases hlt : k < 3
    · have hP := any_calls (w.heap.size + 1) v zs (anySt zs k).1 (anySt zs k).2 W0 hh.out.src (by have := anySt_at zs k; omega) (by have := HL.out; omega)
      unfold anyPost at hP
      go_wp2_with fail
      refine hP.mono ?_
      rintro e w2 ⟨x, rfl, hx, hs, ht⟩
      obtain ⟨w3, e3, hF⟩ := hh.out.step Tryd.prog hlt hs ht (x := x) hx
      have HF3 := Lib.hid hF
      clear hs ht hF hP hx
      go_wp2_with fail
      go_roundw
      case rel => exact ⟨k + 1, by omega, by first | rfl | go_num, HF3⟩
      case measure => simp [RowKit.intOf]; omega
    · have hk3 : k = 3 := by omega
      subst hk3
      obtain ⟨x0, l0, h0⟩ := hh.out.done 0 (by omega)
      obtain ⟨x1, l1, h1⟩ := hh.out.done 1 (by omega)
      obtain ⟨x2, l2, h2⟩ := hh.out.done 2 (by omega)
      obtain ⟨wa, wb, wc, t0, t1, t2, c0, c1, c2, hkc, -⟩ := store3 (P := Tryd.prog) (fun o ho => hh.out.ownr o ho) x0 x1 x2
      have HKC := Lib.hid (hkc w (Nat.le_refl _) hh.out.kept)
      have H3 := Lib.hid (And.intro h0 (And.intro h1 h2))
      clear hkc hlt h0 h1 h2
      go_wp2
      exact bodyPost_ret (v := vecV x0 x1 x2) (by simp [results, Tryd.results34, go_sem, vecV, c0, c1, c2]) rfl ⟨⟨x0, x1, x2, rfl, H3.out⟩, HKC.out⟩

theorem long_calls (p q : Option Addr) (m n c d : Nat) (w : World) :
    Calls Tryd.prog 5 #[.slice p m c, .slice q n d] w fun e w' => e = .returned (.bool (decide (3000 < m) || decide (3000 < n))) ∧ w' = w := by
  by_cases h1 : 3000 < m
  · have h1' : (3000 : Int) < (m : Int) := by omega
    go_enter Tryd.func5, Tryd.ntmps5
    go_wp2
    go_ret
    exact ⟨by simp [h1], rfl⟩
  · have h1' : ¬ (3000 : Int) < (m : Int) := by omega
    by_cases h2 : 3000 < n
    · have h2' : (3000 : Int) < (n : Int) := by omega
      go_enter Tryd.func5, Tryd.ntmps5
      go_wp2
      go_ret
      exact ⟨rfl, rfl⟩
    · have h2' : ¬ (3000 : Int) < (n : Int) := by omega
      go_enter Tryd.func5, Tryd.ntmps5
      go_wp2
      go_ret
      exact ⟨rfl, rfl⟩
end Go.Proofs.YtmieiaakjiklfaaDoor
