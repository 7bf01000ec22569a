/-
  Vectors that are drawn. Conditions: the bytes lie there.
-/
import Derived.Test.YtcoediecgmdkpaaPick
import Derived.Test.YtcoediecgmdkpaaCells5
namespace Go.Proofs.Ytcoediecgmdkpaa
open Go.RowKit Go.Lib Go.Sx Ieee

theorem BytesV.kept {v : Value} {zs : List Int} {u w : World} (h : BytesV v zs u) (k : Kept u w) : BytesV v zs w := by
  obtain ⟨p, cap, rfl, hz, hc⟩ := h
  refine ⟨p, cap, rfl, hz, fun i hi => ?_⟩
  obtain ⟨a, rfl, ha⟩ := hc i hi
  exact ⟨a, rfl, (k.cell (World.block_lt_of_cell? _ _ ha)).trans ha⟩

/-- Of n cells k are filled with what was drawn. -/
structure Fill (u : World) (rb sb vb n : Nat) (v : Value) (zs : List Int) (st : Nat → Nat × Int) (good : Nat → Nat → Prop) (k : Nat) (w : World) : Prop where
  base : BytesV v zs u
  kept : Kept u w
  src : Src sb v zs (st k).1 (st k).2 w
  own : OwnN w vb n
  ownr : OwnN w rb n
  done : ∀ j, j < k → ∃ x, w.cell? ⟨vb, j, none⟩ = some (.float .f32 x) ∧ good j x
  ne : u.heap.size ≤ rb ∧ u.heap.size ≤ sb ∧ u.heap.size ≤ vb ∧ rb ≠ sb ∧ vb ≠ sb ∧ rb ≠ vb

section
variable {u w w1 : World} {rb sb vb n : Nat} {v : Value} {zs : List Int} {st : Nat → Nat × Int} {good : Nat → Nat → Prop} {k : Nat}

theorem Fill.drew (h : Fill u rb sb vb n v zs st good k w) : Fill u rb sb vb n v zs st good k w.drew :=
  ⟨h.base, h.kept.drew, ⟨h.src.bytes, h.src.c0, h.src.c1, h.src.c2, h.src.f1, h.src.f2, h.src.apart⟩, h.own, h.ownr, h.done, h.ne⟩

theorem Fill.step (P : Program) (h : Fill u rb sb vb n v zs st good k w) (hk : k < n) (hs : Src sb v zs (st (k + 1)).1 (st (k + 1)).2 w1) (ht : SrcStep sb w w1) {x : Nat} (hx : good k x) :
    ∃ w2, (store ⟨vb, k, none⟩ (.float .f32 x)).run P w1 = .ok () w2 ∧ Fill u rb sb vb n v zs st good (k + 1) w2 := by
  obtain ⟨n1, n2, n3, n4, n5, n6⟩ := h.ne
  have hown : OwnN w1 vb n := h.own.same (ht.block _ n5)
  have hownr : OwnN w1 rb n := h.ownr.same (ht.block _ n4)
  obtain ⟨w2, e, o2, c2, r2, m2⟩ := step1 P hown hk x
  have hk1 : Kept u w1 := kept_step h.kept ht n2
  have hk2 : Kept u w2 := hk1.mod m2 n3
  have hb : w2.heap[sb]? = w1.heap[sb]? := m2.block _ (fun e => n5 e.symm)
  refine ⟨w2, e, h.base, hk2, ⟨h.base.kept hk2, ?_, ?_, ?_, ?_, ?_, hs.apart⟩, o2, hownr.same (m2.block _ n6), fun j hj => ?_, h.ne⟩
  · exact (World.cell?_of_block (w := w1) (a := ⟨sb, 0, none⟩) hb).trans hs.c0
  · exact (World.cell?_of_block (w := w1) (a := ⟨sb, 1, none⟩) hb).trans hs.c1
  · exact (World.cell?_of_block (w := w1) (a := ⟨sb, 2, none⟩) hb).trans hs.c2
  · exact (World.frozen?_of_block (w := w1) (a := ⟨sb, 1, none⟩) hb).trans hs.f1
  · exact (World.frozen?_of_block (w := w1) (a := ⟨sb, 2, none⟩) hb).trans hs.f2
  · by_cases e : j = k
    · subst e; exact ⟨x, c2, hx⟩
    · obtain ⟨y, hy, hg⟩ := h.done j (by omega)
      exact ⟨y, (r2 j e).trans ((World.cell?_of_block (w := w) (a := ⟨vb, j, none⟩) (ht.block _ n5)).trans hy), hg⟩
end

/-- The seed behind k draws of one byte. -/
def seedAt (zs : List Int) : Nat → Int
  | 0 => 0
  | k + 1 => seedNext zs k (seedAt zs k)
def plainAt (zs : List Int) (k : Nat) : Nat := plainB (pickS zs k (seedAt zs k) 129)

set_option maxHeartbeats 4000000 in
set_option maxRecDepth 100000 in
theorem a2vec (v : Value) (zs : List Int) (w : World) (h : BytesV v zs w) (hl : zs.length ≤ 100000) :
    Calls Try.prog 6 #[v] w fun e w' => e = .returned (vecV (plainAt zs 0) (plainAt zs 1) (plainAt zs 2)) ∧ Kept w w' := by
  have hk0 : Kept w (w.alloc (.cells #[.float .f32 0, .float .f32 0, .float .f32 0] 29)) := (Kept.refl w).alloc _
  have hO2 := own3_alloc w 29 (.float .f32 0) (.float .f32 0) (.float .f32 0)
  have HF := from_calls v zs _ (h.kept hk0)
  have HB := Lib.hid h
  have HL := Lib.hid hl
  have HK0 := Lib.hid hk0
  have HO2 := Lib.hid hO2
  have hsz : (w.alloc (.cells #[.float .f32 0, .float .f32 0, .float .f32 0] 29)).heap.size = w.heap.size + 1 := by simp
  rw [hsz] at HF
  clear h hl hk0 hO2 hsz
  go_enter Try.func6, Try.ntmps6
  go_wp2_with fail
  refine HF.mono ?_
  rintro e w1 ⟨rfl, hs, hk, hz⟩
  have hkw := HK0.out.trans hk
  have hsz1 : w1.heap.size = w.heap.size + 2 := hz
  have hk1 : Kept w1 (w1.alloc (.cells #[.float .f32 0, .float .f32 0, .float .f32 0] 29)) := (Kept.refl w1).alloc _
  have hown := own3_alloc w1 29 (.float .f32 0) (.float .f32 0) (.float .f32 0)
  obtain ⟨wa, wb, wc, s0, s1, s2, hc0, hc1, hc2, hkc, hsz, hblk, hown3, -⟩ := store3 (P := Try.prog) hown 0 0 0
  have hkwc : Kept w1 wc := hkc w1 (Nat.le_refl _) hk1
  have HR0 : Hid (Fill w w.heap.size (w.heap.size + 1) w1.heap.size 3 v zs (fun k => (k, seedAt zs k)) (fun j x => x = plainAt zs j) 0 wc) := Lib.hid (by
    have hb : ∀ k : Nat, k ≠ w1.heap.size → k < w1.heap.size → wc.heap[k]? = w1.heap[k]? := fun k h1 h2 => hkwc.block k h2
    have hss : (w.heap.size + 1) < w1.heap.size := by omega
    have hsb := hkwc.block _ hss
    refine ⟨HB.out, hkw.trans hkwc, ⟨HB.out.kept (hkw.trans hkwc), ?_, ?_, ?_, ?_, ?_, hs.apart⟩, hown3, (OwnN.kept (n := 3) (fun o ho => HO2.out o ho) hk (by omega)).kept hkwc (by omega), fun j hj => by omega, by omega⟩
    · exact (World.cell?_of_block (w := w1) (a := ⟨w.heap.size + 1, 0, none⟩) hsb).trans hs.c0
    · exact (World.cell?_of_block (w := w1) (a := ⟨w.heap.size + 1, 1, none⟩) hsb).trans hs.c1
    · exact (World.cell?_of_block (w := w1) (a := ⟨w.heap.size + 1, 2, none⟩) hsb).trans hs.c2
    · exact (World.frozen?_of_block (w := w1) (a := ⟨w.heap.size + 1, 1, none⟩) hsb).trans hs.f1
    · exact (World.frozen?_of_block (w := w1) (a := ⟨w.heap.size + 1, 2, none⟩) hsb).trans hs.f2)
  clear hs hk hz hkw hk1 hown hc0 hc1 hc2 hkc hsz hblk hown3 hkwc HF
  have HSZ := Lib.hid hsz1
  clear hsz1
  go_wp2_with fail
  clear s0 s1 s2
  go_loopw [5] (fun vi wr => ∃ k : Nat, k ≤ 3 ∧ vi = .int .i64 k ∧ Hid (Fill w w.heap.size (w.heap.size + 1) w1.heap.size 3 v zs (fun k => (k, seedAt zs k)) (fun j x => x = plainAt zs j) k wr)) (fun vi _ => 3 - (RowKit.intOf vi).toNat)
  case atStart => exact ⟨0, by omega, rfl, HR0⟩
  case round =>
    obtain ⟨k, hk, rfl, hh⟩ := hrel
    rename World => W0
    by_cases hlt : k < 3
    · have hP : Calls Try.prog 25 #[.pointer (some ⟨w.heap.size + 1, 0, none⟩)] W0 fun e w' => e = .returned (.float .f32 (plainAt zs k)) ∧ Src (w.heap.size + 1) v zs (k + 1) (seedAt zs (k + 1)) w' ∧ SrcStep (w.heap.size + 1) W0 w' :=
        plain_calls (w.heap.size + 1) v zs k (seedAt zs k) W0 hh.out.src (by omega) (by have := HL.out; omega)
      go_wp2_with fail
      refine hP.mono ?_
      rintro e w2 ⟨rfl, hs, ht⟩
      obtain ⟨w3, e3, hF⟩ := hh.out.step Try.prog hlt hs ht (x := plainAt zs k) rfl
      have HF3 := Lib.hid hF
      clear hs ht hF hP
      go_wp2_with fail
      go_roundw
      case rel => exact ⟨k + 1, by omega, by first | rfl | go_num, HF3⟩
      case measure => simp [RowKit.intOf]; omega
    · have hk3 : k = 3 := by omega
      subst hk3
      obtain ⟨x0, l0, rfl⟩ := hh.out.done 0 (by omega)
      obtain ⟨x1, l1, rfl⟩ := hh.out.done 1 (by omega)
      obtain ⟨x2, l2, rfl⟩ := hh.out.done 2 (by omega)
      obtain ⟨wa, wb, wc, t0, t1, t2, c0, c1, c2, hkc, -⟩ := store3 (P := Try.prog) (fun o ho => hh.out.ownr o ho) (plainAt zs 0) (plainAt zs 1) (plainAt zs 2)
      have HKC := Lib.hid (hkc w (Nat.le_refl _) hh.out.kept)
      clear hkc hlt
      go_wp2
      exact bodyPost_ret (v := vecV (plainAt zs 0) (plainAt zs 1) (plainAt zs 2)) (by simp [results, Try.results6, go_sem, vecV, c0, c1, c2]) rfl ⟨rfl, HKC.out⟩
end Go.Proofs.Ytcoediecgmdkpaa
