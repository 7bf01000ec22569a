/-
  The texts of three rows of numbers. Conditions: the table of trailing zeros holds 4 at place 15.
-/
import Derived.Test.YtmieiaakjiklfaaDoorLawVecText
namespace Go.Proofs.YtmieiaakjiklfaaDoor
open Go.RowKit

def matT (b : Nat → Nat) : Nat → List UInt8
  | 0 => []
  | k + 1 => matT b k ++ (rowT (fun i => b (3 * k + i)) 3 ++ [10])

theorem matT_len (b : Nat → Nat) : ∀ k, (matT b k).length ≤ 28 * k
  | 0 => by simp [matT]
  | k + 1 => by
    have h1 := matT_len b k
    have h2 := rowT_len (fun i => b (3 * k + i)) 3
    simp only [matT, List.length_append, List.length_cons, List.length_nil]
    omega

theorem matT_congr {a b : Nat → Nat} (h : ∀ i, i < 9 → txt (b i) = txt (a i)) : matT b 3 = matT a 3 := by
  simp only [matT]
  rw [rowT_congr (a := fun i => a (3 * 0 + i)) (b := fun i => b (3 * 0 + i)) (n := 3) (fun i hi => h _ (by omega)) 3 (Nat.le_refl _),
    rowT_congr (a := fun i => a (3 * 1 + i)) (b := fun i => b (3 * 1 + i)) (n := 3) (fun i hi => h _ (by omega)) 3 (Nat.le_refl _),
    rowT_congr (a := fun i => a (3 * 2 + i)) (b := fun i => b (3 * 2 + i)) (n := 3) (fun i hi => h _ (by omega)) 3 (Nat.le_refl _)]

def nineV (b : Nat → Nat) : Array Value := #[.float .f32 (b 0), .float .f32 (b 1), .float .f32 (b 2), .float .f32 (b 3), .float .f32 (b 4), .float .f32 (b 5), .float .f32 (b 6), .float .f32 (b 7), .float .f32 (b 8)]

theorem nine_at (b : Nat → Nat) (i : Nat) (h : i < 9) : (nineV b)[i]? = some (.float .f32 (b i)) := by
  have : i = 0 ∨ i = 1 ∨ i = 2 ∨ i = 3 ∨ i = 4 ∨ i = 5 ∨ i = 6 ∨ i = 7 ∨ i = 8 := by omega
  rcases this with rfl | rfl | rfl | rfl | rfl | rfl | rfl | rfl | rfl <;> rfl

theorem nine_box (w : World) (T : TypeId) (b : Nat → Nat) (h : ∀ i, i < 9 → txt (b i) < 4294967296) (k : Nat) (hk : k < 3) : Three (w.alloc (.cells (nineV b) T)) w.heap.size (3 * k) (fun i => b (3 * k + i)) := fun j hj => by
  refine ⟨?_, h _ (by omega)⟩
  rw [World.cell?_alloc_new, nine_at b _ (by omega)]

theorem run_store_f32 (P : Program) (w : World) (a : Addr) (b : Nat) : (store a (.float .f32 b)).run P w = stored P w a (.float .f32 b) .plain := run_store P w a _ _ rfl

theorem idx_mat0 (b : Nat → Nat) (w : World) : (Instr.index 27 (.agg #[.float .f32 (b 0), .float .f32 (b 1), .float .f32 (b 2), .float .f32 (b 3), .float .f32 (b 4), .float .f32 (b 5), .float .f32 (b 6), .float .f32 (b 7), .float .f32 (b 8)]) (.int .i64 0)).run Tryd.prog w = .ok (.agg #[.float .f32 (b 0), .float .f32 (b 1), .float .f32 (b 2)]) w := by kernel_rfl
theorem idx_mat1 (b : Nat → Nat) (w : World) : (Instr.index 27 (.agg #[.float .f32 (b 0), .float .f32 (b 1), .float .f32 (b 2), .float .f32 (b 3), .float .f32 (b 4), .float .f32 (b 5), .float .f32 (b 6), .float .f32 (b 7), .float .f32 (b 8)]) (.int .i64 1)).run Tryd.prog w = .ok (.agg #[.float .f32 (b 3), .float .f32 (b 4), .float .f32 (b 5)]) w := by kernel_rfl
theorem idx_mat2 (b : Nat → Nat) (w : World) : (Instr.index 27 (.agg #[.float .f32 (b 0), .float .f32 (b 1), .float .f32 (b 2), .float .f32 (b 3), .float .f32 (b 4), .float .f32 (b 5), .float .f32 (b 6), .float .f32 (b 7), .float .f32 (b 8)]) (.int .i64 2)).run Tryd.prog w = .ok (.agg #[.float .f32 (b 6), .float .f32 (b 7), .float .f32 (b 8)]) w := by kernel_rfl

set_option maxHeartbeats 4000000 in
set_option maxRecDepth 100000 in
theorem impl_mat (b : Nat → Nat) (h : ∀ i, i < 9 → txt (b i) < 4294967296) (w : World) (hc : w.cell? ⟨8, 15, none⟩ = some (.int .u8 4)) :
    Calls Tryd.prog 20 #[.agg (nineV b)] w fun e w' => e = .returned (.string ⟨(matT b 3).toArray⟩) ∧ Below w.heap.size w w' := by
  have hg := World.block_lt_of_cell? _ _ hc
  have hcb : ∀ W, Below w.heap.size w W → W.cell? ⟨8, 15, none⟩ = some (.int .u8 4) := fun W hb => (hb.cell hg).trans hc
  have HCB := Lib.hid hcb
  have H9 := Lib.hid h
  clear h hc hcb
  unfold nineV
  go_enter Tryd.func20, Tryd.ntmps20
  go_wp2_with fail
  go_loopw [3, 7] (fun vt vi wr => ∃ (k : Nat) (t : ByteArray), k ≤ 3 ∧ vt = .string t ∧ vi = .int .i64 k ∧ t.size ≤ 28 * k ∧ Below w.heap.size w wr ∧ Hid (t.data.toList = matT b k)) (fun _ vi _ => 3 - (intOf vi).toNat)
  case atStart => exact ⟨0, ⟨#[]⟩, by omega, rfl, rfl, by decide, (Below.refl _ _).alloc (Nat.le_refl _) _, Lib.hid rfl⟩
  case round =>
    obtain ⟨k, t, hk, rfl, rfl, ht, hbel, hh⟩ := hrel
    rename World => W0
    have HB := Lib.hid hbel
    by_cases hlt : k < 3
    · have hbox := three_box W0 25 (fun i => b (3 * k + i)) (fun i hi => H9.out _ (by omega))
      have hR := nums_text (fun i => b (3 * k + i)) W0.heap.size 0 3 _ hbox (HCB.out _ (hbel.alloc hbel.size _))
      obtain ⟨x, hx⟩ : ∃ x : ByteArray, x = ⟨(rowT (fun i => b (3 * k + i)) 3).toArray⟩ := ⟨_, rfl⟩
      rw [← hx] at hR
      have hxs : x.size = (rowT (fun i => b (3 * k + i)) 3).length := by rw [hx, ba_size]
      have hrl := rowT_len (fun i => b (3 * k + i)) 3
      have hxle : x.size ≤ 27 := by omega
      have HX := Lib.hid hx
      have ht' : t.size ≤ 56 := by omega
      have HT := Lib.hid ht
      clear hx hxs hrl hbel ht hbox
      have hk' : k = 0 ∨ k = 1 ∨ k = 2 := by omega
      rcases hk' with rfl | rfl | rfl
      all_goals
        have hsf := run_store_f32 Tryd.prog
        have hix0 := idx_mat0 b
        have hix1 := idx_mat1 b
        have hix2 := idx_mat2 b
        first | rw [show ((0 : Nat) : Int) = 0 from rfl] | rw [show ((1 : Nat) : Int) = 1 from rfl] | rw [show ((2 : Nat) : Int) = 2 from rfl]
        go_wp2_with (go_at_call 46; refine hR.mono ?_; rintro e w' ⟨rfl, hb1⟩)
        go_roundw
        case rel => first | exact ⟨1, _, by omega, rfl, (by first | rfl | go_num), by have := HT.out; simp only [ByteArray.size_append]; show t.size + (x.size + 1) ≤ _; omega, (HB.out.alloc HB.out.size _).trans (hb1.mono (by have := HB.out.size; simp; omega)), Lib.hid (by rw [ba_append, ba_append, hh.out, HX.out]; rfl)⟩ | exact ⟨2, _, by omega, rfl, (by first | rfl | go_num), by have := HT.out; simp only [ByteArray.size_append]; show t.size + (x.size + 1) ≤ _; omega, (HB.out.alloc HB.out.size _).trans (hb1.mono (by have := HB.out.size; simp; omega)), Lib.hid (by rw [ba_append, ba_append, hh.out, HX.out]; rfl)⟩ | exact ⟨3, _, by omega, rfl, (by first | rfl | go_num), by have := HT.out; simp only [ByteArray.size_append]; show t.size + (x.size + 1) ≤ _; omega, (HB.out.alloc HB.out.size _).trans (hb1.mono (by have := HB.out.size; simp; omega)), Lib.hid (by rw [ba_append, ba_append, hh.out, HX.out]; rfl)⟩
        case measure => simp [intOf]
    · have hk3 : k = 3 := by omega
      subst hk3
      go_wp2_with fail
      go_ret
      exact ⟨congrArg (fun x => Ending.returned (.string x)) (ba_ext hh.out), HB.out⟩
end Go.Proofs.YtmieiaakjiklfaaDoor
