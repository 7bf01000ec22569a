/-
  The texts of three numbers, by the reference. Conditions: none.
-/
import Derived.Test.YtiidgljfdhcmgaaDoorHexs
import Derived.IntWalk
namespace Go.Proofs.YtiidgljfdhcmgaaDoor
open Go.RowKit Go.Sort Go.Lib

/-- The first numbers' texts, with blanks between. -/
def rowT (b : Nat → Nat) : Nat → List UInt8
  | 0 => []
  | k + 1 => rowT b k ++ (if k = 0 then [] else [32]) ++ hex8 (txt (b k))

theorem rowT_len (b : Nat → Nat) : ∀ k, (rowT b k).length ≤ 9 * k
  | 0 => by simp [rowT]
  | k + 1 => by
    have := rowT_len b k
    simp only [rowT, List.length_append, hex8_length]
    split <;> simp <;> omega

theorem ba_size (t : ByteArray) : t.size = t.data.toList.length := by rw [Array.length_toList]; rfl
theorem ba_append (a b : ByteArray) : (a ++ b).data.toList = a.data.toList ++ b.data.toList := by simp
theorem ba_ext {t u : ByteArray} (h : t.data.toList = u.data.toList) : t = u := by
  cases t; cases u; congr 1; exact Array.toList_inj.1 h

/-- Three numbers in memory. -/
def Three (w : World) (blk off : Nat) (b : Nat → Nat) : Prop := ∀ j, j < 3 → w.cell? ⟨blk, off + j, none⟩ = some (.float .f32 (b j)) ∧ txt (b j) < 4294967296

theorem Three.lt {w : World} {blk off : Nat} {b : Nat → Nat} (h : Three w blk off b) : blk < w.heap.size := World.block_lt_of_cell? _ _ (h 0 (by omega)).1
theorem Three.below {w w' : World} {blk off : Nat} {b : Nat → Nat} (h : Three w blk off b) (hb : Below w.heap.size w w') : Three w' blk off b := fun j hj =>
  ⟨(hb.cell (p := ⟨blk, off + j, none⟩) h.lt).trans (h j hj).1, (h j hj).2⟩

set_option maxHeartbeats 1000000 in
set_option maxRecDepth 100000 in
theorem l01row (b : Nat → Nat) (blk off c : Nat) (w : World) (h3 : Three w blk off b) :
    Calls Tryd.prog 35 #[.slice (some ⟨blk, off, none⟩) 3 c] w fun e w' => e = .returned (.string ⟨(rowT b 3).toArray⟩) ∧ Below w.heap.size w w' := by
  have H3 := Lib.hid h3
  clear h3
  go_enter Tryd.func35, Tryd.ntmps35
  go_wp2_with fail
  go_loopw [3, 4] (fun vt vi wr => ∃ (k : Nat) (t : ByteArray), k ≤ 3 ∧ vt = .string t ∧ vi = .int .i64 k ∧ t.size ≤ 27 ∧ Below w.heap.size w wr ∧ Hid (t.data.toList = rowT b k)) (fun _ vi _ => 3 - (intOf vi).toNat)
  case atStart => exact ⟨0, ⟨#[]⟩, by omega, rfl, rfl, by decide, Below.refl _ _, Lib.hid rfl⟩
  case round =>
    obtain ⟨k, t, hk, rfl, rfl, ht, hbel, hh⟩ := hrel
    rename World => W0
    have HB := Lib.hid hbel
    by_cases hlt : k < 3
    · obtain ⟨hc, hlim⟩ := (H3.out.below hbel) k hlt
      have hcell : W0.cell? ⟨blk, off + k, none⟩ = some (.float .f32 (b k)) := hc
      clear hbel hc
      have hX : ∀ (W : World), Calls Tryd.prog 29 #[.float .f32 (b k)] W fun e w' => e = .returned (.string ⟨(hex8 (txt (b k))).toArray⟩) ∧ Below W.heap.size W w' := fun W => l01hex (b k) hlim W
      obtain ⟨x, hx⟩ : ∃ x : ByteArray, x = ⟨(hex8 (txt (b k))).toArray⟩ := ⟨_, rfl⟩
      rw [← hx] at hX
      have hx8 : x.size = 8 := by rw [hx, ba_size, hex8_length]
      have hxle : x.size ≤ 8 := by omega
      have HX := Lib.hid hx
      have HX8 := Lib.hid hx8
      have HT := Lib.hid hh.out
      have hts : t.size = (rowT b k).length := by rw [ba_size, hh.out]
      have htl := rowT_len b k
      have ht9 : t.size ≤ 9 * k := by omega
      have HT9 := Lib.hid ht9
      clear hx hx8 hh hts htl ht9
      by_cases hz : k = 0
      · subst hz
        rw [Nat.add_zero] at hcell
        go_wp2_with (go_at_call 29; refine (hX _).mono ?_; rintro e w' ⟨rfl, hb1⟩)
        go_roundw
        case rel => exact ⟨1, t ++ x, by omega, rfl, by go_num, by have := HT9.out; rw [ByteArray.size_append]; omega, HB.out.trans (hb1.mono HB.out.size), Lib.hid (by rw [ba_append, HT.out, HX.out]; simp [rowT])⟩
        case measure => simp [intOf]
      · have hz' : 0 < k := by omega
        go_wp2_with (go_at_call 29; refine (hX _).mono ?_; rintro e w' ⟨rfl, hb1⟩)
        go_roundw
        case rel => exact ⟨k + 1, t ++ ⟨#[32]⟩ ++ x, by omega, rfl, by go_num, by have := HT9.out; rw [ByteArray.size_append, ByteArray.size_append]; show t.size + 1 + x.size ≤ 27; omega, HB.out.trans (hb1.mono HB.out.size), Lib.hid (by rw [ba_append, ba_append, HT.out, HX.out, rowT, if_neg hz])⟩
        case measure => simp [intOf]; omega
    · have hk3 : k = 3 := by omega
      subst hk3
      go_wp2_with fail
      go_ret
      exact ⟨congrArg (fun x => Ending.returned (.string x)) (ba_ext hh.out), HB.out⟩
end Go.Proofs.YtiidgljfdhcmgaaDoor
