/-
  The texts of three numbers, by the program. Conditions: the table of trailing zeros holds 4 at place 15.
-/
import Derived.Test.YtmieiaakjiklfaaDoorVecText
import Derived.Test.YtmieiaakjiklfaaDoorNumText
import Derived.Test.YtmieiaakjiklfaaDoorShelf
import Derived.OwnWalk
namespace Go.Proofs.YtmieiaakjiklfaaDoor
open Go.RowKit Go.Sort Go.Lib

theorem info_str : (Tryd.prog.info? 9).map (fun i => (i.zero, i.size, i.bytes)) = some (some (.string ⟨#[]⟩), 1, 16) := by kernel_rfl

def txtB (b : Nat → Nat) (j : Nat) : ByteArray := ⟨(hex8 (txt (b j))).toArray⟩
def txtV (b : Nat → Nat) (k : Nat) : List Value := (List.range k).map fun j => Value.string (txtB b j)
theorem txtV_succ (b : Nat → Nat) (k : Nat) : txtV b (k + 1) = txtV b k ++ [.string (txtB b k)] := by simp [txtV, List.range_succ]

theorem join_row (b : Nat → Nat) : Lib.join ([txtB b 0, txtB b 1, txtB b 2].map (·.data.toList)) (⟨#[32]⟩ : ByteArray).data.toList = rowT b 3 := by
  simp [Lib.join, List.intercalate, List.intersperse, rowT, txtB]

theorem owns_below {w w' : World} {base : Nat} {e : TypeId} {size : Nat} {v : Value} {n : Nat} {xs : List Value} (h : w.ownsRow base e size v n xs) (hb : Below w.heap.size w w') : w'.ownsRow base e size v n xs := by
  obtain ⟨h1, h2⟩ := h
  refine ⟨h1, ?_⟩
  rcases h2 with h2 | ⟨g, cap, cur, h3, h4, h5, h6⟩
  · exact .inl h2
  · have hg : g < w.heap.size := (Array.getElem?_eq_some_iff.1 h5).1
    exact .inr ⟨g, cap, cur, h3, h4, (hb.block g hg).trans h5, h6⟩

set_option maxHeartbeats 1000000 in
set_option maxRecDepth 100000 in
theorem nums_text (b : Nat → Nat) (blk off c : Nat) (w : World) (h3 : Three w blk off b) (hc : w.cell? ⟨8, 15, none⟩ = some (.int .u8 4)) :
    Calls Tryd.prog 46 #[.slice (some ⟨blk, off, none⟩) 3 c] w fun e w' => e = .returned (.string ⟨(rowT b 3).toArray⟩) ∧ Below w.heap.size w w' := by
  have H3 := Lib.hid h3
  have HC := Lib.hid hc
  have hg := World.block_lt_of_cell? _ _ hc
  obtain ⟨i0, hi, hz0, hz1, hz2⟩ := info_parts info_str
  clear h3 hc
  go_enter Tryd.func46, Tryd.ntmps46
  go_wp2_with fail
  go_loopw [3, 9] (fun v vi wr => ∃ k : Nat, k ≤ 3 ∧ vi = .int .i64 k ∧ Hid (wr.ownsRow w.heap.size 9 1 v k (txtV b k)) ∧ Below w.heap.size w wr) (fun _ vi _ => 3 - (RowKit.intOf vi).toNat)
  case atStart => exact ⟨0, by omega, rfl, Lib.hid (World.ownsRow_lit w #[] 0 (Nat.le_refl _) (by decide) rfl), (Below.refl _ _).alloc (Nat.le_refl _) _⟩
  case round =>
    obtain ⟨k, hk, rfl, hown, hbel⟩ := hrel
    rename World => W0
    have HB := Lib.hid hbel
    by_cases hlt : k < 3
    · obtain ⟨hcl, hlim⟩ := (H3.out.below hbel) k hlt
      have hcell : W0.cell? ⟨blk, off + k, none⟩ = some (.float .f32 (b k)) := hcl
      have HX := num_text (b k) hlim W0 ((hbel.cell hg).trans HC.out)
      obtain ⟨x, hx⟩ : ∃ x : ByteArray, x = ⟨(hex8 (txt (b k))).toArray⟩ := ⟨_, rfl⟩
      rw [← hx] at HX
      have HXE := Lib.hid hx
      have hsz := hbel.size
      clear hbel hcl hx hlim
      go_wp2_with (first
        | (go_at_call 23; refine HX.mono ?_; rintro e W1 ⟨rfl, hb1⟩)
        | (at_builtin; refine wpList_append_own _ rfl _ _ 64 rfl w.heap.size 9 i0 (.string ⟨#[]⟩) 1 16 Tryd.underlying64 hi hz0 hz1 hz2 rfl (by decide) _ _ _ rfl ((owns_below hown.out hb1).alloc _) ⟨W1.heap.size, 0, none⟩ 1 1 [.string x] rfl rfl ?c1 ?c2 ?c3 ?c4 ?c5 ?_))
      case c1 =>
        intro j u hj
        match j, hj with
        | 0, hj => simp at hj; subst hj; simp [Addr.add]
      case c2 => intro u hu; simp at hu; subst hu; rfl
      case c3 => unfold maxLen; omega
      case c4 => omega
      case c5 => have := hb1.size; simp; omega
      intro v' W2 hown' hgrow _
      have hs1 := hb1.size
      have hb2 : Below w.heap.size w W2 := ((HB.out.trans (hb1.mono HB.out.size)).alloc (by omega) _).grown hgrow (by simp; omega) (fun j e => (hown.out.lt j e).1)
      have hown2 : W2.ownsRow w.heap.size 9 1 v' (k + 1) (txtV b (k + 1)) := by rw [txtV_succ]; rw [HXE.out] at hown'; exact hown'
      have HO2 := Lib.hid hown2
      have HB2 := Lib.hid hb2
      clear hown' hgrow hb2 hown2 hb1 hs1 HX hcell
      go_wp2
      go_roundw
      case rel => exact ⟨k + 1, by omega, by go_num, HO2, HB2.out⟩
      case measure => simp [RowKit.intOf]; omega
    · have hk3 : k = 3 := by omega
      subst hk3
      obtain ⟨hl, h⟩ := hown.out
      rcases h with ⟨_, h⟩ | ⟨g, cap, cur, rfl, hbg, hgc, hnc, hcm, hcs, htake⟩
      · simp at h
      · have hj := Tryd.strings_Join g 0 cap [txtB b 0, txtB b 1, txtB b 2] ⟨#[32]⟩ W0 (fun j x hx => by
          have hjl : j < 3 := by have := (List.getElem?_eq_some_iff.1 hx).1; simpa using this
          rw [Nat.zero_add, World.ownsRow.cellAt hown.out j (by omega)]
          have : j = 0 ∨ j = 1 ∨ j = 2 := by omega
          rcases this with rfl | rfl | rfl <;> simp at hx <;> subst hx <;> simp [txtV]) (Array.getElem?_eq_some_iff.1 hgc).1 (by simp) (by simpa using hnc) (by rw [join_row]; have := rowT_len b 3; omega)
        have hj' : Calls Tryd.prog 61 #[.slice (some ⟨g, 0, none⟩) 3 cap, .string ⟨#[32]⟩] W0 fun e w' => e = .returned (.string ⟨(rowT b 3).toArray⟩) ∧ Below W0.heap.size W0 w' := by
          rw [← join_row]; exact hj
        obtain ⟨z, hz⟩ : ∃ z : ByteArray, z = ⟨(rowT b 3).toArray⟩ := ⟨_, rfl⟩
        rw [← hz] at hj'
        have HZ := Lib.hid hz
        clear hz hj hl hgc hnc hcm hcs htake hbg hown hbel
        go_wp2_with (go_at_call 61; refine hj'.mono ?_; rintro e W1 ⟨rfl, hb1⟩)
        go_ret
        exact ⟨congrArg (fun z => Ending.returned (.string z)) HZ.out, HB.out.trans (hb1.mono HB.out.size)⟩
end Go.Proofs.YtmieiaakjiklfaaDoor
