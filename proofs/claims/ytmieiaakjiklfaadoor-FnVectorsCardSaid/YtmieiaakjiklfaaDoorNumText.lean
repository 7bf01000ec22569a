/-
  The program's text of a number. Conditions: the table of trailing zeros holds 4 at place 15.
-/
import Derived.Test.YtmieiaakjiklfaaDoorFmt
import Derived.Test.YtmieiaakjiklfaaDoorVecText
namespace Go.Proofs.YtmieiaakjiklfaaDoor
open Go.RowKit Go.Sort Go.Lib

set_option maxRecDepth 100000 in
theorem fmt_uint (n : Nat) (hn : n < 4294967296) (w : World) (hc : w.cell? ⟨8, 15, none⟩ = some (.int .u8 4)) :
    Calls Tryd.prog 66 #[.int .u64 n, .int .i64 16] w fun e w' => e = .returned (.string ⟨(hexN n).toArray⟩) ∧ Below w.heap.size w w' := by
  have H := fmt_bits n hn w hc
  clear hc
  go_enter Tryd.func66, Tryd.ntmps66
  go_wp2_with (go_at_call 86; refine H.mono ?_; rintro e w' ⟨rfl, hb⟩)
  go_ret
  exact ⟨rfl, hb⟩

set_option maxRecDepth 100000 in
theorem fmt_uint_public (n : Nat) (hn : n < 4294967296) (w : World) (hc : w.cell? ⟨8, 15, none⟩ = some (.int .u8 4)) :
    Calls Tryd.prog 51 #[.int .u64 n, .int .i64 16] w fun e w' => e = .returned (.string ⟨(hexN n).toArray⟩) ∧ Below w.heap.size w w' := by
  have H := fmt_uint n hn w hc
  clear hc
  go_enter Tryd.func51, Tryd.ntmps51
  go_wp2_with (go_at_call 66; refine H.mono ?_; rintro e w' ⟨rfl, hb⟩)
  go_ret
  exact ⟨rfl, hb⟩

theorem hex8_nan : (⟨#[55, 102, 99, 48, 48, 48, 48, 48]⟩ : ByteArray) = ⟨(hex8 2143289344).toArray⟩ := by decide +kernel

def strSize : Value → Nat
  | .string t => t.size
  | _ => 0

set_option maxHeartbeats 1000000 in
set_option maxRecDepth 100000 in
theorem num_text (b : Nat) (hT : txt b < 4294967296) (w : World) (hc : w.cell? ⟨8, 15, none⟩ = some (.int .u8 4)) :
    Calls Tryd.prog 23 #[.float .f32 b] w fun e w' => e = .returned (.string ⟨(hex8 (txt b)).toArray⟩) ∧ Below w.heap.size w w' := by
  have HTX := Lib.hid hT
  clear hT
  cases hnan : nanB b
  · have hb : b < 4294967296 := by have := HTX.out; rwa [txt_num hnan] at this
    rw [txt_num hnan]
    clear HTX
    have H := fmt_uint_public b hb w hc
    have hfb := run_bits
    have hN := is_nan b w
    rw [hnan] at hN
    have HB := Lib.hid hb
    clear hc hnan
    go_enter Tryd.func23, Tryd.ntmps23
    go_wp2_with (first
      | (go_at_call 50; refine hN.mono ?_; rintro e w' ⟨rfl, rfl⟩)
      | (go_at_call 51; refine H.mono ?_; rintro e w1 ⟨rfl, hbel⟩))
    clear hN H hfb hb
    obtain ⟨t0, ht0⟩ : ∃ t0 : ByteArray, t0 = ⟨(hexN b).toArray⟩ := ⟨_, rfl⟩
    rw [← ht0]
    have HT := Lib.hid ht0
    have HBel := Lib.hid hbel
    clear ht0 hbel
    go_loop [3] (fun vt => ∃ (k : Nat) (t : ByteArray), vt = .string t ∧ t.size ≤ 8 ∧ Hid (t.data.toList = List.replicate k 48 ++ hexN b)) (fun vt => 8 - strSize vt)
    case atStart => exact ⟨0, t0, rfl, by rw [HT.out, ba_size]; simpa [hexN_length] using (hexLen_bd b).2, Lib.hid (by rw [HT.out]; simp)⟩
    case round =>
      obtain ⟨k, t, rfl, ht8, hh⟩ := hrel
      have hsz : t.size = k + hexLen b := by rw [ba_size, hh.out]; simp [hexN_length]
      by_cases hlt : t.size < 8
      · have HS := Lib.hid hsz
        clear hsz
        go_wp2
        go_round
        case rel => exact ⟨k + 1, ⟨#[48]⟩ ++ t, rfl, by rw [ByteArray.size_append]; show 1 + t.size ≤ 8; omega, Lib.hid (by rw [ba_append, hh.out, List.replicate_succ]; rfl)⟩
        case measure => simp only [strSize, ByteArray.size_append]; show 8 - (1 + t.size) < 8 - t.size; omega
      · have HS := Lib.hid hsz
        clear hsz
        go_wp2
        go_ret
        refine ⟨congrArg (fun x => Ending.returned (.string x)) (ba_ext ?_), HBel.out⟩
        show t.data.toList = hex8 b
        rw [hh.out, ← hexN_pad HB.out]
        have := HS.out
        rw [show k = 8 - hexLen b by omega]
  · have hN := is_nan b w
    have hx : txt b = 2143289344 := by unfold txt; rw [hnan]; rfl
    rw [hx]
    rw [hnan] at hN
    clear hc hnan hx HTX
    go_enter Tryd.func23, Tryd.ntmps23
    go_wp2_with (first
      | (go_at_call 50; refine hN.mono ?_; rintro e w' ⟨rfl, rfl⟩))
    go_ret
    exact ⟨congrArg (fun x => Ending.returned (.string x)) hex8_nan, Below.refl _ _⟩
end Go.Proofs.YtmieiaakjiklfaaDoor
