/-
  The library's numeral in base 16, of a number below 2^32. Conditions: the table of trailing zeros holds 4 at place 15.
-/
import Derived.Test.YtmieiaakjiklfaaDoorHexs
import Derived.Laws.Bits64b
import Derived.Laws.IdiomStrings
namespace Go.Proofs.YtmieiaakjiklfaaDoor
open Go.RowKit Go.Sort Go.Lib

set_option maxRecDepth 100000 in
theorem pow_two (w : World) : Calls Tryd.prog 101 #[.int .i64 16] w fun e w' => e = .returned (.bool true) ∧ w = w' := by
  go_enter Tryd.func101, Tryd.ntmps101
  go_wp2
  go_ret
  exact ⟨rfl, rfl⟩

set_option maxRecDepth 100000 in
theorem tz64 (w : World) (hc : w.cell? ⟨8, 15, none⟩ = some (.int .u8 4)) : Calls Tryd.prog 112 #[.int .u64 16] w fun e w' => e = .returned (.int .i64 4) ∧ w = w' := by
  have h15 : (IntKind.u64.wrap (bits BinOp.and IntKind.u64 16 (IntKind.u64.wrap (-16)) * 285870213051353865) / 288230376151711744).toNat = 15 := by decide +kernel
  rw [← h15] at hc
  clear h15
  go_enter Tryd.func112, Tryd.ntmps112
  go_wp2
  go_ret
  exact ⟨rfl, rfl⟩

set_option maxRecDepth 100000 in
theorem tz (w : World) (hc : w.cell? ⟨8, 15, none⟩ = some (.int .u8 4)) : Calls Tryd.prog 102 #[.int .u64 16] w fun e w' => e = .returned (.int .i64 4) ∧ w = w' := by
  have H := tz64 w hc
  clear hc
  go_enter Tryd.func102, Tryd.ntmps102
  go_wp2_with (go_at_call 112; refine H.mono ?_; rintro e w' ⟨rfl, rfl⟩)
  go_ret
  exact ⟨rfl, rfl⟩

def lit36 : ByteArray := ⟨#[48, 49, 50, 51, 52, 53, 54, 55, 56, 57, 97, 98, 99, 100, 101, 102, 103, 104, 105, 106, 107, 108, 109, 110, 111, 112, 113, 114, 115, 116, 117, 118, 119, 120, 121, 122]⟩
theorem lit36_at : ∀ i : Fin 16, lit36.data.toList.getD i.val 0 = hexD i.val := by decide +kernel

theorem idx36 {P : Program} (t : TypeId) (ht : P.underlying t = some .string) (k : IntKind) (i : Nat) (z : Int) (hz : z = (i : Int)) (hi : i < 16) (w : World) :
    (Instr.index t (.string lit36) (.int k z)).run P w = .ok (.int .u8 ((hexD i).toNat : Int)) w := by
  subst hz
  rw [run_index_string w t lit36 k _ ht, dif_pos ⟨by omega, by show (i : Int) < (36 : Nat); omega⟩]
  have e : ((i : Int)).toNat = i := by omega
  simp only [e]
  rw [getD_at, lit36_at ⟨i, hi⟩]

def zeros65 : Array Value := #[.int .u8 0, .int .u8 0, .int .u8 0, .int .u8 0, .int .u8 0, .int .u8 0, .int .u8 0, .int .u8 0, .int .u8 0, .int .u8 0, .int .u8 0, .int .u8 0, .int .u8 0, .int .u8 0, .int .u8 0, .int .u8 0, .int .u8 0, .int .u8 0, .int .u8 0, .int .u8 0, .int .u8 0, .int .u8 0, .int .u8 0, .int .u8 0, .int .u8 0, .int .u8 0, .int .u8 0, .int .u8 0, .int .u8 0, .int .u8 0, .int .u8 0, .int .u8 0, .int .u8 0, .int .u8 0, .int .u8 0, .int .u8 0, .int .u8 0, .int .u8 0, .int .u8 0, .int .u8 0, .int .u8 0, .int .u8 0, .int .u8 0, .int .u8 0, .int .u8 0, .int .u8 0, .int .u8 0, .int .u8 0, .int .u8 0, .int .u8 0, .int .u8 0, .int .u8 0, .int .u8 0, .int .u8 0, .int .u8 0, .int .u8 0, .int .u8 0, .int .u8 0, .int .u8 0, .int .u8 0, .int .u8 0, .int .u8 0, .int .u8 0, .int .u8 0, .int .u8 0]

theorem and15 (u : Nat) (h : u < 18446744073709551616) : bits .and .u64 (u : Int) 15 = ((u % 16 : Nat) : Int) := by
  have h := bits_and_u64_nat u 15 h (by omega)
  have e : u &&& 15 = u % 16 := Nat.and_two_pow_sub_one_eq_mod u 4
  rw [e] at h
  exact h

theorem rest_small {n j : Nat} (hn : n < 4294967296) (h : 16 ≤ n / 16 ^ j) : j ≤ 6 := by
  by_cases hj : j ≤ 6
  · exact hj
  · exfalso
    have : n / 16 ^ j ≤ n / 16 ^ 7 := Nat.div_le_div_left (Nat.pow_le_pow_right (by omega) (by omega)) (by decide)
    have : n / 16 ^ 7 < 16 := by omega
    omega

set_option maxHeartbeats 4000000 in
set_option maxRecDepth 100000 in
theorem fmt_bits (n : Nat) (hn : n < 4294967296) (w : World) (hc : w.cell? ⟨8, 15, none⟩ = some (.int .u8 4)) :
    Calls Tryd.prog 86 #[.slice none 0 0, .int .u64 n, .int .i64 16, .bool false, .bool false] w fun e w' => e = .returned (.tuple #[.slice none 0 0, .string ⟨(hexN n).toArray⟩]) ∧ Below w.heap.size w w' := by
  have hg : 8 < w.heap.size := World.block_lt_of_cell? _ _ hc
  have hH0 := holds_rep w 128 65 zeros65 rfl
  have HF := Lib.hid (putRow_below w (.cells zeros65 128))
  have hc1 : (w.alloc (.cells zeros65 128)).cell? ⟨8, 15, none⟩ = some (.int .u8 4) := by
    rw [World.cell?_alloc_old _ _ _ (by show 8 ≠ w.heap.size; omega)]; exact hc
  have htz := tz _ hc1
  have AH := Lib.hid hH0
  clear hH0 hc1 hc
  have HN := Lib.hid hn
  clear hn
  go_enter Tryd.func86, Tryd.ntmps86
  go_wp2_with (first
    | (go_at_call 101; refine (pow_two _).mono ?_; rintro e w' ⟨rfl, rfl⟩)
    | (go_at_call 102; refine htz.mono ?_; rintro e w' ⟨rfl, rfl⟩))
  clear htz
  go_name_bytes_deep 20 LT hLT
  have eLT : LT = lit36 := by rw [← hLT]; decide +kernel
  subst eLT
  clear hLT
  obtain ⟨W1, hW1⟩ : ∃ W1, W1 = w.alloc (.cells zeros65 128) := ⟨_, rfl⟩
  rw [← hW1] at AH HF ⊢
  clear hW1
  have hn := HN.out
  go_loopw [1, 13] (fun vu vi wr => ∃ (u m : Nat) (dk : Array UInt8), 58 ≤ m ∧ m ≤ 65 ∧ u < 4294967296 ∧ vu = .int .u64 u ∧ vi = .int .i64 m ∧ wr = putRow byteV W1 w.heap.size 0 dk ∧ Hid (u = n / 16 ^ (65 - m) ∧ RowInv 65 n m dk ∧ (m = 65 ∨ 16 ≤ n / 16 ^ (65 - m - 1)))) (fun _ vi _ => (intOf vi).toNat)
  case atStart => exact ⟨n, 65, Array.replicate 65 0, by omega, by omega, hn, rfl, rfl, (putRow_self _ _ _ _ _ AH.out).symm, by simp, RowInv.start _ _ _ (by simp), .inl rfl⟩
  case round =>
    obtain ⟨u, m, dk, hm0, hm, hu, rfl, rfl, hw0, hi0⟩ := hrel
    rename World => W0
    have HW := Lib.hid hw0
    obtain ⟨hue, hinv, hlast⟩ := hi0.out
    have hH : Holds byteV W0 w.heap.size 0 dk := by rw [hw0]; exact holds_putRow _ W1 w.heap.size 0 (Array.replicate 65 0) dk AH.out (by rw [hinv.size]; simp)
    clear hw0
    obtain ⟨p, rfl⟩ : ∃ p, m = p + 1 := ⟨m - 1, by omega⟩
    have hp : p < 65 := by omega
    have hc0 : W0.cell? ⟨w.heap.size, p, none⟩ = some (.int .u8 (dk[p]!).toNat) := by have h := (hH p (by rw [hinv.size]; exact hp)).1; rw [Nat.zero_add] at h; exact h
    have hf0 : W0.frozen? ⟨w.heap.size, p, none⟩ = false := by have h := (hH p (by rw [hinv.size]; exact hp)).2; rw [Nat.zero_add] at h; exact h
    by_cases hgo : 16 ≤ u
    · have hix : ∀ w, (Instr.index 9 (.string lit36) (.int .u64 ((u : Int) % 16))).run Tryd.prog w = .ok (.int .u8 ((hexD (u % 16)).toNat : Int)) w := idx36 9 Tryd.underlying9 .u64 (u % 16) _ (by omega) (by omega)
      have hand : bits .and .u64 (u : Int) 15 = (u : Int) % 16 := by rw [and15 u (by omega)]; omega
      have h58 : 58 ≤ p := by have := rest_small (j := 65 - (p + 1)) hn (by omega); omega
      have hlast' : p = 65 ∨ 16 ≤ n / 16 ^ (65 - p - 1) := .inr (by rw [show 65 - p - 1 = 65 - (p + 1) by omega]; omega)
      have HU := Lib.hid hue
      have HI := Lib.hid hinv
      have HL := Lib.hid hlast'
      clear hue hH hi0 hinv hlast hlast' hn
      go_wp2
      go_roundw
      case rel => exact ⟨u / 16, p, dk.setIfInBounds p (hexD (u % 16)), by omega, by omega, by omega, by go_num, by go_num, by rw [HW.out]; exact store_row _ _ _ _ _ (by rw [HI.out.size]; exact hp), by rw [HU.out]; exact div_step n _ _ (by omega), by rw [HU.out]; exact HI.out.step hp, HL.out⟩
      case measure => simp [intOf]
    · have hul : u < 16 := by omega
      have hlen : p + hexLen n = 65 := by
        have := hexLen_of (j := 65 - (p + 1)) hn (by omega) (by rcases hlast with h | h <;> omega)
        omega
      have hstep := hinv.step hp
      rw [← hue, Nat.mod_eq_of_lt hul] at hstep
      have hix : ∀ w, (Instr.index 9 (.string ⟨#[48, 49, 50, 51, 52, 53, 54, 55, 56, 57, 97, 98, 99, 100, 101, 102, 103, 104, 105, 106, 107, 108, 109, 110, 111, 112, 113, 114, 115, 116, 117, 118, 119, 120, 121, 122]⟩) (.int .u64 (u : Int))).run Tryd.prog w = .ok (.int .u8 ((hexD u).toNat : Int)) w := idx36 9 Tryd.underlying9 .u64 u _ rfl hul
      have hal : Tryd.prog.arrayLen 128 = 65 := by simp [Program.arrayLen, Tryd.underlying128]
      have hsl : ∀ W, (Instr.sliceAt 128 (.pointer (some ⟨w.heap.size, 0, none⟩)) (some (.int .i64 (p : Int))) none none).run Tryd.prog W = .ok (.slice (some ⟨w.heap.size, p, none⟩) (65 - p) (65 - p)) W := fun W => by
        rw [run_sliceAt_array_l W 128 ⟨w.heap.size, 0, none⟩ (by simp [Program.arrayLen, Program.elem, Tryd.underlying128]) .i64 (p : Int) (by omega) (by rw [hal]; omega)]
        go_simp
        omega
      have hW' : W0.setCell ⟨w.heap.size, p, none⟩ (.int .u8 ((hexD u).toNat : Int)) = putRow byteV W1 w.heap.size 0 (dk.setIfInBounds p (hexD u)) := by
        rw [HW.out]; exact store_row _ _ _ _ _ (by rw [hinv.size]; exact hp)
      have hcv : (convert 22 9 (.slice (some ⟨w.heap.size, p, none⟩) (65 - p) (65 - p))).run Tryd.prog (W0.setCell ⟨w.heap.size, p, none⟩ (.int .u8 ((hexD u).toNat : Int))) = .ok (.string ⟨(hexN n).toArray⟩) (W0.setCell ⟨w.heap.size, p, none⟩ (.int .u8 ((hexD u).toNat : Int))) := by
        rw [hW']
        have hH2 := holds_putRow byteV W1 w.heap.size 0 (Array.replicate 65 0) (dk.setIfInBounds p (hexD u)) AH.out (by simp [hinv.size])
        have h := run_convert_bytes_back (P := Tryd.prog) (putRow byteV W1 w.heap.size 0 (dk.setIfInBounds p (hexD u))) 22 9 5 ⟨w.heap.size, p, none⟩ (65 - p) (hexN n) Tryd.underlying22 Tryd.underlying5 Tryd.underlying9 (fun j hj => by
          have ht := hstep.tail hlen j hj
          rw [hexN_length] at hj
          have h0 := (hH2 (p + j) (by simp [hinv.size]; omega)).1
          rw [Nat.zero_add] at h0
          rw [add_plain, h0, ht])
        rw [hexN_length, show hexLen n = 65 - p by omega] at h
        exact h
      have HE : Hid (Below w.heap.size w (W0.setCell ⟨w.heap.size, p, none⟩ (.int .u8 ((hexD u).toNat : Int)))) := by rw [hW']; exact HF.out _
      clear hue hH hi0 hinv hlast hn hlen hstep hal hW' hgo
      go_wp2
      go_ret2
      exact ⟨rfl, HE.out⟩
end Go.Proofs.YtmieiaakjiklfaaDoor
