/-
  The reference's text of a number. Conditions: none.
-/
import Derived.Test.YtiidgljfdhcmgaaDoorRow
import Derived.BigCall
import Derived.BigGuard
namespace Go.Proofs.YtiidgljfdhcmgaaDoor
open Go.RowKit Go.Sort Go.Lib

theorem txt_lt {b : Nat} (hb : b < 4294967296) : txt b < 4294967296 := by unfold txt; split <;> omega
theorem txt_num {b : Nat} (h : nanB b = false) : txt b = b := by unfold txt; rw [h]; rfl

def lit16 : ByteArray := ⟨#[48, 49, 50, 51, 52, 53, 54, 55, 56, 57, 97, 98, 99, 100, 101, 102]⟩
theorem lit16_at : ∀ i : Fin 16, lit16.data.toList.getD i.val 0 = hexD i.val := by decide +kernel

theorem idx16 {P : Program} (t : TypeId) (ht : P.underlying t = some .string) (k : IntKind) (i : Nat) (z : Int) (hz : z = (i : Int)) (hi : i < 16) (w : World) :
    (Instr.index t (.string lit16) (.int k z)).run P w = .ok (.int .u8 ((hexD i).toNat : Int)) w := by
  subst hz
  rw [run_index_string w t lit16 k _ ht, dif_pos ⟨by omega, by show (i : Int) < (16 : Nat); omega⟩]
  have e : ((i : Int)).toNat = i := by omega
  simp only [e]
  rw [getD_at, lit16_at ⟨i, hi⟩]

theorem mk8 (w : World) : (Instr.makeSlice 71 (.int .i64 8) (.int .i64 8)).run Tryd.prog w = .ok (.slice (some ⟨w.heap.size, 0, none⟩) 8 8) (w.alloc (.cells zeros8 5)) := by kernel_rfl

set_option maxHeartbeats 1000000 in
set_option maxRecDepth 100000 in
theorem l01hex (b : Nat) (hT : txt b < 4294967296) (w : World) :
    Calls Tryd.prog 29 #[.float .f32 b] w fun e w' => e = .returned (.string ⟨(hex8 (txt b)).toArray⟩) ∧ Below w.heap.size w w' := by
  obtain ⟨n, hn⟩ : ∃ n, n = txt b := ⟨_, rfl⟩
  have hbits := f_bits b w
  rw [← hn] at hT hbits ⊢
  clear hn
  have hmk := mk8 w
  have hH0 := holds_rep w 5 8 zeros8 rfl
  have HF := Lib.hid (putRow_below w (.cells zeros8 5))
  obtain ⟨W1, hW1⟩ : ∃ W1, W1 = w.alloc (.cells zeros8 5) := ⟨_, rfl⟩
  rw [← hW1] at hH0 HF hmk
  clear hW1
  have AH := Lib.hid hH0
  clear hH0
  go_enter Tryd.func29, Tryd.ntmps29
  go_wp2_with (go_at_call 45; refine hbits.mono ?_; rintro e w' ⟨rfl, rfl⟩)
  go_name_bytes_deep 10 LT hLT
  have eLT : LT = lit16 := by rw [← hLT]; decide +kernel
  subst eLT
  clear hLT
  go_loopw [3, 5] (fun vb vk wr => ∃ (u m : Nat) (dk : Array UInt8), m ≤ 8 ∧ u < 4294967296 ∧ vb = .int .u32 u ∧ vk = .int .i64 ((m : Int) - 1) ∧ wr = putRow byteV W1 w.heap.size 0 dk ∧ Hid (u = n / 16 ^ (8 - m) ∧ RowInv 8 n m dk)) (fun _ vk _ => (intOf vk + 1).toNat)
  case atStart => exact ⟨n, 8, Array.replicate 8 0, by omega, hT, rfl, by go_num, (putRow_self _ _ _ _ _ AH.out).symm, by simp, RowInv.start _ _ _ (by simp)⟩
  case round =>
    obtain ⟨u, m, dk, hm, hu, rfl, rfl, hw0, hi0⟩ := hrel
    rename World => W0
    have HW := Lib.hid hw0
    obtain ⟨hue, hinv⟩ := hi0.out
    have hH : Holds byteV W0 w.heap.size 0 dk := by rw [hw0]; exact holds_putRow _ W1 w.heap.size 0 (Array.replicate 8 0) dk AH.out (by rw [hinv.size]; simp)
    clear hw0
    cases m with
    | zero =>
      have hcv : (convert 71 9 (.slice (some ⟨w.heap.size, 0, none⟩) 8 8)).run Tryd.prog W0 = .ok (.string ⟨(hex8 n).toArray⟩) W0 := by
        have h := run_convert_bytes_back (P := Tryd.prog) W0 71 9 5 ⟨w.heap.size, 0, none⟩ 8 (hex8 n) Tryd.underlying71 Tryd.underlying5 Tryd.underlying9 (fun j hj => by
          rw [hex8_length] at hj
          have h0 := (hH j (by rw [hinv.size]; exact hj)).1
          rw [add_plain, h0, getElem!_pos dk j (by rw [hinv.size]; exact hj)]
          simp only [← hinv.all, Array.getElem_toList])
        exact h
      clear hue hH hi0 hinv
      go_wp2
      go_ret
      exact ⟨rfl, by rw [HW.out]; exact HF.out dk⟩
    | succ p =>
      have hp : p < 8 := by omega
      have hc0 : W0.cell? ⟨w.heap.size, p, none⟩ = some (.int .u8 (dk[p]!).toNat) := by have h := (hH p (by rw [hinv.size]; exact hp)).1; rw [Nat.zero_add] at h; exact h
      have hf0 : W0.frozen? ⟨w.heap.size, p, none⟩ = false := by have h := (hH p (by rw [hinv.size]; exact hp)).2; rw [Nat.zero_add] at h; exact h
      have hix : ∀ w, (Instr.index 9 (.string lit16) (.int .u32 ((u : Int) % 16))).run Tryd.prog w = .ok (.int .u8 ((hexD (u % 16)).toNat : Int)) w := idx16 9 Tryd.underlying9 .u32 (u % 16) _ (by omega) (by omega)
      have e : (((p + 1 : Nat) : Int) - 1) = (p : Int) := by omega
      rw [e]
      have HU := Lib.hid hue
      have HI := Lib.hid hinv
      clear hue hH hi0 hinv e
      go_wp2
      go_roundw
      case rel => exact ⟨u / 16, p, dk.setIfInBounds p (hexD (u % 16)), by omega, by omega, by go_num, rfl, by rw [HW.out]; exact store_row _ _ _ _ _ (by rw [HI.out.size]; exact hp), by rw [HU.out]; exact div_step n _ _ (by omega), by rw [HU.out]; exact HI.out.step hp⟩
      case measure => simp [intOf]
end Go.Proofs.YtiidgljfdhcmgaaDoor
