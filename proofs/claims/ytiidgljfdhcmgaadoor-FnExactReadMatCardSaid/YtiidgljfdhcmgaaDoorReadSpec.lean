/-
  The reference reads a number. Conditions: none.
-/
import Derived.Test.YtiidgljfdhcmgaaDoorRead
import Derived.BigCall
import Derived.BigGuard
namespace Go.Proofs.YtiidgljfdhcmgaaDoor
open Go.RowKit Go.Sort Go.Lib

theorem run_frombits (b : Nat) (w : World) : (callFunc 40 #[.int .u32 (b : Nat)]).run Tryd.prog w = .ok (.value (.float .f32 b)) w :=
  run_ext (e := Extern.MathFloatBits.float32frombits) Tryd.func40 (by kernel_rfl) rfl (by kernel_rfl) (by kernel_rfl) rfl

/-- What a reading owes: the number and yes; or any number and no. -/
def Reads (l : List UInt8) (w : World) (e : Ending) (w' : World) : Prop :=
  w = w' ∧ match readR l with
    | some n => e = .returned (.tuple #[.float .f32 n, .bool true])
    | none => ∃ b, e = .returned (.tuple #[.float .f32 b, .bool false])

theorem Reads.no {l : List UInt8} {w : World} {b : Nat} (h : readR l = none) : Reads l w (.returned (.tuple #[.float .f32 b, .bool false])) w := by
  unfold Reads; rw [h]; exact ⟨rfl, b, rfl⟩
theorem Reads.yes {l : List UInt8} {w : World} {n : Nat} (h : readR l = some n) : Reads l w (.returned (.tuple #[.float .f32 n, .bool true])) w := by
  unfold Reads; rw [h]; exact ⟨rfl, rfl⟩

theorem idx_str {P : Program} (t : TypeId) (ht : P.underlying t = some .string) (s : ByteArray) (k : Nat) (hk : k < s.data.toList.length) (w : World) :
    (Instr.index t (.string s) (.int .i64 (k : Int))).run P w = .ok (.int .u8 ((s.data.toList[k]).toNat : Int)) w := by
  have hk' : k < s.size := by rw [ba_size]; exact hk
  rw [run_index_string w t s .i64 _ ht, dif_pos ⟨by omega, by omega⟩]
  simp only [Int.toNat_natCast]
  rfl

set_option maxHeartbeats 4000000 in
set_option maxRecDepth 100000 in
theorem l01read (t : ByteArray) (w : World) : Calls Tryd.prog 38 #[.string t] w (Reads t.data.toList w) := by
  by_cases h8 : t.size = 8
  · have hl : t.data.toList.length = 8 := by rw [← ba_size]; exact h8
    have hi8 : (decide ((t.size : Int) = 8)) = true := by simp; omega
    have hr : readR t.data.toList = canonO (readV 0 t.data.toList) := by unfold readR; rw [if_pos hl]
    have HR := Lib.hid hr
    have HL := Lib.hid hl
    have H8 := Lib.hid h8
    have hx : ∀ k : Nat, k < 8 → ∀ w, (Instr.index 9 (.string t) (.int .i64 (k : Int))).run Tryd.prog w = .ok (.int .u8 ((t.data.toList.getD k 0).toNat : Int)) w := fun k hk w => by
      rw [idx_str 9 Tryd.underlying9 t k (by omega), List.getD_eq_getElem?_getD, List.getElem?_eq_getElem (by omega)]; rfl
    have HX := Lib.hid hx
    have hsz : (t.size : Int) = 8 := by omega
    obtain ⟨l, hlist⟩ : ∃ l, l = t.data.toList := ⟨_, rfl⟩
    rw [← hlist] at HR HL HX ⊢
    clear hr hl h8 hi8 hx hlist
    go_enter Tryd.func38, Tryd.ntmps38
    go_wp2_with fail
    clear hsz
    go_loop [4, 5] (fun vb vi => ∃ (acc k : Nat), k ≤ 8 ∧ acc < 4294967296 ∧ vb = .int .u32 acc ∧ vi = .int .i64 k ∧ Hid (acc < 16 ^ k ∧ readV 0 l = readV acc (l.drop k))) (fun _ vi => 8 - (RowKit.intOf vi).toNat)
    case atStart => exact ⟨0, 0, by omega, by omega, rfl, rfl, Lib.hid ⟨by decide, rfl⟩⟩
    case round =>
      obtain ⟨acc, k, hk, hacc, rfl, rfl, hh⟩ := hrel
      by_cases hlt : k < 8
      · obtain ⟨ha, hv⟩ := hh.out
        have ha7 : acc < 268435456 := Nat.lt_of_lt_of_le ha (Nat.pow_le_pow_right (by omega) (show k ≤ 7 by omega))
        have hix := HX.out k hlt
        have hdrop := readV_drop (l := l) (k := k) (acc := acc) (by rw [HL.out]; exact hlt)
        have hget : l.getD k 0 = l[k]'(by rw [HL.out]; exact hlt) := by rw [List.getD_eq_getElem?_getD, List.getElem?_eq_getElem (by rw [HL.out]; exact hlt)]; rfl
        rw [hget] at hix
        rw [hdrop] at hv
        generalize l[k]'(by rw [HL.out]; exact hlt) = c at hix hv
        have hc := c.toNat_lt
        have hpow : 16 ^ (k + 1) = 16 ^ k * 16 := Nat.pow_succ 16 k
        by_cases h1 : 48 ≤ c.toNat ∧ c.toNat ≤ 57
        · have hd : digV c = some (c.toNat - 48) := by unfold digV; rw [if_pos h1]
          rw [hd] at hv
          obtain ⟨h1a, h1b⟩ := h1
          have HN : Hid (acc * 16 + (c.toNat - 48) < 16 ^ (k + 1) ∧ readV 0 l = readV (acc * 16 + (c.toNat - 48)) (l.drop (k + 1))) := Lib.hid ⟨by omega, hv⟩
          clear hv ha hh hget hdrop hd hpow
          go_wp2
          go_round
          case rel => exact ⟨acc * 16 + (c.toNat - 48), k + 1, by omega, by omega, (by first | rfl | (congr 1; omega)), by go_num, HN⟩
          case measure => simp [RowKit.intOf]; omega
        · by_cases h2 : 97 ≤ c.toNat ∧ c.toNat ≤ 102
          · have hd : digV c = some (c.toNat - 87) := by unfold digV; rw [if_neg h1, if_pos h2]
            rw [hd] at hv
            obtain ⟨h2a, h2b⟩ := h2
            have HN : Hid (acc * 16 + (c.toNat - 87) < 16 ^ (k + 1) ∧ readV 0 l = readV (acc * 16 + (c.toNat - 87)) (l.drop (k + 1))) := Lib.hid ⟨by omega, hv⟩
            clear hv ha hh hget hdrop hd h1 hpow
            go_wp2
            go_round
            case rel => exact ⟨acc * 16 + (c.toNat - 87), k + 1, by omega, by omega, (by first | rfl | (congr 1; omega)), by go_num, HN⟩
            case measure => simp [RowKit.intOf]; omega
          · have hd : digV c = none := by unfold digV; rw [if_neg h1, if_neg h2]
            rw [hd] at hv
            have hno : readR l = none := by rw [HR.out, hv]; rfl
            have HN := Lib.hid hno
            clear hv ha hh hget hdrop hd hpow hno
            by_cases h3 : 48 ≤ c.toNat
            · have h4 : 57 < c.toNat := by omega
              by_cases h5 : 97 ≤ c.toNat
              · have h6 : 102 < c.toNat := by omega
                clear h1 h2
                go_wp2
                go_ret2
                exact Reads.no HN.out
              · clear h1 h2
                go_wp2
                go_ret2
                exact Reads.no HN.out
            · have h5 : c.toNat < 97 := by omega
              clear h1 h2
              go_wp2
              go_ret2
              exact Reads.no HN.out
      · have hk8 : k = 8 := by omega
        subst hk8
        obtain ⟨ha, hv⟩ := hh.out
        rw [List.drop_eq_nil_of_le (by rw [HL.out]; exact Nat.le_refl _)] at hv
        have hR : readR l = if txt acc = acc then some acc else none := by rw [HR.out, hv]; rfl
        have hfrom := run_frombits acc
        have hB := f_bits acc w
        by_cases hte : txt acc = acc
        · rw [if_pos hte] at hR
          rw [hte] at hB
          have HN := Lib.hid hR
          clear hR hv ha hh hlt hte
          go_wp2_with (go_at_call 45; refine hB.mono ?_; rintro e w' ⟨rfl, rfl⟩)
          go_ret2
          exact Reads.yes HN.out
        · rw [if_neg hte] at hR
          have hne : ((txt acc : Int) == (acc : Int)) = false := by simp; omega
          have HN := Lib.hid hR
          clear hR hv ha hh hlt hte
          go_wp2_with (go_at_call 45; refine hB.mono ?_; rintro e w' ⟨rfl, rfl⟩)
          go_ret2
          exact Reads.no HN.out
  · have hno : readR t.data.toList = none := by unfold readR; rw [if_neg (by rw [← ba_size]; exact h8)]
    have hi8 : ¬ (t.size : Int) = 8 := by omega
    have HN := Lib.hid hno
    clear hno h8
    go_enter Tryd.func38, Tryd.ntmps38
    go_wp2
    go_ret2
    exact Reads.no HN.out
end Go.Proofs.YtiidgljfdhcmgaaDoor
