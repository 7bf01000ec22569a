/-
  The library reads a numeral in base 16 of 32 bits. Conditions: the text is not empty and not too long.
-/
import Derived.Test.YtmieiaakjiklfaaDoorRead
import Derived.Test.YtmieiaakjiklfaaDoorShelf
import Derived.Lib.ConvBytes
import Derived.Lib.ParseIntBMem
import Derived.Laws.Strings3
import Derived.Laws.Closers25
import Derived.Laws.Closers25b
import Derived.BigCall
import Derived.BigGuard
namespace Go.Proofs.YtmieiaakjiklfaaDoor
open Go.RowKit Go.Sort Go.Lib

/-- How a reading ends. -/
inductive PR where
  | ok (n : Nat)
  | syn
  | rng

def PR.val : PR → Value
  | .ok n => .tuple #[.int .u64 n, .nilIface]
  | .syn => .tuple #[.int .u64 0, .iface 102 (.int .i64 2)]
  | .rng => .tuple #[.int .u64 4294967295, .iface 102 (.int .i64 1)]

def lowN (c : UInt8) : Nat := (bits .or .u8 (c.toNat : Int) 32).toNat

def hexval (c : UInt8) : Option Nat :=
  if 48 ≤ c.toNat ∧ c.toNat ≤ 57 then some (c.toNat - 48) else if 97 ≤ lowN c ∧ lowN c ≤ 102 then some (lowN c - 87) else none

def parseH : Nat → List UInt8 → PR
  | acc, [] => .ok acc
  | acc, c :: r => match hexval c with
    | none => .syn
    | some d => if 4294967295 < acc * 16 + d then .rng else parseH (acc * 16 + d) r

theorem lowN_le (c : UInt8) : lowN c ≤ 255 := by have := bits_hi_u8 .or (c.toNat : Int) 32; unfold lowN; omega

theorem hexval_lt {c : UInt8} {d : Nat} (h : hexval c = some d) : d < 16 := by
  unfold hexval at h
  split at h
  · cases h; omega
  · split at h
    · cases h; omega
    · cases h

theorem low95 : lowN 95 = 127 := by decide +kernel

set_option maxHeartbeats 32000000 in
set_option maxRecDepth 100000 in
theorem parse_in (t : ByteArray) (hne : t.size ≠ 0) (hmax : t.size ≤ 9223372036854775806) (w : World) :
    Calls Tryd.prog 64 #[.string t, .int .i64 16, .int .i64 32] w fun e w' => e = .returned (parseH 0 t.data.toList).val ∧ w' = Lib.bytesWorld w 5 t := by
  have hemp : t.toList.isEmpty = false := by
    rw [← decide_eq_emptyBytes]
    exact decide_eq_false (fun h => hne (by rw [h]; rfl))
  have hcv := Lib.run_convert_string_bytes (P := Tryd.prog) w 9 22 5 t (u := .string) Tryd.underlying9 Tryd.underlying22 Tryd.underlying5
  have hB : ∀ j, j < t.size → (Lib.bytesWorld w 5 t).cell? ⟨w.heap.size, j, none⟩ = some (.int .u8 (t.data.toList.getD j 0).toNat) := fun j hj => Lib.bytesWorld_cell w 5 t j hj
  obtain ⟨W1, hW1⟩ : ∃ W1, W1 = Lib.bytesWorld w 5 t := ⟨_, rfl⟩
  rw [← hW1] at hcv hB ⊢
  clear hW1
  obtain ⟨bs, hL⟩ : ∃ bs, bs = t.data.toList := ⟨_, rfl⟩
  have hLn : bs.length = t.size := by rw [hL, Lib.size_eq]
  rw [← hL] at hB ⊢
  clear hL
  have hmv : IntKind.u64.wrap (IntKind.u64.wrap 4294967296 - 1) = 4294967295 := by
    rw [IntKind.wrap_u64, IntKind.wrap_u64]
    decide
  go_enter Tryd.func64, Tryd.ntmps64
  go_wp2
  go_loop [12, 13, 101] (fun vu vn vi => ∃ (k acc : Nat) (a : Int), vu = .bool false ∧ vn = .int .u64 a ∧ vi = .int .i64 k ∧ k ≤ t.size ∧ Hid (a = (acc : Int) ∧ acc ≤ 4294967295 ∧ parseH 0 bs = parseH acc (bs.drop k)))
    (fun _ _ vi => t.size - (RowKit.intOf vi).toNat)
  case atStart => exact ⟨0, 0, 0, rfl, rfl, rfl, by omega, rfl, by omega, rfl⟩
  case round =>
    obtain ⟨k, acc, a, rfl, rfl, rfl, hk, hh⟩ := hrel
    obtain ⟨ha, hacc, hdec⟩ := hh.out
    clear hh
    have a0 : 0 ≤ a := by omega
    have a1 : a ≤ 4294967295 := by omega
    by_cases hkn : k < t.size
    · have hc := hB k hkn
      have hdrop : bs.drop k = bs[k]'(by omega) :: bs.drop (k + 1) := List.drop_eq_getElem_cons (by omega)
      have hget : bs.getD k 0 = bs[k]'(by omega) := by simp [List.getD, List.getElem?_eq_getElem (show k < bs.length by omega)]
      rw [hdrop] at hdec
      rw [hget] at hc
      generalize bs[k]'(by omega) = c at hc hdec
      have hc256 : c.toNat < 256 := c.toNat_lt
      clear hB hdrop hget
      have hlow : ∀ W, Calls Tryd.prog 77 #[.int .u8 (c.toNat : Int)] W fun e w' => e = .returned (.int .u8 (lowN c : Int)) ∧ w' = W := fun W => by
        have h := Tryd.internal_strconv_lower (c.toNat : Int) W
        have h0 := bits_lo_u8 .or (c.toNat : Int) 32
        rw [show bits .or .u8 (c.toNat : Int) 32 = ((lowN c : Nat) : Int) by unfold lowN; omega] at h
        exact h
      have hq := lowN_le c
      have h95 : c.toNat = 95 → lowN c = 127 := fun h => by
        have : c = 95 := UInt8.toNat_inj.1 h
        rw [this]; exact low95
      obtain ⟨q, hqe⟩ : ∃ q, q = lowN c := ⟨_, rfl⟩
      have hx : hexval c = if 48 ≤ c.toNat ∧ c.toNat ≤ 57 then some (c.toNat - 48) else if 97 ≤ q ∧ q ≤ 102 then some (q - 87) else none := by rw [hqe]; rfl
      rw [← hqe] at hlow hq h95
      clear hqe
      have HLow := Lib.hid hlow
      clear hlow
      by_cases hdig : 48 ≤ c.toNat ∧ c.toNat ≤ 57
      · rw [if_pos hdig] at hx
        obtain ⟨hd0, hd1⟩ := hdig
        by_cases hov : 4294967295 < acc * 16 + (c.toNat - 48)
        · have hF : parseH acc (c :: bs.drop (k + 1)) = .rng := by simp only [parseH, hx]; rw [if_pos hov]
          rw [hF] at hdec
          have iov : 4294967295 < a * 16 + ((c.toNat : Int) - 48) := by omega
          clear hacc hF hov ha hx h95
          go_wp2
          go_ret2
          exact ⟨rfl, rfl⟩
        · have hF : parseH acc (c :: bs.drop (k + 1)) = parseH (acc * 16 + (c.toNat - 48)) (bs.drop (k + 1)) := by simp only [parseH, hx]; rw [if_neg hov]
          have HN : Hid (a * 16 + ((c.toNat : Int) - 48) = ((acc * 16 + (c.toNat - 48) : Nat) : Int) ∧ acc * 16 + (c.toNat - 48) ≤ 4294967295 ∧ parseH 0 bs = parseH (acc * 16 + (c.toNat - 48)) (bs.drop (k + 1))) := Lib.hid ⟨by omega, by omega, hdec.trans hF⟩
          have iov : a * 16 + ((c.toNat : Int) - 48) ≤ 4294967295 := by omega
          clear hacc hF hov hdec ha hx h95
          go_wp2
          refine ⟨⟨k + 1, acc * 16 + (c.toNat - 48), a * 16 + ((c.toNat : Int) - 48), rfl, (by first | rfl | (congr 1; omega)), (by first | rfl | (congr 1; omega)), by omega, HN⟩, by simp [RowKit.intOf]; omega⟩
      · rw [if_neg hdig] at hx
        by_cases hlet : 97 ≤ q ∧ q ≤ 102
        · rw [if_pos hlet] at hx
          obtain ⟨hl0, hl1⟩ := hlet
          have hn95 : ¬ ((c.toNat : Int) = 95) := fun h => by have := h95 (by omega); omega
          have hnd : ¬ (48 ≤ (c.toNat : Int) ∧ (c.toNat : Int) ≤ 57) := fun h => hdig (by omega)
          by_cases hov : 4294967295 < acc * 16 + (q - 87)
          · have hF : parseH acc (c :: bs.drop (k + 1)) = .rng := by simp only [parseH, hx]; rw [if_pos hov]
            rw [hF] at hdec
            have iov : 4294967295 < a * 16 + ((q : Int) - 97 + 10) := by omega
            clear hacc hF hov ha hx h95 hdig
            go_wp2_with (go_at_call 77; refine (HLow.out _).mono ?_; rintro e w' ⟨rfl, rfl⟩)
            all_goals go_ret2
            all_goals first | exact ⟨rfl, rfl⟩ | exact ⟨by rw [hdec]; rfl, rfl⟩
          · have hF : parseH acc (c :: bs.drop (k + 1)) = parseH (acc * 16 + (q - 87)) (bs.drop (k + 1)) := by simp only [parseH, hx]; rw [if_neg hov]
            have HN : Hid (a * 16 + ((q : Int) - 97 + 10) = ((acc * 16 + (q - 87) : Nat) : Int) ∧ acc * 16 + (q - 87) ≤ 4294967295 ∧ parseH 0 bs = parseH (acc * 16 + (q - 87)) (bs.drop (k + 1))) := Lib.hid ⟨by omega, by omega, hdec.trans hF⟩
            have iov : a * 16 + ((q : Int) - 97 + 10) ≤ 4294967295 := by omega
            clear hacc hF hov hdec ha hx h95 hdig
            go_wp2_with (go_at_call 77; refine (HLow.out _).mono ?_; rintro e w' ⟨rfl, rfl⟩)
            all_goals (refine ⟨⟨k + 1, acc * 16 + (q - 87), a * 16 + ((q : Int) - 97 + 10), rfl, (by first | rfl | (congr 1; omega)), (by first | rfl | (congr 1; omega)), by omega, HN⟩, by simp [RowKit.intOf]; omega⟩)
        · rw [if_neg hlet] at hx
          have hF : parseH acc (c :: bs.drop (k + 1)) = .syn := by simp only [parseH, hx]
          rw [hF] at hdec
          clear hacc hF ha hx
          by_cases hn : c.toNat = 95
          · have hq127 := h95 hn
            subst hq127
            rw [hn] at hc
            have h62 : ∀ W, Calls Tryd.prog 77 #[.int .u8 95] W fun e w' => e = .returned (.int .u8 127) ∧ w' = W := fun W => by
              have h := HLow.out W
              rw [hn] at h
              exact h
            clear h95 hn hdig hlet hc256 HLow
            have HLow := Lib.hid h62
            clear h62
            go_wp2_with (go_at_call 77; refine (HLow.out _).mono ?_; rintro e w' ⟨rfl, rfl⟩)
            all_goals go_ret2
            all_goals first | exact ⟨rfl, rfl⟩ | exact ⟨by rw [hdec]; rfl, rfl⟩
          · have hn95 : ¬ ((c.toNat : Int) = 95) := fun h => hn (by omega)
            by_cases hlo : c.toNat < 48
            · clear hdig h95 hn
              by_cases hq0 : 97 ≤ q
              · have hq1 : 102 < q := by omega
                by_cases hq2 : q ≤ 122
                · clear hlet
                  go_wp2_with (go_at_call 77; refine (HLow.out _).mono ?_; rintro e w' ⟨rfl, rfl⟩)
                  all_goals go_ret2
                  all_goals first | exact ⟨rfl, rfl⟩ | exact ⟨by rw [hdec]; rfl, rfl⟩
                · have hq3 : 122 < q := by omega
                  clear hlet hq2
                  go_wp2_with (go_at_call 77; refine (HLow.out _).mono ?_; rintro e w' ⟨rfl, rfl⟩)
                  all_goals go_ret2
                  all_goals first | exact ⟨rfl, rfl⟩ | exact ⟨by rw [hdec]; rfl, rfl⟩
              · have hq1 : q < 97 := by omega
                clear hlet hq0
                go_wp2_with (go_at_call 77; refine (HLow.out _).mono ?_; rintro e w' ⟨rfl, rfl⟩)
                all_goals go_ret2
                all_goals first | exact ⟨rfl, rfl⟩ | exact ⟨by rw [hdec]; rfl, rfl⟩
            · have hhi : 57 < c.toNat := by omega
              clear hdig h95 hn hlo
              by_cases hq0 : 97 ≤ q
              · have hq1 : 102 < q := by omega
                by_cases hq2 : q ≤ 122
                · clear hlet
                  go_wp2_with (go_at_call 77; refine (HLow.out _).mono ?_; rintro e w' ⟨rfl, rfl⟩)
                  all_goals go_ret2
                  all_goals first | exact ⟨rfl, rfl⟩ | exact ⟨by rw [hdec]; rfl, rfl⟩
                · have hq3 : 122 < q := by omega
                  clear hlet hq2
                  go_wp2_with (go_at_call 77; refine (HLow.out _).mono ?_; rintro e w' ⟨rfl, rfl⟩)
                  all_goals go_ret2
                  all_goals first | exact ⟨rfl, rfl⟩ | exact ⟨by rw [hdec]; rfl, rfl⟩
              · have hq1 : q < 97 := by omega
                clear hlet hq0
                go_wp2_with (go_at_call 77; refine (HLow.out _).mono ?_; rintro e w' ⟨rfl, rfl⟩)
                all_goals go_ret2
                all_goals first | exact ⟨rfl, rfl⟩ | exact ⟨by rw [hdec]; rfl, rfl⟩
    · have hkk : k = t.size := by omega
      subst hkk
      have hF : parseH acc (bs.drop t.size) = .ok acc := by rw [List.drop_eq_nil_of_le (by omega)]; rfl
      rw [hF] at hdec
      subst ha
      clear hacc hF a0 a1
      go_wp2
      go_ret2
      exact ⟨rfl, rfl⟩
end Go.Proofs.YtmieiaakjiklfaaDoor
