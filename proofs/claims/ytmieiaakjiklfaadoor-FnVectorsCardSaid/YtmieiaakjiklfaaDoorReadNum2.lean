/-
  Program and reference read a number. Conditions: what the library's variables hold.
-/
import Derived.Test.YtmieiaakjiklfaaDoorReadNum
namespace Go.Proofs.YtmieiaakjiklfaaDoor
open Go.RowKit

/-- A number read, with its code. -/
def Nums (l : List UInt8) (w : World) (e : Ending) (w' : World) : Prop :=
  Kept w w' ∧ match readR l with
    | some n => e = .returned (.tuple #[.float .f32 n, .int .i64 0])
    | none => e = .returned (.tuple #[.float .f32 0, .int .i64 5])

theorem Nums.yes {l : List UInt8} {w w' : World} {n : Nat} (h : readR l = some n) (k : Kept w w') : Nums l w (.returned (.tuple #[.float .f32 n, .int .i64 0])) w' := by
  unfold Nums; rw [h]; exact ⟨k, rfl⟩
theorem Nums.no {l : List UInt8} {w w' : World} (h : readR l = none) (k : Kept w w') : Nums l w (.returned (.tuple #[.float .f32 0, .int .i64 5])) w' := by
  unfold Nums; rw [h]; exact ⟨k, rfl⟩

set_option maxHeartbeats 1000000 in
set_option maxRecDepth 100000 in
theorem impl_read (t : ByteArray) (hlim : t.size ≤ 281474976710656) (w : World) (hL : Laid w) : Calls Tryd.prog 22 #[.string t] w (Nums t.data.toList w) := by
  have H := parse_pub t hlim w hL
  have HL := Lib.hid hL
  have hfrom := run_frombits
  clear hL hlim
  cases hp : parseT t.data.toList with
  | ok n =>
    have hn := parseT_le hp
    have H' : Calls Tryd.prog 48 #[.string t, .int .i64 16, .int .i64 32] w fun e w' => e = .returned (.tuple #[.int .u64 n, .nilIface]) ∧ Below w.heap.size w w' := H.mono fun e w' h => by unfold PubReads at h; rw [hp] at h; exact ⟨h.2, h.1⟩
    clear H
    by_cases heq : hex8 (txt n) = t.data.toList
    · have hr : readR t.data.toList = some (txt n) := by rw [← heq]; exact readR_hex8 (txt_lt (by omega)) (txt_txt n)
      have htn : txt n = n := by
        have := parseT_hex8 (n := txt n) (txt_lt (by omega))
        rw [heq, hp] at this
        exact (PR.ok.inj this).symm
      rw [htn] at hr heq
      have HT : Hid (txt n = n) := htn
      have hte : t = ⟨(hex8 n).toArray⟩ := ba_ext heq.symm
      have HTE := Lib.hid hte
      have HR := Lib.hid hr
      clear hp heq hr htn hte
      go_enter Tryd.func22, Tryd.ntmps22
      go_wp2_with (go_at_call 48; refine H'.mono ?_; rintro e w1 ⟨rfl, hb1⟩)
      have hT := num_text n (txt_lt (by omega)) w1 (HL.out.kept (kept_below hb1)).tab
      rw [HT.out, ← HTE.out] at hT
      go_wp2_with (go_at_call 23; refine hT.mono ?_; rintro e w2 ⟨rfl, hb2⟩)
      go_ret2
      exact Nums.yes HR.out (kept_below (hb1.trans (hb2.mono hb1.size)))
    · have hr : readR t.data.toList = none := by
        cases h : readR t.data.toList with
        | none => rfl
        | some m =>
          obtain ⟨h1, h2, h3⟩ := readR_some h
          have := parseT_hex8 h2
          rw [← h1, hp] at this
          cases this
          exact absurd (by rw [h3, h1]) heq
      have HR := Lib.hid hr
      obtain ⟨x, hx⟩ : ∃ x : ByteArray, x = ⟨(hex8 (txt n)).toArray⟩ := ⟨_, rfl⟩
      have hne : (x.toList == t.toList) = false := by rw [ByteArray.toList_eq, ByteArray.toList_eq, hx]; exact beq_eq_false_iff_ne.2 heq
      have HX := Lib.hid hx
      clear hp heq hr hx
      go_enter Tryd.func22, Tryd.ntmps22
      go_wp2_with (go_at_call 48; refine H'.mono ?_; rintro e w1 ⟨rfl, hb1⟩)
      have hT := num_text n (txt_lt (by omega)) w1 (HL.out.kept (kept_below hb1)).tab
      rw [← HX.out] at hT
      go_wp2_with (go_at_call 23; refine hT.mono ?_; rintro e w2 ⟨rfl, hb2⟩)
      go_ret2
      exact Nums.no HR.out (kept_below (hb1.trans (hb2.mono hb1.size)))
  | _ =>
    have hr : readR t.data.toList = none := by
      cases h : readR t.data.toList with
      | none => rfl
      | some m =>
        obtain ⟨h1, h2, h3⟩ := readR_some h
        have := parseT_hex8 h2
        rw [← h1, hp] at this
        cases this
    have H' : Calls Tryd.prog 48 #[.string t, .int .i64 16, .int .i64 32] w fun e w' => ∃ (u N : Nat), u ≤ 4294967295 ∧ e = .returned (.tuple #[.int .u64 u, .iface 106 (.pointer (some ⟨N, 0, none⟩))]) ∧ Below w.heap.size w w' := H.mono fun e w' h => by unfold PubReads at h; rw [hp] at h; obtain ⟨h1, u, N, h2, h3⟩ := h; exact ⟨u, N, h2, h3, h1⟩
    have HR := Lib.hid hr
    clear hp hr H
    go_enter Tryd.func22, Tryd.ntmps22
    go_wp2_with (go_at_call 48; refine H'.mono ?_; rintro e w1 ⟨u, N, hu, rfl, hb1⟩)
    go_ret2
    exact Nums.no HR.out (kept_below hb1)
end Go.Proofs.YtmieiaakjiklfaaDoor
