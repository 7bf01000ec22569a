/-
  The program reads a number. Conditions: what the library's variables hold.
-/
import Derived.Test.YtmieiaakjiklfaaDoorParse
import Derived.Test.YtmieiaakjiklfaaDoorNumText
import Derived.Test.YtmieiaakjiklfaaDoorReadSpec
import Derived.Test.YtmieiaakjiklfaaDoorKept
namespace Go.Proofs.YtmieiaakjiklfaaDoor
open Go.RowKit

/-- What the library's variables hold. -/
structure Laid (w : World) : Prop where
  tab : w.cell? ⟨8, 15, none⟩ = some (.int .u8 4)
  syn : ∃ ev, w.cell? ⟨1, 0, none⟩ = some ev ∧ (ev = .nilIface ∨ ∃ te pe, ev = .iface te pe)
  rng : ∃ ev, w.cell? ⟨2, 0, none⟩ = some ev ∧ (ev = .nilIface ∨ ∃ te pe, ev = .iface te pe)

theorem Laid.kept {w w' : World} (h : Laid w) (k : Kept w w') : Laid w' := by
  obtain ⟨h1, ⟨e2, h2, h3⟩, ⟨e4, h4, h5⟩⟩ := h
  exact ⟨(k.cell (World.block_lt_of_cell? _ _ h1)).trans h1, ⟨e2, (k.cell (World.block_lt_of_cell? _ _ h2)).trans h2, h3⟩, ⟨e4, (k.cell (World.block_lt_of_cell? _ _ h4)).trans h4, h5⟩⟩

def parseT (l : List UInt8) : PR := if l = [] then .syn else parseH 0 l

set_option maxRecDepth 100000 in
theorem parse_any (t : ByteArray) (hmax : t.size ≤ 9223372036854775806) (w : World) :
    Calls Tryd.prog 64 #[.string t, .int .i64 16, .int .i64 32] w fun e w' => e = .returned (parseT t.data.toList).val ∧ Below w.heap.size w w' := by
  by_cases h0 : t.data.toList = []
  · have ht : t = ⟨#[]⟩ := ba_ext h0
    subst ht
    clear h0 hmax
    go_enter Tryd.func64, Tryd.ntmps64
    go_wp2
    go_ret2
    exact ⟨rfl, Below.refl _ _⟩
  · have hs : t.size ≠ 0 := fun h => h0 (List.eq_nil_of_length_eq_zero (by rw [← ba_size]; exact h))
    refine (parse_in t hs hmax w).mono fun e w' ⟨he, hw⟩ => ⟨?_, ?_⟩
    · rw [he, parseT, if_neg h0]
    · rw [hw]; exact Lib.bytesWorld_below _ _ _

/-- The public reading. -/
def PubReads (r : PR) (w : World) (e : Ending) (w' : World) : Prop :=
  Below w.heap.size w w' ∧ match r with
    | .ok n => e = .returned (.tuple #[.int .u64 n, .nilIface])
    | _ => ∃ (u : Nat) (N : Nat), u ≤ 4294967295 ∧ e = .returned (.tuple #[.int .u64 u, .iface 106 (.pointer (some ⟨N, 0, none⟩))])

set_option maxRecDepth 100000 in
theorem parse_pub (t : ByteArray) (hlim : t.size ≤ 281474976710656) (w : World) (hL : Laid w) :
    Calls Tryd.prog 48 #[.string t, .int .i64 16, .int .i64 32] w (PubReads (parseT t.data.toList) w) := by
  have hI := parse_any t (by omega) w
  have HL := Lib.hid hL
  have HM := Lib.hid hlim
  clear hL hlim
  cases hr : parseT t.data.toList with
  | ok n =>
    rw [hr] at hI
    have hI' : Calls Tryd.prog 64 #[.string t, .int .i64 16, .int .i64 32] w fun e w' => e = .returned (.tuple #[.int .u64 n, .nilIface]) ∧ Below w.heap.size w w' := hI
    clear hI hr
    go_enter Tryd.func48, Tryd.ntmps48
    go_wp2_with (go_at_call 64; refine hI'.mono ?_; rintro e W1 ⟨rfl, hb1⟩)
    go_ret2
    exact ⟨hb1, rfl⟩
  | syn =>
    rw [hr] at hI
    have hI' : Calls Tryd.prog 64 #[.string t, .int .i64 16, .int .i64 32] w fun e w' => e = .returned (.tuple #[.int .u64 0, .iface 102 (.int .i64 2)]) ∧ Below w.heap.size w w' := hI
    clear hI hr
    go_enter Tryd.func48, Tryd.ntmps48
    go_wp2_with (go_at_call 64; refine hI'.mono ?_; rintro e W1 ⟨rfl, hb1⟩)
    obtain ⟨ev, h1, h2⟩ := (HL.out.kept (kept_below hb1)).syn
    have hT := Tryd.strconv_toError_syntax ⟨#[80, 97, 114, 115, 101, 85, 105, 110, 116]⟩ t 16 32 ev W1 HM.out h1 h2
    clear h1 h2 hI'
    go_wp2_with (go_at_call 65; refine hT.mono ?_; rintro e W2 ⟨N, rfl, h3, h4, hb2⟩)
    clear h4
    go_ret2
    exact ⟨hb1.trans (hb2.mono hb1.size), 0, N, by omega, rfl⟩
  | rng =>
    rw [hr] at hI
    have hI' : Calls Tryd.prog 64 #[.string t, .int .i64 16, .int .i64 32] w fun e w' => e = .returned (.tuple #[.int .u64 4294967295, .iface 102 (.int .i64 1)]) ∧ Below w.heap.size w w' := hI
    clear hI hr
    go_enter Tryd.func48, Tryd.ntmps48
    go_wp2_with (go_at_call 64; refine hI'.mono ?_; rintro e W1 ⟨rfl, hb1⟩)
    obtain ⟨ev, h1, h2⟩ := (HL.out.kept (kept_below hb1)).rng
    have hT := Tryd.strconv_toError_range ⟨#[80, 97, 114, 115, 101, 85, 105, 110, 116]⟩ t 16 32 ev W1 HM.out h1 h2
    clear h1 h2 hI'
    go_wp2_with (go_at_call 65; refine hT.mono ?_; rintro e W2 ⟨N, rfl, h3, h4, hb2⟩)
    clear h4
    go_ret2
    exact ⟨hb1.trans (hb2.mono hb1.size), 4294967295, N, by omega, rfl⟩

theorem hexval_hexD {d : Nat} (h : d < 16) : hexval (hexD d) = some d := by
  have : ∀ d : Fin 16, hexval (hexD d.val) = some d.val := by decide +kernel
  exact this ⟨d, h⟩

theorem parseH_digit {acc d : Nat} {r : List UInt8} (hd : d < 16) (h : acc * 16 + d ≤ 4294967295) : parseH acc (hexD d :: r) = parseH (acc * 16 + d) r := by
  simp only [parseH, hexval_hexD hd]
  rw [if_neg (by omega)]

theorem parseT_hex8 {n : Nat} (h : n < 4294967296) : parseT (hex8 n) = .ok n := by
  unfold parseT
  rw [if_neg (by simp [hex8])]
  unfold hex8
  rw [parseH_digit (by omega) (by omega), parseH_digit (by omega) (by omega), parseH_digit (by omega) (by omega), parseH_digit (by omega) (by omega),
    parseH_digit (by omega) (by omega), parseH_digit (by omega) (by omega), parseH_digit (by omega) (by omega), parseH_digit (by omega) (by omega)]
  simp only [parseH]
  congr 1; omega

theorem parseH_le : ∀ (l : List UInt8) (acc n : Nat), acc ≤ 4294967295 → parseH acc l = .ok n → n ≤ 4294967295
  | [], acc, n, h, e => by simp only [parseH, PR.ok.injEq] at e; omega
  | c :: r, acc, n, h, e => by
    simp only [parseH] at e
    split at e
    · cases e
    · split at e
      · cases e
      · exact parseH_le r _ n (by omega) e

theorem parseT_le {l : List UInt8} {n : Nat} (h : parseT l = .ok n) : n ≤ 4294967295 := by
  unfold parseT at h
  split at h
  · cases h
  · exact parseH_le l 0 n (by omega) h

end Go.Proofs.YtmieiaakjiklfaaDoor
