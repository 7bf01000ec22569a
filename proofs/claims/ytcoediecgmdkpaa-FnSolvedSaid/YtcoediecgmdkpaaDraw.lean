/-
  The source of draws: what a next number is, and what stays. Conditions: the bytes lie there; the source is the caller's own.
-/
import Derived.Test.YtcoediecgmdkpaaKept
import Derived.RegionTactic
import Derived.CellFam
import Derived.Laws.Bits64b
namespace Go.Proofs.Ytcoediecgmdkpaa
open Go.RowKit Go.Lib

theorem addr_add_block (a : Addr) (i : Nat) : (a.add i).block = a.block := by unfold Addr.add; first | rfl | (cases a; rfl) | simp | (split <;> rfl)

/-- A slice of bytes, as numbers. -/
def BytesV (v : Value) (zs : List Int) (w : World) : Prop :=
  ∃ (p : Option Addr) (cap : Nat), v = .slice p zs.length cap ∧ (∀ z ∈ zs, 0 ≤ z ∧ z ≤ 255) ∧ ∀ i, i < zs.length → ∃ a, p = some a ∧ w.cell? (a.add i) = some (.int .u8 (zs.getD i 0))

/-- The source: its bytes, its place, its seed. -/
structure Src (b : Nat) (v : Value) (zs : List Int) (at_ : Nat) (seed : Int) (w : World) : Prop where
  bytes : BytesV v zs w
  c0 : w.cell? ⟨b, 0, none⟩ = some v
  c1 : w.cell? ⟨b, 1, none⟩ = some (.int .i64 at_)
  c2 : w.cell? ⟨b, 2, none⟩ = some (.int .u64 seed)
  f1 : w.frozen? ⟨b, 1, none⟩ = false
  f2 : w.frozen? ⟨b, 2, none⟩ = false
  apart : 0 < zs.length → ∀ a n cap, v = .slice (some a) n cap → a.block ≠ b

/-- The byte, the seed and the number that come next. -/
def byteAt (zs : List Int) (at_ : Nat) : Int := if at_ < zs.length then zs.getD at_ 0 else 0
def seedNext (zs : List Int) (at_ : Nat) (seed : Int) : Int := IntKind.u64.wrap (IntKind.u64.wrap (IntKind.u64.wrap (seed * 6364136223846793005) + byteAt zs at_) + 1442695040888963407)
def drawNext (zs : List Int) (at_ : Nat) (seed : Int) : Int :=
  if at_ < zs.length then zs.getD at_ 0 else wrap64 (bits .and .u64 (seedNext zs at_ seed / 1099511627776) 255)

/-- Nothing but the source has turned. -/
structure SrcStep (b : Nat) (w w' : World) : Prop where
  os : w'.os = w.os
  output : w'.output = w.output
  size : w'.heap.size = w.heap.size
  block : ∀ k : Nat, k ≠ b → w'.heap[k]? = w.heap[k]?

theorem SrcStep.refl (b : Nat) (w : World) : SrcStep b w w := ⟨rfl, rfl, rfl, fun _ _ => rfl⟩
theorem SrcStep.trans {b : Nat} {u v w : World} (h : SrcStep b u v) (k : SrcStep b v w) : SrcStep b u w :=
  ⟨k.os.trans h.os, k.output.trans h.output, k.size.trans h.size, fun i hi => (k.block i hi).trans (h.block i hi)⟩
theorem SrcStep.drew {b : Nat} {u v : World} (h : SrcStep b u v) : SrcStep b u v.drew := ⟨h.os, h.output, h.size, h.block⟩

theorem src_after {b : Nat} {v : Value} {zs : List Int} {at_ : Nat} {seed : Int} {w : World} (h : Src b v zs at_ seed w) (y : Int) {W : World}
    (hW : W.heap = ((w.setCell ⟨b, 1, none⟩ (.int .i64 (at_ + 1))).setCell ⟨b, 2, none⟩ (.int .u64 y)).heap) (ho : W.os = w.os) (hu : W.output = w.output) : Src b v zs (at_ + 1) y W ∧ SrcStep b w W := by
  have hblk : ∀ k : Nat, W.heap[k]? = ((w.setCell ⟨b, 1, none⟩ (.int .i64 (at_ + 1))).setCell ⟨b, 2, none⟩ (.int .u64 y)).heap[k]? := fun k => by rw [hW]
  have hc : ∀ p : Addr, W.cell? p = ((w.setCell ⟨b, 1, none⟩ (.int .i64 (at_ + 1))).setCell ⟨b, 2, none⟩ (.int .u64 y)).cell? p := fun p => World.cell?_of_block (hblk p.block)
  have hf : ∀ p : Addr, W.frozen? p = w.frozen? p := fun p => by
    rw [World.frozen?_of_block (hblk p.block)]; simp
  have hk : ∀ k : Nat, k ≠ b → W.heap[k]? = w.heap[k]? := fun k hk => by rw [hblk, Below.heap_setCell _ _ _ _ hk, Below.heap_setCell _ _ _ _ hk]
  have d2 : (w.setCell ⟨b, 1, none⟩ (.int .i64 (at_ + 1))).cell? ⟨b, 2, none⟩ = some (.int .u64 seed) := by rw [World.cell?_setCell_other _ _ _ _ (by simp)]; exact h.c2
  refine ⟨⟨?_, ?_, ?_, ?_, ?_, ?_, h.apart⟩, ⟨ho, hu, by rw [hW]; simp [World.setCell], hk⟩⟩
  · obtain ⟨p, cap, rfl, hz, hcell⟩ := h.bytes
    refine ⟨p, cap, rfl, hz, fun i hi => ?_⟩
    obtain ⟨a, rfl, ha⟩ := hcell i hi
    exact ⟨a, rfl, (World.cell?_of_block (a := a.add i) (hk _ (by rw [addr_add_block]; exact h.apart (by omega) a _ _ rfl))).trans ha⟩
  · rw [hc, World.cell?_setCell_other _ _ _ _ (by simp), World.cell?_setCell_other _ _ _ _ (by simp)]; exact h.c0
  · rw [hc, World.cell?_setCell_other _ _ _ _ (by simp)]; exact World.cell?_setCell_same _ _ _ h.c1
  · rw [hc]; exact World.cell?_setCell_same _ _ _ d2
  · rw [hf]; exact h.f1
  · rw [hf]; exact h.f2

set_option maxHeartbeats 1000000 in
set_option maxRecDepth 100000 in
theorem next_calls (b : Nat) (v : Value) (zs : List Int) (at_ : Nat) (seed : Int) (w : World) (h : Src b v zs at_ seed w) (h1 : at_ ≤ 1000000) (hl : zs.length ≤ 1000000) :
    Calls Try.prog 48 #[.pointer (some ⟨b, 0, none⟩)] w fun e w' => e = .returned (.int .i64 (drawNext zs at_ seed)) ∧ Src b v zs (at_ + 1) (seedNext zs at_ seed) w' ∧ SrcStep b w w' := by
  have HS := Lib.hid h
  obtain ⟨⟨p, cap, rfl, hz, hcell⟩, c0, c1, c2, f1, f2, ap⟩ := h
  clear ap
  by_cases hat : at_ < zs.length
  · obtain ⟨a, rfl, hc⟩ := hcell at_ hat
    have hb := hz (zs.getD at_ 0) (by rw [List.getD, List.getElem?_eq_getElem hat]; exact List.getElem_mem hat)
    have e1 : drawNext zs at_ seed = zs.getD at_ 0 := by unfold drawNext; rw [if_pos hat]
    have e2 : seedNext zs at_ seed = IntKind.u64.wrap (IntKind.u64.wrap (IntKind.u64.wrap (seed * 6364136223846793005) + zs.getD at_ 0) + 1442695040888963407) := by unfold seedNext byteAt; rw [if_pos hat]
    rw [e1, e2]
    clear e1 e2
    generalize hzz : zs.getD at_ 0 = z at *
    have hat' : (at_ : Int) < (zs.length : Int) := by omega
    have hle : ((at_ : Int) + 1 ≤ (zs.length : Int)) := by omega
    clear hz hcell
    generalize hn : zs.length = n at hat hat' hle hl c0
    go_enter Try.func48, Try.ntmps48
    go_wp2
    go_region
    go_wp2
    go_region
    go_wp2
    go_region
    go_wp2
    go_ret
    subst hn
    exact ⟨rfl, src_after HS.out _ rfl rfl rfl⟩
  · have hat' : ¬ (at_ : Int) < (zs.length : Int) := by omega
    have hle : ¬ ((at_ : Int) + 1 ≤ (zs.length : Int)) := by omega
    have e0 : byteAt zs at_ = 0 := by unfold byteAt; rw [if_neg hat]
    have e2 : seedNext zs at_ seed = IntKind.u64.wrap (IntKind.u64.wrap (IntKind.u64.wrap (seed * 6364136223846793005)) + 1442695040888963407) := by unfold seedNext; rw [e0, Int.add_zero]
    have e1 : drawNext zs at_ seed = wrap64 (bits .and .u64 (seedNext zs at_ seed / 1099511627776) 255) := by unfold drawNext; rw [if_neg hat]
    rw [e1, e2]
    clear e0 e1 e2 hz hcell
    generalize hn : zs.length = n at hat hat' hle hl c0
    go_enter Try.func48, Try.ntmps48
    go_wp2
    go_region
    go_wp2
    go_region
    go_wp2
    go_ret
    subst hn
    exact ⟨rfl, src_after HS.out _ rfl rfl rfl⟩

theorem seedNext_bounds (zs : List Int) (at_ : Nat) (seed : Int) : 0 ≤ seedNext zs at_ seed ∧ seedNext zs at_ seed < 18446744073709551616 := by
  unfold seedNext
  generalize (IntKind.u64.wrap (IntKind.u64.wrap (seed * 6364136223846793005) + byteAt zs at_) + 1442695040888963407) = x
  simp only [IntKind.wrap]
  constructor
  · first | omega | (simp; omega) | exact Int.emod_nonneg _ (by decide)
  · first | omega | (simp; omega) | exact Int.emod_lt_of_pos _ (by decide)

theorem drawNext_bounds (zs : List Int) (hz : ∀ z ∈ zs, 0 ≤ z ∧ z ≤ 255) (at_ : Nat) (seed : Int) : 0 ≤ drawNext zs at_ seed ∧ drawNext zs at_ seed ≤ 255 := by
  unfold drawNext
  split
  · rename_i h
    exact hz _ (by rw [List.getD, List.getElem?_eq_getElem h]; exact List.getElem_mem h)
  · obtain ⟨h1, h2⟩ := seedNext_bounds zs at_ seed
    generalize seedNext zs at_ seed = s at *
    obtain ⟨n, hn⟩ : ∃ n : Nat, s / 1099511627776 = n := ⟨(s / 1099511627776).toNat, by omega⟩
    have hlt : n < 18446744073709551616 := by omega
    have e := bits_and_u64_nat n 255 hlt (by decide)
    have e' : bits .and .u64 (s / 1099511627776) 255 = ((n &&& 255 : Nat) : Int) := by rw [hn]; exact e
    rw [e']
    have h3 : n &&& 255 ≤ 255 := Nat.and_le_right
    have e3 : wrap64 ((n &&& 255 : Nat) : Int) = ((n &&& 255 : Nat) : Int) := by
      generalize n &&& 255 = m at *
      first | (simp [wrap64]; omega) | (unfold wrap64; omega)
    rw [e3]
    omega
end Go.Proofs.Ytcoediecgmdkpaa
