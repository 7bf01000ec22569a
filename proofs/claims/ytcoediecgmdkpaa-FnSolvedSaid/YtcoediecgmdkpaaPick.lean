/-
  Picks from the source. Conditions: as with the next number.
-/
import Derived.Test.YtcoediecgmdkpaaDraw
import Derived.Test.YtcoediecgmdkpaaSx33
namespace Go.Proofs.Ytcoediecgmdkpaa
open Go.RowKit Go.Lib Go.Sx Ieee

/-- The source and what it gives: a number, its place, its seed. -/
def pickS (zs : List Int) (at_ : Nat) (seed n : Int) : Int := drawNext zs at_ seed % n
def pickL (zs : List Int) (at_ : Nat) (seed n : Int) : Int := (drawNext zs at_ seed * 256 + drawNext zs (at_ + 1) (seedNext zs at_ seed)) % n

set_option maxHeartbeats 1000000 in
set_option maxRecDepth 100000 in
theorem pick_small (b : Nat) (v : Value) (zs : List Int) (at_ : Nat) (seed n : Int) (w : World) (h : Src b v zs at_ seed w) (h1 : at_ ≤ 1000000) (hl : zs.length ≤ 1000000) (hn : 1 < n) (hn2 : n ≤ 200) :
    Calls Try.prog 42 #[.pointer (some ⟨b, 0, none⟩), .int .i64 n] w fun e w' => e = .returned (.int .i64 (pickS zs at_ seed n)) ∧ Src b v zs (at_ + 1) (seedNext zs at_ seed) w' ∧ SrcStep b w w' := by
  have HN := Lib.hid (next_calls b v zs at_ seed w h h1 hl)
  obtain ⟨p, cap, rfl, hz, hcell⟩ := h.bytes
  obtain ⟨hx1, hx2⟩ := drawNext_bounds zs hz at_ seed
  have HX : pickS zs at_ seed n = drawNext zs at_ seed % n := rfl
  rw [HX]
  clear HX
  generalize drawNext zs at_ seed = x at *
  generalize seedNext zs at_ seed = s at *
  clear h hz hcell hl h1
  go_enter Try.func42, Try.ntmps42
  go_wp2_with fail
  refine (HN.out).mono ?_
  rintro e w1 ⟨rfl, hs, ht⟩
  have HS := Lib.hid (And.intro hs ht)
  clear hs ht HN
  go_wp2
  go_ret
  exact ⟨rfl, HS.out.1, HS.out.2⟩

set_option maxHeartbeats 1000000 in
set_option maxRecDepth 100000 in
theorem pick_large (b : Nat) (v : Value) (zs : List Int) (at_ : Nat) (seed n : Int) (w : World) (h : Src b v zs at_ seed w) (h1 : at_ + 1 ≤ 1000000) (hl : zs.length ≤ 1000000) (hn : 200 < n) :
    Calls Try.prog 42 #[.pointer (some ⟨b, 0, none⟩), .int .i64 n] w fun e w' => e = .returned (.int .i64 (pickL zs at_ seed n)) ∧ Src b v zs (at_ + 2) (seedNext zs (at_ + 1) (seedNext zs at_ seed)) w' ∧ SrcStep b w w' := by
  have HN := Lib.hid (next_calls b v zs at_ seed w h (by omega) hl)
  have HM := Lib.hid (fun w1 h => next_calls b v zs (at_ + 1) (seedNext zs at_ seed) w1 h (by omega) hl)
  obtain ⟨p, cap, rfl, hz, hcell⟩ := h.bytes
  obtain ⟨hx1, hx2⟩ := drawNext_bounds zs hz at_ seed
  obtain ⟨hy1, hy2⟩ := drawNext_bounds zs hz (at_ + 1) (seedNext zs at_ seed)
  have HX : pickL zs at_ seed n = (drawNext zs at_ seed * 256 + drawNext zs (at_ + 1) (seedNext zs at_ seed)) % n := rfl
  rw [HX]
  clear HX
  generalize drawNext zs at_ seed = x at *
  generalize drawNext zs (at_ + 1) (seedNext zs at_ seed) = y at *
  generalize seedNext zs (at_ + 1) (seedNext zs at_ seed) = t at *
  generalize seedNext zs at_ seed = s at *
  have hn1 : 1 < n := by omega
  clear h hz hcell hl h1
  go_enter Try.func42, Try.ntmps42
  go_wp2_with fail
  refine (HN.out).mono ?_
  rintro e w1 ⟨rfl, hs, ht⟩
  have HS := Lib.hid ht
  have HM1 := Lib.hid (HM.out w1 hs)
  clear hs ht HN HM
  go_wp2_with fail
  refine (HM1.out).mono ?_
  rintro e w2 ⟨rfl, hs, ht⟩
  have HS2 := Lib.hid (And.intro hs (HS.out.trans ht))
  clear hs ht HM1
  go_wp2
  go_ret
  exact ⟨rfl, HS2.out.1, HS2.out.2⟩

/-- The source, made. -/
theorem from_calls (v : Value) (zs : List Int) (w : World) (h : BytesV v zs w) :
    Calls Try.prog 24 #[v] w fun e w' => e = .returned (.pointer (some ⟨w.heap.size, 0, none⟩)) ∧ Src w.heap.size v zs 0 0 w' ∧ Kept w w' ∧ w'.heap.size = w.heap.size + 1 := by
  obtain ⟨p, cap, rfl, hz, hcell⟩ := h
  have HC := Lib.hid hcell
  have HZ := Lib.hid hz
  clear hz hcell
  go_enter Try.func24, Try.ntmps24
  go_wp2
  go_ret
  have e0 := World.cell?_alloc_new w #[Value.slice p zs.length cap, Value.int IntKind.i64 0, Value.int IntKind.u64 0] 58 0
  refine ⟨rfl, ⟨⟨p, cap, rfl, HZ.out, fun i hi => ?_⟩, ?_, ?_, ?_, World.frozen?_alloc_new _ _ _ _, World.frozen?_alloc_new _ _ _ _, fun h0 a n c hv => ?_⟩, (Kept.refl w).alloc _, by simp⟩
  · obtain ⟨a, rfl, ha⟩ := HC.out i hi
    exact ⟨a, rfl, ((Kept.refl w).alloc _).cell (World.block_lt_of_cell? _ _ ha) |>.trans ha⟩
  · rw [World.cell?_alloc_new]; rfl
  · rw [World.cell?_alloc_new]; rfl
  · rw [World.cell?_alloc_new]; rfl
  · obtain ⟨a', rfl, ha⟩ := HC.out 0 h0
    cases hv
    have := World.block_lt_of_cell? _ _ ha
    rw [addr_add_block] at this
    omega

/-- A plain number's bits, by what was picked. -/
def plainB (x : Int) : Nat := (floatBits .quo .f32 (floatOfInt .f32 (x - 64)) 1090519040).getD 0

def plainOk (j : Nat) : Bool :=
  match floatBits .quo .f32 (floatOfInt .f32 ((j : Int) - 64)) 1090519040 with
  | some b => Nat.blt b 4294967296 && match single.read b with
    | .number g m e => decide ((-149 : Int) ≤ e) && decide (sg g * ((m * 2 ^ (e + 149).toNat : Nat) : Int) = ((j : Int) - 64) * ((2 ^ 146 : Nat) : Int))
    | _ => false
  | none => false

set_option maxRecDepth 100000 in
theorem plain_all : (List.range 129).all plainOk = true := by kernel_rfl

theorem plain_fact {x : Int} (h0 : 0 ≤ x) (h1 : x < 129) : floatBits .quo .f32 (floatOfInt .f32 (x - 64)) 1090519040 = some (plainB x) ∧ plainB x < 4294967296 ∧ Rep (x - 64) 3 (canon .f32 (plainB x)) := by
  obtain ⟨j, rfl⟩ : ∃ j : Nat, x = j := ⟨x.toNat, by omega⟩
  have h := List.all_eq_true.1 plain_all j (by simp; omega)
  unfold plainOk at h
  unfold plainB
  cases hb : floatBits .quo .f32 (floatOfInt .f32 ((j : Int) - 64)) 1090519040 with
  | none => rw [hb] at h; cases h
  | some b =>
    rw [hb] at h
    simp only [Bool.and_eq_true] at h
    obtain ⟨h2, h3⟩ := h
    refine ⟨rfl, Nat.le_of_ble_eq_true h2, ?_⟩
    cases hr : single.read b with
    | number g m e =>
      rw [hr] at h3
      simp only [Bool.and_eq_true, decide_eq_true_eq] at h3
      exact ⟨b, g, m, e, canon_num (by show (single.read b).isNaN = false; rw [hr]; rfl), hr, h3.1, h3.2⟩
    | infinity s => rw [hr] at h3; cases h3
    | nan s f => rw [hr] at h3; cases h3

theorem pickS_bounds {zs : List Int} (at_ : Nat) (seed n : Int) (hn : 0 < n) : 0 ≤ pickS zs at_ seed n ∧ pickS zs at_ seed n < n :=
  ⟨Int.emod_nonneg _ (by omega), Int.emod_lt_of_pos _ hn⟩

set_option maxHeartbeats 1000000 in
set_option maxRecDepth 100000 in
theorem plain_calls (b : Nat) (v : Value) (zs : List Int) (at_ : Nat) (seed : Int) (w : World) (h : Src b v zs at_ seed w) (h1 : at_ ≤ 1000000) (hl : zs.length ≤ 1000000) :
    Calls Try.prog 25 #[.pointer (some ⟨b, 0, none⟩)] w fun e w' => e = .returned (.float .f32 (plainB (pickS zs at_ seed 129))) ∧ Src b v zs (at_ + 1) (seedNext zs at_ seed) w' ∧ SrcStep b w w' := by
  have HN := Lib.hid (pick_small b v zs at_ seed 129 w h h1 hl (by decide) (by decide))
  obtain ⟨hx1, hx2⟩ := pickS_bounds (zs := zs) at_ seed 129 (by decide)
  have hq := (plain_fact hx1 hx2).1
  generalize pickS zs at_ seed 129 = x at *
  have hw : wrap64 (x - 64) = x - 64 := by first | (simp [wrap64]; omega) | (unfold wrap64; omega)
  have hrun := fun (W : World) => run_float_arith (P := Try.prog) W .quo 24 .f32 (floatOfInt .f32 (x - 64)) 1090519040 (plainB x) hq
  clear h hq
  go_enter Try.func25, Try.ntmps25
  go_wp2_with fail
  refine (HN.out).mono ?_
  rintro e w1 ⟨rfl, hs, ht⟩
  have HS := Lib.hid (And.intro hs ht)
  clear hs ht HN
  go_wp2
  go_ret
  exact ⟨rfl, HS.out.1, HS.out.2⟩

/-- Every world in which nothing but a block behind the first world's is turned. -/
theorem kept_step {u w w' : World} {b : Nat} (k : Kept u w) (h : SrcStep b w w') (hb : u.heap.size ≤ b) : Kept u w' :=
  ⟨h.os.trans k.os, h.output.trans k.output, by rw [h.size]; exact k.size, fun i hi => (h.block i (by omega)).trans (k.block i hi)⟩

end Go.Proofs.Ytcoediecgmdkpaa
