/-
  The program reads three numbers into memory. Conditions: what the library's variables hold; the text is not too long.
-/
import Derived.Test.YtmieiaakjiklfaaDoorTouch
namespace Go.Proofs.YtmieiaakjiklfaaDoor
open Go.RowKit

/-- A number and its code. -/
def codeOf (p : List UInt8) : Int := if (readR p).isSome then 0 else 5
def numOf (p : List UInt8) : Nat := (readR p).getD 0

theorem impl_read' (p : List UInt8) (hp : p.length ≤ 1048576) (w : World) (hL : Laid w) : Calls Tryd.prog 22 #[.string ⟨p.toArray⟩] w fun e w' => e = .returned (.tuple #[.float .f32 (numOf p), .int .i64 (codeOf p)]) ∧ Kept w w' := by
  refine (impl_read ⟨p.toArray⟩ (by rw [ba_size]; simp; omega) w hL).mono fun e w' h => ?_
  unfold Nums at h
  have : (⟨p.toArray⟩ : ByteArray).data.toList = p := rfl
  rw [this] at h
  unfold numOf codeOf
  cases hr : readR p with
  | some n => rw [hr] at h; exact ⟨h.2, h.1⟩
  | none => rw [hr] at h; exact ⟨h.2, h.1⟩

theorem splitL_piece (c : UInt8) : ∀ (l p : List UInt8), p ∈ splitL c l → p.length ≤ l.length
  | [], p, h => by simp [splitL] at h; subst h; simp
  | x :: r, p, h => by
    by_cases hx : x = c
    · subst hx
      rw [splitL_hit] at h
      rcases List.mem_cons.1 h with rfl | h
      · simp
      · have := splitL_piece x r p h; simp; omega
    · rw [splitL_miss r hx] at h
      cases hs : splitL c r with
      | nil => exact absurd hs (splitL_ne c r)
      | cons q qs =>
        rw [hs] at h
        rcases List.mem_cons.1 h with rfl | h
        · have := splitL_piece c r q (by rw [hs]; exact List.mem_cons_self ..); simp; omega
        · have := splitL_piece c r p (by rw [hs]; exact List.mem_cons_of_mem _ h); simp; omega

set_option maxHeartbeats 4000000 in
set_option maxRecDepth 100000 in
theorem read_numbers (t : ByteArray) (blk off c : Nat) (w : World) (ht : t.size ≤ 1048576) (hL : LaidM w) (hb : 8 ≠ blk ∧ 1 ≠ blk ∧ 2 ≠ blk)
    (hown : ∀ j, j < 3 → (∃ x, w.cell? ⟨blk, off + j, none⟩ = some x) ∧ w.frozen? ⟨blk, off + j, none⟩ = false) :
    Calls Tryd.prog 45 #[.string t, .slice (some ⟨blk, off, none⟩) 3 c] w (intoPost t.data.toList blk off w) := by
  have HS := lib_split t 32 w ht hL.max
  have HT0 := Lib.hid (Touch.refl hown)
  have HLD := Lib.hid hL.laid
  have HB := Lib.hid hb
  have hpl : ∀ p ∈ splitL 32 t.data.toList, p.length ≤ 1048576 := fun p hp => by have := splitL_piece 32 _ p hp; rw [← ba_size] at this; omega
  by_cases h3 : (splitL 32 t.data.toList).length = 3
  · rw [h3] at HS
    obtain ⟨p, q, r, hpqr⟩ : ∃ p q r, splitL 32 t.data.toList = [p, q, r] := by
      match hs : splitL 32 t.data.toList, h3 with
      | [p, q, r], _ => exact ⟨p, q, r, rfl⟩
    rw [hpqr] at HS hpl
    have HV := Lib.hid (readVecR_three hpqr)
    have hp0 := hpl p (by simp)
    have hp1 := hpl q (by simp)
    have hp2 := hpl r (by simp)
    have HP := Lib.hid (And.intro hp0 (And.intro hp1 hp2))
    clear hpqr h3 hpl hown hL hb hp0 hp1 hp2
    go_enter Tryd.func45, Tryd.ntmps45
    go_wp2_with (go_at_call 44; refine HS.mono ?_; rintro e w1 ⟨rfl, hrow, hb1⟩)
    have hw1 := HT0.out.lt
    have HROW := Lib.hid hrow
    have HB1 := Lib.hid hb1
    have hg1 : w.heap.size < w1.heap.size := World.block_lt_of_cell? _ _ (hrow 0 p rfl)
    have HG1 := Lib.hid hg1
    clear hrow hb1 HS hg1
    go_loopw [19] (fun vi wr => ∃ k : Nat, k ≤ 3 ∧ vi = .int .i64 k ∧ Hid (Touch blk off w wr ∧ (∀ j, j < w1.heap.size → j ≠ blk → wr.heap[j]? = w1.heap[j]?) ∧ w1.heap.size ≤ wr.heap.size ∧ ∀ j s, j < k → [p, q, r][j]? = some s → ∃ n, readR s = some n ∧ wr.cell? ⟨blk, off + j, none⟩ = some (.float .f32 n))) (fun vi _ => 3 - (RowKit.intOf vi).toNat)
    case atStart => exact ⟨0, by omega, rfl, Lib.hid ⟨HT0.out.kept (kept_below HB1.out), fun _ _ _ => rfl, Nat.le_refl _, fun j s h => by omega⟩⟩
    case round =>
      obtain ⟨k, hk, rfl, hh⟩ := hrel
      rename World => W0
      obtain ⟨htch, hold, hsz0, hdone⟩ := hh.out
      by_cases hlt : k < 3
      · have hgb : w.heap.size ≠ blk := by omega
        obtain ⟨s, hs⟩ : ∃ s, [p, q, r][k]? = some s := ⟨_, List.getElem?_eq_getElem (by simpa using hlt)⟩
        have hcell : W0.cell? ⟨w.heap.size, k, none⟩ = some (.string ⟨s.toArray⟩) :=
          (World.cell?_of_block (w := w1) (a := ⟨w.heap.size, k, none⟩) (hold w.heap.size HG1.out hgb)).trans (HROW.out k s hs)
        have hlen : s.length ≤ 1048576 := by
          have hm := List.mem_of_getElem? hs
          simp at hm
          rcases hm with rfl | rfl | rfl
          · exact HP.out.1
          · exact HP.out.2.1
          · exact HP.out.2.2
        have hX := impl_read' s hlen W0 (HLD.out.touch htch HB.out)
        obtain ⟨x, hx⟩ : ∃ x : ByteArray, x = ⟨s.toArray⟩ := ⟨_, rfl⟩
        rw [← hx] at hcell hX
        have HSS := Lib.hid hs
        have HH := Lib.hid (And.intro htch (And.intro hold (And.intro hsz0 hdone)))
        clear hx hs hlen hh htch hold hsz0 hdone hgb
        cases hr : readR s with
        | none =>
          have hco : codeOf s = 5 := by unfold codeOf; rw [hr]; rfl
          rw [hco] at hX
          have hno : readVecR t.data.toList = none := by
            rw [HV.out]
            have hs := HSS.out
            have hk' : k = 0 ∨ k = 1 ∨ k = 2 := by omega
            rcases hk' with rfl | rfl | rfl <;> simp at hs <;> subst hs <;> rw [hr]
            · cases readR p <;> rfl
            · cases readR p <;> cases readR q <;> rfl
          have HNo := Lib.hid hno
          clear hr hco hno
          go_wp2_with (go_at_call 22; refine hX.mono ?_; rintro e w2 ⟨rfl, hk2⟩)
          go_ret
          exact intoPost.no HNo.out (HH.out.1.kept hk2)
        | some n =>
          have hco : codeOf s = 0 := by unfold codeOf; rw [hr]; rfl
          have hnu : numOf s = n := by unfold numOf; rw [hr]; rfl
          rw [hco, hnu] at hX
          have HRD := Lib.hid hr
          clear hr hco hnu
          go_wp2_with fail
          refine hX.mono ?_
          rintro e w2 ⟨rfl, hk2⟩
          obtain ⟨htch, hold, hsz0, hdone⟩ := HH.out
          have htch2 := htch.kept hk2
          obtain ⟨⟨y, hy⟩, hf⟩ := htch2.own k hlt
          have hst := store_ok (P := Tryd.prog) hy hf n
          have hblt : blk < W0.heap.size := Nat.lt_of_lt_of_le htch.lt htch.size
          have HN : Hid (Touch blk off w (w2.setCell ⟨blk, off + k, none⟩ (.float .f32 n)) ∧ (∀ j, j < w1.heap.size → j ≠ blk → (w2.setCell ⟨blk, off + k, none⟩ (.float .f32 n)).heap[j]? = w1.heap[j]?) ∧ w1.heap.size ≤ (w2.setCell ⟨blk, off + k, none⟩ (.float .f32 n)).heap.size ∧
              ∀ j s, j < k + 1 → [p, q, r][j]? = some s → ∃ n', readR s = some n' ∧ (w2.setCell ⟨blk, off + k, none⟩ (.float .f32 n)).cell? ⟨blk, off + j, none⟩ = some (.float .f32 n')) := by
            refine Lib.hid ⟨htch2.set hlt _, fun j hj hne => ?_, ?_, fun j z hj hz => ?_⟩
            · rw [Below.heap_setCell _ _ _ _ hne]
              exact (hk2.block j (Nat.lt_of_lt_of_le hj hsz0)).trans (hold j hj hne)
            · have := hk2.size
              simp [World.setCell]; omega
            · by_cases e : j = k
              · subst e
                have := HSS.out
                rw [this] at hz
                cases hz
                exact ⟨n, HRD.out, World.cell?_setCell_same _ _ _ hy⟩
              · obtain ⟨n', h1, h2⟩ := hdone j z (by omega) hz
                refine ⟨n', h1, ?_⟩
                rw [World.cell?_setCell_other _ _ _ _ (by first | (simp; done) | (simp; omega))]
                exact (hk2.cell (p := ⟨blk, off + j, none⟩) hblt).trans h2
          obtain ⟨w3, hw3⟩ : ∃ w3, w3 = w2.setCell ⟨blk, off + k, none⟩ (.float .f32 n) := ⟨_, rfl⟩
          rw [← hw3] at hst HN
          clear hw3 htch hold hsz0 hdone htch2 hy hf hblt hcell
          go_wp2_with fail
          go_roundw
          case rel => exact ⟨k + 1, by omega, by go_num, HN⟩
          case measure => simp [RowKit.intOf]; omega
      · have hk3 : k = 3 := by omega
        subst hk3
        obtain ⟨n0, h0, c0⟩ := hdone 0 p (by omega) rfl
        obtain ⟨n1, h1, c1⟩ := hdone 1 q (by omega) rfl
        obtain ⟨n2, h2, c2⟩ := hdone 2 r (by omega) rfl
        have hyes : readVecR t.data.toList = some (n0, n1, n2) := by rw [HV.out, h0, h1, h2]
        have HE : Hid (intoPost t.data.toList blk off w (.returned (.bool true)) W0) := by
          unfold intoPost; rw [hyes]; exact ⟨htch, rfl, c0, c1, c2⟩
        clear hh htch hold hsz0 hdone h0 h1 h2 c0 c1 c2 hyes
        go_wp2_with fail
        go_ret
        exact HE.out
  · have hno : readVecR t.data.toList = none := by
      unfold readVecR
      cases hr : readAll (splitL 32 t.data.toList) with
      | none => rfl
      | some ns =>
        have hl := readAll_len hr
        match ns, hl with
        | [], _ => rfl
        | [_], _ => rfl
        | [_, _], _ => rfl
        | [_, _, _], h => exact absurd h.symm h3
        | _ :: _ :: _ :: _ :: _, _ => rfl
    have HNo := Lib.hid hno
    obtain ⟨m, hm⟩ : ∃ m, m = (splitL 32 t.data.toList).length := ⟨_, rfl⟩
    rw [← hm] at HS h3
    have hm3 : ¬ ((m : Int) = 3) := by omega
    clear hno hm h3 hpl hown hL hb
    go_enter Tryd.func45, Tryd.ntmps45
    go_wp2_with (go_at_call 44; refine HS.mono ?_; rintro e w1 ⟨rfl, hrow, hb1⟩)
    go_ret
    exact intoPost.no HNo.out (HT0.out.kept (kept_below hb1))
end Go.Proofs.YtmieiaakjiklfaaDoor
