/-
  The reference reads numbers. Conditions: the text is not too long.
-/
import Derived.Test.YtiidgljfdhcmgaaDoorSplitSpec
namespace Go.Proofs.YtiidgljfdhcmgaaDoor
open Go.RowKit Go.Lib

theorem info_f32 : (Tryd.prog.info? 22).map (fun i => (i.zero, i.size, i.bytes)) = some (some (.float .f32 0), 1, 4) := by kernel_rfl

/-- All pieces read. -/
def readAll : List (List UInt8) → Option (List Nat)
  | [] => some []
  | p :: ps => match readR p, readAll ps with
    | some n, some ns => some (n :: ns)
    | _, _ => none

theorem readAll_none {ps : List (List UInt8)} {j : Nat} {p : List UInt8} (h : ps[j]? = some p) (hp : readR p = none) : readAll ps = none := by
  induction ps generalizing j with
  | nil => simp at h
  | cons q qs ih =>
    cases j with
    | zero => simp at h; subst h; simp [readAll, hp]
    | succ j =>
      have := ih (by simpa using h)
      simp only [readAll, this]
      split <;> simp_all

theorem readAll_some {ps : List (List UInt8)} {ns : List Nat} (hl : ns.length = ps.length) (h : ∀ (j : Nat) (p : List UInt8), ps[j]? = some p → ∃ n : Nat, ns[j]? = some n ∧ readR p = some n) : readAll ps = some ns := by
  induction ps generalizing ns with
  | nil => simp at hl; subst hl; rfl
  | cons q qs ih =>
    cases ns with
    | nil => simp at hl
    | cons m ms =>
      obtain ⟨n, h1, h2⟩ := h 0 q rfl
      simp at h1; subst h1
      have := ih (ns := ms) (by simpa using hl) (fun j p hp => by simpa using h (j + 1) p (by simpa using hp))
      simp [readAll, h2, this]

def fltV (ns : List Nat) : List Value := ns.map fun n => Value.float .f32 n

/-- What reading owes: the numbers in memory and yes, or no. -/
def numsPost (ps : List (List UInt8)) (w : World) (e : Ending) (w' : World) : Prop :=
  Below w.heap.size w w' ∧ match readAll ps with
    | some ns => ∃ g cap, e = .returned (.tuple #[.slice (some ⟨g, 0, none⟩) ps.length cap, .bool true]) ∧ (∀ j n, ns[j]? = some n → w'.cell? ⟨g, j, none⟩ = some (.float .f32 n)) ∧ ns.length = ps.length
    | none => ∃ v, e = .returned (.tuple #[v, .bool false])

theorem numsPost.no {ps : List (List UInt8)} {w w' : World} {v : Value} (h : readAll ps = none) (hb : Below w.heap.size w w') : numsPost ps w (.returned (.tuple #[v, .bool false])) w' := by
  unfold numsPost; rw [h]; exact ⟨hb, v, rfl⟩

set_option maxHeartbeats 4000000 in
set_option maxRecDepth 100000 in
theorem l01numbers (ps : List (List UInt8)) (g c : Nat) (w : World) (hps : ps.length ≤ 1048577) (hne : 0 < ps.length) (hrow : StrRow w g ps) (hg : g < w.heap.size) :
    Calls Tryd.prog 51 #[.slice (some ⟨g, 0, none⟩) ps.length c] w (numsPost ps w) := by
  obtain ⟨i0, hi, hz0, hz1, hz2⟩ := info_parts info_f32
  have HR := Lib.hid hrow
  clear hrow
  go_enter Tryd.func51, Tryd.ntmps51
  go_wp2_with fail
  go_loopw [4, 5] (fun vo vi wr => ∃ (k : Nat) (ns : List Nat), k ≤ ps.length ∧ vi = .int .i64 k ∧ Hid (ns.length = k ∧ (∀ j p, j < k → ps[j]? = some p → ∃ n, ns[j]? = some n ∧ readR p = some n) ∧ wr.ownsRow w.heap.size 22 1 vo k (fltV ns)) ∧ Below w.heap.size w wr) (fun _ vi _ => ps.length - (RowKit.intOf vi).toNat)
  case atStart => exact ⟨0, [], by omega, rfl, Lib.hid ⟨rfl, fun j p h => by omega, World.ownsRow_lit w #[] 0 (Nat.le_refl _) (by decide) rfl⟩, (Below.refl _ _).alloc (Nat.le_refl _) _⟩
  case round =>
    obtain ⟨k, ns, hk, rfl, hh, hbel⟩ := hrel
    rename World => W0
    have HB := Lib.hid hbel
    have hsz := hbel.size
    by_cases hlt : k < ps.length
    · have hcell : W0.cell? ⟨g, k, none⟩ = some (.string ⟨(ps[k]'hlt).toArray⟩) := (hbel.cell (p := ⟨g, k, none⟩) hg).trans (HR.out k _ (List.getElem?_eq_getElem hlt))
      obtain ⟨hnl, hns, hown⟩ := hh.out
      obtain ⟨p, hp⟩ : ∃ p, p = ps[k]'hlt := ⟨_, rfl⟩
      have hpk : ps[k]? = some p := by rw [hp]; exact List.getElem?_eq_getElem hlt
      rw [← hp] at hcell
      have hX := l01read ⟨p.toArray⟩ W0
      have hXe : (⟨p.toArray⟩ : ByteArray).data.toList = p := rfl
      rw [hXe] at hX
      obtain ⟨x, hx⟩ : ∃ x : ByteArray, x = ⟨p.toArray⟩ := ⟨_, rfl⟩
      rw [← hx] at hcell hX
      have HO := Lib.hid hown
      have HNL := Lib.hid hnl
      have HNS := Lib.hid hns
      have HPK := Lib.hid hpk
      clear hp hx hnl hns hown hpk hh hbel hXe
      cases hr : readR p with
      | some n =>
        have hX' : Calls Tryd.prog 38 #[.string x] W0 fun e w' => e = .returned (.tuple #[.float .f32 n, .bool true]) ∧ W0 = w' := hX.mono fun e w' h => by unfold Reads at h; rw [hr] at h; exact ⟨h.2, h.1⟩
        have HRD := Lib.hid hr
        clear hX hr
        go_wp2_with (first
          | (go_at_call 38; refine hX'.mono ?_; rintro e w1 ⟨rfl, rfl⟩)
          | (at_builtin; refine wpList_append_own _ rfl _ _ 56 rfl w.heap.size 22 i0 (.float .f32 0) 1 4 Tryd.underlying56 hi hz0 hz1 hz2 rfl (by decide) _ _ _ rfl (HO.out.alloc _) ⟨W0.heap.size, 0, none⟩ 1 1 [.float .f32 n] rfl rfl ?c1 ?c2 ?c3 ?c4 ?c5 ?_))
        case c1 =>
          intro j u hj
          match j, hj with
          | 0, hj => simp at hj; subst hj; simp [Addr.add]
        case c2 => intro u hu; simp at hu; subst hu; rfl
        case c3 => unfold maxLen; omega
        case c4 => omega
        case c5 => simp; omega
        intro v' W2 hown' hgrow _
        have hb2 : Below w.heap.size w W2 := (HB.out.alloc (by omega) _).grown hgrow (by simp; omega) (fun j e => (HO.out.lt j e).1)
        have HN : Hid ((ns ++ [n]).length = k + 1 ∧ (∀ j p, j < k + 1 → ps[j]? = some p → ∃ m, (ns ++ [n])[j]? = some m ∧ readR p = some m) ∧ W2.ownsRow w.heap.size 22 1 v' (k + 1) (fltV (ns ++ [n]))) := Lib.hid ⟨by simp [HNL.out], fun j q hj hq => by
          by_cases hjk : j < k
          · obtain ⟨m, h1, h2⟩ := HNS.out j q hjk hq
            exact ⟨m, by rw [List.getElem?_append_left (by rw [HNL.out]; exact hjk)]; exact h1, h2⟩
          · have hjk' : j = k := by omega
            subst hjk'
            rw [HPK.out] at hq
            cases hq
            exact ⟨n, by rw [List.getElem?_append_right (by rw [HNL.out]; omega), HNL.out]; simp, HRD.out⟩, by simpa [fltV] using hown'⟩
        have HB2 := Lib.hid hb2
        clear hown' hgrow hb2
        go_wp2
        go_roundw
        case rel => exact ⟨k + 1, ns ++ [n], by omega, by go_num, HN, HB2.out⟩
        case measure => simp [RowKit.intOf]; omega
      | none =>
        have hX' : Calls Tryd.prog 38 #[.string x] W0 fun e w' => ∃ b, e = .returned (.tuple #[.float .f32 b, .bool false]) ∧ W0 = w' := hX.mono fun e w' h => by unfold Reads at h; rw [hr] at h; obtain ⟨h1, b, h2⟩ := h; exact ⟨b, h2, h1⟩
        have HNo := Lib.hid (readAll_none HPK.out hr)
        clear hX hr
        go_wp2_with (go_at_call 38; refine hX'.mono ?_; rintro e w1 ⟨b, rfl, rfl⟩)
        go_ret2
        exact numsPost.no HNo.out (HB.out.alloc (by omega) _)
    · have hkk : k = ps.length := by omega
      subst hkk
      clear hbel
      go_wp2_with fail
      go_ret2
      obtain ⟨h1, h2, h3⟩ := hh.out
      have hall : readAll ps = some ns := readAll_some h1 (fun j p hp => h2 j p (List.getElem?_eq_some_iff.1 hp).1 hp)
      unfold numsPost
      rw [hall]
      refine ⟨HB.out, ?_⟩
      obtain ⟨h4, h5⟩ := id h3
      rcases h5 with ⟨_, h5⟩ | ⟨g', cap, cur, hv, hbg, hgc, hnc, hcm, hcs, htk⟩
      · omega
      · subst hv
        refine ⟨g', cap, rfl, fun j n hj => ?_, h1⟩
        rw [World.ownsRow.cellAt h3 j (by have := (List.getElem?_eq_some_iff.1 hj).1; omega)]
        simp [fltV, hj]
end Go.Proofs.YtiidgljfdhcmgaaDoor
