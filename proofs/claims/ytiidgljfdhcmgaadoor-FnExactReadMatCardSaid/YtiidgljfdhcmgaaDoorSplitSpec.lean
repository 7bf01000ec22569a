/-
  The reference cuts a text. Conditions: the text is not too long.
-/
import Derived.Test.YtiidgljfdhcmgaaDoorSplit
import Derived.Test.YtiidgljfdhcmgaaDoorNumsText
import Derived.Test.YtiidgljfdhcmgaaDoorReadSpec
namespace Go.Proofs.YtiidgljfdhcmgaaDoor
open Go.RowKit Go.Lib

theorem cut_str {P : Program} (t : TypeId) (ht : P.underlying t = some .string) (s : ByteArray) (a b : Nat) (hab : a ≤ b) (hb : b ≤ s.size) (w : World) :
    (Instr.slice t (.string s) (some (.int .i64 (a : Int))) (some (.int .i64 (b : Int))) none).run P w = .ok (.string ⟨((s.data.toList.drop a).take (b - a)).toArray⟩) w := by
  rw [run_slice_string w t s .i64 .i64 _ _ ht (by omega) (by omega) (by omega)]
  simp only [Int.toNat_natCast]
  congr 2
  exact ba_ext (by rw [Lib.extract_data, List.take_drop, show a + (b - a) = b by omega])

theorem cut_end {P : Program} (t : TypeId) (ht : P.underlying t = some .string) (s : ByteArray) (a : Nat) (hb : a ≤ s.size) (w : World) :
    (Instr.slice t (.string s) (some (.int .i64 (a : Int))) none none).run P w = .ok (.string ⟨(s.data.toList.drop a).toArray⟩) w := by
  rw [run_slice_string_l w t s ht .i64 _ (by omega) (by omega)]
  simp only [Int.toNat_natCast]
  congr 2
  exact ba_ext (by rw [Lib.extract_to_end])

def splitPost (ps : List (List UInt8)) (w : World) (e : Ending) (w' : World) : Prop :=
  ∃ g cap, e = .returned (.slice (some ⟨g, 0, none⟩) ps.length cap) ∧ g < w'.heap.size ∧ StrRow w' g ps ∧ Below w.heap.size w w'

set_option maxHeartbeats 4000000 in
set_option maxRecDepth 100000 in
theorem l01split (t : ByteArray) (c : UInt8) (w : World) (ht : t.size ≤ 1048576) :
    Calls Tryd.prog 43 #[.string t, .int .u8 (c.toNat : Int)] w (splitPost (splitL c t.data.toList) w) := by
  obtain ⟨i0, hi, hz0, hz1, hz2⟩ := info_parts info_str
  obtain ⟨l, hl⟩ : ∃ l, l = t.data.toList := ⟨_, rfl⟩
  have hlen : l.length = t.size := by rw [hl, ← ba_size]
  rw [← hl]
  have HL := Lib.hid hl
  have HLen := Lib.hid hlen
  clear hl hlen
  go_enter Tryd.func43, Tryd.ntmps43
  go_wp2_with fail
  go_loopw [5, 6, 7] (fun vo vf vi wr => ∃ (f k : Nat) (done : List (List UInt8)), f ≤ k ∧ k ≤ t.size ∧ vf = .int .i64 f ∧ vi = .int .i64 k ∧ done.length ≤ k ∧
      Hid (wr.ownsRow w.heap.size 9 1 vo done.length (strV done) ∧ splitL c l = done ++ glue ((l.drop f).take (k - f)) (splitL c (l.drop k))) ∧ Below w.heap.size w wr) (fun _ _ vi _ => t.size - (RowKit.intOf vi).toNat)
  case atStart => exact ⟨0, 0, [], by omega, by omega, rfl, rfl, by simp, Lib.hid ⟨World.ownsRow_lit w #[] 0 (Nat.le_refl _) (by decide) rfl, by simp [glue_nil (splitL_ne c l)]⟩, (Below.refl _ _).alloc (Nat.le_refl _) _⟩
  case round =>
    obtain ⟨f, k, done, hfk, hk, rfl, rfl, hdl, hh, hbel⟩ := hrel
    rename World => W0
    have HB := Lib.hid hbel
    have hsz := hbel.size
    by_cases hlt : k < t.size
    · obtain ⟨hown, hsp⟩ := hh.out
      have hkl : k < l.length := by rw [HLen.out]; exact hlt
      have hix : ∀ w, (Instr.index 9 (.string t) (.int .i64 (k : Int))).run Tryd.prog w = .ok (.int .u8 ((l[k]'hkl).toNat : Int)) w := fun w => by
        have h := idx_str 9 Tryd.underlying9 t k (by rw [← HL.out]; exact hkl) w
        simpa [← HL.out] using h
      have hdrop : l.drop k = l[k] :: l.drop (k + 1) := List.drop_eq_getElem_cons hkl
      have htake : (l.drop f).take (k + 1 - f) = (l.drop f).take (k - f) ++ [l[k]] := by
        rw [show k + 1 - f = (k - f) + 1 by omega, List.take_add_one, List.getElem?_drop, show f + (k - f) = k by omega, List.getElem?_eq_getElem hkl]; rfl
      rw [hdrop] at hsp
      by_cases hc : l[k] = c
      · rw [hc] at hix hsp
        rw [splitL_hit] at hsp
        have hcut : ∀ w, (Instr.slice 9 (.string t) (some (.int .i64 (f : Int))) (some (.int .i64 (k : Int))) none).run Tryd.prog w = .ok (.string ⟨((l.drop f).take (k - f)).toArray⟩) w := fun w => by
          have h := cut_str 9 Tryd.underlying9 t f k hfk (by omega) w
          rw [← HL.out] at h; exact h
        have hsp' : splitL c l = (done ++ [(l.drop f).take (k - f)]) ++ glue ((l.drop (k + 1)).take (k + 1 - (k + 1))) (splitL c (l.drop (k + 1))) := by
          rw [hsp, Nat.sub_self, List.take_zero, glue_nil (splitL_ne c _)]; simp [glue]
        obtain ⟨p, hp⟩ : ∃ p, p = (l.drop f).take (k - f) := ⟨_, rfl⟩
        rw [← hp] at hcut hsp'
        obtain ⟨x, hx⟩ : ∃ x : ByteArray, x = ⟨p.toArray⟩ := ⟨_, rfl⟩
        rw [← hx] at hcut
        have HX := Lib.hid hx
        have HSP := Lib.hid hsp'
        have HO := Lib.hid hown
        clear hsp hsp' hp hx hown hh hdrop htake hc hbel
        go_wp2_with (at_builtin; refine wpList_append_own _ rfl _ _ 52 rfl w.heap.size 9 i0 (.string ⟨#[]⟩) 1 16 Tryd.underlying52 hi hz0 hz1 hz2 rfl (by decide) _ _ _ rfl (HO.out.alloc _) ⟨W0.heap.size, 0, none⟩ 1 1 [.string x] rfl rfl ?c1 ?c2 ?c3 ?c4 ?c5 ?_)
        case c1 =>
          intro j u hj
          match j, hj with
          | 0, hj => simp at hj; subst hj; simp [Addr.add]
        case c2 => intro u hu; simp at hu; subst hu; rfl
        case c3 => unfold maxLen; omega
        case c4 => omega
        case c5 => simp; omega
        intro v' W2 hown' hgrow _
        have hb2 : Below w.heap.size w W2 := (HB.out.alloc (by omega) _).grown hgrow (by simp; omega) (fun j e => (HO.out.lt j e).1)
        have hown2 : W2.ownsRow w.heap.size 9 1 v' (done ++ [p]).length (strV (done ++ [p])) := by
          rw [HX.out] at hown'; simpa [strV] using hown'
        have HN := Lib.hid (And.intro hown2 HSP.out)
        have HB2 := Lib.hid hb2
        clear hown' hgrow hb2 hown2
        go_wp2
        go_roundw
        case rel => exact ⟨k + 1, k + 1, done ++ [p], by omega, by omega, by go_num, by go_num, by simp; omega, HN, HB2.out⟩
        case measure => simp [RowKit.intOf]; omega
      · rw [splitL_miss _ hc, glue_glue _ _ (splitL_ne c _), ← htake] at hsp
        have hne : (((l[k]).toNat : Int) == (c.toNat : Int)) = false := by
          simp only [beq_eq_false_iff_ne, ne_eq]
          intro e
          exact hc (UInt8.toNat_inj.1 (by omega))
        have HN := Lib.hid (And.intro hown hsp)
        generalize l[k] = z at hix hne
        clear hsp hown hh hdrop htake hc hbel
        go_wp2_with fail
        go_roundw
        case rel => exact ⟨f, k + 1, done, by omega, by omega, rfl, by go_num, by omega, HN, HB.out⟩
        case measure => simp [RowKit.intOf]; omega
    · have hk' : k = t.size := by omega
      subst hk'
      obtain ⟨hown, hsp⟩ := hh.out
      have hcut : ∀ w, (Instr.slice 9 (.string t) (some (.int .i64 (f : Int))) none none).run Tryd.prog w = .ok (.string ⟨(l.drop f).toArray⟩) w := fun w => by
        have h := cut_end 9 Tryd.underlying9 t f (by omega) w
        rw [← HL.out] at h; exact h
      have hsp' : splitL c l = done ++ [l.drop f] := by
        have e1 : l.drop t.size = [] := List.drop_eq_nil_of_le (by rw [HLen.out]; exact Nat.le_refl _)
        have e2 : (l.drop f).take (t.size - f) = l.drop f := List.take_of_length_le (by rw [List.length_drop, HLen.out]; exact Nat.le_refl _)
        rw [hsp, e1, e2]
        simp [splitL, glue]
      obtain ⟨p, hp⟩ : ∃ p, p = l.drop f := ⟨_, rfl⟩
      rw [← hp] at hcut hsp'
      obtain ⟨x, hx⟩ : ∃ x : ByteArray, x = ⟨p.toArray⟩ := ⟨_, rfl⟩
      rw [← hx] at hcut
      have HX := Lib.hid hx
      have HSP := Lib.hid hsp'
      have HO := Lib.hid hown
      clear hsp hsp' hp hx hown hh hbel
      go_wp2_with (at_builtin; refine wpList_append_own _ rfl _ _ 52 rfl w.heap.size 9 i0 (.string ⟨#[]⟩) 1 16 Tryd.underlying52 hi hz0 hz1 hz2 rfl (by decide) _ _ _ rfl (HO.out.alloc _) ⟨W0.heap.size, 0, none⟩ 1 1 [.string x] rfl rfl ?d1 ?d2 ?d3 ?d4 ?d5 ?_)
      case d1 =>
        intro j u hj
        match j, hj with
        | 0, hj => simp at hj; subst hj; simp [Addr.add]
      case d2 => intro u hu; simp at hu; subst hu; rfl
      case d3 => unfold maxLen; omega
      case d4 => omega
      case d5 => simp; omega
      intro v' W2 hown' hgrow _
      have hb2 : Below w.heap.size w W2 := (HB.out.alloc (by omega) _).grown hgrow (by simp; omega) (fun j e => (HO.out.lt j e).1)
      have hown2 : W2.ownsRow w.heap.size 9 1 v' (splitL c l).length (strV (splitL c l)) := by
        rw [HX.out] at hown'; rw [HSP.out]; simpa [strV] using hown'
      have HN := Lib.hid hown2
      have HB2 := Lib.hid hb2
      clear hown' hgrow hb2 hown2
      go_wp2
      go_ret
      obtain ⟨h1, h2⟩ := HN.out
      rcases h2 with ⟨_, h2⟩ | ⟨g, cap, cur, hv, hbg, hgc, hnc, hcm, hcs, htk⟩
      · exact absurd (List.eq_nil_of_length_eq_zero h2) (splitL_ne c l)
      · subst hv
        refine ⟨g, cap, rfl, (Array.getElem?_eq_some_iff.1 hgc).1, fun j p hp => ?_, HB2.out⟩
        rw [World.ownsRow.cellAt HN.out j (by have := (List.getElem?_eq_some_iff.1 hp).1; omega)]
        simp [strV, hp]
end Go.Proofs.YtiidgljfdhcmgaaDoor
