/-
  'FnSolved' returns true for all arguments, and leaves them as they were. Conditions: none.
-/
import Derived.Test.YtcoediecgmdkpaaLawFnSolved
import Derived.ProofKit
import Derived.OpenShut
import Derived.ChangeMaps5
import Derived.ChangeSlices
import Derived.Carry
import Derived.Laws.Cover2
import Derived.LaidMore
import Derived.Lay
import Derived.SevenTiedAt
import Derived.Stop.Joined
namespace Go.Proofs.Ytcoediecgmdkpaa.fnSolved
open Go.ChangeShapes Go.WideShapes Go.ChangeAt Go.RowKit Go.ChangeMaps

theorem Try.laidOut : laidOutB Try.prog = true := by kernel_rfl

theorem kept_same {w w' : World} (h : Kept w w') {p : MemPlace} (hp : p.block < w.heap.size) : w.sameAt w' p := by
  cases p with
  | cell b o => exact World.cell?_of_block (w := w) (a := ⟨b, o, none⟩) (h.block b hp)
  | map b => exact h.block b hp

theorem bytes_arg {H : Type} {enc : TypeId × Value → H} {P : Program} {w : World} {base : Nat} {held : Bool} {t e : TypeId} {v : Value} {d : DataW H} {p : List MemPlace} (ht : P.underlying t = some (.slice e)) (he : P.underlying e = some (.int .u8)) (hc : P.cellsOf e = 1)
    (hv : ∃ a len cap, v = .slice a len cap) (h : DataW.Trod enc P w base (fun _ => true) held t v d p) : ∃ zs, BytesV v zs w := by
  obtain ⟨a0, len, cap, rfl⟩ := hv
  obtain ⟨fuel, hf⟩ := h
  rcases open_ints ht he hc hf with ⟨hcs, _⟩ | ⟨a, len', cap', zs, hcs, _, hl, _, hz, _, hcell, hwz⟩
  · simp [Value.cells] at hcs
    obtain ⟨rfl, rfl, rfl⟩ := hcs
    exact ⟨[], none, 0, rfl, fun z hz => by simp at hz, fun i hi => by simp at hi⟩
  · simp [Value.cells] at hcs
    obtain ⟨rfl, rfl, rfl⟩ := hcs
    simp only [if_true] at hz
    have hln : (zs.take len).length = len := by simp; omega
    refine ⟨zs.take len, some a, cap, by rw [hln], fun z hz => bounds_u8 (hwz z (List.mem_of_mem_take hz)), fun i hi => ⟨a, rfl, ?_⟩⟩
    rw [hln] at hi
    rw [hcell i (by omega)]
    simp [List.getD, hi]

theorem own : ownKnob Try.prog.godebug = none := by kernel_rfl

set_option maxRecDepth 100000 in
theorem lifted (os : Os) (started : os.Started) (H : Type) (enc : TypeId × Value → H) :
    ReturnsInHanded {} Try.checked os 3 .any (Rows.fnSolvedSpec.pre6 enc Try.prog Try.f3 Rows.fnSolvedRow.domain false) (Rows.fnSolvedSpec.post enc Try.prog Try.f3 false true false false) := by
  refine returnsInHanded_of_change (C := Try.checked) own started (by kernel_rfl) Try.func3
    (ChangeSpec.witness6 (enc := enc) (C := Try.checked) false ⟨#[], #[.slice none 0 0, .slice none 0 0], []⟩ 8 (by kernel_rfl) (by kernel_rfl) (by kernel_rfl) (by kernel_rfl)) ?_
  intro W base args ds gs before hval0 hW _ _
  have hval : ∀ (j : Nat) t v, Try.f3.params[j]? = some t → args[j]? = some v → Value.okWide Try.prog W .any base t v := hval0
  have hW' := hW
  obtain ⟨p, q, hA0, hV, rfl, _, _⟩ := hW
  have hA : DataW.TrodAll enc Try.prog W 0 (fun _ => true) true Try.f3.params.toList args.toList ds p := hA0
  rw [Try.params3] at hA hval
  obtain ⟨v0, vs, d0, ds', p0, q0, ea, rfl, rfl, h0, hA1⟩ := trodAll_cons hA
  obtain ⟨v1, vs1, d1, ds1, q1, r1, rfl, rfl, rfl, h1, hA2⟩ := trodAll_cons hA1
  obtain ⟨rfl, rfl, rfl⟩ := trodAll_nil hA2
  have eargs : args = #[v0, v1] := Array.ext' ea
  subst eargs
  obtain ⟨rfl, rfl⟩ := trodVars_none hV
  have s0 := okWide_slice Try.underlying22 (hval 0 22 v0 rfl rfl)
  have s1 := okWide_slice Try.underlying22 (hval 1 22 v1 rfl rfl)
  obtain ⟨z0, b0⟩ := bytes_arg Try.underlying22 Try.underlying5 (by kernel_rfl) s0 h0
  obtain ⟨z1, b1⟩ := bytes_arg Try.underlying22 Try.underlying5 (by kernel_rfl) s1 h1
  simp only [List.append_nil] at hW'
  have hlt : ∀ x ∈ p0 ++ q1, x.block < W.heap.size := fun x hx => by simpa using hW'.lt x hx
  refine (law_solved v0 v1 z0 z1 W b0 b1).mono fun e W' ⟨he, hb⟩ => ?_
  subst he
  refine ⟨_, rfl, post_kept (pa := p0 ++ q1) (pv := []) hW' (fun _ _ _ => trodAll_mk1 (shut_bool Try.underlying4 _)) (fun sp hsp => ?_) (fun _ _ => rfl) (by simp) hb (ok_one (by kernel_rfl) rfl (okWide_bool_mk Try.underlying4 _))⟩
  rw [Try.params3]
  refine trodAll_cons_mk (p := p0) (p' := q1) ?_ (trodAll_mk1 ?_)
  · exact WideElems.Trod_stays Try.laidOut (by kernel_rfl) (of_decide_eq_true (by kernel_rfl)) h0 (fun x hx => kept_same hb (hlt x (List.mem_append_left _ hx))) (fun x hx => hsp x (by simp [hx]))
  · exact WideElems.Trod_stays Try.laidOut (by kernel_rfl) (of_decide_eq_true (by kernel_rfl)) h1 (fun x hx => kept_same hb (hlt x (List.mem_append_right _ hx))) (fun x hx => hsp x (by simp [hx]))

theorem over : Rows.fnSolvedRow.holds Try.pinned (OpenSpec.ofChange Rows.fnSolvedSpec) :=
  OpenClaim.holds_of_wide 3 Try.f3 rfl rfl rfl rfl rfl rfl rfl ⟨rfl, rfl, rfl, rfl, rfl⟩ rfl rfl rfl rfl rfl (by kernel_rfl) Try.func3 (by kernel_rfl)
    (of_decide_eq_true (by kernel_rfl)) (by unfold Func.isWrapper; first | (rw [if_pos (by decide +kernel)]; kernel_rfl) | (rw [if_neg (by decide +kernel)]; exact ⟨rfl, rfl⟩))
    (fun os started H enc _ => lifted os started H enc)

/-- The statement. -/
theorem proved : Rows.FnSolvedSaid := over
#print axioms proved
end Go.Proofs.Ytcoediecgmdkpaa.fnSolved
