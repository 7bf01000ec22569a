/-
  A row of bytes that is filled with digits from its end. Conditions: none.
-/
import Derived.Test.YtmieiaakjiklfaaDoorNum
import Derived.Lib.ItoaMem
namespace Go.Proofs.YtmieiaakjiklfaaDoor
open Go.RowKit Go.Sort Go.Lib

abbrev byteV : UInt8 → Value := fun (b : UInt8) => Value.int .u8 (b.toNat : Int)

/-- From place m on the row holds the last digits. -/
structure RowInv (S n m : Nat) (dk : Array UInt8) : Prop where
  size : dk.size = S
  done : ∀ t, m ≤ t → t < S → dk[t]! = hexD (n / 16 ^ (S - (t + 1)) % 16)

theorem RowInv.start (S n : Nat) (dk : Array UInt8) (h : dk.size = S) : RowInv S n S dk := ⟨h, fun t h1 h2 => by omega⟩
theorem RowInv.step {S n p : Nat} {dk : Array UInt8} (h : RowInv S n (p + 1) dk) (hp : p < S) : RowInv S n p (dk.setIfInBounds p (hexD (n / 16 ^ (S - (p + 1)) % 16))) := by
  refine ⟨by simp [h.size], fun t h1 h2 => ?_⟩
  by_cases ht : t = p
  · subst ht; exact getElem!_set_same _ _ _ (by rw [h.size]; exact hp)
  · rw [getElem!_set_other _ _ _ _ ht]; exact h.done t (by omega) h2

theorem hex8_get {n t : Nat} (h : t < 8) : (hex8 n)[t]? = some (hexD (n / 16 ^ (7 - t) % 16)) := by
  have : t = 0 ∨ t = 1 ∨ t = 2 ∨ t = 3 ∨ t = 4 ∨ t = 5 ∨ t = 6 ∨ t = 7 := by omega
  rcases this with rfl | rfl | rfl | rfl | rfl | rfl | rfl | rfl <;> first | rfl | (simp [hex8])

theorem RowInv.all {n : Nat} {dk : Array UInt8} (h : RowInv 8 n 0 dk) : dk.toList = hex8 n := by
  apply List.ext_getElem?
  intro i
  by_cases hi : i < 8
  · have := h.done i (Nat.zero_le _) hi
    rw [getElem!_pos dk i (by rw [h.size]; exact hi)] at this
    rw [hex8_get hi, List.getElem?_eq_getElem (by simpa [h.size] using hi)]
    simpa using this
  · rw [List.getElem?_eq_none (by simp [h.size]; omega), List.getElem?_eq_none (by rw [hex8_length]; omega)]

theorem RowInv.tail {n m : Nat} {dk : Array UInt8} (h : RowInv 65 n m dk) (hm : m + hexLen n = 65) (i : Nat) (hi : i < (hexN n).length) : (hexN n)[i] = dk[m + i]! := by
  have hl := hexLen_bd n
  have hi' := hi
  rw [hexN_length] at hi'
  rw [h.done (m + i) (by omega) (by omega)]
  apply Option.some.inj
  rw [← List.getElem?_eq_getElem hi, hexN, List.getElem?_drop, hex8_get (by omega), show 7 - (8 - hexLen n + i) = 65 - (m + i + 1) by omega]

theorem hexLen_of {n j : Nat} (hn : n < 4294967296) (h : n / 16 ^ j < 16) (h' : j = 0 ∨ 16 ≤ n / 16 ^ (j - 1)) : hexLen n = j + 1 := by
  by_cases hj : j < 8
  · have : j = 0 ∨ j = 1 ∨ j = 2 ∨ j = 3 ∨ j = 4 ∨ j = 5 ∨ j = 6 ∨ j = 7 := by omega
    rcases this with rfl | rfl | rfl | rfl | rfl | rfl | rfl | rfl <;> simp at h h' <;> unfold hexLen <;> repeat' split
    all_goals omega
  · exfalso
    rcases h' with h' | h'
    · omega
    · have : n / 16 ^ (j - 1) ≤ n / 16 ^ 7 := Nat.div_le_div_left (Nat.pow_le_pow_right (by omega) (by omega)) (by decide)
      have : n / 16 ^ 7 < 16 := by omega
      omega

theorem store_row (w : World) (blk : Nat) (dk : Array UInt8) (i : Nat) (x : UInt8) (hi : i < dk.size) :
    (putRow byteV w blk 0 dk).setCell ⟨blk, i, none⟩ (.int .u8 (x.toNat : Int)) = putRow byteV w blk 0 (dk.setIfInBounds i x) := by
  have h := putRow_set byteV w blk 0 dk i x hi
  rw [Nat.zero_add] at h
  exact h

theorem div_step (n i j : Nat) (h : j = i + 1) : n / 16 ^ i / 16 = n / 16 ^ j := by
  rw [h, Nat.div_div_eq_div_mul, Nat.pow_succ]

def zeros8 : Array Value := #[.int .u8 0, .int .u8 0, .int .u8 0, .int .u8 0, .int .u8 0, .int .u8 0, .int .u8 0, .int .u8 0]

theorem holds_rep (w : World) (T : TypeId) (S : Nat) (z : Array Value) (hz : z = Array.replicate S (.int .u8 0)) : Holds byteV (w.alloc (.cells z T)) w.heap.size 0 (Array.replicate S (0 : UInt8)) := fun j hj => by
  have hj' : j < S := by simpa using hj
  refine ⟨?_, World.frozen?_alloc_new _ _ _ _⟩
  rw [World.cell?_alloc_new, hz, Array.getElem?_replicate, if_pos (by omega), getElem!_pos _ j hj]
  simp

theorem putRow_below (w : World) (o : Obj) (dk : Array UInt8) : Below w.heap.size w (putRow byteV (w.alloc o) w.heap.size 0 dk) := by
  rw [alloc_eq_grow]
  obtain ⟨os', h1, e⟩ := putRow_grow_new byteV w #[o] w.heap.size 0 dk (Nat.le_refl _)
  rw [e]
  refine ⟨rfl, rfl, rfl, by simp [grow], fun k hk => ?_⟩
  simp only [grow]
  rw [Array.getElem?_append_left hk]
end Go.Proofs.YtmieiaakjiklfaaDoor
