
/-
  The table of the longest common lists in memory, the pairs that are kept.
-/
import Derived.Test.YtmaimojpjepmjaaGreatDoorElems
import Derived.Test.YtmaimojpjepmjaaGreatDoorLcsPlain
import Derived.StillTailTactics
namespace Go.Proofs.YtmaimojpjepmjaaGreatDoor
open Go.RowKit

/-- Block b holds a table of n + 1 rows and m + 1 columns. -/
def TabAt (w : World) (b W n m : Nat) (G : Nat → Nat → Nat) : Prop := ∃ C, w.heap[b]? = some (.cells C 3 (0, 0)) ∧ ∀ i j, i ≤ n → j ≤ m → C[i * W + j]? = some (.int .i64 (G i j : Nat))
theorem TabAt.cell {w : World} {b W n m : Nat} {G : Nat → Nat → Nat} (h : TabAt w b W n m G) {i j : Nat} (hi : i ≤ n) (hj : j ≤ m) : w.cell? ⟨b, i * W + j, none⟩ = some (.int .i64 (G i j : Nat)) := by
  obtain ⟨C, hh, hc⟩ := h
  rw [cell_of_row w b _ _ _ _ hh]; exact hc i j hi hj
theorem TabAt.frozen {w : World} {b W n m : Nat} {G : Nat → Nat → Nat} (h : TabAt w b W n m G) (k : Nat) : w.frozen? ⟨b, k, none⟩ = false := by
  obtain ⟨C, hh, hc⟩ := h
  simp [World.frozen?, hh]
theorem TabAt.lt {w : World} {b W n m : Nat} {G : Nat → Nat → Nat} (h : TabAt w b W n m G) : b < w.heap.size := by
  obtain ⟨C, hh, hc⟩ := h
  exact (Array.getElem?_eq_some_iff.1 hh).1
def upd (G : Nat → Nat → Nat) (i j v : Nat) : Nat → Nat → Nat := fun a b => if a = i ∧ b = j then v else G a b
theorem idx_inj {W i j i' j' : Nat} (hj : j < W) (hj' : j' < W) (h : i * W + j = i' * W + j') : i = i' ∧ j = j' := by
  have h1 : (i * W + j) / W = i := by rw [Nat.mul_comm, Nat.mul_add_div (by omega), Nat.div_eq_of_lt hj, Nat.add_zero]
  have h2 : (i' * W + j') / W = i' := by rw [Nat.mul_comm, Nat.mul_add_div (by omega), Nat.div_eq_of_lt hj', Nat.add_zero]
  have e : i = i' := by rw [← h1, h, h2]
  subst e
  exact ⟨rfl, by omega⟩
theorem TabAt.set {w : World} {b W n m : Nat} {G : Nat → Nat → Nat} (h : TabAt w b W n m G) (hW : W = m + 1) {i j : Nat} (hi : i ≤ n) (hj : j ≤ m) (v : Nat) (z : Int) (hz : z = v) : TabAt (w.setCell ⟨b, i * W + j, none⟩ (.int .i64 z)) b W n m (upd G i j v) := by
  subst hz
  obtain ⟨C, hh, hc⟩ := h
  refine ⟨C.setIfInBounds (i * W + j) (.int .i64 (v : Int)), by simp [World.setCell, Array.getElem?_modify, hh], fun a c ha hc' => ?_⟩
  have h0 := hc a c ha hc'
  have h1 := hc i j hi hj
  unfold upd
  by_cases e : a = i ∧ c = j
  · obtain ⟨rfl, rfl⟩ := e
    rw [if_pos ⟨rfl, rfl⟩, Array.getElem?_setIfInBounds_self, if_pos (Array.getElem?_eq_some_iff.1 h0).1]
  · rw [if_neg e, Array.getElem?_setIfInBounds_ne, h0]
    intro hi'
    exact e (idx_inj (by omega) (by omega) hi'.symm)
theorem TabAt.keep {w w' : World} {b W n m : Nat} {G : Nat → Nat → Nat} (h : TabAt w b W n m G) (hb : w'.heap[b]? = w.heap[b]?) : TabAt w' b W n m G := by
  obtain ⟨C, hh, hc⟩ := h
  exact ⟨C, hb.trans hh, hc⟩
theorem idx_lt {W n i j : Nat} (hi : i ≤ n) (hj : j < W) : i * W + j < (n + 1) * W := by
  have : i * W ≤ n * W := Nat.mul_le_mul_right _ hi
  rw [Nat.add_mul, Nat.one_mul]; omega

section
variable {α : Type} [DecidableEq α]
/-- The table is done from row p on, and of the row before it from column q on. -/
def Fin_ (x y : List α) (n m p q : Nat) (G : Nat → Nat → Nat) : Prop := ∀ i j, i ≤ n → j ≤ m → (p ≤ i ∨ (i + 1 = p ∧ q ≤ j) ∨ j = m) → G i j = lcs (x.drop i) (y.drop j)
theorem fin_start (x y : List α) (n m : Nat) (hx : x.length = n) (hy : y.length = m) : Fin_ x y n m n (m + 1) fun _ _ => 0 := by
  intro i j hi hj h
  rcases h with h | h | h
  · rw [List.drop_of_length_le (by omega), lcs_nil']
  · omega
  · rw [List.drop_of_length_le (l := y) (by omega), lcs_nil]
theorem fin_row {x y : List α} {n m p : Nat} {G : Nat → Nat → Nat} (h : Fin_ x y n m p (m + 1) G) : Fin_ x y n m p m G := by
  intro i j hi hj hc
  refine h i j hi hj ?_
  omega
theorem fin_done {x y : List α} {n m i : Nat} {G : Nat → Nat → Nat} (h : Fin_ x y n m (i + 1) 0 G) : Fin_ x y n m i (m + 1) G := by
  intro a b ha hb hc
  refine h a b ha hb ?_
  omega
theorem fin_step {x y : List α} {n m i j : Nat} {G : Nat → Nat → Nat} (h : Fin_ x y n m (i + 1) (j + 1) G) (v : Nat) (hv : v = lcs (x.drop i) (y.drop j)) : Fin_ x y n m (i + 1) j (upd G i j v) := by
  intro a b ha hb hc
  unfold upd
  split
  · rename_i e; obtain ⟨rfl, rfl⟩ := e; exact hv
  · exact h a b ha hb (by omega)
end

def PairE : Elem (Nat × Nat) := ⟨123, 121, 2, 16, .agg #[.int .i64 0, .int .i64 0], fun p => [.int .i64 p.1, .int .i64 p.2]⟩
theorem pairE_ok : PairE.Ok := ⟨fun _ => rfl, fun x u hu => by simp [PairE] at hu; rcases hu with rfl | rfl <;> rfl, by decide, by decide, by kernel_rfl, by kernel_rfl, Tryz.underlying121⟩

theorem made_at (N k : Nat) (h : k < N) : (madeCells #[Value.int .i64 0] N)[k]? = some (.int .i64 ((0 : Nat) : Int)) := by
  have e : k % 1 = 0 := by omega
  simp [madeCells, h, e]


end Go.Proofs.YtmaimojpjepmjaaGreatDoor
