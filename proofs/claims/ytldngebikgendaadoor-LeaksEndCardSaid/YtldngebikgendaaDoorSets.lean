/-
  A row of Booleans and a set of strings, which a call makes for itself.
-/
import Derived.Test.YtldngebikgendaaDoorWords
import Derived.Test.YtldngebikgendaaDoorLeaksPlain
import Derived.Maps.OwnSet
namespace Go.Proofs.YtldngebikgendaaDoor
open Go.RowKit Go.Shelf Go.Maps

/-- Block G holds N Booleans. -/
def BoolsAt (w : World) (G N : Nat) (f : Nat → Bool) : Prop :=
  ∃ C : Array Value, w.heap[G]? = some (.cells C 4 (0, 0)) ∧ C.size = N ∧ ∀ j, j < N → C[j]? = some (.bool (f j))
theorem BoolsAt.cell {w : World} {G N : Nat} {f : Nat → Bool} (h : BoolsAt w G N f) (j : Nat) (hj : j < N) : w.cell? ⟨G, j, none⟩ = some (.bool (f j)) := by
  obtain ⟨C, h1, h2, h3⟩ := h
  rw [cell_of_row w G j _ _ _ h1]
  exact h3 j hj
theorem BoolsAt.frozen {w : World} {G N : Nat} {f : Nat → Bool} (h : BoolsAt w G N f) (j : Nat) : w.frozen? ⟨G, j, none⟩ = false := by
  obtain ⟨C, h1, h2, h3⟩ := h
  simp [World.frozen?, h1]
theorem BoolsAt.lt {w : World} {G N : Nat} {f : Nat → Bool} (h : BoolsAt w G N f) : G < w.heap.size := by
  obtain ⟨C, h1, _⟩ := h
  exact (Array.getElem?_eq_some_iff.1 h1).1
theorem BoolsAt.set {w : World} {G N : Nat} {f : Nat → Bool} (h : BoolsAt w G N f) (i : Nat) (hi : i < N) (b : Bool) : BoolsAt (w.setCell ⟨G, i, none⟩ (.bool b)) G N (fun j => if j = i then b else f j) := by
  obtain ⟨C, h1, h2, h3⟩ := h
  refine ⟨C.setIfInBounds i (.bool b), ?_, by simpa using h2, fun j hj => ?_⟩
  · simp [World.setCell, Array.getElem?_modify, h1]
  · by_cases hji : i = j
    · subst hji
      have : i < C.size := by omega
      simp [this]
    · rw [Array.getElem?_setIfInBounds_ne hji, h3 j hj]; simp [show ¬ j = i from fun e => hji e.symm]
theorem BoolsAt.keep {w w' : World} {G N : Nat} {f : Nat → Bool} (h : BoolsAt w G N f) (hb : w'.heap[G]? = w.heap[G]?) : BoolsAt w' G N f := by
  obtain ⟨C, h1, h2⟩ := h
  exact ⟨C, hb.trans h1, h2⟩
theorem BoolsAt.below {w w' : World} {G N : Nat} {f : Nat → Bool} (h : BoolsAt w G N f) (hb : Below w.heap.size w w') : BoolsAt w' G N f := h.keep (hb.block G h.lt)
theorem BoolsAt.grown {w w' : World} {G N : Nat} {f : Nat → Bool} {row : Option Nat} (h : BoolsAt w G N f) (hb : w.grownBy w' row) (hr : some G ≠ row) : BoolsAt w' G N f := h.keep (hb.block G h.lt hr)
theorem BoolsAt.ext {w : World} {G N : Nat} {f f' : Nat → Bool} (h : BoolsAt w G N f) (he : ∀ j, j < N → f j = f' j) : BoolsAt w G N f' := by
  obtain ⟨C, h1, h2, h3⟩ := h
  exact ⟨C, h1, h2, fun j hj => by rw [h3 j hj, he j hj]⟩
theorem bools_made (w : World) (N : Nat) : BoolsAt (w.alloc (.cells (Array.replicate N (.bool false)) 4)) w.heap.size N (fun _ => false) :=
  ⟨_, heap_alloc_new _ _, by simp, fun j hj => by simp [hj]⟩

theorem contains_bools (G N f t c : Nat) (p : Nat → Bool) (w : World) (h : BoolsAt w G N p) (hft : f ≤ t) (ht : t ≤ N) (hN : N ≤ 20000) :
    Calls Tryd.prog 34 #[.slice (some ⟨G, f, none⟩) (t - f) c, .bool true] w fun e w' => e = .returned (.bool (anyIn p f t)) ∧ w = w' := by
  refine (AnyE.slices_Contains Tryd.coE34 Value.bool (fun x y => x == y) (EqlAt.bool 4 Tryd.underlying4) G f (t - f) c ((List.range (t - f)).map fun j => p (f + j)) true w (by simp) (by omega) (fun j hj => ?_)).mono ?_
  · have hj' : j < t - f := by simpa using hj
    rw [h.cell (f + j) (by omega)]
    simp [hj']
  · rintro e w' ⟨rfl, rfl⟩
    refine ⟨ret_bool ?_, rfl⟩
    rw [List.take_of_length_le (by simp), List.any_map, anyIn]
    congr 1
    funext j
    simp

/-- The set of these strings. -/
def setD (acc : List (List UInt8)) : DataW Unit := setOf (.lit (.bool true)) (acc.map Lit.string)
theorem setD_snoc (acc : List (List UInt8)) (x : List UInt8) : setD (acc ++ [x]) = (setD acc).put (.string x) (.lit (.bool true)) := by
  unfold setD; rw [List.map_append]; exact setOf_snoc _ _ _
theorem setD_map (acc : List (List UInt8)) : IsMap (setD acc) := by
  have : Tidy (setD acc) := tidy_setOf _ _ (fun x hx => by obtain ⟨y, _, rfl⟩ := List.mem_map.1 hx; trivial)
  exact this.isMap
theorem setD_at (k : List UInt8) (acc : List (List UInt8)) : (setD acc).atKey (.string k) (.lit (.bool false)) = .lit (.bool (decide (k ∈ acc))) := by
  suffices h : ∀ n, ∀ acc : List (List UInt8), acc.length = n → (setD acc).atKey (.string k) (.lit (.bool false)) = .lit (.bool (decide (k ∈ acc))) from h _ acc rfl
  intro n
  induction n with
  | zero =>
    intro acc h
    obtain rfl := List.eq_nil_of_length_eq_zero h
    rfl
  | succ n ih =>
    intro acc h
    obtain ⟨q, x, rfl⟩ : ∃ q x, acc = q ++ [x] := ⟨acc.dropLast, acc.getLast (by intro e; subst e; cases h), (List.dropLast_concat_getLast _).symm⟩
    rw [setD_snoc]
    by_cases hx : k = x
    · subst hx
      rw [atKey_put_same (setD_map q) (by trivial)]
      simp
    · rw [atKey_put_other (by intro e; injection e with e; exact hx e), ih q (by simpa using h)]
      simp [hx]

/-- Block B is the set of these strings. -/
def OwnSet (w : World) (B : Nat) (acc : List (List UInt8)) : Prop := w.ownsMap Tryd.prog 9 (plainElem (H := Unit) Tryd.prog 4) B acc.length (setD acc)
theorem law9 : Keyed Tryd.prog 9 := string_keyed Tryd.underlying9
theorem zero4 (w : World) : (zeroValue 4).run Tryd.prog w = .ok (.bool false) w := by kernel_rfl
theorem set_made (w : World) : OwnSet (w.alloc (.map #[] 0)) w.heap.size [] := World.ownsMap_made _ _ _ _
theorem set_look {w : World} {B : Nat} {acc : List (List UInt8)} (h : OwnSet w B acc) (x : List UInt8) (hx : x.length ≤ 20000) :
    (Instr.lookup 61 (.map (some B)) (.string ⟨x.toArray⟩) false).run Tryd.prog w = .ok (.bool (decide (x ∈ acc))) w := by
  have hkey : keyOf Tryd.prog 9 (.string ⟨x.toArray⟩) = some (.string x) := WideMaps.keyOf_string_mk Tryd.underlying9 (by show x.toArray.size ≤ _; simp only [List.size_toArray, maxLen]; omega)
  obtain ⟨v, ps, hrun, hv⟩ := h.lookup law9 Tryd.underlying61 (zero4 w) (plainElem_bool Tryd.underlying4 false) hkey
  rw [setD_at] at hv
  rw [hrun]
  cases v <;> simp [plainElem, Tryd.underlying4] at hv ⊢
  exact hv.1

end Go.Proofs.YtldngebikgendaaDoor
