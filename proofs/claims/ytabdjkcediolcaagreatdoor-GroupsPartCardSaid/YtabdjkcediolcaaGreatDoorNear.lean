
/-
  What Near of a catalog returns.
-/
import Derived.Test.YtabdjkcediolcaaGreatDoorMatch
namespace Go.Proofs.YtabdjkcediolcaaGreatDoor
open Go.RowKit Go.Maps

theorem word_len (L : List UInt8) : ∀ x ∈ wordsL L, x.length ≤ L.length := by
  intro x hx
  unfold wordsL wordsTo at hx
  obtain ⟨p, _, rfl⟩ := List.mem_map.1 hx
  simp only [lowL, cutL, List.length_map, List.length_take, List.length_drop]
  omega
theorem lensL_le (m : Nat) : ∀ l : List (List UInt8), (∀ x ∈ l, x.length ≤ m) → lensL l ≤ m * l.length
  | [], _ => by simp [lensL]
  | x :: l, h => by
    have h1 := lensL_le m l (fun y hy => h y (List.mem_cons_of_mem _ hy))
    have h2 := h x List.mem_cons_self
    have h3 := lensL_append [x] l
    have h4 : lensL [x] = x.length := by simp [lensL]
    simp only [List.singleton_append] at h3
    rw [h3, h4, List.length_cons, Nat.mul_add, Nat.mul_one]
    omega
theorem win_small (L : List UInt8) (k : Nat) (hL : L.length ≤ 20000) (hk : k ≤ 10) (i : Nat) : (winL (wordsL L) (min k (wordsL L).length) i).length ≤ 1000000 := by
  have h1 := join_le (((wordsL L).drop i).take (min k (wordsL L).length))
  have h2 := lensL_le L.length (((wordsL L).drop i).take (min k (wordsL L).length)) (fun x hx => word_len L x (List.mem_of_mem_drop (List.mem_of_mem_take hx)))
  have h3 : (((wordsL L).drop i).take (min k (wordsL L).length)).length ≤ 10 := by rw [List.length_take]; omega
  have h4 : L.length * (((wordsL L).drop i).take (min k (wordsL L).length)).length ≤ 20000 * 10 := Nat.mul_le_mul hL h3
  unfold winL
  omega
theorem shin_len (L : List UInt8) (k : Nat) (hL : L.length ≤ 20000) : (shinL L k).length ≤ 100000 := by
  have h1 := words_le L
  unfold shinL
  split
  · simp
  · refine Nat.le_trans (Lib.compact_length_le _) ?_
    unfold sortL winsTo
    rw [List.length_mergeSort, List.length_map, List.length_range]
    omega
theorem like_le (x y : List (List UInt8)) (hx : x.length ≤ 100000) (hy : y.length ≤ 100000) : (likeL x y).1 ≤ 1000000 ∧ (likeL x y).2 ≤ 1000000 := by
  have h := sharedL_le _ x y (Nat.le_refl _)
  unfold likeL fracL
  generalize sharedL x y = s at *
  split
  · exact ⟨by decide, by decide⟩
  · have h1 := Nat.div_le_self s (Nat.gcd s (x.length + y.length - s))
    have h2 := Nat.div_le_self (x.length + y.length - s) (Nat.gcd s (x.length + y.length - s))
    exact ⟨by simp only; omega, by simp only; omega⟩

/-- The text of a document of a catalog. -/
def textD (D : DataW Unit) (id : List UInt8) : List UInt8 := match D.atKey (.string id) (.lit (.string [])) with
  | .lit (.string t) => t
  | _ => []
/-- Documents of a catalog are not too long. -/
def SmallD (D : DataW Unit) : Prop := ∀ id, has D (.string id) = true → id.length ≤ 1000000 ∧ ∃ t, D.atKey (.string id) (.lit (.string [])) = .lit (.string t) ∧ t.length ≤ 20000
def nearOne (D : DataW Unit) (k : Nat) (t : List UInt8) (least : Nat) (id : List UInt8) : List MatchT :=
  if enoughL (likeL (shinL t k) (shinL (textD D id) k)) least = true then [(id, likeL (shinL t k) (shinL (textD D id) k))] else []
def nearTo (D : DataW Unit) (k : Nat) (t : List UInt8) (least j : Nat) : List MatchT := ((sortK (strKeys D)).take j).flatMap (nearOne D k t least)
def nearL (D : DataW Unit) (k : Nat) (t : List UInt8) (least : Nat) : List MatchT := (sortK (strKeys D)).flatMap (nearOne D k t least)
theorem nearTo_succ (D : DataW Unit) (k : Nat) (t : List UInt8) (least j : Nat) (id : List UInt8) (h : (sortK (strKeys D))[j]? = some id) : nearTo D k t least (j + 1) = nearTo D k t least j ++ nearOne D k t least id := by
  obtain ⟨hj, rfl⟩ := List.getElem?_eq_some_iff.1 h
  unfold nearTo
  rw [List.take_succ_eq_append_getElem hj, List.flatMap_append]
  simp
theorem nearTo_length (D : DataW Unit) (k : Nat) (t : List UInt8) (least : Nat) : ∀ j, (nearTo D k t least j).length ≤ j
  | 0 => by simp [nearTo]
  | j + 1 => by
    have ih := nearTo_length D k t least j
    cases hh : (sortK (strKeys D))[j]? with
    | none =>
      have : nearTo D k t least (j + 1) = nearTo D k t least j := by
        have := List.getElem?_eq_none_iff.1 hh
        unfold nearTo
        rw [List.take_of_length_le (by omega), List.take_of_length_le (by omega)]
      rw [this]; omega
    | some id =>
      rw [nearTo_succ D k t least j id hh, List.length_append]
      have : (nearOne D k t least id).length ≤ 1 := by unfold nearOne; split <;> simp
      omega
theorem sameKey_str (x : List UInt8) : (Lit.string x).sameKey (.string x) = true := WideAt.sameKey_self (by first | trivial | exact Or.inl trivial | simp [WideAt.IsKeyLit])
theorem strKeys_has {D : DataW Unit} {w : World} {M m : Nat} (hown : w.ownsMap Tryz.prog 9 (plainElem Tryz.prog 9) M m D) (id : List UInt8) (h : id ∈ strKeys D) : has D (.string id) = true := by
  obtain ⟨es, rfl, hk⟩ := hown.keysOf
  obtain ⟨p, hp, he⟩ := List.mem_map.1 h
  obtain ⟨v, hv⟩ := hk p hp
  obtain ⟨x, _, hx, _⟩ := Maps.keyOf_str Tryz.underlying9 hv
  refine List.any_eq_true.2 ⟨p, hp, ?_⟩
  rw [hx] at he
  have he' : x = id := he
  rw [hx, he']
  exact sameKey_str id
theorem strKeys_len (D : DataW Unit) : (strKeys D).length ≤ Maps.size D := by
  cases D <;> simp [strKeys, Maps.size]

theorem below_undrew {w w' : World} (h : Below w.drew.heap.size w.drew w') : Below w.heap.size w w' := ⟨h.os, h.tape, h.output, h.size, h.block⟩
theorem below_unalloc {w w' : World} {o : Obj} (h : Below (w.alloc o).heap.size (w.alloc o) w') : Below w.heap.size w w' := below_trans' ((Below.refl _ _).alloc (Nat.le_refl _) o) h
theorem row_through {w w' : World} {cs : Array Value} {T : TypeId} (h : Below (w.alloc (.cells cs T)).heap.size (w.alloc (.cells cs T)) w') : w'.heap[w.heap.size]? = some (.cells cs T (0, 0)) := by
  have h1 := heap_alloc_new w (.cells cs T)
  exact (h.block _ (Array.getElem?_eq_some_iff.1 h1).1).trans h1
theorem row_on {w w' : World} {F : Nat} {o : Obj} (h : Below w.heap.size w w') (hr : w.heap[F]? = some o) : w'.heap[F]? = some o := (h.block _ (Array.getElem?_eq_some_iff.1 hr).1).trans hr
theorem frac_meet {wr wx : World} {F : Nat} {a b a' b' : Value} (hr : wx.heap[F]? = some (.cells #[a, b] 50 (0, 0))) (hF : wr.heap.size ≤ F) (hb : Below wr.heap.size wr wx) :
    ((wx.setCell ⟨F, 0, none⟩ a').setCell ⟨F, 1, none⟩ b').heap[F]? = some (.cells #[a', b'] 50 (0, 0)) ∧ Below wr.heap.size wr ((wx.setCell ⟨F, 0, none⟩ a').setCell ⟨F, 1, none⟩ b') :=
  ⟨two_set1 (two_set0 hr a') b', (hb.setCell hF _).setCell hF _⟩
end Go.Proofs.YtabdjkcediolcaaGreatDoor
