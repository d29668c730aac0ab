
/-
  Matches: how they lie, how they are sorted and compared.
-/
import Derived.Test.YtabdjkcediolcaaGreatDoorCat2
import Derived.Shelf.SlSortCmp.InsertionK
import Derived.Shelf.SlicesQ.Equal
import Derived.Laws.StructEq
namespace Go.Proofs.YtabdjkcediolcaaGreatDoor
open Go.RowKit Go.Shelf Go.Sort Go.Lib

section
variable {α : Type} {E : Elem α} [Inhabited α]
theorem Owns.holds (hE : E.Ok) {w : World} {base g c n : Nat} {l : List α} (h : Owns E w base (.slice (some ⟨g, 0, none⟩) n c) l) : HoldsK E.enc E.size w g 0 l.toArray := by
  intro j hj
  rw [size_flatK, List.size_toArray] at hj
  have hp := hE.pos
  have hk : j / E.size < l.length := (Nat.div_lt_iff_lt_mul hp).2 hj
  have hm : j % E.size < E.size := Nat.mod_lt _ hp
  obtain ⟨G, c', he, _, _, hc⟩ := h.where_ hE (Nat.lt_of_le_of_lt (Nat.zero_le _) hk)
  simp only [Value.slice.injEq, Option.some.injEq, Addr.mk.injEq] at he
  obtain ⟨⟨rfl, _⟩, _⟩ := he
  have hx : l[j / E.size]? = some l[j / E.size]! := by simp [hk]
  have hu : (E.enc l[j / E.size]!)[j % E.size]? = some (E.enc l[j / E.size]!)[j % E.size]! := by
    have : j % E.size < (E.enc l[j / E.size]!).length := by rw [hE.len]; exact hm
    rw [List.getElem?_eq_getElem this, getElem!_pos (E.enc l[j / E.size]!) (j % E.size) this]
  have h1 := hc _ _ _ _ hx hu
  have e : j / E.size * E.size + j % E.size = j := by rw [Nat.mul_comm]; exact Nat.div_add_mod _ _
  rw [e] at h1
  rw [get_flatK _ _ _ _ (by rw [List.size_toArray]; exact hj), Nat.zero_add]
  simpa using h1
theorem elems_of_holds (hE : E.Ok) {w : World} {g c : Nat} {d : Array α} (h : HoldsK E.enc E.size w g 0 d) (hlt : g < w.heap.size) (hc : d.size ≤ c) : ElemsAt E w (some ⟨g, 0, none⟩) d.size c d.toList := by
  refine ⟨by simp, hc, (fun e => by cases e), fun _ => ⟨g, 0, rfl, hlt, fun k x i v hk hv => ?_⟩⟩
  have hk' : k < d.size := by have := (List.getElem?_eq_some_iff.1 hk).1; simpa using this
  have hi : i < E.size := by have := (List.getElem?_eq_some_iff.1 hv).1; rw [hE.len] at this; exact this
  have h1 := (h.cell (i := k) (c := i) hk' hi).1
  have ex : d[k]! = x := by
    have h2 := hk
    rw [Array.getElem?_toList, Array.getElem?_eq_getElem hk'] at h2
    rw [getElem!_pos d k hk']
    exact Option.some.inj h2
  rw [ex] at h1
  have ev : (E.enc x)[i]! = v := by
    obtain ⟨h3, h4⟩ := List.getElem?_eq_some_iff.1 hv
    rw [getElem!_pos _ i h3, h4]
  rw [ev] at h1
  exact h1
theorem grown_sort (enc : α → List Value) (k : Nat) (w : World) (blk off m : Nat) (d : Array α) (os : Array Obj) : w.grownBy (sortWorldK enc k w blk off m d os) (some blk) := by
  refine ⟨rfl, rfl, rfl, size_sortWorldK_c enc k w blk off m d os, fun i hi hne => ?_⟩
  have hne' : blk ≠ i := fun e => hne (by rw [e])
  show ((w.heap.modify blk _) ++ os)[i]? = _
  rw [Array.getElem?_append_left (by simpa using hi), Array.getElem?_modify, if_neg hne']
theorem size_insInner (lt : α → α → Bool) (a : Nat) : ∀ (j : Nat) (d : Array α), (insInner lt a j d).size = d.size
  | 0, d => rfl
  | j + 1, d => by
    unfold insInner
    split
    · rw [size_insInner lt a j]; simp [swp]
    · rfl
theorem size_insOuter (lt : α → α → Bool) (a b : Nat) : ∀ (n i : Nat) (d : Array α), b - i ≤ n → (insOuter lt a b i d).size = d.size
  | 0, i, d, h => by
    rw [insOuter, if_neg (by omega)]
  | n + 1, i, d, h => by
    rw [insOuter]
    split
    · rw [size_insOuter lt a b n (i + 1) _ (by omega), size_insInner]
    · rfl
theorem size_insertionSort (lt : α → α → Bool) (d : Array α) (a b : Nat) : (insertionSort lt d a b).size = d.size := size_insOuter lt a b _ _ _ (Nat.le_refl _)
end

abbrev MatchT : Type := List UInt8 × (Nat × Nat)
def greatW (f g : Nat × Nat) : Int := cmpI (wrap64 ((g.1 : Int) * (f.2 : Int))) (wrap64 ((f.1 : Int) * (g.2 : Int)))
def cmpM (x y : MatchT) : Int := greatW x.2 y.2
def sortM (l : List MatchT) : List MatchT := (insertionSort (ltOf cmpM) l.toArray 0 l.length).toList
theorem sortM_length (l : List MatchT) : (sortM l).length = l.length := by
  unfold sortM
  rw [Array.length_toList, size_insertionSort, List.size_toArray]
theorem sortM_nil : sortM [] = [] := List.eq_nil_of_length_eq_zero (sortM_length [])

end Go.Proofs.YtabdjkcediolcaaGreatDoor
