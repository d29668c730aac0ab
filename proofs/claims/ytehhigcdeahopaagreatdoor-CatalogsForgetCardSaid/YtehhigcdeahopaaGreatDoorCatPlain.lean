
/-
  Catalogs that are filled in another order, and from which what was added too is taken away, hold the same. Data of maps alone.
-/
import Derived.Test.YtehhigcdeahopaaGreatDoorNear
namespace Go.Proofs.YtehhigcdeahopaaGreatDoor
open Go.RowKit Go.Maps Classical

def keyB (x : Body2) : Lit := .string x.1.data.toList
def txtB (x : Body2) : DataW Unit := .lit (.string x.2.data.toList)
def putAll (D : DataW Unit) (l : List Body2) : DataW Unit := l.foldl (fun D x => D.put (keyB x) (txtB x)) D
theorem keyB_ne {x y : Body2} (h : x.1 ≠ y.1) : keyB x ≠ keyB y := fun e => h (ByteArray.ext (Array.toList_inj.1 (by simpa [keyB] using e)))
theorem isKey_B (x : Body2) : WideAt.IsKeyLit (keyB x) := by first | trivial | exact Or.inl trivial | simp [keyB, WideAt.IsKeyLit]
theorem putAll_snoc (D : DataW Unit) (l : List Body2) (x : Body2) : putAll D (l ++ [x]) = (putAll D l).put (keyB x) (txtB x) := by simp [putAll]
theorem putAll_isMap {D : DataW Unit} (h : IsMap D) : ∀ l : List Body2, IsMap (putAll D l) := by
  intro l
  induction l generalizing D with
  | nil => exact h
  | cons x l ih => exact ih (h.put _ _)
theorem has_putAll {D : DataW Unit} (h : IsMap D) (k : Lit) (l : List Body2) : has (putAll D l) k = (has D k || l.any fun x => decide (keyB x = k)) := by
  induction l generalizing D with
  | nil => simp [putAll]
  | cons x l ih =>
    have e : putAll D (x :: l) = putAll (D.put (keyB x) (txtB x)) l := rfl
    rw [e, ih (h.put _ _), List.any_cons]
    by_cases hk : keyB x = k
    · subst hk; rw [has_put_same h (isKey_B x)]; simp
    · rw [has_put_other (fun e => hk e.symm)]; simp [hk]
theorem atKey_putAll_other {D : DataW Unit} (k : Lit) (z : DataW Unit) (l : List Body2) (hk : ∀ x ∈ l, keyB x ≠ k) : (putAll D l).atKey k z = D.atKey k z := by
  induction l generalizing D with
  | nil => rfl
  | cons x l ih =>
    have e : putAll D (x :: l) = putAll (D.put (keyB x) (txtB x)) l := rfl
    rw [e, ih (fun y hy => hk y (List.mem_cons_of_mem _ hy)), atKey_put_other (fun e => hk x List.mem_cons_self e.symm)]
theorem atKey_putAll_mem {D : DataW Unit} (h : IsMap D) (z : DataW Unit) (l : List Body2) (hp : l.Pairwise fun x y => x.1 ≠ y.1) (x : Body2) (hx : x ∈ l) : (putAll D l).atKey (keyB x) z = txtB x := by
  induction l generalizing D with
  | nil => cases hx
  | cons y l ih =>
    have e : putAll D (y :: l) = putAll (D.put (keyB y) (txtB y)) l := rfl
    rw [List.pairwise_cons] at hp
    rw [e]
    rcases List.mem_cons.1 hx with rfl | hx
    · rw [atKey_putAll_other _ _ _ (fun u hu => keyB_ne (fun e => hp.1 u hu e.symm)), atKey_put_same h (isKey_B x)]
    · exact ih (h.put _ _) hp.2 hx
theorem any_perm {l m : List Body2} (h : l.Perm m) (p : Body2 → Bool) : l.any p = m.any p := by
  rw [Bool.eq_iff_iff, List.any_eq_true, List.any_eq_true]
  exact ⟨fun ⟨x, hx, hp⟩ => ⟨x, h.mem_iff.1 hx, hp⟩, fun ⟨x, hx, hp⟩ => ⟨x, h.mem_iff.2 hx, hp⟩⟩
theorem same_catalog {l m : List Body2} (hp : m.Perm l) (ha : l.Pairwise fun x y => x.1 ≠ y.1) (z : Body2) (hz : ∀ x ∈ l, x.1 ≠ z.1) (c1 : Canon (putAll (.map []) l)) (c2 : Canon ((putAll ((DataW.map []).put (keyB z) (txtB z)) m).del (keyB z))) :
    putAll (.map []) l = (putAll ((DataW.map []).put (keyB z) (txtB z)) m).del (keyB z) := by
  have hm : m.Pairwise fun x y => x.1 ≠ y.1 := (hp.pairwise_iff (fun h e => h e.symm)).2 ha
  have i0 : IsMap (.map [] : DataW Unit) := isMap_empty
  have i1 : IsMap ((DataW.map [] : DataW Unit).put (keyB z) (txtB z)) := i0.put _ _
  have hhas : ∀ k, has (putAll (.map []) l) k = has ((putAll ((DataW.map []).put (keyB z) (txtB z)) m).del (keyB z)) k := by
    intro k
    rw [has_putAll i0]
    have hn : has (.map [] : DataW Unit) k = false := rfl
    rw [hn, Bool.false_or]
    by_cases hk : k = keyB z
    · subst hk
      rw [has_del_same, List.any_eq_false]
      intro x hx
      simp only [decide_eq_true_eq]
      exact keyB_ne (hz x hx)
    · rw [has_del_other hk, has_putAll i1, has_put_other hk, hn, Bool.false_or, any_perm hp]
  refine Maps.ext c1 c2 hhas fun k d hk => ?_
  rw [has_putAll i0] at hk
  have hn : has (.map [] : DataW Unit) k = false := rfl
  rw [hn, Bool.false_or, List.any_eq_true] at hk
  obtain ⟨x, hx, hk⟩ := hk
  simp only [decide_eq_true_eq] at hk
  subst hk
  rw [atKey_putAll_mem i0 _ l ha x hx, atKey_del_other (keyB_ne (hz x hx)), atKey_putAll_mem i1 _ m hm x (hp.mem_iff.2 hx)]
theorem small_catalog {l : List Body2} (hr : RightB l) (hs : ∀ x ∈ l, TextOk x) : SmallD (putAll (.map []) l) := by
  intro id hid
  rw [has_putAll isMap_empty] at hid
  have hn : has (.map [] : DataW Unit) (.string id) = false := rfl
  rw [hn, Bool.false_or, List.any_eq_true] at hid
  obtain ⟨x, hx, hk⟩ := hid
  simp only [decide_eq_true_eq] at hk
  have e : x.1.data.toList = id := by simpa [keyB] using hk
  have h10 := (hs x hx).2
  refine ⟨by rw [← e]; have : x.1.data.toList.length = x.1.size := by simp
             omega, x.2.data.toList, ?_, ?_⟩
  · rw [← hk]; exact atKey_putAll_mem isMap_empty _ l hr.apart x hx
  · have : x.2.data.toList.length = x.2.size := by simp
    have := hr.small x hx
    omega
theorem new_in {l : List Body2} (ha : l.Pairwise fun x y => x.1 ≠ y.1) {D : DataW Unit} (hD : IsMap D) (j : Nat) (x : Body2) (hx : l[j]? = some x) (h0 : has D (keyB x) = false) : has (putAll D (l.take j)) (keyB x) = false := by
  rw [has_putAll hD, h0, Bool.false_or, List.any_eq_false]
  intro y hy
  simp only [decide_eq_true_eq]
  obtain ⟨i, hi, rfl⟩ := List.mem_take_iff_getElem.1 hy
  obtain ⟨hj, rfl⟩ := List.getElem?_eq_some_iff.1 hx
  exact keyB_ne (List.pairwise_iff_getElem.1 ha i j (by omega) hj (by omega))
/-- The documents in the order of some numbers. -/
def byOrder (l : List Body2) (o : List Int) : List Body2 := o.map fun z => l.getD z.toNat (⟨#[]⟩, ⟨#[]⟩)
theorem byOrder_perm (l : List Body2) (o : List Int) (h : o.Perm ((List.range l.length).map Int.ofNat)) : (byOrder l o).Perm l := by
  unfold byOrder
  refine (h.map _).trans ?_
  rw [List.map_map]
  have e : ((List.range l.length).map ((fun z : Int => l.getD z.toNat (⟨#[]⟩, ⟨#[]⟩)) ∘ Int.ofNat)) = l := by
    apply List.ext_getElem?
    intro i
    rw [List.getElem?_map]
    rcases Nat.lt_or_ge i l.length with h | h
    · rw [List.getElem?_range h, List.getElem?_eq_getElem h]
      simp [h]
    · rw [List.getElem?_eq_none (by simpa using h), List.getElem?_eq_none h]; rfl
  rw [e]
theorem totB_perm {l m : List Body2} (h : l.Perm m) : totB l = totB m := (h.map _).sum_nat
end Go.Proofs.YtehhigcdeahopaaGreatDoor
