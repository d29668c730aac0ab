
/-
  Documents that are stripped one after the other: they stay right, and nothing is common to them any more.
-/
import Derived.Test.YtabdjkcediolcaaGreatDoorStrip
namespace Go.Proofs.YtabdjkcediolcaaGreatDoor
open Go

theorem faultR_zero : ∀ (r done : List Body2), (∀ x ∈ r, keyL x.1.data.toList = true ∧ x.2.size ≤ 20000) → (done ++ r).Pairwise (fun x y => x.1 ≠ y.1) → faultR done r = 0
  | [], _, _, _ => rfl
  | b :: r, done, h, hp => by
    obtain ⟨h1, h2⟩ := h b (by simp)
    have hd : done.any (fun x => decide (x.1 = b.1)) = false := by
      rw [List.any_eq_false]
      intro x hx
      have := (List.pairwise_append.1 hp).2.2 x hx b (by simp)
      simpa using this
    rw [faultR, if_neg (by rw [h1]; exact Bool.noConfusion), if_neg (by rw [hd]; exact Bool.noConfusion), if_neg (by omega)]
    exact faultR_zero r (done ++ [b]) (fun x hx => h x (List.mem_cons_of_mem _ hx)) (by simpa using hp)
theorem right_fault {l : List Body2} (h : RightB l) : faultL l = 0 := by
  have h1 : faultR [] l = 0 := faultR_zero l [] (fun x hx => ⟨h.key x hx, h.small x hx⟩) (by simpa using h.apart)
  have h2 := h.few
  have h3 := h.total
  unfold faultL
  rw [if_neg (by omega), h1, if_neg (by simp), if_neg (by omega)]
def strB (cs : List Str) (x : Body2) : Body2 := (x.1, bag (stripL cs x.2.data.toList))
/-- The first ones are stripped. -/
def strK (cs : List Str) (l : List Body2) (k : Nat) : List Body2 := (l.take k).map (strB cs) ++ l.drop k
theorem strK_zero (cs : List Str) (l : List Body2) : strK cs l 0 = l := by simp [strK]
theorem strK_all (cs : List Str) (l : List Body2) (k : Nat) (h : l.length ≤ k) : strK cs l k = l.map (strB cs) := by
  unfold strK; rw [List.take_of_length_le h, List.drop_of_length_le h, List.append_nil]
theorem strK_length (cs : List Str) (l : List Body2) (k : Nat) : (strK cs l k).length = l.length := by
  simp [strK]; omega
theorem strK_at (cs : List Str) (l : List Body2) (k : Nat) (x : Body2) (h : l[k]? = some x) : (strK cs l k)[k]? = some x := by
  have hk := (List.getElem?_eq_some_iff.1 h).1
  unfold strK
  rw [List.getElem?_append_right (by simp; omega)]
  simp [List.getElem?_drop]
  rw [show k + (k - min k l.length) = k by omega]
  exact h
theorem strK_set (cs : List Str) (l : List Body2) (k : Nat) (x : Body2) (h : l[k]? = some x) : (strK cs l k).set k (strB cs x) = strK cs l (k + 1) := by
  obtain ⟨hk, rfl⟩ := List.getElem?_eq_some_iff.1 h
  unfold strK
  have hl : ((l.take k).map (strB cs)).length = k := by simp; omega
  rw [List.set_append_right _ _ (by omega), hl, Nat.sub_self, List.drop_eq_getElem_cons hk, List.set_cons_zero, List.take_succ_eq_append_getElem hk, List.map_append]
  simp
theorem texts_strip (cs : List Str) (l : List Body2) : textsL (l.map (strB cs)) = (textsL l).map (stripL cs) := by
  simp [textsL, strB, bag_data]
theorem strB_size (cs : List Str) (x : Body2) : (strB cs x).2.size ≤ x.2.size + 1 := by
  have := stripL_size cs x.2.data.toList
  show (bag _).size ≤ _
  rw [bag_size]
  simpa using this
theorem right_strip {cs : List Str} {l : List Body2} (h : RightB l) (h5 : l.length ≤ 6) (hs : ∀ x ∈ l, x.2.size ≠ 20000) : RightB (l.map (strB cs)) := by
  have hsz : ∀ x ∈ l.map (strB cs), x.2.size ≤ 20000 := by
    intro y hy
    obtain ⟨x, hx, rfl⟩ := List.mem_map.1 hy
    have h1 := strB_size cs x
    have h2 := h.small x hx
    have h3 := hs x hx
    omega
  refine ⟨?_, hsz, ?_, ?_, ?_⟩
  · intro y hy
    obtain ⟨x, hx, rfl⟩ := List.mem_map.1 hy
    exact h.key x hx
  · exact List.pairwise_map.2 h.apart
  · rw [List.length_map]; omega
  · have := totB_le (l.map (strB cs)) 20000 hsz
    rw [List.length_map] at this
    omega
theorem ok_strip {cs : List Str} {l : List Body2} (h : RightB l) (hok : ∀ x ∈ l, TextOk x) : ∀ x ∈ l.map (strB cs), TextOk x := by
  intro y hy
  obtain ⟨x, hx, rfl⟩ := List.mem_map.1 hy
  have h1 := strB_size cs x
  have h2 := h.small x hx
  exact ⟨by omega, (hok x hx).2⟩
theorem common_forms {l : List Body2} {cs : List Str} (h : RightB l) (hc : CommonOf (textsL l) 2 cs) : ∀ f ∈ cs, f ≠ [] ∧ formL [f] = f ∧ f.length ≤ 20000 := by
  intro f hf
  obtain ⟨h1, h2⟩ := (hc.mem f).1 hf
  have hpos : 0 < (textsL l).countP (hasF f) := by unfold cntF at h2; omega
  rw [List.countP_pos_iff] at hpos
  obtain ⟨t, ht, hx⟩ := hpos
  obtain ⟨p, hp, rfl⟩ := hasF_form hx
  refine ⟨h1, formL_again p, ?_⟩
  obtain ⟨x, hxl, rfl⟩ := List.mem_map.1 ht
  have h3 := (join_para hp).2.2
  have h4 := h.small x hxl
  have h5 : x.2.data.toList.length = x.2.size := by simp
  omega
theorem MaxAt.kept {w w' : World} {row : Option Nat} (h : MaxAt w) (hg : w.grownBy w' row) (hr : ∀ i, row = some i → 0 < i) : MaxAt w' := by
  obtain ⟨m, hm⟩ := h
  exact ⟨m, (World.cell?_of_block (hg.block _ (World.block_lt_of_cell? w _ hm) (fun e => Nat.lt_irrefl _ (hr _ e.symm)))).trans hm⟩
theorem MaxAt.lt {w : World} (h : MaxAt w) : 0 < w.heap.size := by
  obtain ⟨m, hm⟩ := h
  exact World.block_lt_of_cell? w _ hm
end Go.Proofs.YtabdjkcediolcaaGreatDoor
