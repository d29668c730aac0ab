
/-
  Numbers shared out by size: what is left over goes to those that lost most.
-/
import Derived.Test.YtiegbbngfojjoaaGreatDoorAllocPlain
namespace Go.Proofs.YtiegbbngfojjoaaGreatDoor

/-- What the k-th loses. -/
def remP (n tot : Nat) (L : List Nat) (k : Nat) : Nat := n * L.getD k 0 % tot
def quoP (n tot : Nat) (s : Nat) : Nat := n * s / tot
def floors (n tot : Nat) (L : List Nat) (k : Nat) : List Nat := (L.take k).map (quoP n tot) ++ List.replicate (L.length - k) 0
theorem floors_length (n tot : Nat) (L : List Nat) (k : Nat) (hk : k ≤ L.length) : (floors n tot L k).length = L.length := by
  unfold floors; simp; omega
theorem floors_zero (n tot : Nat) (L : List Nat) : floors n tot L 0 = List.replicate L.length 0 := by simp [floors]
theorem floors_all (n tot : Nat) (L : List Nat) : floors n tot L L.length = L.map (quoP n tot) := by simp [floors]
theorem floors_set (n tot : Nat) (L : List Nat) (k : Nat) (hk : k < L.length) : (floors n tot L k).set k (quoP n tot (L.getD k 0)) = floors n tot L (k + 1) := by
  unfold floors
  have hl : ((L.take k).map (quoP n tot)).length = k := by simp; omega
  rw [List.set_append_right _ _ (by omega), hl, Nat.sub_self, show L.length - k = (L.length - (k + 1)) + 1 by omega, List.replicate_succ, List.set_cons_zero, List.take_succ_eq_append_getElem hk]
  have e : L.getD k 0 = L[k] := by simp [hk]
  rw [e, List.map_append, List.append_assoc]
  rfl
theorem floors_sum (n tot : Nat) (L : List Nat) (k : Nat) (hk : k < L.length) : (floors n tot L (k + 1)).sum = (floors n tot L k).sum + quoP n tot (L.getD k 0) := by
  unfold floors
  rw [List.take_succ_eq_append_getElem hk]
  have e : L.getD k 0 = L[k] := by simp [hk]
  have hz : ∀ m, (List.replicate m 0).sum = 0 := fun m => by simp
  simp only [List.map_append, List.sum_append, List.map_cons, List.map_nil, List.sum_cons, List.sum_nil, hz, e]
  omega
theorem parts_sum (n tot : Nat) : ∀ L : List Nat, n * L.sum = tot * (L.map (quoP n tot)).sum + (L.map fun s => n * s % tot).sum
  | [] => by simp
  | s :: L => by
    have ih := parts_sum n tot L
    have hd := Nat.div_add_mod (n * s) tot
    simp only [List.map_cons, List.sum_cons, Nat.mul_add, quoP] at *
    omega
theorem sum_le_each (b : Nat) : ∀ (l : List Nat), (∀ x ∈ l, x ≤ b) → l.sum ≤ l.length * b
  | [], _ => by simp
  | x :: l, h => by
    have ih := sum_le_each b l (fun y hy => h y (by simp [hy]))
    have hx := h x (by simp)
    simp only [List.sum_cons, List.length_cons, Nat.add_mul, Nat.one_mul]
    omega
theorem rem_map (n tot : Nat) (L : List Nat) : (List.range L.length).map (remP n tot L) = L.map fun s => n * s % tot := by
  apply List.ext_getElem
  · simp
  · intro i h1 h2
    have hi : i < L.length := by simpa using h2
    simp [remP, hi]
theorem left_sum (n tot : Nat) (L O : List Nat) (ht : L.sum = tot) (ho : O.Perm (List.range L.length)) : (O.map (remP n tot L)).sum = tot * (n - (L.map (quoP n tot)).sum) ∧ (L.map (quoP n tot)).sum ≤ n ∨ tot = 0 := by
  rcases Nat.eq_zero_or_pos tot with h0 | h0
  · exact .inr h0
  · left
    have h1 := parts_sum n tot L
    rw [ht] at h1
    have h2 : (O.map (remP n tot L)).sum = (L.map fun s => n * s % tot).sum := by
      rw [← rem_map]
      exact (ho.map _).sum_nat
    have h3 : tot * (L.map (quoP n tot)).sum ≤ tot * n := by rw [Nat.mul_comm tot n]; omega
    have h4 : (L.map (quoP n tot)).sum ≤ n := Nat.le_of_mul_le_mul_left h3 h0
    refine ⟨?_, h4⟩
    rw [h2, Nat.mul_sub, Nat.mul_comm tot n]
    omega
theorem left_le (n tot : Nat) (L O : List Nat) (ht : L.sum = tot) (h0 : 0 < tot) (ho : O.Perm (List.range L.length)) : n - (L.map (quoP n tot)).sum ≤ L.length := by
  rcases left_sum n tot L O ht ho with ⟨h1, _⟩ | h
  · have h2 := sum_le_each (tot - 1) (O.map (remP n tot L)) (fun x hx => by
      obtain ⟨k, _, rfl⟩ := List.mem_map.1 hx
      have := Nat.mod_lt (n * L.getD k 0) h0
      unfold remP; omega)
    rw [h1, List.length_map, ho.length_eq, List.length_range] at h2
    rcases Nat.lt_or_ge L.length (n - (L.map (quoP n tot)).sum) with h | h
    · exfalso
      have h3 : tot * (L.length + 1) ≤ tot * (n - (L.map (quoP n tot)).sum) := Nat.mul_le_mul_left _ h
      have h4 : L.length * (tot - 1) ≤ L.length * tot := Nat.mul_le_mul_left _ (by omega)
      rw [Nat.mul_add, Nat.mul_comm tot L.length] at h3
      omega
    · exact h
  · omega
theorem left_pos (n tot : Nat) (L O : List Nat) (ht : L.sum = tot) (h0 : 0 < tot) (ho : O.Perm (List.range L.length)) (hs : O.Pairwise fun x y => remP n tot L y ≤ remP n tot L x) :
    ∀ i ∈ O.take (n - (L.map (quoP n tot)).sum), 0 < remP n tot L i := by
  intro i hi
  rcases Nat.eq_zero_or_pos (remP n tot L i) with hz | hz
  · exfalso
    rcases left_sum n tot L O ht ho with ⟨h1, _⟩ | h
    · generalize hq : n - (L.map (quoP n tot)).sum = q at *
      have e := List.take_append_drop q O
      rw [← e, List.pairwise_append] at hs
      have hd : ∀ y ∈ O.drop q, remP n tot L y = 0 := fun y hy => by have := hs.2.2 i hi y hy; omega
      have hsum : (O.map (remP n tot L)).sum = ((O.take q).map (remP n tot L)).sum := by
        conv => lhs; rw [← e]
        rw [List.map_append, List.sum_append]
        have := sum_le_each 0 ((O.drop q).map (remP n tot L)) (fun x hx => by
          obtain ⟨k, hk, rfl⟩ := List.mem_map.1 hx
          exact Nat.le_of_eq (hd k hk))
        omega
      have hb := sum_le_each (tot - 1) ((O.take q).map (remP n tot L)) (fun x hx => by
        obtain ⟨k, _, rfl⟩ := List.mem_map.1 hx
        have := Nat.mod_lt (n * L.getD k 0) h0
        unfold remP; omega)
      rw [← hsum, h1, List.length_map] at hb
      have hlq : (O.take q).length ≤ q := by simp; omega
      have h5 : (O.take q).length * (tot - 1) ≤ q * (tot - 1) := Nat.mul_le_mul_right _ hlq
      have hq1 : 1 ≤ q := by
        rcases Nat.eq_zero_or_pos q with h | h
        · subst h; simp at hi
        · exact h
      have h6 : q * (tot - 1) + q = tot * q := by
        rw [← Nat.mul_succ, show (tot - 1).succ = tot by omega, Nat.mul_comm]
      omega
    · omega
  · exact hz
/-- What is shared out: as many as there are, at most n, none more than its size. -/
theorem shared_right (n tot : Nat) (L O : List Nat) (ht : L.sum = tot) (hlt : n < tot) (ho : O.Perm (List.range L.length)) (hs : O.Pairwise fun x y => remP n tot L y ≤ remP n tot L x) (q : Nat) (hq : q = n - (L.map (quoP n tot)).sum) :
    (bump (L.map (quoP n tot)) (O.take q)).length = L.length ∧ (∀ k, (bump (L.map (quoP n tot)) (O.take q)).getD k 0 ≤ L.getD k 0) ∧ (bump (L.map (quoP n tot)) (O.take q)).sum = n := by
  have h0 : 0 < tot := by omega
  have hql := left_le n tot L O ht h0 ho
  have hpos := left_pos n tot L O ht h0 ho hs
  rw [← hq] at hql hpos
  have hnd : (O.take q).Nodup := ((ho.nodup_iff.2 List.nodup_range).sublist (List.take_sublist _ _))
  refine ⟨by rw [bump_length, List.length_map], fun k => ?_, ?_⟩
  · rw [bump_at _ _ hnd]
    have hq0 : (L.map (quoP n tot)).getD k 0 = quoP n tot (L.getD k 0) := by
      rw [List.getD_eq_getElem?_getD, List.getElem?_map, List.getD_eq_getElem?_getD]
      cases L[k]? <;> simp [quoP]
    rw [hq0]
    have hdm := Nat.div_add_mod (n * L.getD k 0) tot
    split
    · rename_i hk
      have hp := hpos k hk.1
      unfold remP at hp
      unfold quoP
      rcases Nat.lt_or_ge (n * L.getD k 0 / tot) (L.getD k 0) with h | h
      · omega
      · exfalso
        have h1 : tot * L.getD k 0 ≤ tot * (n * L.getD k 0 / tot) := Nat.mul_le_mul_left _ h
        have h2 : n * L.getD k 0 ≤ tot * L.getD k 0 := Nat.mul_le_mul_right _ (by omega)
        omega
    · unfold quoP
      have h2 : n * L.getD k 0 ≤ tot * L.getD k 0 := Nat.mul_le_mul_right _ (by omega)
      rw [Nat.add_zero]
      exact Nat.div_le_of_le_mul h2
  · have hin : ∀ i ∈ O.take q, i < (L.map (quoP n tot)).length := fun i hi => by
      have := (ho.mem_iff.1 (List.mem_of_mem_take hi))
      rw [List.length_map]
      exact List.mem_range.1 this
    rw [bump_sum _ _ hin, List.length_take, ho.length_eq, List.length_range, Nat.min_eq_left hql, hq]
    rcases left_sum n tot L O ht ho with ⟨_, h⟩ | h <;> omega
end Go.Proofs.YtiegbbngfojjoaaGreatDoor
