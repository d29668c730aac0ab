
/-
  What the steps of Overlay come to. Plain lists.
-/
import Derived.Test.YtbipkkebkddegaaGreatDoorOverPlain4
import Derived.Test.YtbipkkebkddegaaGreatDoorTabErr
namespace Go.Proofs.YtbipkkebkddegaaGreatDoor

theorem inB_nat (n : Nat) (a b : Int) : inB (n : Int) a b = true ↔ a ≤ (n : Int) ∧ (n : Int) ≤ b := by
  simp [inB]
theorem rowsOk_iff (T : Tab) (hs : T.length ≤ 100001) : rowsE T = 0 ↔ rowsOk T := by
  have key : T.all (rowB (T.headD []).length) = true ↔ rowsOk T := by
    rw [List.all_eq_true]
    unfold rowsOk
    constructor
    · intro h
      refine ⟨hs, fun r hr => ?_⟩
      have h1 := h r hr
      unfold rowB at h1
      rw [Bool.and_eq_true, Bool.and_eq_true, inB_nat, decide_eq_true_eq, Bool.not_eq_true', List.any_eq_false] at h1
      obtain ⟨⟨a1, a2⟩, a3, a4⟩ := h1
      exact ⟨by omega, by omega, a3, fun s hx => by simpa using a4 s hx⟩
    · rintro ⟨_, h⟩ r hr
      obtain ⟨a1, a2, a3, a4⟩ := h r hr
      unfold rowB
      rw [Bool.and_eq_true, Bool.and_eq_true, inB_nat, decide_eq_true_eq, Bool.not_eq_true', List.any_eq_false]
      exact ⟨⟨by omega, by omega⟩, a3, fun s hx => by simpa using a4 s hx⟩
  rw [← key]
  unfold rowsE
  cases T.all (rowB (T.headD []).length) <;> simp
/-- What overlayError looks at. -/
structure OvPre (b o : Tab) : Prop where
  rb : rowsOk b
  ro : rowsOk o
  nb : b ≠ []
  no : o ≠ []
  hb : (b.headD []).Nodup
  kb : (keysL b).Nodup
  ho : (o.headD []).Nodup
  ko : (keysL o).Nodup
  first : (b.headD []).headD [] = (o.headD []).headD []
theorem OvPre.ok {b o : Tab} (h : OvPre b o) (hk : ∀ k ∈ keysL o, k ∈ keysL b) (hf : (headsL (b.headD []) (o.headD [])).length ≤ 30) : OverOk b o :=
  ⟨h.rb, h.ro, h.nb, h.no, h.hb, h.ho, h.kb, h.ko, h.first, hk, hf⟩
theorem OverOk.pre {b o : Tab} (h : OverOk b o) : OvPre b o := ⟨h.rb, h.ro, h.nb, h.no, h.hb, h.kb, h.ho, h.ko, h.first⟩
theorem nodup_take_succ {l : List (List UInt8)} {k : Nat} {x : List UInt8} (h : l[k]? = some x) (hn : (l.take k).Nodup) (hx : x ∉ l.take k) : (l.take (k + 1)).Nodup := by
  obtain ⟨hk, rfl⟩ := List.getElem?_eq_some_iff.1 h
  rw [List.take_succ_eq_append_getElem hk, List.nodup_append]
  refine ⟨hn, by simp, fun a ha c hc e => ?_⟩
  rw [List.mem_singleton] at hc
  subst hc; subst e
  exact hx ha
theorem not_nodup_of {l : List (List UInt8)} {k : Nat} {x : List UInt8} (h : l[k]? = some x) (hx : x ∈ l.take k) : ¬ l.Nodup := by
  intro hn
  obtain ⟨hk, rfl⟩ := List.getElem?_eq_some_iff.1 h
  obtain ⟨j, hj, e⟩ := List.getElem_of_mem hx
  rw [List.length_take] at hj
  rw [List.getElem_take] at e
  exact (List.pairwise_iff_getElem.1 hn) j k (by omega) hk (by omega) e
theorem idxOf_snoc_mem {l : List (List UInt8)} {x y : List UInt8} (h : x ∈ l) : (l ++ [y]).idxOf x = l.idxOf x := by
  rw [List.idxOf_append, if_pos h]
theorem idxOf_snoc_new {l : List (List UInt8)} {x : List UInt8} (h : x ∉ l) : (l ++ [x]).idxOf x = l.length := by
  rw [List.idxOf_append, if_neg h]; simp
theorem idxOf_get {l : List (List UInt8)} (hn : l.Nodup) {k : Nat} {x : List UInt8} (h : l[k]? = some x) : l.idxOf x = k := by
  obtain ⟨hk, rfl⟩ := List.getElem?_eq_some_iff.1 h
  exact hn.idxOf_getElem k hk
theorem headsL_take {o b : List (List UInt8)} {k : Nat} {x : List UInt8} (h : o[k]? = some x) : headsL b (o.take (k + 1)) = if x ∈ headsL b (o.take k) then headsL b (o.take k) else headsL b (o.take k) ++ [x] := by
  obtain ⟨hk, rfl⟩ := List.getElem?_eq_some_iff.1 h
  unfold headsL
  rw [List.take_succ_eq_append_getElem hk, List.foldl_append]
  rfl
/-- The columns of the first k heads. -/
def ColsAt (b o : List (List UInt8)) (k : Nat) (cs : List Int) : Prop := cs.length = o.length ∧ ∀ j, j < k → cs[j]? = some (((headsL b (o.take k)).idxOf (o.getD j []) : Nat) : Int)
theorem ColsAt.zero (b o : List (List UInt8)) : ColsAt b o 0 (List.replicate o.length 0) := ⟨by simp, fun j hj => by omega⟩
theorem heads_has {o b : List (List UInt8)} {k j : Nat} (hj : j < k) (hk : k ≤ o.length) : o.getD j [] ∈ headsL b (o.take k) := by
  refine (headsL_all _ _).2 _ ?_
  have : (o.take k).getD j [] = o.getD j [] := by
    rw [List.getD_eq_getElem?_getD, List.getD_eq_getElem?_getD, List.getElem?_take, if_pos hj]
  rw [← this]
  exact getD_mem (by rw [List.length_take]; omega)
theorem ColsAt.step {b o : List (List UInt8)} {k : Nat} {cs : List Int} {x : List UInt8} (h : ColsAt b o k cs) (hx : o[k]? = some x) : ColsAt b o (k + 1) (cs.set k (((if x ∈ headsL b (o.take k) then (headsL b (o.take k)).idxOf x else (headsL b (o.take k)).length) : Nat) : Int)) := by
  have hk := (List.getElem?_eq_some_iff.1 hx).1
  have hxg : o.getD k [] = x := by rw [List.getD_eq_getElem?_getD, hx]; rfl
  refine ⟨by rw [List.length_set]; exact h.1, fun j hj => ?_⟩
  rw [headsL_take hx]
  by_cases hjk : j = k
  · subst hjk
    rw [List.getElem?_set_self (by rw [h.1]; exact hk), hxg]
    by_cases hm : x ∈ headsL b (o.take j)
    · rw [if_pos hm, if_pos hm]
    · rw [if_neg hm, if_neg hm, idxOf_snoc_new hm]
  · rw [List.getElem?_set_ne (fun e => hjk e.symm), h.2 j (by omega)]
    by_cases hm : x ∈ headsL b (o.take k)
    · rw [if_pos hm]
    · rw [if_neg hm, idxOf_snoc_mem (heads_has (by omega) (by omega))]
theorem heads_step {o b : List (List UInt8)} {k : Nat} {x : List UInt8} (h : o[k]? = some x) : (x ∈ headsL b (o.take k) → headsL b (o.take (k + 1)) = headsL b (o.take k)) ∧ (x ∉ headsL b (o.take k) → headsL b (o.take (k + 1)) = headsL b (o.take k) ++ [x]) := by
  rw [headsL_take h]
  exact ⟨fun hm => if_pos hm, fun hm => if_neg hm⟩
/-- The first k rows of the outcome before the writes. -/
theorem base_take {b : Tab} {hs : List (List UInt8)} {k : Nat} {r : List (List UInt8)} (h : b[k + 1]? = some r) : (hs :: ((b.drop 1).take (k + 1)).map (padR hs.length)) = (hs :: ((b.drop 1).take k).map (padR hs.length)) ++ [padR hs.length r] := by
  have hd : (b.drop 1)[k]? = some r := by rw [List.getElem?_drop, Nat.add_comm]; exact h
  obtain ⟨hk, rfl⟩ := List.getElem?_eq_some_iff.1 hd
  rw [List.take_succ_eq_append_getElem hk]
  simp
/-- The writes of the first k rows, and of the first i cells of the next one. -/
def wrT (b o : Tab) (hs : List (List UInt8)) (k : Nat) : List Wr := ((o.drop 1).take k).flatMap (rowW b hs (o.headD []))
def wrR (b : Tab) (hs o0 r : List (List UInt8)) (i : Nat) : List Wr := ((r.zipIdx.take i).drop 1).map fun p => ((keysL b).idxOf (r.headD []) + 1, hs.idxOf (o0.getD p.2 []), p.1)
theorem wrT_succ {b o : Tab} {hs : List (List UInt8)} {k : Nat} {r : List (List UInt8)} (h : o[k + 1]? = some r) : wrT b o hs (k + 1) = wrT b o hs k ++ rowW b hs (o.headD []) r := by
  have hd : (o.drop 1)[k]? = some r := by rw [List.getElem?_drop, Nat.add_comm]; exact h
  obtain ⟨hk, rfl⟩ := List.getElem?_eq_some_iff.1 hd
  unfold wrT
  rw [List.take_succ_eq_append_getElem hk, List.flatMap_append]
  simp
theorem wrR_zero (b : Tab) (hs o0 r : List (List UInt8)) : wrR b hs o0 r 0 = [] := by simp [wrR]
theorem wrR_one (b : Tab) (hs o0 r : List (List UInt8)) : wrR b hs o0 r 1 = [] := by
  unfold wrR
  cases r <;> simp [List.zipIdx]
theorem wrR_all (b : Tab) (hs o0 r : List (List UInt8)) : wrR b hs o0 r r.length = rowW b hs o0 r := by
  unfold wrR rowW
  rw [List.take_of_length_le (by simp)]
theorem wrR_succ {b : Tab} {hs o0 r : List (List UInt8)} {i : Nat} {s : List UInt8} (hi : 1 ≤ i) (h : r[i]? = some s) : wrR b hs o0 r (i + 1) = wrR b hs o0 r i ++ [((keysL b).idxOf (r.headD []) + 1, hs.idxOf (o0.getD i []), s)] := by
  obtain ⟨hk, rfl⟩ := List.getElem?_eq_some_iff.1 h
  unfold wrR
  have hz : i < r.zipIdx.length := by simp; exact hk
  rw [List.take_succ_eq_append_getElem hz, List.drop_append_of_le_length (by rw [List.length_take]; omega), List.map_append]
  simp
theorem runW_append (T : Tab) (U V : List Wr) : runW T (U ++ V) = runW (runW T U) V := by unfold runW; rw [List.foldl_append]
theorem runW_snoc {T : Tab} {U : List Wr} {x y : Nat} {s : List UInt8} {p : List (List UInt8)} (h : (runW T U)[x]? = some p) : runW T (U ++ [(x, y, s)]) = (runW T U).set x (p.set y s) := by
  rw [runW_append]
  show setW (runW T U) (x, y, s) = _
  exact setW_some h
theorem wrT_all (b o : Tab) (hs : List (List UInt8)) {k : Nat} (h : o.length ≤ k + 1) : wrT b o hs k = overW b o hs := by
  unfold wrT overW
  rw [List.take_of_length_le (by rw [List.length_drop]; omega)]
end Go.Proofs.YtbipkkebkddegaaGreatDoor
