
/-
  What Overlay makes of two tables; making it twice is making it once. Plain lists.
-/
import Derived.Test.YtbipkkebkddegaaGreatDoorOverPlain
import Derived.Test.YtbipkkebkddegaaGreatDoorTextPlain
namespace Go.Proofs.YtbipkkebkddegaaGreatDoor

def keysL (T : Tab) : List (List UInt8) := (T.drop 1).map fun r => r.headD []
def rowsOk (T : Tab) : Prop := T.length ≤ 100001 ∧ ∀ r ∈ T, 1 ≤ r.length ∧ r.length ≤ 30 ∧ r.length = (T.headD []).length ∧ ∀ s ∈ r, visB true s = true
/-- The tables can be put together. -/
structure OverOk (b o : Tab) : Prop where
  rb : rowsOk b
  ro : rowsOk o
  nb : b ≠ []
  no : o ≠ []
  hb : (b.headD []).Nodup
  ho : (o.headD []).Nodup
  kb : (keysL b).Nodup
  ko : (keysL o).Nodup
  first : (b.headD []).headD [] = (o.headD []).headD []
  keys : ∀ k ∈ keysL o, k ∈ keysL b
  few : (headsL (b.headD []) (o.headD [])).length ≤ 30
def padR (n : Nat) (r : List (List UInt8)) : List (List UInt8) := r ++ List.replicate (n - r.length) []
def baseT (b : Tab) (hs : List (List UInt8)) : Tab := hs :: (b.drop 1).map (padR hs.length)
/-- The writes of one row: its key, its further cells. -/
def rowW (b : Tab) (hs o0 : List (List UInt8)) (r : List (List UInt8)) : List Wr := (r.zipIdx.drop 1).map fun p => ((keysL b).idxOf (r.headD []) + 1, hs.idxOf (o0.getD p.2 []), p.1)
def overW (b o : Tab) (hs : List (List UInt8)) : List Wr := (o.drop 1).flatMap (rowW b hs (o.headD []))
def overL (b o : Tab) : Tab := runW (baseT b (headsL (b.headD []) (o.headD []))) (overW b o (headsL (b.headD []) (o.headD [])))

theorem mem_zip {r : List (List UInt8)} {p : List UInt8 × Nat} (h : p ∈ r.zipIdx.drop 1) : 1 ≤ p.2 ∧ p.2 < r.length ∧ r[p.2]? = some p.1 := by
  obtain ⟨k, hk, he⟩ := List.getElem_of_mem h
  rw [List.getElem_drop, List.getElem_zipIdx] at he
  rw [List.length_drop, List.length_zipIdx] at hk
  subst he
  refine ⟨by simp only; omega, by simp only; omega, ?_⟩
  simp only
  rw [Nat.zero_add]
  exact List.getElem?_eq_getElem _
theorem rowW_mem {b : Tab} {hs o0 r : List (List UInt8)} {w : Wr} (h : w ∈ rowW b hs o0 r) : ∃ i s, 1 ≤ i ∧ r[i]? = some s ∧ w = ((keysL b).idxOf (r.headD []) + 1, hs.idxOf (o0.getD i []), s) := by
  unfold rowW at h
  obtain ⟨p, hp, rfl⟩ := List.mem_map.1 h
  obtain ⟨h1, _, h3⟩ := mem_zip hp
  exact ⟨p.2, p.1, h1, h3, rfl⟩
theorem getD_mem {l : List (List UInt8)} {i : Nat} (h : i < l.length) : l.getD i [] ∈ l := by
  rw [List.getD_eq_getElem?_getD, List.getElem?_eq_getElem h]; exact List.getElem_mem h
theorem idxOf_inj {l : List (List UInt8)} {x y : List UInt8} (hx : x ∈ l) (hy : y ∈ l) (h : l.idxOf x = l.idxOf y) : x = y := by
  have h1 := List.getElem_idxOf (List.idxOf_lt_length_iff.2 hx)
  have h2 := List.getElem_idxOf (List.idxOf_lt_length_iff.2 hy)
  rw [← h1, ← h2]
  congr 1
theorem getD_inj {l : List (List UInt8)} (hn : l.Nodup) {i j : Nat} (hi : i < l.length) (hj : j < l.length) (h : l.getD i [] = l.getD j []) : i = j := by
  rw [List.getD_eq_getElem?_getD, List.getD_eq_getElem?_getD, List.getElem?_eq_getElem hi, List.getElem?_eq_getElem hj] at h
  simp only [Option.getD_some] at h
  rcases Nat.lt_trichotomy i j with hlt | he | hlt
  · exact absurd h ((List.pairwise_iff_getElem.1 hn) i j hi hj hlt)
  · exact he
  · exact absurd h.symm ((List.pairwise_iff_getElem.1 hn) j i hj hi hlt)
theorem head_cons {T : Tab} (h : T ≠ []) : ∃ r0 R, T = r0 :: R := by cases T with
  | nil => exact absurd rfl h
  | cons r R => exact ⟨r, R, rfl⟩
/-- What a write of a right pair of tables is. -/
theorem overW_mem {b o : Tab} (h : OverOk b o) {w : Wr} (hw : w ∈ overW b o (headsL (b.headD []) (o.headD []))) :
    ∃ r ∈ o.drop 1, ∃ i s, 1 ≤ i ∧ i < (o.headD []).length ∧ r[i]? = some s ∧ r.headD [] ∈ keysL b ∧ (o.headD []).getD i [] ∈ headsL (b.headD []) (o.headD []) ∧ w = ((keysL b).idxOf (r.headD []) + 1, (headsL (b.headD []) (o.headD [])).idxOf ((o.headD []).getD i []), s) := by
  obtain ⟨r, hr, hw⟩ := List.mem_flatMap.1 hw
  obtain ⟨i, s, h1, h2, h3⟩ := rowW_mem hw
  have hl := (h.ro.2 r (List.mem_of_mem_drop hr)).2.2.1
  have hi : i < (o.headD []).length := by rw [← hl]; exact (List.getElem?_eq_some_iff.1 h2).1
  exact ⟨r, hr, i, s, h1, hi, h2, h.keys _ (List.mem_map.2 ⟨r, hr, rfl⟩), (headsL_all _ _).2 _ (getD_mem hi), h3⟩
end Go.Proofs.YtbipkkebkddegaaGreatDoor
