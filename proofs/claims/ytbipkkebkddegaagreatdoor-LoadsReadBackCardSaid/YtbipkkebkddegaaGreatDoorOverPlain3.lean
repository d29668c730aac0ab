
/-
  Putting rows over others twice is putting them over once. Plain lists.
-/
import Derived.Test.YtbipkkebkddegaaGreatDoorOverPlain2
namespace Go.Proofs.YtbipkkebkddegaaGreatDoor

theorem zip_drop_pairwise (r : List (List UInt8)) : (r.zipIdx.drop 1).Pairwise fun p q => p.2 ≠ q.2 := by
  rw [List.pairwise_iff_getElem]
  intro i j hi hj hij
  rw [List.getElem_drop, List.getElem_drop, List.getElem_zipIdx, List.getElem_zipIdx]
  simp only; omega
theorem base_row {b : Tab} {hs : List (List UInt8)} {i : Nat} {r : List (List UInt8)} (h : (b.drop 1)[i]? = some r) : (baseT b hs)[i + 1]? = some (padR hs.length r) := by
  unfold baseT
  rw [List.getElem?_cons_succ, List.getElem?_map, h]; rfl
theorem pad_length {n : Nat} {r : List (List UInt8)} (h : r.length ≤ n) : (padR n r).length = n := by simp [padR]; omega
theorem pad_self {n : Nat} {r : List (List UInt8)} (h : r.length = n) : padR n r = r := by simp [padR, h]
theorem heads_first {b o : Tab} (h : OverOk b o) : ∃ x m, b.headD [] = x :: m ∧ ∃ m2, headsL (b.headD []) (o.headD []) = x :: (m ++ m2) := by
  obtain ⟨r0, R, e⟩ := head_cons h.nb
  have h1 := (h.rb.2 r0 (by rw [e]; simp)).1
  have e2 : b.headD [] = r0 := by rw [e]; rfl
  cases hr : r0 with
  | nil => rw [hr] at h1; simp at h1
  | cons x m =>
    refine ⟨x, m, by rw [e2, hr], ?_⟩
    obtain ⟨m2, hm⟩ := headsL_sub (o.headD []) (b.headD [])
    exact ⟨m2, by rw [hm, e2, hr]; rfl⟩
theorem heads_len {b o : Tab} (_h : OverOk b o) : (b.headD []).length ≤ (headsL (b.headD []) (o.headD [])).length := by
  obtain ⟨m, hm⟩ := headsL_sub (o.headD []) (b.headD [])
  rw [hm, List.length_append]; omega
theorem over_apart {b o : Tab} (h : OverOk b o) : ApartW (baseT b (headsL (b.headD []) (o.headD []))) (overW b o (headsL (b.headD []) (o.headD []))) := by
  constructor
  · unfold overW
    rw [List.pairwise_flatMap]
    constructor
    · intro r hr
      unfold rowW
      rw [List.pairwise_map]
      have hl := (h.ro.2 r (List.mem_of_mem_drop hr)).2.2.1
      refine List.Pairwise.imp_of_mem (fun {p q} hp hq hpq => ?_) (zip_drop_pairwise r)
      rintro ⟨_, hc⟩
      obtain ⟨_, hp2, _⟩ := mem_zip hp
      obtain ⟨_, hq2, _⟩ := mem_zip hq
      have e := idxOf_inj ((headsL_all _ _).2 _ (getD_mem (by omega))) ((headsL_all _ _).2 _ (getD_mem (by omega))) hc
      exact hpq (getD_inj h.ho (by omega) (by omega) e)
    · have hk := h.ko
      unfold keysL at hk
      rw [List.Nodup, List.pairwise_map] at hk
      refine List.Pairwise.imp_of_mem (fun {r q} hr hq hne => ?_) hk
      intro v hv w hw
      obtain ⟨_, _, _, _, rfl⟩ := rowW_mem hv
      obtain ⟨_, _, _, _, rfl⟩ := rowW_mem hw
      rintro ⟨he, _⟩
      simp only at he
      exact hne (idxOf_inj (h.keys _ (List.mem_map.2 ⟨r, hr, rfl⟩)) (h.keys _ (List.mem_map.2 ⟨q, hq, rfl⟩)) (by omega))
  · intro w hw
    obtain ⟨r, hr, i, s, h1, h2, h3, h4, h5, rfl⟩ := overW_mem h hw
    have hk := List.idxOf_lt_length_iff.2 h4
    have hkl : (keysL b).length = (b.drop 1).length := by unfold keysL; rw [List.length_map]
    obtain ⟨q, hq⟩ : ∃ q, (b.drop 1)[(keysL b).idxOf (r.headD [])]? = some q := ⟨_, List.getElem?_eq_getElem (by omega)⟩
    have hql := (h.rb.2 q (List.mem_of_mem_drop (List.mem_of_getElem? hq))).2.2.1
    have hpl : (padR (headsL (b.headD []) (o.headD [])).length q).length = (headsL (b.headD []) (o.headD [])).length := pad_length (by rw [hql]; exact heads_len h)
    have hc := List.idxOf_lt_length_iff.2 h5
    simp only
    rw [atT_some (base_row hq)]
    exact ⟨_, List.getElem?_eq_getElem (by rw [hpl]; exact hc)⟩
theorem run_row_other (x : Nat) : ∀ (W : List Wr) (T : Tab), (∀ w ∈ W, w.1 ≠ x) → (runW T W)[x]? = T[x]?
  | [], T, _ => rfl
  | w :: W, T, h => by
    show (runW (setW T w) W)[x]? = _
    rw [run_row_other x W _ (fun v hv => h v (List.mem_cons_of_mem _ hv))]
    cases hr : T[w.1]? with
    | none => rw [setW_none hr]
    | some r => rw [setW_some hr, List.getElem?_set_ne (h w (by simp))]
theorem set_rows {T : Tab} {w : Wr} {r : List (List UInt8)} (h : r ∈ setW T w) : r ∈ T ∨ ∃ q ∈ T, r = q.set w.2.1 w.2.2 := by
  cases hr : T[w.1]? with
  | none => rw [setW_none hr] at h; exact .inl h
  | some q =>
    rw [setW_some hr] at h
    rcases List.mem_or_eq_of_mem_set h with h | h
    · exact .inl h
    · exact .inr ⟨q, List.mem_of_getElem? hr, h⟩
theorem run_len (n : Nat) : ∀ (W : List Wr) (T : Tab), (∀ r ∈ T, r.length = n) → ∀ r ∈ runW T W, r.length = n
  | [], T, h => h
  | w :: W, T, h => run_len n W (setW T w) (fun r hr => by
      rcases set_rows hr with hr | ⟨q, hq, rfl⟩
      · exact h r hr
      · rw [List.length_set]; exact h q hq)
theorem run_strs (P : List UInt8 → Prop) : ∀ (W : List Wr) (T : Tab), (∀ r ∈ T, ∀ s ∈ r, P s) → (∀ w ∈ W, P w.2.2) → ∀ r ∈ runW T W, ∀ s ∈ r, P s
  | [], T, h, _ => h
  | w :: W, T, h, hw => run_strs P W (setW T w) (fun r hr s hs => by
      rcases set_rows hr with hr | ⟨q, hq, rfl⟩
      · exact h r hr s hs
      · rcases List.mem_or_eq_of_mem_set hs with hs | rfl
        · exact h q hq s hs
        · exact hw w (by simp)) (fun v hv => hw v (List.mem_cons_of_mem _ hv))
theorem headD_get (r : List (List UInt8)) : r.headD [] = (r[0]?).getD [] := by cases r <;> rfl
end Go.Proofs.YtbipkkebkddegaaGreatDoor
