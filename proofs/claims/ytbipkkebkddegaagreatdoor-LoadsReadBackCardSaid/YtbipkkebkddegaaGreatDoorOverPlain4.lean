
/-
  Putting rows over others twice is putting them over once. Plain lists.
-/
import Derived.Test.YtbipkkebkddegaaGreatDoorOverPlain3
namespace Go.Proofs.YtbipkkebkddegaaGreatDoor

theorem vis_nil : visB true [] = true := by rfl
theorem col_pos {b o : Tab} (h : OverOk b o) {i : Nat} (h1 : 1 ≤ i) (h2 : i < (o.headD []).length) : (headsL (b.headD []) (o.headD [])).idxOf ((o.headD []).getD i []) ≠ 0 := by
  intro e
  obtain ⟨x, m, hb, m2, hm⟩ := heads_first h
  have hmem := (headsL_all (o.headD []) (b.headD [])).2 _ (getD_mem h2)
  have hx : x ∈ headsL (b.headD []) (o.headD []) := by rw [hm]; simp
  have h0 : (headsL (b.headD []) (o.headD [])).idxOf x = 0 := by rw [hm]; simp
  have he := idxOf_inj hmem hx (e.trans h0.symm)
  have hf : (o.headD []).getD 0 [] = x := by
    have h3 := h.first
    rw [hb] at h3
    rw [List.getD_eq_getElem?_getD, ← headD_get, ← h3]; rfl
  have := getD_inj h.ho h2 (by omega) (he.trans hf.symm)
  omega
theorem over_len {b o : Tab} (h : OverOk b o) : (overL b o).length = b.length := by
  obtain ⟨r0, R, e⟩ := head_cons h.nb
  unfold overL
  rw [runW_length]
  simp [baseT, e]
theorem over_row0 {b o : Tab} (h : OverOk b o) : (overL b o)[0]? = some (headsL (b.headD []) (o.headD [])) := by
  unfold overL
  rw [run_row_other 0 _ _ (fun w hw => by
    obtain ⟨r, hr, i, s, h1, h2, h3, h4, h5, rfl⟩ := overW_mem h hw
    simp)]
  rfl
theorem base_lens {b o : Tab} (h : OverOk b o) : ∀ r ∈ baseT b (headsL (b.headD []) (o.headD [])), r.length = (headsL (b.headD []) (o.headD [])).length := by
  intro r hr
  unfold baseT at hr
  rcases List.mem_cons.1 hr with rfl | hr
  · rfl
  · obtain ⟨q, hq, rfl⟩ := List.mem_map.1 hr
    exact pad_length (by rw [(h.rb.2 q (List.mem_of_mem_drop hq)).2.2.1]; exact heads_len h)
theorem over_lens {b o : Tab} (h : OverOk b o) : ∀ r ∈ overL b o, r.length = (headsL (b.headD []) (o.headD [])).length := run_len _ _ _ (base_lens h)
theorem over_vis {b o : Tab} (h : OverOk b o) : ∀ r ∈ overL b o, ∀ s ∈ r, visB true s = true := by
  have hb0 : ∀ s ∈ b.headD [], visB true s = true := by
    obtain ⟨r0, R, e⟩ := head_cons h.nb
    have := (h.rb.2 r0 (by rw [e]; simp)).2.2.2
    rw [e]; exact this
  have ho0 : ∀ s ∈ o.headD [], visB true s = true := by
    obtain ⟨r0, R, e⟩ := head_cons h.no
    have := (h.ro.2 r0 (by rw [e]; simp)).2.2.2
    rw [e]; exact this
  have hhs : ∀ (o0 b0 : List (List UInt8)), (∀ s ∈ b0, visB true s = true) → (∀ s ∈ o0, visB true s = true) → ∀ s ∈ headsL b0 o0, visB true s = true := by
    intro o0
    induction o0 with
    | nil => intro b0 h1 _; exact h1
    | cons x o0 ih =>
      intro b0 h1 h2
      show ∀ s ∈ headsL (if x ∈ b0 then b0 else b0 ++ [x]) o0, _
      refine ih _ (fun s hs => ?_) (fun s hs => h2 s (List.mem_cons_of_mem _ hs))
      by_cases hm : x ∈ b0
      · rw [if_pos hm] at hs; exact h1 s hs
      · rw [if_neg hm] at hs
        rcases List.mem_append.1 hs with hs | hs
        · exact h1 s hs
        · rw [List.mem_singleton] at hs; subst hs; exact h2 _ (by simp)
  refine run_strs (fun s => visB true s = true) _ _ (fun r hr => ?_) (fun w hw => ?_)
  · unfold baseT at hr
    rcases List.mem_cons.1 hr with rfl | hr
    · exact hhs _ _ hb0 ho0
    · obtain ⟨q, hq, rfl⟩ := List.mem_map.1 hr
      intro s hs
      unfold padR at hs
      rcases List.mem_append.1 hs with hs | hs
      · exact (h.rb.2 q (List.mem_of_mem_drop hq)).2.2.2 s hs
      · rw [(List.mem_replicate.1 hs).2]; exact vis_nil
  · obtain ⟨r, hr, i, s, h1, h2, h3, h4, h5, rfl⟩ := overW_mem h hw
    exact (h.ro.2 r (List.mem_of_mem_drop hr)).2.2.2 s (List.mem_of_getElem? h3)
theorem over_keys {b o : Tab} (h : OverOk b o) : keysL (overL b o) = keysL b := by
  apply List.ext_getElem?
  intro i
  unfold keysL
  rw [List.getElem?_map, List.getElem?_map, List.getElem?_drop, List.getElem?_drop, Nat.add_comm 1 i]
  have hcol : atT (overL b o) (i + 1) 0 = atT (baseT b (headsL (b.headD []) (o.headD []))) (i + 1) 0 := by
    unfold overL
    refine atT_run_other _ _ _ _ (fun w hw => ?_)
    obtain ⟨r, hr, j, s, h1, h2, h3, h4, h5, rfl⟩ := overW_mem h hw
    rintro ⟨_, hc⟩
    exact col_pos h h1 h2 hc.symm
  cases hb : b[i + 1]? with
  | none =>
    have hl : b.length ≤ i + 1 := List.getElem?_eq_none_iff.1 hb
    rw [List.getElem?_eq_none (by rw [over_len h]; exact hl)]
  | some q =>
    have hq : (b.drop 1)[i]? = some q := by rw [List.getElem?_drop, Nat.add_comm]; exact hb
    have hil := (List.getElem?_eq_some_iff.1 hb).1
    obtain ⟨p, hp⟩ : ∃ p, (overL b o)[i + 1]? = some p := ⟨_, List.getElem?_eq_getElem (by rw [over_len h]; exact hil)⟩
    rw [hp]
    rw [atT_some hp, atT_some (base_row hq)] at hcol
    have hq1 := (h.rb.2 q (List.mem_of_getElem? hb)).1
    simp only [Option.map_some, Option.some.injEq]
    rw [headD_get, headD_get, hcol]
    unfold padR
    rw [List.getElem?_append_left (by omega)]
theorem over_head {b o : Tab} (h : OverOk b o) : (overL b o).headD [] = headsL (b.headD []) (o.headD []) := by
  have := over_row0 h
  cases e : overL b o with
  | nil => rw [e] at this; simp at this
  | cons r R => rw [e] at this; simpa using this
theorem over_ok {b o : Tab} (h : OverOk b o) : OverOk (overL b o) o := by
  have hh := over_head h
  have hl := over_len h
  obtain ⟨x, m, hb, m2, hm⟩ := heads_first h
  refine ⟨⟨by rw [hl]; exact h.rb.1, fun r hr => ?_⟩, h.ro, fun e => ?_, h.no, by rw [hh]; exact headsL_nodup _ _ h.hb, h.ho, by rw [over_keys h]; exact h.kb, h.ko, ?_, fun k hk => by rw [over_keys h]; exact h.keys k hk, ?_⟩
  · have h1 := over_lens h r hr
    have h2 := h.few
    exact ⟨by rw [h1, hm]; simp, by rw [h1]; exact h2, by rw [hh]; exact h1, over_vis h r hr⟩
  · have := h.nb
    rw [e] at hl
    exact this (List.eq_nil_of_length_eq_zero hl.symm)
  · rw [hh, hm, ← h.first, hb]; rfl
  · rw [hh, headsL_id _ _ (headsL_all _ _).2]; exact h.few
/-- Putting the same rows over the outcome changes nothing. -/
theorem over_twice {b o : Tab} (h : OverOk b o) : overL (overL b o) o = overL b o := by
  have hh := over_head h
  have hid : headsL (headsL (b.headD []) (o.headD [])) (o.headD []) = headsL (b.headD []) (o.headD []) := headsL_id _ _ (headsL_all _ _).2
  have hbase : baseT (overL b o) (headsL (b.headD []) (o.headD [])) = overL b o := by
    have h0 := over_row0 h
    have hls := over_lens h
    cases e : overL b o with
    | nil => rw [e] at h0; simp at h0
    | cons r R =>
      rw [e] at h0 hls
      have h0' : r = headsL (b.headD []) (o.headD []) := by simpa using h0
      unfold baseT
      rw [h0', List.drop_one, List.tail_cons]
      congr 1
      have : ∀ q ∈ R, padR (headsL (b.headD []) (o.headD [])).length q = q := fun q hq => pad_self (hls q (List.mem_cons_of_mem _ hq))
      rw [List.map_congr_left this]; simp
  have hw : overW (overL b o) o (headsL (b.headD []) (o.headD [])) = overW b o (headsL (b.headD []) (o.headD [])) := by
    unfold overW rowW
    rw [over_keys h]
  have e1 : overL (overL b o) o = runW (baseT (overL b o) (headsL ((overL b o).headD []) (o.headD []))) (overW (overL b o) o (headsL ((overL b o).headD []) (o.headD []))) := rfl
  rw [e1, hh, hid, hbase, hw]
  have e2 : overL b o = runW (baseT b (headsL (b.headD []) (o.headD []))) (overW b o (headsL (b.headD []) (o.headD []))) := rfl
  rw [e2]
  exact runW_twice _ _ (over_apart h)
end Go.Proofs.YtbipkkebkddegaaGreatDoor
