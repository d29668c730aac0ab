/-
  Plain laws of covered bytes.
-/
import Derived.Test.YtldngebikgendaaDoorValidPlain
import Derived.Test.YtldngebikgendaaDoorWithoutPlain
namespace Go.Proofs.YtldngebikgendaaDoor
open Go Go.Lib

theorem down_ins (l : List UInt8) : ∀ n k, down l n < k → k ≤ n → insB l k = true
  | 0, k, h1, h2 => by simp [down] at h1; omega
  | n + 1, k, h1, h2 => by
    cases h : insB l (n + 1)
    · rw [down_stop h] at h1; omega
    · rw [down_step h] at h1
      rcases Nat.lt_or_ge k (n + 1) with h3 | h3
      · exact down_ins l n k h1 (by omega)
      · obtain rfl : k = n + 1 := by omega
        exact h
theorem down_zero (l : List UInt8) : ∀ n, down l n = 0 ∨ insB l (down l n) = false
  | 0 => .inl rfl
  | n + 1 => by
    cases h : insB l (n + 1)
    · rw [down_stop h]; exact .inr h
    · rw [down_step h]; exact down_zero l n
theorem down_same (l : List UInt8) (m : Nat) : ∀ n, m ≤ n → (∀ k, m < k → k ≤ n → insB l k = true) → down l n = down l m
  | 0, h, _ => by obtain rfl : m = 0 := by omega
                  rfl
  | n + 1, h, hi => by
    rcases Nat.lt_or_ge m (n + 1) with h1 | h1
    · rw [down_step (hi (n + 1) h1 (Nat.le_refl _))]
      exact down_same l m n (by omega) (fun k h2 h3 => hi k h2 (by omega))
    · obtain rfl : m = n + 1 := by omega
      rfl
theorem down_mono (l : List UInt8) {m n : Nat} (h : m ≤ n) : down l m ≤ down l n := by
  rcases Nat.lt_or_ge (down l n) (down l m) with h1 | h1
  · have h2 := down_le l m
    have h3 := down_ins l n (down l m) h1 (by omega)
    rcases down_zero l m with h4 | h4
    · omega
    · rw [h4] at h3; cases h3
  · exact h1
theorem up_ins (l : List UInt8) : ∀ d n k, l.length - n = d → n ≤ k → k < up l n → insB l k = true := by
  intro d
  induction d with
  | zero =>
    intro n k hd h1 h2
    have : insB l n = false := by simp [insB]; omega
    rw [up_stop this] at h2; omega
  | succ d ih =>
    intro n k hd h1 h2
    cases h : insB l n
    · rw [up_stop h] at h2; omega
    · rw [up_step h] at h2
      rcases Nat.lt_or_ge n k with h3 | h3
      · exact ih (n + 1) k (by omega) (by omega) h2
      · obtain rfl : k = n := by omega
        exact h
theorem up_out (l : List UInt8) : ∀ d n, l.length - n = d → insB l (up l n) = false := by
  intro d
  induction d with
  | zero =>
    intro n hd
    have h : insB l n = false := by simp [insB]; omega
    rw [up_stop h]; exact h
  | succ d ih =>
    intro n hd
    cases h : insB l n
    · rw [up_stop h]; exact h
    · rw [up_step h]; exact ih (n + 1) (by omega)

theorem span_points (l : List UInt8) (f t i : Nat) (hft : f < t) : (down l f ≤ i ∧ i < up l t) ↔ ∃ j, f ≤ j ∧ j < t ∧ down l j = down l i := by
  constructor
  · rintro ⟨h1, h2⟩
    rcases Nat.lt_or_ge i f with h3 | h3
    · exact ⟨f, Nat.le_refl _, hft, down_same l i f (by omega) (fun k h4 h5 => down_ins l f k (by omega) h5)⟩
    · rcases Nat.lt_or_ge i t with h4 | h4
      · exact ⟨i, h3, h4, rfl⟩
      · refine ⟨t - 1, by omega, by omega, (down_same l (t - 1) i (by omega) (fun k h5 h6 => up_ins l _ t k rfl (by omega) (by omega))).symm⟩
  · rintro ⟨j, h1, h2, h3⟩
    have h4 := down_mono l h1
    have h5 := down_le l i
    refine ⟨by omega, ?_⟩
    have h6 := le_up l t
    rcases Nat.lt_or_ge i (up l t) with h7 | h7
    · exact h7
    · have h8 := down_le l j
      have h9 := down_ins l i (up l t) (by omega) h7
      rw [up_out l _ t rfl] at h9
      cases h9

/-- A byte is covered just if its code point has one that is in the spans. -/
theorem points_iff (l : List UInt8) (s : List (Int × Int)) (hs : ∀ x ∈ s, -1 < x.1 ∧ x.1 < x.2) (i : Nat) : inS (pointsL l s) i = true ↔ ∃ j, inS s j = true ∧ down l j = down l i := by
  simp only [inS, List.any_eq_true, pointsL, List.mem_map]
  constructor
  · rintro ⟨_, ⟨x, hx, rfl⟩, h⟩
    obtain ⟨h1, h2⟩ := hs x hx
    have h3 : down l x.1.toNat ≤ i ∧ i < up l x.2.toNat := by
      simp only [decide_eq_true_eq] at h; omega
    obtain ⟨j, h4, h5, h6⟩ := (span_points l _ _ i (by omega)).1 h3
    exact ⟨j, ⟨x, hx, by simp only [decide_eq_true_eq]; omega⟩, h6⟩
  · rintro ⟨j, ⟨x, hx, h⟩, h6⟩
    obtain ⟨h1, h2⟩ := hs x hx
    simp only [decide_eq_true_eq] at h
    have h3 := (span_points l x.1.toNat x.2.toNat i (by omega)).2 ⟨j, by omega, by omega, h6⟩
    exact ⟨_, ⟨x, hx, rfl⟩, by simp only [decide_eq_true_eq]; omega⟩

theorem points_sat (l : List UInt8) (s : List (Int × Int)) (hs : ∀ x ∈ s, -1 < x.1 ∧ x.1 < x.2) {i j : Nat} (h : down l i = down l j) : inS (pointsL l s) i = inS (pointsL l s) j := by
  rw [Bool.eq_iff_iff, points_iff l s hs, points_iff l s hs, h]

theorem cover_mask (s : List (Int × Int)) (l : List UInt8) : coverL s l = maskL (inS s) l := rfl

theorem redact_text (l : List UInt8) (s : List (Int × Int)) (hs : ∀ x ∈ s, -1 < x.1 ∧ x.1 < x.2) (h : textB l = true) : textB (redactL l s) = true := by
  unfold textB visB at h ⊢
  simp only [Bool.and_eq_true] at h ⊢
  obtain ⟨⟨h1, h2⟩, h3⟩ := h
  refine ⟨⟨?_, ?_⟩, ?_⟩
  · rw [List.all_eq_true] at h1 ⊢
    intro c hc
    simp only [redactL, coverL, List.mem_iff_getElem?] at hc
    obtain ⟨i, hi⟩ := hc
    simp only [List.getElem?_mapIdx, Option.map_eq_some_iff] at hi
    obtain ⟨b, hb, rfl⟩ := hi
    have hb' := h1 b (List.mem_of_getElem? hb)
    split
    · unfold hideB
      split
      · exact hb'
      · decide
    · exact hb'
  · rw [redactL, cover_mask]
    refine valid_mask _ _ l rfl h2 (fun i hi => points_sat l s hs ?_)
    rw [down_step hi]
  · simp only [Bool.or_eq_true] at h3 ⊢
    rcases h3 with h3 | h3
    · left
      have : l = [] := by simpa using h3
      subst this
      rfl
    · right
      have hl : l ≠ [] := by rintro rfl; revert h3; decide
      rw [List.isSuffixOf_iff_suffix] at h3 ⊢
      obtain ⟨t, ht⟩ := h3
      subst ht
      refine ⟨(redactL (t ++ [10]) s).take t.length, ?_⟩
      have e : (redactL (t ++ [10]) s).drop t.length = [10] := by
        apply List.ext_getElem?
        intro i
        simp only [redactL, coverL, List.getElem?_drop, List.getElem?_mapIdx]
        cases i with
        | zero => simp [hideB]
        | succ i => simp
      have e2 := List.take_append_drop t.length (redactL (t ++ [10]) s)
      rw [e] at e2
      exact e2

theorem redact_length (l : List UInt8) (s : List (Int × Int)) : (redactL l s).length = l.length := by rw [redactL, coverL_length]
theorem redact_get (l : List UInt8) (s : List (Int × Int)) (j : Nat) (h : j < l.length) : (redactL l s).getD j 0 = if inS (pointsL l s) j then hideB (l.getD j 0) else l.getD j 0 := coverL_get _ _ _ h

theorem hide_cont (c : UInt8) : ¬ (hideB c).toNat / 64 = 2 := by
  unfold hideB
  split
  · rename_i h
    rcases h with rfl | rfl <;> decide
  · decide

theorem redact_ins (l : List UInt8) (s : List (Int × Int)) (k : Nat) : insB (redactL l s) k = (insB l k && !inS (pointsL l s) k) := by
  unfold insB
  rw [redact_length]
  by_cases h : k < l.length
  · rw [redact_get l s k h]
    cases hc : inS (pointsL l s) k
    · simp
    · simp [hide_cont]
  · simp [h]

/-- Where nothing is covered, code points are what they were. -/
theorem redact_down (l : List UInt8) (s : List (Int × Int)) (hs : ∀ x ∈ s, -1 < x.1 ∧ x.1 < x.2) (j : Nat) (h : inS (pointsL l s) j = false) : down (redactL l s) j = down l j := by
  have h1 : ∀ k, down l j < k → k ≤ j → insB (redactL l s) k = true := by
    intro k h2 h3
    have h4 := down_ins l j k h2 h3
    have h5 : down l k = down l j := by
      have := down_same l k j h3 (fun m h6 h7 => down_ins l j m (by omega) h7)
      exact this.symm
    rw [redact_ins, h4, points_sat l s hs h5, h]
    rfl
  rw [down_same (redactL l s) (down l j) j (down_le l j) h1]
  rcases down_zero l j with h2 | h2
  · rw [h2]; rfl
  · exact down_stop (by rw [redact_ins, h2]; rfl)

theorem redact_points (l : List UInt8) (a b : List (Int × Int)) (ha : ∀ x ∈ a, -1 < x.1 ∧ x.1 < x.2) (hb : ∀ x ∈ b, -1 < x.1 ∧ x.1 < x.2) (i : Nat) (h : inS (pointsL l a) i = false) :
    inS (pointsL (redactL l a) b) i = inS (pointsL l b) i := by
  rw [Bool.eq_iff_iff, points_iff _ _ hb, points_iff _ _ hb]
  constructor
  · rintro ⟨j, h1, h2⟩
    rw [redact_down l a ha i h] at h2
    refine ⟨j, h1, ?_⟩
    cases hj : inS (pointsL l a) j
    · rw [redact_down l a ha j hj] at h2; exact h2
    · have h3 : down (redactL l a) j = j := down_stop (by rw [redact_ins, hj]; simp)
      rw [h3] at h2
      have h4 : down l j = down l i := by
        rw [h2]
        rcases down_zero l i with h5 | h5
        · rw [h5]; rfl
        · exact down_stop h5
      exact h4
  · rintro ⟨j, h1, h2⟩
    refine ⟨j, h1, ?_⟩
    have hj : inS (pointsL l a) j = false := by rw [points_sat l a ha h2]; exact h
    rw [redact_down l a ha j hj, redact_down l a ha i h, h2]

/-- Covering twice is covering both at once. -/
theorem redact_twice (l : List UInt8) (a b u : List (Int × Int)) (ha : ∀ x ∈ a, -1 < x.1 ∧ x.1 < x.2) (hb : ∀ x ∈ b, -1 < x.1 ∧ x.1 < x.2) (hu : ∀ x ∈ u, -1 < x.1 ∧ x.1 < x.2) (hab : ∀ i, inS u i = (inS a i || inS b i)) :
    redactL (redactL l a) b = redactL l u := by
  have hpu : ∀ i, inS (pointsL l u) i = (inS (pointsL l a) i || inS (pointsL l b) i) := by
    intro i
    rw [Bool.eq_iff_iff, Bool.or_eq_true, points_iff _ _ hu, points_iff _ _ ha, points_iff _ _ hb]
    constructor
    · rintro ⟨j, h1, h2⟩
      rw [hab, Bool.or_eq_true] at h1
      rcases h1 with h1 | h1
      · exact .inl ⟨j, h1, h2⟩
      · exact .inr ⟨j, h1, h2⟩
    · rintro (⟨j, h1, h2⟩ | ⟨j, h1, h2⟩)
      · exact ⟨j, by rw [hab, h1]; rfl, h2⟩
      · exact ⟨j, by rw [hab, h1, Bool.or_true], h2⟩
  apply ext_getD (by simp [redact_length])
  intro i hi
  have hi' : i < l.length := by simpa [redact_length] using hi
  rw [redact_get _ b i (by rw [redact_length]; exact hi'), redact_get l a i hi', redact_get l u i hi', hpu]
  cases hc : inS (pointsL l a) i
  · rw [redact_points l a b ha hb i hc]
    simp
  · simp only [Bool.true_or, if_true]
    split
    · exact hideB_hideB _
    · rfl

/-- What is in the spans is a sign, a blank or a line feed; a byte below 128 that is not in them is as it was. -/
theorem redact_seen (l : List UInt8) (u : List (Int × Int)) (hu : ∀ x ∈ u, -1 < x.1 ∧ x.1 < x.2) (hv : validD l = true) (i : Nat) (hi : i < l.length) :
    (inS u i = true → (redactL l u).getD i 0 = 35 ∨ (redactL l u).getD i 0 = 32 ∨ (redactL l u).getD i 0 = 10) ∧ (inS u i = false → (l.getD i 0).toNat < 128 → (redactL l u).getD i 0 = l.getD i 0) := by
  constructor
  · intro h
    have h1 : inS (pointsL l u) i = true := (points_iff l u hu i).2 ⟨i, h, rfl⟩
    rw [redact_get l u i hi, h1, if_pos rfl]
    unfold hideB
    split
    · rename_i h2
      exact .inr h2
    · exact .inl rfl
  · intro h h2
    have h1 : inS (pointsL l u) i = false := by
      rw [← Bool.not_eq_true, points_iff l u hu i]
      rintro ⟨j, h3, h4⟩
      obtain ⟨_, hge⟩ := valid_ge _ l rfl hv
      rcases Nat.lt_trichotomy i j with h5 | h5 | h5
      · have h6 := down_le l i
        have h7 := down_ins l j (i + 1) (by omega) (by omega)
        have := hge i h7
        omega
      · subst h5; rw [h] at h3; cases h3
      · have h6 := down_le l j
        have h7 := down_ins l i i (by omega) (Nat.le_refl _)
        simp only [insB, Bool.and_eq_true, decide_eq_true_eq] at h7
        omega
    rw [redact_get l u i hi, h1]
    rfl

end Go.Proofs.YtldngebikgendaaDoor
