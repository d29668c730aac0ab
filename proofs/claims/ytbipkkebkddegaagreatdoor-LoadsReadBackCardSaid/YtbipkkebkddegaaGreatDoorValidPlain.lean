
/-
  Plain laws of UTF-8: with whole code points as signs a string stays valid.
-/
import Derived.Test.YtbipkkebkddegaaGreatDoorUnionPlain
import Derived.Lib.TrimUEq
import Derived.Lib.TrimAscii
import Derived.Lib.MapLaws
namespace Go.Proofs.YtbipkkebkddegaaGreatDoor
open Go Go.Lib

theorem valid_fuel : ∀ (f g : Nat) (l : List UInt8), l.length ≤ f → l.length ≤ g → validGoD f l = validGoD g l
  | 0, g, l, hf, _ => by
    have : l = [] := List.eq_nil_of_length_eq_zero (by omega)
    subst this
    cases g <;> simp [validGoD]
  | f + 1, 0, l, _, hg => by
    have : l = [] := List.eq_nil_of_length_eq_zero (by omega)
    subst this
    simp [validGoD]
  | f + 1, g + 1, l, hf, hg => by
    unfold validGoD
    by_cases hl : l = []
    · rw [if_pos hl, if_pos hl]
    · rw [if_neg hl, if_neg hl]
      by_cases hb : (decodeL l).1 = 65533 ∧ (decodeL l).2 = 1
      · rw [if_pos hb, if_pos hb]
      · rw [if_neg hb, if_neg hb]
        have hw := decodeL_width l
        have hp : 0 < l.length := List.length_pos_iff.2 hl
        exact valid_fuel f g _ (by simp; omega) (by simp; omega)

theorem valid_succ (n : Nat) (l : List UInt8) : validGoD (n + 1) l = if l = [] then true else if (decodeL l).1 = 65533 ∧ (decodeL l).2 = 1 then false else validGoD n (l.drop (decodeL l).2) := rfl
theorem validD_step (l : List UInt8) (hl : l ≠ []) : validD l = if (decodeL l).1 = 65533 ∧ (decodeL l).2 = 1 then false else validD (l.drop (decodeL l).2) := by
  have hp : 0 < l.length := List.length_pos_iff.2 hl
  have hw := decodeL_width l
  unfold validD
  obtain ⟨n, hn⟩ : ∃ n, l.length = n + 1 := ⟨l.length - 1, by omega⟩
  rw [hn, valid_succ, if_neg hl]
  split
  · rfl
  · refine valid_fuel n _ (l.drop (decodeL l).2) ?_ (Nat.le_refl _)
    rw [List.length_drop]; omega

theorem decodeN_ok (n b0 b1 b2 b3 : Nat) (h : ¬ ((decodeN n b0 b1 b2 b3).1 = 65533 ∧ (decodeN n b0 b1 b2 b3).2 = 1)) :
    ((decodeN n b0 b1 b2 b3).2 = 1 ∧ b0 < 128) ∨ ((decodeN n b0 b1 b2 b3).2 = 2 ∧ b0 / 32 = 6 ∧ 1 < n ∧ b1 / 64 = 2) ∨
    ((decodeN n b0 b1 b2 b3).2 = 3 ∧ b0 / 16 = 14 ∧ 2 < n ∧ b1 / 64 = 2 ∧ b2 / 64 = 2) ∨ ((decodeN n b0 b1 b2 b3).2 = 4 ∧ b0 / 8 = 30 ∧ 3 < n ∧ b1 / 64 = 2 ∧ b2 / 64 = 2 ∧ b3 / 64 = 2) := by
  unfold decodeN at h ⊢
  by_cases c0 : b0 < 128
  · simp [c0]
  · rw [if_neg c0] at h ⊢
    by_cases c1 : b0 / 32 = 6 ∧ (1 < n ∧ b1 / 64 = 2)
    · rw [if_pos c1] at h ⊢
      by_cases d : b0 % 32 * 64 + b1 % 64 ≥ 128
      · rw [if_pos d]; exact .inr (.inl ⟨rfl, c1.1, c1.2.1, c1.2.2⟩)
      · rw [if_neg d] at h; exact absurd ⟨rfl, rfl⟩ h
    · rw [if_neg c1] at h ⊢
      by_cases c2 : b0 / 16 = 14 ∧ (1 < n ∧ b1 / 64 = 2) ∧ (2 < n ∧ b2 / 64 = 2)
      · rw [if_pos c2] at h ⊢
        split
        · exact .inr (.inr (.inl ⟨rfl, c2.1, c2.2.2.1, c2.2.1.2, c2.2.2.2⟩))
        · rename_i d
          rw [if_neg d] at h; exact absurd ⟨rfl, rfl⟩ h
      · rw [if_neg c2] at h ⊢
        by_cases c3 : b0 / 8 = 30 ∧ (1 < n ∧ b1 / 64 = 2) ∧ (2 < n ∧ b2 / 64 = 2) ∧ (3 < n ∧ b3 / 64 = 2)
        · rw [if_pos c3] at h ⊢
          split
          · exact .inr (.inr (.inr ⟨rfl, c3.1, c3.2.2.2.1, c3.2.1.2, c3.2.2.1.2, c3.2.2.2.2⟩))
          · rename_i d
            rw [if_neg d] at h; exact absurd ⟨rfl, rfl⟩ h
        · rw [if_neg c3] at h; exact absurd ⟨rfl, rfl⟩ h

theorem decodeN_one (n b0 b1 b2 b3 c1 c2 c3 : Nat) (h : b0 < 128) : decodeN n b0 c1 c2 c3 = decodeN n b0 b1 b2 b3 := by
  unfold decodeN
  rw [if_pos h, if_pos h]
theorem decodeN_two (n b0 b1 b2 b3 c2 c3 : Nat) (h1 : b0 / 32 = 6) (h2 : 1 < n) (h3 : b1 / 64 = 2) : decodeN n b0 b1 c2 c3 = decodeN n b0 b1 b2 b3 := by
  unfold decodeN
  have e1 : ¬ b0 < 128 := by omega
  have e2 : b0 / 32 = 6 ∧ (1 < n ∧ b1 / 64 = 2) := ⟨h1, h2, h3⟩
  rw [if_neg e1, if_neg e1, if_pos e2, if_pos e2]
theorem decodeN_three (n b0 b1 b2 b3 c3 : Nat) (h1 : b0 / 16 = 14) (h2 : 2 < n) (h3 : b1 / 64 = 2) (h4 : b2 / 64 = 2) : decodeN n b0 b1 b2 c3 = decodeN n b0 b1 b2 b3 := by
  unfold decodeN
  have e1 : ¬ b0 < 128 := by omega
  have e2 : ¬ (b0 / 32 = 6 ∧ (1 < n ∧ b1 / 64 = 2)) := by omega
  have e3 : b0 / 16 = 14 ∧ (1 < n ∧ b1 / 64 = 2) ∧ (2 < n ∧ b2 / 64 = 2) := ⟨h1, ⟨by omega, h3⟩, h2, h4⟩
  rw [if_neg e1, if_neg e1, if_neg e2, if_neg e2, if_pos e3, if_pos e3]

theorem cont_ge {c : UInt8} (h : c.toNat / 64 = 2) : 128 ≤ c.toNat := by omega
theorem hide_ge (c : UInt8) (h : 128 ≤ c.toNat) : hideB c = 35 := by
  unfold hideB
  rw [if_neg]
  rintro (rfl | rfl)
  · simp at h
  · simp at h
theorem hide_low (c : UInt8) (h : c.toNat < 128) : (hideB c).toNat < 128 := by
  unfold hideB
  split
  · exact h
  · decide

/-- Bytes with some of them as signs. -/
def maskL (c : Nat → Bool) (l : List UInt8) : List UInt8 := l.mapIdx fun i b => if c i then hideB b else b
theorem maskL_length (c : Nat → Bool) (l : List UInt8) : (maskL c l).length = l.length := by simp [maskL]
theorem maskL_get (c : Nat → Bool) (l : List UInt8) (j : Nat) : (maskL c l).getD j 0 = if j < l.length then (if c j then hideB (l.getD j 0) else l.getD j 0) else 0 := by
  rw [List.getD_eq_getElem?_getD]
  by_cases h : j < l.length
  · simp [maskL, h]
  · simp [maskL, h]
theorem maskL_drop (c : Nat → Bool) (l : List UInt8) (k : Nat) : (maskL c l).drop k = maskL (fun i => c (i + k)) (l.drop k) := by
  apply List.ext_getElem?
  intro i
  simp [maskL, Nat.add_comm]
theorem insB_drop (l : List UInt8) (k i : Nat) : insB (l.drop k) i = insB l (i + k) := by
  unfold insB
  have e : (l.drop k).getD i 0 = l.getD (i + k) 0 := by simp [Nat.add_comm]
  rw [e]
  congr 1
  apply decide_eq_decide.2
  simp; omega

theorem drop_signs : ∀ (k : Nat) (t : List UInt8), validD (List.replicate k 35 ++ t) = validD t
  | 0, t => rfl
  | k + 1, t => by
    rw [List.replicate_succ, List.cons_append, validD_step _ (by simp), decodeL_ascii 35 _ (by decide)]
    rw [if_neg (by decide)]
    exact drop_signs k t

theorem take_signs (c : Nat → Bool) (l : List UInt8) (k : Nat) (hk : k ≤ l.length) (h : ∀ i, i < k → c i = true ∧ 128 ≤ (l.getD i 0).toNat) : (maskL c l).take k = List.replicate k 35 := by
  apply List.ext_getElem?
  intro i
  by_cases hi : i < k
  · obtain ⟨h1, h2⟩ := h i hi
    have hil : i < l.length := by omega
    have h3 : hideB l[i] = 35 := hide_ge _ (by simpa [hil] using h2)
    simp [maskL, hi, hil, h1, h3]
  · simp [List.getElem?_take, hi]

theorem valid_mask : ∀ (n : Nat) (c : Nat → Bool) (l : List UInt8), l.length = n → validD l = true → (∀ i, insB l (i + 1) = true → c (i + 1) = c i) → validD (maskL c l) = true := by
  intro n
  induction n using Nat.strongRecOn with
  | _ n ih =>
    intro c l hn hv hc
    by_cases hl : l = []
    · subst hl; rfl
    have hp : 0 < l.length := List.length_pos_iff.2 hl
    have hw := decodeL_width l
    have hle := decodeL_le l hl
    rw [validD_step l hl] at hv
    have hgood : ¬ ((decodeL l).1 = 65533 ∧ (decodeL l).2 = 1) := by
      intro hb; rw [if_pos hb] at hv; cases hv
    rw [if_neg hgood] at hv
    have hrest : validD ((maskL c l).drop (decodeL l).2) = true := by
      rw [maskL_drop]
      refine ih (l.length - (decodeL l).2) (by omega) _ _ (by simp) hv (fun i hi => ?_)
      rw [insB_drop] at hi
      have := hc (i + (decodeL l).2) (by rw [show i + (decodeL l).2 + 1 = i + 1 + (decodeL l).2 by omega]; exact hi)
      rw [show i + 1 + (decodeL l).2 = i + (decodeL l).2 + 1 by omega]
      exact this
    rw [decodeL_N] at hgood
    have hcases := decodeN_ok _ _ _ _ _ hgood
    rw [← decodeL_N] at hcases
    have hins : ∀ j, j < l.length → (l.getD j 0).toNat / 64 = 2 → insB l j = true := fun j h1 h2 => by simp only [insB, h1, h2]; rfl
    have hml := maskL_length c l
    have hmne : maskL c l ≠ [] := by intro e; rw [e] at hml; simp at hml; omega
    cases h0 : c 0
    · -- its code point is left as it is
      have hsame : decodeL (maskL c l) = decodeL l := by
        have g : ∀ j, j < l.length → c j = false → (maskL c l).getD j 0 = l.getD j 0 := fun j h1 h2 => by rw [maskL_get, if_pos h1, h2]; rfl
        rcases hcases with ⟨hk, hb⟩ | ⟨hk, hb0, hn1, hb1⟩ | ⟨hk, hb0, hn1, hb1, hb2⟩ | ⟨hk, hb0, hn1, hb1, hb2, hb3⟩
        · rw [decodeL_N, decodeL_N, hml, g 0 hp h0]
          exact decodeN_one _ _ _ _ _ _ _ _ hb
        · have c1 : c 1 = false := by rw [hc 0 (hins 1 hn1 hb1)]; exact h0
          rw [decodeL_N, decodeL_N, hml, g 0 hp h0, g 1 hn1 c1]
          exact decodeN_two _ _ _ _ _ _ _ hb0 hn1 hb1
        · have c1 : c 1 = false := by rw [hc 0 (hins 1 (by omega) hb1)]; exact h0
          have c2 : c 2 = false := by rw [hc 1 (hins 2 hn1 hb2)]; exact c1
          rw [decodeL_N, decodeL_N, hml, g 0 hp h0, g 1 (by omega) c1, g 2 hn1 c2]
          exact decodeN_three _ _ _ _ _ _ hb0 hn1 hb1 hb2
        · have c1 : c 1 = false := by rw [hc 0 (hins 1 (by omega) hb1)]; exact h0
          have c2 : c 2 = false := by rw [hc 1 (hins 2 (by omega) hb2)]; exact c1
          have c3 : c 3 = false := by rw [hc 2 (hins 3 hn1 hb3)]; exact c2
          rw [decodeL_N, decodeL_N, hml, g 0 hp h0, g 1 (by omega) c1, g 2 (by omega) c2, g 3 hn1 c3]
      rw [validD_step _ hmne, hsame]
      rw [decodeL_N l] at *
      rw [if_neg hgood]
      exact hrest
    · rcases hcases with ⟨hk, hb⟩ | h2
      · -- a single byte
        have hm0 : ∃ t, maskL c l = hideB (l.getD 0 0) :: t := by
          cases l with
          | nil => exact absurd rfl hl
          | cons b r => exact ⟨_, by simp only [maskL, List.mapIdx_cons, h0]; rfl⟩
        obtain ⟨t, ht⟩ := hm0
        have hlow := hide_low _ hb
        rw [hk, ht] at hrest
        rw [ht, validD_step _ (by simp), decodeL_ascii _ _ hlow, if_neg (by omega)]
        exact hrest
      · -- several bytes, all of them signs
        have hall : ∀ i, i < (decodeL l).2 → c i = true ∧ 128 ≤ (l.getD i 0).toNat := by
          rcases h2 with ⟨hk, hb0, hn1, hb1⟩ | ⟨hk, hb0, hn1, hb1, hb2⟩ | ⟨hk, hb0, hn1, hb1, hb2, hb3⟩
          · have c1 : c 1 = true := by rw [hc 0 (hins 1 hn1 hb1)]; exact h0
            intro i hi
            rw [hk] at hi
            match i, hi with
            | 0, _ => exact ⟨h0, by omega⟩
            | 1, _ => exact ⟨c1, cont_ge hb1⟩
          · have c1 : c 1 = true := by rw [hc 0 (hins 1 (by omega) hb1)]; exact h0
            have c2 : c 2 = true := by rw [hc 1 (hins 2 hn1 hb2)]; exact c1
            intro i hi
            rw [hk] at hi
            match i, hi with
            | 0, _ => exact ⟨h0, by omega⟩
            | 1, _ => exact ⟨c1, cont_ge hb1⟩
            | 2, _ => exact ⟨c2, cont_ge hb2⟩
          · have c1 : c 1 = true := by rw [hc 0 (hins 1 (by omega) hb1)]; exact h0
            have c2 : c 2 = true := by rw [hc 1 (hins 2 (by omega) hb2)]; exact c1
            have c3 : c 3 = true := by rw [hc 2 (hins 3 hn1 hb3)]; exact c2
            intro i hi
            rw [hk] at hi
            match i, hi with
            | 0, _ => exact ⟨h0, by omega⟩
            | 1, _ => exact ⟨c1, cont_ge hb1⟩
            | 2, _ => exact ⟨c2, cont_ge hb2⟩
            | 3, _ => exact ⟨c3, cont_ge hb3⟩
        rw [← List.take_append_drop (decodeL l).2 (maskL c l), take_signs c l _ hle hall, drop_signs]
        exact hrest

/-- Before a place inside of a code point there is a byte from 128 on. -/
theorem valid_ge : ∀ (n : Nat) (l : List UInt8), l.length = n → validD l = true → insB l 0 = false ∧ ∀ i, insB l (i + 1) = true → 128 ≤ (l.getD i 0).toNat := by
  intro n
  induction n using Nat.strongRecOn with
  | _ n ih =>
    intro l hn hv
    by_cases hl : l = []
    · subst hl; exact ⟨rfl, fun i h => by simp [insB] at h⟩
    have hp : 0 < l.length := List.length_pos_iff.2 hl
    have hw := decodeL_width l
    rw [validD_step l hl] at hv
    have hgood : ¬ ((decodeL l).1 = 65533 ∧ (decodeL l).2 = 1) := by
      intro hb; rw [if_pos hb] at hv; cases hv
    rw [if_neg hgood] at hv
    obtain ⟨r1, r2⟩ := ih (l.length - (decodeL l).2) (by omega) (l.drop (decodeL l).2) (by simp) hv
    rw [decodeL_N] at hgood
    have hcases := decodeN_ok _ _ _ _ _ hgood
    rw [← decodeL_N] at hcases
    rw [insB_drop, Nat.zero_add] at r1
    have far : ∀ i, (decodeL l).2 ≤ i → insB l (i + 1) = true → 128 ≤ (l.getD i 0).toNat := by
      intro i hi h
      have := r2 (i - (decodeL l).2) (by rw [insB_drop, show i - (decodeL l).2 + 1 + (decodeL l).2 = i + 1 by omega]; exact h)
      have e : (l.drop (decodeL l).2).getD (i - (decodeL l).2) 0 = l.getD i 0 := by
        simp only [List.getD_eq_getElem?_getD, List.getElem?_drop]
        rw [show (decodeL l).2 + (i - (decodeL l).2) = i by omega]
      rwa [e] at this
    have first : ∀ b : Nat, (b < 128 ∨ 192 ≤ b) → (l.getD 0 0).toNat = b → insB l 0 = false := by
      intro b hb e
      unfold insB
      rw [e]
      simp; omega
    rcases hcases with ⟨hk, hb⟩ | ⟨hk, hb0, hn1, hb1⟩ | ⟨hk, hb0, hn1, hb1, hb2⟩ | ⟨hk, hb0, hn1, hb1, hb2, hb3⟩
    · refine ⟨first _ (.inl hb) rfl, fun i h => ?_⟩
      match i, h with
      | 0, h => rw [hk] at r1; rw [r1] at h; cases h
      | i + 1, h => exact far (i + 1) (by omega) h
    · refine ⟨first _ (.inr (by omega)) rfl, fun i h => ?_⟩
      match i, h with
      | 0, h => omega
      | 1, h => exact cont_ge hb1
      | i + 2, h => exact far (i + 2) (by omega) h
    · refine ⟨first _ (.inr (by omega)) rfl, fun i h => ?_⟩
      match i, h with
      | 0, h => omega
      | 1, h => exact cont_ge hb1
      | 2, h => exact cont_ge hb2
      | i + 3, h => exact far (i + 3) (by omega) h
    · refine ⟨first _ (.inr (by omega)) rfl, fun i h => ?_⟩
      match i, h with
      | 0, h => omega
      | 1, h => exact cont_ge hb1
      | 2, h => exact cont_ge hb2
      | 3, h => exact cont_ge hb3
      | i + 4, h => exact far (i + 4) (by omega) h

end Go.Proofs.YtbipkkebkddegaaGreatDoor
