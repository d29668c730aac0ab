
/-
  How a line is cut into pieces for pages, in plain Lean.
-/
import Derived.Test.YtbipkkebkddegaaGreatDoorTokPlain
import Derived.Test.YtbipkkebkddegaaGreatDoorValidPlain
import Derived.Lib.TrimByte
namespace Go.Proofs.YtbipkkebkddegaaGreatDoor
open Go

def contB (c : UInt8) : Bool := decide (c.toNat / 64 = 2)
/-- No four bytes in a row that go on a code point. -/
def NoRun (s : List UInt8) : Prop := ∀ i, ¬ (contB (s.getD i 0) = true ∧ contB (s.getD (i + 1) 0) = true ∧ contB (s.getD (i + 2) 0) = true ∧ contB (s.getD (i + 3) 0) = true)
theorem cont0 : contB 0 = false := by decide
theorem getD_drop (s : List UInt8) (k i : Nat) : (s.drop k).getD i 0 = s.getD (k + i) 0 := by
  rw [List.getD_eq_getElem?_getD, List.getD_eq_getElem?_getD, List.getElem?_drop]
theorem NoRun.drop {s : List UInt8} (h : NoRun s) (k : Nat) : NoRun (s.drop k) := by
  intro i hi
  rw [getD_drop, getD_drop, getD_drop, getD_drop] at hi
  exact h (k + i) hi
theorem NoRun.take {s : List UInt8} (h : NoRun s) (k : Nat) : NoRun (s.take k) := by
  intro i hi
  have key : ∀ j, contB ((s.take k).getD j 0) = true → contB (s.getD j 0) = true := by
    intro j hj
    rw [List.getD_eq_getElem?_getD, List.getElem?_take] at hj
    split at hj
    · rw [List.getD_eq_getElem?_getD]; exact hj
    · simp [cont0] at hj
  exact h i ⟨key _ hi.1, key _ hi.2.1, key _ hi.2.2.1, key _ hi.2.2.2⟩
/-- The last blank before place k, or 0. -/
def lastSp (s : List UInt8) : Nat → Nat
  | 0 => 0
  | k + 1 => if s.getD k 0 = 32 then k else lastSp s k
theorem lastSp_le (s : List UInt8) : ∀ k, lastSp s (k + 1) ≤ k
  | 0 => by unfold lastSp; split <;> simp [lastSp]
  | k + 1 => by
    have := lastSp_le s k
    unfold lastSp
    split
    · exact Nat.le_refl _
    · omega
theorem lastSp_is (s : List UInt8) : ∀ k, 0 < lastSp s k → s.getD (lastSp s k) 0 = 32
  | 0, h => by simp [lastSp] at h
  | k + 1, h => by
    unfold lastSp at h ⊢
    split
    · assumption
    · rename_i hne
      rw [if_neg hne] at h
      exact lastSp_is s k h
/-- The last place up to k at which a code point begins. -/
def backK (s : List UInt8) : Nat → Nat
  | 0 => 0
  | k + 1 => if contB (s.getD (k + 1) 0) = true then backK s k else k + 1
theorem backK_le (s : List UInt8) : ∀ k, backK s k ≤ k
  | 0 => Nat.le_refl _
  | k + 1 => by
    have := backK_le s k
    unfold backK
    split <;> omega
theorem backK_go {s : List UInt8} {k : Nat} (h : contB (s.getD (k + 1) 0) = true) : backK s (k + 1) = backK s k := by
  rw [backK, if_pos h]
theorem backK_stop {s : List UInt8} {k : Nat} (h : contB (s.getD k 0) = false) : backK s k = k := by
  cases k with
  | zero => rfl
  | succ k => rw [backK, if_neg (by rw [h]; simp)]
theorem backK_ge {s : List UInt8} (h : NoRun s) (k : Nat) : k ≤ backK s (k + 3) := by
  have h0 := h k
  cases h3 : contB (s.getD (k + 3) 0) with
  | false => rw [backK_stop h3]; omega
  | true =>
    rw [backK_go h3]
    cases h2 : contB (s.getD (k + 2) 0) with
    | false => rw [backK_stop h2]; omega
    | true =>
      rw [backK_go h2]
      cases h1 : contB (s.getD (k + 1) 0) with
      | false => rw [backK_stop h1]; omega
      | true =>
        rw [backK_go h1]
        cases hk : contB (s.getD k 0) with
        | false => rw [backK_stop hk]; exact Nat.le_refl _
        | true => exact absurd ⟨hk, h1, h2, h3⟩ h0
def cutAt (s : List UInt8) : Bool := decide (0 < lastSp s 81) && !(Lib.trimB (s.take (lastSp s 81)) 32).isEmpty
def cutA (s : List UInt8) : Nat := if cutAt s then lastSp s 81 else backK s 80
def cutB (s : List UInt8) : Nat := if cutAt s then lastSp s 81 + 1 else backK s 80
def wrapL (s : List UInt8) : List (List UInt8) := if _h : s.length ≤ 80 then [s] else s.take (cutA s) :: wrapL (s.drop (max 1 (cutB s)))
termination_by s.length
decreasing_by simp only [List.length_drop]; omega
theorem wrapL_short {s : List UInt8} (h : s.length ≤ 80) : wrapL s = [s] := by rw [wrapL, dif_pos h]
theorem cutB_pos {s : List UInt8} (hr : NoRun s) : 1 ≤ cutB s := by
  have h77 : 77 ≤ backK s 80 := backK_ge hr 77
  unfold cutB
  split <;> omega
theorem wrapL_long {s : List UInt8} (h : 80 < s.length) (hr : NoRun s) : wrapL s = s.take (cutA s) :: wrapL (s.drop (cutB s)) := by
  have := cutB_pos hr
  rw [wrapL, dif_neg (by omega), show max 1 (cutB s) = cutB s by omega]
theorem cutA_le (s : List UInt8) : cutA s ≤ 80 := by
  have h1 : lastSp s 81 ≤ 80 := lastSp_le s 80
  have h2 := backK_le s 80
  unfold cutA
  split <;> omega
theorem wrapL_le (s : List UInt8) : ∀ x ∈ wrapL s, x.length ≤ 80 := by
  induction hn : s.length using Nat.strongRecOn generalizing s with
  | _ n ih =>
    intro x hx
    rw [wrapL] at hx
    split at hx
    · simp at hx; subst hx; assumption
    · rename_i hl
      rcases List.mem_cons.1 hx with rfl | hx
      · have := cutA_le s
        rw [List.length_take]; omega
      · exact ih _ (by rw [← hn, List.length_drop]; omega) _ rfl x hx
def inkB (b : UInt8) : Bool := b != 32 && b != 10
def inkL (s : List UInt8) : List UInt8 := s.filter inkB
theorem inkL_append (s t : List UInt8) : inkL (s ++ t) = inkL s ++ inkL t := by simp [inkL]
theorem cut_ink (s : List UInt8) : inkL (s.take (cutA s)) ++ inkL (s.drop (cutB s)) = inkL s := by
  unfold cutA cutB
  cases hc : cutAt s with
  | false => simp only [if_false, Bool.false_eq_true]; rw [← inkL_append, List.take_append_drop]
  | true =>
    simp only [if_true]
    have h0 : 0 < lastSp s 81 := by
      simp only [cutAt, Bool.and_eq_true, decide_eq_true_eq] at hc
      exact hc.1
    have h1 := lastSp_is s 81 h0
    generalize lastSp s 81 = k at *
    have hk : k < s.length := by
      rcases Nat.lt_or_ge k s.length with h | h
      · exact h
      · rw [List.getD_eq_getElem?_getD, List.getElem?_eq_none h] at h1; simp at h1
    conv => rhs; rw [← List.take_append_drop k s, List.drop_eq_getElem_cons hk]
    rw [inkL_append]
    congr 1
    rw [List.getD_eq_getElem?_getD, List.getElem?_eq_getElem hk] at h1
    simp only [Option.getD_some] at h1
    simp [inkL, h1, inkB]
theorem wrapL_ink (s : List UInt8) (hr : NoRun s) : inkL (wrapL s).flatten = inkL s := by
  induction hn : s.length using Nat.strongRecOn generalizing s with
  | _ n ih =>
    rcases Nat.lt_or_ge 80 s.length with h | h
    · rw [wrapL_long h hr, List.flatten_cons, inkL_append, ih _ (by
        have := cutB_pos hr
        rw [← hn, List.length_drop]; omega) _ (hr.drop _) rfl]
      exact cut_ink s
    · rw [wrapL_short h]; simp
theorem wrapL_count (s : List UInt8) (hr : NoRun s) : (wrapL s).length ≤ s.length + 1 ∧ (wrapL s).flatten.length ≤ s.length := by
  induction hn : s.length using Nat.strongRecOn generalizing s with
  | _ n ih =>
    rcases Nat.lt_or_ge 80 s.length with h | h
    · have h1 := cutB_pos hr
      have := ih _ (by rw [← hn, List.length_drop]; omega) _ (hr.drop (cutB s)) rfl
      have hab : cutA s ≤ cutB s := by unfold cutA cutB; split <;> omega
      have hbl : cutB s ≤ 81 := by
        have h1 : lastSp s 81 ≤ 80 := lastSp_le s 80
        have h2 := backK_le s 80
        unfold cutB
        split <;> omega
      rw [wrapL_long h hr, List.flatten_cons, List.length_cons, List.length_append, List.length_take]
      rw [List.length_drop] at this
      omega
    · rw [wrapL_short h]; simp; omega
def linesL (t : List UInt8) : List (List UInt8) := if t = [] then [] else splitC 10 (if [10].isSuffixOf t then t.dropLast else t)
def pieceL (t : List UInt8) : List (List UInt8) := (linesL t).flatMap wrapL
theorem splitC_infix (c : UInt8) : ∀ (s x : List UInt8), x ∈ splitC c s → ∃ k m, x = (s.drop k).take m
  | [], x, h => by simp [splitC] at h; subst h; exact ⟨0, 0, rfl⟩
  | b :: s, x, h => by
    obtain ⟨t, ts, ht⟩ := splitC_ne c s
    by_cases hb : b = c
    · rw [hb, splitC_eq] at h
      rcases List.mem_cons.1 h with rfl | h
      · exact ⟨0, 0, rfl⟩
      · obtain ⟨k, m, e⟩ := splitC_infix c s x h
        exact ⟨k + 1, m, by rw [e, hb]; rfl⟩
    · rw [splitC_cons hb ht] at h
      rcases List.mem_cons.1 h with rfl | h
      · have hp : ∀ (s t : List UInt8) (ts : List (List UInt8)), splitC c s = t :: ts → ∃ m, t = s.take m := by
          intro s
          induction s with
          | nil => intro t ts h; simp [splitC] at h; exact ⟨0, by rw [h.1]; rfl⟩
          | cons d s ih =>
            intro t ts h
            obtain ⟨t', ts', ht'⟩ := splitC_ne c s
            by_cases hd : d = c
            · rw [hd, splitC_eq] at h
              injection h with h1 h2
              exact ⟨0, by rw [← h1]; rfl⟩
            · rw [splitC_cons hd ht'] at h
              injection h with h1 h2
              obtain ⟨m, hm⟩ := ih t' ts' ht'
              exact ⟨m + 1, by rw [← h1, hm]; rfl⟩
        obtain ⟨m, hm⟩ := hp s t ts ht
        exact ⟨0, m + 1, by rw [hm]; rfl⟩
      · obtain ⟨k, m, e⟩ := splitC_infix c s x (by rw [ht]; exact List.mem_cons_of_mem _ h)
        exact ⟨k + 1, m, by rw [e]; rfl⟩
theorem splitC_ink : ∀ s : List UInt8, inkL (splitC 10 s).flatten = inkL s
  | [] => rfl
  | b :: s => by
    have ih := splitC_ink s
    obtain ⟨t, ts, ht⟩ := splitC_ne 10 s
    by_cases hb : b = 10
    · subst hb
      rw [splitC_eq, List.flatten_cons, List.nil_append, ih]
      rfl
    · rw [splitC_cons hb ht, List.flatten_cons, List.cons_append]
      rw [ht, List.flatten_cons] at ih
      simp only [inkL, List.filter_cons] at ih ⊢
      rw [ih]
theorem flat_ink (L : List (List UInt8)) (h : ∀ x ∈ L, NoRun x) : inkL (L.flatMap wrapL).flatten = inkL L.flatten := by
  induction L with
  | nil => rfl
  | cons x L ih =>
    rw [List.flatMap_cons, List.flatten_append, inkL_append, wrapL_ink x (h x (by simp)), ih (fun y hy => h y (by simp [hy])), List.flatten_cons, inkL_append]
theorem linesL_norun {t : List UInt8} (h : NoRun t) : ∀ x ∈ linesL t, NoRun x := by
  intro x hx
  unfold linesL at hx
  split at hx
  · simp at hx
  · obtain ⟨k, m, e⟩ := splitC_infix _ _ _ hx
    rw [e]
    refine NoRun.take (NoRun.drop ?_ _) _
    split
    · rw [List.dropLast_eq_take]; exact h.take _
    · exact h
theorem linesL_ink (t : List UInt8) : inkL (linesL t).flatten = inkL t := by
  unfold linesL
  split
  · subst_vars; rfl
  · rw [splitC_ink]
    split
    · rename_i h
      obtain ⟨u, hu⟩ := List.isSuffixOf_iff_suffix.1 h
      rw [← hu, List.dropLast_concat, inkL_append]
      simp [inkL, inkB]
    · rfl
theorem pieceL_ink {t : List UInt8} (h : NoRun t) : inkL (pieceL t).flatten = inkL t := by
  unfold pieceL
  rw [flat_ink _ (linesL_norun h), linesL_ink]
theorem pieceL_le (t : List UInt8) : ∀ x ∈ pieceL t, x.length ≤ 80 := by
  intro x hx
  obtain ⟨y, _, h⟩ := List.mem_flatMap.1 hx
  exact wrapL_le y x h
theorem ins_cont {l : List UInt8} {i : Nat} (h : insB l i = false) : contB (l.getD i 0) = false := by
  rcases Nat.lt_or_ge i l.length with hi | hi
  · unfold insB at h
    unfold contB
    simp only [decide_eq_false_iff_not] at h ⊢
    intro e
    simp_all
  · rw [List.getD_eq_getElem?_getD, List.getElem?_eq_none hi]; exact cont0
theorem valid_norun : ∀ (n : Nat) (l : List UInt8), l.length = n → Lib.validD l = true → NoRun l := by
  intro n
  induction n using Nat.strongRecOn with
  | _ n ih =>
    intro l hn hv i hi
    by_cases hl : l = []
    · subst hl
      have h0 := hi.1
      simp [cont0] at h0
    have hp : 0 < l.length := List.length_pos_iff.2 hl
    have hw := Lib.decodeL_width l
    have h00 := ins_cont (valid_ge _ l rfl hv).1
    rw [validD_step l hl] at hv
    have hgood : ¬ ((Lib.decodeL l).1 = 65533 ∧ (Lib.decodeL l).2 = 1) := by
      intro hb; rw [if_pos hb] at hv; cases hv
    rw [if_neg hgood] at hv
    have hr := ih (l.length - (Lib.decodeL l).2) (by omega) (l.drop (Lib.decodeL l).2) (by simp) hv
    have hf := ins_cont (valid_ge _ _ rfl hv).1
    rw [getD_drop, Nat.add_zero] at hf
    have hm : (Lib.decodeL l).2 ≤ 4 := by
      rw [Lib.decodeL_N] at hgood
      have hcases := decodeN_ok _ _ _ _ _ hgood
      rw [← Lib.decodeL_N] at hcases
      omega
    generalize (Lib.decodeL l).2 = m at *
    rcases Nat.eq_zero_or_pos i with h | h
    · subst h
      rw [h00] at hi
      simp at hi
    · rcases Nat.lt_or_ge i m with him | him
      · have : m = i + 1 ∨ m = i + 2 ∨ m = i + 3 := by omega
        rcases this with rfl | rfl | rfl
        · rw [hf] at hi; simp at hi
        · rw [hf] at hi; simp at hi
        · rw [hf] at hi; simp at hi
      · refine hr (i - m) ?_
        rw [getD_drop, getD_drop, getD_drop, getD_drop, show m + (i - m) = i by omega, show m + (i - m + 1) = i + 1 by omega, show m + (i - m + 2) = i + 2 by omega, show m + (i - m + 3) = i + 3 by omega]
        exact hi
end Go.Proofs.YtbipkkebkddegaaGreatDoor
