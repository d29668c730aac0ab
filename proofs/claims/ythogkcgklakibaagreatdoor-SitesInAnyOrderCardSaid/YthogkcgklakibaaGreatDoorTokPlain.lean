
/-
  Strings cut at a byte, the tokens of a string, and what joins tokens. Plain lists.
-/
import Derived.Lib.SplitLaws
import Derived.Lib.Hide
namespace Go.Proofs.YthogkcgklakibaaGreatDoor
open Go

def splitC (c : UInt8) : List UInt8 → List (List UInt8)
  | [] => [[]]
  | b :: s => if b = c then [] :: splitC c s else match splitC c s with | [] => [[b]] | t :: ts => (b :: t) :: ts
theorem splitC_ne (c : UInt8) (s : List UInt8) : ∃ t ts, splitC c s = t :: ts := by
  cases s with
  | nil => exact ⟨_, _, rfl⟩
  | cons b s =>
    unfold splitC
    split
    · exact ⟨_, _, rfl⟩
    · split <;> exact ⟨_, _, rfl⟩
theorem splitC_eq (c : UInt8) (s : List UInt8) : splitC c (c :: s) = [] :: splitC c s := by simp [splitC]
theorem splitC_cons {b c : UInt8} (h : b ≠ c) {s t : List UInt8} {ts : List (List UInt8)} (hs : splitC c s = t :: ts) : splitC c (b :: s) = (b :: t) :: ts := by
  simp [splitC, h, hs]
theorem splitC_word {c : UInt8} {s t : List UInt8} {ts : List (List UInt8)} (hs : splitC c s = t :: ts) : ∀ w : List UInt8, c ∉ w → splitC c (w ++ s) = (w ++ t) :: ts
  | [], _ => hs
  | b :: w, h => by
    simp only [List.mem_cons, not_or] at h
    exact splitC_cons (fun e => h.1 e.symm) (splitC_word hs w h.2)
theorem index_cons (b c : UInt8) (l : List UInt8) (h : b ≠ c) : Lib.index (b :: l) [c] = if Lib.index l [c] == -1 then -1 else Lib.index l [c] + 1 := by
  have hp : ([c] : List UInt8).isPrefixOf (b :: l) = false := by simp [List.isPrefixOf, Ne.symm h]
  rw [Lib.index, hp]; simp
theorem split_splitC (c : UInt8) : ∀ s : List UInt8, Lib.split s [c] = splitC c s
  | [] => by
    unfold Lib.split
    rw [Lib.count_one]
    rfl
  | b :: s => by
    have ih := split_splitC c s
    unfold Lib.split at *
    rw [Lib.count_one] at *
    by_cases e : b = c
    · subst e
      have hix : Lib.index (b :: s) [b] = 0 := by rw [Lib.index]; simp [List.isPrefixOf]
      rw [splitC_eq, ← ih, List.count_cons_self, Lib.splitK, hix]
      rfl
    · rw [List.count_cons_of_ne (by simpa using e)]
      generalize s.count c = k at ih ⊢
      cases k with
      | zero => rw [splitC_cons e (t := s) (ts := []) (by rw [← ih]; rfl)]; rfl
      | succ k =>
        rw [Lib.splitK] at ih ⊢
        rw [index_cons b c s e]
        by_cases hm : Lib.index s [c] = -1
        · rw [if_pos (by simp [hm])] at ih
          rw [if_pos (by simp [hm]), splitC_cons e ih.symm]
        · have hg := Lib.index_ge s [c]
          obtain ⟨j, hj⟩ : ∃ j : Nat, Lib.index s [c] = j := ⟨(Lib.index s [c]).toNat, by omega⟩
          rw [hj] at ih ⊢
          have h0 : ((j : Int) == -1) = false := by first | (simp; done) | (simp; omega)
          have h1 : (((j : Int) + 1) == -1) = false := by first | (simp; done) | (simp; omega)
          rw [h0] at ih
          simp only [h0, h1, Bool.false_eq_true, if_false] at ih ⊢
          rw [splitC_cons e ih.symm]
          have e1 : ((j : Int) + 1).toNat = j + 1 := by omega
          have e2 : ((j : Int)).toNat = j := by omega
          rw [e1, e2]
          simp

theorem splitC_sum (c : UInt8) : ∀ s : List UInt8, ((splitC c s).map List.length).sum + (splitC c s).length = s.length + 1
  | [] => rfl
  | b :: s => by
    have ih := splitC_sum c s
    by_cases e : b = c
    · subst e; rw [splitC_eq]; simp only [List.map_cons, List.length_nil, List.sum_cons, List.length_cons]; omega
    · obtain ⟨t, ts, hs⟩ := splitC_ne c s
      rw [splitC_cons e hs]
      rw [hs] at ih
      simp only [List.map_cons, List.sum_cons, List.length_cons] at ih ⊢
      omega
theorem splitC_mem (c : UInt8) : ∀ (s t : List UInt8), t ∈ splitC c s → c ∉ t ∧ ∀ b ∈ t, b ∈ s
  | [], t, h => by simp [splitC] at h; subst h; simp
  | b :: s, t, h => by
    by_cases e : b = c
    · subst e
      rw [splitC_eq, List.mem_cons] at h
      rcases h with rfl | h
      · simp
      · have := splitC_mem b s t h; exact ⟨this.1, fun x hx => by simp [this.2 x hx]⟩
    · obtain ⟨u, us, hs⟩ := splitC_ne c s
      rw [splitC_cons e hs, List.mem_cons] at h
      rcases h with rfl | h
      · have := splitC_mem c s u (by rw [hs]; simp)
        refine ⟨by simp only [List.mem_cons, not_or]; exact ⟨fun h => e h.symm, this.1⟩, fun x hx => ?_⟩
        rcases List.mem_cons.1 hx with rfl | hx
        · simp
        · simp [this.2 x hx]
      · have := splitC_mem c s t (by rw [hs]; simp [h]); exact ⟨this.1, fun x hx => by simp [this.2 x hx]⟩

/-- The words of a line. -/
def lnTok (l : List UInt8) : List (List UInt8) := (splitC 32 l).filter fun w => !w.isEmpty
def tokLines : List (List UInt8) → List (List UInt8)
  | [] => []
  | l :: ls => lnTok l ++ ls.flatMap fun l => [10] :: lnTok l
/-- The tokens of a string. -/
def tokL (s : List UInt8) : List (List UInt8) := tokLines (splitC 10 s)

theorem tokLines_snoc (ls : List (List UInt8)) (l : List UInt8) : tokLines (ls ++ [l]) = tokLines ls ++ ((if ls = [] then [] else [[10]]) ++ lnTok l) := by
  cases ls with
  | nil => simp [tokLines]
  | cons a ls => simp [tokLines]
theorem tokL_nil : tokL [] = [] := by simp [tokL, splitC, tokLines, lnTok]
theorem tokL_nl (s : List UInt8) : tokL (10 :: s) = [10] :: tokL s := by
  obtain ⟨t, ts, hs⟩ := splitC_ne 10 s
  rw [tokL, tokL, splitC_eq, hs]
  simp [tokLines, lnTok, splitC]
theorem tokL_sp (s : List UInt8) : tokL (32 :: s) = tokL s := by
  obtain ⟨t, ts, hs⟩ := splitC_ne 10 s
  rw [tokL, tokL, splitC_cons (by decide) hs, hs]
  simp [tokLines, lnTok, splitC_eq]
/-- A token: a line feed, or bytes without blanks and line feeds. -/
def isTok (t : List UInt8) : Prop := t = [10] ∨ (t ≠ [] ∧ 10 ∉ t ∧ 32 ∉ t)
def stops (s : List UInt8) : Prop := s = [] ∨ (∃ r, s = 10 :: r) ∨ (∃ r, s = 32 :: r)
theorem tokL_word (w s : List UInt8) (h0 : w ≠ []) (h1 : 10 ∉ w) (h2 : 32 ∉ w) (hs : stops s) : tokL (w ++ s) = w :: tokL s := by
  obtain ⟨t, ts, ht⟩ := splitC_ne 10 s
  rw [tokL, tokL, splitC_word ht w h1, ht]
  obtain ⟨u, us, hu⟩ := splitC_ne 32 t
  have hu0 : u = [] := by
    rcases hs with rfl | ⟨r, rfl⟩ | ⟨r, rfl⟩
    · simp [splitC] at ht; obtain ⟨rfl, _⟩ := ht; simp [splitC] at hu; first | exact hu.1 | exact hu.1.symm
    · rw [splitC_eq] at ht; injection ht with h h'; subst h; simp [splitC] at hu; first | exact hu.1 | exact hu.1.symm
    · obtain ⟨v, vs, hv⟩ := splitC_ne 10 r
      rw [splitC_cons (by decide) hv] at ht
      injection ht with h h'; subst h
      rw [splitC_eq] at hu
      injection hu with h h'; exact h.symm
  subst hu0
  simp only [tokLines, lnTok, splitC_word hu w h2, hu]
  have hw : (!w.isEmpty) = true := by simpa using h0
  simp [hw]

def sepT (p t : List UInt8) : List UInt8 := if t ≠ [10] ∧ p ≠ [10] then [32] else []
def joinT : List UInt8 → List (List UInt8) → List UInt8
  | _, [] => []
  | p, t :: ts => sepT p t ++ t ++ joinT t ts
/-- What joins tokens. -/
def joinL : List (List UInt8) → List UInt8
  | [] => []
  | t :: ts => t ++ joinT t ts
theorem joinT_snoc : ∀ (l : List (List UInt8)) (p t : List UInt8), joinT p (l ++ [t]) = joinT p l ++ sepT ((p :: l).getLast (by simp)) t ++ t
  | [], p, t => by simp [joinT]
  | a :: l, p, t => by
    simp only [List.cons_append, joinT, joinT_snoc l a t, List.append_assoc]
    rfl
theorem joinL_take (l : List (List UInt8)) (k : Nat) (h : k + 1 < l.length) : joinL (l.take (k + 2)) = joinL (l.take (k + 1)) ++ sepT (l.getD k []) (l.getD (k + 1) []) ++ l.getD (k + 1) [] := by
  have e : l.take (k + 2) = l.take (k + 1) ++ [l.getD (k + 1) []] := by
    rw [List.take_succ_eq_append_getElem h]; simp [h]
  rw [e]
  cases l with
  | nil => simp at h
  | cons a l =>
    simp only [List.length_cons] at h
    simp only [List.take_succ_cons, List.cons_append, joinL, joinT_snoc, List.append_assoc]
    have hg : (a :: l.take k).getLast (by simp) = (a :: l).getD k [] := by
      rw [List.getLast_eq_getElem]
      simp only [List.length_cons, List.length_take, Nat.add_sub_cancel]
      have hm : min k l.length = k := by omega
      have hk : k < (a :: l).length := by simp; omega
      rw [List.getD_eq_getElem?_getD, List.getElem?_eq_getElem hk]
      simp only [hm, Option.getD_some]
      cases k with
      | zero => rfl
      | succ k => simp
    rw [hg]
theorem joinL_one (l : List (List UInt8)) (h : 0 < l.length) : joinL (l.take 1) = l.getD 0 [] := by
  cases l with
  | nil => simp at h
  | cons a l => simp [joinL, joinT]
theorem tokL_join : ∀ (ts : List (List UInt8)) (t : List UInt8), isTok t → (∀ x ∈ ts, isTok x) → tokL (t ++ joinT t ts) = t :: ts
  | [], t, h, _ => by
    simp only [joinT, List.append_nil]
    rcases h with rfl | ⟨h0, h1, h2⟩
    · rw [tokL_nl, tokL_nil]
    · have := tokL_word t [] h0 h1 h2 (.inl rfl)
      rw [List.append_nil] at this
      rw [this, tokL_nil]
  | u :: ts, t, h, hs => by
    have ih := tokL_join ts u (hs u (by simp)) (fun x hx => hs x (by simp [hx]))
    simp only [joinT]
    rcases h with rfl | ⟨h0, h1, h2⟩
    · have hs0 : sepT [10] u = [] := by simp [sepT]
      rw [hs0]
      simp only [List.nil_append, List.singleton_append]
      rw [tokL_nl, ih]
    · have hn : t ≠ [10] := fun e => h1 (by simp [e])
      rcases hs u (by simp) with rfl | ⟨u0, u1, u2⟩
      · have hs0 : sepT t [10] = [] := by simp [sepT]
        rw [hs0, List.nil_append, tokL_word t ([10] ++ joinT [10] ts) h0 h1 h2 (.inr (.inl ⟨_, rfl⟩)), ih]
      · have hs0 : sepT t u = [32] := by
          have hu : u ≠ [10] := fun e => u1 (by simp [e])
          simp [sepT, hn, hu]
        rw [hs0, List.append_assoc, tokL_word t ([32] ++ (u ++ joinT u ts)) h0 h1 h2 (.inr (.inr ⟨_, rfl⟩)), List.singleton_append, tokL_sp, ih]
theorem tokL_joinL (l : List (List UInt8)) (h : ∀ x ∈ l, isTok x) : tokL (joinL l) = l := by
  cases l with
  | nil => exact tokL_nil
  | cons t ts => exact tokL_join ts t (h t (by simp)) (fun x hx => h x (by simp [hx]))

theorem lnTok_ok {l : List UInt8} (h : 10 ∉ l) : ∀ x ∈ lnTok l, isTok x := by
  intro x hx
  simp only [lnTok, List.mem_filter] at hx
  obtain ⟨h1, h2⟩ := hx
  have := splitC_mem 32 l x h1
  exact .inr ⟨by intro e; subst e; simp at h2, fun h3 => h (this.2 _ h3), this.1⟩
theorem tokLines_ok : ∀ (ls : List (List UInt8)), (∀ l ∈ ls, 10 ∉ l) → ∀ x ∈ tokLines ls, isTok x := by
  intro ls h x hx
  cases ls with
  | nil => simp [tokLines] at hx
  | cons l ls =>
    simp only [tokLines, List.mem_append, List.mem_flatMap, List.mem_cons] at hx
    rcases hx with hx | ⟨a, ha, rfl | hx⟩
    · exact lnTok_ok (h l (by simp)) x hx
    · exact .inl rfl
    · exact lnTok_ok (h a (by simp [ha])) x hx
theorem tokL_ok (s : List UInt8) : ∀ x ∈ tokL s, isTok x := tokLines_ok _ fun l hl => (splitC_mem 10 s l hl).1

def lensL (l : List (List UInt8)) : Nat := (l.map List.length).sum
theorem lensL_append (a b : List (List UInt8)) : lensL (a ++ b) = lensL a + lensL b := by simp [lensL]
theorem filter_lens (l : List (List UInt8)) : lensL (l.filter fun w => !w.isEmpty) ≤ lensL l := by
  induction l with
  | nil => exact Nat.le_refl _
  | cons a l ih =>
    by_cases h : (!a.isEmpty) = true
    · rw [List.filter_cons_of_pos (by exact h)]; simp only [lensL, List.map_cons, List.sum_cons] at *; omega
    · rw [List.filter_cons_of_neg (by exact h)]; simp only [lensL, List.map_cons, List.sum_cons] at *; omega
theorem lnTok_lens (l : List UInt8) : lensL (lnTok l) ≤ l.length := by
  have h1 := filter_lens (splitC 32 l)
  have h2 := splitC_sum 32 l
  obtain ⟨t, ts, hs⟩ := splitC_ne 32 l
  have h3 : 1 ≤ (splitC 32 l).length := by rw [hs]; simp
  unfold lnTok
  simp only [lensL] at *
  omega
theorem flat_lens : ∀ ls : List (List UInt8), lensL (ls.flatMap fun l => [10] :: lnTok l) ≤ lensL ls + ls.length
  | [] => Nat.le_refl _
  | l :: ls => by
    have ih := flat_lens ls
    have := lnTok_lens l
    rw [List.flatMap_cons, lensL_append]
    simp only [lensL, List.map_cons, List.sum_cons, List.length_cons, List.length_nil] at *
    omega
theorem tokL_lens (s : List UInt8) : lensL (tokL s) ≤ s.length := by
  have h2 := splitC_sum 10 s
  obtain ⟨t, ts, hs⟩ := splitC_ne 10 s
  have h3 := flat_lens ts
  have h4 := lnTok_lens t
  rw [tokL, hs, tokLines, lensL_append]
  rw [hs] at h2
  simp only [List.map_cons, List.sum_cons, List.length_cons] at h2
  simp only [lensL] at *
  omega
theorem isTok.pos {t : List UInt8} (h : isTok t) : 1 ≤ t.length := by
  rcases h with rfl | ⟨h, _⟩
  · simp
  · exact List.length_pos_iff.2 h
theorem lensL_ge : ∀ l : List (List UInt8), (∀ x ∈ l, isTok x) → l.length ≤ lensL l
  | [], _ => Nat.le_refl _
  | t :: l, h => by
    have := lensL_ge l (fun x hx => h x (by simp [hx]))
    have := (h t (by simp)).pos
    simp only [lensL, List.map_cons, List.sum_cons, List.length_cons] at *
    omega
theorem tokL_length (s : List UInt8) : (tokL s).length ≤ s.length := Nat.le_trans (lensL_ge _ (tokL_ok s)) (tokL_lens s)
theorem lensL_mem (l : List (List UInt8)) (x : List UInt8) (h : x ∈ l) : x.length ≤ lensL l := by
  induction l with
  | nil => simp at h
  | cons a l ih =>
    simp only [lensL, List.map_cons, List.sum_cons] at *
    rcases List.mem_cons.1 h with rfl | h
    · omega
    · have := ih h; omega
theorem joinT_lens : ∀ (l : List (List UInt8)) (p : List UInt8), (joinT p l).length ≤ lensL l + l.length
  | [], _ => Nat.le_refl _
  | t :: l, p => by
    have := joinT_lens l t
    have h : (sepT p t).length ≤ 1 := by unfold sepT; split <;> simp
    simp only [joinT, List.length_append, lensL, List.map_cons, List.sum_cons, List.length_cons] at *
    omega
theorem joinL_lens (l : List (List UInt8)) : (joinL l).length ≤ lensL l + l.length := by
  cases l with
  | nil => exact Nat.le_refl _
  | cons t ts =>
    have := joinT_lens ts t
    simp only [joinL, List.length_append, lensL, List.map_cons, List.sum_cons, List.length_cons] at *
    omega

end Go.Proofs.YthogkcgklakibaaGreatDoor
