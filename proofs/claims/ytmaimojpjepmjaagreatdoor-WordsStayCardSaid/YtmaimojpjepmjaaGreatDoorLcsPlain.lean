
/-
  Longest common lists, the pairs that are kept, the changes that they leave, and where these lead. Plain lists.
-/
import Derived.Lib.Hide
namespace Go.Proofs.YtmaimojpjepmjaaGreatDoor

def lcs {α : Type} [DecidableEq α] : List α → List α → Nat
  | [], _ => 0
  | _ :: _, [] => 0
  | a :: as, b :: bs => if a = b then lcs as bs + 1 else max (lcs as (b :: bs)) (lcs (a :: as) bs)
termination_by x y => x.length + y.length

section
variable {α : Type} [DecidableEq α]

theorem lcs_nil (x : List α) : lcs x [] = 0 := by cases x <;> simp [lcs]
theorem lcs_nil' (x : List α) : lcs [] x = 0 := by simp [lcs]
theorem lcs_cons (a b : α) (as bs : List α) : lcs (a :: as) (b :: bs) = if a = b then lcs as bs + 1 else max (lcs as (b :: bs)) (lcs (a :: as) bs) := by rw [lcs]

theorem lcs_comm : ∀ (n : Nat) (x y : List α), x.length + y.length ≤ n → lcs x y = lcs y x := by
  intro n
  induction n with
  | zero => intro x y h; cases x <;> cases y <;> simp_all [lcs]
  | succ n ih =>
    intro x y h
    cases x with
    | nil => rw [lcs_nil, lcs_nil']
    | cons a as =>
      cases y with
      | nil => rw [lcs_nil, lcs_nil']
      | cons b bs =>
        simp only [List.length_cons] at h
        rw [lcs_cons, lcs_cons, ih as bs (by omega), ih as (b :: bs) (by simp only [List.length_cons]; omega), ih (a :: as) bs (by simp only [List.length_cons]; omega), Nat.max_comm]
        by_cases e : a = b
        · rw [if_pos e, if_pos e.symm]
        · rw [if_neg e, if_neg (fun h => e h.symm)]
theorem lcs_symm (x y : List α) : lcs x y = lcs y x := lcs_comm _ x y (Nat.le_refl _)

theorem lcs_step : ∀ (n : Nat) (a : α) (as bs : List α), as.length + bs.length ≤ n → lcs as bs ≤ lcs (a :: as) bs ∧ lcs (a :: as) bs ≤ lcs as bs + 1 := by
  intro n
  induction n with
  | zero => intro a as bs h; cases bs <;> simp_all [lcs]
  | succ n ih =>
    intro a as bs h
    cases bs with
    | nil => rw [lcs_nil, lcs_nil]; omega
    | cons b bs =>
      simp only [List.length_cons] at h
      have h1 := ih b bs as (by omega)
      rw [lcs_symm bs as, lcs_symm (b :: bs) as] at h1
      have h2 := ih a as bs (by omega)
      rw [lcs_cons]
      split
      · omega
      · exact ⟨Nat.le_max_left _ _, Nat.max_le.2 ⟨by omega, by omega⟩⟩
theorem lcs_up (a : α) (as bs : List α) : lcs as bs ≤ lcs (a :: as) bs := (lcs_step _ a as bs (Nat.le_refl _)).1
theorem lcs_up' (b : α) (as bs : List α) : lcs as bs ≤ lcs as (b :: bs) := by rw [lcs_symm as bs, lcs_symm as (b :: bs)]; exact lcs_up b bs as
theorem lcs_one' (b : α) (as bs : List α) : lcs as (b :: bs) ≤ lcs as bs + 1 := by rw [lcs_symm as bs, lcs_symm as (b :: bs)]; exact (lcs_step _ b bs as (Nat.le_refl _)).2

/-- With no such element further on, an element can be left out; else it is kept with the first of them, or left out. -/
theorem lcs_none (a : α) (as : List α) : ∀ bs : List α, a ∉ bs → lcs (a :: as) bs = lcs as bs
  | [], _ => by rw [lcs_nil, lcs_nil]
  | b :: bs, h => by
    simp only [List.mem_cons, not_or] at h
    rw [lcs_cons, if_neg h.1, lcs_none a as bs h.2]
    have := lcs_up' b as bs
    omega
theorem lcs_some (a : α) (as : List α) : ∀ (bs : List α) (k : Nat), bs[k]? = some a → (∀ j, j < k → bs[j]? ≠ some a) → lcs (a :: as) bs = max (lcs as bs) (lcs as (bs.drop (k + 1)) + 1)
  | [], k, h, _ => by simp at h
  | b :: bs, 0, h, _ => by
    simp at h
    subst h
    have := lcs_one' b as bs
    rw [lcs_cons, if_pos rfl]
    simp only [List.drop_succ_cons, List.drop_zero]
    omega
  | b :: bs, k + 1, h, hn => by
    have hb : a ≠ b := fun e => hn 0 (by omega) (by simp [e])
    have ih := lcs_some a as bs k (by simpa using h) (fun j hj => by have := hn (j + 1) (by omega); simpa using this)
    rw [lcs_cons, if_neg hb, ih]
    simp only [List.drop_succ_cons]
    have := lcs_up' b as bs
    omega

end
section
variable {α : Type}
def seg (x : List α) (a b : Nat) : List α := (x.drop a).take (b - a)
theorem seg_length (x : List α) (a b : Nat) (h : b ≤ x.length) : (seg x a b).length = b - a := by simp [seg]; omega
theorem seg_self (x : List α) (a : Nat) : seg x a a = [] := by simp [seg]
theorem seg_drop (x : List α) (a b : Nat) (h : a ≤ b) : seg x a b ++ x.drop b = x.drop a := by
  have : x.drop b = (x.drop a).drop (b - a) := by rw [List.drop_drop]; congr 1; omega
  rw [seg, this, List.take_append_drop]
theorem seg_end (x : List α) (a : Nat) (b : Nat) (h : x.length ≤ b) : seg x a b = x.drop a := by
  rw [seg, List.take_of_length_le (by simp; omega)]
theorem seg_seg (x : List α) (a b c : Nat) (h1 : a ≤ b) (h2 : b ≤ c) : seg x a b ++ seg x b c = seg x a c := by
  have e : c - a = (b - a) + (c - b) := by omega
  have d : x.drop b = (x.drop a).drop (b - a) := by rw [List.drop_drop]; congr 1; omega
  rw [seg, seg, seg, e, d, List.take_add]
theorem seg_one (x : List α) (a : Nat) (t : α) (h : x[a]? = some t) : seg x a (a + 1) = [t] := by
  obtain ⟨hl, rfl⟩ := List.getElem?_eq_some_iff.1 h
  have : a + 1 - a = 1 := by omega
  rw [seg, this, List.drop_eq_getElem_cons hl]
  rfl

/-- The pairs of l are rising from (i, j) on, before (i', j'), and each is of equal elements. -/
def GoodTo (x y : List α) : Nat → Nat → List (Nat × Nat) → Nat → Nat → Prop
  | i, j, [], i', j' => i ≤ i' ∧ j ≤ j'
  | i, j, p :: ps, i', j' => i ≤ p.1 ∧ j ≤ p.2 ∧ (∃ t, x[p.1]? = some t ∧ y[p.2]? = some t) ∧ GoodTo x y (p.1 + 1) (p.2 + 1) ps i' j'
theorem GoodTo.le {x y : List α} : ∀ {l : List (Nat × Nat)} {i j i' j' : Nat}, GoodTo x y i j l i' j' → i ≤ i' ∧ j ≤ j'
  | [], _, _, _, _, h => h
  | _ :: _, _, _, _, _, h => by have := h.2.2.2.le; have := h.1; have := h.2.1; omega
theorem GoodTo.more {x y : List α} : ∀ {l : List (Nat × Nat)} {i j i' j' i'' j'' : Nat}, GoodTo x y i j l i' j' → i' ≤ i'' → j' ≤ j'' → GoodTo x y i j l i'' j''
  | [], _, _, _, _, _, _, h, h1, h2 => ⟨by have := h.1; omega, by have := h.2; omega⟩
  | _ :: _, _, _, _, _, _, _, h, h1, h2 => ⟨h.1, h.2.1, h.2.2.1, h.2.2.2.more h1 h2⟩
theorem GoodTo.snoc {x y : List α} : ∀ {l : List (Nat × Nat)} {i j i' j' : Nat}, GoodTo x y i j l i' j' → ∀ (p : Nat × Nat), i' ≤ p.1 → j' ≤ p.2 → (∃ t, x[p.1]? = some t ∧ y[p.2]? = some t) → GoodTo x y i j (l ++ [p]) (p.1 + 1) (p.2 + 1)
  | [], _, _, _, _, h, p, h1, h2, h3 => ⟨by have := h.1; omega, by have := h.2; omega, h3, Nat.le_refl _, Nat.le_refl _⟩
  | _ :: _, _, _, _, _, h, p, h1, h2, h3 => ⟨h.1, h.2.1, h.2.2.1, h.2.2.2.snoc p h1 h2 h3⟩
def swapP (p : Nat × Nat) : Nat × Nat := (p.2, p.1)
theorem GoodTo.swap {x y : List α} : ∀ {l : List (Nat × Nat)} {i j i' j' : Nat}, GoodTo x y i j l i' j' → GoodTo y x j i (l.map swapP) j' i'
  | [], _, _, _, _, h => ⟨h.2, h.1⟩
  | _ :: _, _, _, _, _, h => ⟨h.2.1, h.1, by obtain ⟨t, h1, h2⟩ := h.2.2.1; exact ⟨t, h2, h1⟩, h.2.2.2.swap⟩
theorem GoodTo.length_le {x y : List α} : ∀ {l : List (Nat × Nat)} {i j i' j' : Nat}, GoodTo x y i j l i' j' → i + l.length ≤ i' ∧ j + l.length ≤ j'
  | [], _, _, _, _, h => h
  | _ :: _, _, _, _, _, h => by have := h.2.2.2.length_le; have := h.1; have := h.2.1; simp only [List.length_cons]; omega

/-- A change: where, what goes, what comes. -/
abbrev Chg (α : Type) := Nat × List α × List α
def chgs (x y : List α) : Nat → Nat → List (Nat × Nat) → List (Chg α)
  | _, _, [] => []
  | i, j, p :: ps => (if i < p.1 ∨ j < p.2 then [(i, seg x i p.1, seg y j p.2)] else []) ++ chgs x y (p.1 + 1) (p.2 + 1) ps
def endp : Nat → Nat → List (Nat × Nat) → Nat × Nat
  | i, j, [] => (i, j)
  | _, _, p :: ps => endp (p.1 + 1) (p.2 + 1) ps
theorem endp_snoc : ∀ (l : List (Nat × Nat)) (i j : Nat) (p : Nat × Nat), endp i j (l ++ [p]) = (p.1 + 1, p.2 + 1)
  | [], _, _, _ => rfl
  | q :: l, _, _, p => endp_snoc l (q.1 + 1) (q.2 + 1) p
theorem chgs_snoc (x y : List α) : ∀ (l : List (Nat × Nat)) (i j : Nat) (p : Nat × Nat), chgs x y i j (l ++ [p]) = chgs x y i j l ++ (if (endp i j l).1 < p.1 ∨ (endp i j l).2 < p.2 then [((endp i j l).1, seg x (endp i j l).1 p.1, seg y (endp i j l).2 p.2)] else [])
  | [], i, j, p => by simp only [List.nil_append, chgs, endp, List.append_nil]; rfl
  | q :: l, i, j, p => by
    simp only [List.cons_append, chgs, endp, chgs_snoc x y l (q.1 + 1) (q.2 + 1) p, List.append_assoc]; rfl
theorem chgs_length (x y : List α) : ∀ (l : List (Nat × Nat)) (i j : Nat), (chgs x y i j l).length ≤ l.length
  | [], _, _ => by simp [chgs]
  | p :: l, i, j => by
    have := chgs_length x y l (p.1 + 1) (p.2 + 1)
    simp only [chgs]
    split
    · simp; omega
    · simp; omega

/-- What changes make of a list, from a place on. -/
def pat (x : List α) : Nat → List (Chg α) → List α
  | at_, [] => x.drop at_
  | at_, c :: cs => seg x at_ c.1 ++ c.2.2 ++ pat x (c.1 + c.2.1.length) cs
/-- Changes that fit a list, each from a place on. -/
def okc (x : List α) : Nat → List (Chg α) → Prop
  | _, [] => True
  | lo, c :: cs => lo ≤ c.1 ∧ c.1 + c.2.1.length ≤ x.length ∧ seg x c.1 (c.1 + c.2.1.length) = c.2.1 ∧ ¬ (c.2.1 = [] ∧ c.2.2 = []) ∧ okc x (c.1 + c.2.1.length + 1) cs
theorem okc_less {x : List α} {lo lo' : Nat} {cs : List (Chg α)} (h : okc x lo cs) (hl : lo' ≤ lo) : okc x lo' cs := by
  cases cs with
  | nil => trivial
  | cons c cs => exact ⟨by have := h.1; omega, h.2⟩
theorem pat_from {x : List α} {i i' : Nat} {cs : List (Chg α)} (h : okc x i' cs) (hi : i ≤ i') : pat x i cs = seg x i i' ++ pat x i' cs := by
  cases cs with
  | nil => simp only [pat]; exact (seg_drop x i i' hi).symm
  | cons c cs =>
    simp only [pat]
    rw [← seg_seg x i i' c.1 hi h.1]
    simp

theorem lead (x y : List α) : ∀ (l : List (Nat × Nat)) (i j i' j' : Nat), GoodTo x y i j l i' j' → i' ≤ x.length → j' ≤ y.length →
    okc x i (chgs x y i j (l ++ [(x.length, y.length)])) ∧ pat x i (chgs x y i j (l ++ [(x.length, y.length)])) = y.drop j
  | [], i, j, i', j', h, h1, h2 => by
    have hi : i ≤ x.length := by have := h.1; omega
    have hj : j ≤ y.length := by have := h.2; omega
    have hl := seg_length x i x.length (Nat.le_refl _)
    simp only [List.nil_append, chgs, List.append_nil]
    split
    · rename_i hc
      refine ⟨⟨Nat.le_refl _, by rw [hl]; omega, by rw [hl]; congr 1; omega, ?_, trivial⟩, ?_⟩
      · rintro ⟨e1, e2⟩
        have := congrArg List.length e1
        have := congrArg List.length e2
        simp only [seg_length _ _ _ (Nat.le_refl _), List.length_nil] at *
        omega
      · simp only [pat, seg_self, hl, List.nil_append]
        rw [List.drop_of_length_le (by omega : x.length ≤ i + (x.length - i)), List.append_nil, seg_end y j _ (Nat.le_refl _)]
    · exact ⟨trivial, by simp only [pat]; rw [List.drop_of_length_le (by omega), List.drop_of_length_le (by omega)]⟩
  | p :: ps, i, j, i', j', h, h1, h2 => by
    obtain ⟨hi, hj, ⟨t, ht1, ht2⟩, hg⟩ := h
    have hx : p.1 < x.length := (List.getElem?_eq_some_iff.1 ht1).1
    have hy : p.2 < y.length := (List.getElem?_eq_some_iff.1 ht2).1
    obtain ⟨ih1, ih2⟩ := lead x y ps (p.1 + 1) (p.2 + 1) i' j' hg h1 h2
    have hyd : [t] ++ y.drop (p.2 + 1) = y.drop p.2 := by rw [← seg_one y p.2 t ht2]; exact seg_drop y _ _ (by omega)
    have hpx : pat x p.1 (chgs x y (p.1 + 1) (p.2 + 1) (ps ++ [(x.length, y.length)])) = y.drop p.2 := by
      rw [pat_from ih1 (by omega), ih2, seg_one x p.1 t ht1, hyd]
    simp only [List.cons_append, chgs]
    split
    · rename_i hc
      have hl := seg_length x i p.1 (by omega)
      have he : i + (p.1 - i) = p.1 := by omega
      refine ⟨⟨Nat.le_refl _, ?_, ?_, ?_, ?_⟩, ?_⟩
      · show i + (seg x i p.1).length ≤ _; rw [hl]; omega
      · show seg x i (i + (seg x i p.1).length) = _; rw [hl, he]
      · rintro ⟨e1, e2⟩
        have e1 := congrArg List.length e1
        have e2 := congrArg List.length e2
        simp only [seg_length x i p.1 (by omega), seg_length y j p.2 (by omega), List.length_nil] at e1 e2
        omega
      · show okc x (i + (seg x i p.1).length + 1) _; rw [hl, he]; exact ih1
      · show seg x i i ++ seg y j p.2 ++ pat x (i + (seg x i p.1).length) _ = _
        rw [hl, he, seg_self, List.nil_append]
        refine Eq.trans (congrArg (seg y j p.2 ++ ·) hpx) ?_
        exact seg_drop y j p.2 hj
    · obtain rfl : i = p.1 := by omega
      obtain rfl : j = p.2 := by omega
      exact ⟨okc_less ih1 (by omega), hpx⟩

/-- The changes that lead back. -/
def turnL : Int → List (Chg α) → List (Int × List α × List α)
  | _, [] => []
  | more, c :: cs => ((c.1 : Int) + more, c.2.2, c.2.1) :: turnL (more + c.2.2.length - c.2.1.length) cs
def castC (c : Chg α) : Int × List α × List α := ((c.1 : Int), c.2.1, c.2.2)
theorem turnL_chgs (x y : List α) : ∀ (l : List (Nat × Nat)) (i j : Nat), (∀ p ∈ l, p.1 ≤ x.length ∧ p.2 ≤ y.length) → (∀ k p, l[k]? = some p → (endp i j (l.take k)).1 ≤ p.1 ∧ (endp i j (l.take k)).2 ≤ p.2) →
    turnL ((j : Int) - i) (chgs x y i j l) = (chgs y x j i (l.map swapP)).map castC
  | [], _, _, _, _ => rfl
  | p :: l, i, j, hb, hr => by
    have h0 := hr 0 p rfl
    simp only [List.take_zero, endp] at h0
    have hp := hb p (by simp)
    have ih := turnL_chgs x y l (p.1 + 1) (p.2 + 1) (fun q hq => hb q (by simp [hq])) (fun k q hq => by have := hr (k + 1) q (by simpa using hq); simpa [endp] using this)
    simp only [List.map_cons, chgs, swapP]
    by_cases hc : i < p.1 ∨ j < p.2
    · rw [if_pos hc, if_pos hc.symm]
      simp only [List.singleton_append, turnL, List.map_cons, castC]
      rw [seg_length x i p.1 hp.1, seg_length y j p.2 hp.2]
      have e : (j : Int) - i + ((p.2 - j : Nat) : Int) - ((p.1 - i : Nat) : Int) = ((p.2 + 1 : Nat) : Int) - ((p.1 + 1 : Nat) : Int) := by omega
      rw [e, ih]
      congr 2
      omega
    · rw [if_neg hc, if_neg (fun h => hc h.symm)]
      obtain rfl : i = p.1 := by omega
      obtain rfl : j = p.2 := by omega
      simp only [List.nil_append]
      have e : (p.2 : Int) - p.1 = ((p.2 + 1 : Nat) : Int) - ((p.1 + 1 : Nat) : Int) := by omega
      rw [e, ih]

theorem GoodTo.rises {x y : List α} : ∀ {l : List (Nat × Nat)} {i j i' j' n m : Nat}, GoodTo x y i j l i' j' → i' ≤ n → j' ≤ m → ∀ k p, (l ++ [(n, m)])[k]? = some p → (endp i j ((l ++ [(n, m)]).take k)).1 ≤ p.1 ∧ (endp i j ((l ++ [(n, m)]).take k)).2 ≤ p.2
  | [], i, j, i', j', n, m, h, h1, h2, k, p, hk => by
    cases k with
    | zero => simp at hk; subst hk; simp [endp]; have := h.1; have := h.2; omega
    | succ k => simp at hk
  | q :: l, i, j, i', j', n, m, h, h1, h2, k, p, hk => by
    cases k with
    | zero => simp at hk; subst hk; simp [endp]; exact ⟨h.1, h.2.1⟩
    | succ k => simpa [endp] using h.2.2.2.rises h1 h2 k p (by simpa using hk)

def movedL : List (Chg α) → Nat
  | [] => 0
  | c :: cs => c.2.1.length + c.2.2.length + movedL cs
theorem movedL_append (a b : List (Chg α)) : movedL (a ++ b) = movedL a + movedL b := by
  induction a with
  | nil => simp [movedL]
  | cons c a ih => simp only [List.cons_append, movedL, ih]; omega
theorem moved_chgs (x y : List α) : ∀ (l : List (Nat × Nat)) (i j i' j' : Nat), GoodTo x y i j l i' j' → i' ≤ x.length → j' ≤ y.length →
    movedL (chgs x y i j (l ++ [(x.length, y.length)])) + 2 * l.length + i + j = x.length + y.length
  | [], i, j, i', j', h, h1, h2 => by
    have := h.1; have := h.2
    simp only [List.nil_append, chgs, List.append_nil]
    split
    · simp only [movedL, seg_length _ _ _ (Nat.le_refl _), List.length_nil]; omega
    · simp only [movedL, List.length_nil]; omega
  | p :: ps, i, j, i', j', h, h1, h2 => by
    obtain ⟨hi, hj, ⟨t, ht1, ht2⟩, hg⟩ := h
    have hx : p.1 < x.length := (List.getElem?_eq_some_iff.1 ht1).1
    have hy : p.2 < y.length := (List.getElem?_eq_some_iff.1 ht2).1
    have ih := moved_chgs x y ps (p.1 + 1) (p.2 + 1) i' j' hg h1 h2
    simp only [List.cons_append, chgs, movedL_append, List.length_cons]
    split
    · simp only [movedL, seg_length x i p.1 (by omega), seg_length y j p.2 (by omega)]; omega
    · simp only [movedL]; omega

end
section
variable {α : Type} [DecidableEq α]
/-- What each round of the search for kept pairs does. -/
theorem kept_miss {x y : List α} {i j : Nat} {t : α} (hx : x[i]? = some t) (h : t ∉ y.drop j) : lcs (x.drop (i + 1)) (y.drop j) = lcs (x.drop i) (y.drop j) := by
  obtain ⟨hl, rfl⟩ := List.getElem?_eq_some_iff.1 hx
  rw [List.drop_eq_getElem_cons hl, lcs_none _ _ _ h]
theorem kept_hit {x y : List α} {i j k : Nat} {t : α} (hx : x[i]? = some t) (hk : (y.drop j)[k]? = some t) (hn : ∀ m, m < k → (y.drop j)[m]? ≠ some t) :
    lcs (x.drop i) (y.drop j) = max (lcs (x.drop (i + 1)) (y.drop j)) (lcs (x.drop (i + 1)) (y.drop (j + k + 1)) + 1) := by
  obtain ⟨hl, rfl⟩ := List.getElem?_eq_some_iff.1 hx
  rw [List.drop_eq_getElem_cons hl, lcs_some _ _ _ k hk hn, List.drop_drop]
  rfl
theorem lcs_drop {x y : List α} {i j : Nat} {t u : α} (hx : x[i]? = some t) (hy : y[j]? = some u) : lcs (x.drop i) (y.drop j) = if t = u then lcs (x.drop (i + 1)) (y.drop (j + 1)) + 1 else max (lcs (x.drop (i + 1)) (y.drop j)) (lcs (x.drop i) (y.drop (j + 1))) := by
  obtain ⟨hl, rfl⟩ := List.getElem?_eq_some_iff.1 hx
  obtain ⟨hm, rfl⟩ := List.getElem?_eq_some_iff.1 hy
  rw [List.drop_eq_getElem_cons hl, List.drop_eq_getElem_cons hm, lcs_cons]
theorem lcs_le (x y : List α) : lcs x y ≤ x.length := by
  induction x with
  | nil => rw [lcs_nil']; exact Nat.le_refl _
  | cons a as ih => have := (lcs_step _ a as y (Nat.le_refl _)).2; simp only [List.length_cons]; omega

end
end Go.Proofs.YtmaimojpjepmjaaGreatDoor
