
/-
  Paragraphs of a string, their forms, and what is left of a string without some of them. Plain lists.
-/
import Derived.Test.YtabdjkcediolcaaGreatDoorNearPlain
import Derived.Test.YtabdjkcediolcaaGreatDoorTokPlain
import Derived.Lib.Join
namespace Go.Proofs.YtabdjkcediolcaaGreatDoor
open Go

abbrev Str := List UInt8
def blankL (s : Str) : Bool := s.all (· == 32)
def putLast (ps : List (List Str)) (s : Str) : List (List Str) := ps.dropLast ++ [ps.getLastD [] ++ [s]]
def paraStep (st : Bool × List (List Str)) (s : Str) : Bool × List (List Str) :=
  if blankL s then (false, st.2) else (true, putLast (if st.1 then st.2 else st.2 ++ [[]]) s)
def paraGo (ls : List Str) (st : Bool × List (List Str)) : Bool × List (List Str) := ls.foldl paraStep st
def parasL (L : Str) : List (List Str) := (paraGo (splitC 10 L) (false, [])).2
theorem paraGo_snoc (ls : List Str) (s : Str) (st) : paraGo (ls ++ [s]) st = paraStep (paraGo ls st) s := by simp [paraGo]
theorem putLast_snoc (ps : List (List Str)) (p : List Str) (s : Str) : putLast (ps ++ [p]) s = ps ++ [p ++ [s]] := by simp [putLast]

/-- Lines with a line feed behind each. -/
def linesT (p : List Str) : Str := p.flatMap (· ++ [10])
def textOf : List (List Str) → Str
  | [] => []
  | [p] => linesT p
  | p :: q :: ps => linesT p ++ 10 :: textOf (q :: ps)
theorem join_two (a b : Str) (r : List Str) (sep : Str) : Lib.join (a :: b :: r) sep = a ++ (sep ++ Lib.join (b :: r) sep) := by simp [Lib.join, List.intercalate, List.intersperse]
theorem join_lines : ∀ (p : List Str), p ≠ [] → Lib.join p [10] ++ [10] = linesT p
  | [], h => absurd rfl h
  | [a], _ => by rw [Lib.join_one]; simp [linesT]
  | a :: b :: r, _ => by
    have ih := join_lines (b :: r) (by simp)
    have e : linesT (a :: b :: r) = a ++ ([10] ++ linesT (b :: r)) := by simp [linesT]
    rw [join_two, e, ← ih]
    simp
theorem join_text : ∀ (ks : List (List Str)), (∀ p ∈ ks, p ≠ []) → Lib.join (ks.map fun p => Lib.join p [10] ++ [10]) [10] = textOf ks
  | [], _ => rfl
  | [p], h => by rw [List.map_cons, List.map_nil, Lib.join_one, textOf]; exact join_lines p (h p (by simp))
  | p :: q :: ps, h => by
    have ih := join_text (q :: ps) (fun x hx => h x (List.mem_cons_of_mem _ hx))
    rw [List.map_cons] at ih
    rw [List.map_cons, List.map_cons, join_two, ih, join_lines p (h p (by simp)), textOf]
    simp
theorem split_lines : ∀ (p : List Str) (r : Str), (∀ s ∈ p, 10 ∉ s) → splitC 10 (linesT p ++ r) = p ++ splitC 10 r
  | [], r, _ => by simp [linesT]
  | s :: p, r, h => by
    have ih := split_lines p r (fun x hx => h x (List.mem_cons_of_mem _ hx))
    have e : linesT (s :: p) ++ r = s ++ (10 :: (linesT p ++ r)) := by simp [linesT]
    rw [e, splitC_word (t := []) (ts := splitC 10 (linesT p ++ r)) (by rw [splitC_eq]) s (h s (by simp)), ih]
    simp
/-- A right paragraph: some lines, none blank, none with a line feed. -/
def RightP (p : List Str) : Prop := p ≠ [] ∧ ∀ s ∈ p, blankL s = false ∧ 10 ∉ s
theorem paraGo_open : ∀ (p : List Str) (acc : List (List Str)) (q : List Str), (∀ s ∈ p, blankL s = false) → paraGo p (true, acc ++ [q]) = (true, acc ++ [q ++ p])
  | [], acc, q, _ => by simp [paraGo]
  | s :: p, acc, q, h => by
    have ih := paraGo_open p acc (q ++ [s]) (fun x hx => h x (List.mem_cons_of_mem _ hx))
    have hs := h s (by simp)
    have e : paraGo (s :: p) (true, acc ++ [q]) = paraGo p (true, acc ++ [q ++ [s]]) := by
      show paraGo p (paraStep (true, acc ++ [q]) s) = _
      rw [paraStep, hs]
      simp [putLast_snoc]
    rw [e, ih]
    simp
theorem paraGo_para (p : List Str) (acc : List (List Str)) (h : RightP p) : paraGo p (false, acc) = (true, acc ++ [p]) := by
  obtain ⟨h0, h1⟩ := h
  cases p with
  | nil => exact absurd rfl h0
  | cons s p =>
    have hs := (h1 s (by simp)).1
    have e : paraGo (s :: p) (false, acc) = paraGo p (true, acc ++ [[s]]) := by
      show paraGo p (paraStep (false, acc) s) = _
      rw [paraStep, hs]
      simp [putLast_snoc]
    rw [e, paraGo_open p acc [s] (fun x hx => (h1 x (List.mem_cons_of_mem _ hx)).1)]
    simp
theorem paraGo_append (a b : List Str) (st) : paraGo (a ++ b) st = paraGo b (paraGo a st) := by simp [paraGo]
theorem paraGo_text : ∀ (ks : List (List Str)) (acc : List (List Str)), (∀ p ∈ ks, RightP p) → (paraGo (splitC 10 (textOf ks)) (false, acc)) = (false, acc ++ ks)
  | [], acc, _ => by simp [textOf, splitC, paraGo, paraStep, blankL]
  | [p], acc, h => by
    have hp := h p (by simp)
    have e := split_lines p [] (fun s hs => (hp.2 s hs).2)
    simp only [textOf]
    rw [List.append_nil] at e
    rw [e, paraGo_append, paraGo_para p acc hp]
    simp [splitC, paraGo, paraStep, blankL]
  | p :: q :: ps, acc, h => by
    have hp := h p (by simp)
    have ih := paraGo_text (q :: ps) (acc ++ [p]) (fun x hx => h x (List.mem_cons_of_mem _ hx))
    simp only [textOf]
    rw [split_lines p _ (fun s hs => (hp.2 s hs).2), paraGo_append, paraGo_para p acc hp, splitC_eq]
    show paraGo (splitC 10 (textOf (q :: ps))) (paraStep (true, acc ++ [p]) []) = _
    have e : paraStep (true, acc ++ [p]) [] = (false, acc ++ [p]) := by simp [paraStep, blankL]
    rw [e, ih]
    simp
theorem parasL_text (ks : List (List Str)) (h : ∀ p ∈ ks, RightP p) : parasL (textOf ks) = ks := by
  unfold parasL; rw [paraGo_text ks [] h]; simp
/-- The paragraphs of a string are right. -/
theorem paraGo_right : ∀ (ls : List Str) (st : Bool × List (List Str)), (∀ s ∈ ls, 10 ∉ s) → (∀ p ∈ st.2, RightP p) → (st.1 = true → st.2 ≠ []) → (∀ p ∈ (paraGo ls st).2, RightP p)
  | [], st, _, h, _ => h
  | s :: ls, st, hl, h, hn => by
    have e : paraGo (s :: ls) st = paraGo ls (paraStep st s) := rfl
    rw [e]
    refine paraGo_right ls _ (fun x hx => hl x (List.mem_cons_of_mem _ hx)) ?_ ?_
    · unfold paraStep
      split
      · exact h
      · rename_i hb
        have hs : blankL s = false ∧ 10 ∉ s := ⟨by simpa using hb, hl s (by simp)⟩
        intro p hp
        cases ho : st.1 with
        | false =>
          simp only [ho, putLast_snoc, Bool.false_eq_true, if_false, List.mem_append, List.mem_singleton] at hp
          rcases hp with hp | rfl
          · exact h p hp
          · exact ⟨by simp, fun x hx => by simp at hx; subst hx; exact hs⟩
        | true =>
          have h1 := hn ho
          simp only [ho, if_true] at hp
          obtain ⟨ps, q, hps⟩ : ∃ ps q, st.2 = ps ++ [q] := ⟨_, _, (List.dropLast_concat_getLast h1).symm⟩
          rw [hps, putLast_snoc, List.mem_append, List.mem_singleton] at hp
          rcases hp with hp | rfl
          · exact h p (by rw [hps]; exact List.mem_append_left _ hp)
          · have hq := h q (by rw [hps]; simp)
            refine ⟨by simp, fun x hx => ?_⟩
            rcases List.mem_append.1 hx with hx | hx
            · exact hq.2 x hx
            · simp at hx; subst hx; exact hs
    · unfold paraStep
      split
      · intro h; cases h
      · intro _; simp [putLast]
theorem parasL_right (L : Str) : ∀ p ∈ parasL L, RightP p :=
  paraGo_right _ _ (fun s hs => (splitC_mem 10 L s hs).1) (fun p hp => by cases hp) (fun h => by cases h)

def costP (p : List Str) : Nat := (p.map fun s => s.length + 1).sum
def costL (ps : List (List Str)) : Nat := (ps.map fun p => costP p + 1).sum
theorem costL_append (a b : List (List Str)) : costL (a ++ b) = costL a + costL b := by simp [costL]
theorem costP_append (a b : List Str) : costP (a ++ b) = costP a + costP b := by simp [costP]
theorem paraGo_cost : ∀ (ls : List Str) (st : Bool × List (List Str)) (t : Nat), (st.1 = true → st.2 ≠ []) → costL st.2 ≤ t + (if st.1 then 1 else 0) → costL (paraGo ls st).2 ≤ t + costP ls + 1
  | [], st, t, _, h => by
    show costL st.2 ≤ _
    split at h <;> simp [costP] <;> omega
  | s :: ls, st, t, hn, h => by
    have e : paraGo (s :: ls) st = paraGo ls (paraStep st s) := rfl
    have ec : costP (s :: ls) = s.length + 1 + costP ls := by simp [costP]
    rw [e]
    have := paraGo_cost ls (paraStep st s) (t + (s.length + 1)) ?_ ?_
    · rw [ec]; omega
    · unfold paraStep
      split
      · intro h; cases h
      · intro _; simp [putLast]
    · unfold paraStep
      split
      · simp only [Bool.false_eq_true, if_false]
        split at h <;> omega
      · cases ho : st.1 with
        | false =>
          rw [ho] at h
          simp only [Bool.false_eq_true, if_false, putLast_snoc, costL_append, if_true] at h ⊢
          have : costL [[] ++ [s]] = s.length + 1 + 1 := by simp [costL, costP]
          omega
        | true =>
          rw [ho] at h
          have h1 := hn ho
          obtain ⟨ps, q, hps⟩ : ∃ ps q, st.2 = ps ++ [q] := ⟨_, _, (List.dropLast_concat_getLast h1).symm⟩
          rw [hps] at h ⊢
          simp only [if_true, putLast_snoc, costL_append] at h ⊢
          have e1 : costL [q ++ [s]] = costP q + (s.length + 1) + 1 := by simp [costL, costP]
          have e2 : costL [q] = costP q + 1 := by simp [costL]
          omega
theorem splitC_cost (L : Str) : costP (splitC 10 L) = L.length + 1 := by
  have h := splitC_sum 10 L
  have e : ∀ l : List Str, costP l = (l.map List.length).sum + l.length := by
    intro l
    induction l with
    | nil => rfl
    | cons a l ih => simp only [costP, List.map_cons, List.sum_cons, List.length_cons] at *; omega
  rw [e]; exact h
theorem parasL_cost (L : Str) : costL (parasL L) ≤ L.length + 2 := by
  have := paraGo_cost (splitC 10 L) (false, []) 0 (fun h => by cases h) (by simp [costL])
  rw [splitC_cost] at this
  unfold parasL; omega
theorem linesT_length (p : List Str) : (linesT p).length = costP p := by
  induction p with
  | nil => rfl
  | cons s p ih => simp only [linesT, List.flatMap_cons, List.length_append, List.length_cons, List.length_nil, costP, List.map_cons, List.sum_cons] at *; omega
theorem textOf_length : ∀ ks : List (List Str), (textOf ks).length ≤ costL ks - 1
  | [] => by simp [textOf]
  | [p] => by simp [textOf, linesT_length, costL]
  | p :: q :: ps => by
    have ih := textOf_length (q :: ps)
    have e : costL (p :: q :: ps) = costP p + 1 + costL (q :: ps) := by simp [costL]
    have e2 : 1 ≤ costL (q :: ps) := by simp [costL]; omega
    simp only [textOf, List.length_append, List.length_cons, linesT_length]
    omega
theorem costL_filter (f : List Str → Bool) : ∀ ps : List (List Str), costL (ps.filter f) ≤ costL ps
  | [] => by simp
  | p :: ps => by
    have ih := costL_filter f ps
    have e : costL (p :: ps) = costP p + 1 + costL ps := by simp [costL]
    rw [List.filter_cons]
    split
    · have e2 : costL (p :: ps.filter f) = costP p + 1 + costL (ps.filter f) := by simp [costL]
      omega
    · omega
theorem strip_length (L : Str) (f : List Str → Bool) : (textOf ((parasL L).filter f)).length ≤ L.length + 1 := by
  have h1 := textOf_length ((parasL L).filter f)
  have h2 := costL_filter f (parasL L)
  have h3 := parasL_cost L
  omega
theorem costP_mem {p : List Str} {ps : List (List Str)} (h : p ∈ ps) : costP p + 1 ≤ costL ps := by
  induction ps with
  | nil => cases h
  | cons q ps ih =>
    have e : costL (q :: ps) = costP q + 1 + costL ps := by simp [costL]
    rcases List.mem_cons.1 h with rfl | h
    · omega
    · have := ih h; omega
theorem join_cost (p : List Str) : (Lib.join p [10]).length ≤ costP p := by
  cases p with
  | nil => simp [Lib.join_nil]
  | cons a p =>
    have h := congrArg List.length (join_lines (a :: p) (by simp))
    rw [linesT_length, List.length_append] at h
    omega
end Go.Proofs.YtabdjkcediolcaaGreatDoor
