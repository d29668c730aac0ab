
/-
  The text form of items: lines cut and put together, quoted names, numbers. Plain lists.
-/
import Derived.Test.YthogkcgklakibaaGreatDoorTokPlain
import Derived.Lib.Join
import Derived.Lib.Atoi
import Derived.Lib.ItoaLen
namespace Go.Proofs.YthogkcgklakibaaGreatDoor
open Go

theorem splitC_none {c : UInt8} {a : List UInt8} (h : c ∉ a) : splitC c a = [a] := by
  have := splitC_word (c := c) (s := []) (t := []) (ts := []) rfl a h
  simpa using this
theorem splitC_app {c : UInt8} {a r : List UInt8} (h : c ∉ a) : splitC c (a ++ c :: r) = a :: splitC c r := by
  have := splitC_word (splitC_eq c r) a h
  simpa using this
/-- Lines, each ended. -/
def flatN (L : List (List UInt8)) : List UInt8 := L.flatMap fun a => a ++ [10]
theorem flatN_cons (a : List UInt8) (L : List (List UInt8)) : flatN (a :: L) = a ++ 10 :: flatN L := by simp [flatN]
theorem flatN_append (L M : List (List UInt8)) : flatN (L ++ M) = flatN L ++ flatN M := by simp [flatN]
theorem split_flat : ∀ L : List (List UInt8), L ≠ [] → (∀ a ∈ L, (10 : UInt8) ∉ a) → ∃ t, flatN L = t ++ [10] ∧ splitC 10 t = L
  | [], h, _ => absurd rfl h
  | [a], _, h => ⟨a, by simp [flatN], splitC_none (h a (by simp))⟩
  | a :: b :: L, _, h => by
    obtain ⟨t, h1, h2⟩ := split_flat (b :: L) (by simp) (fun x hx => h x (by simp [hx]))
    refine ⟨a ++ 10 :: t, by rw [flatN_cons, h1]; simp, ?_⟩
    rw [splitC_app (h a (by simp)), h2]
theorem flat_split : ∀ t : List UInt8, flatN (splitC 10 t) = t ++ [10]
  | [] => rfl
  | b :: t => by
    have ih := flat_split t
    by_cases e : b = 10
    · subst e
      rw [splitC_eq, flatN_cons, ih]
      rfl
    · obtain ⟨u, us, hu⟩ := splitC_ne 10 t
      rw [splitC_cons e hu]
      rw [hu, flatN_cons] at ih
      rw [flatN_cons, List.cons_append, ih]
      rfl
theorem splitC_not (c : UInt8) : ∀ t : List UInt8, ∀ a ∈ splitC c t, c ∉ a
  | [], a, ha => by simp [splitC] at ha; subst ha; simp
  | b :: t, a, ha => by
    have ih := splitC_not c t
    by_cases e : b = c
    · subst e
      rw [splitC_eq] at ha
      rcases List.mem_cons.1 ha with rfl | ha
      · simp
      · exact ih a ha
    · obtain ⟨u, us, hu⟩ := splitC_ne c t
      rw [splitC_cons e hu] at ha
      rw [hu] at ih
      rcases List.mem_cons.1 ha with rfl | ha
      · have := ih u (by simp)
        simp only [List.mem_cons, not_or]
        exact ⟨fun e2 => e e2.symm, this⟩
      · exact ih a (by simp [ha])
theorem splitC_len (c : UInt8) : ∀ t : List UInt8, (splitC c t).length ≤ t.length + 1
  | [] => by simp [splitC]
  | b :: t => by
    have ih := splitC_len c t
    by_cases e : b = c
    · subst e; rw [splitC_eq]; simp; omega
    · obtain ⟨u, us, hu⟩ := splitC_ne c t
      rw [splitC_cons e hu]
      rw [hu] at ih
      simp at ih ⊢
      omega
theorem splitC_each (c : UInt8) : ∀ t : List UInt8, ∀ a ∈ splitC c t, a.length ≤ t.length
  | [], a, ha => by simp [splitC] at ha; subst ha; simp
  | b :: t, a, ha => by
    have ih := splitC_each c t
    by_cases e : b = c
    · subst e
      rw [splitC_eq] at ha
      rcases List.mem_cons.1 ha with rfl | ha
      · simp
      · have := ih a ha; simp; omega
    · obtain ⟨u, us, hu⟩ := splitC_ne c t
      rw [splitC_cons e hu] at ha
      rw [hu] at ih
      rcases List.mem_cons.1 ha with rfl | ha
      · have := ih u (by simp); simp; omega
      · have := ih a (by simp [ha]); simp; omega
theorem splitC_join {c : UInt8} : ∀ L : List (List UInt8), L ≠ [] → (∀ a ∈ L, c ∉ a) → splitC c (Lib.join L [c]) = L
  | [], h, _ => absurd rfl h
  | [a], _, h => by
    have e : Lib.join [a] [c] = a := by simp [Lib.join, List.intercalate, List.intersperse]
    rw [e]
    exact splitC_none (h a (by simp))
  | a :: b :: L, _, h => by
    have e : Lib.join (a :: b :: L) [c] = a ++ c :: Lib.join (b :: L) [c] := by simp [Lib.join, List.intercalate, List.intersperse]
    rw [e, splitC_app (h a (by simp)), splitC_join (b :: L) (by simp) (fun x hx => h x (by simp [hx]))]
theorem join_not {c d : UInt8} (hcd : c ≠ d) : ∀ L : List (List UInt8), (∀ a ∈ L, c ∉ a) → c ∉ Lib.join L [d]
  | [], _ => by simp [Lib.join, List.intercalate, List.intersperse]
  | [a], h => by
    have e : Lib.join [a] [d] = a := by simp [Lib.join, List.intercalate, List.intersperse]
    rw [e]
    exact h a (by simp)
  | a :: b :: L, h => by
    have e : Lib.join (a :: b :: L) [d] = a ++ d :: Lib.join (b :: L) [d] := by simp [Lib.join, List.intercalate, List.intersperse]
    have ih := join_not hcd (b :: L) (fun x hx => h x (by simp [hx]))
    rw [e]
    simp only [List.mem_append, List.mem_cons, not_or]
    exact ⟨h a (by simp), hcd, ih⟩
/-- A hexadecimal digit. -/
def hexT : List UInt8 := [48, 49, 50, 51, 52, 53, 54, 55, 56, 57, 97, 98, 99, 100, 101, 102]
def hexD (i : Nat) : UInt8 := hexT.getD i 48
/-- A byte within quotes. -/
def quoB (c : UInt8) : List UInt8 := if c = 34 ∨ c = 92 then [92, c] else if c = 10 then [92, 110] else if c < 33 ∨ 126 < c then [92, 120, hexD (c.toNat / 16), hexD (c.toNat % 16)] else [c]
def quoS (s : List UInt8) : List UInt8 := 34 :: (s.flatMap quoB ++ [34])
theorem hexD_ok : ∀ i : Fin 16, (hexD i.val ≠ 32 ∧ hexD i.val ≠ 10) := by decide
theorem quoB_facts (c : UInt8) : quoB c ≠ [] ∧ (quoB c).length ≤ 4 ∧ (∀ b ∈ quoB c, b ≠ 32 ∧ b ≠ 10) ∧ (quoB c).head? ≠ some 34 := by
  unfold quoB
  have h16 : c.toNat / 16 < 16 := by have := c.toNat_lt; omega
  have hm : c.toNat % 16 < 16 := Nat.mod_lt _ (by decide)
  have a1 := hexD_ok ⟨_, h16⟩
  have a2 := hexD_ok ⟨_, hm⟩
  simp only at a1 a2
  split
  · rename_i h
    refine ⟨by simp, by simp, fun b hb => ?_, by simp⟩
    simp only [List.mem_cons, List.not_mem_nil, or_false] at hb
    rcases hb with rfl | rfl
    · decide
    · rcases h with rfl | rfl <;> decide
  · rename_i h
    split
    · exact ⟨by simp, by simp, fun b hb => by
        simp only [List.mem_cons, List.not_mem_nil, or_false] at hb
        rcases hb with rfl | rfl <;> decide, by simp⟩
    · rename_i h2
      split
      · refine ⟨by simp, by simp, fun b hb => ?_, by simp⟩
        simp only [List.mem_cons, List.not_mem_nil, or_false] at hb
        rcases hb with rfl | rfl | rfl | rfl
        · decide
        · decide
        · exact a1
        · exact a2
      · rename_i h3
        refine ⟨by simp, by simp, fun b hb => ?_, fun e => h (.inl (by simpa using e))⟩
        rw [List.mem_singleton] at hb
        subst hb
        exact ⟨fun e => h3 (.inl (by rw [e]; decide)), h2⟩
theorem quoS_not (s : List UInt8) : (32 : UInt8) ∉ quoS s ∧ (10 : UInt8) ∉ quoS s := by
  have h : ∀ b ∈ quoS s, b ≠ 32 ∧ b ≠ 10 := fun b hb => by
    unfold quoS at hb
    simp only [List.mem_cons, List.mem_append, List.mem_flatMap, List.not_mem_nil, or_false] at hb
    rcases hb with rfl | ⟨c, _, hc⟩ | rfl
    · decide
    · exact (quoB_facts c).2.2.1 b hc
    · decide
  exact ⟨fun e => (h 32 e).1 rfl, fun e => (h 10 e).2 rfl⟩
theorem quo_len : ∀ s : List UInt8, (s.flatMap quoB).length ≤ 4 * s.length
  | [] => by simp
  | c :: s => by
    have := quo_len s
    have := (quoB_facts c).2.1
    rw [List.flatMap_cons, List.length_append, List.length_cons]
    omega
/-- Digits. -/
theorem digit_of (u : Nat) (h : u < 10) : (UInt8.ofNat (48 + u)).toNat = 48 + u := by
  simp; omega
theorem dec_digits (u : Nat) : (∀ b ∈ Lib.decDigits u, 48 ≤ b.toNat ∧ b.toNat ≤ 57) ∧ Lib.decDigits u ≠ [] := by
  induction u using Nat.strongRecOn with
  | _ u ih =>
    rw [Lib.decDigits]
    split
    · rename_i h
      refine ⟨fun b hb => ?_, by simp⟩
      rw [List.mem_singleton] at hb
      subst hb
      rw [digit_of u h]
      omega
    · rename_i h
      obtain ⟨h1, h2⟩ := ih (u / 10) (by omega)
      refine ⟨fun b hb => ?_, by simp⟩
      rw [List.mem_append, List.mem_singleton] at hb
      rcases hb with hb | rfl
      · exact h1 b hb
      · rw [digit_of (u % 10) (by omega)]
        omega
theorem decFrom_append : ∀ (l m : List UInt8) (a : Nat), Lib.decFrom a (l ++ m) = (Lib.decFrom a l).bind fun x => Lib.decFrom x m
  | [], m, a => rfl
  | b :: l, m, a => by
    simp only [List.cons_append, Lib.decFrom]
    cases Lib.digitVal b with
    | none => rfl
    | some d => exact decFrom_append l m _
theorem digitVal_of (u : Nat) (h : u < 10) : Lib.digitVal (UInt8.ofNat (48 + u)) = some u := by
  unfold Lib.digitVal
  rw [digit_of u h, if_pos (by omega)]
  congr 1
  omega
theorem dec_from (u : Nat) : Lib.decFrom 0 (Lib.decDigits u) = some u := by
  induction u using Nat.strongRecOn with
  | _ u ih =>
    rw [Lib.decDigits]
    split
    · rename_i h
      simp only [Lib.decFrom, digitVal_of u h]
      simp
    · rename_i h
      rw [decFrom_append, ih (u / 10) (by omega)]
      simp only [Option.bind_some, Lib.decFrom, digitVal_of (u % 10) (by omega)]
      congr 1
      omega
theorem dec_lead (u : Nat) : (Lib.decDigits u).head? = some 48 → u = 0 := by
  induction u using Nat.strongRecOn with
  | _ u ih =>
    rw [Lib.decDigits]
    split
    · rename_i h
      intro e
      simp only [List.head?_cons, Option.some.injEq] at e
      have := congrArg UInt8.toNat e
      rw [digit_of u h] at this
      simp at this
      omega
    · rename_i h
      intro e
      have hne := (dec_digits (u / 10)).2
      obtain ⟨b, r, hb⟩ := List.exists_cons_of_ne_nil hne
      have h1 : (Lib.decDigits (u / 10)).head? = some 48 := by
        rw [hb] at e ⊢
        simpa using e
      have := ih (u / 10) (by omega) h1
      omega
theorem dec_len {u : Nat} (h : u < 1000000000) : 1 ≤ (Lib.decDigits u).length ∧ (Lib.decDigits u).length ≤ 9 := by
  rw [Lib.decDigits_length]
  refine ⟨Lib.nDigits_pos u, ?_⟩
  have key : ∀ (k v : Nat), v < 10 ^ (k + 1) → Lib.nDigits v ≤ k + 1 := by
    intro k
    induction k with
    | zero => intro v hv; rw [Lib.nDigits_small (by simpa using hv)]; omega
    | succ k ih =>
      intro v hv
      by_cases h10 : v < 10
      · rw [Lib.nDigits_small h10]; omega
      · rw [Lib.nDigits_big h10]
        have := ih (v / 10) (by rw [Nat.pow_succ] at hv; omega)
        omega
  exact key 8 u h
theorem dec_not (u : Nat) : (32 : UInt8) ∉ Lib.decDigits u ∧ (10 : UInt8) ∉ Lib.decDigits u ∧ (45 : UInt8) ∉ Lib.decDigits u := by
  have h := (dec_digits u).1
  refine ⟨fun e => ?_, fun e => ?_, fun e => ?_⟩ <;> (have := h _ e; revert this; decide)
theorem atoi_dec (u : Nat) : Lib.atoi (Lib.decDigits u) = some (u : Int) := by
  have h1 := dec_from u
  obtain ⟨hd, hne⟩ := dec_digits u
  obtain ⟨b, r, hb⟩ := List.exists_cons_of_ne_nil hne
  rw [hb] at h1 hd ⊢
  have hb1 := hd b (by simp)
  unfold Lib.atoi
  have e1 : (b == 45) = false := by
    rw [beq_eq_false_iff_ne]
    intro e
    subst e
    revert hb1
    decide
  have e2 : (b == 43) = false := by
    rw [beq_eq_false_iff_ne]
    intro e
    subst e
    revert hb1
    decide
  simp only [e1, e2]
  unfold Lib.decNat
  simp [h1]
end Go.Proofs.YthogkcgklakibaaGreatDoor
