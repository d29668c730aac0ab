/-
  Plain laws of spans: what is left of spans without others.
-/
import Derived.Test.YtldngebikgendaaDoorUnionPlain
namespace Go.Proofs.YtldngebikgendaaDoor
open Go

def wStep (hi : Int) (st : Int × List (Int × Int)) (x : Int × Int) : Int × List (Int × Int) :=
  if x.2 ≤ st.1 ∨ hi ≤ x.1 then st else (x.2, if st.1 < x.1 then st.2 ++ [(st.1, x.1)] else st.2)
def wEnd (hi : Int) (st : Int × List (Int × Int)) : List (Int × Int) := if st.1 < hi then st.2 ++ [(st.1, hi)] else st.2
def wOne (b out : List (Int × Int)) (s : Int × Int) : List (Int × Int) := wEnd s.2 (b.foldl (wStep s.2) (s.1, out))
def withoutL (a b : List (Int × Int)) : List (Int × Int) := a.foldl (wOne b) []

theorem wStep_length (hi : Int) (st : Int × List (Int × Int)) (x : Int × Int) : (wStep hi st x).2.length ≤ st.2.length + 1 := by
  unfold wStep
  split
  · omega
  · dsimp only
    split <;> simp
theorem wFold_length (hi : Int) : ∀ (b : List (Int × Int)) (st : Int × List (Int × Int)), (b.foldl (wStep hi) st).2.length ≤ st.2.length + b.length
  | [], st => by simp
  | x :: b, st => by
    have h1 := wFold_length hi b (wStep hi st x)
    have h2 := wStep_length hi st x
    simp only [List.foldl_cons, List.length_cons]
    omega
theorem wOne_length (b out : List (Int × Int)) (s : Int × Int) : (wOne b out s).length ≤ out.length + b.length + 1 := by
  have := wFold_length s.2 b (s.1, out)
  unfold wOne wEnd
  split
  · simp at this ⊢; omega
  · simp at this ⊢; omega
theorem withoutF_length (b : List (Int × Int)) : ∀ (a out : List (Int × Int)), (a.foldl (wOne b) out).length ≤ out.length + a.length * (b.length + 1)
  | [], out => by simp
  | s :: a, out => by
    have h1 := withoutF_length b a (wOne b out s)
    have h2 := wOne_length b out s
    simp only [List.foldl_cons, List.length_cons]
    rw [Nat.add_mul, Nat.one_mul]
    omega
theorem withoutL_length (a b : List (Int × Int)) : (withoutL a b).length ≤ a.length * (b.length + 1) := by
  have := withoutF_length b a []
  simpa [withoutL] using this

/-- What the inner loop keeps: 'st' is what is known after the spans 'bp' of b. -/
structure WInv (size : Int) (b out : List (Int × Int)) (s : Int × Int) (bp : List (Int × Int)) (st : Int × List (Int × Int)) : Prop where
  past : ∀ y ∈ bp, y.2 ≤ st.1 ∨ s.2 ≤ y.1
  from_ : s.1 ≤ st.1
  right : Right size (-1) st.2
  last : lastTo (-1) st.2 < st.1
  last2 : lastTo (-1) st.2 ≤ s.2
  cover : ∀ i : Nat, inS st.2 i = (inS out i || (decide (s.1 ≤ i ∧ (i : Int) < st.1 ∧ (i : Int) < s.2) && !inS b i))

theorem not_inS {l : List (Int × Int)} {i : Nat} (h : ∀ y ∈ l, y.2 ≤ i ∨ (i : Int) < y.1) : inS l i = false := by
  rw [inS, List.any_eq_false]
  intro y hy
  have := h y hy
  simp; omega
theorem in_inS {l : List (Int × Int)} {i : Nat} (y : Int × Int) (hy : y ∈ l) (h : y.1 ≤ i ∧ (i : Int) < y.2) : inS l i = true := by
  rw [inS, List.any_eq_true]
  exact ⟨y, hy, by simpa using h⟩
theorem inS_single (a b : Int) (i : Nat) : inS [(a, b)] i = decide (a ≤ i ∧ (i : Int) < b) := by simp [inS]

theorem Right.before {size : Int} : ∀ {lo : Int} {l m : List (Int × Int)} {x : Int × Int}, Right size lo (l ++ x :: m) → (∀ y ∈ l, y.2 < x.1) ∧ (∀ y ∈ m, x.2 < y.1) ∧ x.1 < x.2 ∧ lo < x.1 ∧ x.2 ≤ size
  | lo, [], m, x, ⟨a, b, c, d⟩ => ⟨fun _ h => by (cases h), fun y hy => (d.mem y hy).1, b, a, c⟩
  | lo, z :: l, m, x, ⟨a, b, c, d⟩ => by
    obtain ⟨h1, h2, h3, h4, h5⟩ := Right.before d
    refine ⟨fun y hy => ?_, h2, h3, by omega, h5⟩
    rcases List.mem_cons.1 hy with rfl | hy
    · exact h4
    · exact h1 y hy

theorem WInv.step {size : Int} {b out : List (Int × Int)} {s x : Int × Int} {bp rest : List (Int × Int)} {st : Int × List (Int × Int)} (hb : Right size (-1) b) (he : b = bp ++ x :: rest) (hs : s.2 ≤ size) (_hs0 : -1 < s.1)
    (h : WInv size b out s bp st) : WInv size b out s (bp ++ [x]) (wStep s.2 st x) := by
  rw [he] at hb
  obtain ⟨b1, b2, b3, b4, b5⟩ := hb.before
  unfold wStep
  by_cases hc : x.2 ≤ st.1 ∨ s.2 ≤ x.1
  · rw [if_pos hc]
    refine ⟨fun y hy => ?_, h.from_, h.right, h.last, h.last2, h.cover⟩
    rcases List.mem_append.1 hy with hy | hy
    · exact h.past y hy
    · simp at hy; subst hy; exact hc
  · rw [if_neg hc]
    have hc1 : st.1 < x.2 := by omega
    have hc2 : x.1 < s.2 := by omega
    have past' : ∀ y ∈ bp ++ [x], y.2 ≤ x.2 ∨ s.2 ≤ y.1 := by
      intro y hy
      rcases List.mem_append.1 hy with hy | hy
      · have := b1 y hy; omega
      · simp at hy; subst hy; omega
    have hnb : ∀ i : Nat, st.1 ≤ i → (i : Int) < x.1 → inS b i = false := by
      intro i h1 h2
      apply not_inS
      intro y hy
      rw [he] at hy
      rcases List.mem_append.1 hy with hy | hy
      · have := h.past y hy
        have := b1 y hy
        omega
      · rcases List.mem_cons.1 hy with rfl | hy
        · omega
        · have := b2 y hy; omega
    have hyb : ∀ i : Nat, x.1 ≤ i → (i : Int) < x.2 → inS b i = true := fun i h1 h2 => in_inS x (by rw [he]; simp) ⟨h1, h2⟩
    have hf := h.from_
    have hl := h.last
    by_cases hd : st.1 < x.1
    · rw [if_pos hd]
      refine ⟨past', by dsimp only; omega, h.right.snoc hl hd (by dsimp only; omega), by dsimp only; rw [lastTo_snoc]; dsimp only; omega, by dsimp only; rw [lastTo_snoc]; dsimp only; omega, fun i => ?_⟩
      dsimp only
      rw [inS_append, h.cover i, inS_single, Bool.or_assoc]
      congr 1
      by_cases c1 : (i : Int) < st.1
      · have e1 : decide (st.1 ≤ (i : Int) ∧ (i : Int) < x.1) = false := by simp; omega
        have e2 : decide (s.1 ≤ (i : Int) ∧ (i : Int) < x.2 ∧ (i : Int) < s.2) = decide (s.1 ≤ (i : Int) ∧ (i : Int) < st.1 ∧ (i : Int) < s.2) := by apply decide_eq_decide.2; omega
        rw [e1, e2, Bool.or_false]
      · have e1 : decide (s.1 ≤ (i : Int) ∧ (i : Int) < st.1 ∧ (i : Int) < s.2) = false := by simp; omega
        rw [e1, Bool.false_and, Bool.false_or]
        by_cases c2 : (i : Int) < x.1
        · have e2 : decide (st.1 ≤ (i : Int) ∧ (i : Int) < x.1) = true := by simp; omega
          have e3 : decide (s.1 ≤ (i : Int) ∧ (i : Int) < x.2 ∧ (i : Int) < s.2) = true := by simp; omega
          rw [e2, e3, hnb i (by omega) c2]; rfl
        · have e2 : decide (st.1 ≤ (i : Int) ∧ (i : Int) < x.1) = false := by simp; omega
          rw [e2]
          by_cases c3 : (i : Int) < x.2
          · rw [hyb i (by omega) c3]; simp
          · have e3 : decide (s.1 ≤ (i : Int) ∧ (i : Int) < x.2 ∧ (i : Int) < s.2) = false := by simp; omega
            rw [e3]; rfl
    · rw [if_neg hd]
      refine ⟨past', by dsimp only; omega, h.right, by dsimp only; omega, h.last2, fun i => ?_⟩
      dsimp only
      rw [h.cover i]
      congr 1
      by_cases c1 : (i : Int) < st.1
      · have e2 : decide (s.1 ≤ (i : Int) ∧ (i : Int) < x.2 ∧ (i : Int) < s.2) = decide (s.1 ≤ (i : Int) ∧ (i : Int) < st.1 ∧ (i : Int) < s.2) := by apply decide_eq_decide.2; omega
        rw [e2]
      · have e1 : decide (s.1 ≤ (i : Int) ∧ (i : Int) < st.1 ∧ (i : Int) < s.2) = false := by simp; omega
        rw [e1, Bool.false_and]
        by_cases c3 : (i : Int) < x.2
        · rw [hyb i (by omega) c3]; simp
        · have e3 : decide (s.1 ≤ (i : Int) ∧ (i : Int) < x.2 ∧ (i : Int) < s.2) = false := by simp; omega
          rw [e3]; rfl

theorem WInv.fold {size : Int} {b out : List (Int × Int)} {s : Int × Int} (hb : Right size (-1) b) (hs : s.2 ≤ size) (hs0 : -1 < s.1) : ∀ (rest bp : List (Int × Int)) (st : Int × List (Int × Int)), b = bp ++ rest → WInv size b out s bp st →
    WInv size b out s b (rest.foldl (wStep s.2) st)
  | [], bp, st, he, h => by
    rw [List.append_nil] at he
    subst he
    exact h
  | x :: rest, bp, st, he, h => WInv.fold hb hs hs0 rest (bp ++ [x]) (wStep s.2 st x) (by rw [he]; simp) (h.step hb he hs hs0)

theorem wOne_right {size : Int} {b out : List (Int × Int)} {s : Int × Int} (hb : Right size (-1) b) (hs0 : -1 < s.1) (hs1 : s.1 < s.2) (hs : s.2 ≤ size) (ho : Right size (-1) out) (hl : lastTo (-1) out < s.1) :
    Right size (-1) (wOne b out s) ∧ lastTo (-1) (wOne b out s) ≤ s.2 ∧ ∀ i : Nat, inS (wOne b out s) i = (inS out i || (decide (s.1 ≤ i ∧ (i : Int) < s.2) && !inS b i)) := by
  have h0 : WInv size b out s [] (s.1, out) := ⟨fun y hy => by (cases hy), Int.le_refl _, ho, hl, by dsimp only; omega, fun i => by
    have e : decide (s.1 ≤ (i : Int) ∧ (i : Int) < (s.1, out).1 ∧ (i : Int) < s.2) = false := by simp; omega
    rw [e, Bool.false_and, Bool.or_false]⟩
  have h := WInv.fold hb hs hs0 b [] (s.1, out) rfl h0
  unfold wOne wEnd
  generalize b.foldl (wStep s.2) (s.1, out) = st at h
  have hf := h.from_
  by_cases hc : st.1 < s.2
  · rw [if_pos hc]
    refine ⟨h.right.snoc h.last hc hs, by rw [lastTo_snoc]; exact Int.le_refl _, fun i => ?_⟩
    rw [inS_append, h.cover i, inS_single, Bool.or_assoc]
    congr 1
    by_cases c1 : (i : Int) < st.1
    · have e1 : decide (st.1 ≤ (i : Int) ∧ (i : Int) < s.2) = false := by simp; omega
      have e2 : decide (s.1 ≤ (i : Int) ∧ (i : Int) < s.2) = decide (s.1 ≤ (i : Int) ∧ (i : Int) < st.1 ∧ (i : Int) < s.2) := by apply decide_eq_decide.2; omega
      rw [e1, e2, Bool.or_false]
    · have e1 : decide (s.1 ≤ (i : Int) ∧ (i : Int) < st.1 ∧ (i : Int) < s.2) = false := by simp; omega
      rw [e1, Bool.false_and, Bool.false_or]
      by_cases c2 : (i : Int) < s.2
      · have e2 : inS b i = false := not_inS fun y hy => by have := h.past y hy; omega
        have e3 : decide (st.1 ≤ (i : Int) ∧ (i : Int) < s.2) = true := by simp; omega
        have e4 : decide (s.1 ≤ (i : Int) ∧ (i : Int) < s.2) = true := by simp; omega
        rw [e2, e3, e4]; rfl
      · have e3 : decide (st.1 ≤ (i : Int) ∧ (i : Int) < s.2) = false := by simp; omega
        have e4 : decide (s.1 ≤ (i : Int) ∧ (i : Int) < s.2) = false := by simp; omega
        rw [e3, e4]; rfl
  · rw [if_neg hc]
    refine ⟨h.right, h.last2, fun i => ?_⟩
    rw [h.cover i]
    congr 2
    apply decide_eq_decide.2; omega

theorem withoutF_right {size : Int} {b : List (Int × Int)} (hb : Right size (-1) b) : ∀ (a out : List (Int × Int)) (lo : Int), -1 ≤ lo → Right size lo a → Right size (-1) out → lastTo (-1) out ≤ lo →
    Right size (-1) (a.foldl (wOne b) out) ∧ ∀ i : Nat, inS (a.foldl (wOne b) out) i = (inS out i || (inS a i && !inS b i))
  | [], out, _, _, _, ho, _ => ⟨ho, fun i => by simp [inS_nil]⟩
  | s :: a, out, lo, h0, ⟨s1, s2, s3, s4⟩, ho, hl => by
    obtain ⟨r1, r2, r3⟩ := wOne_right (s := s) hb (by omega) s2 s3 ho (by omega)
    obtain ⟨r4, r5⟩ := withoutF_right hb a (wOne b out s) s.2 (by omega) s4 r1 r2
    refine ⟨r4, fun i => ?_⟩
    show inS (a.foldl (wOne b) (wOne b out s)) i = _
    rw [r5, r3, inS_cons s a, Bool.or_assoc, Bool.and_or_distrib_right]

theorem withoutL_right {size : Int} {a b : List (Int × Int)} (ha : Right size (-1) a) (hb : Right size (-1) b) :
    Right size (-1) (withoutL a b) ∧ ∀ i : Nat, inS (withoutL a b) i = (inS a i && !inS b i) := by
  have := withoutF_right hb a [] (-1) (by omega) ha trivial (by decide)
  exact ⟨this.1, fun i => by have h := this.2 i; rwa [inS_nil, Bool.false_or] at h⟩

end Go.Proofs.YtldngebikgendaaDoor
