
/-
  Plain laws of spans: what is put together covers the same; right spans are known by what they cover.
-/
import Derived.Test.YtbipkkebkddegaaGreatDoorPutPlain
import Derived.Test.YtbipkkebkddegaaGreatDoorPointsPlain
namespace Go.Proofs.YtbipkkebkddegaaGreatDoor
open Go

theorem inS_nil (i : Nat) : inS [] i = false := rfl
theorem inS_cons (x : Int × Int) (l : List (Int × Int)) (i : Nat) : inS (x :: l) i = (decide (x.1 ≤ i ∧ (i : Int) < x.2) || inS l i) := rfl
theorem inS_perm {l m : List (Int × Int)} (h : l.Perm m) (i : Nat) : inS l i = inS m i := by
  rw [Bool.eq_iff_iff]
  simp only [inS, List.any_eq_true]
  exact ⟨fun ⟨x, hx, hy⟩ => ⟨x, h.mem_iff.1 hx, hy⟩, fun ⟨x, hx, hy⟩ => ⟨x, h.mem_iff.2 hx, hy⟩⟩

theorem Right.append {size : Int} : ∀ {lo : Int} {l m : List (Int × Int)}, Right size lo (l ++ m) ↔ Right size lo l ∧ Right size (lastTo lo l) m
  | _, [], _ => ⟨fun h => ⟨trivial, h⟩, fun h => h.2⟩
  | lo, x :: l, m => by
    show (lo < x.1 ∧ x.1 < x.2 ∧ x.2 ≤ size ∧ Right size x.2 (l ++ m)) ↔ (lo < x.1 ∧ x.1 < x.2 ∧ x.2 ≤ size ∧ Right size x.2 l) ∧ Right size (lastTo x.2 l) m
    rw [Right.append]
    exact ⟨fun ⟨a, b, c, d, e⟩ => ⟨⟨a, b, c, d⟩, e⟩, fun ⟨⟨a, b, c, d⟩, e⟩ => ⟨a, b, c, d, e⟩⟩

theorem split_last (l : List (Int × Int)) (h : l ≠ []) : ∃ q p, l = q ++ [p] := ⟨l.dropLast, l.getLast h, (List.dropLast_concat_getLast h).symm⟩

theorem max_right (a b : Int) : a ≤ max a b ∧ b ≤ max a b ∧ (max a b = a ∨ max a b = b) := by omega

/-- Right spans, with one more put into them that does not begin before the last one. -/
theorem putStep_right {size : Int} {out : List (Int × Int)} {s : Int × Int} (h : Right size (-1) out) (h1 : -1 < s.1) (h2 : s.1 < s.2) (h3 : s.2 ≤ size) (h4 : ∀ q p, out = q ++ [p] → p.1 ≤ s.1) :
    Right size (-1) (putStep out s) ∧ (∀ i, inS (putStep out s) i = (inS out i || inS [s] i)) ∧ (∀ q p, putStep out s = q ++ [p] → p.1 ≤ s.1) := by
  by_cases hn : out = []
  · subst hn
    refine ⟨⟨h1, h2, h3, trivial⟩, fun i => by simp [putStep_nil, inS_nil], fun q p he => ?_⟩
    rw [putStep_nil] at he
    cases q with
    | nil => simp at he; rw [← he]; exact Int.le_refl _
    | cons y q => simp at he
  · obtain ⟨q, p, rfl⟩ := split_last out hn
    have hp := h4 q p rfl
    obtain ⟨hq, hl⟩ := Right.append.1 h
    obtain ⟨k1, k2, k3, _⟩ := hl
    have hm := max_right p.2 s.2
    by_cases hc : s.1 ≤ p.2
    · have e : putStep (q ++ [p]) s = q ++ [(p.1, max p.2 s.2)] := by simp [putStep, hc]
      rw [e]
      refine ⟨Right.append.2 ⟨hq, k1, by simp; omega, by simp; omega, trivial⟩, fun i => ?_, fun q' p' he => ?_⟩
      · rw [inS_append, inS_append, Bool.or_assoc]
        congr 1
        rw [inS_cons, inS_cons, inS_cons, inS_nil, Bool.or_false, Bool.or_false, Bool.or_false, Bool.eq_iff_iff]
        simp only [Bool.or_eq_true, decide_eq_true_eq]
        omega
      · have := List.append_inj' he rfl
        simp at this
        rw [← this.2]
        exact hp
    · have e : putStep (q ++ [p]) s = (q ++ [p]) ++ [s] := by simp [putStep, hc]
      rw [e]
      refine ⟨Right.append.2 ⟨h, by rw [lastTo_snoc]; omega, h2, h3, trivial⟩, fun i => inS_append _ _ i, fun q' p' he => ?_⟩
      have := List.append_inj' he rfl
      simp at this
      rw [← this.2]
      exact Int.le_refl _

theorem putFold_right {size : Int} : ∀ (l out : List (Int × Int)), Right size (-1) out → (∀ x ∈ l, -1 < x.1 ∧ x.1 < x.2 ∧ x.2 ≤ size) → l.Pairwise (fun x y => x.1 ≤ y.1) → (∀ q p, out = q ++ [p] → ∀ x ∈ l, p.1 ≤ x.1) →
    Right size (-1) (l.foldl putStep out) ∧ ∀ i, inS (l.foldl putStep out) i = (inS out i || inS l i)
  | [], out, h, _, _, _ => ⟨h, fun i => by simp [inS_nil]⟩
  | s :: l, out, h, hx, hs, hq => by
    obtain ⟨a, b, c⟩ := hx s (by simp)
    obtain ⟨r1, r2, r3⟩ := putStep_right h a b c (fun q p e => hq q p e s (by simp))
    have hs' := List.pairwise_cons.1 hs
    obtain ⟨r4, r5⟩ := putFold_right l (putStep out s) r1 (fun x hx' => hx x (by simp [hx'])) hs'.2 (fun q p e x hx' => Int.le_trans (r3 q p e) (hs'.1 x hx'))
    refine ⟨r4, fun i => ?_⟩
    show inS (l.foldl putStep (putStep out s)) i = _
    rw [r5, r2, inS_cons s l, Bool.or_assoc]
    congr 1
    rw [inS_cons, inS_nil, Bool.or_false]

theorem putL_right {size : Int} (l : List (Int × Int)) (hx : ∀ x ∈ l, -1 < x.1 ∧ x.1 < x.2 ∧ x.2 ≤ size) (hs : l.Pairwise (fun x y => x.1 ≤ y.1)) :
    Right size (-1) (putL l) ∧ ∀ i, inS (putL l) i = inS l i := by
  have := putFold_right l [] trivial hx hs (fun q p e => by cases q <;> simp at e)
  exact ⟨this.1, fun i => by rw [← Bool.false_or (inS l i), ← inS_nil i]; exact this.2 i⟩

theorem Right.mem {size : Int} : ∀ {lo : Int} {l : List (Int × Int)}, Right size lo l → ∀ x ∈ l, lo < x.1 ∧ x.1 < x.2 ∧ x.2 ≤ size
  | _, [], _, _, hx => by cases hx
  | lo, y :: l, ⟨a, b, c, d⟩, x, hx => by
    rcases List.mem_cons.1 hx with rfl | hx
    · exact ⟨a, b, c⟩
    · have := Right.mem d x hx
      omega

/-- Below the first span nothing is covered. -/
theorem Right.none {size : Int} {lo : Int} {l : List (Int × Int)} (h : Right size lo l) (i : Nat) (hi : (i : Int) ≤ lo) : inS l i = false := by
  rw [inS, List.any_eq_false]
  intro x hx
  have := h.mem x hx
  simp; omega

/-- Right spans are known by what they cover. -/
theorem Right.ext {size : Int} : ∀ {lo : Int} {l m : List (Int × Int)}, -1 ≤ lo → Right size lo l → Right size lo m → (∀ i, inS l i = inS m i) → l = m
  | _, [], [], _, _, _, _ => rfl
  | _, [], y :: m, h0, _, hm, he => by
    obtain ⟨a, b, c, d⟩ := hm
    have := he y.1.toNat
    rw [inS_nil, inS_cons] at this
    have h : decide (y.1 ≤ (y.1.toNat : Int) ∧ (y.1.toNat : Int) < y.2) = true := by simp; omega
    rw [h] at this
    simp at this
  | _, x :: l, [], h0, hl, _, he => by
    obtain ⟨a, b, c, d⟩ := hl
    have := he x.1.toNat
    rw [inS_nil, inS_cons] at this
    have h : decide (x.1 ≤ (x.1.toNat : Int) ∧ (x.1.toNat : Int) < x.2) = true := by simp; omega
    rw [h] at this
    simp at this
  | lo, x :: l, y :: m, h0, hl, hm, he => by
    obtain ⟨a, b, c, d⟩ := hl
    obtain ⟨a', b', c', d'⟩ := hm
    have key : ∀ (u v : Int × Int) (s t : List (Int × Int)), lo < u.1 → u.1 < u.2 → Right size u.2 s → lo < v.1 → v.1 < v.2 → Right size v.2 t → (∀ i, inS (u :: s) i = inS (v :: t) i) → v.1 ≤ u.1 := by
      intro u v s t h1 h2 h3 h4 h5 h6 h7
      have := h7 u.1.toNat
      rw [inS_cons, inS_cons] at this
      have e : decide (u.1 ≤ (u.1.toNat : Int) ∧ (u.1.toNat : Int) < u.2) = true := by simp; omega
      rw [e, Bool.true_or] at this
      rcases Decidable.em (v.1 ≤ u.1) with h | h
      · exact h
      · have e2 : decide (v.1 ≤ (u.1.toNat : Int) ∧ (u.1.toNat : Int) < v.2) = false := by simp; omega
        rw [e2, Bool.false_or, h6.none _ (by omega)] at this
        cases this
    have key2 : ∀ (u v : Int × Int) (s t : List (Int × Int)), lo < u.1 → u.1 < u.2 → Right size u.2 s → v.1 = u.1 → v.1 < v.2 → Right size v.2 t → (∀ i, inS (u :: s) i = inS (v :: t) i) → u.2 ≤ v.2 := by
      intro u v s t h1 h2 h3 h4 h5 h6 h7
      have := h7 v.2.toNat
      rw [inS_cons, inS_cons] at this
      have e : decide (v.1 ≤ (v.2.toNat : Int) ∧ (v.2.toNat : Int) < v.2) = false := by simp; omega
      rw [e, Bool.false_or, h6.none _ (by omega)] at this
      rcases Decidable.em (u.2 ≤ v.2) with h | h
      · exact h
      · have e2 : decide (u.1 ≤ (v.2.toNat : Int) ∧ (v.2.toNat : Int) < u.2) = true := by simp; omega
        rw [e2, Bool.true_or] at this
        cases this
    have e1 : x.1 = y.1 := by
      have k1 := key x y l m a b d a' b' d' he
      have k2 := key y x m l a' b' d' a b d (fun i => (he i).symm)
      omega
    have e2 : x.2 = y.2 := by
      have k1 := key2 x y l m a b d e1.symm b' d' he
      have k2 := key2 y x m l a' b' d' e1 b d (fun i => (he i).symm)
      omega
    have exy : x = y := Prod.ext e1 e2
    subst exy
    have := Right.ext (lo := x.2) (by omega) d d' (fun i => by
      have := he i
      rw [inS_cons, inS_cons] at this
      by_cases hi : (i : Int) < x.2
      · rw [d.none i (by omega), d'.none i (by omega)]
      · have e : decide (x.1 ≤ (i : Int) ∧ (i : Int) < x.2) = false := by simp; omega
        rwa [e, Bool.false_or, Bool.false_or] at this)
    rw [this]

end Go.Proofs.YtbipkkebkddegaaGreatDoor
