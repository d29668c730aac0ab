
/-
  Plain facts on spans.
-/
import Derived.Laws.OwnMore
namespace Go.Proofs.YtbipkkebkddegaaGreatDoor
open Go

/-- The cells of spans. -/
def spanCells (l : List (Int × Int)) : List Value := l.flatMap fun x => [.int .i64 x.1, .int .i64 x.2]
theorem spanCells_nil : spanCells [] = [] := rfl
theorem spanCells_append (l m : List (Int × Int)) : spanCells (l ++ m) = spanCells l ++ spanCells m := by simp [spanCells]
theorem spanCells_length (l : List (Int × Int)) : (spanCells l).length = l.length * 2 := by
  induction l with
  | nil => rfl
  | cons x l ih => simp [spanCells] at ih ⊢; omega
theorem spanCells_at (l : List (Int × Int)) (k : Nat) (h : k < l.length) :
    (spanCells l)[k * 2]? = some (.int .i64 (l.getD k (0, 0)).1) ∧ (spanCells l)[k * 2 + 1]? = some (.int .i64 (l.getD k (0, 0)).2) := by
  induction l generalizing k with
  | nil => simp at h
  | cons x l ih =>
    cases k with
    | zero => simp [spanCells]
    | succ k =>
      have := ih k (by simpa using h)
      have e1 : (k + 1) * 2 = k * 2 + 1 + 1 := by omega
      rw [e1]
      simp only [spanCells, List.flatMap_cons] at this ⊢
      simp only [List.cons_append, List.nil_append, List.getElem?_cons_succ, List.getD_cons_succ]
      exact this
theorem spanCells_one (l : List (Int × Int)) : ∀ u ∈ spanCells l, u.oneCell' = true := by
  intro u hu
  simp [spanCells] at hu
  obtain ⟨a, b, _, rfl | rfl⟩ := hu <;> rfl

/-- Spans in order, each above lo, none empty, none that touches the one before it, all up to size. -/
def Right (size : Int) : Int → List (Int × Int) → Prop
  | _, [] => True
  | lo, x :: l => lo < x.1 ∧ x.1 < x.2 ∧ x.2 ≤ size ∧ Right size x.2 l
def lastTo : Int → List (Int × Int) → Int
  | lo, [] => lo
  | _, x :: l => lastTo x.2 l

theorem Right.snoc {size : Int} : ∀ {lo : Int} {l : List (Int × Int)} {x : Int × Int}, Right size lo l → lastTo lo l < x.1 → x.1 < x.2 → x.2 ≤ size → Right size lo (l ++ [x])
  | _, [], _, _, h1, h2, h3 => ⟨h1, h2, h3, trivial⟩
  | _, _ :: _, _, ⟨a, b, c, d⟩, h1, h2, h3 => ⟨a, b, c, d.snoc h1 h2 h3⟩
theorem lastTo_snoc : ∀ (lo : Int) (l : List (Int × Int)) (x : Int × Int), lastTo lo (l ++ [x]) = x.2
  | _, [], _ => rfl
  | _, y :: l, x => lastTo_snoc y.2 l x
theorem Right.mono {size size' : Int} (h : size ≤ size') : ∀ {lo : Int} {l : List (Int × Int)}, Right size lo l → Right size' lo l
  | _, [], _ => trivial
  | _, _ :: _, ⟨a, b, c, d⟩ => ⟨a, b, by omega, d.mono h⟩

end Go.Proofs.YtbipkkebkddegaaGreatDoor
