
/-
  Plain facts on spans that are put together.
-/
import Derived.Test.YtbipkkebkddegaaGreatDoorSpanPlain
namespace Go.Proofs.YtbipkkebkddegaaGreatDoor
open Go

/-- One span more: it is put into the last one, if it touches it. -/
def putStep (out : List (Int × Int)) (s : Int × Int) : List (Int × Int) :=
  match out.getLast? with
  | some p => if s.1 ≤ p.2 then out.dropLast ++ [(p.1, max p.2 s.2)] else out ++ [s]
  | none => out ++ [s]
def putL (l : List (Int × Int)) : List (Int × Int) := l.foldl putStep []
theorem putL_snoc (l : List (Int × Int)) (s : Int × Int) : putL (l ++ [s]) = putStep (putL l) s := by simp [putL]
theorem putStep_length (out : List (Int × Int)) (s : Int × Int) : (putStep out s).length ≤ out.length + 1 := by
  unfold putStep
  split
  · split
    · simp
    · simp
  · simp
theorem putL_length (l : List (Int × Int)) : (putL l).length ≤ l.length := by
  suffices h : ∀ (l acc : List (Int × Int)), (l.foldl putStep acc).length ≤ acc.length + l.length by simpa [putL] using h l []
  intro l
  induction l with
  | nil => intro acc; simp
  | cons x l ih =>
    intro acc
    have := ih (putStep acc x)
    have := putStep_length acc x
    simp only [List.foldl_cons, List.length_cons]
    omega
theorem last_split (l : List (Int × Int)) (m : Nat) (h : l.length = m + 1) : l = l.take m ++ [l.getD m (0, 0)] := by
  have := List.take_succ_eq_append_getElem (l := l) (i := m) (by omega)
  rw [List.take_of_length_le (by omega)] at this
  simpa [show m < l.length by omega] using this
theorem putStep_join (l : List (Int × Int)) (m : Nat) (h : l.length = m + 1) (s : Int × Int) (hs : s.1 ≤ (l.getD m (0, 0)).2) : putStep l s = l.take m ++ [((l.getD m (0, 0)).1, max (l.getD m (0, 0)).2 s.2)] := by
  have e := last_split l m h
  generalize l.getD m (0, 0) = p at *
  generalize l.take m = q at *
  subst e
  unfold putStep
  simp [hs]
theorem putStep_new (l : List (Int × Int)) (m : Nat) (h : l.length = m + 1) (s : Int × Int) (hs : ¬ s.1 ≤ (l.getD m (0, 0)).2) : putStep l s = l ++ [s] := by
  have e := last_split l m h
  generalize l.getD m (0, 0) = p at *
  generalize l.take m = q at *
  subst e
  unfold putStep
  simp [hs]
theorem putStep_nil (s : Int × Int) : putStep [] s = [s] := rfl

end Go.Proofs.YtbipkkebkddegaaGreatDoor
