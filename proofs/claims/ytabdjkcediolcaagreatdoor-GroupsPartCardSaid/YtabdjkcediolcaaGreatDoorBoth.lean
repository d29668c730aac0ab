
/-
  What large, tokens and both return of strings that are not too long.
-/
import Derived.Test.YtabdjkcediolcaaGreatDoorTokens
namespace Go.Proofs.YtabdjkcediolcaaGreatDoor
open Go.RowKit

set_option maxHeartbeats 400000 in
theorem nlarge_any (s : ByteArray) (w : World) (hs : s.size ≤ 20000) :
    Calls Tryz.prog 36 #[.string s] w fun e w' => e = .returned (.int .i64 0) ∧ w = w' := by
  have hd : decide ((20000 : Int) < (s.size : Int)) = false := by simp; omega
  go_enter Tryz.func36, Tryz.ntmps36
  go_wp2_with (go_at_call 28; refine (when_any _ _ _).mono ?_; rintro e w' ⟨rfl, rfl⟩)
  go_ret
  refine ⟨ret_int ?_, rfl⟩
  unfold whenE
  rw [if_neg]
  simp

def TokPost (w : World) (L : List UInt8) (e : Ending) (w' : World) : Prop := ∃ v, e = .returned (.tuple #[v, .int .i64 0]) ∧ OwnStrs w' w.heap.size v (tokL L) ∧ Below w.heap.size w w'
def BothPost (w : World) (L M : List UInt8) (e : Ending) (w' : World) : Prop :=
  ∃ v u, e = .returned (.tuple #[v, u, .int .i64 0]) ∧ OwnStrs w' w.heap.size v (tokL L) ∧ OwnStrs w' w.heap.size u (tokL M) ∧ Below w.heap.size w w'
end Go.Proofs.YtabdjkcediolcaaGreatDoor
