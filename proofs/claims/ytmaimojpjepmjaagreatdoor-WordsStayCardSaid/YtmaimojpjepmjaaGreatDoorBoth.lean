
/-
  What large, tokens and both return of strings that are not too long.
-/
import Derived.Test.YtmaimojpjepmjaaGreatDoorTokens
namespace Go.Proofs.YtmaimojpjepmjaaGreatDoor
open Go.RowKit

set_option maxHeartbeats 400000 in
theorem nlarge_any (s : ByteArray) (w : World) (hs : s.size ≤ 20000) :
    Calls Tryz.prog 47 #[.string s] w fun e w' => e = .returned (.int .i64 0) ∧ w = w' := by
  have hd : decide ((20000 : Int) < (s.size : Int)) = false := by simp; omega
  go_enter Tryz.func47, Tryz.ntmps47
  go_wp2_with (go_at_call 45; refine (when_any _ _ _).mono ?_; rintro e w' ⟨rfl, rfl⟩)
  go_ret
  refine ⟨ret_int ?_, rfl⟩
  unfold whenE
  rw [if_neg]
  simp

def TokPost (w : World) (L : List UInt8) (e : Ending) (w' : World) : Prop := ∃ v, e = .returned (.tuple #[v, .int .i64 0]) ∧ OwnStrs w' w.heap.size v (tokL L) ∧ Below w.heap.size w w'
set_option maxHeartbeats 800000 in
theorem tokens_any (s : ByteArray) (w : World) (hs : s.size ≤ 2000) (hM : MaxAt w) :
    Calls Tryz.prog 74 #[.string s] w (TokPost w s.data.toList) := by
  go_enter Tryz.func74, Tryz.ntmps74
  go_wp2_with fail
  refine (nlarge_any s w (by omega)).mono ?_
  rintro e w' ⟨rfl, rfl⟩
  go_wp2_with fail
  refine (tokensB_any s w (by omega) hM).mono ?_
  rintro e w1 ⟨v, rfl, hown, hb⟩
  have hln := tokL_length s.data.toList
  obtain ⟨A, c, rfl, hc, hat, hn⟩ := hown.at_ strE_ok
  have hl2 : (tokL s.data.toList).length ≤ 2000 := by simp at hln; omega
  clear hln
  generalize htl : tokL s.data.toList = tl at *
  have HTL := Lib.hid htl; clear htl
  have hnn : ¬ ((2000 : Int) < (tl.length : Int)) := by omega
  go_wp2_with fail
  refine (when_any _ _ _).mono ?_
  rintro e w' ⟨rfl, rfl⟩
  rw [show whenE (decide ((2000 : Int) < (tl.length : Int))) 2 = 0 by unfold whenE; rw [if_neg (by simpa using hnn)]]
  go_wp2_with fail
  go_ret2
  exact ⟨_, rfl, by rw [HTL.out]; exact hown, hb⟩

def BothPost (w : World) (L M : List UInt8) (e : Ending) (w' : World) : Prop :=
  ∃ v u, e = .returned (.tuple #[v, u, .int .i64 0]) ∧ OwnStrs w' w.heap.size v (tokL L) ∧ OwnStrs w' w.heap.size u (tokL M) ∧ Below w.heap.size w w'
end Go.Proofs.YtmaimojpjepmjaaGreatDoor
