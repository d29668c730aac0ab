
/-
  What DeleteFunc leaves of nothing.
-/
import Derived.Test.YtmliaiinfgddhaaGreatDoorCuts3
import Derived.Lib.SliceRun
import Derived.Laws.IdiomCopy
import Derived.BigFrame
namespace Go.Proofs.YtmliaiinfgddhaaGreatDoor
open Go.RowKit
attribute [local go_sem ↓] Go.wp_at_zero Go.wp_at_succ

def CutPost (w : World) (base : Nat) (l : List (List UInt8)) (e : Ending) (w' : World) : Prop := ∃ v, e = .returned v ∧ OwnStrs w' base v l ∧ ∃ row, w.grownBy w' row ∧ ∀ i, row = some i → base ≤ i
set_option maxHeartbeats 400000 in
set_option maxRecDepth 100000 in
theorem deleteNone_any (N P base c n : Nat) (A : Option Addr) (w : World) (hn0 : n = 0) (ho : OwnStrs w base (.slice A n c) [])
    (eg : ∀ args w, (callFunc N args).run Tryz.prog w = .ok (.enter N args) w) :
    Calls Tryz.prog 11 #[.slice A n c, .func (.func N) #[] #[.pointer (some ⟨P, 0, none⟩)]] w (CutPost w base []) := by
  obtain ⟨A', c', e, hc', hat, _⟩ := ho.at_ strE_ok
  simp only [Value.slice.injEq] at e
  obtain ⟨rfl, hjj, rfl⟩ := e
  clear hjj
  have hat' : StrsAt w A n c [] := by rw [hn0]; exact hat
  have HI := Lib.hid (indexFunc_any N P (fun _ => false) A n c [] w hat' (by omega) eg (fun x hx => by cases hx))
  have HO := Lib.hid ho
  clear ho hat hat' hn0 eg
  go_enter Tryz.func11, Tryz.ntmps11
  go_wp2_with fail
  refine HI.out.mono ?_
  rintro e w' ⟨⟨r, rfl, hf⟩, hw⟩
  obtain rfl := hw.symm
  rcases hf with ⟨rfl, hf⟩ | ⟨k, rfl, hk, _, _⟩
  · have HF : Hid (CutPost w base [] (.returned (.slice A n c)) w) := ⟨_, rfl, HO.out, none, World.grownBy.refl _ _, fun i e => by cases e⟩
    clear hf HI
    go_wp2_with fail
    go_ret
    exact HF.out
  · simp at hk
end Go.Proofs.YtmliaiinfgddhaaGreatDoor
