
/-
  Part's checks find nothing.
-/
import Derived.Test.YtfijplllfdmcoaaGreatDoorStands
import Derived.Test.YtfijplllfdmcoaaGreatDoorBase
namespace Go.Proofs.YtfijplllfdmcoaaGreatDoor
open Go.RowKit
attribute [local go_sem ↓] Go.wp_at_zero Go.wp_at_succ

theorem inB_in (v lo hi : Int) (h0 : lo ≤ v) (h1 : v ≤ hi) : inB v lo hi = true := by
  unfold inB; simp; omega
/-- Each before all that follow, by its bytes. -/
def Rising (l : List (List UInt8)) : Prop := l.Pairwise fun a b => (Op.bytesLess b a || b == a) = false
theorem Rising.at_ {l : List (List UInt8)} (h : Rising l) {k : Nat} (h0 : 0 < k) (hk : k < l.length) : (Op.bytesLess (l.getD k []) (l.getD (k - 1) []) || l.getD k [] == l.getD (k - 1) []) = false := by
  have := List.pairwise_iff_getElem.1 h (k - 1) k (by omega) hk (by omega)
  simpa [List.getD_eq_getElem?_getD, List.getElem?_eq_getElem hk, List.getElem?_eq_getElem (show k - 1 < l.length by omega)] using this
end Go.Proofs.YtfijplllfdmcoaaGreatDoor
