
/-
  The twelve names of PartsAreCut.
-/
import Derived.Test.YtmliaiinfgddhaaGreatDoorCuts3
namespace Go.Proofs.YtmliaiinfgddhaaGreatDoor
open Go

abbrev names12 : List (List UInt8) := [[107, 49], [107, 49, 48], [107, 49, 49], [107, 49, 50], [107, 50], [107, 51], [107, 52], [107, 53], [107, 54], [107, 55], [107, 56], [107, 57]]
theorem names_rise : Rising names12 := by
  unfold Rising
  decide +kernel
theorem names_keys : ∀ x ∈ names12, keyL x = true := by decide +kernel
theorem names_short : ∀ x ∈ names12, x.length ≤ 1000 := by decide +kernel
theorem names_nodup : names12.Nodup := by decide +kernel
theorem rise_sub {l m : List (List UInt8)} (h : Rising m) (hs : l.Sublist m) : Rising l := List.Pairwise.sublist hs h
end Go.Proofs.YtmliaiinfgddhaaGreatDoor
