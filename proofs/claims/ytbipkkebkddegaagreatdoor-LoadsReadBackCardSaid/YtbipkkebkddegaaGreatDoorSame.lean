
/-
  SameTable returns true at tables that read the same.
-/
import Derived.Test.YtbipkkebkddegaaGreatDoorTabErr
namespace Go.Proofs.YtbipkkebkddegaaGreatDoor
open Go.RowKit

theorem equal_sameS (A B : Option Addr) (n c m d : Nat) (l : List (List UInt8)) (w : World) (h : StrsAt w A n c l) (h' : StrsAt w B m d l) (hn : n ≤ 100000) (hm : m ≤ 100000) :
    Calls Tryz.prog 19 #[.slice A n c, .slice B m d] w fun e w' => e = .returned (.bool true) ∧ Below w.heap.size w w' :=
  (equal_any A B n c m d l l w h h' hn hm).mono fun e w' h => ⟨by rw [h.1]; simp, by obtain ⟨q, hq⟩ := h.2; rw [hq]; exact below_drewN (Below.refl _ _) q⟩
set_option maxHeartbeats 1600000 in
set_option maxRecDepth 100000 in
theorem equalFunc_any (A B : Option Addr) (n c m d : Nat) (T : List (List Str)) (w : World) (hA : TabAt w A n c T) (hB : TabAt w B m d T) (hs : SmallT T) :
    Calls Tryz.prog 44 #[.slice A n c, .slice B m d, .func (.func 19) #[] #[]] w fun e w' => e = .returned (.bool true) ∧ Below w.heap.size w w' := by
  have hnm : n = m := by rw [hA.len, hB.len]
  subst hnm
  have HN := Lib.hid hA.len
  have hn : n ≤ 1000 := by have := HN.out; have := hs.1; omega
  have HA := Lib.hid hA
  have HB := Lib.hid hB
  have HSM := Lib.hid hs
  clear hA hB hs
  go_enter Tryz.func44, Tryz.ntmps44
  go_wp2_with fail
  go_loopg [17] n (fun gk v wr => ∃ k : Nat, Hid (k + gk = n) ∧ v = .int .i64 (k : Int) ∧ Hid (Below w.heap.size w wr))
  case atStart => exact ⟨0, show 0 + n = n by omega, rfl, Below.refl _ _⟩
  case round =>
    obtain ⟨k, HK, rfl, HW⟩ := hrel
    have hkn : k ≤ n := by have := HK.out; omega
    have HGK := Lib.hid (show k < n → k + 1 + (gk - 1) = n ∧ 0 < gk by have := HK.out; omega)
    by_cases hlt : k < n
    · obtain ⟨gA, oA, rfl, hgA, hcA⟩ := (TabAt.keep HA.out HW.out).row (by omega)
      obtain ⟨R, rn, rc, hck, hRow⟩ := hcA k hlt
      obtain ⟨gB, oB, rfl, hgB, hcB⟩ := (TabAt.keep HB.out HW.out).row (by omega)
      obtain ⟨R2, rn2, rc2, hck2, hRow2⟩ := hcB k hlt
      have hkl : k < T.length := by have := HN.out; omega
      have hgk : T.getD k [] = T[k] := by rw [List.getD_eq_getElem?_getD, List.getElem?_eq_getElem hkl]; rfl
      have hsr := HSM.out.2 T[k] (List.getElem_mem hkl)
      rw [hgk] at hRow hRow2
      have h1 := hRow.1
      have h2 := hRow2.1
      have HEQ := Lib.hid (equal_sameS R R2 rn rc rn2 rc2 T[k] wr hRow hRow2 (by omega) (by omega))
      clear hcA hcB hRow hRow2 hgk hsr h1 h2
      go_wp2_with fail
      refine HEQ.out.mono ?_
      rintro e w' ⟨rfl, hw⟩
      have HW2 := Lib.hid (HW.out.trans (hw.mono HW.out.size))
      clear hw HEQ hck hck2
      go_wp2_with fail
      go_roundg (gk - 1)
      case measure => exact Nat.sub_lt (HGK.out hlt).2 Nat.one_pos
      case rel => exact ⟨k + 1, (HGK.out hlt).1, by go_num, HW2.out⟩
    · have hnk : ¬ (k : Int) < (n : Int) := by omega
      obtain rfl : k = n := by omega
      go_wp2_with fail
      go_ret
      exact ⟨rfl, HW.out⟩
set_option maxHeartbeats 800000 in
theorem sameTable_any (A B : Option Addr) (n c m d : Nat) (T : List (List Str)) (w : World) (hA : TabAt w A n c T) (hB : TabAt w B m d T) (hs : SmallT T) :
    Calls Tryz.prog 11 #[.slice A n c, .slice B m d] w fun e w' => e = .returned (.bool true) ∧ Below w.heap.size w w' := by
  have HE := Lib.hid (equalFunc_any A B n c m d T w hA hB hs)
  clear hA hB hs
  go_enter Tryz.func11, Tryz.ntmps11
  go_wp2_with fail
  refine HE.out.mono ?_
  rintro e w' ⟨rfl, hw⟩
  go_wp2_with fail
  go_ret
  exact ⟨rfl, hw⟩
end Go.Proofs.YtbipkkebkddegaaGreatDoor
