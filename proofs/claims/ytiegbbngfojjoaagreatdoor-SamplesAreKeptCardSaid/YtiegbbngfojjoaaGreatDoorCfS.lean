
/-
  IndexFunc and ContainsFunc at strings, with a closure that leaves the world as it is.
-/
import Derived.Test.YtiegbbngfojjoaaGreatDoorStrLib
import Derived.Test.YtiegbbngfojjoaaGreatDoorOwnSet
namespace Go.Proofs.YtiegbbngfojjoaaGreatDoor
open Go.RowKit

def FoundS (p : List UInt8 → Bool) (l : List (List UInt8)) (r : Int) : Prop := (r = -1 ∧ ∀ x ∈ l, p x = false) ∨ ∃ k : Nat, r = (k : Int) ∧ k < l.length ∧ p (l.getD k []) = true ∧ ∀ j, j < k → p (l.getD j []) = false
set_option maxHeartbeats 800000 in
set_option maxRecDepth 100000 in
theorem indexFnS_any (N P : Nat) (p : List UInt8 → Bool) (A : Option Addr) (n c : Nat) (l : List (List UInt8)) (w : World) (h : StrsAt w A n c l) (hn : n ≤ 1000)
    (eg : ∀ args w, (callFunc N args).run Tryz.prog w = .ok (.enter N args) w)
    (hp : ∀ x ∈ l, Calls Tryz.prog N #[.string ⟨x.toArray⟩, .pointer (some ⟨P, 0, none⟩)] w fun e w' => e = .returned (.bool (p x)) ∧ w' = w) :
    Calls Tryz.prog 181 #[.slice A n c, .func (.func N) #[] #[.pointer (some ⟨P, 0, none⟩)]] w fun e w' => (∃ r, e = .returned (.int .i64 r) ∧ FoundS p l r) ∧ w' = w := by
  have HN := Lib.hid h.1
  have HH := Lib.hid h; clear h
  have HP := Lib.hid hp; clear hp
  go_enter Tryz.func181, Tryz.ntmps181
  go_wp2_with fail
  go_loopg [8] n (fun gk v wr => ∃ k : Nat, Hid (k + gk = n) ∧ v = .int .i64 (k : Int) ∧ w = wr ∧ Hid (∀ j, j < k → p (l.getD j []) = false))
  case atStart => exact ⟨0, show 0 + n = n by omega, rfl, rfl, fun j hj => by omega⟩
  case round =>
    obtain ⟨k, HG, rfl, rfl, HB⟩ := hrel
    have hkn : k ≤ n := by have := HG.out; omega
    by_cases hlt : k < n
    · obtain ⟨g, off, rfl, hg, hc⟩ := HH.out.str (by omega)
      have hck := hc k hlt
      have hkl : k < l.length := by have := HN.out; omega
      have HC := Lib.hid (HP.out (l.getD k []) (by rw [List.getD_eq_getElem?_getD, List.getElem?_eq_getElem hkl]; exact List.getElem_mem hkl))
      have HKL := Lib.hid hkl
      obtain ⟨bb, hbb⟩ : ∃ bb, p (l.getD k []) = bb := ⟨_, rfl⟩
      rw [hbb] at HC
      have HBB := Lib.hid hbb
      clear hc hkl hbb
      have hck2 : w.cell? ⟨g, off + k, none⟩ = some (.string ⟨(l.getD k []).toArray⟩) := hck
      obtain ⟨x, hx⟩ : ∃ x, x = l.getD k [] := ⟨_, rfl⟩
      rw [← hx] at hck2 HC
      have HX := Lib.hid hx
      clear hck hx
      go_wp2_with fail
      refine HC.out.mono ?_
      rintro e w' ⟨rfl, hw⟩
      obtain rfl := hw.symm
      cases bb
      · go_wp2_with fail
        go_roundg (gk - 1)
        case measure => have := HG.out; omega
        case rel =>
          refine ⟨k + 1, show k + 1 + (gk - 1) = n by have := HG.out; omega, by go_num, rfl, ?_⟩
          show ∀ j, j < k + 1 → _
          intro j hj
          rcases Nat.lt_or_ge j k with h | h
          · exact HB.out j h
          · obtain rfl : j = k := by omega
            exact HBB.out
      · go_wp2_with fail
        go_ret
        exact ⟨⟨_, rfl, .inr ⟨k, rfl, HKL.out, HBB.out, HB.out⟩⟩, rfl⟩
    · have hnk : ¬ (k : Int) < (n : Int) := by omega
      obtain rfl : k = n := by omega
      go_wp2_with fail
      go_ret
      refine ⟨⟨_, rfl, .inl ⟨rfl, fun x hx => ?_⟩⟩, rfl⟩
      obtain ⟨j, hj, rfl⟩ := List.getElem_of_mem hx
      have := HB.out j (by have := HN.out; omega)
      rwa [List.getD_eq_getElem?_getD, List.getElem?_eq_getElem hj] at this
theorem containsFnS_any (N P : Nat) (p : List UInt8 → Bool) (A : Option Addr) (n c : Nat) (l : List (List UInt8)) (w : World) (h : StrsAt w A n c l) (hn : n ≤ 1000)
    (eg : ∀ args w, (callFunc N args).run Tryz.prog w = .ok (.enter N args) w)
    (hp : ∀ x ∈ l, Calls Tryz.prog N #[.string ⟨x.toArray⟩, .pointer (some ⟨P, 0, none⟩)] w fun e w' => e = .returned (.bool (p x)) ∧ w' = w) :
    Calls Tryz.prog 136 #[.slice A n c, .func (.func N) #[] #[.pointer (some ⟨P, 0, none⟩)]] w fun e w' => e = .returned (.bool (l.any p)) ∧ w' = w := by
  have HI := Lib.hid (indexFnS_any N P p A n c l w h hn eg hp)
  clear h hp eg
  go_enter Tryz.func136, Tryz.ntmps136
  go_wp2_with fail
  refine HI.out.mono ?_
  rintro e w' ⟨⟨r, rfl, hf⟩, rfl⟩
  have hany : l.any p = decide (0 ≤ r) := by
    rcases hf with ⟨rfl, h⟩ | ⟨k, rfl, hk, hpk, _⟩
    · have : l.any p = false := List.any_eq_false.2 (fun x hx => by simp [h x hx])
      rw [this]; rfl
    · have : l.any p = true := List.any_eq_true.2 ⟨l.getD k [], by rw [List.getD_eq_getElem?_getD, List.getElem?_eq_getElem hk]; exact List.getElem_mem hk, hpk⟩
      rw [this]; simp
  have HA := Lib.hid hany
  clear hany hf HI
  go_wp2_with fail
  go_ret
  exact ⟨by rw [HA.out]; rfl, rfl⟩
end Go.Proofs.YtiegbbngfojjoaaGreatDoor
