
/-
  The closures of PartsAreCut; ContainsFunc and DeleteFunc with them.
-/
import Derived.Test.YtmliaiinfgddhaaGreatDoorCuts
namespace Go.Proofs.YtmliaiinfgddhaaGreatDoor
open Go.RowKit
attribute [local go_sem ↓] Go.wp_at_zero Go.wp_at_succ

theorem notIn1_any (P m d : Nat) (A : Option Addr) (s : List (List UInt8)) (x : List UInt8) (w : World) (hP : w.cell? ⟨P, 0, none⟩ = some (.slice A m d)) (h : StrsAt w A m d s) (hm : m ≤ 1000) :
    Calls Tryz.prog 13 #[.string ⟨x.toArray⟩, .pointer (some ⟨P, 0, none⟩)] w fun e w' => e = .returned (.bool (!s.contains x)) ∧ w' = w := by
  have HC := Lib.hid (containsS_any A m d s x w h (by omega))
  have e0 : bag x = (⟨x.toArray⟩ : ByteArray) := rfl
  rw [e0] at HC
  clear h e0
  generalize s.contains x = bb at *
  go_enter Tryz.func13, Tryz.ntmps13
  go_wp2_with fail
  refine HC.out.mono ?_
  rintro e w' ⟨rfl, rfl⟩
  go_wp2_with fail
  go_ret
  exact ⟨rfl, rfl⟩
theorem notIn2_any (P m d : Nat) (A : Option Addr) (s : List (List UInt8)) (x : List UInt8) (w : World) (hP : w.cell? ⟨P, 0, none⟩ = some (.slice A m d)) (h : StrsAt w A m d s) (hm : m ≤ 1000) :
    Calls Tryz.prog 17 #[.string ⟨x.toArray⟩, .pointer (some ⟨P, 0, none⟩)] w fun e w' => e = .returned (.bool (!s.contains x)) ∧ w' = w := by
  have HC := Lib.hid (containsS_any A m d s x w h (by omega))
  have e0 : bag x = (⟨x.toArray⟩ : ByteArray) := rfl
  rw [e0] at HC
  clear h e0
  generalize s.contains x = bb at *
  go_enter Tryz.func17, Tryz.ntmps17
  go_wp2_with fail
  refine HC.out.mono ?_
  rintro e w' ⟨rfl, rfl⟩
  go_wp2_with fail
  go_ret
  exact ⟨rfl, rfl⟩
theorem enters1 : ∀ args w, (callFunc 13 args).run Tryz.prog w = .ok (.enter 13 args) w := enters_of Tryz.func13 (by kernel_rfl) rfl
theorem enters2 : ∀ args w, (callFunc 17 args).run Tryz.prog w = .ok (.enter 17 args) w := enters_of Tryz.func17 (by kernel_rfl) rfl
theorem containsFunc_any (N P : Nat) (p : List UInt8 → Bool) (A : Option Addr) (n c : Nat) (l : List (List UInt8)) (w : World) (h : StrsAt w A n c l) (hn : n ≤ 1000)
    (eg : ∀ args w, (callFunc N args).run Tryz.prog w = .ok (.enter N args) w)
    (hp : ∀ x ∈ l, Calls Tryz.prog N #[.string ⟨x.toArray⟩, .pointer (some ⟨P, 0, none⟩)] w fun e w' => e = .returned (.bool (p x)) ∧ w' = w) :
    Calls Tryz.prog 16 #[.slice A n c, .func (.func N) #[] #[.pointer (some ⟨P, 0, none⟩)]] w fun e w' => e = .returned (.bool (l.any p)) ∧ w' = w := by
  have HI := Lib.hid (indexFunc_any N P p A n c l w h hn eg hp)
  clear h hp eg
  go_enter Tryz.func16, Tryz.ntmps16
  go_wp2_with fail
  refine HI.out.mono ?_
  rintro e w' ⟨⟨r, rfl, hf⟩, rfl⟩
  have hany : l.any p = decide (0 ≤ r) := by
    rcases hf with ⟨rfl, h⟩ | ⟨k, rfl, hk, hpk, _⟩
    · have : l.any p = false := List.any_eq_false.2 (fun x hx => by simp [h x hx])
      rw [this]; rfl
    · have : l.any p = true := List.any_eq_true.2 ⟨l.getD k [], by rw [List.getD_eq_getElem?_getD, List.getElem?_eq_getElem hk]; exact List.getElem_mem hk, hpk⟩
      rw [this]; simp
  have HA := Lib.hid hany
  clear hany hf HI
  go_wp2_with fail
  go_ret
  exact ⟨by rw [HA.out]; rfl, rfl⟩
end Go.Proofs.YtmliaiinfgddhaaGreatDoor
