
/-
  What the closures say of a name, and IndexFunc of a list.
-/
import Derived.Test.YtmliaiinfgddhaaGreatDoorLeast2
import Derived.Laws.EntriesVeiled
namespace Go.Proofs.YtmliaiinfgddhaaGreatDoor
open Go.RowKit
attribute [local go_sem ↓] Go.wp_at_zero Go.wp_at_succ

abbrev Str : Type := List UInt8
theorem idxS_neg (x : Str) : ∀ (l : List Str) (i : Nat), decide (0 ≤ Lib.idxFromS (l.map bag) (bag x) i) = l.contains x
  | [], i => by simp [Lib.idxFromS]
  | y :: l, i => by
    by_cases h : y = x
    · subst h
      simp [Lib.idxFromS]
    · have h' : ¬ bag y = bag x := fun e => h (bag_inj.1 e)
      have ih := idxS_neg x l (i + 1)
      have h'' : ¬ x = y := fun e => h e.symm
      simp only [List.map_cons, Lib.idxFromS, h', if_false]
      rw [ih]
      simp [h'']
theorem containsS_bag (x : Str) (l : List Str) : Lib.containsS (l.map bag) (bag x) = l.contains x := by
  have := idxS_neg x l 0
  unfold Lib.containsS
  first | exact this | (unfold Lib.idxOfS; exact this) | (rw [← this]; simp [Lib.idxOfS])
theorem containsS_any (A : Option Addr) (n c : Nat) (l : List Str) (x : Str) (w : World) (h : StrsAt w A n c l) (hn : n ≤ 100000) :
    Calls Tryz.prog 14 #[.slice A n c, .string (bag x)] w fun e w' => e = .returned (.bool (l.contains x)) ∧ w' = w := by
  have hl := h.1
  rcases Nat.eq_zero_or_pos n with h0 | h0
  · subst h0
    have e1 : l = [] := List.eq_nil_of_length_eq_zero hl.symm
    subst e1
    exact Tryz.slices_Contains_string_empty A c (bag x) w
  · obtain ⟨g1, o1, rfl, _, _⟩ := h.str h0
    refine (Tryz.slices_Contains_string g1 o1 n c (l.map bag) (bag x) w (by simp; omega) (by omega) h.bags).mono ?_
    rintro e w' ⟨rfl, rfl⟩
    refine ⟨ret_bool ?_, rfl⟩
    rw [List.take_of_length_le (by simp; omega)]
    exact containsS_bag x l
def FoundAt (p : List UInt8 → Bool) (l : List (List UInt8)) (r : Int) : Prop := (r = -1 ∧ ∀ x ∈ l, p x = false) ∨ ∃ k : Nat, r = (k : Int) ∧ k < l.length ∧ p (l.getD k []) = true ∧ ∀ j, j < k → p (l.getD j []) = false
set_option maxHeartbeats 800000 in
set_option maxRecDepth 100000 in
theorem indexFunc_any (N P : Nat) (p : List UInt8 → Bool) (A : Option Addr) (n c : Nat) (l : List (List UInt8)) (w : World) (h : StrsAt w A n c l) (hn : n ≤ 1000)
    (eg : ∀ args w, (callFunc N args).run Tryz.prog w = .ok (.enter N args) w)
    (hp : ∀ x ∈ l, Calls Tryz.prog N #[.string ⟨x.toArray⟩, .pointer (some ⟨P, 0, none⟩)] w fun e w' => e = .returned (.bool (p x)) ∧ w' = w) :
    Calls Tryz.prog 32 #[.slice A n c, .func (.func N) #[] #[.pointer (some ⟨P, 0, none⟩)]] w fun e w' => (∃ r, e = .returned (.int .i64 r) ∧ FoundAt p l r) ∧ w' = w := by
  have HN := Lib.hid h.1
  have HH := Lib.hid h; clear h
  have HP := Lib.hid hp; clear hp
  go_enter Tryz.func32, Tryz.ntmps32
  go_wp2_with fail
  go_loopg [8] n (fun gk v wr => ∃ k : Nat, Hid (k + gk = n) ∧ v = .int .i64 (k : Int) ∧ w = wr ∧ Hid (∀ j, j < k → p (l.getD j []) = false))
  case atStart => exact ⟨0, show 0 + n = n by omega, rfl, rfl, fun j hj => by omega⟩
  case round =>
    obtain ⟨k, HG, rfl, rfl, HB⟩ := hrel
    have hkn : k ≤ n := by have := HG.out; omega
    by_cases hlt : k < n
    · obtain ⟨g, off, rfl, hg, hc⟩ := HH.out.str (by omega)
      have hck := hc k hlt
      have hkl : k < l.length := by have := HN.out; omega
      have HC := Lib.hid (HP.out (l.getD k []) (by rw [List.getD_eq_getElem?_getD, List.getElem?_eq_getElem hkl]; exact List.getElem_mem hkl))
      have HKL := Lib.hid hkl
      obtain ⟨bb, hbb⟩ : ∃ bb, p (l.getD k []) = bb := ⟨_, rfl⟩
      rw [hbb] at HC
      have HBB := Lib.hid hbb
      clear hc hkl hbb
      have hck2 : w.cell? ⟨g, off + k, none⟩ = some (.string ⟨(l.getD k []).toArray⟩) := hck
      obtain ⟨x, hx⟩ : ∃ x, x = l.getD k [] := ⟨_, rfl⟩
      rw [← hx] at hck2 HC
      have HX := Lib.hid hx
      clear hck hx
      go_wp2_with fail
      refine HC.out.mono ?_
      rintro e w' ⟨rfl, hw⟩
      obtain rfl := hw.symm
      cases bb
      · go_wp2_with fail
        go_roundg (gk - 1)
        case measure => have := HG.out; omega
        case rel =>
          refine ⟨k + 1, show k + 1 + (gk - 1) = n by have := HG.out; omega, by go_num, rfl, ?_⟩
          show ∀ j, j < k + 1 → _
          intro j hj
          rcases Nat.lt_or_ge j k with h | h
          · exact HB.out j h
          · obtain rfl : j = k := by omega
            exact HBB.out
      · go_wp2_with fail
        go_ret
        exact ⟨⟨_, rfl, .inr ⟨k, rfl, HKL.out, HBB.out, HB.out⟩⟩, rfl⟩
    · have hnk : ¬ (k : Int) < (n : Int) := by omega
      obtain rfl : k = n := by omega
      go_wp2_with fail
      go_ret
      refine ⟨⟨_, rfl, .inl ⟨rfl, fun x hx => ?_⟩⟩, rfl⟩
      obtain ⟨j, hj, rfl⟩ := List.getElem_of_mem hx
      have := HB.out j (by have := HN.out; omega)
      rwa [List.getD_eq_getElem?_getD, List.getElem?_eq_getElem hj] at this
end Go.Proofs.YtmliaiinfgddhaaGreatDoor
