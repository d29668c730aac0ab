
/-
  slices.Concat at rows of deeds.
-/
import Derived.Test.YthogkcgklakibaaGreatDoorDdE
import Derived.Test.YthogkcgklakibaaGreatDoorStrLib
import Derived.Shelf.Spec.SlicesGrow
namespace Go.Proofs.YthogkcgklakibaaGreatDoor
open Go.RowKit

/-- A row of rows of deeds. -/
structure TabD (w : World) (A : Option Addr) (n c : Nat) (T : List (List Deed)) : Prop where
  len : n = T.length
  row : 0 < n → ∃ g off, A = some ⟨g, off, none⟩ ∧ g < w.heap.size ∧ ∀ k, k < n → ∃ R rn rc, w.cell? ⟨g, off + k, none⟩ = some (.slice R rn rc) ∧ DeedsAt w R rn rc (T.getD k [])
theorem TabD.keep {w w' : World} {A : Option Addr} {n c : Nat} {T : List (List Deed)} (h : TabD w A n c T) (hb : Below w.heap.size w w') : TabD w' A n c T :=
  ⟨h.len, fun h0 => by
    obtain ⟨g, off, rfl, hg, hc⟩ := h.row h0
    exact ⟨g, off, rfl, Nat.lt_of_lt_of_le hg hb.size, fun k hk => by
      obtain ⟨R, rn, rc, h1, h2⟩ := hc k hk
      exact ⟨R, rn, rc, (hb.cell (p := ⟨g, off + k, none⟩) hg).trans h1, h2.keep hb⟩⟩⟩
theorem growD_some (n : Nat) (w : World) (h0 : 0 < n) (h1 : n ≤ 100000) : Calls Tryz.prog 89 #[.slice none 0 0, .int .i64 (n : Int)] w fun e w' => ∃ v, e = .returned v ∧ Owns DeedE w' w.heap.size v [] ∧ Below w.heap.size w w' := by
  obtain ⟨i0, hi, hz0, hz1, hz2⟩ := info_parts deedE_ok.info
  have hb1 : i0.bytes = 144 := hz2
  have hs1 : i0.size = 12 := hz1
  refine (Any8.slices_Grow_grow Tryz.grQ89 i0 _ hi hz0 (by omega) none 0 0 n [] w (by omega) (by omega) (by rw [hb1]; omega) (by omega) (by simp) (fun _ => rfl) (fun a ha => by cases ha)).mono ?_
  rintro e w' ⟨rfl, rfl⟩
  refine ⟨_, rfl, ?_, (Below.refl _ _).drew.alloc (Nat.le_refl _) _⟩
  have hcm := grownCap_le_maxLen w (0 + n) 0 40 (by simp only [maxLen]; omega)
  have hcap := grownCap_ge w (0 + n) 0 40
  refine World.ownsRow_made (base := w.heap.size) w.drew _ _ (Nat.le_refl _) hcm ?_
  simp only [Array.size_append, List.size_toArray, size_zeroCells, List.length_nil]
  show 0 + (0 + n - 0) * 12 + (grownCap w (0 + n) 0 40 - (0 + n)) * 12 = grownCap w (0 + n) 0 40 * 12
  omega
theorem growD_any (n : Nat) (w : World) (h1 : n ≤ 100000) : Calls Tryz.prog 89 #[.slice none 0 0, .int .i64 (n : Int)] w fun e w' => ∃ v, e = .returned v ∧ Owns DeedE w' w.heap.size v [] ∧ Below w.heap.size w w' := by
  rcases Nat.eq_zero_or_pos n with h0 | h0
  · subst h0
    exact (Any8.slices_Grow_room Tryz.grQ89 none 0 0 0 w (by omega) (by omega) (by omega) (by omega)).mono fun _ _ ⟨he, hw⟩ => ⟨_, he, Owns.nil _ _, by rw [hw]; exact Below.refl _ _⟩
  · exact growD_some n w h0 h1
theorem flatD_next (T : List (List Deed)) (k : Nat) (h : k < T.length) : (T.take (k + 1)).flatten = (T.take k).flatten ++ T.getD k [] := by
  rw [List.take_succ_eq_append_getElem h, List.flatten_append, List.getD_eq_getElem?_getD, List.getElem?_eq_getElem h]
  simp
theorem flatD_take_le (T : List (List Deed)) (k : Nat) : (T.take k).flatten.length ≤ T.flatten.length := by
  conv => rhs; rw [← List.take_append_drop k T, List.flatten_append, List.length_append]
  omega
def ConcatDPost (w : World) (T : List (List Deed)) (e : Ending) (w' : World) : Prop := ∃ v, e = .returned v ∧ Owns DeedE w' w.heap.size v T.flatten ∧ Below w.heap.size w w'
set_option maxHeartbeats 3200000 in
set_option maxRecDepth 100000 in
theorem concatD_any (A : Option Addr) (n c : Nat) (T : List (List Deed)) (w : World) (h : TabD w A n c T) (hn : n ≤ 100000) (hf : T.flatten.length ≤ 50000) :
    Calls Tryz.prog 51 #[.slice A n c] w (ConcatDPost w T) := by
  have HN : Hid (n = T.length) := h.len
  have HH := Lib.hid h
  have HTF : Hid (∀ k, (T.take k).flatten.length ≤ 50000) := fun k => Nat.le_trans (flatD_take_le T k) hf
  clear h hf
  go_enter Tryz.func51, Tryz.ntmps51
  go_wp2_with fail
  go_loopg [3, 11] n (fun gk v3 v11 wr => ∃ k : Nat, Hid (k + gk = n) ∧ v11 = .int .i64 (k : Int) ∧ v3 = .int .i64 (((T.take k).flatten.length : Nat) : Int) ∧ Hid (wr = w))
  case atStart => exact ⟨0, show 0 + n = n by omega, rfl, rfl, show _ = _ from rfl⟩
  case round =>
    obtain ⟨k, HK, rfl, rfl, HWR⟩ := hrel
    have hkn : k ≤ n := by have := HK.out; omega
    have hfl := HTF.out k
    by_cases hlt : k < n
    · obtain ⟨g, off, rfl, hg, hc⟩ := HH.out.row (by omega)
      obtain ⟨R, rn, rc, hck, hRow⟩ := hc k hlt
      have hkl : k < T.length := by rw [← HN.out]; exact hlt
      have hrn : rn = (T.getD k []).length := hRow.1
      have HFN : Hid ((T.take (k + 1)).flatten.length = (T.take k).flatten.length + rn) := by show _ = _; rw [flatD_next T k hkl, List.length_append, hrn]
      have hf2 := HTF.out (k + 1)
      rw [HFN.out] at hf2
      have hck2 : wr.cell? ⟨g, off + k, none⟩ = some (.slice R rn rc) := by rw [HWR.out]; exact hck
      clear hc hRow hrn hck
      generalize (T.take k).flatten.length = fl at *
      go_wp2_with fail
      go_roundg (gk - 1)
      case measure => have := HK.out; omega
      case rel => exact ⟨k + 1, show k + 1 + (gk - 1) = n by have := HK.out; omega, by go_num, by rw [HFN.out]; go_num, HWR⟩
    · have hta : T.take k = T := List.take_of_length_le (by have := HN.out; omega)
      rw [hta] at hfl ⊢
      obtain rfl := HWR.out
      have HG := Lib.hid (growD_any T.flatten.length wr (by omega))
      have HFL : Hid (T.flatten.length ≤ 50000) := hfl
      obtain ⟨gko, rfl⟩ : ∃ gko : Nat, gko = gk := ⟨_, rfl⟩
      obtain ⟨w0, rfl⟩ : ∃ w0 : World, w0 = wr := ⟨_, rfl⟩
      clear hta HK
      generalize hfg : T.flatten.length = fl at *
      have HFG := Lib.hid hfg
      clear hfg
      go_wp2_with fail
      refine HG.out.mono ?_
      rintro e w1 ⟨v1, rfl, hown1, hb1⟩
      have HO1 := Lib.hid hown1
      have HB1 := Lib.hid hb1
      clear hown1 hb1 HG
      go_wp2_with fail
      go_loopg [6, 27] n (fun gk v6 v27 wr => ∃ k : Nat, Hid (k + gk = n) ∧ v27 = .int .i64 (k : Int) ∧ Hid (Owns DeedE wr w0.heap.size v6 (T.take k).flatten) ∧ Hid (Below w0.heap.size w0 wr))
      case atStart => exact ⟨0, show 0 + n = n by omega, rfl, HO1.out, HB1.out⟩
      case round =>
        obtain ⟨k, HK, rfl, HO, HB⟩ := hrel
        have hkn : k ≤ n := by have := HK.out; omega
        have hzb := HB.out.size
        by_cases hlt : k < n
        · obtain ⟨g, off, rfl, hg, hc⟩ := (HH.out.keep HB.out).row (by omega)
          obtain ⟨R, rn, rc, hck, hRow⟩ := hc k hlt
          have hkl : k < T.length := by rw [← HN.out]; exact hlt
          have HFN := Lib.hid (flatD_next T k hkl)
          have hf2 := HTF.out (k + 1)
          rw [HFN.out, List.length_append] at hf2
          have HROW := Lib.hid hRow
          clear hc hRow
          generalize T.getD k [] = p at *
          generalize (T.take k).flatten = F at *
          go_wp2_with (at_builtin; refine append_elems deedE_ok rfl _ _ rfl w0.heap.size _ F rfl HO.out R rn rc p rfl HROW.out (by omega) (by omega) ?_; intro v7 w7 hown7 hgrow7 _)
          have HO7 : Hid (Owns DeedE w7 w0.heap.size v7 (T.take (k + 1)).flatten) := by show Owns _ _ _ _ _; rw [HFN.out]; exact hown7
          have HB7 := Lib.hid (HB.out.grown hgrow7 (by omega) (fun i hi => (HO.out.lt i hi).1))
          clear hown7 hgrow7
          go_wp2_with fail
          go_roundg (gk - 1)
          case measure => have := HK.out; omega
          case rel => exact ⟨k + 1, show k + 1 + (gk - 1) = n by have := HK.out; omega, by go_num, HO7.out, HB7.out⟩
        · have hta : T.take k = T := List.take_of_length_le (by have := HN.out; omega)
          rw [hta] at HO
          have HF : Hid (ConcatDPost w0 T (.returned u6) wr) := ⟨u6, rfl, HO.out, HB.out⟩
          clear hta
          go_wp2_with fail
          go_ret
          exact HF.out
end Go.Proofs.YthogkcgklakibaaGreatDoor
