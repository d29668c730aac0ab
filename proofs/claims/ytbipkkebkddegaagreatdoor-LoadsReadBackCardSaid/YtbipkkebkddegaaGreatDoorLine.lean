
/-
  The cells of a line; the rows of a text.
-/
import Derived.Test.YtbipkkebkddegaaGreatDoorCell
namespace Go.Proofs.YtbipkkebkddegaaGreatDoor
open Go.RowKit

theorem cut_bar (r : List UInt8) (w : World) : Calls Tryz.prog 79 #[.string (bag (124 :: r)), .string ⟨#[124]⟩] w fun e w' => e = .returned (.tuple #[.string (bag r), .bool true]) ∧ w' = w := by
  have hc := Tryz.strings_CutPrefix (bag (124 :: r)) ⟨#[124]⟩ w
  have e1 : (⟨#[124]⟩ : ByteArray).data.toList = [124] := rfl
  rw [bag_data, e1] at hc
  have h1 : Lib.hasPrefix (124 :: r) [124] = true := by simp [Lib.hasPrefix]
  have h2 : Lib.trimPrefix (124 :: r) [124] = r := by simp [Lib.trimPrefix, h1]
  rw [h1, h2] at hc
  exact hc
theorem row_split : ∀ r : List (List UInt8), r ≠ [] → ∃ x y, rowT r = cellT x ++ y ∧ r.head? = some x ∧ y.head? ≠ some 94 ∧ ((y = [] ∧ r = [x]) ∨ (∃ t, t ≠ [] ∧ r = x :: t ∧ y = 124 :: rowT t))
  | [], h => absurd rfl h
  | [s], _ => ⟨s, [], by simp [rowT], rfl, by simp, .inl ⟨rfl, rfl⟩⟩
  | s :: t :: r, _ => ⟨s, 124 :: rowT (t :: r), by simp [rowT], rfl, by simp, .inr ⟨t :: r, by simp, rfl, rfl⟩⟩
def LinePost (w : World) (r : List Str) (e : Ending) (w' : World) : Prop := ∃ v, e = .returned (.tuple #[v, .bool true]) ∧ OwnStrs w' w.heap.size v r ∧ Below w.heap.size w w'
set_option maxHeartbeats 1600000 in
set_option maxRecDepth 100000 in
theorem line_any (r : List Str) (w : World) (h0 : r ≠ []) (hr : r.length ≤ 40 ∧ ∀ s ∈ r, s.length ≤ 20) :
    Calls Tryz.prog 43 #[.string (bag (rowT r))] w (LinePost w r) := by
  have HR := Lib.hid hr
  have HN0 := Lib.hid h0
  clear hr h0
  go_enter Tryz.func43, Tryz.ntmps43
  go_wp2_with fail
  go_loopg [0, 4] r.length (fun gk v1 v2 wr => ∃ (k : Nat) (q : List Str), Hid (k + gk = r.length) ∧ Hid (r.drop k = q) ∧ Hid (q ≠ []) ∧ v1 = .string (bag (rowT q)) ∧ Hid (OwnStrs wr w.heap.size v2 (r.take k)) ∧ Hid (Below w.heap.size w wr))
  case atStart => exact ⟨0, r, show 0 + r.length = r.length by omega, (show _ = _ from rfl), HN0.out, rfl, Owns.nil _ _, Below.refl _ _⟩
  case round =>
    obtain ⟨k, q, HK, HD, HQ, rfl, HO, HW⟩ := hrel
    obtain ⟨x, y, hxy, hhd, hy94, hcase⟩ := row_split q HQ.out
    have hxq : x ∈ q := List.mem_of_mem_head? hhd
    have hxr : x ∈ r := by have := HD.out; rw [← this] at hxq; exact List.mem_of_mem_drop hxq
    have hx20 := HR.out.2 x hxr
    have hql : q.length ≤ 40 := by rw [← HD.out, List.length_drop]; have := HR.out.1; omega
    have hqs : ∀ s ∈ q, s.length ≤ 20 := fun s hs => HR.out.2 s (by rw [← HD.out] at hs; exact List.mem_of_mem_drop hs)
    have hrl := rowT_len q hqs
    have hyl : y.length ≤ 2000 := by have := congrArg List.length hxy; rw [List.length_append] at this; omega
    have hkl : k < r.length := by
      have h1 := congrArg List.length HD.out
      have h2 : q.length ≠ 0 := fun e => HQ.out (List.eq_nil_of_length_eq_zero e)
      rw [List.length_drop] at h1
      omega
    have hrk : r.getD k [] = x := by
      rw [List.getD_eq_getElem?_getD, ← Nat.add_zero k, ← List.getElem?_drop, HD.out, ← List.head?_eq_getElem?, hhd]; rfl
    have HTK : Hid (r.take (k + 1) = r.take k ++ [x]) := by
      show _ = _
      rw [List.take_succ_eq_append_getElem hkl, ← hrk, List.getD_eq_getElem?_getD, List.getElem?_eq_getElem hkl]; rfl
    have HCELL := Lib.hid (cell_any (bag (rowT q)) x y wr (by rw [bag_data, hxy]; exact cellL_cell x y hy94) (by rw [bag_size]; omega) (by omega))
    have HCS := Lib.hid hcase
    have hwz := HW.out.size
    have htl : (r.take k).length ≤ 40 := by rw [List.length_take]; have := HR.out.1; omega
    clear hxy hhd hy94 hcase hxq hxr hqs hrl hrk
    go_wp2_with fail
    refine HCELL.out.mono ?_
    rintro e w2 ⟨rfl, hb2⟩
    have HW2 := Lib.hid (HW.out.trans (hb2.mono HW.out.size))
    have HO2 : Hid (OwnStrs w2 w.heap.size u4 (r.take k)) := HO.out.below_ hb2
    have hz2 := HW2.out.size
    clear hb2 HCELL
    rcases HCS.out with ⟨rfl, hq⟩ | ⟨t, ht, hq, rfl⟩
    · have HF : Hid (r.take (k + 1) = r) := by
        show _ = _
        have h1 := congrArg List.length HD.out
        rw [hq, List.length_drop] at h1
        exact List.take_of_length_le (by simp at h1; omega)
      have hem : (bag []).toList.isEmpty = true := by rw [Lib.toList_data, bag_data]; rfl
      clear hq
      go_wp2_with (at_builtin; refine append_elems strE_ok rfl _ _ rfl w.heap.size _ (r.take k) rfl (World.ownsRow.alloc HO2.out _) (some ⟨w2.heap.size, 0, none⟩) 1 1 [x] rfl (one_elem (E := StrE) w2 x) (by simp only [List.length_singleton]; omega) (by simp; omega) ?_; intro v9 w9 hown9 hgrow9 _)
      have HL : Hid (LinePost w r (.returned (.tuple #[v9, .bool true])) w9) := ⟨v9, rfl, by rw [← HF.out, HTK.out]; exact hown9, (HW2.out.alloc HW2.out.size _).grown hgrow9 (by simp; omega) (fun i hi => (HO2.out.lt i hi).1)⟩
      clear hown9 hgrow9
      go_wp2_with fail
      go_ret2
      exact HL.out
    · have HCB := Lib.hid (fun wx => cut_bar (rowT t) wx)
      have HT := Lib.hid ht
      have HQE := Lib.hid hq
      have hne : (bag (124 :: rowT t)).toList.isEmpty = false := by rw [Lib.toList_data, bag_data]; rfl
      have hne2 : ¬ (bag (124 :: rowT t)).toList = [] := by rw [Lib.toList_data, bag_data]; simp
      have hne3 : ((bag (124 :: rowT t)).toList == []) = false := by rw [Lib.toList_data, bag_data]; rfl
      clear ht hq hyl
      go_wp2_with (at_builtin; refine append_elems strE_ok rfl _ _ rfl w.heap.size _ (r.take k) rfl (World.ownsRow.alloc HO2.out _) (some ⟨w2.heap.size, 0, none⟩) 1 1 [x] rfl (one_elem (E := StrE) w2 x) (by simp only [List.length_singleton]; omega) (by simp; omega) ?_; intro v9 w9 hown9 hgrow9 _)
      have HO9 : Hid (OwnStrs w9 w.heap.size v9 (r.take (k + 1))) := by rw [HTK.out]; exact hown9
      have HW9 : Hid (Below w.heap.size w w9) := (HW2.out.alloc HW2.out.size _).grown hgrow9 (by simp; omega) (fun i hi => (HO2.out.lt i hi).1)
      clear hown9 hgrow9
      go_wp2_with fail
      refine (HCB.out _).mono ?_
      rintro e w3 ⟨rfl, hw3⟩
      obtain rfl := hw3
      go_wp2_with fail
      go_roundg (gk - 1)
      case measure => have := HK.out; omega
      case rel => exact ⟨k + 1, t, show k + 1 + (gk - 1) = r.length by have := HK.out; omega, (show _ = _ by rw [← List.drop_drop, HD.out, HQE.out]; rfl), HT.out, rfl, HO9.out, HW9.out⟩
end Go.Proofs.YtbipkkebkddegaaGreatDoor
