
/-
  ReadLoad reads the rows of their text.
-/
import Derived.Test.YtbipkkebkddegaaGreatDoorLine
import Derived.Test.YtbipkkebkddegaaGreatDoorOvErr
namespace Go.Proofs.YtbipkkebkddegaaGreatDoor
open Go.RowKit

theorem loadT_ends {T : Tab} (h : T ≠ []) : ∃ l, loadT T = l ++ [10] := by
  obtain ⟨init, last, rfl⟩ : ∃ i l, T = i ++ [l] := ⟨T.dropLast, T.getLast h, (List.dropLast_concat_getLast h).symm⟩
  exact ⟨loadT init ++ rowT last, by simp [loadT]⟩
theorem lineL_load (T : Tab) : lineL (loadT T) = T.map rowT := by
  by_cases h : T = []
  · subst h; rfl
  · obtain ⟨l, hl⟩ := loadT_ends h
    unfold lineL
    rw [if_neg (by rw [hl]; simp), loadT_lines T h]
theorem load_suffix (T : Tab) : (loadT T).isEmpty = true ∨ [10].isSuffixOf (loadT T) = true := by
  by_cases h : T = []
  · subst h; exact .inl rfl
  · obtain ⟨l, hl⟩ := loadT_ends h
    right
    rw [hl]
    simp
def ReadPost (w : World) (T : Tab) (e : Ending) (w' : World) : Prop := ∃ v rs, e = .returned (.tuple #[v, .int .i64 0, .int .i64 0]) ∧ ParasAt w' w.heap.size v rs T ∧ Below w.heap.size w w'
set_option maxHeartbeats 1600000 in
set_option maxRecDepth 100000 in
theorem readLoad_any (T : Tab) (w : World) (hs : TinyT T) (he : rowsE T = 0) (hM : MaxAt w) (hT : Tabs w) :
    Calls Tryz.prog 10 #[.string (bag (loadT T))] w (ReadPost w T) := by
  have hlen := loadT_len T hs.2
  have hsz : (bag (loadT T)).size ≤ 20000 := by rw [bag_size]; have := hs.1; omega
  have hl2 : ¬ (200000 : Int) < ((bag (loadT T)).size : Int) := by omega
  have HL := Lib.hid (lineW_any (bag (loadT T)) w (by omega) hM (by rw [bag_data]; exact load_suffix T))
  rw [bag_data, lineL_load] at HL
  have HS := Lib.hid hs
  have HE := Lib.hid he
  have HTX := Lib.hid hT
  have HOK := Lib.hid ((rowsOk_iff T (by have := hs.1; omega)).1 he)
  obtain ⟨n, hn⟩ : ∃ n, n = T.length := ⟨_, rfl⟩
  have HN := Lib.hid hn
  have hn10 : n ≤ 10 := by have := hs.1; omega
  clear hs he hM hT hlen hn
  generalize bag (loadT T) = s at *
  go_enter Tryz.func10, Tryz.ntmps10
  go_wp2_with fail
  refine HL.out.mono ?_
  rintro e w1 ⟨A, m, c, rfl, hst, hb1⟩
  have hm := hst.1
  rw [List.length_map, ← HN.out] at hm
  subst hm
  have HB1 := Lib.hid hb1
  have HST := Lib.hid hst
  clear hst hb1 HL
  go_wp2_with fail
  go_loopg [7, 23] m (fun gk v7 v23 wr => ∃ (k : Nat) (rs : List HdS), Hid (k + gk = m) ∧ v23 = .int .i64 (k : Int) ∧ Hid (ParasAt wr w1.heap.size v7 rs (T.take k)) ∧ Hid (Below w1.heap.size w1 wr))
  case atStart => exact ⟨0, [], show 0 + m = m by omega, rfl, ParasAt.nil _ _, Below.refl _ _⟩
  case round =>
    obtain ⟨k, rs, HK, rfl, HP, HW⟩ := hrel
    have hkm : k ≤ m := by have := HK.out; omega
    have HWW := Lib.hid (HB1.out.trans (HW.out.mono HB1.out.size))
    have hwz := HWW.out.size
    have hrsl : rs.length ≤ 10 := by have := HP.out.len; rw [List.length_take] at this; omega
    by_cases hlt : k < m
    · obtain ⟨g, off, rfl, hg, hc⟩ := (HST.out.keep HW.out).str (by omega)
      have hck := hc k hlt
      have hkT : k < T.length := by rw [← HN.out]; exact hlt
      have hgd : (T.map rowT).getD k [] = rowT T[k] := by rw [List.getD_eq_getElem?_getD, List.getElem?_eq_getElem (by rw [List.length_map]; exact hkT), List.getElem_map]; rfl
      rw [hgd] at hck
      have hmem : T[k] ∈ T := List.getElem_mem hkT
      have hr40 := HS.out.2 _ hmem
      have hr1 := (HOK.out.2 _ hmem).1
      have HLN := Lib.hid (line_any T[k] wr (fun e => by rw [e] at hr1; simp at hr1) hr40)
      have HTK : Hid (T.take (k + 1) = T.take k ++ [T[k]]) := by show _ = _; exact List.take_succ_eq_append_getElem hkT
      have hr40' := hr40.1
      clear hc hgd hmem hr1 hr40
      change wr.cell? _ = some (.string (bag (rowT T[k]))) at hck
      generalize T[k] = row at *
      go_wp2_with fail
      refine HLN.out.mono ?_
      rintro e w3 ⟨v3, rfl, ho3, hb3⟩
      obtain ⟨R3, c3, rfl, -, -, -⟩ := ho3.at_ strE_ok
      have HAP := Lib.hid (HP.out.newer (r := (R3, row.length, c3)) (fun b hb => (ho3.lt b hb).1))
      have HO3 : Hid (OwnStrs w3 w1.heap.size (.slice R3 row.length c3) row) := ho3.base_ HW.out.size
      have HPX : Hid (ParasAt w3 w1.heap.size u7 rs (T.take k)) := HP.out.below hb3
      have HW3 := Lib.hid (HW.out.trans (hb3.mono HW.out.size))
      have hz3 : w.heap.size ≤ w3.heap.size := Nat.le_trans hwz hb3.size
      have hz13 : w1.heap.size ≤ w3.heap.size := HW3.out.size
      have hz01 := HB1.out.size
      clear ho3 hb3 HLN hck
      generalize row.length = rl at *
      go_wp2_with (at_builtin; refine append_elems lineE_ok rfl _ _ rfl w1.heap.size _ rs rfl (World.ownsRow.alloc HPX.out.own _) (some ⟨w3.heap.size, 0, none⟩) 1 1 [(R3, rl, c3)] rfl (one_elem (E := LineE) w3 (R3, rl, c3)) (by simp; omega) (by simp; omega) ?_; intro v9 w9 hown9 hgrow9 _)
      have HB9 := (Below.refl w3.heap.size w3).alloc (Nat.le_refl _) (.cells (LineE.enc (R3, rl, c3)).toArray LineE.t)
      have HN9 : Hid (ParasAt w9 w1.heap.size v9 (rs ++ [(R3, rl, c3)]) (T.take (k + 1))) := by
        show ParasAt _ _ _ _ _
        rw [HTK.out]
        exact (HPX.out.below HB9).push (World.ownsRow.alloc HO3.out _) HAP.out hown9 hgrow9
      have HW9 : Hid (Below w1.heap.size w1 w9) := (HW3.out.alloc hz13 _).grown hgrow9 (by simp; omega) (fun i hi => (HPX.out.own.lt i hi).1)
      clear hown9 hgrow9 HB9
      go_wp2_with fail
      go_roundg (gk - 1)
      case measure => have := HK.out; omega
      case rel => exact ⟨k + 1, _, show k + 1 + (gk - 1) = m by have := HK.out; omega, by go_num, HN9.out, HW9.out⟩
    · have hnk : ¬ (k : Int) < (m : Int) := by omega
      have HPF : Hid (ParasAt wr w1.heap.size u7 rs T) := by
        have := HP.out
        rw [List.take_of_length_le (by rw [← HN.out]; omega)] at this
        exact this
      obtain ⟨A7, c7, rfl, -, htab, -⟩ := HPF.out.tab
      have HRE := Lib.hid (rowsError_any A7 _ c7 T wr htab HS.out.small (HTX.out.below HWW.out))
      rw [HE.out] at HRE
      have hz01 := HB1.out.size
      clear htab
      rw [← HN.out] at HRE HPF ⊢
      go_wp2_with fail
      refine HRE.out.mono ?_
      rintro e w9 ⟨rfl, hb9⟩
      have HF : Hid (ReadPost w T (.returned (.tuple #[.slice A7 m c7, .int .i64 0, .int .i64 0])) w9) := ⟨_, rs, rfl, (HPF.out.below hb9).base_ hz01, HWW.out.trans (hb9.mono hwz)⟩
      clear hb9 HRE
      go_wp2_with fail
      exact bodyPost_ret (v := .tuple #[.slice A7 m c7, .int .i64 0, .int .i64 0]) (by simp [results, Tryz.results10, go_sem]) rfl HF.out
end Go.Proofs.YtbipkkebkddegaaGreatDoor
