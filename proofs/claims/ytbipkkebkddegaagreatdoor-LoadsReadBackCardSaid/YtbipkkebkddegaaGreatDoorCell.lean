
/-
  A cell of a line, a line's cells.
-/
import Derived.Test.YtbipkkebkddegaaGreatDoorPrint
import Derived.Test.YtbipkkebkddegaaGreatDoorPieces
import Derived.Test.YtbipkkebkddegaaGreatDoorWrapFn
import Derived.BigQuiet
namespace Go.Proofs.YtbipkkebkddegaaGreatDoor
open Go.RowKit

theorem own_back {w : World} {B : Nat} {v : Value} {l : List UInt8} (h : Owns ByteE w B v l) : (convert 71 9 v).run Tryz.prog w = .ok (.string (bag l)) w := by
  rcases h.2 with ⟨rfl, h0⟩ | ⟨g, cap, cur, rfl, _, hh, hc1, hc2, hc3, hc4⟩
  · have : l = [] := List.eq_nil_of_length_eq_zero h0
    subst this
    rw [run_convert_bytes_string w 71 9 5 none 0 0 Tryz.underlying71 Tryz.underlying5 Tryz.underlying9]
    rfl
  · refine run_convert_bytes_back w 71 9 5 ⟨g, 0, none⟩ cap l Tryz.underlying71 Tryz.underlying5 Tryz.underlying9 (fun j hj => ?_)
    have hadd : (⟨g, 0, none⟩ : Addr).add j = ⟨g, j, none⟩ := by unfold Addr.add; split <;> simp_all
    rw [hadd, cell_of_row w g j _ _ _ hh]
    have e1 : (ByteE.cells l)[j]? = some (.int .u8 (l[j].toNat : Int)) := by rw [byteE_cells]; simp [Lib.byteCells, hj]
    rw [← hc4, List.getElem?_take] at e1
    split at e1
    · rw [← Array.getElem?_toList]; exact e1
    · cases e1
theorem own_back' {w : World} {B : Nat} {v : Value} {l : List UInt8} (h : Owns ByteE w B v l) : ∀ n, (convert 71 9 v).run Tryz.prog (w.drewN n) = .ok (.string (bag l)) (w.drewN n) := fun n => own_back (w := w.drewN n) h
def CellPost (w : World) (x r : List UInt8) (e : Ending) (w' : World) : Prop := e = .returned (.tuple #[.string (bag x), .string (bag r), .bool true]) ∧ Below w.heap.size w w'
/-- What stands at place i of what is left of a cell. -/
inductive CellStep (L : List UInt8) (i : Nat) (y r : List UInt8) : Prop
  | done (h : L.getD i 0 = 94) (hd : L.getD (i + 1) 0 ≠ 94) (hy : y = []) (hr : r = L.drop (i + 1))
  | two (c : UInt8) (d : UInt8) (z : UInt8) (y' : List UInt8) (h1 : i + 1 < L.length) (hc : L.getD i 0 = c) (hd : L.getD (i + 1) 0 = d) (hk : (c = 94 ∧ d = 94 ∧ z = 94) ∨ (c = 126 ∧ d = 110 ∧ z = 10) ∨ (c = 126 ∧ d = 126 ∧ z = 126)) (hy : y = z :: y') (hn : cellGo (L.drop (i + 2)) = some (y', r))
  | one (c : UInt8) (y' : List UInt8) (hc : L.getD i 0 = c) (h1 : c ≠ 94) (h2 : c ≠ 126) (hy : y = c :: y') (hn : cellGo (L.drop (i + 1)) = some (y', r))
theorem cell_step (L : List UInt8) (i : Nat) (y r : List UInt8) (h : cellGo (L.drop i) = some (y, r)) : i < L.length ∧ CellStep L i y r := by
  rcases Nat.lt_or_ge i L.length with hi | hi
  · refine ⟨hi, ?_⟩
    rw [List.drop_eq_getElem_cons hi] at h
    have hg : L.getD i 0 = L[i] := by rw [List.getD_eq_getElem?_getD, List.getElem?_eq_getElem hi]; rfl
    rcases Nat.lt_or_ge (i + 1) L.length with hi2 | hi2
    · have hg2 : L.getD (i + 1) 0 = L[i + 1] := by rw [List.getD_eq_getElem?_getD, List.getElem?_eq_getElem hi2]; rfl
      have hdr := List.drop_eq_getElem_cons hi2
      rw [hdr] at h
      rw [cellGo.eq_def] at h
      simp only at h
      split at h
      · rename_i hc
        split at h
        · rename_i hd
          obtain ⟨p, hp, e⟩ := Option.map_eq_some_iff.1 h
          obtain ⟨p1, p2⟩ := p
          simp only [Prod.mk.injEq] at e
          obtain ⟨rfl, rfl⟩ := e
          exact .two 94 94 94 p1 hi2 (hg.trans hc) (hg2.trans hd) (.inl ⟨rfl, rfl, rfl⟩) rfl hp
        · rename_i hd
          simp only [Option.some.injEq, Prod.mk.injEq] at h
          obtain ⟨rfl, rfl⟩ := h
          exact .done (hg.trans hc) (by rw [hg2]; exact hd) rfl hdr.symm
      · rename_i hc
        split at h
        · rename_i hc2
          split at h
          · rename_i hd
            obtain ⟨p, hp, e⟩ := Option.map_eq_some_iff.1 h
            obtain ⟨p1, p2⟩ := p
            simp only [Prod.mk.injEq] at e
            obtain ⟨rfl, rfl⟩ := e
            exact .two 126 110 10 p1 hi2 (hg.trans hc2) (hg2.trans hd) (.inr (.inl ⟨rfl, rfl, rfl⟩)) rfl hp
          · split at h
            · rename_i hd
              obtain ⟨p, hp, e⟩ := Option.map_eq_some_iff.1 h
              obtain ⟨p1, p2⟩ := p
              simp only [Prod.mk.injEq] at e
              obtain ⟨rfl, rfl⟩ := e
              exact .two 126 126 126 p1 hi2 (hg.trans hc2) (hg2.trans hd) (.inr (.inr ⟨rfl, rfl, rfl⟩)) rfl hp
            · cases h
        · rename_i hc2
          obtain ⟨p, hp, e⟩ := Option.map_eq_some_iff.1 h
          obtain ⟨p1, p2⟩ := p
          simp only [Prod.mk.injEq] at e
          obtain ⟨rfl, rfl⟩ := e
          exact .one L[i] p1 hg hc hc2 rfl (by rw [hdr]; exact hp)
    · have hdr : L.drop (i + 1) = [] := List.drop_eq_nil_of_le hi2
      rw [hdr] at h
      have hg2 : L.getD (i + 1) 0 = 0 := by rw [List.getD_eq_getElem?_getD, List.getElem?_eq_none hi2]; rfl
      rw [cellGo.eq_def] at h
      simp only at h
      split at h
      · rename_i hc
        simp only [Option.some.injEq, Prod.mk.injEq] at h
        obtain ⟨rfl, rfl⟩ := h
        exact .done (hg.trans hc) (by rw [hg2]; decide) rfl hdr.symm
      · rename_i hc
        split at h
        · cases h
        · rename_i hc2
          obtain ⟨p, hp, e⟩ := Option.map_eq_some_iff.1 h
          obtain ⟨p1, p2⟩ := p
          simp only [Prod.mk.injEq] at e
          obtain ⟨rfl, rfl⟩ := e
          exact .one L[i] p1 hg hc hc2 rfl (by rw [hdr]; exact hp)
  · rw [List.drop_eq_nil_of_le hi, cellGo.eq_def] at h
    cases h
theorem ix_str (s : ByteArray) (i : Nat) (hi : i < s.size) (j : Int) (hj : j = (i : Int)) (z : Int) (hz : ((s.data.toList.getD i 0).toNat : Int) = z) : ∀ wx : World, (Instr.index 9 (.string s) (.int .i64 j)).run Tryz.prog wx = .ok (.int .u8 z) wx := fun wx => by
  subst hj; subst hz
  rw [getD_byte s i hi, run_index_string wx 9 s .i64 (i : Int) Tryz.underlying9, dif_pos ⟨by omega, by omega⟩]
  rfl
theorem from_str (s : ByteArray) (i : Nat) (hi : i ≤ s.size) (j : Int) (hj : j = (i : Int)) (r : List UInt8) (hr : r = s.data.toList.drop i) : ∀ wx : World, (Instr.slice 9 (.string s) (some (.int .i64 j)) none none).run Tryz.prog wx = .ok (.string (bag r)) wx := fun wx => by
  subst hj; subst hr
  rw [run_slice_string_l (P := Tryz.prog) (w := wx) (t := 9) (s := s) (ht := Tryz.underlying9) (kl := .i64) (l := (i : Int)) (by omega) (by omega)]
  congr 2
  apply ByteArray.ext
  apply Array.ext'
  rw [Int.toNat_natCast, bag_data]
  exact extract_end s i
set_option maxHeartbeats 3200000 in
set_option maxRecDepth 100000 in
theorem cell_any (s : ByteArray) (x r : List UInt8) (w : World) (h : cellL s.data.toList = some (x, r)) (hs : s.size ≤ 1000000) (hx : x.length ≤ 1000) :
    Calls Tryz.prog 78 #[.string s] w (CellPost w x r) := by
  obtain ⟨L, hL⟩ : ∃ L, L = s.data.toList := ⟨_, rfl⟩
  have hsL : s.size = L.length := by rw [hL]; simp
  rw [← hL] at h
  obtain ⟨L', rfl, hg⟩ : ∃ L', L = 94 :: L' ∧ cellGo L' = some (x, r) := by
    cases L with
    | nil => cases h
    | cons c L' =>
      simp only [cellL] at h
      split at h
      · rename_i hc; exact ⟨L', by rw [hc], h⟩
      · cases h
  have hpos : 0 < s.size := by rw [hsL]; simp
  have h0 := ix_str s 0 hpos 0 rfl 94 (by rw [← hL]; rfl)
  have hne : s.toList.isEmpty = false := by rw [Lib.toList_data, ← hL]; rfl
  have hne2 : ¬ s.toList = [] := by rw [Lib.toList_data, ← hL]; simp
  have HG := Lib.hid hg
  have HL := Lib.hid hL
  have HSL := Lib.hid hsL
  have HX := Lib.hid hx
  clear h hg hL hsL hx
  go_enter Tryz.func78, Tryz.ntmps78
  go_wp2_with fail
  clear h0
  go_loopg [5, 6] (s.size - 1) (fun gk v5 v6 wr => ∃ (i : Nat) (o y : List UInt8), Hid (i + gk = s.size) ∧ v6 = .int .i64 (i : Int) ∧ Hid (Owns ByteE wr w.heap.size v5 o) ∧ Hid (x = o ++ y) ∧ Hid (cellGo ((94 :: L').drop i) = some (y, r)) ∧ Hid (Below w.heap.size w wr))
  case atStart => exact ⟨1, [], x, show 1 + (s.size - 1) = s.size by omega, rfl, Owns.nil _ _, show _ = _ from rfl, HG.out, Below.refl _ _⟩
  case round =>
    obtain ⟨i, o, y, HI, rfl, HO, HXY, HCG, HW⟩ := hrel
    obtain ⟨hi, hst⟩ := cell_step _ _ _ _ HCG.out
    have his : i < s.size := by have := HSL.out; omega
    have hwz := HW.out.size
    have hol : o.length ≤ 1000 := by have h1 := HX.out; have h2 := congrArg List.length HXY.out; rw [List.length_append] at h2; omega
    have HG1 : Hid (∀ z, Owns ByteE (wr.alloc (.cells #[.int .u8 z] 5)) w.heap.size u5 o) := fun z => World.ownsRow.alloc HO.out _
    have hii : (i : Int) < (s.size : Int) := by omega
    rcases hst with ⟨hc, hd, hy, hr⟩ | ⟨c, d, z, y', h1, hc, hd, hk, hy, hn⟩ | ⟨c, y', hc, h1, h2, hy, hn⟩
    · have hix := ix_str s i his (i : Int) rfl 94 (by rw [← HL.out, hc]; rfl)
      have hxo : o = x := by rw [HXY.out, hy, List.append_nil]
      have hsl := from_str s (i + 1) his ((i : Int) + 1) (by omega) r (by rw [← HL.out]; exact hr)
      have hbk := own_back' HO.out
      rw [hxo] at hbk
      by_cases h2 : i + 1 < s.size
      · have h2i : (i : Int) + 1 < (s.size : Int) := by omega
        have hix2 := ix_str s (i + 1) h2 ((i : Int) + 1) (by omega) _ rfl
        rw [← HL.out] at hix2
        generalize (94 :: L').getD (i + 1) 0 = d at *
        have hdz : ¬ ((d.toNat : Int) = 94) := fun e => hd (UInt8.toNat_inj.1 (by show d.toNat = 94; omega))
        have hdz2 : ((d.toNat : Int) != 94) = true := by simpa using hdz
        clear hc hd hy hr
        go_wp2_with fail
        go_quiet (fail)
        go_wp2_with fail
        refine bodyPost_ret (v := .tuple #[.string (bag x), .string (bag r), .bool true]) (by simp [results, Tryz.results78, go_sem]) rfl ?_
        exact ⟨rfl, below_drewN HW.out _⟩
      · have h2i : ¬ (i : Int) + 1 < (s.size : Int) := by omega
        clear hc hd hy hr
        go_wp2_with fail
        go_quiet (fail)
        go_wp2_with fail
        refine bodyPost_ret (v := .tuple #[.string (bag x), .string (bag r), .bool true]) (by simp [results, Tryz.results78, go_sem]) rfl ?_
        exact ⟨rfl, below_drewN HW.out _⟩
    · have h2 : i + 1 < s.size := by have := HSL.out; omega
      have h2i : (i : Int) + 1 < (s.size : Int) := by omega
      have HY := Lib.hid hy
      have HN := Lib.hid hn
      rcases hk with ⟨rfl, rfl, rfl⟩ | ⟨rfl, rfl, rfl⟩ | ⟨rfl, rfl, rfl⟩
      · have hix := ix_str s i his (i : Int) rfl 94 (by rw [← HL.out, hc]; rfl)
        have hix2 := ix_str s (i + 1) h2 ((i : Int) + 1) (by omega) 94 (by rw [← HL.out, hd]; rfl)
        clear hc hd hy hn
        go_wp2_with (at_builtin; refine append_elems byteE_ok rfl _ _ rfl w.heap.size _ o rfl (HG1.out _) (some ⟨wr.heap.size, 0, none⟩) 1 1 [94] rfl (one_elem (E := ByteE) wr 94) (by simp; omega) (by simp; omega) ?_; intro v9 w9 hown9 hgrow9 _)
        have HO9 := Lib.hid hown9
        have HW9 : Hid (Below w.heap.size w w9) := (HW.out.alloc hwz _).grown hgrow9 (by simp; omega) (fun i hi => (HO.out.lt i hi).1)
        clear hown9 hgrow9
        go_wp2_with fail
        go_roundg (gk - 2)
        case measure => have := HI.out; omega
        case rel => exact ⟨i + 2, _, _, show i + 2 + (gk - 2) = s.size by have := HI.out; omega, by go_num, HO9.out, (show _ = _ by rw [HXY.out, HY.out]; simp), HN.out, HW9.out⟩
      · have hix := ix_str s i his (i : Int) rfl 126 (by rw [← HL.out, hc]; rfl)
        have hix2 := ix_str s (i + 1) h2 ((i : Int) + 1) (by omega) 110 (by rw [← HL.out, hd]; rfl)
        clear hc hd hy hn
        go_wp2_with (at_builtin; refine append_elems byteE_ok rfl _ _ rfl w.heap.size _ o rfl (HG1.out _) (some ⟨wr.heap.size, 0, none⟩) 1 1 [10] rfl (one_elem (E := ByteE) wr 10) (by simp; omega) (by simp; omega) ?_; intro v9 w9 hown9 hgrow9 _)
        have HO9 := Lib.hid hown9
        have HW9 : Hid (Below w.heap.size w w9) := (HW.out.alloc hwz _).grown hgrow9 (by simp; omega) (fun i hi => (HO.out.lt i hi).1)
        clear hown9 hgrow9
        go_wp2_with fail
        go_roundg (gk - 2)
        case measure => have := HI.out; omega
        case rel => exact ⟨i + 2, _, _, show i + 2 + (gk - 2) = s.size by have := HI.out; omega, by go_num, HO9.out, (show _ = _ by rw [HXY.out, HY.out]; simp), HN.out, HW9.out⟩
      · have hix := ix_str s i his (i : Int) rfl 126 (by rw [← HL.out, hc]; rfl)
        have hix2 := ix_str s (i + 1) h2 ((i : Int) + 1) (by omega) 126 (by rw [← HL.out, hd]; rfl)
        clear hc hd hy hn
        go_wp2_with (at_builtin; refine append_elems byteE_ok rfl _ _ rfl w.heap.size _ o rfl (HG1.out _) (some ⟨wr.heap.size, 0, none⟩) 1 1 [126] rfl (one_elem (E := ByteE) wr 126) (by simp; omega) (by simp; omega) ?_; intro v9 w9 hown9 hgrow9 _)
        have HO9 := Lib.hid hown9
        have HW9 : Hid (Below w.heap.size w w9) := (HW.out.alloc hwz _).grown hgrow9 (by simp; omega) (fun i hi => (HO.out.lt i hi).1)
        clear hown9 hgrow9
        go_wp2_with fail
        go_roundg (gk - 2)
        case measure => have := HI.out; omega
        case rel => exact ⟨i + 2, _, _, show i + 2 + (gk - 2) = s.size by have := HI.out; omega, by go_num, HO9.out, (show _ = _ by rw [HXY.out, HY.out]; simp), HN.out, HW9.out⟩
    · have hix := ix_str s i his (i : Int) rfl (c.toNat : Int) (by rw [← HL.out, hc])
      have hc1 : ¬ ((c.toNat : Int) = 94) := fun e => h1 (UInt8.toNat_inj.1 (by show c.toNat = 94; omega))
      have hc2 : ¬ ((c.toNat : Int) = 126) := fun e => h2 (UInt8.toNat_inj.1 (by show c.toNat = 126; omega))
      have HY := Lib.hid hy
      have HN := Lib.hid hn
      clear hc h1 h2 hy hn
      by_cases h2 : i + 1 < s.size
      · have h2i : (i : Int) + 1 < (s.size : Int) := by omega
        have hix2 := ix_str s (i + 1) h2 ((i : Int) + 1) (by omega) _ rfl
        rw [← HL.out] at hix2
        generalize (94 :: L').getD (i + 1) 0 = d at *
        go_wp2_with (at_builtin; refine append_elems byteE_ok rfl _ _ rfl w.heap.size _ o rfl (HG1.out _) (some ⟨wr.heap.size, 0, none⟩) 1 1 [c] rfl (one_elem (E := ByteE) wr c) (by simp; omega) (by simp; omega) ?_; intro v9 w9 hown9 hgrow9 _)
        have HO9 := Lib.hid hown9
        have HW9 : Hid (Below w.heap.size w w9) := (HW.out.alloc hwz _).grown hgrow9 (by simp; omega) (fun i hi => (HO.out.lt i hi).1)
        clear hown9 hgrow9
        go_wp2_with fail
        go_roundg (gk - 1)
        case measure => have := HI.out; omega
        case rel => exact ⟨i + 1, _, _, show i + 1 + (gk - 1) = s.size by have := HI.out; omega, by go_num, HO9.out, (show _ = _ by rw [HXY.out, HY.out]; simp), HN.out, HW9.out⟩
      · have h2i : ¬ (i : Int) + 1 < (s.size : Int) := by omega
        go_wp2_with (at_builtin; refine append_elems byteE_ok rfl _ _ rfl w.heap.size _ o rfl (HG1.out _) (some ⟨wr.heap.size, 0, none⟩) 1 1 [c] rfl (one_elem (E := ByteE) wr c) (by simp; omega) (by simp; omega) ?_; intro v9 w9 hown9 hgrow9 _)
        have HO9 := Lib.hid hown9
        have HW9 : Hid (Below w.heap.size w w9) := (HW.out.alloc hwz _).grown hgrow9 (by simp; omega) (fun i hi => (HO.out.lt i hi).1)
        clear hown9 hgrow9
        go_wp2_with fail
        go_roundg (gk - 1)
        case measure => have := HI.out; omega
        case rel => exact ⟨i + 1, _, _, show i + 1 + (gk - 1) = s.size by have := HI.out; omega, by go_num, HO9.out, (show _ = _ by rw [HXY.out, HY.out]; simp), HN.out, HW9.out⟩
end Go.Proofs.YtbipkkebkddegaaGreatDoor
