
/-
  above, returns and treeFault of the references.
-/
import Derived.Test.YtfijplllfdmcoaaGreatDoorPlace
namespace Go.Proofs.YtfijplllfdmcoaaGreatDoor
open Go.RowKit

def intsOf (l : List Nat) : List Int := l.map Int.ofNat
def AbovePost (w : World) (C : List Nat) (e : Ending) (w' : World) : Prop := ∃ v b, e = .returned (.tuple #[v, .bool b]) ∧ Owns IntE w' w.heap.size v (intsOf C) ∧ Below w.heap.size w w'
theorem parI_of {l : List Itm} {i : Nat} {x : Itm} (hx : l[i]? = some x) (hp : x.par.data.toList ≠ []) : parI l i = findI l x.par := by
  unfold parI
  rw [hx]
  simp [hp]
theorem parI_nil {l : List Itm} {i : Nat} {x : Itm} (hx : l[i]? = some x) (hp : x.par.data.toList = []) : parI l i = none := by
  unfold parI
  rw [hx]
  simp [hp]
theorem placeI_cases (l : List Itm) (id : ByteArray) : (∃ k, findI l id = some k ∧ placeI l id = (k : Int)) ∨ (findI l id = none ∧ placeI l id = -1) := by
  unfold placeI
  cases h : findI l id with
  | none => exact .inr ⟨rfl, rfl⟩
  | some k => exact .inl ⟨k, rfl, rfl⟩
theorem take_all_of {l : List Nat} {m : Nat} (h : l.length ≤ m) : l.take m = l := List.take_of_length_le h
set_option maxHeartbeats 3200000 in
set_option maxRecDepth 100000 in
theorem above_any (A : Option Addr) (n c i : Nat) (l : List Itm) (w : World) (h : ItemsAt w A n c l) (hn : n ≤ 2000) (hi : i < n) :
    Calls Tryz.prog 58 #[.slice A n c, .int .i64 (i : Int)] w (AbovePost w (chainI l (n + 1) i)) := by
  have HN := Lib.hid h.1
  have HH := Lib.hid h
  have HPL := Lib.hid (fun (id : ByteArray) wx (hb : Below w.heap.size w wx) => place_any id A n c l wx (h.keep hb) (by omega))
  obtain ⟨g, off, rfl, hg, hc⟩ := h.item (by omega)
  have HC : Hid (∀ wx, Below w.heap.size w wx → ∀ k x, l[k]? = some x → wx.cell? ⟨g, off + k * 7 + 5, none⟩ = some (.string x.par)) := fun wx hb k x hx => (hb.cell (p := ⟨g, off + k * 7 + 5, none⟩) hg).trans (hc k x hx).2.2.2.2.2.1
  obtain ⟨x0, hx0⟩ : ∃ x, l[i]? = some x := ⟨_, List.getElem?_eq_getElem (by have := h.1; omega)⟩
  have HX0 := Lib.hid hx0
  have hci := HC.out w (Below.refl _ _) i x0 hx0
  have HP0 := Lib.hid (HPL.out x0.par w (Below.refl _ _))
  clear h hc hx0
  go_enter Tryz.func58, Tryz.ntmps58
  go_wp2_with fail
  refine HP0.out.mono ?_
  rintro e w1 ⟨rfl, hb1⟩
  have HB1 := Lib.hid hb1
  clear hb1 HP0 hci
  go_wp2_with fail
  go_loopg [6, 7] n (fun gk v6 v7 wr => ∃ (m j : Nat) (y : Itm), Hid (m + gk = n) ∧ Hid (m ≤ (chainI l (n + 1) i).length) ∧ Hid (l[j]? = some y) ∧ v7 = .int .i64 (placeI l y.par) ∧ Hid ((m = 0 ∧ j = i) ∨ (1 ≤ m ∧ (chainI l (n + 1) i)[m - 1]? = some j ∧ y.par.data.toList ≠ [] ∧ x0.par.data.toList ≠ [])) ∧ Hid (Owns IntE wr w.heap.size v6 (intsOf ((chainI l (n + 1) i).take m))) ∧ Hid (Below w.heap.size w wr))
  case atStart => exact ⟨0, i, x0, show 0 + n = n by omega, Nat.zero_le _, HX0.out, rfl, .inl ⟨rfl, rfl⟩, Owns.nil _ _, HB1.out⟩
  case round =>
    obtain ⟨m, j, y, HM, HML, HY, rfl, HJ, HO, HW⟩ := hrel
    clear HB1
    have hwz := HW.out.size
    have hmn : m ≤ n := by have := HM.out; omega
    have hci := HC.out wr HW.out i x0 HX0.out
    have hjy : m = 0 → y = x0 := fun h => by
      rcases HJ.out with ⟨_, e⟩ | ⟨h1, _⟩
      · subst e; have h1 := HX0.out; rw [HY.out] at h1; exact Option.some.inj h1
      · omega
    -- the chain stops here
    have hstop : parI l j = none → (chainI l (n + 1) i).take m = chainI l (n + 1) i := fun h => by
      apply take_all_of
      rcases HJ.out with ⟨h0, e⟩ | ⟨h1, h2, _, _⟩
      · subst e; rw [chainI_none h]; simp
      · have := chainI_step (n + 1) i (m - 1) j h2 (by omega)
        rw [show m - 1 + 1 = m by omega, h] at this
        exact List.getElem?_eq_none_iff.1 this
    by_cases hx : x0.par.data.toList = []
    · have hm0 : m = 0 := by
        rcases HJ.out with ⟨h0, _⟩ | ⟨_, _, _, h4⟩
        · exact h0
        · exact absurd hx h4
      have hyx := hjy hm0
      subst hyx
      have HF : Hid (AbovePost w (chainI l (n + 1) i) (.returned (.tuple #[u6, .bool true])) wr) := ⟨u6, true, rfl, by have := HO.out; rwa [hstop (parI_nil HY.out hx)] at this, HW.out⟩
      have q1 : y.par.toList = [] := by rw [Lib.toList_data]; exact hx
      have q2 : (y.par.toList == []) = true := by rw [q1]; rfl
      have q3 : y.par.toList.isEmpty = true := by rw [q1]; rfl
      generalize placeI l y.par = z at *
      clear hstop hjy hx
      by_cases hz : (0 : Int) ≤ z
      · go_wp2_with fail
        go_ret2
        exact HF.out
      · go_wp2_with fail
        go_ret2
        exact HF.out
    · have q1 : ¬ x0.par.toList = [] := by rw [Lib.toList_data]; exact hx
      have q2 : (x0.par.toList == []) = false := by simpa using q1
      have q3 : x0.par.toList.isEmpty = false := by simpa using q1
      have hyp : y.par.data.toList ≠ [] := by
        rcases HJ.out with ⟨h0, _⟩ | ⟨_, _, h3, _⟩
        · rw [hjy h0]; exact hx
        · exact h3
      have hpar := parI_of HY.out hyp
      rcases placeI_cases l y.par with ⟨k, hk1, hk2⟩ | ⟨hk1, hk2⟩
      · rw [hk2]
        rw [hk1] at hpar
        have hkl := parI_lt hpar
        have hkn : k < n := by rw [HN.out]; exact hkl
        have hget : (chainI l (n + 1) i)[m]? = some k := by
          rcases HJ.out with ⟨h0, e⟩ | ⟨h1, h2, _, _⟩
          · subst e; subst h0; rw [chainI_some hpar]; rfl
          · have := chainI_step (n + 1) i (m - 1) j h2 (by omega)
            rwa [show m - 1 + 1 = m by omega, hpar] at this
        have hml := (List.getElem?_eq_some_iff.1 hget).1
        have HT : Hid (intsOf ((chainI l (n + 1) i).take (m + 1)) = intsOf ((chainI l (n + 1) i).take m) ++ [(k : Int)]) := by
          obtain ⟨h1, h2⟩ := List.getElem?_eq_some_iff.1 hget
          show _ = _
          unfold intsOf
          rw [List.take_succ_eq_append_getElem h1, h2, List.map_append]; rfl
        have HTL : Hid ((intsOf ((chainI l (n + 1) i).take m)).length = m) := by show _ = _; unfold intsOf; rw [List.length_map, List.length_take]; omega
        have HTL2 : Hid ((intsOf ((chainI l (n + 1) i).take m) ++ [(k : Int)]).length = m + 1) := by show _ = _; rw [List.length_append, HTL.out]; rfl
        obtain ⟨z, hzk⟩ : ∃ z, l[k]? = some z := ⟨_, List.getElem?_eq_getElem hkl⟩
        have HZK := Lib.hid hzk
        have HGET := Lib.hid hget
        have HMLT := Lib.hid hml
        have HPARK := Lib.hid hpar
        have hkz : (0 : Int) ≤ (k : Int) := by omega
        clear hstop hjy hpar hk1 hk2 hget hml hzk hyp
        by_cases hbig : n < m + 1
        · have hbi : (n : Int) < (m : Int) + 1 := by omega
          clear hci
          have hci := HC.out wr HW.out i x0 HX0.out
          go_wp2_with (at_builtin; refine append_elems intE_ok rfl _ _ rfl w.heap.size _ _ rfl (World.ownsRow.alloc HO.out _) (some ⟨wr.heap.size, 0, none⟩) 1 1 [(k : Int)] rfl (one_elem (E := IntE) wr (k : Int)) (by rw [HTL.out]; simp only [List.length_singleton]; omega) (by simp; omega) ?_; intro v9 w9 hown9 hgrow9 _; obtain ⟨A9, c9, hv9, -, -, -⟩ := hown9.at_ intE_ok; rw [HTL2.out] at hv9; subst hv9; have hck9 := HC.out w9 ((HW.out.alloc hwz _).grown hgrow9 (by simp; omega) (fun i hi => (HO.out.lt i hi).1)) k z HZK.out)
          have HW9 : Hid (Below w.heap.size w w9) := (HW.out.alloc hwz _).grown hgrow9 (by simp; omega) (fun i hi => (HO.out.lt i hi).1)
          have HO9 : Hid (Owns IntE w9 w.heap.size (.slice A9 (m + 1) c9) (intsOf ((chainI l (n + 1) i).take (m + 1)))) := by show Owns _ _ _ _ _; rw [HT.out]; exact hown9
          clear hown9 hgrow9
          have HF : Hid (AbovePost w (chainI l (n + 1) i) (.returned (.tuple #[.slice A9 (m + 1) c9, .bool false])) w9) := ⟨_, false, rfl, by have := HO9.out; rwa [take_all_of (by have := chainI_len l (n + 1) i; omega)] at this, HW9.out⟩
          go_wp2_with fail
          go_ret2
          exact HF.out
        · have hbi : ¬ (n : Int) < (m : Int) + 1 := by omega
          by_cases hzp : z.par.data.toList = []
          · have r1 : z.par.toList = [] := by rw [Lib.toList_data]; exact hzp
            have r2 : (z.par.toList == []) = true := by rw [r1]; rfl
            have r3 : z.par.toList.isEmpty = true := by rw [r1]; rfl
            have HEND : Hid ((chainI l (n + 1) i).take (m + 1) = chainI l (n + 1) i) := by
              apply take_all_of
              have := chainI_step (n + 1) i m k HGET.out (by omega)
              rw [parI_nil HZK.out hzp] at this
              exact List.getElem?_eq_none_iff.1 this
            clear hzp
            go_wp2_with (at_builtin; refine append_elems intE_ok rfl _ _ rfl w.heap.size _ _ rfl (World.ownsRow.alloc HO.out _) (some ⟨wr.heap.size, 0, none⟩) 1 1 [(k : Int)] rfl (one_elem (E := IntE) wr (k : Int)) (by rw [HTL.out]; simp only [List.length_singleton]; omega) (by simp; omega) ?_; intro v9 w9 hown9 hgrow9 _; obtain ⟨A9, c9, hv9, -, -, -⟩ := hown9.at_ intE_ok; rw [HTL2.out] at hv9; subst hv9; have hck9 := HC.out w9 ((HW.out.alloc hwz _).grown hgrow9 (by simp; omega) (fun i hi => (HO.out.lt i hi).1)) k z HZK.out)
            have HW9 : Hid (Below w.heap.size w w9) := (HW.out.alloc hwz _).grown hgrow9 (by simp; omega) (fun i hi => (HO.out.lt i hi).1)
            have HO9 : Hid (Owns IntE w9 w.heap.size (.slice A9 (m + 1) c9) (intsOf ((chainI l (n + 1) i).take (m + 1)))) := by show Owns _ _ _ _ _; rw [HT.out]; exact hown9
            clear hown9 hgrow9
            have HF : Hid (AbovePost w (chainI l (n + 1) i) (.returned (.tuple #[.slice A9 (m + 1) c9, .bool true])) w9) := ⟨_, true, rfl, by have := HO9.out; rwa [HEND.out] at this, HW9.out⟩
            go_wp2_with fail
            go_ret2
            exact HF.out
          · have r1 : ¬ z.par.toList = [] := by rw [Lib.toList_data]; exact hzp
            have r2 : (z.par.toList == []) = false := by simpa using r1
            have r3 : z.par.toList.isEmpty = false := by simpa using r1
            have HZP := Lib.hid hzp
            clear hzp
            go_wp2_with (at_builtin; refine append_elems intE_ok rfl _ _ rfl w.heap.size _ _ rfl (World.ownsRow.alloc HO.out _) (some ⟨wr.heap.size, 0, none⟩) 1 1 [(k : Int)] rfl (one_elem (E := IntE) wr (k : Int)) (by rw [HTL.out]; simp only [List.length_singleton]; omega) (by simp; omega) ?_; intro v9 w9 hown9 hgrow9 _; obtain ⟨A9, c9, hv9, -, -, -⟩ := hown9.at_ intE_ok; rw [HTL2.out] at hv9; subst hv9; have hck9 := HC.out w9 ((HW.out.alloc hwz _).grown hgrow9 (by simp; omega) (fun i hi => (HO.out.lt i hi).1)) k z HZK.out)
            have HW9 : Hid (Below w.heap.size w w9) := (HW.out.alloc hwz _).grown hgrow9 (by simp; omega) (fun i hi => (HO.out.lt i hi).1)
            have HO9 : Hid (Owns IntE w9 w.heap.size (.slice A9 (m + 1) c9) (intsOf ((chainI l (n + 1) i).take (m + 1)))) := by show Owns _ _ _ _ _; rw [HT.out]; exact hown9
            clear hown9 hgrow9
            have HPZ := Lib.hid (HPL.out z.par w9 HW9.out)
            go_wp2_with fail
            refine HPZ.out.mono ?_
            rintro e w10 ⟨rfl, hb10⟩
            have HW10 := Lib.hid (HW9.out.trans (hb10.mono HW9.out.size))
            have HO10 := Lib.hid (HO9.out.below_ hb10)
            clear hb10 HPZ hck9
            go_wp2_with fail
            go_roundg (gk - 1)
            case measure => have := HM.out; omega
            case rel => exact ⟨m + 1, k, z, show m + 1 + (gk - 1) = n by have := HM.out; omega, HMLT.out, HZK.out, rfl, .inr ⟨by omega, by rw [Nat.add_sub_cancel]; exact HGET.out, HZP.out, hx⟩, HO10.out, HW10.out⟩
      · rw [hk2]
        rw [hk1] at hpar
        have HF : Hid (AbovePost w (chainI l (n + 1) i) (.returned (.tuple #[u6, .bool true])) wr) := ⟨u6, true, rfl, by have := HO.out; rwa [hstop hpar] at this, HW.out⟩
        clear hstop hjy hpar hk1 hk2
        go_wp2_with fail
        go_ret2
        exact HF.out
end Go.Proofs.YtfijplllfdmcoaaGreatDoor
