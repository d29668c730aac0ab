
/-
  SameChanges returns true at changes that read the same.
-/
import Derived.Test.YtmaimojpjepmjaaGreatDoorWsTurn
namespace Go.Proofs.YtmaimojpjepmjaaGreatDoor
open Go.RowKit

theorem equal_same (A B : Option Addr) (n c m d : Nat) (l : List (List UInt8)) (w : World) (h : StrsAt w A n c l) (h' : StrsAt w B m d l) (hn : n ≤ 100000) (hm : m ≤ 100000) :
    Calls Tryz.prog 21 #[.slice A n c, .slice B m d] w fun e w' => e = .returned (.bool true) ∧ Below w.heap.size w w' :=
  (equal_any A B n c m d l l w h h' hn hm).mono fun e w' h => ⟨by rw [h.1]; simp, by obtain ⟨q, hq⟩ := h.2; rw [hq]; exact below_drewN (Below.refl _ _) q⟩

set_option maxHeartbeats 1600000 in
set_option maxRecDepth 100000 in
theorem sameOne_any (z : Int) (D F D2 F2 : Option Addr) (dn dc fn fc dn2 dc2 fn2 fc2 : Nat) (d e : List (List UInt8)) (w : World) (hD : StrsAt w D dn dc d) (hD2 : StrsAt w D2 dn2 dc2 d) (hF : StrsAt w F fn fc e) (hF2 : StrsAt w F2 fn2 fc2 e) (hd : d.length ≤ 1000) (he : e.length ≤ 1000) :
    Calls Tryz.prog 52 #[.agg #[.int .i64 z, .slice D dn dc, .slice F fn fc], .agg #[.int .i64 z, .slice D2 dn2 dc2, .slice F2 fn2 fc2]] w fun e w' => e = .returned (.bool true) ∧ Below w.heap.size w w' := by
  have h1 := hD.1
  have h2 := hD2.1
  have h3 := hF.1
  have h4 := hF2.1
  have HE1 := Lib.hid (fun wx (hb : Below w.heap.size w wx) => equal_same D D2 dn dc dn2 dc2 d wx (hD.keep hb) (hD2.keep hb) (by omega) (by omega))
  have HE2 := Lib.hid (fun wx (hb : Below w.heap.size w wx) => equal_same F F2 fn fc fn2 fc2 e wx (hF.keep hb) (hF2.keep hb) (by omega) (by omega))
  clear hD hD2 hF hF2 h1 h2 h3 h4
  go_enter Tryz.func52, Tryz.ntmps52
  go_upto_region 1 with (fail)
  have hb0 : Below w.heap.size w ((w.alloc (.cells #[.int .i64 z, .slice D dn dc, .slice F fn fc] 55)).alloc (.cells #[.int .i64 z, .slice D2 dn2 dc2, .slice F2 fn2 fc2] 55)) := ((Below.refl _ _).alloc (Nat.le_refl _) _).alloc (by simp) _
  have hp : ((w.alloc (.cells #[.int .i64 z, .slice D dn dc, .slice F fn fc] 55)).alloc (.cells #[.int .i64 z, .slice D2 dn2 dc2, .slice F2 fn2 fc2] 55)).heap[w.heap.size]? = some (.cells #[.int .i64 z, .slice D dn dc, .slice F fn fc] 55 (0, 0)) := (Below.heap_alloc _ _ _ (by simp)).trans (heap_alloc_new w _)
  have hq : ((w.alloc (.cells #[.int .i64 z, .slice D dn dc, .slice F fn fc] 55)).alloc (.cells #[.int .i64 z, .slice D2 dn2 dc2, .slice F2 fn2 fc2] 55)).heap[w.heap.size + 1]? = some (.cells #[.int .i64 z, .slice D2 dn2 dc2, .slice F2 fn2 fc2] 55 (0, 0)) := by
    have h := heap_alloc_new (w.alloc (.cells #[.int .i64 z, .slice D dn dc, .slice F fn fc] 55)) (.cells #[.int .i64 z, .slice D2 dn2 dc2, .slice F2 fn2 fc2] 55)
    rwa [show (w.alloc (.cells #[.int .i64 z, .slice D dn dc, .slice F fn fc] 55)).heap.size = w.heap.size + 1 by simp] at h
  have HB := Lib.hid hb0
  have HP := Lib.hid hp
  have HQ := Lib.hid hq
  clear hb0 hp hq
  generalize (w.alloc (.cells #[.int .i64 z, .slice D dn dc, .slice F fn fc] 55)).alloc (.cells #[.int .i64 z, .slice D2 dn2 dc2, .slice F2 fn2 fc2] 55) = w1 at *
  obtain ⟨P, hP⟩ : ∃ P, w.heap.size = P := ⟨_, rfl⟩
  have hP1 : P < w1.heap.size := by rw [← hP]; exact (Array.getElem?_eq_some_iff.1 HP.out).1
  have hQ1 : P + 1 < w1.heap.size := by rw [← hP]; exact (Array.getElem?_eq_some_iff.1 HQ.out).1
  rw [hP] at HP HQ ⊢
  have HPP := Lib.hid hP
  clear hP
  have c0 : ∀ wx, Below w1.heap.size w1 wx → wx.cell? ⟨P, 0, none⟩ = some (.int .i64 z) ∧ wx.cell? ⟨P, 1, none⟩ = some (.slice D dn dc) ∧ wx.cell? ⟨P, 2, none⟩ = some (.slice F fn fc) := fun wx hb => by
    have h := (hb.block P hP1).trans HP.out
    refine ⟨?_, ?_, ?_⟩ <;> (rw [cell_of_row wx P _ _ _ _ h]; rfl)
  have c1 : ∀ wx, Below w1.heap.size w1 wx → wx.cell? ⟨P + 1, 0, none⟩ = some (.int .i64 z) ∧ wx.cell? ⟨P + 1, 1, none⟩ = some (.slice D2 dn2 dc2) ∧ wx.cell? ⟨P + 1, 2, none⟩ = some (.slice F2 fn2 fc2) := fun wx hb => by
    have h := (hb.block (P + 1) hQ1).trans HQ.out
    refine ⟨?_, ?_, ?_⟩ <;> (rw [cell_of_row wx (P + 1) _ _ _ _ h]; rfl)
  have HC0 := Lib.hid c0
  have HC1 := Lib.hid c1
  clear c0 c1
  obtain ⟨a0, a1, a2⟩ := HC0.out w1 (Below.refl _ _)
  obtain ⟨b0, b1, b2⟩ := HC1.out w1 (Below.refl _ _)
  have HX1 := Lib.hid (HE1.out w1 HB.out)
  go_wp2_with fail
  refine HX1.out.mono ?_
  rintro e' w2 ⟨rfl, hb2⟩
  clear a0 a1 a2 b0 b1 b2
  obtain ⟨a0, a1, a2⟩ := HC0.out w2 hb2
  obtain ⟨b0, b1, b2⟩ := HC1.out w2 hb2
  have HB2 := Lib.hid (HB.out.trans (hb2.mono HB.out.size))
  have HX2 := Lib.hid (HE2.out w2 HB2.out)
  clear hb2 HX1 HE1 HE2
  go_wp2_with fail
  refine HX2.out.mono ?_
  rintro e' w3 ⟨rfl, hb3⟩
  have HB3 := Lib.hid (HB2.out.trans (hb3.mono HB2.out.size))
  clear hb3
  go_wp2_with fail
  go_ret
  exact ⟨rfl, HB3.out⟩

set_option maxHeartbeats 3200000 in
set_option maxRecDepth 100000 in
theorem equalFunc_any (A B : Option Addr) (n c m d : Nat) (rs rs2 : List RawC) (cs : List TokC) (w : World) (hA : ElemsAt ChgE w A n c rs) (hB : ElemsAt ChgE w B m d rs2) (h1 : ChgsIs w rs cs) (h2 : ChgsIs w rs2 cs) (hbd : ChgBd cs) :
    Calls Tryz.prog 51 #[.slice A n c, .slice B m d, .func (.func 52) #[] #[]] w fun e w' => e = .returned (.bool true) ∧ Below w.heap.size w w' := by
  have HA := Lib.hid hA
  have HB := Lib.hid hB
  have H1 := Lib.hid h1
  have H2 := Lib.hid h2
  have HBD := Lib.hid hbd
  have hnm : n = m := by rw [hA.1, hB.1, h1.1, h2.1]
  have hn : n ≤ 102 := by rw [hA.1, h1.1]; exact hbd.len
  subst hnm
  clear hA hB h1 h2 hbd
  go_enter Tryz.func51, Tryz.ntmps51
  go_wp2_with fail
  go_loopg [17] n (fun gk v wr => ∃ k : Nat, Hid (k + gk = n) ∧ v = .int .i64 k ∧ Hid (Below w.heap.size w wr))
  case atStart => exact ⟨0, show 0 + n = n by omega, rfl, Below.refl _ _⟩
  case round =>
    obtain ⟨k, HK, rfl, HBW⟩ := hrel
    have hkn : k ≤ n := by have := HK.out; omega
    by_cases hlt : k < n
    · obtain ⟨r, hr⟩ : ∃ r, rs[k]? = some r := ⟨_, List.getElem?_eq_getElem (by have := HA.out.1; omega)⟩
      obtain ⟨r2, hr2⟩ : ∃ r2, rs2[k]? = some r2 := ⟨_, List.getElem?_eq_getElem (by have := HB.out.1; omega)⟩
      obtain ⟨ch, hch⟩ : ∃ ch, cs[k]? = some ch := ⟨_, List.getElem?_eq_getElem (by have := HA.out.1; have := H1.out.1; omega)⟩
      obtain ⟨p1, p2, p3⟩ := H1.out.2 k r ch hr hch
      obtain ⟨q1, q2, q3⟩ := H2.out.2 k r2 ch hr2 hch
      have hmem := List.mem_of_getElem? hch
      have ld := (HBD.out.drop ch hmem).1
      have la := (HBD.out.add ch hmem).1
      obtain ⟨gA, oA, rfl, hgA, hcA⟩ := HA.out.2.2.2 (by omega)
      obtain ⟨gB, oB, rfl, hgB, hcB⟩ := HB.out.2.2.2 (by omega)
      have c0 := (HBW.out.cell (p := ⟨gA, oA + k * ChgE.size + 0, none⟩) hgA).trans (hcA k r 0 _ hr rfl)
      have c1 := (HBW.out.cell (p := ⟨gA, oA + k * ChgE.size + 1, none⟩) hgA).trans (hcA k r 1 _ hr rfl)
      have c2 := (HBW.out.cell (p := ⟨gA, oA + k * ChgE.size + 2, none⟩) hgA).trans (hcA k r 2 _ hr rfl)
      have d0 := (HBW.out.cell (p := ⟨gB, oB + k * ChgE.size + 0, none⟩) hgB).trans (hcB k r2 0 _ hr2 rfl)
      have d1 := (HBW.out.cell (p := ⟨gB, oB + k * ChgE.size + 1, none⟩) hgB).trans (hcB k r2 1 _ hr2 rfl)
      have d2 := (HBW.out.cell (p := ⟨gB, oB + k * ChgE.size + 2, none⟩) hgB).trans (hcB k r2 2 _ hr2 rfl)
      have hsz : ChgE.size = 3 := rfl
      rw [hsz] at c0 c1 c2 d0 d1 d2
      rw [Nat.add_zero] at c0 d0
      clear hsz hcA hcB hr hr2 hch hmem
      obtain ⟨z, ⟨D, dn, dc⟩, ⟨F, fn, fc⟩⟩ := r
      obtain ⟨z2, ⟨D2, dn2, dc2⟩, ⟨F2, fn2, fc2⟩⟩ := r2
      obtain ⟨a, dd, ee⟩ := ch
      simp only at p1 p2 p3 q1 q2 q3 ld la c0 c1 c2 d0 d1 d2
      subst p1
      subst q1
      have c1' : wr.cell? ⟨gA, oA + k * 3 + 1, none⟩ = some (.slice D dn dc) := c1
      have c2' : wr.cell? ⟨gA, oA + k * 3 + 2, none⟩ = some (.slice F fn fc) := c2
      have d1' : wr.cell? ⟨gB, oB + k * 3 + 1, none⟩ = some (.slice D2 dn2 dc2) := d1
      have d2' : wr.cell? ⟨gB, oB + k * 3 + 2, none⟩ = some (.slice F2 fn2 fc2) := d2
      clear c1 c2 d1 d2
      have HS := Lib.hid (fun wx (hb : Below w.heap.size w wx) => sameOne_any z2 D F D2 F2 dn dc fn fc dn2 dc2 fn2 fc2 dd ee wx (p2.keep hb) (q2.keep hb) (p3.keep hb) (q3.keep hb) (by omega) (by omega))
      clear p2 p3 q2 q3
      have hgBr : gB < wr.heap.size := Nat.lt_of_lt_of_le hgB HBW.out.size
      go_upto_region 6 with (fail)
      have hb1 : Below wr.heap.size wr (wr.alloc (.cells #[.int .i64 z2, .slice D dn dc, .slice F fn fc] 55)) := (Below.refl _ _).alloc (Nat.le_refl _) _
      have hp : (wr.alloc (.cells #[.int .i64 z2, .slice D dn dc, .slice F fn fc] 55)).heap[wr.heap.size]? = some (.cells #[.int .i64 z2, .slice D dn dc, .slice F fn fc] 55 (0, 0)) := heap_alloc_new wr _
      have x0 := (hb1.cell (p := ⟨gB, oB + k * 3, none⟩) hgBr).trans d0
      have x1 := (hb1.cell (p := ⟨gB, oB + k * 3 + 1, none⟩) hgBr).trans d1'
      have x2 := (hb1.cell (p := ⟨gB, oB + k * 3 + 2, none⟩) hgBr).trans d2'
      have HBW1 := Lib.hid (HBW.out.trans (hb1.mono HBW.out.size))
      clear c0 c1' c2' d0 d1' d2' hb1
      generalize wr.alloc (.cells #[.int .i64 z2, .slice D dn dc, .slice F fn fc] 55) = w1 at *
      generalize wr.heap.size = P at *
      have hPl : P < w1.heap.size := (Array.getElem?_eq_some_iff.1 hp).1
      have HP := Lib.hid hp
      clear hp
      go_upto_region 7 with (fail)
      have hb2 : Below w1.heap.size w1 (w1.alloc (.cells #[.int .i64 z2, .slice D2 dn2 dc2, .slice F2 fn2 fc2] 55)) := (Below.refl _ _).alloc (Nat.le_refl _) _
      have hq : (w1.alloc (.cells #[.int .i64 z2, .slice D2 dn2 dc2, .slice F2 fn2 fc2] 55)).heap[w1.heap.size]? = some (.cells #[.int .i64 z2, .slice D2 dn2 dc2, .slice F2 fn2 fc2] 55 (0, 0)) := heap_alloc_new w1 _
      have hp2 := (hb2.block P hPl).trans HP.out
      have HBW2 := Lib.hid (HBW1.out.trans (hb2.mono HBW1.out.size))
      clear x0 x1 x2 hb2
      generalize w1.alloc (.cells #[.int .i64 z2, .slice D2 dn2 dc2, .slice F2 fn2 fc2] 55) = w2 at *
      generalize w1.heap.size = Q at *
      have a0 : w2.cell? ⟨P, 0, none⟩ = some (.int .i64 z2) := by rw [cell_of_row w2 P _ _ _ _ hp2]; rfl
      have a1 : w2.cell? ⟨P, 1, none⟩ = some (.slice D dn dc) := by rw [cell_of_row w2 P _ _ _ _ hp2]; rfl
      have a2 : w2.cell? ⟨P, 2, none⟩ = some (.slice F fn fc) := by rw [cell_of_row w2 P _ _ _ _ hp2]; rfl
      have b0 : w2.cell? ⟨Q, 0, none⟩ = some (.int .i64 z2) := by rw [cell_of_row w2 Q _ _ _ _ hq]; rfl
      have b1 : w2.cell? ⟨Q, 1, none⟩ = some (.slice D2 dn2 dc2) := by rw [cell_of_row w2 Q _ _ _ _ hq]; rfl
      have b2 : w2.cell? ⟨Q, 2, none⟩ = some (.slice F2 fn2 fc2) := by rw [cell_of_row w2 Q _ _ _ _ hq]; rfl
      have HSS := Lib.hid (HS.out w2 HBW2.out)
      clear hq hp2 HS
      go_wp2_with fail
      refine HSS.out.mono ?_
      rintro e' w3 ⟨rfl, hb3⟩
      have HBW3 := Lib.hid (HBW2.out.trans (hb3.mono HBW2.out.size))
      clear hb3 a0 a1 a2 b0 b1 b2
      go_wp2_with fail
      go_roundg (gk - 1)
      case measure => have := HK.out; omega
      case rel => exact ⟨k + 1, show k + 1 + (gk - 1) = n by have := HK.out; omega, by go_num, HBW3.out⟩
    · go_wp2_with fail
      go_ret
      exact ⟨rfl, HBW.out⟩
set_option maxHeartbeats 800000 in
theorem sameChanges_any (A B : Option Addr) (n c m d : Nat) (rs rs2 : List RawC) (cs : List TokC) (w : World) (hA : ElemsAt ChgE w A n c rs) (hB : ElemsAt ChgE w B m d rs2) (h1 : ChgsIs w rs cs) (h2 : ChgsIs w rs2 cs) (hbd : ChgBd cs) :
    Calls Tryz.prog 20 #[.slice A n c, .slice B m d] w fun e w' => e = .returned (.bool true) ∧ Below w.heap.size w w' := by
  have HE := Lib.hid (equalFunc_any A B n c m d rs rs2 cs w hA hB h1 h2 hbd)
  clear hA hB h1 h2 hbd
  go_enter Tryz.func20, Tryz.ntmps20
  go_wp2_with fail
  refine HE.out.mono ?_
  rintro e w1 ⟨rfl, hb⟩
  go_wp2_with fail
  go_ret
  exact ⟨rfl, hb⟩
end Go.Proofs.YtmaimojpjepmjaaGreatDoor
