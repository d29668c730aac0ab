
/-
  Item makes an item whose strings are not too long.
-/
import Derived.Test.YtfijplllfdmcoaaGreatDoorMkItem
namespace Go.Proofs.YtfijplllfdmcoaaGreatDoor
open Go.RowKit

theorem ItemAt.row_ {w w' : World} {P g : Nat} {x : Itm} (h : ItemAt w P x) (hg : w.grownBy w' (some g)) (hne : P ≠ g) : ItemAt w' P x := (hg.block P h.lt (by simp; omega)).trans h
theorem ItemAt.fr {w : World} {P : Nat} {x : Itm} (h : ItemAt w P x) (j : Nat) : w.frozen? ⟨P, j, none⟩ = false := by unfold ItemAt at h; simp [World.frozen?, h]
theorem ItemAt.setId {w : World} {P : Nat} {x : Itm} (h : ItemAt w P x) (t : ByteArray) : ItemAt (w.setCell ⟨P, 0, none⟩ (.string t)) P { x with id := t } := by
  unfold ItemAt at *
  simp [World.setCell, Array.getElem?_modify, h, Itm.cells]
theorem ItemAt.setCu {w : World} {P : Nat} {x : Itm} (h : ItemAt w P x) (t : ByteArray) : ItemAt (w.setCell ⟨P, 1, none⟩ (.string t)) P { x with cu := t } := by
  unfold ItemAt at *
  simp [World.setCell, Array.getElem?_modify, h, Itm.cells]
theorem ItemAt.setKind {w : World} {P : Nat} {x : Itm} (h : ItemAt w P x) (t : Int) : ItemAt (w.setCell ⟨P, 2, none⟩ (.int .i64 t)) P { x with kind := t } := by
  unfold ItemAt at *
  simp [World.setCell, Array.getElem?_modify, h, Itm.cells]
theorem ItemAt.setName {w : World} {P : Nat} {x : Itm} (h : ItemAt w P x) (t : ByteArray) : ItemAt (w.setCell ⟨P, 3, none⟩ (.string t)) P { x with name := t } := by
  unfold ItemAt at *
  simp [World.setCell, Array.getElem?_modify, h, Itm.cells]
theorem ItemAt.setAt {w : World} {P : Nat} {x : Itm} (h : ItemAt w P x) (t : Int) : ItemAt (w.setCell ⟨P, 4, none⟩ (.int .i64 t)) P { x with at_ := t } := by
  unfold ItemAt at *
  simp [World.setCell, Array.getElem?_modify, h, Itm.cells]
theorem ItemAt.setPar {w : World} {P : Nat} {x : Itm} (h : ItemAt w P x) (t : ByteArray) : ItemAt (w.setCell ⟨P, 5, none⟩ (.string t)) P { x with par := t } := by
  unfold ItemAt at *
  simp [World.setCell, Array.getElem?_modify, h, Itm.cells]
theorem ItemAt.setText {w : World} {P : Nat} {x : Itm} (h : ItemAt w P x) (t : ByteArray) : ItemAt (w.setCell ⟨P, 6, none⟩ (.string t)) P { x with text := t } := by
  unfold ItemAt at *
  simp [World.setCell, Array.getElem?_modify, h, Itm.cells]
theorem StreamAt.setC {w : World} {g : Nat} {A : Option Addr} {n c K P j : Nat} (h : StreamAt w g A n c K) (hP : g < P) (v : Value) : StreamAt (w.setCell ⟨P, j, none⟩ v) g A n c K :=
  h.row_ (grown_setCell w P j v) (fun i e => by have := Option.some.inj e; omega)
theorem grown_setC {a w : World} {g P j : Nat} (h : a.grownBy w (some g)) (hP : a.heap.size ≤ P) (v : Value) : a.grownBy (w.setCell ⟨P, j, none⟩ v) (some g) :=
  grown_row h (grown_setCell w P j v) (fun i e => by have := Option.some.inj e; omega)
theorem rep_sizeI (u : List UInt8) (z : Nat) : (⟨(Lib.repeatL u z).toArray⟩ : ByteArray).size = z * u.length := by
  have h := Lib.repeatL_length u z
  simp only [ByteArray.size, List.size_toArray]
  rw [h]
def MkPost (w : World) (g : Nat) (A : Option Addr) (n c K : Nat) (e : Ending) (w' : World) : Prop :=
  ∃ x : Itm, e = .returned x.v ∧ SmallI x ∧ StreamAt w' g A n c (K + 200) ∧ w.grownBy w' (some g)
/-- The item under way, and the result's own place. -/
structure MkAt (w wx : World) (g : Nat) (A : Option Addr) (n c K P : Nat) (x : Itm) : Prop where
  it : ItemAt wx P x
  res : ∃ y : Itm, ItemAt wx w.heap.size y
  sm : SmallI x
  st : StreamAt wx g A n c K
  gr : w.grownBy wx (some g)
  lo : g < w.heap.size
  pl : w.heap.size < P
theorem MkAt.more {w wx : World} {g : Nat} {A : Option Addr} {n c K K' P : Nat} {x : Itm} (h : MkAt w wx g A n c K P x) (hK : K ≤ K') : MkAt w wx g A n c K' P x := ⟨h.it, h.res, h.sm, h.st.more hK, h.gr, h.lo, h.pl⟩
theorem MkAt.step {w wx wy : World} {g : Nat} {A : Option Addr} {n c K K' P : Nat} {x : Itm} (h : MkAt w wx g A n c K P x) (hg : wx.grownBy wy (some g)) (hs : StreamAt wy g A n c K') : MkAt w wy g A n c K' P x := by
  obtain ⟨y, hy⟩ := h.res
  have h1 := h.lo
  have h2 := h.pl
  exact ⟨h.it.row_ hg (by omega), ⟨y, hy.row_ hg (by omega)⟩, h.sm, hs, grown_trans h.gr hg, h.lo, h.pl⟩
theorem MkAt.keep {w wx wy : World} {g : Nat} {A : Option Addr} {n c K P : Nat} {x : Itm} (h : MkAt w wx g A n c K P x) (hb : Below wx.heap.size wx wy) : MkAt w wy g A n c K P x := by
  obtain ⟨y, hy⟩ := h.res
  exact ⟨h.it.keep hb, ⟨y, hy.keep hb⟩, h.sm, h.st.below hb, grown_below h.gr hb, h.lo, h.pl⟩
theorem MkAt.stepA {w wx wy : World} {g : Nat} {A : Option Addr} {n c K K' P : Nat} {x : Itm} {o : Obj} (h : MkAt w wx g A n c K P x) (hg : (wx.alloc o).grownBy wy (some g)) (hs : StreamAt wy g A n c K') : MkAt w wy g A n c K' P x :=
  (h.keep ((Below.refl _ _).alloc (Nat.le_refl _) o)).step hg hs
theorem ItemAt.far {w : World} {P Q j : Nat} {y : Itm} {v : Value} (h : ItemAt w Q y) (hne : Q ≠ P) : ItemAt (w.setCell ⟨P, j, none⟩ v) Q y := (Below.heap_setCell w ⟨P, j, none⟩ v Q (by simpa using hne)).trans h
theorem MkAt.set {w wx : World} {g : Nat} {A : Option Addr} {n c K P j : Nat} {x x' : Itm} {v : Value} (h : MkAt w wx g A n c K P x) (hi : ItemAt (wx.setCell ⟨P, j, none⟩ v) P x') (hs : SmallI x') : MkAt w (wx.setCell ⟨P, j, none⟩ v) g A n c K P x' := by
  obtain ⟨y, hy⟩ := h.res
  have h1 := h.lo
  have h2 := h.pl
  exact ⟨hi, ⟨y, hy.far (by omega)⟩, hs, h.st.setC (by omega) v, grown_setC h.gr (by omega) v, h.lo, h.pl⟩
section
variable {w wx : World} {g : Nat} {A : Option Addr} {n c K P : Nat} {x : Itm}
theorem MkAt.setId (h : MkAt w wx g A n c K P x) (t : ByteArray) (ht : t.size ≤ 1000000) : MkAt w (wx.setCell ⟨P, 0, none⟩ (.string t)) g A n c K P { x with id := t } := h.set (h.it.setId t) ⟨ht, h.sm.2⟩
theorem MkAt.setCu (h : MkAt w wx g A n c K P x) (t : ByteArray) (ht : t.size ≤ 1000000) : MkAt w (wx.setCell ⟨P, 1, none⟩ (.string t)) g A n c K P { x with cu := t } := h.set (h.it.setCu t) ⟨h.sm.1, ht, h.sm.2.2⟩
theorem MkAt.setKind (h : MkAt w wx g A n c K P x) (t : Int) : MkAt w (wx.setCell ⟨P, 2, none⟩ (.int .i64 t)) g A n c K P { x with kind := t } := h.set (h.it.setKind t) h.sm
theorem MkAt.setName (h : MkAt w wx g A n c K P x) (t : ByteArray) (ht : t.size ≤ 1000000) : MkAt w (wx.setCell ⟨P, 3, none⟩ (.string t)) g A n c K P { x with name := t } := h.set (h.it.setName t) ⟨h.sm.1, h.sm.2.1, ht, h.sm.2.2.2⟩
theorem MkAt.setAt (h : MkAt w wx g A n c K P x) (t : Int) : MkAt w (wx.setCell ⟨P, 4, none⟩ (.int .i64 t)) g A n c K P { x with at_ := t } := h.set (h.it.setAt t) h.sm
theorem MkAt.setPar (h : MkAt w wx g A n c K P x) (t : ByteArray) (ht : t.size ≤ 1000000) : MkAt w (wx.setCell ⟨P, 5, none⟩ (.string t)) g A n c K P { x with par := t } := h.set (h.it.setPar t) ⟨h.sm.1, h.sm.2.1, h.sm.2.2.1, ht, h.sm.2.2.2.2⟩
theorem MkAt.setText (h : MkAt w wx g A n c K P x) (t : ByteArray) (ht : t.size ≤ 1000000) : MkAt w (wx.setCell ⟨P, 6, none⟩ (.string t)) g A n c K P { x with text := t } := h.set (h.it.setText t) ⟨h.sm.1, h.sm.2.1, h.sm.2.2.1, h.sm.2.2.2.1, ht⟩
end
theorem MkAt.res_ {w wc : World} {g : Nat} {A : Option Addr} {n c K P : Nat} {y : Itm} (h : MkAt w wc g A n c K P y) :
    StreamAt (((((((wc.setCell ⟨w.heap.size, 0, none⟩ (.string y.id)).setCell ⟨w.heap.size, 1, none⟩ (.string y.cu)).setCell ⟨w.heap.size, 2, none⟩ (.int .i64 y.kind)).setCell ⟨w.heap.size, 3, none⟩ (.string y.name)).setCell ⟨w.heap.size, 4, none⟩ (.int .i64 y.at_)).setCell ⟨w.heap.size, 5, none⟩ (.string y.par)).setCell ⟨w.heap.size, 6, none⟩ (.string y.text)) g A n c K ∧ w.grownBy (((((((wc.setCell ⟨w.heap.size, 0, none⟩ (.string y.id)).setCell ⟨w.heap.size, 1, none⟩ (.string y.cu)).setCell ⟨w.heap.size, 2, none⟩ (.int .i64 y.kind)).setCell ⟨w.heap.size, 3, none⟩ (.string y.name)).setCell ⟨w.heap.size, 4, none⟩ (.int .i64 y.at_)).setCell ⟨w.heap.size, 5, none⟩ (.string y.par)).setCell ⟨w.heap.size, 6, none⟩ (.string y.text)) (some g) ∧ ItemAt (((((((wc.setCell ⟨w.heap.size, 0, none⟩ (.string y.id)).setCell ⟨w.heap.size, 1, none⟩ (.string y.cu)).setCell ⟨w.heap.size, 2, none⟩ (.int .i64 y.kind)).setCell ⟨w.heap.size, 3, none⟩ (.string y.name)).setCell ⟨w.heap.size, 4, none⟩ (.int .i64 y.at_)).setCell ⟨w.heap.size, 5, none⟩ (.string y.par)).setCell ⟨w.heap.size, 6, none⟩ (.string y.text)) w.heap.size y := by
  obtain ⟨y0, h0⟩ := h.res
  have hl := h.lo
  exact ⟨((((((h.st.setC hl _).setC hl _).setC hl _).setC hl _).setC hl _).setC hl _).setC hl _, grown_setC (grown_setC (grown_setC (grown_setC (grown_setC (grown_setC (grown_setC h.gr (Nat.le_refl _) _) (Nat.le_refl _) _) (Nat.le_refl _) _) (Nat.le_refl _) _) (Nat.le_refl _) _) (Nat.le_refl _) _) (Nat.le_refl _) _, ((((((h0.setId y.id).setCu y.cu).setKind y.kind).setName y.name).setAt y.at_).setPar y.par).setText y.text⟩
set_option maxHeartbeats 6400000 in
set_option maxRecDepth 100000 in
theorem item_any (id : ByteArray) (g : Nat) (A : Option Addr) (n c K : Nat) (w : World) (hid : id.size ≤ 1000) (hs : StreamAt w g A n c K) (hK : K ≤ 10000) :
    Calls Tryz.prog 24 #[.pointer (some ⟨g, 0, none⟩), .string id] w (MkPost w g A n c K) := by
  have HGW := Lib.hid hs.lt
  have HID := Lib.hid hid
  go_enter Tryz.func24, Tryz.ntmps24
  go_upto_region 1 with (fail)
  have HY0 : Hid (∃ y : Itm, ItemAt (w.alloc (.cells #[.string ⟨#[]⟩, .string ⟨#[]⟩, .int .i64 0, .string ⟨#[]⟩, .int .i64 0, .string ⟨#[]⟩, .string ⟨#[]⟩] 60)) w.heap.size y) := ⟨⟨⟨#[]⟩, ⟨#[]⟩, 0, ⟨#[]⟩, 0, ⟨#[]⟩, ⟨#[]⟩⟩, heap_alloc_new w _⟩
  have HS0 := Lib.hid (hs.alloc (.cells #[.string ⟨#[]⟩, .string ⟨#[]⟩, .int .i64 0, .string ⟨#[]⟩, .int .i64 0, .string ⟨#[]⟩, .string ⟨#[]⟩] 60))
  have HG0 : Hid (w.grownBy (w.alloc (.cells #[.string ⟨#[]⟩, .string ⟨#[]⟩, .int .i64 0, .string ⟨#[]⟩, .int .i64 0, .string ⟨#[]⟩, .string ⟨#[]⟩] 60)) (some g)) := grown_alloc (World.grownBy.refl _ _) _
  generalize w.alloc (.cells #[.string ⟨#[]⟩, .string ⟨#[]⟩, .int .i64 0, .string ⟨#[]⟩, .int .i64 0, .string ⟨#[]⟩, .string ⟨#[]⟩] 60) = w0 at *
  have HZ0 : Hid (∀ wx, w0.grownBy wx (some g) → ∃ y : Itm, ItemAt wx w.heap.size y) := fun wx hg => by
    obtain ⟨y, hy⟩ := HY0.out
    exact ⟨y, hy.row_ hg (by have := HGW.out; omega)⟩
  have HW0 : Hid (StreamAt w0 g A n c K ∧ w.grownBy w0 (some g)) := ⟨HS0.out, HG0.out⟩
  clear hs hid HY0 HG0
  have HG0 : Hid (w0.grownBy w0 (some g)) := World.grownBy.refl _ _
  go_wp2_with fail
  have hgl0 := HS0.out.lt
  refine (some10_any g A n c _ 5 w0.heap.size 3 3 _ (HS0.out.alloc _) (by omega) (by omega) (by omega) (by omega) (fun q hq => ?_)).mono ?_
  · rw [World.cell?_alloc_at _ _ _ _ rfl]
    iterate 4 (first | (exfalso; omega) | (rcases q with _ | q; exact ⟨_, rfl, by first | assumption | decide | omega⟩))
  rintro e w1 ⟨r1, rfl, hr1, hs1, hg1⟩
  have HS1 := Lib.hid hs1
  have HG1 := Lib.hid (grown_trans (grown_alloc HG0.out _) hg1)
  have HR1 := Lib.hid hr1
  clear hs1 hg1 HS0 HG0 hgl0 hr1
  go_wp2_with fail
  have hgl1 := HS1.out.lt
  refine (pickI_any g A n c _ 1 4 w1.heap.size 7 7 _ (HS1.out.alloc _) (by omega) (by omega) (by omega) (by omega) (fun q hq => ?_)).mono ?_
  · rw [World.cell?_alloc_at _ _ _ _ rfl]
    iterate 8 (first | (exfalso; omega) | (rcases q with _ | q; exact ⟨_, rfl, by omega, by omega⟩))
  rintro e w2 ⟨z2, rfl, hlo2, hhi2, hs2, hg2⟩
  have HS2 := Lib.hid hs2
  have HG2 := Lib.hid (grown_trans (grown_alloc HG1.out _) hg2)
  clear hs2 hg2 HS1 HG1 hgl1
  go_wp2_with fail
  have hgl2 := HS2.out.lt
  refine (some10_any g A n c _ 10 w2.heap.size 4 4 _ (HS2.out.alloc _) (by omega) (by omega) (by omega) (by omega) (fun q hq => ?_)).mono ?_
  · rw [World.cell?_alloc_at _ _ _ _ rfl]
    iterate 5 (first | (exfalso; omega) | (rcases q with _ | q; exact ⟨_, rfl, by first | assumption | decide | omega⟩))
  rintro e w3 ⟨r3, rfl, hr3, hs3, hg3⟩
  have HS3 := Lib.hid hs3
  have HG3 := Lib.hid (grown_trans (grown_alloc HG2.out _) hg3)
  have HR3 := Lib.hid hr3
  clear hs3 hg3 HS2 HG2 hgl2 hr3
  go_wp2_with fail
  have hgl3 := HS3.out.lt
  refine (pickI_any g A n c _ 0 20000 w3.heap.size 7 7 _ (HS3.out.alloc _) (by omega) (by omega) (by omega) (by omega) (fun q hq => ?_)).mono ?_
  · rw [World.cell?_alloc_at _ _ _ _ rfl]
    iterate 8 (first | (exfalso; omega) | (rcases q with _ | q; exact ⟨_, rfl, by omega, by omega⟩))
  rintro e w4 ⟨z4, rfl, hlo4, hhi4, hs4, hg4⟩
  have HS4 := Lib.hid hs4
  have HG4 := Lib.hid (grown_trans (grown_alloc HG3.out _) hg4)
  clear hs4 hg4 HS3 HG3 hgl3
  go_wp2_with fail
  refine (itemText_any g A n c _ w4 HS4.out (by omega)).mono ?_
  rintro e w5 ⟨r5, rfl, hr5, hs5, hg5⟩
  have HS5 := Lib.hid hs5
  have HG5 := Lib.hid (grown_trans HG4.out hg5)
  clear hs5 hg5 HS4 HG4
  go_wp2_with fail
  refine (itemText_any g A n c _ w5 HS5.out (by omega)).mono ?_
  rintro e w6 ⟨r6, rfl, hr6, hs6, hg6⟩
  have HS6 := Lib.hid hs6
  have HG6 := Lib.hid (grown_trans HG5.out hg6)
  clear hs6 hg6 HS5 HG5
  go_wp2_with fail
  have hgl6 := HS6.out.lt
  refine (some10_any g A n c _ 600 w6.heap.size 5 5 _ (HS6.out.alloc _) (by omega) (by omega) (by omega) (by omega) (fun q hq => ?_)).mono ?_
  · rw [World.cell?_alloc_at _ _ _ _ rfl]
    iterate 6 (first | (exfalso; omega) | (rcases q with _ | q; exact ⟨_, rfl, by first | assumption | decide | omega⟩))
  rintro e w7 ⟨r7, rfl, hr7, hs7, hg7⟩
  have HS7 := Lib.hid hs7
  have HG7 := Lib.hid (grown_trans (grown_alloc HG6.out _) hg7)
  have HR7 := Lib.hid hr7
  clear hs7 hg7 HS6 HG6 hgl6 hr7
  go_upto_region 2 with (fail)
  have HM8 : Hid (MkAt w (w7.alloc (.cells #[.string id, .string r1, .int .i64 z2, .string r3, .int .i64 z4, .string ⟨#[]⟩, .string r7] 60)) g A n c (K + 125) w7.heap.size ⟨id, r1, z2, r3, z4, ⟨#[]⟩, r7⟩) := by
    obtain ⟨y, hy⟩ := HZ0.out w7 HG7.out
    refine ⟨item_new w7 ⟨id, r1, z2, r3, z4, ⟨#[]⟩, r7⟩, ⟨y, hy.keep ((Below.refl _ _).alloc (Nat.le_refl _) _)⟩, ?_, (HS7.out.more (by omega)).alloc _, grown_alloc (grown_trans HW0.out.2 HG7.out) _, HGW.out, hy.lt⟩
    exact ⟨by have := HID.out; show id.size ≤ _; omega, by have := HR1.out; show r1.size ≤ _; omega, by have := HR3.out; show r3.size ≤ _; omega, by show (⟨#[]⟩ : ByteArray).size ≤ _; decide, by have := HR7.out; show r7.size ≤ _; omega⟩
  generalize w7.alloc (.cells #[.string id, .string r1, .int .i64 z2, .string r3, .int .i64 z4, .string ⟨#[]⟩, .string r7] 60) = w8 at *
  obtain ⟨P, hP⟩ : ∃ P, P = w7.heap.size := ⟨_, rfl⟩
  rw [← hP] at HM8 ⊢
  generalize (⟨id, r1, z2, r3, z4, ⟨#[]⟩, r7⟩ : Itm) = x at *
  clear hP HS7 HG7 HR1 HR3 HR7 HZ0 HW0 hr5 hr6 HGW
  go_wp2_with fail
  refine (flip_any g A n c _ 60 w8 HM8.out.st (by omega) (by omega)).mono ?_
  rintro e w9 ⟨b, rfl, hs9, hg9⟩
  have HM9 := Lib.hid (HM8.out.step hg9 hs9)
  clear hs9 hg9 HM8
  go_upto_if 28 with (fail)
  go_cut [] (fun wx => ∃ y, Hid (MkAt w wx g A n c (K + 190) P y))
  case first =>
    cases b with
    | false =>
      go_wp2_with fail
      go_meet
      exact ⟨x, HM9.out.more (by omega)⟩
    | true =>
      go_wp2_with fail
      refine (next_any g A n c _ 6 w9 HM9.out.st (by omega) (by omega)).mono ?_
      rintro e w10 ⟨r, rfl, hr0, hr1, hs10, hg10⟩
      have hr1 := hr1 (by omega)
      have HM10 := Lib.hid (HM9.out.step hg10 hs10)
      clear hs10 hg10 HM9
      have hr : r = 0 ∨ r = 1 ∨ r = 2 ∨ r = 3 ∨ r = 4 ∨ r = 5 := by omega
      clear hr0 hr1
      rcases hr with rfl | rfl | rfl | rfl | rfl | rfl
      · go_wp2_with fail
        have hgl10 := HM10.out.st.lt
        refine (some10_any g A n c _ 1000 w10.heap.size 3 3 _ (HM10.out.st.alloc _) (by omega) (by omega) (by omega) (by omega) (fun q hq => ?_)).mono ?_
        · rw [World.cell?_alloc_at _ _ _ _ rfl]
          iterate 4 (first | (exfalso; omega) | (rcases q with _ | q; exact ⟨_, rfl, by first | assumption | exact HID.out | decide | omega⟩))
        rintro e w11 ⟨s11, rfl, hr11, hs11, hg11⟩
        have HM11 := Lib.hid (HM10.out.stepA hg11 hs11)
        clear hs11 hg11 HM10 hgl10
        go_wp2_with fail
        have hgl11 := HM11.out.st.lt
        refine (some10_any g A n c _ 1000 w11.heap.size 3 3 _ (HM11.out.st.alloc _) (by omega) (by omega) (by omega) (by omega) (fun q hq => ?_)).mono ?_
        · rw [World.cell?_alloc_at _ _ _ _ rfl]
          iterate 4 (first | (exfalso; omega) | (rcases q with _ | q; exact ⟨_, rfl, by first | assumption | exact HID.out | decide | omega⟩))
        rintro e w12 ⟨s12, rfl, hr12, hs12, hg12⟩
        have HM12 := Lib.hid (HM11.out.stepA hg12 hs12)
        clear hs12 hg12 HM11 hgl11
        obtain ⟨c0, c1, c2, c3, c4, c5, c6⟩ := HM12.out.it.c
        have ff := HM12.out.it.fr
        have f0 := ff 0; have f1 := ff 1; have f2 := ff 2; have f3 := ff 3; have f4 := ff 4; have f5 := ff 5; have f6 := ff 6
        clear ff
        go_wp2_with fail
        go_meet
        exact ⟨_, ((HM12.out.setId s11 (by omega)).setCu s12 (by omega)).more (by omega)⟩
      · go_wp2_with fail
        refine (odd10_any g A n c _ 1 4 w10 HM10.out.st (by omega) (by omega) (by omega) (by omega)).mono ?_
        rintro e w11 ⟨z, rfl, hs11, hg11⟩
        have HM11 := Lib.hid (HM10.out.step hg11 hs11)
        clear hs11 hg11 HM10
        obtain ⟨c0, c1, c2, c3, c4, c5, c6⟩ := HM11.out.it.c
        have ff := HM11.out.it.fr
        have f0 := ff 0; have f1 := ff 1; have f2 := ff 2; have f3 := ff 3; have f4 := ff 4; have f5 := ff 5; have f6 := ff 6
        clear ff
        go_wp2_with fail
        go_meet
        exact ⟨_, (HM11.out.setKind z).more (by omega)⟩
      · go_wp2_with fail
        have hgl10 := HM10.out.st.lt
        refine (pickI_any g A n c _ 120 121 w10.heap.size 2 2 _ (HM10.out.st.alloc _) (by omega) (by omega) (by omega) (by omega) (fun q hq => ?_)).mono ?_
        · rw [World.cell?_alloc_at _ _ _ _ rfl]
          iterate 3 (first | (exfalso; omega) | (rcases q with _ | q; exact ⟨_, rfl, by omega, by omega⟩))
        rintro e w11 ⟨z, rfl, hlo, hhi, hs11, hg11⟩
        have HM11 := Lib.hid (HM10.out.stepA hg11 hs11)
        clear hs11 hg11 HM10 hgl10
        obtain ⟨N, rfl⟩ := Int.eq_ofNat_of_zero_le (show (0 : Int) ≤ z by omega)
        go_wp2_with fail
        refine (Tryz.strings_Repeat _ N _ (by omega) (by simp [ByteArray.size]; omega)).mono ?_
        rintro e w12 ⟨rfl, hb12⟩
        have HM12 := Lib.hid (HM11.out.keep hb12)
        have hbs : (⟨(Lib.repeatL [97] N).toArray⟩ : ByteArray).size ≤ 1000 := by rw [rep_sizeI]; simp; omega
        clear hb12 HM11
        generalize (⟨(Lib.repeatL [97] N).toArray⟩ : ByteArray) = big at *
        go_wp2_with fail
        have hgl12 := HM12.out.st.lt
        refine (some10_any g A n c _ 1000 w12.heap.size 5 5 _ (HM12.out.st.alloc _) (by omega) (by omega) (by omega) (by omega) (fun q hq => ?_)).mono ?_
        · rw [World.cell?_alloc_at _ _ _ _ rfl]
          iterate 6 (first | (exfalso; omega) | (rcases q with _ | q; exact ⟨_, rfl, by first | assumption | exact HID.out | decide | omega⟩))
        rintro e w13 ⟨s13, rfl, hr13, hs13, hg13⟩
        have HM13 := Lib.hid (HM12.out.stepA hg13 hs13)
        clear hs13 hg13 HM12 hgl12
        obtain ⟨c0, c1, c2, c3, c4, c5, c6⟩ := HM13.out.it.c
        have ff := HM13.out.it.fr
        have f0 := ff 0; have f1 := ff 1; have f2 := ff 2; have f3 := ff 3; have f4 := ff 4; have f5 := ff 5; have f6 := ff 6
        clear ff
        go_wp2_with fail
        go_meet
        exact ⟨_, (HM13.out.setName s13 (by omega)).more (by omega)⟩
      · go_wp2_with fail
        refine (odd10_any g A n c _ 0 5761439 w10 HM10.out.st (by omega) (by omega) (by omega) (by omega)).mono ?_
        rintro e w11 ⟨z, rfl, hs11, hg11⟩
        have HM11 := Lib.hid (HM10.out.step hg11 hs11)
        clear hs11 hg11 HM10
        obtain ⟨c0, c1, c2, c3, c4, c5, c6⟩ := HM11.out.it.c
        have ff := HM11.out.it.fr
        have f0 := ff 0; have f1 := ff 1; have f2 := ff 2; have f3 := ff 3; have f4 := ff 4; have f5 := ff 5; have f6 := ff 6
        clear ff
        go_wp2_with fail
        go_meet
        exact ⟨_, (HM11.out.setAt z).more (by omega)⟩
      · go_wp2_with fail
        have hgl10 := HM10.out.st.lt
        refine (some10_any g A n c _ 1000 w10.heap.size 3 3 _ (HM10.out.st.alloc _) (by omega) (by omega) (by omega) (by omega) (fun q hq => ?_)).mono ?_
        · rw [World.cell?_alloc_at _ _ _ _ rfl]
          iterate 4 (first | (exfalso; omega) | (rcases q with _ | q; exact ⟨_, rfl, by first | assumption | exact HID.out | decide | omega⟩))
        rintro e w11 ⟨s11, rfl, hr11, hs11, hg11⟩
        have HM11 := Lib.hid (HM10.out.stepA hg11 hs11)
        clear hs11 hg11 HM10 hgl10
        obtain ⟨c0, c1, c2, c3, c4, c5, c6⟩ := HM11.out.it.c
        have ff := HM11.out.it.fr
        have f0 := ff 0; have f1 := ff 1; have f2 := ff 2; have f3 := ff 3; have f4 := ff 4; have f5 := ff 5; have f6 := ff 6
        clear ff
        go_wp2_with fail
        go_meet
        exact ⟨_, (HM11.out.setPar s11 (by omega)).more (by omega)⟩
      · go_wp2_with fail
        have hgl10 := HM10.out.st.lt
        refine (pickI_any g A n c _ 19999 20000 w10.heap.size 2 2 _ (HM10.out.st.alloc _) (by omega) (by omega) (by omega) (by omega) (fun q hq => ?_)).mono ?_
        · rw [World.cell?_alloc_at _ _ _ _ rfl]
          iterate 3 (first | (exfalso; omega) | (rcases q with _ | q; exact ⟨_, rfl, by omega, by omega⟩))
        rintro e w11 ⟨z, rfl, hlo, hhi, hs11, hg11⟩
        have HM11 := Lib.hid (HM10.out.stepA hg11 hs11)
        clear hs11 hg11 HM10 hgl10
        obtain ⟨N, rfl⟩ := Int.eq_ofNat_of_zero_le (show (0 : Int) ≤ z by omega)
        go_wp2_with fail
        refine (Tryz.strings_Repeat _ N _ (by omega) (by simp [ByteArray.size]; omega)).mono ?_
        rintro e w12 ⟨rfl, hb12⟩
        have HM12 := Lib.hid (HM11.out.keep hb12)
        have hbs0 : (⟨(Lib.repeatL [97] N).toArray⟩ : ByteArray).size ≤ 20000 := by rw [rep_sizeI]; simp; omega
        clear hb12 HM11
        generalize (⟨(Lib.repeatL [97] N).toArray⟩ : ByteArray) = big0 at *
        have p1 : ∀ (wx : World), (Op.stringOp .add big0 ⟨#[10]⟩).run Tryz.prog wx = .ok (.string (big0 ++ ⟨#[10]⟩)) wx := fun wx => run_string_add_sum wx _ _ (by show _ + 1 ≤ _; omega)
        have hbs : (big0 ++ (⟨#[10]⟩ : ByteArray)).size ≤ 20001 := by rw [ByteArray.size_append]; show _ + 1 ≤ _; omega
        generalize big0 ++ (⟨#[10]⟩ : ByteArray) = big at *
        go_wp2_with fail
        have hgl12 := HM12.out.st.lt
        refine (some10_any g A n c _ 20001 w12.heap.size 5 5 _ (HM12.out.st.alloc _) (by omega) (by omega) (by omega) (by omega) (fun q hq => ?_)).mono ?_
        · rw [World.cell?_alloc_at _ _ _ _ rfl]
          iterate 6 (first | (exfalso; omega) | (rcases q with _ | q; exact ⟨_, rfl, by first | assumption | exact HID.out | decide | omega⟩))
        rintro e w13 ⟨s13, rfl, hr13, hs13, hg13⟩
        have HM13 := Lib.hid (HM12.out.stepA hg13 hs13)
        clear hs13 hg13 HM12 hgl12
        obtain ⟨c0, c1, c2, c3, c4, c5, c6⟩ := HM13.out.it.c
        have ff := HM13.out.it.fr
        have f0 := ff 0; have f1 := ff 1; have f2 := ff 2; have f3 := ff 3; have f4 := ff 4; have f5 := ff 5; have f6 := ff 6
        clear ff
        go_wp2_with fail
        go_meet
        exact ⟨_, (HM13.out.setText s13 (by omega)).more (by omega)⟩
  case rest =>
    obtain ⟨y, HMY⟩ := hcut
    obtain ⟨c0, c1, c2, c3, c4, c5, c6⟩ := HMY.out.it.c
    obtain ⟨y0, hy0⟩ := HMY.out.res
    obtain ⟨d0, d1, d2, d3, d4, d5, d6⟩ := hy0.c
    have ff := hy0.fr
    have f0 := ff 0; have f1 := ff 1; have f2 := ff 2; have f3 := ff 3; have f4 := ff 4; have f5 := ff 5; have f6 := ff 6
    clear ff hy0
    go_wp2_with fail
    obtain ⟨hsr, hgr, hir⟩ := HMY.out.res_
    have HSM := Lib.hid HMY.out.sm
    clear c0 c1 c2 c3 c4 c5 c6 d0 d1 d2 d3 d4 d5 d6 f0 f1 f2 f3 f4 f5 f6
    generalize (((((((wc.setCell ⟨w.heap.size, 0, none⟩ (.string y.id)).setCell ⟨w.heap.size, 1, none⟩ (.string y.cu)).setCell ⟨w.heap.size, 2, none⟩ (.int .i64 y.kind)).setCell ⟨w.heap.size, 3, none⟩ (.string y.name)).setCell ⟨w.heap.size, 4, none⟩ (.int .i64 y.at_)).setCell ⟨w.heap.size, 5, none⟩ (.string y.par)).setCell ⟨w.heap.size, 6, none⟩ (.string y.text)) = wf at *
    obtain ⟨c0, c1, c2, c3, c4, c5, c6⟩ := hir.c
    refine bodyPost_ret (v := y.v) (by simp [results, Tryz.results24, go_sem, c0, c1, c2, c3, c4, c5, c6, Itm.v]) rfl ?_
    exact ⟨y, rfl, HSM.out, hsr.more (by omega), hgr⟩
end Go.Proofs.YtfijplllfdmcoaaGreatDoor
