
/-
  chaseref1.UndoOf at a right list.
-/
import Derived.Test.YthogkcgklakibaaGreatDoorDdAddOf
import Derived.Test.YthogkcgklakibaaGreatDoorDdOf2
import Derived.Test.YthogkcgklakibaaGreatDoorDdCnt
namespace Go.Proofs.YthogkcgklakibaaGreatDoor
open Go.RowKit
attribute [local go_sem ↓] Go.wp_at_zero Go.wp_at_succ

def undoDeed (site : ByteArray) (at_ kind : Int) (os : ByteArray) (ono : Int) : Deed := ⟨site, 0, at_, kind, zeroB, zeroB, zeroB, 0, 0, os, ono, zeroB⟩
/-- The deed that takes another one back, if one may. -/
def undoK (l : List Deed) (site : ByteArray) (at_ : Int) (os : ByteArray) (ono : Int) : Option Deed :=
  if momB at_ = false then none else
  match l.find? (hasSt os ono) with
  | none => none
  | some x => if x.kind = 6 then none else if x.kind = 2 ∨ x.kind = 4 then (if cntD l x = true then some (undoDeed site at_ 3 os ono) else none) else if os ≠ site then none else if cntD l x = true then some (undoDeed site at_ 6 os ono) else none
theorem find_st {l : List Deed} (h : RightD l) {x : Deed} (hx : x ∈ l) {s : ByteArray} {z : Int} (h1 : x.site = s) (h2 : x.no = z) : l.find? (hasSt s z) = some x := by
  cases hf : l.find? (hasSt s z) with
  | none =>
    have := List.find?_eq_none.1 hf x hx
    simp [hasSt, h1, h2] at this
  | some y =>
    obtain ⟨k1, k2⟩ := hasSt_true (List.find?_some hf)
    rw [ord_uniq h.ord (List.mem_of_find?_eq_some hf) hx (k1.trans h1.symm) (k2.trans h2.symm)]
theorem find_no {l : List Deed} {s : ByteArray} {z : Int} (h : ∀ x ∈ l, ¬ (x.site = s ∧ x.no = z)) : l.find? (hasSt s z) = none := by
  rw [List.find?_eq_none]
  intro x hx k
  exact h x hx (hasSt_true k)
theorem undo_good {at_ k : Int} (site os : ByteArray) (ono : Int) (hm : momB at_ = true) (hk : k = 3 ∨ k = 6) : GoodD (undoDeed site at_ k os ono) := by
  have hat : 0 ≤ at_ ∧ at_ ≤ 5761439 := of_decide_eq_true hm
  rcases hk with rfl | rfl
  · exact ⟨hat, by show (1 : Int) ≤ 3 ∧ (3 : Int) ≤ 6; omega, rfl, rfl, rfl, ⟨rfl, rfl⟩, fun h => by cases h⟩
  · exact ⟨hat, by show (1 : Int) ≤ 6 ∧ (6 : Int) ≤ 6; omega, rfl, rfl, rfl, ⟨rfl, rfl⟩, fun h => by cases h⟩
theorem undo_of3 {l : List Deed} {x : Deed} (hx : x ∈ l) (site : ByteArray) (at_ : Int) {os : ByteArray} {ono : Int} (h1 : x.site = os) (h2 : x.no = ono) (hk : x.kind = 2 ∨ x.kind = 4) : OfD l (nextD l (undoDeed site at_ 3 os ono)) :=
  fun _ => ⟨x, hx, h1, h2, by unfold PermD; rw [if_pos (show (nextD l (undoDeed site at_ 3 os ono)).kind = 3 from rfl)]; exact hk⟩
theorem undo_of6 {l : List Deed} (hl : RightD l) {x : Deed} (hx : x ∈ l) (site : ByteArray) (at_ : Int) {os : ByteArray} {ono : Int} (h1 : x.site = os) (h2 : x.no = ono) (hk : x.kind = 1 ∨ x.kind = 5 ∨ x.kind = 3) (hs : os = site) : OfD l (nextD l (undoDeed site at_ 6 os ono)) :=
  fun _ => ⟨x, hx, h1, h2, by
    unfold PermD
    rw [if_neg (show ¬ (nextD l (undoDeed site at_ 6 os ono)).kind = 3 from (by show ¬ (6 : Int) = 3; omega))]
    refine ⟨hk, h1.trans hs, ?_⟩
    have := (tip_all _ l rfl hl.ord site).1 x hx (h1.trans hs)
    show x.no < (tipD l site).1 + 1
    omega⟩
def UndoPost (w : World) (l : List Deed) (site : ByteArray) (at_ : Int) (os : ByteArray) (ono : Int) (e : Ending) (w' : World) : Prop :=
  (NonePost w e w' ∧ undoK l site at_ os ono = none) ∨ ∃ d, undoK l site at_ os ono = some d ∧ d.site = site ∧ MadePost w l d e w'
theorem st_bound {l : List Deed} (hl : RightD l) {x : Deed} (hx : x ∈ l) : 0 ≤ x.no ∧ x.no ≤ 2001 ∧ x.site.size ≤ 40 := by
  obtain ⟨k, hk⟩ := List.getElem?_of_mem hx
  have h1 := hl.no_le k x hk
  have h2 := (List.getElem?_eq_some_iff.1 hk).1
  have h3 := hl.few
  have h4 := keyL_len (hl.key x hx)
  rw [byteL_len] at h4
  have h5 := (hl.pred x hx).pos
  exact ⟨by omega, by omega, h4⟩
set_option maxHeartbeats 6400000 in
set_option maxRecDepth 100000 in
theorem undoOf_any (A : Option Addr) (n c : Nat) (l : List Deed) (site : ByteArray) (at_ : Int) (os : ByteArray) (ono : Int) (w : World) (h : DeedsAt w A n c l) (hl : RightD l) (hn : n < 2000) (hk : keyL (byteL site) = true) (hss : site.size ≤ 1000)
    (hT : ∀ wx, Below w.heap.size w wx → PowAt wx) :
    Calls Tryz.prog 50 #[.slice A n c, .string site, .int .i64 at_, .agg #[.string os, .int .i64 ono]] w (UndoPost w l site at_ os ono) := by
  have HN : Hid (n = l.length) := h.1
  have HL := Lib.hid hl
  have HK := Lib.hid hk
  have HTT := Lib.hid hT
  have HAT0 := Lib.hid h
  have hb1 : Below w.heap.size w (w.alloc (.cells #[.string os, .int .i64 ono] 36)) := (Below.refl _ _).alloc (Nat.le_refl _) _
  have HSB : Hid (StB (w.alloc (.cells #[.string os, .int .i64 ono] 36)) w.heap.size os ono) := heap_alloc_new w _
  have HB1 := Lib.hid hb1
  have HSF := Lib.hid (siteFault_any A n c site at_ (w.alloc (.cells #[.string os, .int .i64 ono] 36)) hss hk hn)
  clear h hl hk hT hb1
  go_enter Tryz.func50, Tryz.ntmps50
  go_upto_region 1 with (fail)
  obtain ⟨P, hPe⟩ : ∃ P, P = w.heap.size := ⟨_, rfl⟩
  have HPE := Lib.hid hPe
  rw [← hPe] at HSB ⊢
  clear hPe
  generalize w.alloc (.cells #[.string os, .int .i64 ono] 36) = w1 at *
  generalize hmb : momB at_ = mb at *
  have HMB := Lib.hid hmb
  clear hmb
  cases mb with
  | false =>
    have h10 : ((1 : Int) != 0) = true := rfl
    go_wp2_with fail
    refine HSF.out.mono ?_
    rintro e w2 ⟨rfl, hb2⟩
    have HF : Hid (NonePost w (.returned (.tuple #[.slice none 0 0, .int .i64 1])) w2) := ⟨1, by decide, rfl, HB1.out.trans (hb2.mono HB1.out.size)⟩
    clear hb2
    go_wp2_with fail
    go_ret2
    exact .inl ⟨HF.out, by unfold undoK; rw [if_pos HMB.out]⟩
  | true =>
    have HU : Hid (∀ o, l.find? (hasSt os ono) = o → undoK l site at_ os ono = match o with
      | none => none
      | some x => if x.kind = 6 then none else if x.kind = 2 ∨ x.kind = 4 then (if cntD l x = true then some (undoDeed site at_ 3 os ono) else none) else if os ≠ site then none else if cntD l x = true then some (undoDeed site at_ 6 os ono) else none) := by
      intro o ho
      unfold undoK
      rw [if_neg (by rw [HMB.out]; decide), ho]
    go_wp2_with fail
    refine HSF.out.mono ?_
    rintro e w2 ⟨rfl, hb2⟩
    have HB2 : Hid (Below w.heap.size w w2) := HB1.out.trans (hb2.mono HB1.out.size)
    have HSB2 := Lib.hid (HSB.out.keep hb2)
    clear hb2 HSF HSB HB1
    have HAT2 : Hid (DeedsAt w2 A n c l) := ElemsAt.keep HAT0.out HB2.out
    have HDO := Lib.hid (deedOf_any A n c l os ono w2 HAT2.out (by omega))
    obtain ⟨s0, s1⟩ := HSB2.out.c
    go_wp2_with fail
    refine HDO.out.mono ?_
    rintro e w3 ⟨hdo, hb3⟩
    have HB3 : Hid (Below w.heap.size w w3) := HB2.out.trans (hb3.mono HB2.out.size)
    have HSB3 := Lib.hid (HSB2.out.keep hb3)
    clear hb3 HDO HSB2 HB2 HAT2 s0 s1
    obtain ⟨s0, s1⟩ := HSB3.out.c
    rcases hdo with ⟨x, hx, hxs, hxn, rfl⟩ | ⟨hno, rfl⟩
    · have HX := Lib.hid hx
      have HXS := Lib.hid hxs
      have HXN := Lib.hid hxn
      have HFI := Lib.hid (HU.out _ (find_st HL.out hx hxs hxn))
      have hkk := (HL.out.good x hx).kind
      have hbd := st_bound HL.out hx
      rw [hxs, hxn] at hbd
      have HBD := Lib.hid hbd
      clear hx hxs hxn hbd
      obtain ⟨site1, no1, at1, kind1, id1, fld1, val1, from1, to1, os1, ono1, sum1⟩ := x
      simp only at hkk
      have hcs : kind1 = 1 ∨ kind1 = 2 ∨ kind1 = 3 ∨ kind1 = 4 ∨ kind1 = 5 ∨ kind1 = 6 := by omega
      clear hkk
      unfold Deed.v
      have q := bytes_eqD os site
      rcases hcs with rfl | rfl | rfl | rfl | rfl | rfl
      · have hal : Below w3.heap.size w3 (w3.alloc (.cells #[.string site1, .int .i64 no1, .int .i64 at1, .int .i64 1, .string id1, .string fld1, .string val1, .int .i64 from1, .int .i64 to1, .string os1, .int .i64 ono1, .string sum1] 40)) := (Below.refl _ _).alloc (Nat.le_refl _) _
        have HD4 : Hid (DeedAt (w3.alloc (.cells #[.string site1, .int .i64 no1, .int .i64 at1, .int .i64 1, .string id1, .string fld1, .string val1, .int .i64 from1, .int .i64 to1, .string os1, .int .i64 ono1, .string sum1] 40)) w3.heap.size (⟨site1, no1, at1, 1, id1, fld1, val1, from1, to1, os1, ono1, sum1⟩ : Deed)) := deed_new w3 (⟨site1, no1, at1, 1, id1, fld1, val1, from1, to1, os1, ono1, sum1⟩ : Deed)
        have HB4 : Hid (Below w.heap.size w (w3.alloc (.cells #[.string site1, .int .i64 no1, .int .i64 at1, .int .i64 1, .string id1, .string fld1, .string val1, .int .i64 from1, .int .i64 to1, .string os1, .int .i64 ono1, .string sum1] 40))) := HB3.out.trans (hal.mono HB3.out.size)
        have HSB4 := Lib.hid (HSB3.out.keep hal)
        clear hal
        go_upto_region 5 with (fail)
        clear s0 s1 HSB3 HB3
        generalize w3.heap.size = Q at *
        generalize w3.alloc (.cells #[.string site1, .int .i64 no1, .int .i64 at1, .int .i64 1, .string id1, .string fld1, .string val1, .int .i64 from1, .int .i64 to1, .string os1, .int .i64 ono1, .string sum1] 40) = w4 at *
        obtain ⟨s0, s1⟩ := HSB4.out.c
        obtain ⟨a0, a1, a2, a3, a4, a5, a6, a7, a8, a9, a10, a11⟩ := HD4.out.c
        simp only at a0 a1 a2 a3 a4 a5 a6 a7 a8 a9 a10 a11
        by_cases hos : os = site
        · rw [decide_eq_true hos] at q
          have HOS := Lib.hid hos
          clear hos
          have HAT4 : Hid (DeedsAt w4 A n c l) := ElemsAt.keep HAT0.out HB4.out
          have HCN : Hid (Calls Tryz.prog 88 #[.slice A n c, .agg #[.string site1, .int .i64 no1, .int .i64 at1, .int .i64 1, .string id1, .string fld1, .string val1, .int .i64 from1, .int .i64 to1, .string os1, .int .i64 ono1, .string sum1]] w4 fun e w' => e = .returned (.bool (cntD l (⟨site1, no1, at1, 1, id1, fld1, val1, from1, to1, os1, ono1, sum1⟩ : Deed))) ∧ Below w4.heap.size w4 w') := counts_any A n c l (⟨site1, no1, at1, 1, id1, fld1, val1, from1, to1, os1, ono1, sum1⟩ : Deed) w4 HAT4.out HL.out
          generalize hct : cntD l (⟨site1, no1, at1, 1, id1, fld1, val1, from1, to1, os1, ono1, sum1⟩ : Deed) = ct at *
          have HCT := Lib.hid hct
          clear hct
          cases ct with
          | false =>
            go_wp2_with fail
            refine HCN.out.mono ?_
            rintro e w5 ⟨rfl, hb5⟩
            have HF : Hid (NonePost w (.returned (.tuple #[.slice none 0 0, .int .i64 11])) w5) := ⟨11, by decide, rfl, HB4.out.trans (hb5.mono HB4.out.size)⟩
            clear hb5
            go_wp2_with fail
            go_ret2
            exact .inl ⟨HF.out, by rw [HFI.out]; simp [HOS.out]⟩
          | true =>
            go_wp2_with fail
            refine HCN.out.mono ?_
            rintro e w5 ⟨rfl, hb5⟩
            have HB5 : Hid (Below w.heap.size w w5) := HB4.out.trans (hb5.mono HB4.out.size)
            have HSB5 := Lib.hid (HSB4.out.keep hb5)
            clear hb5 HCN HSB4 HB4 HAT4 s0 s1 a0 a1 a2 a3 a4 a5 a6 a7 a8 a9 a10 a11 HD4
            obtain ⟨s0, s1⟩ := HSB5.out.c
            have HG := Lib.hid (undo_good site os ono HMB.out (show (6 : Int) = 3 ∨ (6 : Int) = 6 by omega))
            obtain ⟨hsm, h10⟩ := HG.out.small (by show 0 ≤ (0 : Int) ∧ (0 : Int) ≤ 2001; omega) HK.out (by show 0 ≤ 1000; omega) HBD.out
            have HAT5 : Hid (DeedsAt w5 A n c l) := ElemsAt.keep HAT0.out HB5.out
            have HAD : Hid (Calls Tryz.prog 70 #[.slice A n c, .agg #[.string site, .int .i64 0, .int .i64 at_, .int .i64 6, .string ⟨#[]⟩, .string ⟨#[]⟩, .string ⟨#[]⟩, .int .i64 0, .int .i64 0, .string os, .int .i64 ono, .string ⟨#[]⟩]] w5 (AddPost w5 l (undoDeed site at_ 6 os ono))) := added1_any A n c l (undoDeed site at_ 6 os ono) w5 HAT5.out HL.out hsm h10 (HTT.out w5 HB5.out)
            clear hsm h10
            go_wp2_with fail
            refine HAD.out.mono ?_
            rintro e w6 ⟨A6, n6, c6, L, rfl, hat6, hord, hm, hln, hb6⟩
            have HF : Hid (MadePost w l (undoDeed site at_ 6 os ono) (.returned (.tuple #[.slice A6 n6 c6, .int .i64 0])) w6) := ⟨A6, n6, c6, L, rfl, hat6, HL.out.next HK.out HG.out (undo_of6 HL.out HX.out site at_ HXS.out HXN.out (by simp) HOS.out) hord hm (by have := HN.out; omega), hm, hln, HB5.out.trans (hb6.mono HB5.out.size)⟩
            clear hat6 hord hm hln hb6 HAD
            go_wp2_with fail
            go_ret2
            exact .inr ⟨_, by rw [HFI.out]; simp [HOS.out], rfl, HF.out⟩
        · rw [decide_eq_false hos] at q
          have HOS := Lib.hid hos
          clear hos
          have HF : Hid (NonePost w (.returned (.tuple #[.slice none 0 0, .int .i64 16])) w4) := ⟨16, by decide, rfl, HB4.out⟩
          go_wp2_with fail
          go_ret2
          exact .inl ⟨HF.out, by rw [HFI.out]; simp [HOS.out]⟩
      · have hal : Below w3.heap.size w3 (w3.alloc (.cells #[.string site1, .int .i64 no1, .int .i64 at1, .int .i64 2, .string id1, .string fld1, .string val1, .int .i64 from1, .int .i64 to1, .string os1, .int .i64 ono1, .string sum1] 40)) := (Below.refl _ _).alloc (Nat.le_refl _) _
        have HD4 : Hid (DeedAt (w3.alloc (.cells #[.string site1, .int .i64 no1, .int .i64 at1, .int .i64 2, .string id1, .string fld1, .string val1, .int .i64 from1, .int .i64 to1, .string os1, .int .i64 ono1, .string sum1] 40)) w3.heap.size (⟨site1, no1, at1, 2, id1, fld1, val1, from1, to1, os1, ono1, sum1⟩ : Deed)) := deed_new w3 (⟨site1, no1, at1, 2, id1, fld1, val1, from1, to1, os1, ono1, sum1⟩ : Deed)
        have HB4 : Hid (Below w.heap.size w (w3.alloc (.cells #[.string site1, .int .i64 no1, .int .i64 at1, .int .i64 2, .string id1, .string fld1, .string val1, .int .i64 from1, .int .i64 to1, .string os1, .int .i64 ono1, .string sum1] 40))) := HB3.out.trans (hal.mono HB3.out.size)
        have HSB4 := Lib.hid (HSB3.out.keep hal)
        clear hal
        go_upto_region 5 with (fail)
        clear s0 s1 HSB3 HB3
        generalize w3.heap.size = Q at *
        generalize w3.alloc (.cells #[.string site1, .int .i64 no1, .int .i64 at1, .int .i64 2, .string id1, .string fld1, .string val1, .int .i64 from1, .int .i64 to1, .string os1, .int .i64 ono1, .string sum1] 40) = w4 at *
        obtain ⟨s0, s1⟩ := HSB4.out.c
        obtain ⟨a0, a1, a2, a3, a4, a5, a6, a7, a8, a9, a10, a11⟩ := HD4.out.c
        simp only at a0 a1 a2 a3 a4 a5 a6 a7 a8 a9 a10 a11
        have HAT4 : Hid (DeedsAt w4 A n c l) := ElemsAt.keep HAT0.out HB4.out
        have HCN : Hid (Calls Tryz.prog 88 #[.slice A n c, .agg #[.string site1, .int .i64 no1, .int .i64 at1, .int .i64 2, .string id1, .string fld1, .string val1, .int .i64 from1, .int .i64 to1, .string os1, .int .i64 ono1, .string sum1]] w4 fun e w' => e = .returned (.bool (cntD l (⟨site1, no1, at1, 2, id1, fld1, val1, from1, to1, os1, ono1, sum1⟩ : Deed))) ∧ Below w4.heap.size w4 w') := counts_any A n c l (⟨site1, no1, at1, 2, id1, fld1, val1, from1, to1, os1, ono1, sum1⟩ : Deed) w4 HAT4.out HL.out
        generalize hct : cntD l (⟨site1, no1, at1, 2, id1, fld1, val1, from1, to1, os1, ono1, sum1⟩ : Deed) = ct at *
        have HCT := Lib.hid hct
        clear hct
        cases ct with
        | false =>
          go_wp2_with fail
          refine HCN.out.mono ?_
          rintro e w5 ⟨rfl, hb5⟩
          have HF : Hid (NonePost w (.returned (.tuple #[.slice none 0 0, .int .i64 11])) w5) := ⟨11, by decide, rfl, HB4.out.trans (hb5.mono HB4.out.size)⟩
          clear hb5
          go_wp2_with fail
          go_ret2
          exact .inl ⟨HF.out, by rw [HFI.out]; simp⟩
        | true =>
          go_wp2_with fail
          refine HCN.out.mono ?_
          rintro e w5 ⟨rfl, hb5⟩
          have HB5 : Hid (Below w.heap.size w w5) := HB4.out.trans (hb5.mono HB4.out.size)
          have HSB5 := Lib.hid (HSB4.out.keep hb5)
          clear hb5 HCN HSB4 HB4 HAT4 s0 s1 a0 a1 a2 a3 a4 a5 a6 a7 a8 a9 a10 a11 HD4
          obtain ⟨s0, s1⟩ := HSB5.out.c
          have HG := Lib.hid (undo_good site os ono HMB.out (show (3 : Int) = 3 ∨ (3 : Int) = 6 by omega))
          obtain ⟨hsm, h10⟩ := HG.out.small (by show 0 ≤ (0 : Int) ∧ (0 : Int) ≤ 2001; omega) HK.out (by show 0 ≤ 1000; omega) HBD.out
          have HAT5 : Hid (DeedsAt w5 A n c l) := ElemsAt.keep HAT0.out HB5.out
          have HAD : Hid (Calls Tryz.prog 70 #[.slice A n c, .agg #[.string site, .int .i64 0, .int .i64 at_, .int .i64 3, .string ⟨#[]⟩, .string ⟨#[]⟩, .string ⟨#[]⟩, .int .i64 0, .int .i64 0, .string os, .int .i64 ono, .string ⟨#[]⟩]] w5 (AddPost w5 l (undoDeed site at_ 3 os ono))) := added1_any A n c l (undoDeed site at_ 3 os ono) w5 HAT5.out HL.out hsm h10 (HTT.out w5 HB5.out)
          clear hsm h10
          go_wp2_with fail
          refine HAD.out.mono ?_
          rintro e w6 ⟨A6, n6, c6, L, rfl, hat6, hord, hm, hln, hb6⟩
          have HF : Hid (MadePost w l (undoDeed site at_ 3 os ono) (.returned (.tuple #[.slice A6 n6 c6, .int .i64 0])) w6) := ⟨A6, n6, c6, L, rfl, hat6, HL.out.next HK.out HG.out (undo_of3 HX.out site at_ HXS.out HXN.out (by simp)) hord hm (by have := HN.out; omega), hm, hln, HB5.out.trans (hb6.mono HB5.out.size)⟩
          clear hat6 hord hm hln hb6 HAD
          go_wp2_with fail
          go_ret2
          exact .inr ⟨_, by rw [HFI.out]; simp, rfl, HF.out⟩
      · have hal : Below w3.heap.size w3 (w3.alloc (.cells #[.string site1, .int .i64 no1, .int .i64 at1, .int .i64 3, .string id1, .string fld1, .string val1, .int .i64 from1, .int .i64 to1, .string os1, .int .i64 ono1, .string sum1] 40)) := (Below.refl _ _).alloc (Nat.le_refl _) _
        have HD4 : Hid (DeedAt (w3.alloc (.cells #[.string site1, .int .i64 no1, .int .i64 at1, .int .i64 3, .string id1, .string fld1, .string val1, .int .i64 from1, .int .i64 to1, .string os1, .int .i64 ono1, .string sum1] 40)) w3.heap.size (⟨site1, no1, at1, 3, id1, fld1, val1, from1, to1, os1, ono1, sum1⟩ : Deed)) := deed_new w3 (⟨site1, no1, at1, 3, id1, fld1, val1, from1, to1, os1, ono1, sum1⟩ : Deed)
        have HB4 : Hid (Below w.heap.size w (w3.alloc (.cells #[.string site1, .int .i64 no1, .int .i64 at1, .int .i64 3, .string id1, .string fld1, .string val1, .int .i64 from1, .int .i64 to1, .string os1, .int .i64 ono1, .string sum1] 40))) := HB3.out.trans (hal.mono HB3.out.size)
        have HSB4 := Lib.hid (HSB3.out.keep hal)
        clear hal
        go_upto_region 5 with (fail)
        clear s0 s1 HSB3 HB3
        generalize w3.heap.size = Q at *
        generalize w3.alloc (.cells #[.string site1, .int .i64 no1, .int .i64 at1, .int .i64 3, .string id1, .string fld1, .string val1, .int .i64 from1, .int .i64 to1, .string os1, .int .i64 ono1, .string sum1] 40) = w4 at *
        obtain ⟨s0, s1⟩ := HSB4.out.c
        obtain ⟨a0, a1, a2, a3, a4, a5, a6, a7, a8, a9, a10, a11⟩ := HD4.out.c
        simp only at a0 a1 a2 a3 a4 a5 a6 a7 a8 a9 a10 a11
        by_cases hos : os = site
        · rw [decide_eq_true hos] at q
          have HOS := Lib.hid hos
          clear hos
          have HAT4 : Hid (DeedsAt w4 A n c l) := ElemsAt.keep HAT0.out HB4.out
          have HCN : Hid (Calls Tryz.prog 88 #[.slice A n c, .agg #[.string site1, .int .i64 no1, .int .i64 at1, .int .i64 3, .string id1, .string fld1, .string val1, .int .i64 from1, .int .i64 to1, .string os1, .int .i64 ono1, .string sum1]] w4 fun e w' => e = .returned (.bool (cntD l (⟨site1, no1, at1, 3, id1, fld1, val1, from1, to1, os1, ono1, sum1⟩ : Deed))) ∧ Below w4.heap.size w4 w') := counts_any A n c l (⟨site1, no1, at1, 3, id1, fld1, val1, from1, to1, os1, ono1, sum1⟩ : Deed) w4 HAT4.out HL.out
          generalize hct : cntD l (⟨site1, no1, at1, 3, id1, fld1, val1, from1, to1, os1, ono1, sum1⟩ : Deed) = ct at *
          have HCT := Lib.hid hct
          clear hct
          cases ct with
          | false =>
            go_wp2_with fail
            refine HCN.out.mono ?_
            rintro e w5 ⟨rfl, hb5⟩
            have HF : Hid (NonePost w (.returned (.tuple #[.slice none 0 0, .int .i64 11])) w5) := ⟨11, by decide, rfl, HB4.out.trans (hb5.mono HB4.out.size)⟩
            clear hb5
            go_wp2_with fail
            go_ret2
            exact .inl ⟨HF.out, by rw [HFI.out]; simp [HOS.out]⟩
          | true =>
            go_wp2_with fail
            refine HCN.out.mono ?_
            rintro e w5 ⟨rfl, hb5⟩
            have HB5 : Hid (Below w.heap.size w w5) := HB4.out.trans (hb5.mono HB4.out.size)
            have HSB5 := Lib.hid (HSB4.out.keep hb5)
            clear hb5 HCN HSB4 HB4 HAT4 s0 s1 a0 a1 a2 a3 a4 a5 a6 a7 a8 a9 a10 a11 HD4
            obtain ⟨s0, s1⟩ := HSB5.out.c
            have HG := Lib.hid (undo_good site os ono HMB.out (show (6 : Int) = 3 ∨ (6 : Int) = 6 by omega))
            obtain ⟨hsm, h10⟩ := HG.out.small (by show 0 ≤ (0 : Int) ∧ (0 : Int) ≤ 2001; omega) HK.out (by show 0 ≤ 1000; omega) HBD.out
            have HAT5 : Hid (DeedsAt w5 A n c l) := ElemsAt.keep HAT0.out HB5.out
            have HAD : Hid (Calls Tryz.prog 70 #[.slice A n c, .agg #[.string site, .int .i64 0, .int .i64 at_, .int .i64 6, .string ⟨#[]⟩, .string ⟨#[]⟩, .string ⟨#[]⟩, .int .i64 0, .int .i64 0, .string os, .int .i64 ono, .string ⟨#[]⟩]] w5 (AddPost w5 l (undoDeed site at_ 6 os ono))) := added1_any A n c l (undoDeed site at_ 6 os ono) w5 HAT5.out HL.out hsm h10 (HTT.out w5 HB5.out)
            clear hsm h10
            go_wp2_with fail
            refine HAD.out.mono ?_
            rintro e w6 ⟨A6, n6, c6, L, rfl, hat6, hord, hm, hln, hb6⟩
            have HF : Hid (MadePost w l (undoDeed site at_ 6 os ono) (.returned (.tuple #[.slice A6 n6 c6, .int .i64 0])) w6) := ⟨A6, n6, c6, L, rfl, hat6, HL.out.next HK.out HG.out (undo_of6 HL.out HX.out site at_ HXS.out HXN.out (by simp) HOS.out) hord hm (by have := HN.out; omega), hm, hln, HB5.out.trans (hb6.mono HB5.out.size)⟩
            clear hat6 hord hm hln hb6 HAD
            go_wp2_with fail
            go_ret2
            exact .inr ⟨_, by rw [HFI.out]; simp [HOS.out], rfl, HF.out⟩
        · rw [decide_eq_false hos] at q
          have HOS := Lib.hid hos
          clear hos
          have HF : Hid (NonePost w (.returned (.tuple #[.slice none 0 0, .int .i64 16])) w4) := ⟨16, by decide, rfl, HB4.out⟩
          go_wp2_with fail
          go_ret2
          exact .inl ⟨HF.out, by rw [HFI.out]; simp [HOS.out]⟩
      · have hal : Below w3.heap.size w3 (w3.alloc (.cells #[.string site1, .int .i64 no1, .int .i64 at1, .int .i64 4, .string id1, .string fld1, .string val1, .int .i64 from1, .int .i64 to1, .string os1, .int .i64 ono1, .string sum1] 40)) := (Below.refl _ _).alloc (Nat.le_refl _) _
        have HD4 : Hid (DeedAt (w3.alloc (.cells #[.string site1, .int .i64 no1, .int .i64 at1, .int .i64 4, .string id1, .string fld1, .string val1, .int .i64 from1, .int .i64 to1, .string os1, .int .i64 ono1, .string sum1] 40)) w3.heap.size (⟨site1, no1, at1, 4, id1, fld1, val1, from1, to1, os1, ono1, sum1⟩ : Deed)) := deed_new w3 (⟨site1, no1, at1, 4, id1, fld1, val1, from1, to1, os1, ono1, sum1⟩ : Deed)
        have HB4 : Hid (Below w.heap.size w (w3.alloc (.cells #[.string site1, .int .i64 no1, .int .i64 at1, .int .i64 4, .string id1, .string fld1, .string val1, .int .i64 from1, .int .i64 to1, .string os1, .int .i64 ono1, .string sum1] 40))) := HB3.out.trans (hal.mono HB3.out.size)
        have HSB4 := Lib.hid (HSB3.out.keep hal)
        clear hal
        go_upto_region 5 with (fail)
        clear s0 s1 HSB3 HB3
        generalize w3.heap.size = Q at *
        generalize w3.alloc (.cells #[.string site1, .int .i64 no1, .int .i64 at1, .int .i64 4, .string id1, .string fld1, .string val1, .int .i64 from1, .int .i64 to1, .string os1, .int .i64 ono1, .string sum1] 40) = w4 at *
        obtain ⟨s0, s1⟩ := HSB4.out.c
        obtain ⟨a0, a1, a2, a3, a4, a5, a6, a7, a8, a9, a10, a11⟩ := HD4.out.c
        simp only at a0 a1 a2 a3 a4 a5 a6 a7 a8 a9 a10 a11
        have HAT4 : Hid (DeedsAt w4 A n c l) := ElemsAt.keep HAT0.out HB4.out
        have HCN : Hid (Calls Tryz.prog 88 #[.slice A n c, .agg #[.string site1, .int .i64 no1, .int .i64 at1, .int .i64 4, .string id1, .string fld1, .string val1, .int .i64 from1, .int .i64 to1, .string os1, .int .i64 ono1, .string sum1]] w4 fun e w' => e = .returned (.bool (cntD l (⟨site1, no1, at1, 4, id1, fld1, val1, from1, to1, os1, ono1, sum1⟩ : Deed))) ∧ Below w4.heap.size w4 w') := counts_any A n c l (⟨site1, no1, at1, 4, id1, fld1, val1, from1, to1, os1, ono1, sum1⟩ : Deed) w4 HAT4.out HL.out
        generalize hct : cntD l (⟨site1, no1, at1, 4, id1, fld1, val1, from1, to1, os1, ono1, sum1⟩ : Deed) = ct at *
        have HCT := Lib.hid hct
        clear hct
        cases ct with
        | false =>
          go_wp2_with fail
          refine HCN.out.mono ?_
          rintro e w5 ⟨rfl, hb5⟩
          have HF : Hid (NonePost w (.returned (.tuple #[.slice none 0 0, .int .i64 11])) w5) := ⟨11, by decide, rfl, HB4.out.trans (hb5.mono HB4.out.size)⟩
          clear hb5
          go_wp2_with fail
          go_ret2
          exact .inl ⟨HF.out, by rw [HFI.out]; simp⟩
        | true =>
          go_wp2_with fail
          refine HCN.out.mono ?_
          rintro e w5 ⟨rfl, hb5⟩
          have HB5 : Hid (Below w.heap.size w w5) := HB4.out.trans (hb5.mono HB4.out.size)
          have HSB5 := Lib.hid (HSB4.out.keep hb5)
          clear hb5 HCN HSB4 HB4 HAT4 s0 s1 a0 a1 a2 a3 a4 a5 a6 a7 a8 a9 a10 a11 HD4
          obtain ⟨s0, s1⟩ := HSB5.out.c
          have HG := Lib.hid (undo_good site os ono HMB.out (show (3 : Int) = 3 ∨ (3 : Int) = 6 by omega))
          obtain ⟨hsm, h10⟩ := HG.out.small (by show 0 ≤ (0 : Int) ∧ (0 : Int) ≤ 2001; omega) HK.out (by show 0 ≤ 1000; omega) HBD.out
          have HAT5 : Hid (DeedsAt w5 A n c l) := ElemsAt.keep HAT0.out HB5.out
          have HAD : Hid (Calls Tryz.prog 70 #[.slice A n c, .agg #[.string site, .int .i64 0, .int .i64 at_, .int .i64 3, .string ⟨#[]⟩, .string ⟨#[]⟩, .string ⟨#[]⟩, .int .i64 0, .int .i64 0, .string os, .int .i64 ono, .string ⟨#[]⟩]] w5 (AddPost w5 l (undoDeed site at_ 3 os ono))) := added1_any A n c l (undoDeed site at_ 3 os ono) w5 HAT5.out HL.out hsm h10 (HTT.out w5 HB5.out)
          clear hsm h10
          go_wp2_with fail
          refine HAD.out.mono ?_
          rintro e w6 ⟨A6, n6, c6, L, rfl, hat6, hord, hm, hln, hb6⟩
          have HF : Hid (MadePost w l (undoDeed site at_ 3 os ono) (.returned (.tuple #[.slice A6 n6 c6, .int .i64 0])) w6) := ⟨A6, n6, c6, L, rfl, hat6, HL.out.next HK.out HG.out (undo_of3 HX.out site at_ HXS.out HXN.out (by simp)) hord hm (by have := HN.out; omega), hm, hln, HB5.out.trans (hb6.mono HB5.out.size)⟩
          clear hat6 hord hm hln hb6 HAD
          go_wp2_with fail
          go_ret2
          exact .inr ⟨_, by rw [HFI.out]; simp, rfl, HF.out⟩
      · have hal : Below w3.heap.size w3 (w3.alloc (.cells #[.string site1, .int .i64 no1, .int .i64 at1, .int .i64 5, .string id1, .string fld1, .string val1, .int .i64 from1, .int .i64 to1, .string os1, .int .i64 ono1, .string sum1] 40)) := (Below.refl _ _).alloc (Nat.le_refl _) _
        have HD4 : Hid (DeedAt (w3.alloc (.cells #[.string site1, .int .i64 no1, .int .i64 at1, .int .i64 5, .string id1, .string fld1, .string val1, .int .i64 from1, .int .i64 to1, .string os1, .int .i64 ono1, .string sum1] 40)) w3.heap.size (⟨site1, no1, at1, 5, id1, fld1, val1, from1, to1, os1, ono1, sum1⟩ : Deed)) := deed_new w3 (⟨site1, no1, at1, 5, id1, fld1, val1, from1, to1, os1, ono1, sum1⟩ : Deed)
        have HB4 : Hid (Below w.heap.size w (w3.alloc (.cells #[.string site1, .int .i64 no1, .int .i64 at1, .int .i64 5, .string id1, .string fld1, .string val1, .int .i64 from1, .int .i64 to1, .string os1, .int .i64 ono1, .string sum1] 40))) := HB3.out.trans (hal.mono HB3.out.size)
        have HSB4 := Lib.hid (HSB3.out.keep hal)
        clear hal
        go_upto_region 5 with (fail)
        clear s0 s1 HSB3 HB3
        generalize w3.heap.size = Q at *
        generalize w3.alloc (.cells #[.string site1, .int .i64 no1, .int .i64 at1, .int .i64 5, .string id1, .string fld1, .string val1, .int .i64 from1, .int .i64 to1, .string os1, .int .i64 ono1, .string sum1] 40) = w4 at *
        obtain ⟨s0, s1⟩ := HSB4.out.c
        obtain ⟨a0, a1, a2, a3, a4, a5, a6, a7, a8, a9, a10, a11⟩ := HD4.out.c
        simp only at a0 a1 a2 a3 a4 a5 a6 a7 a8 a9 a10 a11
        by_cases hos : os = site
        · rw [decide_eq_true hos] at q
          have HOS := Lib.hid hos
          clear hos
          have HAT4 : Hid (DeedsAt w4 A n c l) := ElemsAt.keep HAT0.out HB4.out
          have HCN : Hid (Calls Tryz.prog 88 #[.slice A n c, .agg #[.string site1, .int .i64 no1, .int .i64 at1, .int .i64 5, .string id1, .string fld1, .string val1, .int .i64 from1, .int .i64 to1, .string os1, .int .i64 ono1, .string sum1]] w4 fun e w' => e = .returned (.bool (cntD l (⟨site1, no1, at1, 5, id1, fld1, val1, from1, to1, os1, ono1, sum1⟩ : Deed))) ∧ Below w4.heap.size w4 w') := counts_any A n c l (⟨site1, no1, at1, 5, id1, fld1, val1, from1, to1, os1, ono1, sum1⟩ : Deed) w4 HAT4.out HL.out
          generalize hct : cntD l (⟨site1, no1, at1, 5, id1, fld1, val1, from1, to1, os1, ono1, sum1⟩ : Deed) = ct at *
          have HCT := Lib.hid hct
          clear hct
          cases ct with
          | false =>
            go_wp2_with fail
            refine HCN.out.mono ?_
            rintro e w5 ⟨rfl, hb5⟩
            have HF : Hid (NonePost w (.returned (.tuple #[.slice none 0 0, .int .i64 11])) w5) := ⟨11, by decide, rfl, HB4.out.trans (hb5.mono HB4.out.size)⟩
            clear hb5
            go_wp2_with fail
            go_ret2
            exact .inl ⟨HF.out, by rw [HFI.out]; simp [HOS.out]⟩
          | true =>
            go_wp2_with fail
            refine HCN.out.mono ?_
            rintro e w5 ⟨rfl, hb5⟩
            have HB5 : Hid (Below w.heap.size w w5) := HB4.out.trans (hb5.mono HB4.out.size)
            have HSB5 := Lib.hid (HSB4.out.keep hb5)
            clear hb5 HCN HSB4 HB4 HAT4 s0 s1 a0 a1 a2 a3 a4 a5 a6 a7 a8 a9 a10 a11 HD4
            obtain ⟨s0, s1⟩ := HSB5.out.c
            have HG := Lib.hid (undo_good site os ono HMB.out (show (6 : Int) = 3 ∨ (6 : Int) = 6 by omega))
            obtain ⟨hsm, h10⟩ := HG.out.small (by show 0 ≤ (0 : Int) ∧ (0 : Int) ≤ 2001; omega) HK.out (by show 0 ≤ 1000; omega) HBD.out
            have HAT5 : Hid (DeedsAt w5 A n c l) := ElemsAt.keep HAT0.out HB5.out
            have HAD : Hid (Calls Tryz.prog 70 #[.slice A n c, .agg #[.string site, .int .i64 0, .int .i64 at_, .int .i64 6, .string ⟨#[]⟩, .string ⟨#[]⟩, .string ⟨#[]⟩, .int .i64 0, .int .i64 0, .string os, .int .i64 ono, .string ⟨#[]⟩]] w5 (AddPost w5 l (undoDeed site at_ 6 os ono))) := added1_any A n c l (undoDeed site at_ 6 os ono) w5 HAT5.out HL.out hsm h10 (HTT.out w5 HB5.out)
            clear hsm h10
            go_wp2_with fail
            refine HAD.out.mono ?_
            rintro e w6 ⟨A6, n6, c6, L, rfl, hat6, hord, hm, hln, hb6⟩
            have HF : Hid (MadePost w l (undoDeed site at_ 6 os ono) (.returned (.tuple #[.slice A6 n6 c6, .int .i64 0])) w6) := ⟨A6, n6, c6, L, rfl, hat6, HL.out.next HK.out HG.out (undo_of6 HL.out HX.out site at_ HXS.out HXN.out (by simp) HOS.out) hord hm (by have := HN.out; omega), hm, hln, HB5.out.trans (hb6.mono HB5.out.size)⟩
            clear hat6 hord hm hln hb6 HAD
            go_wp2_with fail
            go_ret2
            exact .inr ⟨_, by rw [HFI.out]; simp [HOS.out], rfl, HF.out⟩
        · rw [decide_eq_false hos] at q
          have HOS := Lib.hid hos
          clear hos
          have HF : Hid (NonePost w (.returned (.tuple #[.slice none 0 0, .int .i64 16])) w4) := ⟨16, by decide, rfl, HB4.out⟩
          go_wp2_with fail
          go_ret2
          exact .inl ⟨HF.out, by rw [HFI.out]; simp [HOS.out]⟩
      · have hal : Below w3.heap.size w3 (w3.alloc (.cells #[.string site1, .int .i64 no1, .int .i64 at1, .int .i64 6, .string id1, .string fld1, .string val1, .int .i64 from1, .int .i64 to1, .string os1, .int .i64 ono1, .string sum1] 40)) := (Below.refl _ _).alloc (Nat.le_refl _) _
        have HD4 : Hid (DeedAt (w3.alloc (.cells #[.string site1, .int .i64 no1, .int .i64 at1, .int .i64 6, .string id1, .string fld1, .string val1, .int .i64 from1, .int .i64 to1, .string os1, .int .i64 ono1, .string sum1] 40)) w3.heap.size (⟨site1, no1, at1, 6, id1, fld1, val1, from1, to1, os1, ono1, sum1⟩ : Deed)) := deed_new w3 (⟨site1, no1, at1, 6, id1, fld1, val1, from1, to1, os1, ono1, sum1⟩ : Deed)
        have HB4 : Hid (Below w.heap.size w (w3.alloc (.cells #[.string site1, .int .i64 no1, .int .i64 at1, .int .i64 6, .string id1, .string fld1, .string val1, .int .i64 from1, .int .i64 to1, .string os1, .int .i64 ono1, .string sum1] 40))) := HB3.out.trans (hal.mono HB3.out.size)
        have HSB4 := Lib.hid (HSB3.out.keep hal)
        clear hal
        go_upto_region 5 with (fail)
        clear s0 s1 HSB3 HB3
        generalize w3.heap.size = Q at *
        generalize w3.alloc (.cells #[.string site1, .int .i64 no1, .int .i64 at1, .int .i64 6, .string id1, .string fld1, .string val1, .int .i64 from1, .int .i64 to1, .string os1, .int .i64 ono1, .string sum1] 40) = w4 at *
        obtain ⟨s0, s1⟩ := HSB4.out.c
        obtain ⟨a0, a1, a2, a3, a4, a5, a6, a7, a8, a9, a10, a11⟩ := HD4.out.c
        simp only at a0 a1 a2 a3 a4 a5 a6 a7 a8 a9 a10 a11
        have HF : Hid (NonePost w (.returned (.tuple #[.slice none 0 0, .int .i64 16])) w4) := ⟨16, by decide, rfl, HB4.out⟩
        go_wp2_with fail
        go_ret2
        exact .inl ⟨HF.out, by rw [HFI.out]; simp⟩
    · have HNO := Lib.hid hno
      clear hno
      have hal : Below w3.heap.size w3 (w3.alloc (.cells #[.string ⟨#[]⟩, .int .i64 0, .int .i64 0, .int .i64 0, .string ⟨#[]⟩, .string ⟨#[]⟩, .string ⟨#[]⟩, .int .i64 0, .int .i64 0, .string ⟨#[]⟩, .int .i64 0, .string ⟨#[]⟩] 40)) := (Below.refl _ _).alloc (Nat.le_refl _) _
      have HF : Hid (NonePost w (.returned (.tuple #[.slice none 0 0, .int .i64 8])) (w3.alloc (.cells #[.string ⟨#[]⟩, .int .i64 0, .int .i64 0, .int .i64 0, .string ⟨#[]⟩, .string ⟨#[]⟩, .string ⟨#[]⟩, .int .i64 0, .int .i64 0, .string ⟨#[]⟩, .int .i64 0, .string ⟨#[]⟩] 40))) := ⟨8, by decide, rfl, HB3.out.trans (hal.mono HB3.out.size)⟩
      clear hal
      unfold Deed.v
      simp only [zeroD, zeroB]
      go_upto_region 5 with (fail)
      generalize w3.alloc (.cells #[.string ⟨#[]⟩, .int .i64 0, .int .i64 0, .int .i64 0, .string ⟨#[]⟩, .string ⟨#[]⟩, .string ⟨#[]⟩, .int .i64 0, .int .i64 0, .string ⟨#[]⟩, .int .i64 0, .string ⟨#[]⟩] 40) = w4 at *
      go_wp2_with fail
      go_ret2
      exact .inl ⟨HF.out, HU.out _ (find_no HNO.out)⟩
end Go.Proofs.YthogkcgklakibaaGreatDoor
