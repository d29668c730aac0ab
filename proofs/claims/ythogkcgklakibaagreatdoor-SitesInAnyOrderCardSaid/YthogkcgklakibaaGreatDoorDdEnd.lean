
/-
  The deeds that chasemake makes; the past of deeds: the law.
-/
import Derived.Test.YthogkcgklakibaaGreatDoorDdSites
import Derived.Test.YthogkcgklakibaaGreatDoorDdAs
import Derived.Test.YthogkcgklakibaaGreatDoorDdMat
import Derived.Test.YthogkcgklakibaaGreatDoorStreamNew

namespace Go.Proofs.YthogkcgklakibaaGreatDoor
open Go.RowKit
attribute [local go_sem ↓] Go.wp_at_zero Go.wp_at_succ

set_option maxHeartbeats 3200000 in
set_option maxRecDepth 100000 in
theorem equalD_any (A B : Option Addr) (n c m d : Nat) (l : List Deed) (w : World) (hA : DeedsAt w A n c l) (hB : DeedsAt w B m d l) (hn : n ≤ 10000) :
    Calls Tryz.prog 15 #[.slice A n c, .slice B m d] w fun e w' => e = .returned (.bool true) ∧ Below w.heap.size w w' := by
  have HA := Lib.hid hA
  have HB := Lib.hid hB
  have HN := Lib.hid hA.1
  have hm : m = n := by have := hA.1; have := hB.1; omega
  subst hm
  clear hA hB
  go_enter Tryz.func15, Tryz.ntmps15
  go_wp2_with fail
  go_loopg [13] m (fun gk v wr => ∃ k : Nat, Hid (k + gk = m) ∧ v = .int .i64 (k : Int) ∧ Hid (Below w.heap.size w wr))
  case atStart => exact ⟨0, show 0 + m = m by omega, rfl, Below.refl _ _⟩
  case round =>
    obtain ⟨k, HK, rfl, HW⟩ := hrel
    have hkn : k ≤ m := by have := HK.out; omega
    by_cases hlt : k < m
    · have HGK := Lib.hid (show k + 1 + (gk - 1) = m ∧ 0 < gk by have := HK.out; omega)
      obtain ⟨g1, o1, rfl, hg1, hc1⟩ := (ElemsAt.keep HA.out HW.out).deed (by omega)
      obtain ⟨g2, o2, rfl, hg2, hc2⟩ := (ElemsAt.keep HB.out HW.out).deed (by omega)
      have hkl : k < l.length := by rw [← HN.out]; exact hlt
      obtain ⟨x, hx⟩ : ∃ x, l[k]? = some x := ⟨_, List.getElem?_eq_getElem hkl⟩
      obtain ⟨c0, c1, c2, c3, c4, c5, c6, c7, c8, c9, c10, c11⟩ := hc1 k x hx
      obtain ⟨e0, e1, e2, e3, e4, e5, e6, e7, e8, e9, e10, e11⟩ := hc2 k x hx
      have HWd := Lib.hid HW.out.drew
      have HWn := Lib.hid (fun q => Go.Proofs.YthogkcgklakibaaGreatDoor.below_drewN HW.out q)
      clear hc1 hc2 hx hkl hg1 hg2
      go_wp2_with fail
      go_quiet (fail)
      go_wp2_with fail
      go_roundg (gk - 1)
      case measure => exact Nat.sub_lt HGK.out.2 Nat.one_pos
      case rel => exact ⟨k + 1, HGK.out.1, by go_num, by first | exact HWd.out | exact HWn.out _ | exact HW.out⟩
    · have hnk : ¬ (k : Int) < (m : Int) := by omega
      go_wp2_with fail
      go_ret
      exact ⟨rfl, HW.out⟩
def DeedsPost (w : World) (g : Nat) (A : Option Addr) (n c K : Nat) (e : Ending) (w' : World) : Prop :=
  ∃ Au nu cu U, e = .returned (.slice Au nu cu) ∧ DeedsAt w' Au nu cu U ∧ RightD U ∧ nu ≤ 17 ∧ StreamAt w' g A n c (K + 300) ∧ w.grownBy w' (some g)
set_option maxHeartbeats 3200000 in
set_option maxRecDepth 100000 in
theorem deeds_any (g : Nat) (A : Option Addr) (n c K : Nat) (w : World) (hs : StreamAt w g A n c K) (hK : K ≤ 10000) (hT : ∀ wx, w.grownBy wx (some g) → TabsAll wx) :
    Calls Tryz.prog 8 #[.pointer (some ⟨g, 0, none⟩)] w (DeedsPost w g A n c K) := by
  have HTA := Lib.hid hT
  have HSI := Lib.hid (sites_any g A n c K w hs hK hT)
  clear hs hT
  go_enter Tryz.func8, Tryz.ntmps8
  go_wp2_with fail
  refine HSI.out.mono ?_
  rintro e w1 ⟨B, hd, L, rfl, hO, hI, -, hs1, hg1⟩
  have HO1 := Lib.hid hO
  have HI := Lib.hid hI
  have HS1 := Lib.hid hs1
  have HG1 := Lib.hid hg1
  have HTB : Hid (∀ wx, Below w1.heap.size w1 wx → TabsAll wx) := fun wx hx => (HTA.out w1 HG1.out).below hx
  clear hO hI hs1 hg1 HSI
  go_wp2_with fail
  go_loopg [3, 11] 3 (fun gk v3 v wr => ∃ (k : Nat) (Au : Option Addr) (nu cu : Nat) (U : List Deed), Hid (k + gk = 3) ∧ v = .int .i64 (k : Int) ∧ v3 = .slice Au nu cu ∧ Hid (DeedsAt wr Au nu cu U) ∧ Hid (JoinI L k U) ∧ Hid (Below w1.heap.size w1 wr))
  case atStart => exact ⟨0, none, 0, 0, [], show 0 + 3 = 3 by omega, rfl, rfl, nilAt _, JoinI.start L, Below.refl _ _⟩
  case round =>
    obtain ⟨k, Au, nu, cu, U, HK, rfl, rfl, HU, HJ, HW⟩ := hrel
    have hkn : k ≤ 3 := by have := HK.out; omega
    have hnu : nu ≤ 17 := by have h1 := HU.out.1; have h2 := JoinI.len HI.out HJ.out hkn; omega
    by_cases hlt : k < 3
    · have HGK := Lib.hid (show k + 1 + (gk - 1) = 3 ∧ 0 < gk by have := HK.out; omega)
      have hlti : (k : Int) < 3 := by omega
      have HOk := Lib.hid (HO1.out.keep HW.out)
      obtain ⟨⟨Ak, nk, ck⟩, hhk⟩ : ∃ u : HdD, u = hd k := ⟨_, rfl⟩
      have hck := HOk.out.cell hlt
      have hrk := HOk.out.row k hlt
      rw [← hhk] at hck hrk
      have HRK := Lib.hid hrk
      have hck' : wr.cell? ⟨B, k, none⟩ = some (.slice Ak nk ck) := hck
      have hnk : nk ≤ 17 := by have h1 : nk = (L k).length := hrk.1; have h2 := HI.out.len hlt; omega
      have HMD := Lib.hid (mergeDeeds_of Au nu cu U Ak nk ck (L k) wr HU.out HRK.out HJ.out.right (HI.out.right k hlt) (JoinI.same HI.out HJ.out hkn hlt) (by omega) (fun wx hx A n c U h1 h2 => by
        have ht := HTB.out wx (HW.out.trans (hx.mono HW.out.size))
        exact deedsFault_ok A n c U wx h1 h2 ht.tabs ht.max ht.pow))
      clear hhk hck hrk HK HOk
      go_wp2_with fail
      refine HMD.out.mono ?_
      rintro e w2 ⟨Av, nv, cv, V, rfl, hAV, hRV, hMV, hb2⟩
      have HV := Lib.hid hAV
      have HJ2 := Lib.hid (JoinI.next HJ.out hRV hMV)
      have HW2 := Lib.hid (HW.out.trans (hb2.mono HW.out.size))
      clear hAV hRV hMV hb2 HMD hck'
      go_wp2_with fail
      go_roundg (gk - 1)
      case measure => exact Nat.sub_lt HGK.out.2 Nat.one_pos
      case rel => exact ⟨k + 1, Av, nv, cv, V, HGK.out.1, by go_num, rfl, HV.out, HJ2.out, HW2.out⟩
    · have hnk : ¬ (k : Int) < (3 : Int) := by omega
      have HF : Hid (DeedsPost w g A n c K (.returned (.slice Au nu cu)) wr) := ⟨Au, nu, cu, U, rfl, HU.out, HJ.out.right, hnu, HS1.out.below HW.out, grown_below HG1.out HW.out⟩
      clear HU HJ HW HK
      go_wp2_with fail
      go_ret
      exact HF.out
/-- A number in a block of its own. -/
abbrev IntB (w : World) (P : Nat) (z : Int) : Prop := w.heap[P]? = some (.cells #[.int .i64 z] 3 (0, 0))
theorem IntB.c {w : World} {P : Nat} {z : Int} (h : IntB w P z) : w.cell? ⟨P, 0, none⟩ = some (.int .i64 z) := by rw [cell_of_row w P _ _ _ _ h]; rfl
theorem IntB.keep {w w' : World} {P : Nat} {z : Int} (h : IntB w P z) (hb : Below w.heap.size w w') : IntB w' P z := (hb.block P (Array.getElem?_eq_some_iff.1 h).1).trans h
def lateB (z : Int) (x : Deed) : Bool := decide (z < x.at_)
set_option maxHeartbeats 800000 in
set_option maxRecDepth 100000 in
theorem lateClo_any (Pa : Nat) (z : Int) (x : Deed) (w : World) (hP : IntB w Pa z) : Calls Tryz.prog 13 #[x.v, .pointer (some ⟨Pa, 0, none⟩)] w fun e w' => e = .returned (.bool (lateB z x)) ∧ Below w.heap.size w w' := by
  have hal : Below w.heap.size w (w.alloc (.cells #[.string x.site, .int .i64 x.no, .int .i64 x.at_, .int .i64 x.kind, .string x.id, .string x.fld, .string x.val, .int .i64 x.from_, .int .i64 x.to_, .string x.osite, .int .i64 x.ono, .string x.sum] 40)) := (Below.refl _ _).alloc (Nat.le_refl _) _
  have HX1 : Hid (DeedAt (w.alloc (.cells #[.string x.site, .int .i64 x.no, .int .i64 x.at_, .int .i64 x.kind, .string x.id, .string x.fld, .string x.val, .int .i64 x.from_, .int .i64 x.to_, .string x.osite, .int .i64 x.ono, .string x.sum] 40)) w.heap.size x) := deed_new w x
  have HP1 := Lib.hid (hP.keep hal)
  have HB1 := Lib.hid hal
  clear hal hP
  unfold Deed.v
  go_enter Tryz.func13, Tryz.ntmps13
  go_upto_region 1 with (fail)
  generalize w.alloc (.cells #[.string x.site, .int .i64 x.no, .int .i64 x.at_, .int .i64 x.kind, .string x.id, .string x.fld, .string x.val, .int .i64 x.from_, .int .i64 x.to_, .string x.osite, .int .i64 x.ono, .string x.sum] 40) = w1 at *
  obtain ⟨a0, a1, a2, a3, a4, a5, a6, a7, a8, a9, a10, a11⟩ := HX1.out.c
  have hp0 := HP1.out.c
  go_wp2_with fail
  go_ret
  exact ⟨rfl, HB1.out⟩
set_option maxHeartbeats 1600000 in
set_option maxRecDepth 100000 in
theorem idxLate_any (A : Option Addr) (n c : Nat) (l : List Deed) (Pa : Nat) (z : Int) (w : World) (hA : DeedsAt w A n c l) (hn : n ≤ 100000)
    (hcl : ∀ x ∈ l, ∀ wx, Below w.heap.size w wx → Calls Tryz.prog 13 (#[x.v] ++ #[.pointer (some ⟨Pa, 0, none⟩)]) wx fun e w' => e = .returned (.bool (lateB z x)) ∧ Below wx.heap.size wx w') :
    Calls Tryz.prog 49 #[.slice A n c, .func (.func 13) #[] #[.pointer (some ⟨Pa, 0, none⟩)]] w fun e w' => (∃ r : Int, e = .returned (.int .i64 r) ∧ ((r = -1 ∧ ∀ x ∈ l, lateB z x = false) ∨ ∃ (k : Nat) (x : Deed), r = (k : Int) ∧ l[k]? = some x ∧ lateB z x = true)) ∧ Below w.heap.size w w' := by
  have HN := Lib.hid hA.1
  have HA := Lib.hid hA
  have HCL := Lib.hid hcl
  clear hA hcl
  go_enter Tryz.func49, Tryz.ntmps49
  go_wp2_with fail
  go_loopg [8] n (fun gk v wr => ∃ k : Nat, Hid (k + gk = n) ∧ v = .int .i64 (k : Int) ∧ Hid (∀ x ∈ l.take k, lateB z x = false) ∧ Hid (Below w.heap.size w wr))
  case atStart => exact ⟨0, show 0 + n = n by omega, rfl, (fun x hx => by simp at hx), Below.refl _ _⟩
  case round =>
    obtain ⟨k, HKK, rfl, HNO, HW⟩ := hrel
    have hkn : k ≤ n := by have := HKK.out; omega
    by_cases hlt : k < n
    · have HGK := Lib.hid (show k + 1 + (gk - 1) = n ∧ 0 < gk by have := HKK.out; omega)
      obtain ⟨gA, off, rfl, hgA, hcA⟩ := (ElemsAt.keep HA.out HW.out).deed (by omega)
      have hkl : k < l.length := by rw [← HN.out]; exact hlt
      obtain ⟨x, hx⟩ : ∃ x, l[k]? = some x := ⟨_, List.getElem?_eq_getElem hkl⟩
      obtain ⟨c0, c1, c2, c3, c4, c5, c6, c7, c8, c9, c10, c11⟩ := hcA k x hx
      have HX := Lib.hid hx
      have HCX := Lib.hid (HCL.out x (List.mem_of_getElem? hx) wr HW.out)
      have HTK : Hid (l.take (k + 1) = l.take k ++ [x]) := by
        show _ = _
        obtain ⟨h1, h2⟩ := List.getElem?_eq_some_iff.1 hx
        rw [List.take_succ_eq_append_getElem h1, h2]
      unfold Deed.v at HCX
      clear hcA hkl hx hgA
      go_wp2_with fail
      refine HCX.out.mono ?_
      rintro e w4 ⟨rfl, hb4⟩
      have HW4 := Lib.hid (HW.out.trans (hb4.mono HW.out.size))
      clear hb4 HCX c0 c1 c2 c3 c4 c5 c6 c7 c8 c9 c10 c11
      cases hp : lateB z x with
      | true =>
        have HF := Lib.hid hp
        clear hp
        go_wp2_with fail
        go_ret
        exact ⟨⟨(k : Int), rfl, .inr ⟨k, x, rfl, HX.out, HF.out⟩⟩, HW4.out⟩
      | false =>
        have HF := Lib.hid hp
        clear hp
        go_wp2_with fail
        go_roundg (gk - 1)
        case measure => exact Nat.sub_lt HGK.out.2 Nat.one_pos
        case rel => exact ⟨k + 1, HGK.out.1, by go_num, (fun y hy => by
          rw [HTK.out] at hy
          rcases List.mem_append.1 hy with hy | hy
          · exact HNO.out y hy
          · rw [List.mem_singleton.1 hy]; exact HF.out), HW4.out⟩
    · have hnk : ¬ (k : Int) < (n : Int) := by omega
      have hta : l.take k = l := List.take_of_length_le (by have := HN.out; omega)
      rw [hta] at HNO
      clear hta
      go_wp2_with fail
      go_ret
      exact ⟨⟨-1, rfl, .inl ⟨rfl, HNO.out⟩⟩, HW.out⟩
set_option maxHeartbeats 800000 in
theorem late_none (A : Option Addr) (n c : Nat) (l : List Deed) (Pa : Nat) (z : Int) (w : World) (hA : DeedsAt w A n c l) (hn : n ≤ 100000) (hP : IntB w Pa z) (hz : ∀ x ∈ l, x.at_ ≤ z) :
    Calls Tryz.prog 12 #[.slice A n c, .func (.func 13) #[] #[.pointer (some ⟨Pa, 0, none⟩)]] w fun e w' => e = .returned (.bool false) ∧ Below w.heap.size w w' := by
  have HI := Lib.hid (idxLate_any A n c l Pa z w hA hn (fun x _ wx hx => lateClo_any Pa z x wx (hP.keep hx)))
  have HZ := Lib.hid hz
  clear hA hP hz
  go_enter Tryz.func12, Tryz.ntmps12
  go_wp2_with fail
  refine HI.out.mono ?_
  rintro e w1 ⟨⟨r, rfl, hr⟩, hb1⟩
  have HB := Lib.hid hb1
  rcases hr with ⟨rfl, hno⟩ | ⟨k, x, rfl, hx, hp⟩
  · clear hno hb1 HI
    go_wp2_with fail
    go_ret
    exact ⟨rfl, HB.out⟩
  · have h1 := HZ.out x (List.mem_of_getElem? hx)
    have h2 : z < x.at_ := of_decide_eq_true hp
    omega
set_option maxHeartbeats 6400000 in
set_option maxRecDepth 100000 in
theorem past_any (A : Option Addr) (n c : Nat) (w : World) (h : RowAt w A n) (hbig : n ≤ 1000000000000000) (hT : TabsAll w) :
    Calls Tryz.prog 3 #[.slice A n c] w (LawPost w) := by
  have hst := stream_new w A n c h hbig
  have hb0 : Below w.heap.size w (w.alloc (.cells #[.slice A n c, .int .i64 0] 25)) := (Below.refl _ _).alloc (Nat.le_refl _) _
  have HB0 := Lib.hid hb0
  have HTT : Hid (∀ wx, Below w.heap.size w wx → TabsAll wx) := fun wx hx => hT.below hx
  have HS0 := Lib.hid hst
  clear hst hb0 h hT
  go_enter Tryz.func3, Tryz.ntmps3
  go_upto_region 2 with (fail)
  obtain ⟨g, hg⟩ : ∃ g, g = w.heap.size := ⟨_, rfl⟩
  rw [← hg] at HS0 ⊢
  have HGL : Hid (w.heap.size ≤ g) := by show _ ≤ _; omega
  generalize w.alloc (.cells #[.slice A n c, .int .i64 0] 25) = w1 at *
  clear hg
  have HGB : Hid (∀ wx, w1.grownBy wx (some g) → Below w.heap.size w wx) := fun wx hx => HB0.out.grown hx HB0.out.size (fun i e => by have := Option.some.inj e; have := HGL.out; omega)
  go_wp2_with fail
  refine (deeds_any g A n c 0 w1 HS0.out (by omega) (fun wx hx => HTT.out wx (HGB.out wx hx))).mono ?_
  rintro e w2 ⟨Au, nu, cu, U, rfl, hU, hRU, hnu, hs2, hg2⟩
  have HU2 := Lib.hid hU
  have HRU := Lib.hid hRU
  have HS2 := Lib.hid hs2
  have HG2 := Lib.hid hg2
  clear hU hRU hs2 hg2 HS0
  go_wp2_with fail
  refine (next_any g A n c _ 60 w2 HS2.out (by omega) (by omega)).mono ?_
  rintro e w3 ⟨z, rfl, hz0, hz1, hs3, hg3⟩
  have hz60 := hz1 (by omega)
  have HU3 := Lib.hid (deeds_stream HU2.out HS2.out hg3)
  have HB3 := Lib.hid (HGB.out w3 (grown_trans HG2.out hg3))
  clear hz1 hs3 hg3 HU2 HS2 HG2
  have hal : Below w3.heap.size w3 (w3.alloc (.cells #[.int .i64 z] 3)) := (Below.refl _ _).alloc (Nat.le_refl _) _
  have HP4 : Hid (IntB (w3.alloc (.cells #[.int .i64 z] 3)) w3.heap.size z) := heap_alloc_new w3 _
  have HU4 := Lib.hid (ElemsAt.keep HU3.out hal)
  have HB4 := Lib.hid (HB3.out.trans (hal.mono HB3.out.size))
  clear hal HU3 HB3
  go_upto_region 3 with (fail)
  obtain ⟨Pa, hPa⟩ : ∃ Pa, Pa = w3.heap.size := ⟨_, rfl⟩
  rw [← hPa] at HP4 ⊢
  generalize w3.alloc (.cells #[.int .i64 z] 3) = w4 at *
  clear hPa
  have HLE : Hid (∀ wx (A : Option Addr) (n c : Nat) (l : List Deed), Below w.heap.size w wx → DeedsAt wx A n c l → RightD l → CheckOk wx A n c) := fun wx A n c l hx h1 h2 => by
    have ht := HTT.out wx hx
    exact checkDeeds_ok A n c l wx h1 h2 ht.tabs ht.max ht.pow ht.stand
  have hp4 := HP4.out.c
  go_wp2_with fail
  refine (asOf_any Au nu cu U z w4 HU4.out HRU.out ⟨hz0, by omega⟩ (listError_ok _ _ _ _ (HLE.out _ _ _ _ _ HB4.out HU4.out HRU.out))).mono ?_
  rintro e w5 ⟨Aa, na, ca, La, rfl, hLa, hpa, hb5⟩
  have HLA5 := Lib.hid hLa
  have HPA := Lib.hid hpa
  have HP5 := Lib.hid (HP4.out.keep hb5)
  have HU5 := Lib.hid (ElemsAt.keep HU4.out hb5)
  have HB5 := Lib.hid (HB4.out.trans (hb5.mono HB4.out.size))
  clear hLa hpa hb5 HP4 HU4 HB4 hp4
  have hp5 := HP5.out.c
  go_wp2_with fail
  refine (asOf_any Aa na ca La z w5 HLA5.out HPA.out.right ⟨hz0, by omega⟩ (listError_ok _ _ _ _ (HLE.out _ _ _ _ _ HB5.out HLA5.out HPA.out.right))).mono ?_
  rintro e w6 ⟨Ab, nb, cb, Lb, rfl, hLb, hpb, hb6⟩
  have hba : Lb = La := hpb.same HPA.out.early
  subst hba
  have HLB6 := Lib.hid hLb
  have HLA6 := Lib.hid (ElemsAt.keep HLA5.out hb6)
  have HP6 := Lib.hid (HP5.out.keep hb6)
  have HU6 := Lib.hid (ElemsAt.keep HU5.out hb6)
  have HB6 := Lib.hid (HB5.out.trans (hb6.mono HB5.out.size))
  clear hLb hpb hb6 HLA5 HP5 HU5 HB5 hp5
  go_wp2_with fail
  refine (asOf_any Au nu cu U 5761439 w6 HU6.out HRU.out ⟨by omega, by omega⟩ (listError_ok _ _ _ _ (HLE.out _ _ _ _ _ HB6.out HU6.out HRU.out))).mono ?_
  rintro e w7 ⟨Ac, nc, cc, Lc, rfl, hLc, hpc, hb7⟩
  have hcu : Lc = U := hpc.same (fun d hd => (HRU.out.good d hd).at_.2)
  subst hcu
  have HLC7 := Lib.hid hLc
  have HLB7 := Lib.hid (ElemsAt.keep HLB6.out hb7)
  have HLA7 := Lib.hid (ElemsAt.keep HLA6.out hb7)
  have HP7 := Lib.hid (HP6.out.keep hb7)
  have HU7 := Lib.hid (ElemsAt.keep HU6.out hb7)
  have HB7 := Lib.hid (HB6.out.trans (hb7.mono HB6.out.size))
  clear hLc hpc hb7 HLB6 HLA6 HP6 HU6 HB6
  go_wp2_with fail
  have hck := HLE.out _ _ _ _ _ HB7.out HLA7.out HPA.out.right
  unfold CheckOk at hck
  refine hck.mono ?_
  rintro e w8 ⟨rfl, hb8⟩
  have HLC8 := Lib.hid (ElemsAt.keep HLC7.out hb8)
  have HLB8 := Lib.hid (ElemsAt.keep HLB7.out hb8)
  have HLA8 := Lib.hid (ElemsAt.keep HLA7.out hb8)
  have HP8 := Lib.hid (HP7.out.keep hb8)
  have HU8 := Lib.hid (ElemsAt.keep HU7.out hb8)
  have HB8 := Lib.hid (HB7.out.trans (hb8.mono HB7.out.size))
  clear hck hb8 HLC7 HLB7 HLA7 HP7 HU7 HB7
  have HNA : Hid (na ≤ 10000) := by show _ ≤ _; have h1 := HPA.out.right.few; have h2 := HLA8.out.1; omega
  go_wp2_with fail
  refine (late_none Aa na ca Lb Pa z w8 HLA8.out (by have := HNA.out; omega) HP8.out HPA.out.early).mono ?_
  rintro e w9 ⟨rfl, hb9⟩
  have HLC9 := Lib.hid (ElemsAt.keep HLC8.out hb9)
  have HLB9 := Lib.hid (ElemsAt.keep HLB8.out hb9)
  have HLA9 := Lib.hid (ElemsAt.keep HLA8.out hb9)
  have HU9 := Lib.hid (ElemsAt.keep HU8.out hb9)
  have HB9 := Lib.hid (HB8.out.trans (hb9.mono HB8.out.size))
  clear hb9 HLC8 HLB8 HLA8 HP8 HU8 HB8
  go_wp2_with fail
  refine (matters_any w9 (HTT.out _ HB9.out).tabs (HTT.out _ HB9.out).max (HTT.out _ HB9.out).pow (HTT.out _ HB9.out).stand).mono ?_
  rintro e w10 ⟨rfl, hb10⟩
  have HLC10 := Lib.hid (ElemsAt.keep HLC9.out hb10)
  have HLB10 := Lib.hid (ElemsAt.keep HLB9.out hb10)
  have HLA10 := Lib.hid (ElemsAt.keep HLA9.out hb10)
  have HU10 := Lib.hid (ElemsAt.keep HU9.out hb10)
  have HB10 := Lib.hid (HB9.out.trans (hb10.mono HB9.out.size))
  clear hb10 HLC9 HLB9 HLA9 HU9 HB9
  go_wp2_with fail
  refine (equalD_any Aa Ab na ca nb cb Lb w10 HLA10.out HLB10.out HNA.out).mono ?_
  rintro e w11 ⟨rfl, hb11⟩
  have HLC11 := Lib.hid (ElemsAt.keep HLC10.out hb11)
  have HU11 := Lib.hid (ElemsAt.keep HU10.out hb11)
  have HB11 := Lib.hid (HB10.out.trans (hb11.mono HB10.out.size))
  clear hb11 HLC10 HLB10 HLA10 HU10 HB10
  have HNC : Hid (nc ≤ 10000) := by show _ ≤ _; have h1 := HRU.out.few; have h2 := HLC11.out.1; omega
  go_wp2_with fail
  refine (equalD_any Ac Au nc cc nu cu Lc w11 HLC11.out HU11.out HNC.out).mono ?_
  rintro e w12 ⟨rfl, hb12⟩
  have HB12 := Lib.hid (HB11.out.trans (hb12.mono HB11.out.size))
  clear hb12 HB11
  go_wp2_with fail
  go_ret
  exact ⟨rfl, HB12.out⟩
end Go.Proofs.YthogkcgklakibaaGreatDoor
