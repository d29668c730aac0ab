
/-
  ItemsFault of the references: no error only where the items are right.
-/
import Derived.Test.YtfijplllfdmcoaaGreatDoorTreeFault
namespace Go.Proofs.YtfijplllfdmcoaaGreatDoor
open Go.RowKit

/-- Items that are right, but for their order. -/
structure ItemsOk (l : List Itm) : Prop where
  each : ∀ x ∈ l, ItemOk x
  par : ∀ x ∈ l, x.par.data.toList = [] ∨ (findI l x.par).isSome = true
  tree : TreeOk l
set_option maxHeartbeats 3200000 in
set_option maxRecDepth 100000 in
theorem itemsFault_any (A : Option Addr) (n c : Nat) (l : List Itm) (w : World) (h : ItemsAt w A n c l) (hn : n ≤ 2000) (hs : ∀ x ∈ l, SmallI x) (hT : Tabs w) (hM : MaxAt w) :
    Calls Tryz.prog 29 #[.slice A n c] w (FaultTo w (ItemsOk l)) := by
  have HN := Lib.hid h.1
  have HH := Lib.hid h
  have HS := Lib.hid hs
  have HTT : Hid (∀ w', Below w.heap.size w w' → Tabs w' ∧ MaxAt w') := fun w' hb => ⟨Tabs.below hT hb, MaxAt.below hM hb⟩
  have HPL := Lib.hid (fun (id : ByteArray) wx (hb : Below w.heap.size w wx) => place_any id A n c l wx (h.keep hb) (by omega))
  have HTF := Lib.hid (fun wx (hb : Below w.heap.size w wx) => treeFault_any A n c l wx (h.keep hb) hn)
  have HBAD : Hid (∀ (z : Int) w', z ≠ 0 → Below w.heap.size w w' → FaultTo w (ItemsOk l) (.returned (.int .i64 z)) w') := fun z w' hz hb => faultTo w w' _ z hz hb
  clear h hs hT hM
  have hni : ¬ (2000 : Int) < (n : Int) := by omega
  go_enter Tryz.func29, Tryz.ntmps29
  go_wp2_with fail
  go_loopg [3, 14] n (fun gk v3 v wr => ∃ (k : Nat) (s : ByteArray), Hid (k + gk = n) ∧ v3 = .string s ∧ v = .int .i64 (k : Int) ∧ Hid (Below w.heap.size w wr) ∧ Hid (∀ j x, j < k → l[j]? = some x → ItemOk x))
  case atStart => exact ⟨0, ⟨#[]⟩, show 0 + n = n by omega, rfl, rfl, Below.refl _ _, show ∀ _ _, _ from fun j x hj => by omega⟩
  case round =>
    obtain ⟨k, s, HG, rfl, rfl, HW, HB⟩ := hrel
    have hkn : k ≤ n := by have := HG.out; omega
    by_cases hlt : k < n
    · have HGK := Lib.hid (show k + 1 + (gk - 1) = n ∧ 0 < gk by have := HG.out; omega)
      obtain ⟨g, off, rfl, hg, hc⟩ := (ElemsAt.keep HH.out HW.out).item (by omega)
      have hkl : k < l.length := by have := HN.out; omega
      obtain ⟨x, hx⟩ : ∃ x, l[k]? = some x := ⟨_, List.getElem?_eq_getElem hkl⟩
      obtain ⟨c0, c1, c2, c3, c4, c5, c6⟩ := hc k x hx
      have hmem := List.mem_of_getElem? hx
      have HX := Lib.hid hx
      have hb1 : Below wr.heap.size wr (wr.alloc (.cells #[.string x.id, .string x.cu, .int .i64 x.kind, .string x.name, .int .i64 x.at_, .string x.par, .string x.text] 60)) := (Below.refl _ _).alloc (Nat.le_refl _) _
      have HI1 : Hid (ItemAt (wr.alloc (.cells #[.string x.id, .string x.cu, .int .i64 x.kind, .string x.name, .int .i64 x.at_, .string x.par, .string x.text] 60)) wr.heap.size x) := item_new wr x
      have HW1 := Lib.hid (HW.out.trans (hb1.mono HW.out.size))
      clear hc hx hkl HG hb1
      go_upto_region 7 with (fail)
      obtain ⟨P, hP⟩ : ∃ P, P = wr.heap.size := ⟨_, rfl⟩
      rw [← hP] at HI1 ⊢
      generalize wr.alloc (.cells #[.string x.id, .string x.cu, .int .i64 x.kind, .string x.name, .int .i64 x.at_, .string x.par, .string x.text] 60) = w1 at *
      have HIF := Lib.hid (itemFault_any x w1 (HS.out x hmem) (HTT.out w1 HW1.out).1 (HTT.out w1 HW1.out).2)
      clear hP c0 c1 c2 c3 c4 c5 c6 hmem
      obtain ⟨c0, c1, c2, c3, c4, c5, c6⟩ := HI1.out.c
      unfold Itm.v at HIF
      go_wp2_with fail
      refine HIF.out.mono ?_
      rintro e w2 ⟨z, rfl, hz, hb2⟩
      have HW2 := Lib.hid (HW1.out.trans (hb2.mono HW1.out.size))
      have HI2 := Lib.hid (HI1.out.keep hb2)
      clear c0 c1 c2 c3 c4 c5 c6 hb2 HIF
      by_cases hz0 : z ≠ 0
      · have HF := Lib.hid (HBAD.out z w2 hz0 HW2.out)
        have hz1 : (z == 0) = false := by simpa using hz0
        clear hz
        go_wp2_with fail
        go_ret
        exact HF.out
      · have hz0 : z = 0 := by omega
        have HOK := Lib.hid (hz.1 hz0)
        subst hz0
        have HB2 : Hid (∀ j y, j < k + 1 → l[j]? = some y → ItemOk y) := fun j y hj hy => by
          rcases Nat.lt_succ_iff_lt_or_eq.1 hj with h1 | h1
          · exact HB.out j y h1 hy
          · subst h1; have := HX.out; rw [hy] at this; cases this; exact HOK.out
        obtain ⟨c0, c1, c2, c3, c4, c5, c6⟩ := HI2.out.c
        have HF := Lib.hid (HBAD.out 7 w2 (by decide) HW2.out)
        clear hz HX HOK HB c1 c2 c3 c4 c5 c6
        generalize x.id = xid at *
        go_wp2_with fail
        · go_ret
          exact HF.out
        · go_roundg (gk - 1)
          case measure => exact Nat.sub_lt HGK.out.2 Nat.one_pos
          case rel => exact ⟨k + 1, xid, HGK.out.1, rfl, by go_num, HW2.out, HB2.out⟩
    · have hnk : ¬ (k : Int) < (n : Int) := by omega
      have HEACH : Hid (∀ x ∈ l, ItemOk x) := fun x hx => by
        obtain ⟨j, hj⟩ := List.getElem?_of_mem hx
        exact HB.out j x (by have := (List.getElem?_eq_some_iff.1 hj).1; have := HN.out; omega) hj
      obtain ⟨w0, rfl⟩ : ∃ w0, w0 = wr := ⟨_, rfl⟩
      obtain ⟨ko, rfl⟩ : ∃ ko, ko = k := ⟨_, rfl⟩
      have HW0 := Lib.hid HW.out
      clear HG HB HW
      go_wp2_with fail
      go_loopg [32] n (fun gk v wr => ∃ k : Nat, Hid (k + gk = n) ∧ v = .int .i64 (k : Int) ∧ Hid (Below w.heap.size w wr) ∧ Hid (∀ j x, j < k → l[j]? = some x → x.par.data.toList = [] ∨ (findI l x.par).isSome = true))
      case atStart => exact ⟨0, show 0 + n = n by omega, rfl, HW0.out, show ∀ _ _, _ from fun j x hj => by omega⟩
      case round =>
        obtain ⟨k, HG, rfl, HW, HB⟩ := hrel
        clear HW0 hnk hkn
        have hkn : k ≤ n := by have := HG.out; omega
        by_cases hlt : k < n
        · have HGK := Lib.hid (show k + 1 + (gk - 1) = n ∧ 0 < gk by have := HG.out; omega)
          obtain ⟨g, off, rfl, hg, hc⟩ := (ElemsAt.keep HH.out HW.out).item (by omega)
          have hkl : k < l.length := by have := HN.out; omega
          obtain ⟨x, hx⟩ : ∃ x, l[k]? = some x := ⟨_, List.getElem?_eq_getElem hkl⟩
          obtain ⟨c0, c1, c2, c3, c4, c5, c6⟩ := hc k x hx
          have HX := Lib.hid hx
          have hb1 : Below wr.heap.size wr (wr.alloc (.cells #[.string x.id, .string x.cu, .int .i64 x.kind, .string x.name, .int .i64 x.at_, .string x.par, .string x.text] 60)) := (Below.refl _ _).alloc (Nat.le_refl _) _
          have HI1 : Hid (ItemAt (wr.alloc (.cells #[.string x.id, .string x.cu, .int .i64 x.kind, .string x.name, .int .i64 x.at_, .string x.par, .string x.text] 60)) wr.heap.size x) := item_new wr x
          have HW1 := Lib.hid (HW.out.trans (hb1.mono HW.out.size))
          clear hc hx hkl HG hb1
          go_upto_region 17 with (fail)
          obtain ⟨P, hP⟩ : ∃ P, P = wr.heap.size := ⟨_, rfl⟩
          rw [← hP] at HI1 ⊢
          generalize wr.alloc (.cells #[.string x.id, .string x.cu, .int .i64 x.kind, .string x.name, .int .i64 x.at_, .string x.par, .string x.text] 60) = w1 at *
          have HPX := Lib.hid (HPL.out x.par w1 HW1.out)
          have HZC := Lib.hid (placeI_cases l x.par)
          have HNEXT : Hid (x.par.data.toList = [] ∨ (findI l x.par).isSome = true → ∀ j y, j < k + 1 → l[j]? = some y → y.par.data.toList = [] ∨ (findI l y.par).isSome = true) := fun h j y hj hy => by
            rcases Nat.lt_succ_iff_lt_or_eq.1 hj with h1 | h1
            · exact HB.out j y h1 hy
            · subst h1; have := HX.out; rw [hy] at this; cases this; exact h
          clear hP c0 c1 c2 c3 c4 c5 c6 HB HX
          obtain ⟨c0, c1, c2, c3, c4, c5, c6⟩ := HI1.out.c
          clear c0 c1 c2 c3 c4 c6
          by_cases hp : x.par.data.toList = []
          · have HB2 := Lib.hid (HNEXT.out (.inl hp))
            obtain ⟨q1, q2, q3⟩ := par_emptyL hp
            generalize placeI l x.par = z at *
            clear hp HZC
            go_wp2_with fail
            go_roundg (gk - 1)
            case measure => exact Nat.sub_lt HGK.out.2 Nat.one_pos
            case rel => exact ⟨k + 1, HGK.out.1, by go_num, HW1.out, HB2.out⟩
          · obtain ⟨q1, q2, q3⟩ := par_fullL hp
            generalize placeI l x.par = z at *
            go_wp2_with fail
            refine HPX.out.mono ?_
            rintro e w2 ⟨rfl, hb2⟩
            have HW2 := Lib.hid (HW1.out.trans (hb2.mono HW1.out.size))
            clear hb2 HPX c5
            rcases HZC.out with ⟨q, hq1, hq2⟩ | ⟨hq1, hq2⟩
            · have HB2 := Lib.hid (HNEXT.out (.inr (by rw [hq1]; rfl)))
              subst hq2
              have hq0 : ¬ (q : Int) < 0 := by omega
              clear hp HZC hq1
              go_wp2_with fail
              go_roundg (gk - 1)
              case measure => exact Nat.sub_lt HGK.out.2 Nat.one_pos
              case rel => exact ⟨k + 1, HGK.out.1, by go_num, HW2.out, HB2.out⟩
            · have HF := Lib.hid (HBAD.out 8 w2 (by decide) HW2.out)
              subst hq2
              clear hp HZC hq1
              go_wp2_with fail
              go_ret
              exact HF.out
        · have hnk : ¬ (k : Int) < (n : Int) := by omega
          have HPAR : Hid (∀ x ∈ l, x.par.data.toList = [] ∨ (findI l x.par).isSome = true) := fun x hx => by
            obtain ⟨j, hj⟩ := List.getElem?_of_mem hx
            exact HB.out j x (by have := (List.getElem?_eq_some_iff.1 hj).1; have := HN.out; omega) hj
          have HTR := Lib.hid (HTF.out wr HW.out)
          go_wp2_with fail
          refine HTR.out.mono ?_
          rintro e w2 ⟨z, rfl, hz, hb2⟩
          have HF : Hid (FaultTo w (ItemsOk l) (.returned (.int .i64 z)) w2) := ⟨z, rfl, fun e => ⟨HEACH.out, HPAR.out, hz e⟩, HW.out.trans (hb2.mono HW.out.size)⟩
          clear hz hb2 HTR
          go_wp2_with fail
          go_ret
          exact HF.out
end Go.Proofs.YtfijplllfdmcoaaGreatDoor
