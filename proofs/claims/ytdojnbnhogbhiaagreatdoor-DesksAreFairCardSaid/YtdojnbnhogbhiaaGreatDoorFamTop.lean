
/-
  intake.Check accepts right items.
  Contains of strings; two rows of the call's own that do not share a block.
  The tree of items under way: maps of rows of strings that do not share a block.
  newTree of right items: the items by their ids, the ids right below each one, the tops.
  (tree).below: an item and all below it, by their ids.
  Families by ids: all ids, each once; sorted they are the items' own order.
  Families as elements of a slice.
  Families of right items.
-/
import Derived.Test.YtdojnbnhogbhiaaGreatDoorPlaced
import Derived.Test.YtdojnbnhogbhiaaGreatDoorLay
import Derived.Deep.RegionHeld3
import Derived.Test.YtdojnbnhogbhiaaGreatDoorStrLib
import Derived.Sort.Walk0
import Derived.Test.YtdojnbnhogbhiaaGreatDoorIMap

namespace Go.Proofs.YtdojnbnhogbhiaaGreatDoor
open Go.RowKit Go.Maps

/-- Right items in the order of their ids. -/
structure SetR (l : List Itm) : Prop where
  set : SetI l
  rise : Rising (l.map fun x => x.id.data.toList)
theorem SetR.at_ {l : List Itm} (h : SetR l) {k : Nat} {x y : Itm} (h0 : 0 < k) (hx : l[k]? = some x) (hy : l[k - 1]? = some y) : (Op.bytesLess x.id.data.toList y.id.data.toList || x.id.data.toList == y.id.data.toList) = false := by
  have hk := (List.getElem?_eq_some_iff.1 hx).1
  have := h.rise.at_ h0 (by simpa using hk)
  simpa [List.getD_eq_getElem?_getD, hx, hy] using this
set_option maxHeartbeats 6400000 in
set_option maxRecDepth 100000 in
theorem check_ok (A : Option Addr) (n c : Nat) (l : List Itm) (w : World) (h : ItemsAt w A n c l) (hl : SetR l) (hT : Tabs w) (hM : MaxAt w) :
    Calls Tryz.prog 50 #[.slice A n c] w (OkPost w) := by
  have HN := Lib.hid h.1
  have HH := Lib.hid h
  have HL := Lib.hid hl
  have hn : n ≤ 2000 := by have := hl.set.few; have := h.1; omega
  have HTT : Hid (∀ w', Below w.heap.size w w' → Tabs w' ∧ MaxAt w') := fun w' hb => ⟨Tabs.below hT hb, MaxAt.below hM hb⟩
  have HBY := Lib.hid (fun wx (hb : Below w.heap.size w wx) => byId_any A n c l wx (h.keep hb) hl.set)
  have hni : ¬ (2000 : Int) < (n : Int) := by omega
  clear h hl hT hM
  go_enter Tryz.func50, Tryz.ntmps50
  go_wp2_with fail
  go_loopg [23] n (fun gk v wr => ∃ k : Nat, Hid (k + gk = n) ∧ v = .int .i64 (k : Int) ∧ Hid (Below w.heap.size w wr))
  case atStart => exact ⟨0, show 0 + n = n by omega, rfl, Below.refl _ _⟩
  case round =>
    obtain ⟨k, HK, rfl, HW⟩ := hrel
    have hkn : k ≤ n := by have := HK.out; omega
    by_cases hlt : k < n
    · have HGK := Lib.hid (show k + 1 + (gk - 1) = n ∧ 0 < gk by have := HK.out; omega)
      obtain ⟨g, off, rfl, hg, hc⟩ := (ElemsAt.keep HH.out HW.out).item (by omega)
      have hkl : k < l.length := by have := HN.out; omega
      obtain ⟨x, hx⟩ : ∃ x, l[k]? = some x := ⟨_, List.getElem?_eq_getElem hkl⟩
      obtain ⟨c0, c1, c2, c3, c4, c5, c6⟩ := hc k x hx
      have hmem := List.mem_of_getElem? hx
      have HX := Lib.hid hx
      have HC := Lib.hid hc
      have HGL := Lib.hid hg
      have hb1 : Below wr.heap.size wr (wr.alloc (.cells #[.string x.id, .string x.cu, .int .i64 x.kind, .string x.name, .int .i64 x.at_, .string x.par, .string x.text] 55)) := (Below.refl _ _).alloc (Nat.le_refl _) _
      have HI1 : Hid (ItemAt (wr.alloc (.cells #[.string x.id, .string x.cu, .int .i64 x.kind, .string x.name, .int .i64 x.at_, .string x.par, .string x.text] 55)) wr.heap.size x) := item_new wr x
      have HBE := Lib.hid hb1
      have HW1 := Lib.hid (HW.out.trans (hb1.mono HW.out.size))
      clear hc hx hkl HK hb1 hg
      go_upto_region 6 with (fail)
      obtain ⟨P, hP⟩ : ∃ P, P = wr.heap.size := ⟨_, rfl⟩
      rw [← hP] at HI1 ⊢
      generalize wr.alloc (.cells #[.string x.id, .string x.cu, .int .i64 x.kind, .string x.name, .int .i64 x.at_, .string x.par, .string x.text] 55) = w1 at *
      have HCI := Lib.hid (fun wx (hb : Below w1.heap.size w1 wx) => checkItem_ok x wx (HL.out.set.ok.each x hmem) (HTT.out wx (HW1.out.trans (hb.mono HW1.out.size))).1 (HTT.out wx (HW1.out.trans (hb.mono HW1.out.size))).2)
      clear hP c0 c1 c2 c3 c4 c5 c6 hmem
      obtain ⟨c0, c1, c2, c3, c4, c5, c6⟩ := HI1.out.c
      unfold Itm.v at HCI
      go_cut [5] (fun v wx => v = .int .i64 0 ∧ Below w1.heap.size w1 wx)
      case first =>
        by_cases h0 : k = 0
        · subst h0
          have HHELD : Hid (∀ w', Below w1.heap.size w1 w' → w'.cell? ⟨P, 0, none⟩ = some (.string x.id) ∧ w'.cell? ⟨P, 1, none⟩ = some (.string x.cu) ∧ w'.cell? ⟨P, 2, none⟩ = some (.int .i64 x.kind) ∧ w'.cell? ⟨P, 3, none⟩ = some (.string x.name) ∧ w'.cell? ⟨P, 4, none⟩ = some (.int .i64 x.at_) ∧ w'.cell? ⟨P, 5, none⟩ = some (.string x.par) ∧ w'.cell? ⟨P, 6, none⟩ = some (.string x.text) ∧ Below w1.heap.size w1 w') := fun w' hb => by
            obtain ⟨d0, d1, d2, d3, d4, d5, d6⟩ := (HI1.out.keep hb).c
            exact ⟨d0, d1, d2, d3, d4, d5, d6, hb⟩
          refine wp_region_held_drew (S := fun w' => w'.cell? ⟨P, 0, none⟩ = some (.string x.id) ∧ w'.cell? ⟨P, 1, none⟩ = some (.string x.cu) ∧ w'.cell? ⟨P, 2, none⟩ = some (.int .i64 x.kind) ∧ w'.cell? ⟨P, 3, none⟩ = some (.string x.name) ∧ w'.cell? ⟨P, 4, none⟩ = some (.int .i64 x.at_) ∧ w'.cell? ⟨P, 5, none⟩ = some (.string x.par) ∧ w'.cell? ⟨P, 6, none⟩ = some (.string x.text) ∧ Below w1.heap.size w1 w') (by kernel_rfl) (HHELD.out _ (Below.refl _ _).drew) (fun hHeld => ?_)
          refine wpAnyH_take (i := 0) (oi := ⟨some 28, _, _, _, _, _⟩) (v := .agg #[.string x.id, .string x.cu, .int .i64 x.kind, .string x.name, .int .i64 x.at_, .string x.par, .string x.text]) rfl (by kernel_rfl) (by kernel_rfl) (by kernel_rfl) (fun _ _ _ h => h) (Or.inl ⟨by rfl, ?_⟩) hHeld ?_
          · intro w hSw
            (try dsimp only at hSw)
            go_simp
          simp only [Act.put, List.setIfInBounds_toArray, List.set_cons_zero, List.set_cons_succ]
          refine wpAnyH_take (i := 2) (oi := ⟨some 30, _, _, _, _, _⟩) (v := .int .i64 0) rfl (by kernel_rfl) (by kernel_rfl) (by kernel_rfl) (fun _ _ _ h => h) (Or.inl ⟨by rfl, ?_⟩) hHeld ?_
          · intro w hSw
            (try dsimp only at hSw)
            go_simp
          simp only [Act.put, List.setIfInBounds_toArray, List.set_cons_zero, List.set_cons_succ]
          refine wpAnyH_take (i := 3) (oi := ⟨some 31, _, _, _, _, _⟩) (v := .bool false) rfl (by kernel_rfl) (by kernel_rfl) (by kernel_rfl) (fun _ _ _ h => h) (Or.inl ⟨by rfl, ?_⟩) hHeld ?_
          · intro w hSw
            (try dsimp only at hSw)
            go_simp
          simp only [Act.put, List.setIfInBounds_toArray, List.set_cons_zero, List.set_cons_succ]
          refine wpAnyH_ready (rs := [1]) (by kernel_rfl) (by simp) ?_
          refine AllReadyH.cons (o := ⟨some 29, _, _, _, _, _⟩) rfl (fun K hK => ?_) AllReadyH.nil
          rw [if_pos (by rfl)]
          go_wp2_with fail
          refine Calls.mono (HCI.out _ (Below.refl _ _).drew) ?_
          rintro e w6 ⟨rfl, hb6⟩
          have hx0 : Below w1.heap.size w1 w6 := by first | exact hb6 | exact belowUI hb6 | fail
          clear hHeld hb6
          refine hK.out _ _ (HHELD.out _ hx0) (fun hHeld => ?_)
          clear hK
          (try simp only [Act.put, List.setIfInBounds_toArray, List.set_cons_zero, List.set_cons_succ])
          refine wpAnyH_take (i := 4) (oi := ⟨some 32, _, _, _, _, _⟩) (v := .bool false) rfl (by kernel_rfl) (by kernel_rfl) (by kernel_rfl) (fun _ _ _ h => h) (Or.inl ⟨by rfl, ?_⟩) hHeld ?_
          · intro w hSw
            (try dsimp only at hSw)
            go_simp
          simp only [Act.put, List.setIfInBounds_toArray, List.set_cons_zero, List.set_cons_succ]
          refine wpAnyH_take (i := 5) (oi := ⟨some 33, _, _, _, _, _⟩) (v := undef) rfl (by kernel_rfl) (by kernel_rfl) (by kernel_rfl) (fun _ _ _ h => h) (Or.inr ⟨by rfl, rfl⟩) hHeld ?_
          simp only [Act.put, List.setIfInBounds_toArray, List.set_cons_zero, List.set_cons_succ]
          refine wpAnyH_take (i := 6) (oi := ⟨some 34, _, _, _, _, _⟩) (v := undef) rfl (by kernel_rfl) (by kernel_rfl) (by kernel_rfl) (fun _ _ _ h => h) (Or.inr ⟨by rfl, rfl⟩) hHeld ?_
          simp only [Act.put, List.setIfInBounds_toArray, List.set_cons_zero, List.set_cons_succ]
          refine wpAnyH_take (i := 7) (oi := ⟨some 35, _, _, _, _, _⟩) (v := undef) rfl (by kernel_rfl) (by kernel_rfl) (by kernel_rfl) (fun _ _ _ h => h) (Or.inr ⟨by rfl, rfl⟩) hHeld ?_
          simp only [Act.put, List.setIfInBounds_toArray, List.set_cons_zero, List.set_cons_succ]
          refine wpAnyH_take (i := 8) (oi := ⟨some 36, _, _, _, _, _⟩) (v := undef) rfl (by kernel_rfl) (by kernel_rfl) (by kernel_rfl) (fun _ _ _ h => h) (Or.inr ⟨by rfl, rfl⟩) hHeld ?_
          simp only [Act.put, List.setIfInBounds_toArray, List.set_cons_zero, List.set_cons_succ]
          refine wpAnyH_take (i := 9) (oi := ⟨some 37, _, _, _, _, _⟩) (v := undef) rfl (by kernel_rfl) (by kernel_rfl) (by kernel_rfl) (fun _ _ _ h => h) (Or.inr ⟨by rfl, rfl⟩) hHeld ?_
          simp only [Act.put, List.setIfInBounds_toArray, List.set_cons_zero, List.set_cons_succ]
          refine wpAnyH_take (i := 10) (oi := ⟨some 38, _, _, _, _, _⟩) (v := undef) rfl (by kernel_rfl) (by kernel_rfl) (by kernel_rfl) (fun _ _ _ h => h) (Or.inr ⟨by rfl, rfl⟩) hHeld ?_
          simp only [Act.put, List.setIfInBounds_toArray, List.set_cons_zero, List.set_cons_succ]
          refine wpAnyH_take (i := 11) (oi := ⟨some 39, _, _, _, _, _⟩) (v := undef) rfl (by kernel_rfl) (by kernel_rfl) (by kernel_rfl) (fun _ _ _ h => h) (Or.inr ⟨by rfl, rfl⟩) hHeld ?_
          simp only [Act.put, List.setIfInBounds_toArray, List.set_cons_zero, List.set_cons_succ]
          refine wpAnyH_take (i := 12) (oi := ⟨some 40, _, _, _, _, _⟩) (v := undef) rfl (by kernel_rfl) (by kernel_rfl) (by kernel_rfl) (fun _ _ _ h => h) (Or.inr ⟨by rfl, rfl⟩) hHeld ?_
          simp only [Act.put, List.setIfInBounds_toArray, List.set_cons_zero, List.set_cons_succ]
          refine wpAnyH_take (i := 13) (oi := ⟨some 41, _, _, _, _, _⟩) (v := undef) rfl (by kernel_rfl) (by kernel_rfl) (by kernel_rfl) (fun _ _ _ h => h) (Or.inr ⟨by rfl, rfl⟩) hHeld ?_
          simp only [Act.put, List.setIfInBounds_toArray, List.set_cons_zero, List.set_cons_succ]
          refine wpAnyH_take (i := 14) (oi := ⟨some 42, _, _, _, _, _⟩) (v := undef) rfl (by kernel_rfl) (by kernel_rfl) (by kernel_rfl) (fun _ _ _ h => h) (Or.inr ⟨by rfl, rfl⟩) hHeld ?_
          simp only [Act.put, List.setIfInBounds_toArray, List.set_cons_zero, List.set_cons_succ]
          refine wpAnyH_take (i := 15) (oi := ⟨some 43, _, _, _, _, _⟩) (v := .bool false) rfl (by kernel_rfl) (by kernel_rfl) (by kernel_rfl) (fun _ _ _ h => h) (Or.inl ⟨by rfl, ?_⟩) hHeld ?_
          · intro w hSw
            (try dsimp only at hSw)
            go_simp
          simp only [Act.put, List.setIfInBounds_toArray, List.set_cons_zero, List.set_cons_succ]
          refine wpAnyH_ready (rs := [16]) (by kernel_rfl) (by simp) ?_
          refine AllReadyH.cons (o := ⟨some 44, _, _, _, _, _⟩) rfl (fun K hK => ?_) AllReadyH.nil
          rw [if_pos (by rfl)]
          go_wp2_with fail
          refine Calls.mono (when_any false 7 _) ?_
          rintro e w7 ⟨rfl, hw7⟩
          subst hw7
          clear hHeld
          refine hK.out _ _ (HHELD.out _ hx0) (fun hHeld => ?_)
          clear hK
          (try simp only [Act.put, List.setIfInBounds_toArray, List.set_cons_zero, List.set_cons_succ])
          refine wpAnyH_ready (rs := [17]) (by kernel_rfl) (by simp) ?_
          refine AllReadyH.cons (o := ⟨some 45, _, _, _, _, _⟩) rfl (fun K hK => ?_) AllReadyH.nil
          rw [if_pos (by rfl)]
          go_wp2_with fail
          clear hHeld
          refine hK.out _ _ (HHELD.out _ (hx0.alloc hx0.size _)) (fun hHeld => ?_)
          clear hK
          (try simp only [Act.put, List.setIfInBounds_toArray, List.set_cons_zero, List.set_cons_succ])
          refine wpAnyH_ready (rs := [18]) (by kernel_rfl) (by simp) ?_
          refine AllReadyH.cons (o := ⟨some 46, _, _, _, _, _⟩) rfl (fun K hK => ?_) AllReadyH.nil
          rw [if_pos (by rfl)]
          go_wp2_with fail
          refine Calls.mono (first_2z _ _ rfl _) ?_
          rintro e w8 ⟨rfl, hw8⟩
          have hy0 : Below w1.heap.size w1 w8 := by rw [← hw8]; exact hx0.alloc hx0.size _
          clear hHeld hw8
          refine hK.out _ _ (HHELD.out _ hy0) (fun hHeld => ?_)
          clear hK
          (try simp only [Act.put, List.setIfInBounds_toArray, List.set_cons_zero, List.set_cons_succ])
          refine wpAnyH_take (i := 19) (oi := ⟨some 5, _, _, _, _, _⟩) (v := .int .i64 0) rfl (by kernel_rfl) (by kernel_rfl) (by kernel_rfl) (fun _ _ _ h => h) (Or.inl ⟨by rfl, ?_⟩) hHeld ?_
          · intro w hSw
            (try dsimp only at hSw)
            go_simp
          simp only [Act.put, List.setIfInBounds_toArray, List.set_cons_zero, List.set_cons_succ]
          refine wpAnyH_done (by kernel_rfl) ?_ _
          go_wp2_with fail
          go_meet
          exact ⟨rfl, hy0⟩
        · have hk0 : 0 < k := by omega
          obtain ⟨y, hy⟩ : ∃ y, l[k - 1]? = some y := ⟨_, List.getElem?_eq_getElem (by have := HN.out; omega)⟩
          have hle := HL.out.at_ hk0 HX.out hy
          have HY0 : Hid (∀ w', Below w1.heap.size w1 w' → w'.cell? ⟨g, off + (k - 1) * 7, none⟩ = some (.string y.id)) := fun w' hb => ((HBE.out.trans (hb.mono HBE.out.size)).cell (p := ⟨g, off + (k - 1) * 7, none⟩) HGL.out).trans (HC.out (k - 1) y hy).1
          have hki : (0 : Int) < (k : Int) := by omega
          have hmax : max (k : Int) 1 = (k : Int) := by omega
          have hle2 : (Op.bytesLess x.id.toList y.id.toList || x.id.toList == y.id.toList) = false := by rw [Lib.toList_data, Lib.toList_data]; exact hle
          have HHELD : Hid (∀ w', Below w1.heap.size w1 w' → w'.cell? ⟨P, 0, none⟩ = some (.string x.id) ∧ w'.cell? ⟨P, 1, none⟩ = some (.string x.cu) ∧ w'.cell? ⟨P, 2, none⟩ = some (.int .i64 x.kind) ∧ w'.cell? ⟨P, 3, none⟩ = some (.string x.name) ∧ w'.cell? ⟨P, 4, none⟩ = some (.int .i64 x.at_) ∧ w'.cell? ⟨P, 5, none⟩ = some (.string x.par) ∧ w'.cell? ⟨P, 6, none⟩ = some (.string x.text) ∧ w'.cell? ⟨g, off + (k - 1) * 7, none⟩ = some (.string y.id) ∧ Below w1.heap.size w1 w') := fun w' hb => by
            obtain ⟨d0, d1, d2, d3, d4, d5, d6⟩ := (HI1.out.keep hb).c
            exact ⟨d0, d1, d2, d3, d4, d5, d6, HY0.out w' hb, hb⟩
          have hy0' := HY0.out w1 (Below.refl _ _)
          have hkj0 : (0 : Int) ≤ (k : Int) - 1 := by omega
          have hkj1 : (k : Int) - 1 < (n : Int) := by omega
          clear hle HY0 hy
          generalize y.id = yid at *
          refine wp_region_held_drew (S := fun w' => w'.cell? ⟨P, 0, none⟩ = some (.string x.id) ∧ w'.cell? ⟨P, 1, none⟩ = some (.string x.cu) ∧ w'.cell? ⟨P, 2, none⟩ = some (.int .i64 x.kind) ∧ w'.cell? ⟨P, 3, none⟩ = some (.string x.name) ∧ w'.cell? ⟨P, 4, none⟩ = some (.int .i64 x.at_) ∧ w'.cell? ⟨P, 5, none⟩ = some (.string x.par) ∧ w'.cell? ⟨P, 6, none⟩ = some (.string x.text) ∧ w'.cell? ⟨g, off + (k - 1) * 7, none⟩ = some (.string yid) ∧ Below w1.heap.size w1 w') (by kernel_rfl) (HHELD.out _ (Below.refl _ _).drew) (fun hHeld => ?_)
          refine wpAnyH_take (i := 0) (oi := ⟨some 28, _, _, _, _, _⟩) (v := .agg #[.string x.id, .string x.cu, .int .i64 x.kind, .string x.name, .int .i64 x.at_, .string x.par, .string x.text]) rfl (by kernel_rfl) (by kernel_rfl) (by kernel_rfl) (fun _ _ _ h => h) (Or.inl ⟨by rfl, ?_⟩) hHeld ?_
          · intro w hSw
            (try dsimp only at hSw)
            go_simp
          simp only [Act.put, List.setIfInBounds_toArray, List.set_cons_zero, List.set_cons_succ]
          refine wpAnyH_take (i := 2) (oi := ⟨some 30, _, _, _, _, _⟩) (v := .int .i64 (k : Int)) rfl (by kernel_rfl) (by kernel_rfl) (by kernel_rfl) (fun _ _ _ h => h) (Or.inl ⟨by rfl, ?_⟩) hHeld ?_
          · intro w hSw
            (try dsimp only at hSw)
            go_simp
          simp only [Act.put, List.setIfInBounds_toArray, List.set_cons_zero, List.set_cons_succ]
          refine wpAnyH_take (i := 3) (oi := ⟨some 31, _, _, _, _, _⟩) (v := .bool true) rfl (by kernel_rfl) (by kernel_rfl) (by kernel_rfl) (fun _ _ _ h => h) (Or.inl ⟨by rfl, ?_⟩) hHeld ?_
          · intro w hSw
            (try dsimp only at hSw)
            go_simp
          simp only [Act.put, List.setIfInBounds_toArray, List.set_cons_zero, List.set_cons_succ]
          refine wpAnyH_ready (rs := [1]) (by kernel_rfl) (by simp) ?_
          refine AllReadyH.cons (o := ⟨some 29, _, _, _, _, _⟩) rfl (fun K hK => ?_) AllReadyH.nil
          rw [if_pos (by rfl)]
          go_wp2_with fail
          refine Calls.mono (HCI.out _ (Below.refl _ _).drew) ?_
          rintro e w6 ⟨rfl, hb6⟩
          have hx0 : Below w1.heap.size w1 w6 := by first | exact hb6 | exact belowUI hb6 | fail
          clear hHeld hb6
          refine hK.out _ _ (HHELD.out _ hx0) (fun hHeld => ?_)
          clear hK
          (try simp only [Act.put, List.setIfInBounds_toArray, List.set_cons_zero, List.set_cons_succ])
          refine wpAnyH_take (i := 4) (oi := ⟨some 32, _, _, _, _, _⟩) (v := .bool true) rfl (by kernel_rfl) (by kernel_rfl) (by kernel_rfl) (fun _ _ _ h => h) (Or.inl ⟨by rfl, ?_⟩) hHeld ?_
          · intro w hSw
            (try dsimp only at hSw)
            go_simp
          simp only [Act.put, List.setIfInBounds_toArray, List.set_cons_zero, List.set_cons_succ]
          refine wpAnyH_take (i := 5) (oi := ⟨some 33, _, _, _, _, _⟩) (v := .pointer (some ⟨P, 0, none⟩)) rfl (by kernel_rfl) (by kernel_rfl) (by kernel_rfl) (fun _ _ _ h => h) (Or.inl ⟨by rfl, ?_⟩) hHeld ?_
          · intro w hSw
            (try dsimp only at hSw)
            go_simp
          simp only [Act.put, List.setIfInBounds_toArray, List.set_cons_zero, List.set_cons_succ]
          refine wpAnyH_take (i := 6) (oi := ⟨some 34, _, _, _, _, _⟩) (v := .string x.id) rfl (by kernel_rfl) (by kernel_rfl) (by kernel_rfl) (fun _ _ _ h => h) (Or.inl ⟨by rfl, ?_⟩) hHeld ?_
          · intro w hSw
            (try dsimp only at hSw)
            go_simp
          simp only [Act.put, List.setIfInBounds_toArray, List.set_cons_zero, List.set_cons_succ]
          refine wpAnyH_take (i := 7) (oi := ⟨some 35, _, _, _, _, _⟩) (v := .slice (some ⟨g, off, none⟩) n c) rfl (by kernel_rfl) (by kernel_rfl) (by kernel_rfl) (fun _ _ _ h => h) (Or.inl ⟨by rfl, ?_⟩) hHeld ?_
          · intro w hSw
            (try dsimp only at hSw)
            go_simp
          simp only [Act.put, List.setIfInBounds_toArray, List.set_cons_zero, List.set_cons_succ]
          refine wpAnyH_take (i := 8) (oi := ⟨some 36, _, _, _, _, _⟩) (v := .int .i64 (k : Int)) rfl (by kernel_rfl) (by kernel_rfl) (by kernel_rfl) (fun _ _ _ h => h) (Or.inl ⟨by rfl, ?_⟩) hHeld ?_
          · intro w hSw
            (try dsimp only at hSw)
            go_simp
          simp only [Act.put, List.setIfInBounds_toArray, List.set_cons_zero, List.set_cons_succ]
          refine wpAnyH_take (i := 9) (oi := ⟨some 37, _, _, _, _, _⟩) (v := .int .i64 (k : Int)) rfl (by kernel_rfl) (by kernel_rfl) (by kernel_rfl) (fun _ _ _ h => h) (Or.inl ⟨by rfl, ?_⟩) hHeld ?_
          · intro w hSw
            (try dsimp only at hSw)
            go_simp
          simp only [Act.put, List.setIfInBounds_toArray, List.set_cons_zero, List.set_cons_succ]
          refine wpAnyH_take (i := 10) (oi := ⟨some 38, _, _, _, _, _⟩) (v := .int .i64 ((k : Int) - 1)) rfl (by kernel_rfl) (by kernel_rfl) (by kernel_rfl) (fun _ _ _ h => h) (Or.inl ⟨by rfl, ?_⟩) hHeld ?_
          · intro w hSw
            (try dsimp only at hSw)
            go_simp
            exact IntWalk.i64_in _ (by omega)
          simp only [Act.put, List.setIfInBounds_toArray, List.set_cons_zero, List.set_cons_succ]
          refine wpAnyH_take (i := 11) (oi := ⟨some 39, _, _, _, _, _⟩) (v := .pointer (some ⟨g, off + (k - 1) * 7, none⟩)) rfl (by kernel_rfl) (by kernel_rfl) (by kernel_rfl) (fun _ _ _ h => h) (Or.inl ⟨by rfl, ?_⟩) hHeld ?_
          · intro w hSw
            (try dsimp only at hSw)
            go_simp
            intro hcon
            exfalso
            omega
          simp only [Act.put, List.setIfInBounds_toArray, List.set_cons_zero, List.set_cons_succ]
          refine wpAnyH_take (i := 12) (oi := ⟨some 40, _, _, _, _, _⟩) (v := .pointer (some ⟨g, off + (k - 1) * 7, none⟩)) rfl (by kernel_rfl) (by kernel_rfl) (by kernel_rfl) (fun _ _ _ h => h) (Or.inl ⟨by rfl, ?_⟩) hHeld ?_
          · intro w hSw
            (try dsimp only at hSw)
            go_simp
          simp only [Act.put, List.setIfInBounds_toArray, List.set_cons_zero, List.set_cons_succ]
          refine wpAnyH_take (i := 13) (oi := ⟨some 41, _, _, _, _, _⟩) (v := .string yid) rfl (by kernel_rfl) (by kernel_rfl) (by kernel_rfl) (fun _ _ _ h => h) (Or.inl ⟨by rfl, ?_⟩) hHeld ?_
          · intro w hSw
            (try dsimp only at hSw)
            go_simp
          simp only [Act.put, List.setIfInBounds_toArray, List.set_cons_zero, List.set_cons_succ]
          refine wpAnyH_take (i := 14) (oi := ⟨some 42, _, _, _, _, _⟩) (v := .bool false) rfl (by kernel_rfl) (by kernel_rfl) (by kernel_rfl) (fun _ _ _ h => h) (Or.inl ⟨by rfl, ?_⟩) hHeld ?_
          · intro w hSw
            (try dsimp only at hSw)
            go_simp
          simp only [Act.put, List.setIfInBounds_toArray, List.set_cons_zero, List.set_cons_succ]
          refine wpAnyH_take (i := 15) (oi := ⟨some 43, _, _, _, _, _⟩) (v := .bool false) rfl (by kernel_rfl) (by kernel_rfl) (by kernel_rfl) (fun _ _ _ h => h) (Or.inl ⟨by rfl, ?_⟩) hHeld ?_
          · intro w hSw
            (try dsimp only at hSw)
            go_simp
          simp only [Act.put, List.setIfInBounds_toArray, List.set_cons_zero, List.set_cons_succ]
          refine wpAnyH_ready (rs := [16]) (by kernel_rfl) (by simp) ?_
          refine AllReadyH.cons (o := ⟨some 44, _, _, _, _, _⟩) rfl (fun K hK => ?_) AllReadyH.nil
          rw [if_pos (by rfl)]
          go_wp2_with fail
          refine Calls.mono (when_any false 7 _) ?_
          rintro e w7 ⟨rfl, hw7⟩
          subst hw7
          clear hHeld
          refine hK.out _ _ (HHELD.out _ hx0) (fun hHeld => ?_)
          clear hK
          (try simp only [Act.put, List.setIfInBounds_toArray, List.set_cons_zero, List.set_cons_succ])
          refine wpAnyH_ready (rs := [17]) (by kernel_rfl) (by simp) ?_
          refine AllReadyH.cons (o := ⟨some 45, _, _, _, _, _⟩) rfl (fun K hK => ?_) AllReadyH.nil
          rw [if_pos (by rfl)]
          go_wp2_with fail
          clear hHeld
          refine hK.out _ _ (HHELD.out _ (hx0.alloc hx0.size _)) (fun hHeld => ?_)
          clear hK
          (try simp only [Act.put, List.setIfInBounds_toArray, List.set_cons_zero, List.set_cons_succ])
          refine wpAnyH_ready (rs := [18]) (by kernel_rfl) (by simp) ?_
          refine AllReadyH.cons (o := ⟨some 46, _, _, _, _, _⟩) rfl (fun K hK => ?_) AllReadyH.nil
          rw [if_pos (by rfl)]
          go_wp2_with fail
          refine Calls.mono (first_2z _ _ rfl _) ?_
          rintro e w8 ⟨rfl, hw8⟩
          have hy0 : Below w1.heap.size w1 w8 := by rw [← hw8]; exact hx0.alloc hx0.size _
          clear hHeld hw8
          refine hK.out _ _ (HHELD.out _ hy0) (fun hHeld => ?_)
          clear hK
          (try simp only [Act.put, List.setIfInBounds_toArray, List.set_cons_zero, List.set_cons_succ])
          refine wpAnyH_take (i := 19) (oi := ⟨some 5, _, _, _, _, _⟩) (v := .int .i64 0) rfl (by kernel_rfl) (by kernel_rfl) (by kernel_rfl) (fun _ _ _ h => h) (Or.inl ⟨by rfl, ?_⟩) hHeld ?_
          · intro w hSw
            (try dsimp only at hSw)
            go_simp
          simp only [Act.put, List.setIfInBounds_toArray, List.set_cons_zero, List.set_cons_succ]
          refine wpAnyH_done (by kernel_rfl) ?_ _
          go_wp2_with fail
          go_meet
          exact ⟨rfl, hy0⟩
      case rest =>
        obtain ⟨rfl, hbc⟩ := hcut
        have HW2 := Lib.hid (HW1.out.trans (hbc.mono HW1.out.size))
        clear hbc c0 c1 c2 c3 c4 c5 c6 HCI
        go_wp2_with fail
        go_roundg (gk - 1)
        case measure => exact Nat.sub_lt HGK.out.2 Nat.one_pos
        case rel => exact ⟨k + 1, HGK.out.1, by go_num, HW2.out⟩
    · have hnk : ¬ (k : Int) < (n : Int) := by omega
      have HB0 := Lib.hid (HBY.out wr HW.out)
      have HW0 := Lib.hid HW.out
      clear HK HW hkn hlt HBY
      obtain ⟨ko, rfl⟩ : ∃ ko : Nat, ko = k := ⟨_, rfl⟩
      go_wp2_with fail
      refine HB0.out.mono ?_
      rintro e w0 ⟨M, rfl, -, hm0, hb0⟩
      have HWE := Lib.hid (HW0.out.trans (hb0.mono HW0.out.size))
      have HME := Lib.hid hm0
      clear hb0 hm0 HB0 HW0 hnk
      go_wp2_with fail
      go_loopg [55] n (fun gk v wr => ∃ k : Nat, Hid (k + gk = n) ∧ v = .int .i64 (k : Int) ∧ Hid (Below w.heap.size w wr) ∧ Hid (IMapAt wr M l))
      case atStart => exact ⟨0, show 0 + n = n by omega, rfl, HWE.out, HME.out⟩
      case round =>
        clear HWE HME
        obtain ⟨k, HK, rfl, HW, HMP⟩ := hrel
        have hkn : k ≤ n := by have := HK.out; omega
        by_cases hlt : k < n
        · have HGK := Lib.hid (show k + 1 + (gk - 1) = n ∧ 0 < gk by have := HK.out; omega)
          obtain ⟨g, off, rfl, hg, hc⟩ := (ElemsAt.keep HH.out HW.out).item (by omega)
          have hkl : k < l.length := by have := HN.out; omega
          obtain ⟨x, hx⟩ : ∃ x, l[k]? = some x := ⟨_, List.getElem?_eq_getElem hkl⟩
          obtain ⟨c0, c1, c2, c3, c4, c5, c6⟩ := hc k x hx
          have hmem := List.mem_of_getElem? hx
          have HX := Lib.hid hx
          have hb1 : Below wr.heap.size wr (wr.alloc (.cells #[.string x.id, .string x.cu, .int .i64 x.kind, .string x.name, .int .i64 x.at_, .string x.par, .string x.text] 55)) := (Below.refl _ _).alloc (Nat.le_refl _) _
          have HI1 : Hid (ItemAt (wr.alloc (.cells #[.string x.id, .string x.cu, .int .i64 x.kind, .string x.name, .int .i64 x.at_, .string x.par, .string x.text] 55)) wr.heap.size x) := item_new wr x
          have HW1 := Lib.hid (HW.out.trans (hb1.mono HW.out.size))
          have HM1 := Lib.hid (HMP.out.below hb1)
          clear hc hx hkl HK hb1 hg HMP HW
          go_upto_region 14 with (fail)
          obtain ⟨P, hP⟩ : ∃ P, P = wr.heap.size := ⟨_, rfl⟩
          rw [← hP] at HI1 ⊢
          generalize wr.alloc (.cells #[.string x.id, .string x.cu, .int .i64 x.kind, .string x.name, .int .i64 x.at_, .string x.par, .string x.text] 55) = w1 at *
          clear hP c0 c1 c2 c3 c4 c5 c6
          obtain ⟨c0, c1, c2, c3, c4, c5, c6⟩ := HI1.out.c
          have hps := ((HL.out.set.ok.each x hmem).small).2.2.2.1
          by_cases hp : x.par.data.toList = []
          · have hlk := HM1.out.miss hps (HL.out.set.findEmpty hp)
            have hb2 : Below w1.heap.size w1 (w1.alloc (.cells #[.string ⟨#[]⟩, .string ⟨#[]⟩, .int .i64 0, .string ⟨#[]⟩, .int .i64 0, .string ⟨#[]⟩, .string ⟨#[]⟩] 55)) := (Below.refl _ _).alloc (Nat.le_refl _) _
            have HW2 := Lib.hid (HW1.out.trans (hb2.mono HW1.out.size))
            have HM2 := Lib.hid (HM1.out.below hb2)
            have HI2 := Lib.hid (HI1.out.keep hb2)
            obtain ⟨q1, q2, q3⟩ := par_emptyL hp
            clear hp hmem hps hb2
            go_upto_region 15 with (fail)
            generalize w1.alloc (.cells #[.string ⟨#[]⟩, .string ⟨#[]⟩, .int .i64 0, .string ⟨#[]⟩, .int .i64 0, .string ⟨#[]⟩, .string ⟨#[]⟩] 55) = w2 at *
            clear hlk c0 c1 c2 c3 c4 c5 c6
            obtain ⟨c0, c1, c2, c3, c4, c5, c6⟩ := HI2.out.c
            go_wp2_with fail
            go_roundg (gk - 1)
            case measure => exact Nat.sub_lt HGK.out.2 Nat.one_pos
            case rel => exact ⟨k + 1, HGK.out.1, by go_num, HW2.out, HM2.out⟩
          · obtain ⟨q, hq⟩ : ∃ q, findI l x.par = some q := by
              rcases HL.out.set.ok.par x hmem with h | h
              · exact absurd h hp
              · exact Option.isSome_iff_exists.1 h
            obtain ⟨z, hz, -, -⟩ := findI_some hq
            have hlk := HM1.out.hit hps hq hz
            have hb2 : Below w1.heap.size w1 (w1.alloc (.cells #[.string z.id, .string z.cu, .int .i64 z.kind, .string z.name, .int .i64 z.at_, .string z.par, .string z.text] 55)) := (Below.refl _ _).alloc (Nat.le_refl _) _
            have HW2 := Lib.hid (HW1.out.trans (hb2.mono HW1.out.size))
            have HM2 := Lib.hid (HM1.out.below hb2)
            have HI2 := Lib.hid (HI1.out.keep hb2)
            obtain ⟨q1, q2, q3⟩ := par_fullL hp
            clear hp hmem hps hq hz hb2
            go_upto_region 15 with (fail)
            generalize w1.alloc (.cells #[.string z.id, .string z.cu, .int .i64 z.kind, .string z.name, .int .i64 z.at_, .string z.par, .string z.text] 55) = w2 at *
            clear hlk c0 c1 c2 c3 c4 c5 c6
            obtain ⟨c0, c1, c2, c3, c4, c5, c6⟩ := HI2.out.c
            go_wp2_with fail
            go_roundg (gk - 1)
            case measure => exact Nat.sub_lt HGK.out.2 Nat.one_pos
            case rel => exact ⟨k + 1, HGK.out.1, by go_num, HW2.out, HM2.out⟩
        · have hnk : ¬ (k : Int) < (n : Int) := by omega
          have HWE := Lib.hid HW.out
          have HME := Lib.hid HMP.out
          clear HK HW HMP hkn
          obtain ⟨ko, rfl⟩ : ∃ ko : Nat, ko = k := ⟨_, rfl⟩
          go_wp2_with fail
          go_loopg [76] n (fun gk v wr => ∃ k : Nat, Hid (k + gk = n) ∧ v = .int .i64 (k : Int) ∧ Hid (Below w.heap.size w wr) ∧ Hid (IMapAt wr M l))
          case atStart => exact ⟨0, show 0 + n = n by omega, rfl, HWE.out, HME.out⟩
          case round =>
            clear HWE HME hnk hlt
            obtain ⟨k, HK, rfl, HW, HMP⟩ := hrel
            have hkn : k ≤ n := by have := HK.out; omega
            by_cases hlt : k < n
            · have HGK := Lib.hid (show k + 1 + (gk - 1) = n ∧ 0 < gk by have := HK.out; omega)
              obtain ⟨g, off, rfl, hg, hc⟩ := (ElemsAt.keep HH.out HW.out).item (by omega)
              have hkl : k < l.length := by have := HN.out; omega
              obtain ⟨x, hx⟩ : ∃ x, l[k]? = some x := ⟨_, List.getElem?_eq_getElem hkl⟩
              obtain ⟨c0, c1, c2, c3, c4, c5, c6⟩ := hc k x hx
              have hmem := List.mem_of_getElem? hx
              have HX := Lib.hid hx
              have hb1 : Below wr.heap.size wr (wr.alloc (.cells #[.string x.id, .string x.cu, .int .i64 x.kind, .string x.name, .int .i64 x.at_, .string x.par, .string x.text] 55)) := (Below.refl _ _).alloc (Nat.le_refl _) _
              have HI1 : Hid (ItemAt (wr.alloc (.cells #[.string x.id, .string x.cu, .int .i64 x.kind, .string x.name, .int .i64 x.at_, .string x.par, .string x.text] 55)) wr.heap.size x) := item_new wr x
              have HW1 := Lib.hid (HW.out.trans (hb1.mono HW.out.size))
              have HM1 := Lib.hid (HMP.out.below hb1)
              clear hc hx hkl HK hb1 hg HMP HW
              go_upto_region 21 with (fail)
              obtain ⟨P, hP⟩ : ∃ P, P = wr.heap.size := ⟨_, rfl⟩
              rw [← hP] at HI1 ⊢
              generalize wr.alloc (.cells #[.string x.id, .string x.cu, .int .i64 x.kind, .string x.name, .int .i64 x.at_, .string x.par, .string x.text] 55) = w1 at *
              clear hP c0 c1 c2 c3 c4 c5 c6
              obtain ⟨c0, c1, c2, c3, c4, c5, c6⟩ := HI1.out.c
              have HAB := Lib.hid (aboveP_any M k x l w1 HM1.out HL.out.set HX.out)
              unfold Itm.v at HAB
              clear hmem
              go_wp2_with fail
              refine HAB.out.mono ?_
              rintro e w2 ⟨rfl, hb2⟩
              have HW2 := Lib.hid (HW1.out.trans (hb2.mono HW1.out.size))
              have HM2 := Lib.hid (HM1.out.below hb2)
              clear hb2 HAB c0 c1 c2 c3 c4 c5 c6
              generalize (chainI l (l.length + 1) k).length = len at *
              go_wp2_with fail
              go_roundg (gk - 1)
              case measure => exact Nat.sub_lt HGK.out.2 Nat.one_pos
              case rel => exact ⟨k + 1, HGK.out.1, by go_num, HW2.out, HM2.out⟩
            · have hnk : ¬ (k : Int) < (n : Int) := by omega
              have HWE := Lib.hid HW.out
              have HME := Lib.hid HMP.out
              clear HK HW HMP hkn
              obtain ⟨ko, rfl⟩ : ∃ ko : Nat, ko = k := ⟨_, rfl⟩
              go_wp2_with fail
              go_loopg [90] n (fun gk v wr => ∃ k : Nat, Hid (k + gk = n) ∧ v = .int .i64 (k : Int) ∧ Hid (Below w.heap.size w wr) ∧ Hid (IMapAt wr M l))
              case atStart => exact ⟨0, show 0 + n = n by omega, rfl, HWE.out, HME.out⟩
              case round =>
                clear HWE HME hnk hlt
                obtain ⟨k, HK, rfl, HW, HMP⟩ := hrel
                have hkn : k ≤ n := by have := HK.out; omega
                by_cases hlt : k < n
                · have HGK := Lib.hid (show k + 1 + (gk - 1) = n ∧ 0 < gk by have := HK.out; omega)
                  obtain ⟨g, off, rfl, hg, hc⟩ := (ElemsAt.keep HH.out HW.out).item (by omega)
                  have hkl : k < l.length := by have := HN.out; omega
                  obtain ⟨x, hx⟩ : ∃ x, l[k]? = some x := ⟨_, List.getElem?_eq_getElem hkl⟩
                  obtain ⟨c0, c1, c2, c3, c4, c5, c6⟩ := hc k x hx
                  have hmem := List.mem_of_getElem? hx
                  have HX := Lib.hid hx
                  have hb1 : Below wr.heap.size wr (wr.alloc (.cells #[.string x.id, .string x.cu, .int .i64 x.kind, .string x.name, .int .i64 x.at_, .string x.par, .string x.text] 55)) := (Below.refl _ _).alloc (Nat.le_refl _) _
                  have HI1 : Hid (ItemAt (wr.alloc (.cells #[.string x.id, .string x.cu, .int .i64 x.kind, .string x.name, .int .i64 x.at_, .string x.par, .string x.text] 55)) wr.heap.size x) := item_new wr x
                  have HW1 := Lib.hid (HW.out.trans (hb1.mono HW.out.size))
                  have HM1 := Lib.hid (HMP.out.below hb1)
                  clear hc hx hkl HK hb1 hg HMP HW
                  go_upto_region 28 with (fail)
                  obtain ⟨P, hP⟩ : ∃ P, P = wr.heap.size := ⟨_, rfl⟩
                  rw [← hP] at HI1 ⊢
                  generalize wr.alloc (.cells #[.string x.id, .string x.cu, .int .i64 x.kind, .string x.name, .int .i64 x.at_, .string x.par, .string x.text] 55) = w1 at *
                  clear hP c0 c1 c2 c3 c4 c5 c6
                  obtain ⟨c0, c1, c2, c3, c4, c5, c6⟩ := HI1.out.c
                  have HPL := Lib.hid (placed_ok M k x l w1 HM1.out HL.out.set HX.out)
                  unfold Itm.v at HPL
                  clear hmem
                  go_wp2_with fail
                  refine HPL.out.mono ?_
                  rintro e w2 ⟨rfl, hb2⟩
                  have HW2 := Lib.hid (HW1.out.trans (hb2.mono HW1.out.size))
                  have HM2 := Lib.hid (HM1.out.below hb2)
                  clear hb2 HPL c0 c1 c2 c3 c4 c5 c6
                  go_wp2_with fail
                  go_roundg (gk - 1)
                  case measure => exact Nat.sub_lt HGK.out.2 Nat.one_pos
                  case rel => exact ⟨k + 1, HGK.out.1, by go_num, HW2.out, HM2.out⟩
                · have hnk : ¬ (k : Int) < (n : Int) := by omega
                  go_wp2_with fail
                  go_ret
                  exact ⟨rfl, HW.out⟩
end Go.Proofs.YtdojnbnhogbhiaaGreatDoor

namespace Go.Proofs.YtdojnbnhogbhiaaGreatDoor
open Go.RowKit

abbrev Str : Type := List UInt8
theorem idxS_neg (x : Str) : ∀ (l : List Str) (i : Nat), decide (0 ≤ Lib.idxFromS (l.map bag) (bag x) i) = l.contains x
  | [], i => by simp [Lib.idxFromS]
  | y :: l, i => by
    by_cases h : y = x
    · subst h
      simp [Lib.idxFromS]
    · have h' : ¬ bag y = bag x := fun e => h (bag_inj.1 e)
      have ih := idxS_neg x l (i + 1)
      have h'' : ¬ x = y := fun e => h e.symm
      simp only [List.map_cons, Lib.idxFromS, h', if_false]
      rw [ih]
      simp [h'']
theorem containsS_bag (x : Str) (l : List Str) : Lib.containsS (l.map bag) (bag x) = l.contains x := by
  have := idxS_neg x l 0
  unfold Lib.containsS
  first | exact this | (unfold Lib.idxOfS; exact this) | (rw [← this]; simp [Lib.idxOfS])
theorem containsS_any (A : Option Addr) (n c : Nat) (l : List Str) (x : Str) (w : World) (h : StrsAt w A n c l) (hn : n ≤ 100000) :
    Calls Tryz.prog 25 #[.slice A n c, .string (bag x)] w fun e w' => e = .returned (.bool (l.contains x)) ∧ w' = w := by
  have hl := h.1
  rcases Nat.eq_zero_or_pos n with h0 | h0
  · subst h0
    have e1 : l = [] := List.eq_nil_of_length_eq_zero hl.symm
    subst e1
    exact Tryz.slices_Contains_string_empty A c (bag x) w
  · obtain ⟨g1, o1, rfl, _, _⟩ := h.str h0
    refine (Tryz.slices_Contains_string g1 o1 n c (l.map bag) (bag x) w (by simp; omega) (by omega) h.bags).mono ?_
    rintro e w' ⟨rfl, rfl⟩
    refine ⟨ret_bool ?_, rfl⟩
    rw [List.take_of_length_le (by simp; omega)]
    exact containsS_bag x l
section
variable {α : Type} {E : Elem α}
/-- Two rows of the call's own that do not share a block. -/
def ApartV (v u : Value) : Prop := ∀ i, v.ownBlock = some i → u.ownBlock ≠ some i
theorem ApartV.symm {v u : Value} (h : ApartV v u) : ApartV u v := fun i e1 e2 => h i e2 e1
theorem apart_nil (u : Value) : ApartV (.slice none 0 0) u := fun i e => by cases e
theorem ApartV.grow {w : World} {base : Nat} {v v' u : Value} {Y : List α} {o : Obj} (h : ApartV v u) (hu : Owns E w base u Y) (hv : v'.ownBlock = v.ownBlock ∨ v'.ownBlock = some (w.alloc o).heap.size) : ApartV v' u := by
  intro i e1 e2
  rcases hv with hv | hv
  · exact h i (hv ▸ e1) e2
  · rw [hv] at e1
    have e3 := Option.some.inj e1
    have := (hu.lt i e2).2
    simp at e3
    omega
theorem Owns.apart {w w' : World} {base : Nat} {v u : Value} {Y : List α} {o : Obj} (h : ApartV v u) (hu : Owns E w base u Y) (hg : (w.alloc o).grownBy w' v.ownBlock) : Owns E w' base u Y := by
  refine World.ownsRow.kept (World.ownsRow.alloc hu o) hg ?_
  cases e : u.ownBlock with
  | none => exact .inl rfl
  | some i => exact .inr (fun e2 => h i e2.symm e)
end
theorem Owns.lit {α : Type} {E : Elem α} (hE : E.Ok) (w : World) (base : Nat) (l : List α) (hb : base ≤ w.heap.size) (hl : l.length ≤ 1000) : Owns E (w.alloc (.cells (E.cells l).toArray E.t)) base (.slice (some ⟨w.heap.size, 0, none⟩) l.length l.length) l := by
  refine ⟨Elem.cells_length hE l, .inr ⟨w.heap.size, l.length, (E.cells l).toArray, rfl, hb, heap_alloc_new _ _, Nat.le_refl _, by unfold maxLen; omega, by simp [Elem.cells_length hE], ?_⟩⟩
  rw [List.take_of_length_le]
  rw [List.toList_toArray, Elem.cells_length hE]
  exact Nat.le_refl _
theorem alloc_strs (w : World) (l : List (List UInt8)) (t : TypeId) : StrsAt (w.alloc (.cells (l.map fun x => Value.string ⟨x.toArray⟩).toArray t)) (some ⟨w.heap.size, 0, none⟩) l.length l.length l := by
  refine ⟨rfl, Nat.le_refl _, (fun e => by cases e), fun _ => ⟨w.heap.size, 0, rfl, by simp, fun k x i v hk hv => ?_⟩⟩
  have hi : i = 0 := by have := (List.getElem?_eq_some_iff.1 hv).1; simp [StrE] at this; exact this
  subst hi
  simp [StrE] at hv
  subst hv
  rw [World.cell?_alloc_at _ _ _ _ rfl]
  simp [StrE, hk]
theorem bags_data (l : List (List UInt8)) : (l.map bag).map (·.data.toList) = l := by
  rw [List.map_map]
  have : ((fun b : ByteArray => b.data.toList) ∘ bag) = id := by funext x; exact bag_data x
  rw [this, List.map_id]
end Go.Proofs.YtdojnbnhogbhiaaGreatDoor

namespace Go.Proofs.YtdojnbnhogbhiaaGreatDoor
open Go.RowKit Go.Maps

/-- 'm[k] = v' as one step of a region that draws. -/
theorem step_mapUpdate_own {H : Type} {P : Program} (w : World) {ops : Array Oper} {o : Oper} {a : Act} {Kc : Act → World → Prop} {Q : Exit → Act → World → Prop} {X : Prop}
    (hg : o.guard = none) (m x v : Operand) (t : TypeId) (hop : o.op = Op.mapUpdate t m x v)
    (k e : TypeId) (K : Keyed P k) (ht : P.underlying t = some (.map k e)) (R : Value → Option (DataW H × List MemPlace)) (b n : Nat) (D : DataW H)
    (hm : a.eval m = .map (some b)) (hown : w.ownsMap P k R b n D) (hn : n < maxLen) (key val : Value) (kl : Lit) (hx : a.eval x = key) (hv : a.eval v = val) (hkey : keyOf P k key = some kl)
    (d : DataW H) (ps : List MemPlace) (hval : R val = some (d, ps))
    (hK : ∀ w', w'.ownsMap P k R b (n + 1) (D.put kl d) → w.grownBy w' (some b) → Kc (a.put o.dst undef) w') :
    if Region.wanted o (yielded ops a.tmps) = true then Oper.wp P o a w Kc Q else X := by
  have hw : Region.wanted o (yielded ops a.tmps) = true := by simp [Region.wanted, hg]
  rw [if_pos hw]
  obtain ⟨w', hrun, r1, r2⟩ := hown.update K ht hn hkey hval
  unfold Oper.wp
  simp [execOp, hop, hm, hx, hv, hrun, Result.andThen]
  exact hK w' r1 r2
theorem own_ne_map {w : World} {base M m : Nat} {v : Value} {l : List Str} {D : DataW Value} (h : OwnStrs w base v l) (hm : w.ownsMap Tryz.prog 9 heldE M m D) : v.ownBlock ≠ some M := by
  obtain ⟨es, cl, hb, _⟩ := hm
  intro e
  rcases h.2 with ⟨rfl, _⟩ | ⟨g, cap, cur, rfl, _, hh, _⟩
  · cases e
  · have e2 : g = M := Option.some.inj e
    subst e2
    rw [hb] at hh
    cases hh
theorem own_map {w w' : World} {base M m : Nat} {v : Value} {l : List Str} {D : DataW Value} (h : OwnStrs w base v l) (hm : w.ownsMap Tryz.prog 9 heldE M m D) (hg : w.grownBy w' (some M)) : OwnStrs w' base v l := by
  refine World.ownsRow.kept h hg ?_
  cases e : v.ownBlock with
  | none => exact .inl rfl
  | some i => exact .inr (fun e2 => own_ne_map h hm (by rw [e, e2]))
structure TreeAt (w : World) (base M m : Nat) (D : DataW Value) (hd : Str → Value) (kid : Str → List Str) (tv : Value) (tl : List Str) : Prop where
  map : w.ownsMap Tryz.prog 9 heldE M m D
  at_ : ∀ id, D.atKey (.string id) (.held (.slice none 0 0)) = .held (hd id)
  row : ∀ id, OwnStrs w base (hd id) (kid id)
  apart : ∀ id id', id ≠ id' → ApartV (hd id) (hd id')
  tops : OwnStrs w base tv tl
  topa : ∀ id, ApartV tv (hd id)
theorem TreeAt.keep {w w' : World} {base M m : Nat} {D : DataW Value} {hd : Str → Value} {kid : Str → List Str} {tv : Value} {tl : List Str} (h : TreeAt w base M m D hd kid tv tl) (hb : Below w.heap.size w w') : TreeAt w' base M m D hd kid tv tl :=
  ⟨h.map.kept (below_grown hb none) (by simp), h.at_, fun id => (h.row id).below_ hb, h.apart, h.tops.below_ hb, h.topa⟩
theorem TreeAt.look {w : World} {base M m : Nat} {D : DataW Value} {hd : Str → Value} {kid : Str → List Str} {tv : Value} {tl : List Str} (h : TreeAt w base M m D hd kid tv tl) (id : ByteArray) (hid : id.size ≤ 1000000) :
    (Instr.lookup 100 (.map (some M)) (.string id) false).run Tryz.prog w = .ok (hd id.data.toList) w := by
  obtain ⟨v, ps, hrun, hv⟩ := h.map.lookup keyS Tryz.underlying100 (z := .slice none 0 0) (by kernel_rfl) (zd := .held (.slice none 0 0)) (zp := []) rfl (keyS_mk id hid)
  rw [h.at_] at hv
  simp only [heldE, Option.some.injEq, Prod.mk.injEq, DataW.held.injEq] at hv
  rw [hv.1] at hrun
  exact hrun
theorem TreeAt.mapAfter {w w5 : World} {base M m : Nat} {D : DataW Value} {hd : Str → Value} {kid : Str → List Str} {tv : Value} {tl : List Str} {o : Obj} (h : TreeAt w base M m D hd kid tv tl) (p : Str) (hg : (w.alloc o).grownBy w5 (hd p).ownBlock) : w5.ownsMap Tryz.prog 9 heldE M m D :=
  (h.map.alloc o).kept hg (fun e => own_ne_map (h.row p) h.map e.symm)
theorem TreeAt.putKid {w w5 w6 : World} {base M m : Nat} {D : DataW Value} {hd : Str → Value} {kid : Str → List Str} {tv : Value} {tl : List Str} {o : Obj} (h : TreeAt w base M m D hd kid tv tl) (p : Str) (x : Str) (v5 : Value)
    (hown5 : OwnStrs w5 base v5 (kid p ++ [x])) (hg : (w.alloc o).grownBy w5 (hd p).ownBlock) (hv : v5.ownBlock = (hd p).ownBlock ∨ v5.ownBlock = some (w.alloc o).heap.size)
    (hm : w6.ownsMap Tryz.prog 9 heldE M (m + 1) (D.put (.string p) (.held v5))) (hg6 : w5.grownBy w6 (some M)) :
    TreeAt w6 base M (m + 1) (D.put (.string p) (.held v5)) (fun id => if id = p then v5 else hd id) (fun id => if id = p then kid p ++ [x] else kid id) tv tl := by
  have hm5 := h.mapAfter p hg
  have hrow : ∀ id, id ≠ p → OwnStrs w6 base (hd id) (kid id) := fun id hne => own_map (Owns.apart (h.apart p id (Ne.symm hne)) (h.row id) hg) hm5 hg6
  refine ⟨hm, fun id => ?_, fun id => ?_, fun id id' hne => ?_, ?_, fun id => ?_⟩
  · by_cases e : id = p
    · subst e
      rw [atKey_put_same h.map.isMap (str_key _)]
      simp
    · rw [atKey_put_other (str_neI e), h.at_]
      simp [e]
  · by_cases e : id = p
    · simp only [e, if_true]
      exact own_map hown5 hm5 hg6
    · simp only [e, if_false]
      exact hrow id e
  · by_cases e : id = p
    · by_cases e' : id' = p
      · exact absurd (e.trans e'.symm) hne
      · simp only [e, if_true, e', if_false]
        exact ApartV.grow (h.apart p id' (Ne.symm e')) (h.row id') hv
    · by_cases e' : id' = p
      · simp only [e, if_false, e', if_true]
        exact (ApartV.grow (h.apart p id (Ne.symm e)) (h.row id) hv).symm
      · simp only [e, if_false, e']
        exact h.apart id id' hne
  · exact own_map (Owns.apart (h.topa p).symm h.tops hg) hm5 hg6
  · by_cases e : id = p
    · simp only [e, if_true]
      exact (ApartV.grow (h.topa p).symm h.tops hv).symm
    · simp only [e, if_false]
      exact h.topa id
theorem TreeAt.putTop {w w5 : World} {base M m : Nat} {D : DataW Value} {hd : Str → Value} {kid : Str → List Str} {tv : Value} {tl : List Str} {o : Obj} (h : TreeAt w base M m D hd kid tv tl) (x : Str) (v5 : Value)
    (hown5 : OwnStrs w5 base v5 (tl ++ [x])) (hg : (w.alloc o).grownBy w5 tv.ownBlock) (hv : v5.ownBlock = tv.ownBlock ∨ v5.ownBlock = some (w.alloc o).heap.size) :
    TreeAt w5 base M m D hd kid v5 (tl ++ [x]) :=
  ⟨(h.map.alloc o).kept hg (fun e => own_ne_map h.tops h.map e.symm), h.at_, fun id => Owns.apart (h.topa id) (h.row id) hg, h.apart, hown5, fun id => ApartV.grow (h.topa id) (h.row id) hv⟩
theorem TreeAt.congr {w : World} {base M m : Nat} {D : DataW Value} {hd : Str → Value} {kid kid' : Str → List Str} {tv : Value} {tl tl' : List Str} (h : TreeAt w base M m D hd kid tv tl) (e : ∀ id, kid' id = kid id) (e' : tl' = tl) : TreeAt w base M m D hd kid' tv tl' := by
  obtain rfl : kid' = kid := funext e
  subst e'
  exact h
def idOf (x : Itm) : Str := x.id.data.toList
def parL (x : Itm) : Str := x.par.data.toList
/-- The ids of the items right below one, among the first ones; those of the tops. -/
def kidN (l : List Itm) (k : Nat) (id : Str) : List Str := ((l.take k).filter fun x => decide (parL x = id) && !(parL x).isEmpty).map idOf
def topN (l : List Itm) (k : Nat) : List Str := ((l.take k).filter fun x => (parL x).isEmpty).map idOf
theorem kidN_top {l : List Itm} {k : Nat} {x : Itm} (hx : l[k]? = some x) (hp : parL x = []) (id : Str) : kidN l (k + 1) id = kidN l k id ∧ topN l (k + 1) = topN l k ++ [idOf x] := by
  obtain ⟨h1, h2⟩ := List.getElem?_eq_some_iff.1 hx
  unfold kidN topN
  rw [List.take_succ_eq_append_getElem h1, h2, List.filter_append, List.filter_append, List.map_append, List.map_append]
  rw [List.filter_cons, List.filter_cons, hp]
  simp
theorem kidN_kid {l : List Itm} {k : Nat} {x : Itm} (hx : l[k]? = some x) (hp : parL x ≠ []) (id : Str) : kidN l (k + 1) id = (if id = parL x then kidN l k (parL x) ++ [idOf x] else kidN l k id) ∧ topN l (k + 1) = topN l k := by
  obtain ⟨h1, h2⟩ := List.getElem?_eq_some_iff.1 hx
  have hp2 : (parL x).isEmpty = false := by simpa using hp
  unfold kidN topN
  rw [List.take_succ_eq_append_getElem h1, h2, List.filter_append, List.filter_append, List.map_append, List.map_append]
  rw [List.filter_cons, List.filter_cons, hp2]
  by_cases e : id = parL x
  · subst e; simp
  · have e' : ¬ parL x = id := fun h => e h.symm
    simp [e, e']
theorem kidN_len (l : List Itm) (k : Nat) (id : Str) : (kidN l k id).length ≤ k := by
  unfold kidN
  rw [List.length_map]
  exact Nat.le_trans (List.length_filter_le _ _) (by simp; omega)
theorem topN_len (l : List Itm) (k : Nat) : (topN l k).length ≤ k := by
  unfold topN
  rw [List.length_map]
  exact Nat.le_trans (List.length_filter_le _ _) (by simp; omega)
end Go.Proofs.YtdojnbnhogbhiaaGreatDoor

namespace Go.Proofs.YtdojnbnhogbhiaaGreatDoor
open Go.RowKit Go.Maps

abbrev TB (w : World) (T : Nat) (a b c : Value) : Prop := w.heap[T]? = some (.cells #[a, b, c] 102 (0, 0))
theorem TB.lt {w : World} {T : Nat} {a b c : Value} (h : TB w T a b c) : T < w.heap.size := (Array.getElem?_eq_some_iff.1 h).1
theorem TB.c {w : World} {T : Nat} {a b c : Value} (h : TB w T a b c) : w.cell? ⟨T, 0, none⟩ = some a ∧ w.cell? ⟨T, 1, none⟩ = some b ∧ w.cell? ⟨T, 2, none⟩ = some c ∧ w.frozen? ⟨T, 0, none⟩ = false ∧ w.frozen? ⟨T, 1, none⟩ = false ∧ w.frozen? ⟨T, 2, none⟩ = false := by
  refine ⟨?_, ?_, ?_, by unfold TB at h; simp [World.frozen?, h], by unfold TB at h; simp [World.frozen?, h], by unfold TB at h; simp [World.frozen?, h]⟩ <;> (rw [cell_of_row w T _ _ _ _ h]; rfl)
theorem TB.keep {w w' : World} {T : Nat} {a b c : Value} (h : TB w T a b c) (hb : Below w.heap.size w w') : TB w' T a b c := (hb.block T h.lt).trans h
theorem TB.set0 {w : World} {T : Nat} {a b c : Value} (h : TB w T a b c) (v : Value) : TB (w.setCell ⟨T, 0, none⟩ v) T v b c := by unfold TB at *; simp [World.setCell, Array.getElem?_modify, h]
theorem TB.set1 {w : World} {T : Nat} {a b c : Value} (h : TB w T a b c) (v : Value) : TB (w.setCell ⟨T, 1, none⟩ v) T a v c := by unfold TB at *; simp [World.setCell, Array.getElem?_modify, h]
theorem TB.set2 {w : World} {T : Nat} {a b c : Value} (h : TB w T a b c) (v : Value) : TB (w.setCell ⟨T, 2, none⟩ v) T a b v := by unfold TB at *; simp [World.setCell, Array.getElem?_modify, h]
theorem tree_ne : (102 : TypeId) ≠ StrE.t := by decide
theorem item_ne : (55 : TypeId) ≠ StrE.t := by decide
theorem cells_ne_map {w : World} {b M m : Nat} {cs : Array Value} {t : TypeId} {fr : Nat × Nat} {D : DataW Value} (h : w.heap[b]? = some (.cells cs t fr)) (hm : w.ownsMap Tryz.prog 9 heldE M m D) : b ≠ M := by
  obtain ⟨es, cl, hb, _⟩ := hm
  intro e
  subst e
  rw [h] at hb
  cases hb
theorem cells_ne_imap {w : World} {b M : Nat} {cs : Array Value} {t : TypeId} {fr : Nat × Nat} {l : List Itm} (h : w.heap[b]? = some (.cells cs t fr)) (hm : IMapAt w M l) : b ≠ M := by
  obtain ⟨D, h1, _⟩ := hm.ex
  exact cells_ne_map h h1
theorem own_ne_imap {w : World} {base M : Nat} {v : Value} {L : List Str} {l : List Itm} (h : OwnStrs w base v L) (hm : IMapAt w M l) : v.ownBlock ≠ some M := by
  obtain ⟨D, h1, _⟩ := hm.ex
  exact own_ne_map h h1
theorem TreeAt.beside {w w' : World} {base M m R : Nat} {D : DataW Value} {hd : Str → Value} {kid : Str → List Str} {tv : Value} {tl : List Str} {cs : Array Value} {t : TypeId} {fr : Nat × Nat} (h : TreeAt w base M m D hd kid tv tl) (hR : w.heap[R]? = some (.cells cs t fr)) (ht : t ≠ StrE.t) (hg : w.grownBy w' (some R)) : TreeAt w' base M m D hd kid tv tl := by
  have hk : ∀ (v : Value) (L : List Str), OwnStrs w base v L → OwnStrs w' base v L := fun v L ho => by
    refine World.ownsRow.kept ho hg ?_
    cases e : v.ownBlock with
    | none => exact .inl rfl
    | some i => exact .inr (fun e2 => Owns.ne_block ho hR ht (by rw [e, e2]))
  exact ⟨h.map.kept hg (fun e => cells_ne_map hR h.map (Option.some.inj e).symm), h.at_, fun id => hk _ _ (h.row id), h.apart, hk _ _ h.tops, h.topa⟩
def NewTreePost (w : World) (l : List Itm) (e : Ending) (w' : World) : Prop :=
  ∃ Mi Mk m tv D hd, e = .returned (.agg #[.map (some Mi), .map (some Mk), tv]) ∧ IMapAt w' Mi l ∧ TreeAt w' w.heap.size Mk m D hd (kidN l l.length) tv (topN l l.length) ∧ Below w.heap.size w w'
set_option maxHeartbeats 6400000 in
set_option maxRecDepth 100000 in
theorem newTree_any (A : Option Addr) (n c : Nat) (l : List Itm) (w : World) (h : ItemsAt w A n c l) (hl : SetI l) :
    Calls Tryz.prog 51 #[.slice A n c] w (NewTreePost w l) := by
  have HN := Lib.hid h.1
  have HH := Lib.hid h
  have HL := Lib.hid hl
  have hn : n ≤ 2000 := by have := hl.few; have := h.1; omega
  have hmm := @run_makeMap Tryz.prog
  have hb0 : Below w.heap.size w (w.alloc (.cells #[.map none, .map none, .slice none 0 0] 102)) := (Below.refl _ _).alloc (Nat.le_refl _) _
  have HR0 : Hid (TB (w.alloc (.cells #[.map none, .map none, .slice none 0 0] 102)) w.heap.size (.map none) (.map none) (.slice none 0 0)) := heap_alloc_new w _
  have HB0 := Lib.hid hb0
  have HBY := Lib.hid (byId_any A n c l _ (h.keep hb0) hl)
  clear h hl hb0
  go_enter Tryz.func51, Tryz.ntmps51
  go_upto_region 1 with (fail)
  generalize w.alloc (.cells #[.map none, .map none, .slice none 0 0] 102) = w0 at *
  go_wp2_with (go_at_call 85; refine HBY.out.mono ?_; rintro e w1 ⟨Mi, rfl, -, hm1, hb1⟩; have HM1 := Lib.hid hm1; have HR1 := Lib.hid (HR0.out.keep hb1); have HB1 := Lib.hid (HB0.out.trans (hb1.mono HB0.out.size)); clear hm1 hb1)
  have hz1 : (w1.alloc (.map #[] 0)).heap.size = w1.heap.size + 1 := by simp
  have hbm : Below w1.heap.size w1 (w1.alloc (.map #[] 0)) := (Below.refl _ _).alloc (Nat.le_refl _) _
  have hb3 : Below w1.heap.size w1 ((w1.alloc (.map #[] 0)).alloc (.cells #[.map (some Mi), .map (some w1.heap.size), .slice none 0 0] 102)) := hbm.alloc hbm.size _
  have HT3 : Hid (TB ((w1.alloc (.map #[] 0)).alloc (.cells #[.map (some Mi), .map (some w1.heap.size), .slice none 0 0] 102)) (w1.heap.size + 1) (.map (some Mi)) (.map (some w1.heap.size)) (.slice none 0 0)) := by
    have := heap_alloc_new (w1.alloc (.map #[] 0)) (.cells #[.map (some Mi), .map (some w1.heap.size), .slice none 0 0] 102)
    rw [hz1] at this
    exact this
  have HTR3 : Hid (TreeAt ((w1.alloc (.map #[] 0)).alloc (.cells #[.map (some Mi), .map (some w1.heap.size), .slice none 0 0] 102)) w.heap.size w1.heap.size 0 (.map []) (fun _ => .slice none 0 0) (kidN l 0) (.slice none 0 0) (topN l 0)) :=
    ⟨(World.ownsMap_made (H := Value) w1 Tryz.prog 9 heldE).alloc _, fun _ => rfl, fun _ => Owns.nil _ _, fun _ _ _ => apart_nil _, Owns.nil _ _, fun _ => apart_nil _⟩
  have HM3 := Lib.hid (HM1.out.below hb3)
  have HR3 := Lib.hid (HR1.out.keep hb3)
  have HB3 := Lib.hid (HB1.out.trans (hb3.mono HB1.out.size))
  have HMM : Hid (Mi ≠ w1.heap.size) := by have := HM1.out.lt; show _ ≠ _; omega
  have HMK : Hid (w.heap.size ≤ w1.heap.size) := HB1.out.size
  have HTR0 : Hid (w.heap.size ≠ w1.heap.size + 1) := by show _ ≠ _; have := HB1.out.size; omega
  have HTW : Hid (w.heap.size ≤ w1.heap.size + 1) := by show _ ≤ _; have := HB1.out.size; omega
  clear hbm hb3 HM1 HR1 HB1 HB0 HR0 HBY hmm
  obtain ⟨T, hT⟩ : ∃ T, T = w1.heap.size + 1 := ⟨_, rfl⟩
  rw [← hT] at HT3 HTR0 HTW
  generalize ((w1.alloc (.map #[] 0)).alloc (.cells #[.map (some Mi), .map (some w1.heap.size), .slice none 0 0] 102)) = w2 at *
  try rw [← hT]
  clear hz1 hT
  generalize w1.heap.size = Mk at *
  go_loopg [12] n (fun gk v wr => ∃ (k m : Nat) (D : DataW Value) (hd : Str → Value) (tv : Value), Hid (k + gk = n) ∧ v = .int .i64 (k : Int) ∧ Hid (m ≤ k) ∧ Hid (TreeAt wr w.heap.size Mk m D hd (kidN l k) tv (topN l k)) ∧ Hid (TB wr T (.map (some Mi)) (.map (some Mk)) tv) ∧ Hid (TB wr w.heap.size (.map none) (.map none) (.slice none 0 0)) ∧ Hid (IMapAt wr Mi l) ∧ Hid (Below w.heap.size w wr))
  case atStart => exact ⟨0, 0, _, _, _, show 0 + n = n by omega, rfl, Nat.le_refl _, HTR3.out, HT3.out, HR3.out, HM3.out, HB3.out⟩
  case round =>
    obtain ⟨k, m, D, hd, tv, HK, rfl, HMLE, HTR, HTB, HRB, HMI, HB⟩ := hrel
    clear HTR3 HT3 HR3 HM3 HB3
    have hkn : k ≤ n := by have := HK.out; omega
    by_cases hlt : k < n
    · have HGK := Lib.hid (show k + 1 + (gk - 1) = n ∧ 0 < gk by have := HK.out; omega)
      obtain ⟨g, off, rfl, hg, hc⟩ := (ElemsAt.keep HH.out HB.out).item (by omega)
      have hkl : k < l.length := by have := HN.out; omega
      obtain ⟨x, hx⟩ : ∃ x, l[k]? = some x := ⟨_, List.getElem?_eq_getElem hkl⟩
      obtain ⟨c0, c1, c2, c3, c4, c5, c6⟩ := hc k x hx
      have hps := ((HL.out.ok.each x (List.mem_of_getElem? hx)).small).2.2.2.1
      have HX := Lib.hid hx
      have hb1 : Below wr.heap.size wr (wr.alloc (.cells #[.string x.id, .string x.cu, .int .i64 x.kind, .string x.name, .int .i64 x.at_, .string x.par, .string x.text] 55)) := (Below.refl _ _).alloc (Nat.le_refl _) _
      have HI1 : Hid (ItemAt (wr.alloc (.cells #[.string x.id, .string x.cu, .int .i64 x.kind, .string x.name, .int .i64 x.at_, .string x.par, .string x.text] 55)) wr.heap.size x) := item_new wr x
      have HB1 := Lib.hid (HB.out.trans (hb1.mono HB.out.size))
      have HM1 := Lib.hid (HMI.out.below hb1)
      have HTB1 := Lib.hid (HTB.out.keep hb1)
      have HRB1 := Lib.hid (HRB.out.keep hb1)
      have HTR1 := Lib.hid (HTR.out.keep hb1)
      clear hc hx hkl HK hb1 hg HMI HB HTB HRB HTR
      go_upto_region 5 with (fail)
      obtain ⟨P, hP⟩ : ∃ P, P = wr.heap.size := ⟨_, rfl⟩
      rw [← hP] at HI1 ⊢
      generalize (wr.alloc (.cells #[.string x.id, .string x.cu, .int .i64 x.kind, .string x.name, .int .i64 x.at_, .string x.par, .string x.text] 55)) = w2 at *
      clear hP c0 c1 c2 c3 c4 c5 c6
      obtain ⟨c0, c1, c2, c3, c4, c5, c6⟩ := HI1.out.c
      by_cases hp : x.par.data.toList = []
      · obtain ⟨t0, t1, t2, f0, f1, f2⟩ := HTB1.out.c
        obtain ⟨q1, q2, q3⟩ := par_emptyL hp
        have HPAR : Hid (parL x = []) := hp
        have htl := topN_len l k
        have hzb := HB1.out.size
        have HONE : Hid (ElemsAt StrE (w2.alloc (.cells #[.string x.id] 9)) (some ⟨w2.heap.size, 0, none⟩) 1 1 [idOf x]) := one_elem (E := StrE) w2 (idOf x)
        clear hp
        go_upto_region 6 with (fail)
        go_wp2_with (at_builtin; refine append_elems strE_ok rfl _ _ rfl w.heap.size tv (topN l k) rfl (World.ownsRow.alloc HTR1.out.tops _) (some ⟨w2.heap.size, 0, none⟩) 1 1 [idOf x] rfl HONE.out (by simp; omega) (by simp; omega) ?_; intro v5 w5 hown5 hgrow5 hv5; obtain ⟨A5, c5, hv9, -, -, -⟩ := hown5.at_ strE_ok; rw [show (topN l k ++ [idOf x]).length = (topN l k).length + 1 by simp] at hv9; subst hv9; have HT5 : Hid (TB w5 T (.map (some Mi)) (.map (some Mk)) tv) := (hgrow5.block T (by simp; have := HTB1.out.lt; omega) (fun e => Owns.ne_block HTR1.out.tops HTB1.out tree_ne e.symm)).trans (HTB1.out.keep ((Below.refl _ _).alloc (Nat.le_refl _) _)); have HR5 : Hid (TB w5 w.heap.size (.map none) (.map none) (.slice none 0 0)) := (hgrow5.block _ (by simp; have := HRB1.out.lt; omega) (fun e => Owns.ne_block HTR1.out.tops HRB1.out tree_ne e.symm)).trans (HRB1.out.keep ((Below.refl _ _).alloc (Nat.le_refl _) _)); have HM5 : Hid (IMapAt w5 Mi l) := (HM1.out.below ((Below.refl _ _).alloc (Nat.le_refl _) _)).kept hgrow5 (own_ne_imap HTR1.out.tops HM1.out); have HB5 : Hid (Below w.heap.size w w5) := (HB1.out.alloc HB1.out.size _).grown hgrow5 (by simp; have := HB1.out.size; omega) (fun i e => (HTR1.out.tops.lt i e).1); have HTR5 := Lib.hid (HTR1.out.putTop (idOf x) (.slice A5 ((topN l k).length + 1) c5) hown5 hgrow5 hv5); clear hown5 hgrow5 hv5; obtain ⟨y0, y1, y2, z0, z1, z2⟩ := HT5.out.c)
        have HT6 := Lib.hid (HT5.out.set2 (.slice A5 ((topN l k).length + 1) c5))
        have HG6 := Lib.hid (grown_setCell w5 T 2 (.slice A5 ((topN l k).length + 1) c5))
        have HTR6 := Lib.hid (HTR5.out.beside HT5.out tree_ne HG6.out)
        have HM6 := Lib.hid (HM5.out.kept HG6.out (fun e => cells_ne_imap HT5.out HM5.out (Option.some.inj e)))
        have HR6 : Hid (TB (w5.setCell ⟨T, 2, none⟩ (.slice A5 ((topN l k).length + 1) c5)) w.heap.size (.map none) (.map none) (.slice none 0 0)) := (HG6.out.block _ HR5.out.lt (fun e => HTR0.out (Option.some.inj e))).trans HR5.out
        have HB6 := Lib.hid (HB5.out.grown HG6.out HB5.out.size (fun i e => by have := Option.some.inj e; have := HTW.out; omega))
        go_roundg (gk - 1)
        case measure => exact Nat.sub_lt HGK.out.2 Nat.one_pos
        case rel => exact ⟨k + 1, m, D, hd, (.slice A5 ((topN l k).length + 1) c5), HGK.out.1, by go_num, show m ≤ k + 1 by have := HMLE.out; omega, HTR6.out.congr (fun id => (kidN_top HX.out HPAR.out id).1) (kidN_top HX.out HPAR.out []).2, HT6.out, HR6.out, HM6.out, HB6.out⟩
      · obtain ⟨q1, q2, q3⟩ := par_fullL hp
        have HPAR : Hid (parL x ≠ []) := hp
        have hmk := HMLE.out
        clear hp
        go_upto_region 7 with (fail)
        have HSOF : Hid (∀ w', TB w' T (.map (some Mi)) (.map (some Mk)) tv → ItemAt w' P x → w'.cell? ⟨T, 1, none⟩ = some (.map (some Mk)) ∧ w'.cell? ⟨P, 0, none⟩ = some (.string x.id) ∧ w'.cell? ⟨P, 5, none⟩ = some (.string x.par)) := fun w' h1 h2 => ⟨h1.c.2.1, h2.c.1, h2.c.2.2.2.2.2.1⟩
        refine wp_region_held_drew (S := fun w' => w'.cell? ⟨T, 1, none⟩ = some (.map (some Mk)) ∧ w'.cell? ⟨P, 0, none⟩ = some (.string x.id) ∧ w'.cell? ⟨P, 5, none⟩ = some (.string x.par)) (by kernel_rfl) (HSOF.out _ HTB1.out HI1.out) (fun hHeld => ?_)
        have HTR2 : Hid (TreeAt w2.drew w.heap.size Mk m D hd (kidN l k) tv (topN l k)) := HTR1.out.keep ((Below.refl _ _).drew)
        have HTB2 : Hid (TB w2.drew T (.map (some Mi)) (.map (some Mk)) tv) := HTB1.out
        have HI2 : Hid (ItemAt w2.drew P x) := HI1.out
        have HM2 : Hid (IMapAt w2.drew Mi l) := HM1.out.below ((Below.refl _ _).drew)
        have HRB2 : Hid (TB w2.drew w.heap.size (.map none) (.map none) (.slice none 0 0)) := HRB1.out
        have HB2 : Hid (Below w.heap.size w w2.drew) := HB1.out.drew
        clear HTR1 HTB1 HI1 HM1 HRB1 HB1
        generalize w2.drew = w3 at *
        have hlk := HTR2.out.look x.par hps
        have hlkA := fun (o : Obj) => (HTR2.out.keep ((Below.refl _ _).alloc (Nat.le_refl _) o)).look x.par hps
        refine wpAnyH_take (i := 0) (oi := ⟨some 26, _, _, _, _, _⟩) (v := .pointer (some ⟨T, 1, none⟩)) rfl (by kernel_rfl) (by kernel_rfl) (by kernel_rfl) (fun _ _ _ h => h) (Or.inl ⟨by rfl, ?_⟩) hHeld ?_
        · intro w hSw
          (try dsimp only at hSw)
          go_simp
        simp only [Act.put, List.setIfInBounds_toArray, List.set_cons_zero, List.set_cons_succ]
        refine wpAnyH_take (i := 1) (oi := ⟨some 27, _, _, _, _, _⟩) (v := .map (some Mk)) rfl (by kernel_rfl) (by kernel_rfl) (by kernel_rfl) (fun _ _ _ h => h) (Or.inl ⟨by rfl, ?_⟩) hHeld ?_
        · intro w hSw
          (try dsimp only at hSw)
          go_simp
        simp only [Act.put, List.setIfInBounds_toArray, List.set_cons_zero, List.set_cons_succ]
        refine wpAnyH_take (i := 2) (oi := ⟨some 28, _, _, _, _, _⟩) (v := .pointer (some ⟨P, 5, none⟩)) rfl (by kernel_rfl) (by kernel_rfl) (by kernel_rfl) (fun _ _ _ h => h) (Or.inl ⟨by rfl, ?_⟩) hHeld ?_
        · intro w hSw
          (try dsimp only at hSw)
          go_simp
        simp only [Act.put, List.setIfInBounds_toArray, List.set_cons_zero, List.set_cons_succ]
        refine wpAnyH_take (i := 3) (oi := ⟨some 29, _, _, _, _, _⟩) (v := .string x.par) rfl (by kernel_rfl) (by kernel_rfl) (by kernel_rfl) (fun _ _ _ h => h) (Or.inl ⟨by rfl, ?_⟩) hHeld ?_
        · intro w hSw
          (try dsimp only at hSw)
          go_simp
        simp only [Act.put, List.setIfInBounds_toArray, List.set_cons_zero, List.set_cons_succ]
        refine wpAnyH_take (i := 4) (oi := ⟨some 30, _, _, _, _, _⟩) (v := .pointer (some ⟨T, 1, none⟩)) rfl (by kernel_rfl) (by kernel_rfl) (by kernel_rfl) (fun _ _ _ h => h) (Or.inl ⟨by rfl, ?_⟩) hHeld ?_
        · intro w hSw
          (try dsimp only at hSw)
          go_simp
        simp only [Act.put, List.setIfInBounds_toArray, List.set_cons_zero, List.set_cons_succ]
        refine wpAnyH_take (i := 5) (oi := ⟨some 31, _, _, _, _, _⟩) (v := .map (some Mk)) rfl (by kernel_rfl) (by kernel_rfl) (by kernel_rfl) (fun _ _ _ h => h) (Or.inl ⟨by rfl, ?_⟩) hHeld ?_
        · intro w hSw
          (try dsimp only at hSw)
          go_simp
        simp only [Act.put, List.setIfInBounds_toArray, List.set_cons_zero, List.set_cons_succ]
        refine wpAnyH_take (i := 6) (oi := ⟨some 32, _, _, _, _, _⟩) (v := .pointer (some ⟨P, 5, none⟩)) rfl (by kernel_rfl) (by kernel_rfl) (by kernel_rfl) (fun _ _ _ h => h) (Or.inl ⟨by rfl, ?_⟩) hHeld ?_
        · intro w hSw
          (try dsimp only at hSw)
          go_simp
        simp only [Act.put, List.setIfInBounds_toArray, List.set_cons_zero, List.set_cons_succ]
        refine wpAnyH_take (i := 7) (oi := ⟨some 33, _, _, _, _, _⟩) (v := .string x.par) rfl (by kernel_rfl) (by kernel_rfl) (by kernel_rfl) (fun _ _ _ h => h) (Or.inl ⟨by rfl, ?_⟩) hHeld ?_
        · intro w hSw
          (try dsimp only at hSw)
          go_simp
        simp only [Act.put, List.setIfInBounds_toArray, List.set_cons_zero, List.set_cons_succ]
        refine wpAnyH_take (i := 9) (oi := ⟨some 35, _, _, _, _, _⟩) (v := .pointer (some ⟨P, 0, none⟩)) rfl (by kernel_rfl) (by kernel_rfl) (by kernel_rfl) (fun _ _ _ h => h) (Or.inl ⟨by rfl, ?_⟩) hHeld ?_
        · intro w hSw
          (try dsimp only at hSw)
          go_simp
        simp only [Act.put, List.setIfInBounds_toArray, List.set_cons_zero, List.set_cons_succ]
        refine wpAnyH_take (i := 10) (oi := ⟨some 36, _, _, _, _, _⟩) (v := .string x.id) rfl (by kernel_rfl) (by kernel_rfl) (by kernel_rfl) (fun _ _ _ h => h) (Or.inl ⟨by rfl, ?_⟩) hHeld ?_
        · intro w hSw
          (try dsimp only at hSw)
          go_simp
        simp only [Act.put, List.setIfInBounds_toArray, List.set_cons_zero, List.set_cons_succ]
        have HONE : Hid (ElemsAt StrE (w3.alloc (.cells #[.string x.id] 9)) (some ⟨w3.heap.size, 0, none⟩) 1 1 [idOf x]) := one_elem (E := StrE) w3 (idOf x)
        have hkl1 := kidN_len l k x.par.data.toList
        have hzb2 := HB2.out.size
        refine wpAnyH_ready (rs := [8, 11]) (by kernel_rfl) (by simp) ?_
        refine AllReadyH.cons (o := ⟨some 34, _, _, _, _, _⟩) rfl (fun K hK => ?_) (AllReadyH.cons (o := ⟨some 37, _, _, _, _, _⟩) rfl (fun K hK => ?_) AllReadyH.nil)
        · rw [if_pos (by rfl)]
          go_wp2_with fail
          refine hK.out _ _ (HSOF.out _ HTB2.out HI2.out) (fun hHeld => ?_)
          clear hK
          (try simp only [Act.put, List.setIfInBounds_toArray, List.set_cons_zero, List.set_cons_succ])
          refine wpAnyH_ready (rs := [11]) (by kernel_rfl) (by simp) ?_
          refine AllReadyH.cons (o := ⟨some 37, _, _, _, _, _⟩) rfl (fun K hK => ?_) AllReadyH.nil
          rw [if_pos (by rfl)]
          go_wp2_with fail
          refine hK.out _ _ (HSOF.out _ (HTB2.out.keep ((Below.refl _ _).alloc (Nat.le_refl _) _)) (HI2.out.keep ((Below.refl _ _).alloc (Nat.le_refl _) _))) (fun hHeld => ?_)
          clear hK
          (try simp only [Act.put, List.setIfInBounds_toArray, List.set_cons_zero, List.set_cons_succ])
          refine wpAnyH_ready (rs := [12]) (by kernel_rfl) (by simp) ?_
          refine AllReadyH.cons (o := ⟨some 38, _, _, _, _, _⟩) rfl (fun K hK => ?_) AllReadyH.nil
          refine step_elems strE_ok (by rfl) _ _ (by rfl) w.heap.size (hd x.par.data.toList) (kidN l k x.par.data.toList) (by rfl) (World.ownsRow.alloc (HTR2.out.row x.par.data.toList) _) ⟨w3.heap.size, 0, none⟩ 1 1 [idOf x] (by rfl) HONE.out (by omega) (by simp only [List.length_singleton]; omega) (by simp; omega) ?_
          intro v5 w5 hown5 hgrow5 hv5
          have HT5 : Hid (TB w5 T (.map (some Mi)) (.map (some Mk)) tv) := (hgrow5.block T (by simp; have := HTB2.out.lt; omega) (fun e => Owns.ne_block (HTR2.out.row x.par.data.toList) HTB2.out tree_ne e.symm)).trans (HTB2.out.keep ((Below.refl _ _).alloc (Nat.le_refl _) _))
          have HP5 : Hid (ItemAt w5 P x) := (hgrow5.block P (by simp; have := HI2.out.lt; omega) (fun e => Owns.ne_block (HTR2.out.row x.par.data.toList) HI2.out item_ne e.symm)).trans (HI2.out.keep ((Below.refl _ _).alloc (Nat.le_refl _) _))
          have HR5 : Hid (TB w5 w.heap.size (.map none) (.map none) (.slice none 0 0)) := (hgrow5.block _ (by simp; have := HRB2.out.lt; omega) (fun e => Owns.ne_block (HTR2.out.row x.par.data.toList) HRB2.out tree_ne e.symm)).trans (HRB2.out.keep ((Below.refl _ _).alloc (Nat.le_refl _) _))
          have HM5 : Hid (IMapAt w5 Mi l) := (HM2.out.below ((Below.refl _ _).alloc (Nat.le_refl _) _)).kept hgrow5 (own_ne_imap (HTR2.out.row x.par.data.toList) HM2.out)
          have HB5 : Hid (Below w.heap.size w w5) := (HB2.out.alloc HB2.out.size _).grown hgrow5 (by simp; have := HB2.out.size; omega) (fun i e => ((HTR2.out.row x.par.data.toList).lt i e).1)
          have hm5 := HTR2.out.mapAfter x.par.data.toList hgrow5
          clear hHeld
          refine hK.out _ _ (HSOF.out _ HT5.out HP5.out) (fun hHeld => ?_)
          clear hK
          (try simp only [Act.put, List.setIfInBounds_toArray, List.set_cons_zero, List.set_cons_succ])
          refine wpAnyH_ready (rs := [13]) (by kernel_rfl) (by simp) ?_
          refine AllReadyH.cons (o := ⟨none, _, _, _, _, _⟩) rfl (fun K hK => ?_) AllReadyH.nil
          refine step_mapUpdate_own _ (by rfl) _ _ _ 100 (by rfl) 9 32 keyS Tryz.underlying100 heldE Mk m D (by rfl) hm5 (by simp only [maxLen]; omega) (.string x.par) v5 (.string x.par.data.toList) (by rfl) (by rfl) (keyS_mk x.par hps) (.held v5) [] rfl ?_
          intro w6 hown6 hgrow6
          have HTR6 := Lib.hid (HTR2.out.putKid x.par.data.toList (idOf x) v5 hown5 hgrow5 hv5 hown6 hgrow6)
          have HT6 : Hid (TB w6 T (.map (some Mi)) (.map (some Mk)) tv) := (hgrow6.block T HT5.out.lt (fun e => cells_ne_map HT5.out hm5 (Option.some.inj e))).trans HT5.out
          have HP6 : Hid (ItemAt w6 P x) := (hgrow6.block P HP5.out.lt (fun e => cells_ne_map HP5.out hm5 (Option.some.inj e))).trans HP5.out
          have HR6 : Hid (TB w6 w.heap.size (.map none) (.map none) (.slice none 0 0)) := (hgrow6.block _ HR5.out.lt (fun e => cells_ne_map HR5.out hm5 (Option.some.inj e))).trans HR5.out
          have HM6 : Hid (IMapAt w6 Mi l) := HM5.out.kept hgrow6 (fun e => HMM.out (Option.some.inj e).symm)
          have HB6 : Hid (Below w.heap.size w w6) := HB5.out.grown hgrow6 HB5.out.size (fun i e => by have := Option.some.inj e; have := HMK.out; omega)
          clear hown5 hgrow5 hv5 hown6 hgrow6 hm5 hHeld
          refine hK.out _ _ (HSOF.out _ HT6.out HP6.out) (fun hHeld => ?_)
          clear hK hHeld
          refine wpAnyH_done (by kernel_rfl) ?_ _
          go_wp2_with fail
          go_roundg (gk - 1)
          case measure => exact Nat.sub_lt HGK.out.2 Nat.one_pos
          case rel => exact ⟨k + 1, m + 1, _, _, tv, HGK.out.1, by go_num, show m + 1 ≤ k + 1 by have := HMLE.out; omega, HTR6.out.congr (fun id => (kidN_kid HX.out HPAR.out id).1) (kidN_kid HX.out HPAR.out []).2, HT6.out, HR6.out, HM6.out, HB6.out⟩
        · rw [if_pos (by rfl)]
          go_wp2_with fail
          refine hK.out _ _ (HSOF.out _ (HTB2.out.keep ((Below.refl _ _).alloc (Nat.le_refl _) _)) (HI2.out.keep ((Below.refl _ _).alloc (Nat.le_refl _) _))) (fun hHeld => ?_)
          clear hK
          (try simp only [Act.put, List.setIfInBounds_toArray, List.set_cons_zero, List.set_cons_succ])
          refine wpAnyH_ready (rs := [8]) (by kernel_rfl) (by simp) ?_
          refine AllReadyH.cons (o := ⟨some 34, _, _, _, _, _⟩) rfl (fun K hK => ?_) AllReadyH.nil
          rw [if_pos (by rfl)]
          go_wp2_with fail
          refine hK.out _ _ (HSOF.out _ (HTB2.out.keep ((Below.refl _ _).alloc (Nat.le_refl _) _)) (HI2.out.keep ((Below.refl _ _).alloc (Nat.le_refl _) _))) (fun hHeld => ?_)
          clear hK
          (try simp only [Act.put, List.setIfInBounds_toArray, List.set_cons_zero, List.set_cons_succ])
          refine wpAnyH_ready (rs := [12]) (by kernel_rfl) (by simp) ?_
          refine AllReadyH.cons (o := ⟨some 38, _, _, _, _, _⟩) rfl (fun K hK => ?_) AllReadyH.nil
          refine step_elems strE_ok (by rfl) _ _ (by rfl) w.heap.size (hd x.par.data.toList) (kidN l k x.par.data.toList) (by rfl) (World.ownsRow.alloc (HTR2.out.row x.par.data.toList) _) ⟨w3.heap.size, 0, none⟩ 1 1 [idOf x] (by rfl) HONE.out (by omega) (by simp only [List.length_singleton]; omega) (by simp; omega) ?_
          intro v5 w5 hown5 hgrow5 hv5
          have HT5 : Hid (TB w5 T (.map (some Mi)) (.map (some Mk)) tv) := (hgrow5.block T (by simp; have := HTB2.out.lt; omega) (fun e => Owns.ne_block (HTR2.out.row x.par.data.toList) HTB2.out tree_ne e.symm)).trans (HTB2.out.keep ((Below.refl _ _).alloc (Nat.le_refl _) _))
          have HP5 : Hid (ItemAt w5 P x) := (hgrow5.block P (by simp; have := HI2.out.lt; omega) (fun e => Owns.ne_block (HTR2.out.row x.par.data.toList) HI2.out item_ne e.symm)).trans (HI2.out.keep ((Below.refl _ _).alloc (Nat.le_refl _) _))
          have HR5 : Hid (TB w5 w.heap.size (.map none) (.map none) (.slice none 0 0)) := (hgrow5.block _ (by simp; have := HRB2.out.lt; omega) (fun e => Owns.ne_block (HTR2.out.row x.par.data.toList) HRB2.out tree_ne e.symm)).trans (HRB2.out.keep ((Below.refl _ _).alloc (Nat.le_refl _) _))
          have HM5 : Hid (IMapAt w5 Mi l) := (HM2.out.below ((Below.refl _ _).alloc (Nat.le_refl _) _)).kept hgrow5 (own_ne_imap (HTR2.out.row x.par.data.toList) HM2.out)
          have HB5 : Hid (Below w.heap.size w w5) := (HB2.out.alloc HB2.out.size _).grown hgrow5 (by simp; have := HB2.out.size; omega) (fun i e => ((HTR2.out.row x.par.data.toList).lt i e).1)
          have hm5 := HTR2.out.mapAfter x.par.data.toList hgrow5
          clear hHeld
          refine hK.out _ _ (HSOF.out _ HT5.out HP5.out) (fun hHeld => ?_)
          clear hK
          (try simp only [Act.put, List.setIfInBounds_toArray, List.set_cons_zero, List.set_cons_succ])
          refine wpAnyH_ready (rs := [13]) (by kernel_rfl) (by simp) ?_
          refine AllReadyH.cons (o := ⟨none, _, _, _, _, _⟩) rfl (fun K hK => ?_) AllReadyH.nil
          refine step_mapUpdate_own _ (by rfl) _ _ _ 100 (by rfl) 9 32 keyS Tryz.underlying100 heldE Mk m D (by rfl) hm5 (by simp only [maxLen]; omega) (.string x.par) v5 (.string x.par.data.toList) (by rfl) (by rfl) (keyS_mk x.par hps) (.held v5) [] rfl ?_
          intro w6 hown6 hgrow6
          have HTR6 := Lib.hid (HTR2.out.putKid x.par.data.toList (idOf x) v5 hown5 hgrow5 hv5 hown6 hgrow6)
          have HT6 : Hid (TB w6 T (.map (some Mi)) (.map (some Mk)) tv) := (hgrow6.block T HT5.out.lt (fun e => cells_ne_map HT5.out hm5 (Option.some.inj e))).trans HT5.out
          have HP6 : Hid (ItemAt w6 P x) := (hgrow6.block P HP5.out.lt (fun e => cells_ne_map HP5.out hm5 (Option.some.inj e))).trans HP5.out
          have HR6 : Hid (TB w6 w.heap.size (.map none) (.map none) (.slice none 0 0)) := (hgrow6.block _ HR5.out.lt (fun e => cells_ne_map HR5.out hm5 (Option.some.inj e))).trans HR5.out
          have HM6 : Hid (IMapAt w6 Mi l) := HM5.out.kept hgrow6 (fun e => HMM.out (Option.some.inj e).symm)
          have HB6 : Hid (Below w.heap.size w w6) := HB5.out.grown hgrow6 HB5.out.size (fun i e => by have := Option.some.inj e; have := HMK.out; omega)
          clear hown5 hgrow5 hv5 hown6 hgrow6 hm5 hHeld
          refine hK.out _ _ (HSOF.out _ HT6.out HP6.out) (fun hHeld => ?_)
          clear hK hHeld
          refine wpAnyH_done (by kernel_rfl) ?_ _
          go_wp2_with fail
          go_roundg (gk - 1)
          case measure => exact Nat.sub_lt HGK.out.2 Nat.one_pos
          case rel => exact ⟨k + 1, m + 1, _, _, tv, HGK.out.1, by go_num, show m + 1 ≤ k + 1 by have := HMLE.out; omega, HTR6.out.congr (fun id => (kidN_kid HX.out HPAR.out id).1) (kidN_kid HX.out HPAR.out []).2, HT6.out, HR6.out, HM6.out, HB6.out⟩
    · have hnk : ¬ (k : Int) < (n : Int) := by omega
      obtain rfl : k = n := by omega
      have HKL : Hid (k = l.length) := HN.out
      obtain ⟨A5, c5, hv9, -, -, -⟩ := HTR.out.tops.at_ strE_ok
      subst hv9
      obtain ⟨t0, t1, t2, f0, f1, f2⟩ := HTB.out.c
      obtain ⟨r0, r1, r2, g0, g1, g2⟩ := HRB.out.c
      have HRS : Hid (TB (((wr.setCell ⟨w.heap.size, 0, none⟩ (.map (some Mi))).setCell ⟨w.heap.size, 1, none⟩ (.map (some Mk))).setCell ⟨w.heap.size, 2, none⟩ (.slice A5 (topN l k).length c5)) w.heap.size (.map (some Mi)) (.map (some Mk)) (.slice A5 (topN l k).length c5)) := ((HRB.out.set0 _).set1 _).set2 _
      have hgs : wr.grownBy (((wr.setCell ⟨w.heap.size, 0, none⟩ (.map (some Mi))).setCell ⟨w.heap.size, 1, none⟩ (.map (some Mk))).setCell ⟨w.heap.size, 2, none⟩ (.slice A5 (topN l k).length c5)) (some w.heap.size) := grown_trans (grown_trans (grown_setCell wr _ 0 _) (grown_setCell _ _ 1 _)) (grown_setCell _ _ 2 _)
      have HTRS := Lib.hid (HTR.out.beside HRB.out tree_ne hgs)
      have HMS := Lib.hid (HMI.out.kept hgs (fun e => cells_ne_imap HRB.out HMI.out (Option.some.inj e)))
      have HBS := Lib.hid (HB.out.grown hgs HB.out.size (fun i e => by have := Option.some.inj e; omega))
      clear hgs HTR HMI HB HK
      go_wp2_with fail
      clear t0 t1 t2 f0 f1 f2 r0 r1 r2 g0 g1 g2
      generalize (((wr.setCell ⟨w.heap.size, 0, none⟩ (.map (some Mi))).setCell ⟨w.heap.size, 1, none⟩ (.map (some Mk))).setCell ⟨w.heap.size, 2, none⟩ (.slice A5 (topN l k).length c5)) = wf at *
      obtain ⟨t0, t1, t2, f0, f1, f2⟩ := HRS.out.c
      refine bodyPost_ret (v := .agg #[.map (some Mi), .map (some Mk), (.slice A5 (topN l k).length c5)]) (by simp [results, Tryz.results51, go_sem, t0, t1, t2]) rfl ?_
      exact ⟨Mi, Mk, m, (.slice A5 (topN l k).length c5), D, hd, rfl, HMS.out, by rw [← HKL.out]; exact HTRS.out, HBS.out⟩
end Go.Proofs.YtdojnbnhogbhiaaGreatDoor

namespace Go.Proofs.YtdojnbnhogbhiaaGreatDoor
open Go.RowKit Go.Maps

/-- A map of rows that are read. -/
def KidsR (w : World) (M : Nat) (kid : Str → List Str) : Prop :=
  ∀ id : ByteArray, id.size ≤ 1000000 → ∃ A c, (Instr.lookup 100 (.map (some M)) (.string id) false).run Tryz.prog w = .ok (.slice A (kid id.data.toList).length c) w ∧ StrsAt w A (kid id.data.toList).length c (kid id.data.toList)
structure KidsK (w : World) (M : Nat) (kid : Str → List Str) : Prop where
  ex : ∃ (m : Nat) (D : DataW Value) (hd : Str → Value), w.ownsMap Tryz.prog 9 heldE M m D ∧ (∀ id, D.atKey (.string id) (.held (.slice none 0 0)) = .held (hd id)) ∧ ∀ id, ∃ A c, hd id = .slice A (kid id).length c ∧ StrsAt w A (kid id).length c (kid id)
theorem TreeAt.kids {w : World} {base M m : Nat} {D : DataW Value} {hd : Str → Value} {kid : Str → List Str} {tv : Value} {tl : List Str} (h : TreeAt w base M m D hd kid tv tl) : KidsK w M kid :=
  ⟨⟨m, D, hd, h.map, h.at_, fun id => by
    obtain ⟨A, c, e, _, hat, _⟩ := (h.row id).at_ strE_ok
    exact ⟨A, c, e, hat⟩⟩⟩
theorem KidsK.keep {w w' : World} {M : Nat} {kid : Str → List Str} (h : KidsK w M kid) (hb : Below w.heap.size w w') : KidsK w' M kid := by
  obtain ⟨m, D, hd, h1, h2, h3⟩ := h.ex
  exact ⟨⟨m, D, hd, h1.kept (below_grown hb none) (by simp), h2, fun id => by obtain ⟨A, c, e, hat⟩ := h3 id; exact ⟨A, c, e, hat.keep hb⟩⟩⟩
theorem KidsK.look2 {w w' : World} {M : Nat} {kid : Str → List Str} (h : KidsK w M kid) (hb : Below w.heap.size w w') (id : ByteArray) (hid : id.size ≤ 1000000) : ∃ A c, (Instr.lookup 100 (.map (some M)) (.string id) false).run Tryz.prog w' = .ok (.slice A (kid id.data.toList).length c) w' ∧ StrsAt w A (kid id.data.toList).length c (kid id.data.toList) := by
  obtain ⟨m, D, hd, h1, h2, h3⟩ := h.ex
  obtain ⟨v, ps, hrun, hv⟩ := (h1.kept (below_grown hb none) (by simp)).lookup keyS Tryz.underlying100 (z := .slice none 0 0) (by kernel_rfl) (zd := .held (.slice none 0 0)) (zp := []) rfl (keyS_mk id hid)
  rw [h2] at hv
  simp only [heldE, Option.some.injEq, Prod.mk.injEq, DataW.held.injEq] at hv
  obtain ⟨A, c, e, hat⟩ := h3 id.data.toList
  rw [hv.1, e] at hrun
  exact ⟨A, c, hrun, hat⟩
theorem KidsK.look {w : World} {M : Nat} {kid : Str → List Str} (h : KidsK w M kid) : KidsR w M kid := fun id hid => by
  obtain ⟨m, D, hd, h1, h2, h3⟩ := h.ex
  obtain ⟨v, ps, hrun, hv⟩ := h1.lookup keyS Tryz.underlying100 (z := .slice none 0 0) (by kernel_rfl) (zd := .held (.slice none 0 0)) (zp := []) rfl (keyS_mk id hid)
  rw [h2] at hv
  simp only [heldE, Option.some.injEq, Prod.mk.injEq, DataW.held.injEq] at hv
  obtain ⟨A, c, e, hat⟩ := h3 id.data.toList
  rw [hv.1, e] at hrun
  exact ⟨A, c, hrun, hat⟩
/-- The ids below one, as deep as that. -/
def belS (kid : Str → List Str) : Nat → Str → List Str
  | 0, id => [id]
  | f + 1, id => id :: (kid id).flatMap (belS kid f)
/-- Nothing lies deeper below one. -/
def EndsS (kid : Str → List Str) : Nat → Str → Prop
  | 0, id => kid id = []
  | f + 1, id => ∀ k ∈ kid id, EndsS kid f k
def BelPost (w : World) (L : List Str) (e : Ending) (w' : World) : Prop := ∃ v, e = .returned v ∧ OwnStrs w' w.heap.size v L ∧ Below w.heap.size w w'
set_option maxHeartbeats 3200000 in
set_option maxRecDepth 100000 in
theorem below_step (f Mi Mk : Nat) (tv : Value) (kid : Str → List Str) (id : Str) (w : World) (hK : KidsK w Mk kid) (hid : id.length ≤ 1000) (hsm : ∀ x k, k ∈ kid x → k.length ≤ 1000) (hkl : ∀ x, (kid x).length ≤ 5000)
    (hlen : (belS kid (f + 1) id).length ≤ 50000) (A0 : Option Addr) (n0 c0 : Nat) (htv : tv = .slice A0 n0 c0)
    (ih : ∀ k ∈ kid id, ∀ wx, KidsK wx Mk kid → Calls Tryz.prog 52 #[.agg #[.map (some Mi), .map (some Mk), tv], .string ⟨k.toArray⟩] wx (BelPost wx (belS kid f k))) :
    Calls Tryz.prog 52 #[.agg #[.map (some Mi), .map (some Mk), tv], .string ⟨id.toArray⟩] w (BelPost w (belS kid (f + 1) id)) := by
  subst htv
  have hb1 : Below w.heap.size w (w.alloc (.cells #[.map (some Mi), .map (some Mk), .slice A0 n0 c0] 102)) := (Below.refl _ _).alloc (Nat.le_refl _) _
  have HT1 : Hid (TB (w.alloc (.cells #[.map (some Mi), .map (some Mk), .slice A0 n0 c0] 102)) w.heap.size (.map (some Mi)) (.map (some Mk)) (.slice A0 n0 c0)) := heap_alloc_new w _
  have HKW := Lib.hid hK
  have HB1 := Lib.hid hb1
  have HIH := Lib.hid ih
  have HSM := Lib.hid hsm
  have HLEN := Lib.hid hlen
  clear hK hb1 ih hsm hlen
  go_enter Tryz.func52, Tryz.ntmps52
  go_upto_region 1 with (fail)
  obtain ⟨T, hT⟩ : ∃ T, T = w.heap.size := ⟨_, rfl⟩
  rw [← hT] at HT1 ⊢
  have HTW : Hid (w.heap.size ≤ T) := by show _ ≤ _; omega
  generalize w.alloc (.cells #[.map (some Mi), .map (some Mk), .slice A0 n0 c0] 102) = w1 at *
  clear hT
  have hz1 := HB1.out.size
  go_upto_region 2 with (fail)
  have hb2 : Below w1.heap.size w1 (w1.alloc (.cells #[.string ⟨id.toArray⟩] 9)) := (Below.refl _ _).alloc (Nat.le_refl _) _
  have HO2 : Hid (OwnStrs (w1.alloc (.cells #[.string ⟨id.toArray⟩] 9)) w.heap.size (.slice (some ⟨w1.heap.size, 0, none⟩) 1 1) [id]) := Owns.lit strE_ok w1 w.heap.size [id] hz1 (by simp)
  have HT2 := Lib.hid (HT1.out.keep hb2)
  have HB2 := Lib.hid (HB1.out.trans (hb2.mono hz1))
  generalize w1.alloc (.cells #[.string ⟨id.toArray⟩] 9) = w2 at *
  clear HT1 HB1 hb2
  obtain ⟨t0, t1, t2, f0, f1, f2⟩ := HT2.out.c
  obtain ⟨A, c, hlk, hat⟩ := HKW.out.look2 HB2.out ⟨id.toArray⟩ (by simp [ByteArray.size]; omega)
  rw [show (⟨id.toArray⟩ : ByteArray).data.toList = id by simp] at hlk hat
  have HAT := Lib.hid hat
  have HBL : Hid (belS kid (f + 1) id = id :: (kid id).flatMap (belS kid f)) := rfl
  have hkb := hkl id
  obtain ⟨ks, hks⟩ : ∃ ks, ks = kid id := ⟨_, rfl⟩
  rw [← hks] at hlk HAT HBL hkb HIH
  obtain ⟨nk, hnk⟩ : ∃ nk, nk = ks.length := ⟨_, rfl⟩
  rw [← hnk] at hlk HAT hkb
  have HNK : Hid (nk = ks.length) := hnk
  have HO2' : Hid (OwnStrs w2 w.heap.size (.slice (some ⟨w1.heap.size, 0, none⟩) 1 1) (id :: (ks.take 0).flatMap (belS kid f))) := HO2.out
  clear hat hks hnk HO2
  go_wp2_with fail
  clear hlk t0 t1 t2 f0 f1 f2
  go_loopg [5, 15] nk (fun gk v5 v wr => ∃ k : Nat, Hid (k + gk = nk) ∧ v = .int .i64 (k : Int) ∧ Hid (OwnStrs wr w.heap.size v5 (id :: (ks.take k).flatMap (belS kid f))) ∧ Hid (TB wr T (.map (some Mi)) (.map (some Mk)) (.slice A0 n0 c0)) ∧ Hid (Below w.heap.size w wr))
  case atStart => exact ⟨0, show 0 + nk = nk by omega, rfl, HO2'.out, HT2.out, HB2.out⟩
  case round =>
    obtain ⟨k, HKG, rfl, HO, HT, HB⟩ := hrel
    clear HO2' HT2 HB2
    have hkn : k ≤ nk := by have := HKG.out; omega
    by_cases hlt : k < nk
    · have HGK := Lib.hid (show k + 1 + (gk - 1) = nk ∧ 0 < gk by have := HKG.out; omega)
      obtain ⟨g, off, rfl, hg, hc⟩ := (ElemsAt.keep HAT.out HB.out).str (by omega)
      have hck := hc k hlt
      have hkl : k < ks.length := by have := HNK.out; omega
      have hmem : ks.getD k [] ∈ ks := by rw [List.getD_eq_getElem?_getD, List.getElem?_eq_getElem hkl]; exact List.getElem_mem hkl
      have HTK : Hid ((ks.take (k + 1)).flatMap (belS kid f) = (ks.take k).flatMap (belS kid f) ++ belS kid f (ks.getD k [])) := by
        show _ = _
        rw [List.take_succ_eq_append_getElem hkl, List.flatMap_append]
        simp [hkl]
      have HIX := Lib.hid (HIH.out _ hmem wr (HKW.out.keep HB.out))
      have HLL : Hid ((id :: (ks.take (k + 1)).flatMap (belS kid f)).length ≤ 50000) := by
        have h1 := HLEN.out
        rw [HBL.out] at h1
        have h2 : ks.flatMap (belS kid f) = (ks.take (k + 1)).flatMap (belS kid f) ++ (ks.drop (k + 1)).flatMap (belS kid f) := by rw [← List.flatMap_append, List.take_append_drop]
        rw [h2] at h1
        show _ ≤ _
        simp only [List.length_cons, List.length_append] at h1 ⊢
        omega
      rw [HTK.out] at HLL
      obtain ⟨t0, t1, t2, f0, f1, f2⟩ := HT.out.c
      generalize ks.getD k [] = x at *
      generalize (ks.take k).flatMap (belS kid f) = F at *
      generalize belS kid f x = B at *
      clear hc hmem hkl HKG
      go_wp2_with fail
      refine HIX.out.mono ?_
      rintro e w3 ⟨v3, rfl, hown3, hb3⟩
      obtain ⟨A3, c3, rfl, -, hat3, -⟩ := hown3.at_ strE_ok
      have HAT3 := Lib.hid hat3
      have HO3 := Lib.hid (HO.out.below_ hb3)
      have HT3 := Lib.hid (HT.out.keep hb3)
      have HB3 := Lib.hid (HB.out.trans (hb3.mono HB.out.size))
      have hl1 := HLL.out
      simp only [List.length_cons, List.length_append] at hl1
      have hzb := HB3.out.size
      clear hown3 hb3 hat3 HO HT HB HIX hck t0 t1 t2 f0 f1 f2
      go_wp2_with (at_builtin; refine append_elems strE_ok rfl _ _ rfl w.heap.size u5 (id :: F) rfl HO3.out A3 B.length c3 B rfl HAT3.out (by simp only [List.length_cons]; omega) (by omega) ?_; intro v5 w5 hown5 hgrow5 hv5)
      have HO5 : Hid (OwnStrs w5 w.heap.size v5 (id :: (F ++ B))) := hown5
      have HT5 : Hid (TB w5 T (.map (some Mi)) (.map (some Mk)) (.slice A0 n0 c0)) := (hgrow5.block T HT3.out.lt (fun e => Owns.ne_block HO3.out HT3.out tree_ne e.symm)).trans HT3.out
      have HB5 : Hid (Below w.heap.size w w5) := HB3.out.grown hgrow5 HB3.out.size (fun i e => (HO3.out.lt i e).1)
      clear hown5 hgrow5 hv5
      go_wp2_with fail
      go_roundg (gk - 1)
      case measure => exact Nat.sub_lt HGK.out.2 Nat.one_pos
      case rel => exact ⟨k + 1, HGK.out.1, by go_num, by rw [HTK.out]; exact HO5.out, HT5.out, HB5.out⟩
    · have hnk : ¬ (k : Int) < (nk : Int) := by omega
      have hta : ks.take k = ks := List.take_of_length_le (by have := HNK.out; omega)
      rw [hta] at HO
      have HF : Hid (BelPost w (belS kid (f + 1) id) (.returned u5) wr) := ⟨u5, rfl, by rw [HBL.out]; exact HO.out, HB.out⟩
      clear hta
      go_wp2_with fail
      go_ret
      exact HF.out
theorem belS_fuel (kid : Str → List Str) : ∀ f id, (belS kid f id).length ≤ (belS kid (f + 1) id).length
  | 0, id => by simp [belS]
  | f + 1, id => by
    have h : ∀ L : List Str, (L.flatMap (belS kid f)).length ≤ (L.flatMap (belS kid (f + 1))).length := by
      intro L
      induction L with
      | nil => simp
      | cons a L ih =>
        have := belS_fuel kid f a
        simp only [List.flatMap_cons, List.length_append]
        omega
    have := h (kid id)
    rw [belS, belS]
    simp only [List.length_cons]
    omega
theorem belS_kid (kid : Str → List Str) (f : Nat) (id k : Str) (h : k ∈ kid id) : (belS kid f k).length ≤ (belS kid (f + 1) id).length := by
  rw [belS]
  have : ∀ L : List Str, k ∈ L → (belS kid f k).length ≤ (L.flatMap (belS kid f)).length := by
    intro L
    induction L with
    | nil => intro hm; cases hm
    | cons a L ih =>
      intro hm
      simp only [List.flatMap_cons, List.length_append]
      rcases List.mem_cons.1 hm with rfl | hm
      · omega
      · have := ih hm; omega
  have := this _ h
  simp only [List.length_cons]
  omega
theorem belowT_any (Mi Mk : Nat) (A0 : Option Addr) (n0 c0 : Nat) (kid : Str → List Str) (hsm : ∀ x k, k ∈ kid x → k.length ≤ 1000) (hkl : ∀ x, (kid x).length ≤ 5000) :
    ∀ (f : Nat) (id : Str) (w : World), KidsK w Mk kid → id.length ≤ 1000 → EndsS kid f id → (belS kid f id).length ≤ 50000 →
    Calls Tryz.prog 52 #[.agg #[.map (some Mi), .map (some Mk), .slice A0 n0 c0], .string ⟨id.toArray⟩] w (BelPost w (belS kid f id))
  | 0, id, w, hK, hid, he, hl => by
    have e : belS kid (0 + 1) id = belS kid 0 id := by
      rw [belS, belS, show kid id = [] from he]; rfl
    have h := below_step 0 Mi Mk (.slice A0 n0 c0) kid id w hK hid hsm hkl (by rw [e]; exact hl) A0 n0 c0 rfl (fun k hk => by rw [show kid id = [] from he] at hk; cases hk)
    rwa [e] at h
  | f + 1, id, w, hK, hid, he, hl =>
    below_step f Mi Mk (.slice A0 n0 c0) kid id w hK hid hsm hkl hl A0 n0 c0 rfl (fun k hk wx hx => belowT_any Mi Mk A0 n0 c0 kid hsm hkl f k wx hx (hsm id k hk) (he k hk) (Nat.le_trans (belS_kid kid f id k hk) hl))
end Go.Proofs.YtdojnbnhogbhiaaGreatDoor

namespace Go.Proofs.YtdojnbnhogbhiaaGreatDoor
open Go.RowKit Go.Sort

def idAt (l : List Itm) (i : Nat) : Str := (l[i]?.map idOf).getD []
theorem idAt_of {l : List Itm} {i : Nat} {x : Itm} (h : l[i]? = some x) : idAt l i = idOf x := by simp [idAt, h]
theorem ids_range (l : List Itm) : (List.range l.length).map (idAt l) = l.map idOf := by
  apply List.ext_getElem?
  intro j
  rcases Nat.lt_or_ge j l.length with h | h
  · rw [List.getElem?_map, List.getElem?_map, List.getElem?_range h, List.getElem?_eq_getElem h]
    simp [idAt, h]
  · rw [List.getElem?_eq_none (by simpa using h), List.getElem?_eq_none (by simpa using h)]
theorem filter_ids (l : List Itm) (p : Itm → Bool) (q : Nat → Bool) (h : ∀ i x, l[i]? = some x → q i = p x) : (l.filter p).map idOf = ((List.range l.length).filter q).map (idAt l) := by
  have key : ∀ m, m ≤ l.length → ((l.take m).filter p).map idOf = ((List.range m).filter q).map (idAt l) := by
    intro m
    induction m with
    | zero => intro _; simp
    | succ m ih =>
      intro hm
      have hx : l[m]? = some l[m] := List.getElem?_eq_getElem (by omega)
      rw [List.take_succ_eq_append_getElem (by omega), List.filter_append, List.map_append, ih (by omega), List.range_succ, List.filter_append, List.map_append]
      congr 1
      rw [List.filter_cons, List.filter_cons, h m _ hx]
      cases p l[m]
      · rfl
      · simp [idAt_of hx]
  have := key l.length (Nat.le_refl _)
  rwa [List.take_length] at this
theorem chain_take (l : List Itm) : ∀ (f i : Nat), chainI l f i = (chainI l (f + 1) i).take f
  | 0, i => by simp [chainI]
  | f + 1, i => by
    cases hp : parI l i with
    | none => rw [chainI_none hp, chainI_none hp]; rfl
    | some p => rw [chainI_some hp, chainI_some hp, List.take_succ_cons, ← chain_take l f p]
section
variable {l : List Itm} (hl : SetI l)
include hl
theorem findI_id {i : Nat} {x : Itm} (hx : l[i]? = some x) : findI l x.id = some i := by
  cases hf : findI l x.id with
  | none => exact absurd rfl (findI_none hf x (List.mem_of_getElem? hx))
  | some k =>
    obtain ⟨y, hy, he, _⟩ := findI_some hf
    rw [hl.find hy hx he]
theorem parI_iff {i j : Nat} {x y : Itm} (hx : l[i]? = some x) (hy : l[j]? = some y) : decide (parI l j = some i) = (decide (parL y = idOf x) && !(parL y).isEmpty) := by
  by_cases hp : y.par.data.toList = []
  · rw [parI_nil hy hp]
    simp [parL, hp]
  · rw [parI_of hy hp]
    have hne : (parL y).isEmpty = false := by simpa [parL] using hp
    rw [hne, Bool.not_false, Bool.and_true]
    by_cases he : y.par = x.id
    · rw [he, findI_id hl hx]
      simp [parL, idOf, he]
    · have h2 : ¬ parL y = idOf x := fun e => he (ByteArray.ext (Array.toList_inj.1 e))
      have h1 : ¬ findI l y.par = some i := fun e => by
        obtain ⟨z, hz, hze, _⟩ := findI_some e
        rw [hx] at hz
        cases hz
        exact he hze.symm
      simp [h1, h2]
theorem parI_none_iff {j : Nat} {y : Itm} (hy : l[j]? = some y) : decide (parI l j = none) = (parL y).isEmpty := by
  by_cases hp : y.par.data.toList = []
  · rw [parI_nil hy hp]
    simp [parL, hp]
  · rw [parI_of hy hp]
    have hne : (parL y).isEmpty = false := by simpa [parL] using hp
    rw [hne]
    rcases hl.ok.par y (List.mem_of_getElem? hy) with h | h
    · exact absurd h hp
    · obtain ⟨q, hq⟩ := Option.isSome_iff_exists.1 h
      rw [hq]
      simp
theorem kid_ids {i : Nat} {x : Itm} (hx : l[i]? = some x) : kidN l l.length (idOf x) = (kidsI l i).map (idAt l) := by
  unfold kidN kidsI
  rw [List.take_length]
  exact filter_ids l _ _ (fun j y hy => parI_iff hl hx hy)
theorem top_ids : topN l l.length = (topsI l).map (idAt l) := by
  unfold topN topsI
  rw [List.take_length]
  exact filter_ids l _ _ (fun j y hy => parI_none_iff hl hy)
theorem bel_ids : ∀ (f i : Nat), i < l.length → belS (kidN l l.length) f (idAt l i) = (famI l f i).map (idAt l)
  | 0, i, _ => rfl
  | f + 1, i, hi => by
    have hx : l[i]? = some l[i] := List.getElem?_eq_getElem hi
    rw [belS, famI, List.map_cons]
    congr 1
    rw [idAt_of hx, kid_ids hl hx, List.flatMap_map, List.map_flatMap]
    have : ∀ L : List Nat, (∀ j ∈ L, j < l.length) → L.flatMap (fun j => belS (kidN l l.length) f (idAt l j)) = L.flatMap fun j => (famI l f j).map (idAt l) := by
      intro L
      induction L with
      | nil => intro _; rfl
      | cons a L ih =>
        intro h
        rw [List.flatMap_cons, List.flatMap_cons, bel_ids f a (h a (by simp)), ih (fun j hj => h j (by simp [hj]))]
    exact this _ (fun j hj => by have := (List.mem_filter.1 hj).1; simpa using this)
theorem depth_kid {i k : Nat} (hk : parI l k = some i) : (chainI l (l.length + 1) k).length = (chainI l (l.length + 1) i).length + 1 := by
  rw [chainI_some hk, List.length_cons, chain_take l, List.length_take]
  have := chain_short hl.ok.tree.loop i
  omega
theorem ends_ids : ∀ (f i : Nat), i < l.length → 4 ≤ (chainI l (l.length + 1) i).length + f → EndsS (kidN l l.length) f (idAt l i)
  | 0, i, hi, h => by
    have hx : l[i]? = some l[i] := List.getElem?_eq_getElem hi
    show kidN l l.length (idAt l i) = []
    rw [idAt_of hx, kid_ids hl hx]
    cases hk : kidsI l i with
    | nil => rfl
    | cons j L =>
      exfalso
      have hj : j ∈ kidsI l i := by rw [hk]; simp
      obtain ⟨h1, h2⟩ := List.mem_filter.1 hj
      have hp : parI l j = some i := by simpa using h2
      have h3 := depth_kid hl hp
      have h4 := hl.ok.tree.deep j (by simpa using h1)
      omega
  | f + 1, i, hi, h => by
    have hx : l[i]? = some l[i] := List.getElem?_eq_getElem hi
    show ∀ k ∈ kidN l l.length (idAt l i), EndsS (kidN l l.length) f k
    rw [idAt_of hx, kid_ids hl hx]
    intro k hk
    obtain ⟨j, hj, rfl⟩ := List.mem_map.1 hk
    obtain ⟨h1, h2⟩ := List.mem_filter.1 hj
    have hp : parI l j = some i := by simpa using h2
    have h3 := depth_kid hl hp
    exact ends_ids f j (by simpa using h1) (by omega)
theorem tops_ends : ∀ id ∈ topN l l.length, EndsS (kidN l l.length) 4 id := by
  intro id hid
  rw [top_ids hl] at hid
  obtain ⟨j, hj, rfl⟩ := List.mem_map.1 hid
  exact ends_ids hl 4 j (by have := (List.mem_filter.1 hj).1; simpa using this) (by omega)
theorem all_perm : ((topN l l.length).flatMap (belS (kidN l l.length) 4)).Perm (l.map idOf) := by
  have h1 : (topN l l.length).flatMap (belS (kidN l l.length) 4) = ((topsI l).flatMap (famI l 4)).map (idAt l) := by
    rw [top_ids hl, List.flatMap_map, List.map_flatMap]
    have : ∀ L : List Nat, (∀ j ∈ L, j < l.length) → L.flatMap (fun j => belS (kidN l l.length) 4 (idAt l j)) = L.flatMap fun j => (famI l 4 j).map (idAt l) := by
      intro L
      induction L with
      | nil => intro _; rfl
      | cons a L ih =>
        intro h
        rw [List.flatMap_cons, List.flatMap_cons, bel_ids hl 4 a (h a (by simp)), ih (fun j hj => h j (by simp [hj]))]
    exact this _ (fun j hj => by have := (List.mem_filter.1 hj).1; simpa using this)
  rw [h1, ← ids_range l]
  exact (fam_perm hl.ok.tree (Nat.le_refl 4)).map _
theorem kid_mem : ∀ x k, k ∈ kidN l l.length x → k.length ≤ 1000 := by
  intro x k hk
  unfold kidN at hk
  obtain ⟨y, hy, rfl⟩ := List.mem_map.1 hk
  have := (List.mem_filter.1 hy).1
  rw [List.take_length] at this
  have h := keyL_le (hl.ok.each y this).id
  have e : y.id.data.toList.length = y.id.size := by simp
  show y.id.data.toList.length ≤ 1000
  omega
theorem top_mem : ∀ k, k ∈ topN l l.length → k.length ≤ 1000 := by
  intro k hk
  unfold topN at hk
  obtain ⟨y, hy, rfl⟩ := List.mem_map.1 hk
  have := (List.mem_filter.1 hy).1
  rw [List.take_length] at this
  have h := keyL_le (hl.ok.each y this).id
  have e : y.id.data.toList.length = y.id.size := by simp
  show y.id.data.toList.length ≤ 1000
  omega
theorem bel_len (id : Str) (hid : id ∈ topN l l.length) : (belS (kidN l l.length) 4 id).length ≤ l.length := by
  have h := (all_perm hl).length_eq
  have key : ∀ L : List Str, id ∈ L → (belS (kidN l l.length) 4 id).length ≤ (L.flatMap (belS (kidN l l.length) 4)).length := by
    intro L
    induction L with
    | nil => intro hm; cases hm
    | cons a L ih =>
      intro hm
      rw [List.flatMap_cons, List.length_append]
      rcases List.mem_cons.1 hm with rfl | hm
      · omega
      · have := ih hm; omega
  have := key _ hid
  rw [h] at this
  simpa using this
end
theorem rising_le {L : List Str} (h : Rising L) : L.Pairwise fun a b => decide (a ≤ b) = true := by
  refine h.imp (fun {a b} hab => ?_)
  rw [Bool.or_eq_false_iff, bytesLess_eq, decide_eq_false_iff_not] at hab
  exact decide_eq_true (List.not_lt.1 hab.1)
theorem sort_rising {L M : List Str} (h : M.Perm L) (hr : Rising L) : (M.mergeSort fun x y => decide (x ≤ y)) = L := by
  refine List.Perm.eq_of_pairwise (le := fun a b => decide (a ≤ b) = true) (fun (a b : Str) _ _ h1 h2 => List.le_antisymm (of_decide_eq_true h1) (of_decide_eq_true h2)) ?_ (rising_le hr) ((List.mergeSort_perm _ _).trans h)
  refine List.pairwise_mergeSort (le := fun (x y : Str) => decide (x ≤ y)) (fun a b c h1 h2 => decide_eq_true (List.le_trans (of_decide_eq_true h1) (of_decide_eq_true h2))) (fun a b => ?_) _
  rcases List.le_total a b with h | h
  · rw [decide_eq_true h]; rfl
  · rw [decide_eq_true h, Bool.or_true]
end Go.Proofs.YtdojnbnhogbhiaaGreatDoor

namespace Go.Proofs.YtdojnbnhogbhiaaGreatDoor
open Go.RowKit Go.Maps

abbrev Hd3 : Type := Option Addr × Nat × Nat
def hv3 (h : Hd3) : Value := .slice h.1 h.2.1 h.2.2
/-- A family: its top, and where the ids lie. -/
def FamE : Elem ((List UInt8) × Hd3) := ⟨68, 60, 2, 40, .agg #[.string ⟨#[]⟩, .slice none 0 0], fun p => [.string ⟨p.1.toArray⟩, hv3 p.2]⟩
theorem famE_ok : FamE.Ok := ⟨fun _ => rfl, fun x u hu => by
  have hm : u ∈ [Value.string ⟨x.1.toArray⟩, hv3 x.2] := hu
  simp only [List.mem_cons, List.not_mem_nil, or_false] at hm
  rcases hm with h | h <;> (subst h; rfl), by decide, by decide, by kernel_rfl, by kernel_rfl, Tryz.underlying60⟩
theorem fam_ne : FamE.t ≠ StrE.t := by decide
end Go.Proofs.YtdojnbnhogbhiaaGreatDoor

namespace Go.Proofs.YtdojnbnhogbhiaaGreatDoor
open Go.RowKit Go.Maps

theorem tree_fam : (102 : TypeId) ≠ FamE.t := by decide
theorem fam_ne_map {w : World} {base M m : Nat} {v : Value} {l : List (Str × Hd3)} {D : DataW Value} (h : Owns FamE w base v l) (hm : w.ownsMap Tryz.prog 9 heldE M m D) : v.ownBlock ≠ some M := by
  obtain ⟨es, cl, hb, _⟩ := hm
  intro e
  rcases h.2 with ⟨rfl, _⟩ | ⟨g, cap, cur, rfl, _, hh, _⟩
  · cases e
  · have e2 : g = M := Option.some.inj e
    subst e2
    rw [hb] at hh
    cases hh
theorem TreeAt.besideFam {w w' : World} {base base' M m : Nat} {D : DataW Value} {hd : Str → Value} {kid : Str → List Str} {tv v : Value} {tl : List Str} {P : List (Str × Hd3)} (h : TreeAt w base M m D hd kid tv tl) (ho : Owns FamE w base' v P) (hg : w.grownBy w' v.ownBlock) : TreeAt w' base M m D hd kid tv tl :=
  ⟨h.map.kept hg (fun e => fam_ne_map ho h.map e.symm), h.at_, fun id => Owns.beside (h.row id) ho fam_ne hg, h.apart, Owns.beside h.tops ho fam_ne hg, h.topa⟩
/-- The families: their tops, and the ids of each. -/
structure FamsIn (w : World) (base : Nat) (v : Value) (P : List (Str × Hd3)) (tl : List Str) (items : Str → List Str) : Prop where
  own : Owns FamE w base v P
  tops : P.map (·.1) = tl
  row : ∀ p ∈ P, OwnStrs w base (hv3 p.2) (items p.1)
theorem FamsIn.keep {w w' : World} {base : Nat} {v : Value} {P : List (Str × Hd3)} {tl : List Str} {items : Str → List Str} (h : FamsIn w base v P tl items) (hb : Below w.heap.size w w') : FamsIn w' base v P tl items :=
  ⟨h.own.below_ hb, h.tops, fun p hp => (h.row p hp).below_ hb⟩
def FamPost (w : World) (l : List Itm) (e : Ending) (w' : World) : Prop :=
  ∃ v P, e = .returned (.tuple #[v, .int .i64 0]) ∧ FamsIn w' w.heap.size v P (topN l l.length) (belS (kidN l l.length) 4) ∧ Below w.heap.size w w'
set_option maxHeartbeats 1600000 in
set_option maxRecDepth 100000 in
theorem families_any (A : Option Addr) (n c : Nat) (l : List Itm) (w : World) (h : ItemsAt w A n c l) (hl : SetR l) (hT : Tabs w) (hM : MaxAt w) :
    Calls Tryz.prog 24 #[.slice A n c] w (FamPost w l) := by
  have HC := Lib.hid (check_ok A n c l w h hl hT hM)
  have HNT := Lib.hid (fun wx (hb : Below w.heap.size w wx) => newTree_any A n c l wx (h.keep hb) hl.set)
  have HL := Lib.hid hl
  have hfew := hl.set.few
  clear h hl hT hM
  go_enter Tryz.func24, Tryz.ntmps24
  go_wp2_with fail
  refine HC.out.mono ?_
  rintro e w1 ⟨rfl, hb1⟩
  have HB1 := Lib.hid hb1
  have HNX := Lib.hid (HNT.out w1 hb1)
  clear hb1 HC HNT
  go_wp2_with fail
  refine HNX.out.mono ?_
  rintro e w2 ⟨Mi, Mk, m, tv, D, hd, rfl, hmi, htr, hb2⟩
  obtain ⟨A5, c5, hv9, -, -, -⟩ := htr.tops.at_ strE_ok
  subst hv9
  have hz1 := HB1.out.size
  have hb3 : Below w2.heap.size w2 (w2.alloc (.cells #[.map (some Mi), .map (some Mk), .slice A5 (topN l l.length).length c5] 102)) := (Below.refl _ _).alloc (Nat.le_refl _) _
  have HT3 : Hid (TB (w2.alloc (.cells #[.map (some Mi), .map (some Mk), .slice A5 (topN l l.length).length c5] 102)) w2.heap.size (.map (some Mi)) (.map (some Mk)) (.slice A5 (topN l l.length).length c5)) := heap_alloc_new w2 _
  have HTR3 := Lib.hid (htr.keep hb3)
  have HB3 := Lib.hid ((HB1.out.trans (hb2.mono hz1)).trans (hb3.mono (Nat.le_trans hz1 hb2.size)))
  have hz2 := hb2.size
  clear hmi htr hb2 HNX
  go_upto_region 5 with (fail)
  obtain ⟨T, hT⟩ : ∃ T, T = w2.heap.size := ⟨_, rfl⟩
  rw [← hT] at HT3 ⊢
  have HTW : Hid (w1.heap.size ≤ T) := by show _ ≤ _; omega
  generalize w2.alloc (.cells #[.map (some Mi), .map (some Mk), .slice A5 (topN l l.length).length c5] 102) = w3 at *
  clear hT hb3 hz2
  obtain ⟨t0, t1, t2, f0, f1, f2⟩ := HT3.out.c
  have HTOP := Lib.hid (tops_ends HL.out.set)
  have HTM := Lib.hid (top_mem HL.out.set)
  have HKM := Lib.hid (kid_mem HL.out.set)
  have HBN : Hid (∀ x, x ∈ topN l l.length → (belS (kidN l l.length) 4 x).length ≤ 2000) := fun x hx => Nat.le_trans (bel_len HL.out.set x hx) hfew
  have HKL : Hid (∀ x, (kidN l l.length x).length ≤ 5000) := fun x => Nat.le_trans (kidN_len l l.length x) (by omega)
  have htn := topN_len l l.length
  have HPOST : Hid (∀ v P wr, FamsIn wr w.heap.size v P (topN l l.length) (belS (kidN l l.length) 4) → Below w.heap.size w wr → FamPost w l (.returned (.tuple #[v, .int .i64 0])) wr) := fun v P wr h1 h2 => ⟨v, P, rfl, h1, h2⟩
  have HBF : Hid (∀ (A : Option Addr) (n0 c0 : Nat) (x : Str), x ∈ topN l l.length → ∀ wx, KidsK wx Mk (kidN l l.length) → Calls Tryz.prog 52 #[.agg #[.map (some Mi), .map (some Mk), .slice A n0 c0], .string ⟨x.toArray⟩] wx (BelPost wx (belS (kidN l l.length) 4 x))) := fun A n0 c0 x hx wx hk => belowT_any Mi Mk A n0 c0 (kidN l l.length) HKM.out HKL.out 4 x wx hk (HTM.out _ hx) (HTOP.out _ hx) (Nat.le_trans (HBN.out _ hx) (by omega))
  clear HTOP HTM HKM HKL
  generalize belS (kidN l l.length) 4 = itms at *
  generalize topN l l.length = tl at *
  generalize kidN l l.length = kid at *
  obtain ⟨nt, hnt⟩ : ∃ nt, nt = tl.length := ⟨_, rfl⟩
  rw [← hnt] at t2 HT3 HTR3 htn
  rw [← hnt]
  have HNT : Hid (nt = tl.length) := hnt
  clear hnt
  go_wp2_with fail
  clear t0 t1 t2 f0 f1 f2
  go_loopg [6, 19] nt (fun gk v6 v wr => ∃ (k : Nat) (P : List (Str × Hd3)), Hid (k + gk = nt) ∧ v = .int .i64 (k : Int) ∧ Hid (FamsIn wr w.heap.size v6 P (tl.take k) itms) ∧ Hid (TB wr T (.map (some Mi)) (.map (some Mk)) (.slice A5 nt c5)) ∧ Hid (TreeAt wr w1.heap.size Mk m D hd kid (.slice A5 nt c5) tl) ∧ Hid (Below w.heap.size w wr))
  case atStart => exact ⟨0, [], show 0 + nt = nt by omega, rfl, ⟨Owns.nil _ _, rfl, fun p hp => by cases hp⟩, HT3.out, HTR3.out, HB3.out⟩
  case round =>
    obtain ⟨k, P, HK, rfl, HF, HT, HTR, HB⟩ := hrel
    clear HT3 HTR3 HB3
    have hkn : k ≤ nt := by have := HK.out; omega
    by_cases hlt : k < nt
    · have HGK := Lib.hid (show k + 1 + (gk - 1) = nt ∧ 0 < gk by have := HK.out; omega)
      obtain ⟨A7, c7, hv7, -, hat7, -⟩ := HTR.out.tops.at_ strE_ok
      simp only [Value.slice.injEq] at hv7
      obtain ⟨rfl, hn7, rfl⟩ := hv7
      rw [← hn7] at hat7
      obtain ⟨g, off, rfl, hg, hc⟩ := hat7.str (by omega)
      have hck := hc k hlt
      have hkl : k < tl.length := by have := HNT.out; omega
      have hmem : tl.getD k [] ∈ tl := by rw [List.getD_eq_getElem?_getD, List.getElem?_eq_getElem hkl]; exact List.getElem_mem hkl
      have HTK : Hid (tl.take (k + 1) = tl.take k ++ [tl.getD k []]) := by show _ = _; rw [List.take_succ_eq_append_getElem hkl]; simp [hkl]
      have hbl := HBN.out _ hmem
      have HBX := Lib.hid (HBF.out (some ⟨g, off, none⟩) nt c5 (tl.getD k []) hmem wr HTR.out.kids)
      have hPl : P.length = k := by
        have := congrArg List.length HF.out.tops
        rw [List.length_map, List.length_take] at this
        omega
      obtain ⟨t0, t1, t2, f0, f1, f2⟩ := HT.out.c
      generalize tl.getD k [] = x at *
      have HPL : Hid (P.length ≤ 2000) := by show _ ≤ _; omega
      clear hc hat7 hg hkl hmem HK hn7 hPl
      go_wp2_with fail
      refine HBX.out.mono ?_
      rintro e w4 ⟨v4, rfl, hown4, hb4⟩
      obtain ⟨A4, c4, hv4, -, -, -⟩ := hown4.at_ strE_ok
      subst hv4
      have HO4 : Hid (OwnStrs w4 w.heap.size (hv3 (A4, (itms x).length, c4)) (itms x)) := hown4.base_ HB.out.size
      have HF4 := Lib.hid (HF.out.keep hb4)
      have HT4 := Lib.hid (HT.out.keep hb4)
      have HTR4 := Lib.hid (HTR.out.keep hb4)
      have HB4 := Lib.hid (HB.out.trans (hb4.mono HB.out.size))
      have hzb := HB4.out.size
      have HONE : Hid (ElemsAt FamE (w4.alloc (.cells #[.string ⟨x.toArray⟩, .slice A4 (itms x).length c4] 68)) (some ⟨w4.heap.size, 0, none⟩) 1 1 [(x, (A4, (itms x).length, c4))]) := one_elem (E := FamE) w4 (x, (A4, (itms x).length, c4))
      clear hown4 hb4 HF HT HTR HB HBX t0 t1 t2 f0 f1 f2 hck
      go_wp2_with (at_builtin; refine append_elems famE_ok rfl _ _ rfl w.heap.size u6 P rfl (World.ownsRow.alloc HF4.out.own _) (some ⟨w4.heap.size, 0, none⟩) 1 1 [(x, (A4, (itms x).length, c4))] rfl HONE.out (by have := HPL.out; simp; omega) (by simp; omega) ?_; intro v5 w5 hown5 hgrow5 hv5)
      have hbo : Below w4.heap.size w4 (w4.alloc (.cells #[.string ⟨x.toArray⟩, .slice A4 (itms x).length c4] 68)) := (Below.refl _ _).alloc (Nat.le_refl _) _
      have hof : Owns FamE (w4.alloc (.cells #[.string ⟨x.toArray⟩, .slice A4 (itms x).length c4] 68)) w.heap.size u6 P := World.ownsRow.alloc HF4.out.own _
      have HF5 : Hid (FamsIn w5 w.heap.size v5 (P ++ [(x, (A4, (itms x).length, c4))]) (tl.take (k + 1)) itms) := by
        refine ⟨hown5, by rw [HTK.out, List.map_append, HF4.out.tops]; rfl, fun p hp => ?_⟩
        rcases List.mem_append.1 hp with hp | hp
        · exact Owns.beside ((HF4.out.row p hp).below_ hbo) hof fam_ne hgrow5
        · rw [List.mem_singleton.1 hp]
          exact Owns.beside (HO4.out.below_ hbo) hof fam_ne hgrow5
      have HT5 : Hid (TB w5 T (.map (some Mi)) (.map (some Mk)) (.slice (some ⟨g, off, none⟩) nt c5)) := (hgrow5.block T (by simp; have := HT4.out.lt; omega) (fun e => Owns.ne_block hof (HT4.out.keep hbo) tree_fam e.symm)).trans (HT4.out.keep hbo)
      have HTR5 := Lib.hid ((HTR4.out.keep hbo).besideFam hof hgrow5)
      have HB5 : Hid (Below w.heap.size w w5) := (HB4.out.alloc hzb _).grown hgrow5 (by simp; omega) (fun i e => (hof.lt i e).1)
      clear hown5 hgrow5 hv5 hbo hof
      go_wp2_with fail
      go_roundg (gk - 1)
      case measure => exact Nat.sub_lt HGK.out.2 Nat.one_pos
      case rel => exact ⟨k + 1, _, HGK.out.1, by go_num, HF5.out, HT5.out, HTR5.out, HB5.out⟩
    · have hnk : ¬ (k : Int) < (nt : Int) := by omega
      have hta : tl.take k = tl := List.take_of_length_le (by have := HNT.out; omega)
      rw [hta] at HF
      have HFF := Lib.hid (HPOST.out _ P wr HF.out HB.out)
      clear hta
      go_wp2_with fail
      go_ret2
      exact HFF.out
end Go.Proofs.YtdojnbnhogbhiaaGreatDoor
