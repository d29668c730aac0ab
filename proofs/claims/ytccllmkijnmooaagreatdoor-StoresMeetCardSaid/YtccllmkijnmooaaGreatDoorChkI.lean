
/-
  intake.Check accepts right items.
-/
import Derived.Test.YtccllmkijnmooaaGreatDoorPlaced
import Derived.Test.YtccllmkijnmooaaGreatDoorLay
import Derived.Deep.RegionHeld3
namespace Go.Proofs.YtccllmkijnmooaaGreatDoor
open Go.RowKit Go.Maps

/-- Right items in the order of their ids. -/
structure SetR (l : List Itm) : Prop where
  set : SetI l
  rise : Rising (l.map fun x => x.id.data.toList)
theorem SetR.at_ {l : List Itm} (h : SetR l) {k : Nat} {x y : Itm} (h0 : 0 < k) (hx : l[k]? = some x) (hy : l[k - 1]? = some y) : (Op.bytesLess x.id.data.toList y.id.data.toList || x.id.data.toList == y.id.data.toList) = false := by
  have hk := (List.getElem?_eq_some_iff.1 hx).1
  have := h.rise.at_ h0 (by simpa using hk)
  simpa [List.getD_eq_getElem?_getD, hx, hy] using this
set_option maxHeartbeats 6400000 in
set_option maxRecDepth 100000 in
theorem check_ok (A : Option Addr) (n c : Nat) (l : List Itm) (w : World) (h : ItemsAt w A n c l) (hl : SetR l) (hT : Tabs w) (hM : MaxAt w) :
    Calls Tryz.prog 14 #[.slice A n c] w (OkPost w) := by
  have HN := Lib.hid h.1
  have HH := Lib.hid h
  have HL := Lib.hid hl
  have hn : n ≤ 2000 := by have := hl.set.few; have := h.1; omega
  have HTT : Hid (∀ w', Below w.heap.size w w' → Tabs w' ∧ MaxAt w') := fun w' hb => ⟨Tabs.below hT hb, MaxAt.below hM hb⟩
  have HBY := Lib.hid (fun wx (hb : Below w.heap.size w wx) => byId_any A n c l wx (h.keep hb) hl.set)
  have hni : ¬ (2000 : Int) < (n : Int) := by omega
  clear h hl hT hM
  go_enter Tryz.func14, Tryz.ntmps14
  go_wp2_with fail
  go_loopg [23] n (fun gk v wr => ∃ k : Nat, Hid (k + gk = n) ∧ v = .int .i64 (k : Int) ∧ Hid (Below w.heap.size w wr))
  case atStart => exact ⟨0, show 0 + n = n by omega, rfl, Below.refl _ _⟩
  case round =>
    obtain ⟨k, HK, rfl, HW⟩ := hrel
    have hkn : k ≤ n := by have := HK.out; omega
    by_cases hlt : k < n
    · have HGK := Lib.hid (show k + 1 + (gk - 1) = n ∧ 0 < gk by have := HK.out; omega)
      obtain ⟨g, off, rfl, hg, hc⟩ := (ElemsAt.keep HH.out HW.out).item (by omega)
      have hkl : k < l.length := by have := HN.out; omega
      obtain ⟨x, hx⟩ : ∃ x, l[k]? = some x := ⟨_, List.getElem?_eq_getElem hkl⟩
      obtain ⟨c0, c1, c2, c3, c4, c5, c6⟩ := hc k x hx
      have hmem := List.mem_of_getElem? hx
      have HX := Lib.hid hx
      have HC := Lib.hid hc
      have HGL := Lib.hid hg
      have hb1 : Below wr.heap.size wr (wr.alloc (.cells #[.string x.id, .string x.cu, .int .i64 x.kind, .string x.name, .int .i64 x.at_, .string x.par, .string x.text] 35)) := (Below.refl _ _).alloc (Nat.le_refl _) _
      have HI1 : Hid (ItemAt (wr.alloc (.cells #[.string x.id, .string x.cu, .int .i64 x.kind, .string x.name, .int .i64 x.at_, .string x.par, .string x.text] 35)) wr.heap.size x) := item_new wr x
      have HBE := Lib.hid hb1
      have HW1 := Lib.hid (HW.out.trans (hb1.mono HW.out.size))
      clear hc hx hkl HK hb1 hg
      go_upto_region 6 with (fail)
      obtain ⟨P, hP⟩ : ∃ P, P = wr.heap.size := ⟨_, rfl⟩
      rw [← hP] at HI1 ⊢
      generalize wr.alloc (.cells #[.string x.id, .string x.cu, .int .i64 x.kind, .string x.name, .int .i64 x.at_, .string x.par, .string x.text] 35) = w1 at *
      have HCI := Lib.hid (fun wx (hb : Below w1.heap.size w1 wx) => checkItem_ok x wx (HL.out.set.ok.each x hmem) (HTT.out wx (HW1.out.trans (hb.mono HW1.out.size))).1 (HTT.out wx (HW1.out.trans (hb.mono HW1.out.size))).2)
      clear hP c0 c1 c2 c3 c4 c5 c6 hmem
      obtain ⟨c0, c1, c2, c3, c4, c5, c6⟩ := HI1.out.c
      unfold Itm.v at HCI
      go_cut [5] (fun v wx => v = .int .i64 0 ∧ Below w1.heap.size w1 wx)
      case first =>
        by_cases h0 : k = 0
        · subst h0
          have HHELD : Hid (∀ w', Below w1.heap.size w1 w' → w'.cell? ⟨P, 0, none⟩ = some (.string x.id) ∧ w'.cell? ⟨P, 1, none⟩ = some (.string x.cu) ∧ w'.cell? ⟨P, 2, none⟩ = some (.int .i64 x.kind) ∧ w'.cell? ⟨P, 3, none⟩ = some (.string x.name) ∧ w'.cell? ⟨P, 4, none⟩ = some (.int .i64 x.at_) ∧ w'.cell? ⟨P, 5, none⟩ = some (.string x.par) ∧ w'.cell? ⟨P, 6, none⟩ = some (.string x.text) ∧ Below w1.heap.size w1 w') := fun w' hb => by
            obtain ⟨d0, d1, d2, d3, d4, d5, d6⟩ := (HI1.out.keep hb).c
            exact ⟨d0, d1, d2, d3, d4, d5, d6, hb⟩
          refine wp_region_held_drew (S := fun w' => w'.cell? ⟨P, 0, none⟩ = some (.string x.id) ∧ w'.cell? ⟨P, 1, none⟩ = some (.string x.cu) ∧ w'.cell? ⟨P, 2, none⟩ = some (.int .i64 x.kind) ∧ w'.cell? ⟨P, 3, none⟩ = some (.string x.name) ∧ w'.cell? ⟨P, 4, none⟩ = some (.int .i64 x.at_) ∧ w'.cell? ⟨P, 5, none⟩ = some (.string x.par) ∧ w'.cell? ⟨P, 6, none⟩ = some (.string x.text) ∧ Below w1.heap.size w1 w') (by kernel_rfl) (HHELD.out _ (Below.refl _ _).drew) (fun hHeld => ?_)
          refine wpAnyH_take (i := 0) (oi := ⟨some 28, _, _, _, _, _⟩) (v := .agg #[.string x.id, .string x.cu, .int .i64 x.kind, .string x.name, .int .i64 x.at_, .string x.par, .string x.text]) rfl (by kernel_rfl) (by kernel_rfl) (by kernel_rfl) (fun _ _ _ h => h) (Or.inl ⟨by rfl, ?_⟩) hHeld ?_
          · intro w hSw
            (try dsimp only at hSw)
            go_simp
          simp only [Act.put, List.setIfInBounds_toArray, List.set_cons_zero, List.set_cons_succ]
          refine wpAnyH_take (i := 2) (oi := ⟨some 30, _, _, _, _, _⟩) (v := .int .i64 0) rfl (by kernel_rfl) (by kernel_rfl) (by kernel_rfl) (fun _ _ _ h => h) (Or.inl ⟨by rfl, ?_⟩) hHeld ?_
          · intro w hSw
            (try dsimp only at hSw)
            go_simp
          simp only [Act.put, List.setIfInBounds_toArray, List.set_cons_zero, List.set_cons_succ]
          refine wpAnyH_take (i := 3) (oi := ⟨some 31, _, _, _, _, _⟩) (v := .bool false) rfl (by kernel_rfl) (by kernel_rfl) (by kernel_rfl) (fun _ _ _ h => h) (Or.inl ⟨by rfl, ?_⟩) hHeld ?_
          · intro w hSw
            (try dsimp only at hSw)
            go_simp
          simp only [Act.put, List.setIfInBounds_toArray, List.set_cons_zero, List.set_cons_succ]
          refine wpAnyH_ready (rs := [1]) (by kernel_rfl) (by simp) ?_
          refine AllReadyH.cons (o := ⟨some 29, _, _, _, _, _⟩) rfl (fun K hK => ?_) AllReadyH.nil
          rw [if_pos (by rfl)]
          go_wp2_with fail
          refine Calls.mono (HCI.out _ (Below.refl _ _).drew) ?_
          rintro e w6 ⟨rfl, hb6⟩
          have hx0 : Below w1.heap.size w1 w6 := by first | exact hb6 | exact belowUI hb6 | fail
          clear hHeld hb6
          refine hK.out _ _ (HHELD.out _ hx0) (fun hHeld => ?_)
          clear hK
          (try simp only [Act.put, List.setIfInBounds_toArray, List.set_cons_zero, List.set_cons_succ])
          refine wpAnyH_take (i := 4) (oi := ⟨some 32, _, _, _, _, _⟩) (v := .bool false) rfl (by kernel_rfl) (by kernel_rfl) (by kernel_rfl) (fun _ _ _ h => h) (Or.inl ⟨by rfl, ?_⟩) hHeld ?_
          · intro w hSw
            (try dsimp only at hSw)
            go_simp
          simp only [Act.put, List.setIfInBounds_toArray, List.set_cons_zero, List.set_cons_succ]
          refine wpAnyH_take (i := 5) (oi := ⟨some 33, _, _, _, _, _⟩) (v := undef) rfl (by kernel_rfl) (by kernel_rfl) (by kernel_rfl) (fun _ _ _ h => h) (Or.inr ⟨by rfl, rfl⟩) hHeld ?_
          simp only [Act.put, List.setIfInBounds_toArray, List.set_cons_zero, List.set_cons_succ]
          refine wpAnyH_take (i := 6) (oi := ⟨some 34, _, _, _, _, _⟩) (v := undef) rfl (by kernel_rfl) (by kernel_rfl) (by kernel_rfl) (fun _ _ _ h => h) (Or.inr ⟨by rfl, rfl⟩) hHeld ?_
          simp only [Act.put, List.setIfInBounds_toArray, List.set_cons_zero, List.set_cons_succ]
          refine wpAnyH_take (i := 7) (oi := ⟨some 35, _, _, _, _, _⟩) (v := undef) rfl (by kernel_rfl) (by kernel_rfl) (by kernel_rfl) (fun _ _ _ h => h) (Or.inr ⟨by rfl, rfl⟩) hHeld ?_
          simp only [Act.put, List.setIfInBounds_toArray, List.set_cons_zero, List.set_cons_succ]
          refine wpAnyH_take (i := 8) (oi := ⟨some 36, _, _, _, _, _⟩) (v := undef) rfl (by kernel_rfl) (by kernel_rfl) (by kernel_rfl) (fun _ _ _ h => h) (Or.inr ⟨by rfl, rfl⟩) hHeld ?_
          simp only [Act.put, List.setIfInBounds_toArray, List.set_cons_zero, List.set_cons_succ]
          refine wpAnyH_take (i := 9) (oi := ⟨some 37, _, _, _, _, _⟩) (v := undef) rfl (by kernel_rfl) (by kernel_rfl) (by kernel_rfl) (fun _ _ _ h => h) (Or.inr ⟨by rfl, rfl⟩) hHeld ?_
          simp only [Act.put, List.setIfInBounds_toArray, List.set_cons_zero, List.set_cons_succ]
          refine wpAnyH_take (i := 10) (oi := ⟨some 38, _, _, _, _, _⟩) (v := undef) rfl (by kernel_rfl) (by kernel_rfl) (by kernel_rfl) (fun _ _ _ h => h) (Or.inr ⟨by rfl, rfl⟩) hHeld ?_
          simp only [Act.put, List.setIfInBounds_toArray, List.set_cons_zero, List.set_cons_succ]
          refine wpAnyH_take (i := 11) (oi := ⟨some 39, _, _, _, _, _⟩) (v := undef) rfl (by kernel_rfl) (by kernel_rfl) (by kernel_rfl) (fun _ _ _ h => h) (Or.inr ⟨by rfl, rfl⟩) hHeld ?_
          simp only [Act.put, List.setIfInBounds_toArray, List.set_cons_zero, List.set_cons_succ]
          refine wpAnyH_take (i := 12) (oi := ⟨some 40, _, _, _, _, _⟩) (v := undef) rfl (by kernel_rfl) (by kernel_rfl) (by kernel_rfl) (fun _ _ _ h => h) (Or.inr ⟨by rfl, rfl⟩) hHeld ?_
          simp only [Act.put, List.setIfInBounds_toArray, List.set_cons_zero, List.set_cons_succ]
          refine wpAnyH_take (i := 13) (oi := ⟨some 41, _, _, _, _, _⟩) (v := undef) rfl (by kernel_rfl) (by kernel_rfl) (by kernel_rfl) (fun _ _ _ h => h) (Or.inr ⟨by rfl, rfl⟩) hHeld ?_
          simp only [Act.put, List.setIfInBounds_toArray, List.set_cons_zero, List.set_cons_succ]
          refine wpAnyH_take (i := 14) (oi := ⟨some 42, _, _, _, _, _⟩) (v := undef) rfl (by kernel_rfl) (by kernel_rfl) (by kernel_rfl) (fun _ _ _ h => h) (Or.inr ⟨by rfl, rfl⟩) hHeld ?_
          simp only [Act.put, List.setIfInBounds_toArray, List.set_cons_zero, List.set_cons_succ]
          refine wpAnyH_take (i := 15) (oi := ⟨some 43, _, _, _, _, _⟩) (v := .bool false) rfl (by kernel_rfl) (by kernel_rfl) (by kernel_rfl) (fun _ _ _ h => h) (Or.inl ⟨by rfl, ?_⟩) hHeld ?_
          · intro w hSw
            (try dsimp only at hSw)
            go_simp
          simp only [Act.put, List.setIfInBounds_toArray, List.set_cons_zero, List.set_cons_succ]
          refine wpAnyH_ready (rs := [16]) (by kernel_rfl) (by simp) ?_
          refine AllReadyH.cons (o := ⟨some 44, _, _, _, _, _⟩) rfl (fun K hK => ?_) AllReadyH.nil
          rw [if_pos (by rfl)]
          go_wp2_with fail
          refine Calls.mono (when_any false 7 _) ?_
          rintro e w7 ⟨rfl, hw7⟩
          subst hw7
          clear hHeld
          refine hK.out _ _ (HHELD.out _ hx0) (fun hHeld => ?_)
          clear hK
          (try simp only [Act.put, List.setIfInBounds_toArray, List.set_cons_zero, List.set_cons_succ])
          refine wpAnyH_ready (rs := [17]) (by kernel_rfl) (by simp) ?_
          refine AllReadyH.cons (o := ⟨some 45, _, _, _, _, _⟩) rfl (fun K hK => ?_) AllReadyH.nil
          rw [if_pos (by rfl)]
          go_wp2_with fail
          clear hHeld
          refine hK.out _ _ (HHELD.out _ (hx0.alloc hx0.size _)) (fun hHeld => ?_)
          clear hK
          (try simp only [Act.put, List.setIfInBounds_toArray, List.set_cons_zero, List.set_cons_succ])
          refine wpAnyH_ready (rs := [18]) (by kernel_rfl) (by simp) ?_
          refine AllReadyH.cons (o := ⟨some 46, _, _, _, _, _⟩) rfl (fun K hK => ?_) AllReadyH.nil
          rw [if_pos (by rfl)]
          go_wp2_with fail
          refine Calls.mono (first_2z _ _ rfl _) ?_
          rintro e w8 ⟨rfl, hw8⟩
          have hy0 : Below w1.heap.size w1 w8 := by rw [← hw8]; exact hx0.alloc hx0.size _
          clear hHeld hw8
          refine hK.out _ _ (HHELD.out _ hy0) (fun hHeld => ?_)
          clear hK
          (try simp only [Act.put, List.setIfInBounds_toArray, List.set_cons_zero, List.set_cons_succ])
          refine wpAnyH_take (i := 19) (oi := ⟨some 5, _, _, _, _, _⟩) (v := .int .i64 0) rfl (by kernel_rfl) (by kernel_rfl) (by kernel_rfl) (fun _ _ _ h => h) (Or.inl ⟨by rfl, ?_⟩) hHeld ?_
          · intro w hSw
            (try dsimp only at hSw)
            go_simp
          simp only [Act.put, List.setIfInBounds_toArray, List.set_cons_zero, List.set_cons_succ]
          refine wpAnyH_done (by kernel_rfl) ?_ _
          go_wp2_with fail
          go_meet
          exact ⟨rfl, hy0⟩
        · have hk0 : 0 < k := by omega
          obtain ⟨y, hy⟩ : ∃ y, l[k - 1]? = some y := ⟨_, List.getElem?_eq_getElem (by have := HN.out; omega)⟩
          have hle := HL.out.at_ hk0 HX.out hy
          have HY0 : Hid (∀ w', Below w1.heap.size w1 w' → w'.cell? ⟨g, off + (k - 1) * 7, none⟩ = some (.string y.id)) := fun w' hb => ((HBE.out.trans (hb.mono HBE.out.size)).cell (p := ⟨g, off + (k - 1) * 7, none⟩) HGL.out).trans (HC.out (k - 1) y hy).1
          have hki : (0 : Int) < (k : Int) := by omega
          have hmax : max (k : Int) 1 = (k : Int) := by omega
          have hle2 : (Op.bytesLess x.id.toList y.id.toList || x.id.toList == y.id.toList) = false := by rw [Lib.toList_data, Lib.toList_data]; exact hle
          have HHELD : Hid (∀ w', Below w1.heap.size w1 w' → w'.cell? ⟨P, 0, none⟩ = some (.string x.id) ∧ w'.cell? ⟨P, 1, none⟩ = some (.string x.cu) ∧ w'.cell? ⟨P, 2, none⟩ = some (.int .i64 x.kind) ∧ w'.cell? ⟨P, 3, none⟩ = some (.string x.name) ∧ w'.cell? ⟨P, 4, none⟩ = some (.int .i64 x.at_) ∧ w'.cell? ⟨P, 5, none⟩ = some (.string x.par) ∧ w'.cell? ⟨P, 6, none⟩ = some (.string x.text) ∧ w'.cell? ⟨g, off + (k - 1) * 7, none⟩ = some (.string y.id) ∧ Below w1.heap.size w1 w') := fun w' hb => by
            obtain ⟨d0, d1, d2, d3, d4, d5, d6⟩ := (HI1.out.keep hb).c
            exact ⟨d0, d1, d2, d3, d4, d5, d6, HY0.out w' hb, hb⟩
          have hy0' := HY0.out w1 (Below.refl _ _)
          have hkj0 : (0 : Int) ≤ (k : Int) - 1 := by omega
          have hkj1 : (k : Int) - 1 < (n : Int) := by omega
          clear hle HY0 hy
          generalize y.id = yid at *
          refine wp_region_held_drew (S := fun w' => w'.cell? ⟨P, 0, none⟩ = some (.string x.id) ∧ w'.cell? ⟨P, 1, none⟩ = some (.string x.cu) ∧ w'.cell? ⟨P, 2, none⟩ = some (.int .i64 x.kind) ∧ w'.cell? ⟨P, 3, none⟩ = some (.string x.name) ∧ w'.cell? ⟨P, 4, none⟩ = some (.int .i64 x.at_) ∧ w'.cell? ⟨P, 5, none⟩ = some (.string x.par) ∧ w'.cell? ⟨P, 6, none⟩ = some (.string x.text) ∧ w'.cell? ⟨g, off + (k - 1) * 7, none⟩ = some (.string yid) ∧ Below w1.heap.size w1 w') (by kernel_rfl) (HHELD.out _ (Below.refl _ _).drew) (fun hHeld => ?_)
          refine wpAnyH_take (i := 0) (oi := ⟨some 28, _, _, _, _, _⟩) (v := .agg #[.string x.id, .string x.cu, .int .i64 x.kind, .string x.name, .int .i64 x.at_, .string x.par, .string x.text]) rfl (by kernel_rfl) (by kernel_rfl) (by kernel_rfl) (fun _ _ _ h => h) (Or.inl ⟨by rfl, ?_⟩) hHeld ?_
          · intro w hSw
            (try dsimp only at hSw)
            go_simp
          simp only [Act.put, List.setIfInBounds_toArray, List.set_cons_zero, List.set_cons_succ]
          refine wpAnyH_take (i := 2) (oi := ⟨some 30, _, _, _, _, _⟩) (v := .int .i64 (k : Int)) rfl (by kernel_rfl) (by kernel_rfl) (by kernel_rfl) (fun _ _ _ h => h) (Or.inl ⟨by rfl, ?_⟩) hHeld ?_
          · intro w hSw
            (try dsimp only at hSw)
            go_simp
          simp only [Act.put, List.setIfInBounds_toArray, List.set_cons_zero, List.set_cons_succ]
          refine wpAnyH_take (i := 3) (oi := ⟨some 31, _, _, _, _, _⟩) (v := .bool true) rfl (by kernel_rfl) (by kernel_rfl) (by kernel_rfl) (fun _ _ _ h => h) (Or.inl ⟨by rfl, ?_⟩) hHeld ?_
          · intro w hSw
            (try dsimp only at hSw)
            go_simp
          simp only [Act.put, List.setIfInBounds_toArray, List.set_cons_zero, List.set_cons_succ]
          refine wpAnyH_ready (rs := [1]) (by kernel_rfl) (by simp) ?_
          refine AllReadyH.cons (o := ⟨some 29, _, _, _, _, _⟩) rfl (fun K hK => ?_) AllReadyH.nil
          rw [if_pos (by rfl)]
          go_wp2_with fail
          refine Calls.mono (HCI.out _ (Below.refl _ _).drew) ?_
          rintro e w6 ⟨rfl, hb6⟩
          have hx0 : Below w1.heap.size w1 w6 := by first | exact hb6 | exact belowUI hb6 | fail
          clear hHeld hb6
          refine hK.out _ _ (HHELD.out _ hx0) (fun hHeld => ?_)
          clear hK
          (try simp only [Act.put, List.setIfInBounds_toArray, List.set_cons_zero, List.set_cons_succ])
          refine wpAnyH_take (i := 4) (oi := ⟨some 32, _, _, _, _, _⟩) (v := .bool true) rfl (by kernel_rfl) (by kernel_rfl) (by kernel_rfl) (fun _ _ _ h => h) (Or.inl ⟨by rfl, ?_⟩) hHeld ?_
          · intro w hSw
            (try dsimp only at hSw)
            go_simp
          simp only [Act.put, List.setIfInBounds_toArray, List.set_cons_zero, List.set_cons_succ]
          refine wpAnyH_take (i := 5) (oi := ⟨some 33, _, _, _, _, _⟩) (v := .pointer (some ⟨P, 0, none⟩)) rfl (by kernel_rfl) (by kernel_rfl) (by kernel_rfl) (fun _ _ _ h => h) (Or.inl ⟨by rfl, ?_⟩) hHeld ?_
          · intro w hSw
            (try dsimp only at hSw)
            go_simp
          simp only [Act.put, List.setIfInBounds_toArray, List.set_cons_zero, List.set_cons_succ]
          refine wpAnyH_take (i := 6) (oi := ⟨some 34, _, _, _, _, _⟩) (v := .string x.id) rfl (by kernel_rfl) (by kernel_rfl) (by kernel_rfl) (fun _ _ _ h => h) (Or.inl ⟨by rfl, ?_⟩) hHeld ?_
          · intro w hSw
            (try dsimp only at hSw)
            go_simp
          simp only [Act.put, List.setIfInBounds_toArray, List.set_cons_zero, List.set_cons_succ]
          refine wpAnyH_take (i := 7) (oi := ⟨some 35, _, _, _, _, _⟩) (v := .slice (some ⟨g, off, none⟩) n c) rfl (by kernel_rfl) (by kernel_rfl) (by kernel_rfl) (fun _ _ _ h => h) (Or.inl ⟨by rfl, ?_⟩) hHeld ?_
          · intro w hSw
            (try dsimp only at hSw)
            go_simp
          simp only [Act.put, List.setIfInBounds_toArray, List.set_cons_zero, List.set_cons_succ]
          refine wpAnyH_take (i := 8) (oi := ⟨some 36, _, _, _, _, _⟩) (v := .int .i64 (k : Int)) rfl (by kernel_rfl) (by kernel_rfl) (by kernel_rfl) (fun _ _ _ h => h) (Or.inl ⟨by rfl, ?_⟩) hHeld ?_
          · intro w hSw
            (try dsimp only at hSw)
            go_simp
          simp only [Act.put, List.setIfInBounds_toArray, List.set_cons_zero, List.set_cons_succ]
          refine wpAnyH_take (i := 9) (oi := ⟨some 37, _, _, _, _, _⟩) (v := .int .i64 (k : Int)) rfl (by kernel_rfl) (by kernel_rfl) (by kernel_rfl) (fun _ _ _ h => h) (Or.inl ⟨by rfl, ?_⟩) hHeld ?_
          · intro w hSw
            (try dsimp only at hSw)
            go_simp
          simp only [Act.put, List.setIfInBounds_toArray, List.set_cons_zero, List.set_cons_succ]
          refine wpAnyH_take (i := 10) (oi := ⟨some 38, _, _, _, _, _⟩) (v := .int .i64 ((k : Int) - 1)) rfl (by kernel_rfl) (by kernel_rfl) (by kernel_rfl) (fun _ _ _ h => h) (Or.inl ⟨by rfl, ?_⟩) hHeld ?_
          · intro w hSw
            (try dsimp only at hSw)
            go_simp
            exact IntWalk.i64_in _ (by omega)
          simp only [Act.put, List.setIfInBounds_toArray, List.set_cons_zero, List.set_cons_succ]
          refine wpAnyH_take (i := 11) (oi := ⟨some 39, _, _, _, _, _⟩) (v := .pointer (some ⟨g, off + (k - 1) * 7, none⟩)) rfl (by kernel_rfl) (by kernel_rfl) (by kernel_rfl) (fun _ _ _ h => h) (Or.inl ⟨by rfl, ?_⟩) hHeld ?_
          · intro w hSw
            (try dsimp only at hSw)
            go_simp
            intro hcon
            exfalso
            omega
          simp only [Act.put, List.setIfInBounds_toArray, List.set_cons_zero, List.set_cons_succ]
          refine wpAnyH_take (i := 12) (oi := ⟨some 40, _, _, _, _, _⟩) (v := .pointer (some ⟨g, off + (k - 1) * 7, none⟩)) rfl (by kernel_rfl) (by kernel_rfl) (by kernel_rfl) (fun _ _ _ h => h) (Or.inl ⟨by rfl, ?_⟩) hHeld ?_
          · intro w hSw
            (try dsimp only at hSw)
            go_simp
          simp only [Act.put, List.setIfInBounds_toArray, List.set_cons_zero, List.set_cons_succ]
          refine wpAnyH_take (i := 13) (oi := ⟨some 41, _, _, _, _, _⟩) (v := .string yid) rfl (by kernel_rfl) (by kernel_rfl) (by kernel_rfl) (fun _ _ _ h => h) (Or.inl ⟨by rfl, ?_⟩) hHeld ?_
          · intro w hSw
            (try dsimp only at hSw)
            go_simp
          simp only [Act.put, List.setIfInBounds_toArray, List.set_cons_zero, List.set_cons_succ]
          refine wpAnyH_take (i := 14) (oi := ⟨some 42, _, _, _, _, _⟩) (v := .bool false) rfl (by kernel_rfl) (by kernel_rfl) (by kernel_rfl) (fun _ _ _ h => h) (Or.inl ⟨by rfl, ?_⟩) hHeld ?_
          · intro w hSw
            (try dsimp only at hSw)
            go_simp
          simp only [Act.put, List.setIfInBounds_toArray, List.set_cons_zero, List.set_cons_succ]
          refine wpAnyH_take (i := 15) (oi := ⟨some 43, _, _, _, _, _⟩) (v := .bool false) rfl (by kernel_rfl) (by kernel_rfl) (by kernel_rfl) (fun _ _ _ h => h) (Or.inl ⟨by rfl, ?_⟩) hHeld ?_
          · intro w hSw
            (try dsimp only at hSw)
            go_simp
          simp only [Act.put, List.setIfInBounds_toArray, List.set_cons_zero, List.set_cons_succ]
          refine wpAnyH_ready (rs := [16]) (by kernel_rfl) (by simp) ?_
          refine AllReadyH.cons (o := ⟨some 44, _, _, _, _, _⟩) rfl (fun K hK => ?_) AllReadyH.nil
          rw [if_pos (by rfl)]
          go_wp2_with fail
          refine Calls.mono (when_any false 7 _) ?_
          rintro e w7 ⟨rfl, hw7⟩
          subst hw7
          clear hHeld
          refine hK.out _ _ (HHELD.out _ hx0) (fun hHeld => ?_)
          clear hK
          (try simp only [Act.put, List.setIfInBounds_toArray, List.set_cons_zero, List.set_cons_succ])
          refine wpAnyH_ready (rs := [17]) (by kernel_rfl) (by simp) ?_
          refine AllReadyH.cons (o := ⟨some 45, _, _, _, _, _⟩) rfl (fun K hK => ?_) AllReadyH.nil
          rw [if_pos (by rfl)]
          go_wp2_with fail
          clear hHeld
          refine hK.out _ _ (HHELD.out _ (hx0.alloc hx0.size _)) (fun hHeld => ?_)
          clear hK
          (try simp only [Act.put, List.setIfInBounds_toArray, List.set_cons_zero, List.set_cons_succ])
          refine wpAnyH_ready (rs := [18]) (by kernel_rfl) (by simp) ?_
          refine AllReadyH.cons (o := ⟨some 46, _, _, _, _, _⟩) rfl (fun K hK => ?_) AllReadyH.nil
          rw [if_pos (by rfl)]
          go_wp2_with fail
          refine Calls.mono (first_2z _ _ rfl _) ?_
          rintro e w8 ⟨rfl, hw8⟩
          have hy0 : Below w1.heap.size w1 w8 := by rw [← hw8]; exact hx0.alloc hx0.size _
          clear hHeld hw8
          refine hK.out _ _ (HHELD.out _ hy0) (fun hHeld => ?_)
          clear hK
          (try simp only [Act.put, List.setIfInBounds_toArray, List.set_cons_zero, List.set_cons_succ])
          refine wpAnyH_take (i := 19) (oi := ⟨some 5, _, _, _, _, _⟩) (v := .int .i64 0) rfl (by kernel_rfl) (by kernel_rfl) (by kernel_rfl) (fun _ _ _ h => h) (Or.inl ⟨by rfl, ?_⟩) hHeld ?_
          · intro w hSw
            (try dsimp only at hSw)
            go_simp
          simp only [Act.put, List.setIfInBounds_toArray, List.set_cons_zero, List.set_cons_succ]
          refine wpAnyH_done (by kernel_rfl) ?_ _
          go_wp2_with fail
          go_meet
          exact ⟨rfl, hy0⟩
      case rest =>
        obtain ⟨rfl, hbc⟩ := hcut
        have HW2 := Lib.hid (HW1.out.trans (hbc.mono HW1.out.size))
        clear hbc c0 c1 c2 c3 c4 c5 c6 HCI
        go_wp2_with fail
        go_roundg (gk - 1)
        case measure => exact Nat.sub_lt HGK.out.2 Nat.one_pos
        case rel => exact ⟨k + 1, HGK.out.1, by go_num, HW2.out⟩
    · have hnk : ¬ (k : Int) < (n : Int) := by omega
      have HB0 := Lib.hid (HBY.out wr HW.out)
      have HW0 := Lib.hid HW.out
      clear HK HW hkn hlt HBY
      obtain ⟨ko, rfl⟩ : ∃ ko : Nat, ko = k := ⟨_, rfl⟩
      go_wp2_with fail
      refine HB0.out.mono ?_
      rintro e w0 ⟨M, rfl, -, hm0, hb0⟩
      have HWE := Lib.hid (HW0.out.trans (hb0.mono HW0.out.size))
      have HME := Lib.hid hm0
      clear hb0 hm0 HB0 HW0 hnk
      go_wp2_with fail
      go_loopg [55] n (fun gk v wr => ∃ k : Nat, Hid (k + gk = n) ∧ v = .int .i64 (k : Int) ∧ Hid (Below w.heap.size w wr) ∧ Hid (IMapAt wr M l))
      case atStart => exact ⟨0, show 0 + n = n by omega, rfl, HWE.out, HME.out⟩
      case round =>
        clear HWE HME
        obtain ⟨k, HK, rfl, HW, HMP⟩ := hrel
        have hkn : k ≤ n := by have := HK.out; omega
        by_cases hlt : k < n
        · have HGK := Lib.hid (show k + 1 + (gk - 1) = n ∧ 0 < gk by have := HK.out; omega)
          obtain ⟨g, off, rfl, hg, hc⟩ := (ElemsAt.keep HH.out HW.out).item (by omega)
          have hkl : k < l.length := by have := HN.out; omega
          obtain ⟨x, hx⟩ : ∃ x, l[k]? = some x := ⟨_, List.getElem?_eq_getElem hkl⟩
          obtain ⟨c0, c1, c2, c3, c4, c5, c6⟩ := hc k x hx
          have hmem := List.mem_of_getElem? hx
          have HX := Lib.hid hx
          have hb1 : Below wr.heap.size wr (wr.alloc (.cells #[.string x.id, .string x.cu, .int .i64 x.kind, .string x.name, .int .i64 x.at_, .string x.par, .string x.text] 35)) := (Below.refl _ _).alloc (Nat.le_refl _) _
          have HI1 : Hid (ItemAt (wr.alloc (.cells #[.string x.id, .string x.cu, .int .i64 x.kind, .string x.name, .int .i64 x.at_, .string x.par, .string x.text] 35)) wr.heap.size x) := item_new wr x
          have HW1 := Lib.hid (HW.out.trans (hb1.mono HW.out.size))
          have HM1 := Lib.hid (HMP.out.below hb1)
          clear hc hx hkl HK hb1 hg HMP HW
          go_upto_region 14 with (fail)
          obtain ⟨P, hP⟩ : ∃ P, P = wr.heap.size := ⟨_, rfl⟩
          rw [← hP] at HI1 ⊢
          generalize wr.alloc (.cells #[.string x.id, .string x.cu, .int .i64 x.kind, .string x.name, .int .i64 x.at_, .string x.par, .string x.text] 35) = w1 at *
          clear hP c0 c1 c2 c3 c4 c5 c6
          obtain ⟨c0, c1, c2, c3, c4, c5, c6⟩ := HI1.out.c
          have hps := ((HL.out.set.ok.each x hmem).small).2.2.2.1
          by_cases hp : x.par.data.toList = []
          · have hlk := HM1.out.miss hps (HL.out.set.findEmpty hp)
            have hb2 : Below w1.heap.size w1 (w1.alloc (.cells #[.string ⟨#[]⟩, .string ⟨#[]⟩, .int .i64 0, .string ⟨#[]⟩, .int .i64 0, .string ⟨#[]⟩, .string ⟨#[]⟩] 35)) := (Below.refl _ _).alloc (Nat.le_refl _) _
            have HW2 := Lib.hid (HW1.out.trans (hb2.mono HW1.out.size))
            have HM2 := Lib.hid (HM1.out.below hb2)
            have HI2 := Lib.hid (HI1.out.keep hb2)
            obtain ⟨q1, q2, q3⟩ := par_emptyL hp
            clear hp hmem hps hb2
            go_upto_region 15 with (fail)
            generalize w1.alloc (.cells #[.string ⟨#[]⟩, .string ⟨#[]⟩, .int .i64 0, .string ⟨#[]⟩, .int .i64 0, .string ⟨#[]⟩, .string ⟨#[]⟩] 35) = w2 at *
            clear hlk c0 c1 c2 c3 c4 c5 c6
            obtain ⟨c0, c1, c2, c3, c4, c5, c6⟩ := HI2.out.c
            go_wp2_with fail
            go_roundg (gk - 1)
            case measure => exact Nat.sub_lt HGK.out.2 Nat.one_pos
            case rel => exact ⟨k + 1, HGK.out.1, by go_num, HW2.out, HM2.out⟩
          · obtain ⟨q, hq⟩ : ∃ q, findI l x.par = some q := by
              rcases HL.out.set.ok.par x hmem with h | h
              · exact absurd h hp
              · exact Option.isSome_iff_exists.1 h
            obtain ⟨z, hz, -, -⟩ := findI_some hq
            have hlk := HM1.out.hit hps hq hz
            have hb2 : Below w1.heap.size w1 (w1.alloc (.cells #[.string z.id, .string z.cu, .int .i64 z.kind, .string z.name, .int .i64 z.at_, .string z.par, .string z.text] 35)) := (Below.refl _ _).alloc (Nat.le_refl _) _
            have HW2 := Lib.hid (HW1.out.trans (hb2.mono HW1.out.size))
            have HM2 := Lib.hid (HM1.out.below hb2)
            have HI2 := Lib.hid (HI1.out.keep hb2)
            obtain ⟨q1, q2, q3⟩ := par_fullL hp
            clear hp hmem hps hq hz hb2
            go_upto_region 15 with (fail)
            generalize w1.alloc (.cells #[.string z.id, .string z.cu, .int .i64 z.kind, .string z.name, .int .i64 z.at_, .string z.par, .string z.text] 35) = w2 at *
            clear hlk c0 c1 c2 c3 c4 c5 c6
            obtain ⟨c0, c1, c2, c3, c4, c5, c6⟩ := HI2.out.c
            go_wp2_with fail
            go_roundg (gk - 1)
            case measure => exact Nat.sub_lt HGK.out.2 Nat.one_pos
            case rel => exact ⟨k + 1, HGK.out.1, by go_num, HW2.out, HM2.out⟩
        · have hnk : ¬ (k : Int) < (n : Int) := by omega
          have HWE := Lib.hid HW.out
          have HME := Lib.hid HMP.out
          clear HK HW HMP hkn
          obtain ⟨ko, rfl⟩ : ∃ ko : Nat, ko = k := ⟨_, rfl⟩
          go_wp2_with fail
          go_loopg [76] n (fun gk v wr => ∃ k : Nat, Hid (k + gk = n) ∧ v = .int .i64 (k : Int) ∧ Hid (Below w.heap.size w wr) ∧ Hid (IMapAt wr M l))
          case atStart => exact ⟨0, show 0 + n = n by omega, rfl, HWE.out, HME.out⟩
          case round =>
            clear HWE HME hnk hlt
            obtain ⟨k, HK, rfl, HW, HMP⟩ := hrel
            have hkn : k ≤ n := by have := HK.out; omega
            by_cases hlt : k < n
            · have HGK := Lib.hid (show k + 1 + (gk - 1) = n ∧ 0 < gk by have := HK.out; omega)
              obtain ⟨g, off, rfl, hg, hc⟩ := (ElemsAt.keep HH.out HW.out).item (by omega)
              have hkl : k < l.length := by have := HN.out; omega
              obtain ⟨x, hx⟩ : ∃ x, l[k]? = some x := ⟨_, List.getElem?_eq_getElem hkl⟩
              obtain ⟨c0, c1, c2, c3, c4, c5, c6⟩ := hc k x hx
              have hmem := List.mem_of_getElem? hx
              have HX := Lib.hid hx
              have hb1 : Below wr.heap.size wr (wr.alloc (.cells #[.string x.id, .string x.cu, .int .i64 x.kind, .string x.name, .int .i64 x.at_, .string x.par, .string x.text] 35)) := (Below.refl _ _).alloc (Nat.le_refl _) _
              have HI1 : Hid (ItemAt (wr.alloc (.cells #[.string x.id, .string x.cu, .int .i64 x.kind, .string x.name, .int .i64 x.at_, .string x.par, .string x.text] 35)) wr.heap.size x) := item_new wr x
              have HW1 := Lib.hid (HW.out.trans (hb1.mono HW.out.size))
              have HM1 := Lib.hid (HMP.out.below hb1)
              clear hc hx hkl HK hb1 hg HMP HW
              go_upto_region 21 with (fail)
              obtain ⟨P, hP⟩ : ∃ P, P = wr.heap.size := ⟨_, rfl⟩
              rw [← hP] at HI1 ⊢
              generalize wr.alloc (.cells #[.string x.id, .string x.cu, .int .i64 x.kind, .string x.name, .int .i64 x.at_, .string x.par, .string x.text] 35) = w1 at *
              clear hP c0 c1 c2 c3 c4 c5 c6
              obtain ⟨c0, c1, c2, c3, c4, c5, c6⟩ := HI1.out.c
              have HAB := Lib.hid (aboveP_any M k x l w1 HM1.out HL.out.set HX.out)
              unfold Itm.v at HAB
              clear hmem
              go_wp2_with fail
              refine HAB.out.mono ?_
              rintro e w2 ⟨rfl, hb2⟩
              have HW2 := Lib.hid (HW1.out.trans (hb2.mono HW1.out.size))
              have HM2 := Lib.hid (HM1.out.below hb2)
              clear hb2 HAB c0 c1 c2 c3 c4 c5 c6
              generalize (chainI l (l.length + 1) k).length = len at *
              go_wp2_with fail
              go_roundg (gk - 1)
              case measure => exact Nat.sub_lt HGK.out.2 Nat.one_pos
              case rel => exact ⟨k + 1, HGK.out.1, by go_num, HW2.out, HM2.out⟩
            · have hnk : ¬ (k : Int) < (n : Int) := by omega
              have HWE := Lib.hid HW.out
              have HME := Lib.hid HMP.out
              clear HK HW HMP hkn
              obtain ⟨ko, rfl⟩ : ∃ ko : Nat, ko = k := ⟨_, rfl⟩
              go_wp2_with fail
              go_loopg [90] n (fun gk v wr => ∃ k : Nat, Hid (k + gk = n) ∧ v = .int .i64 (k : Int) ∧ Hid (Below w.heap.size w wr) ∧ Hid (IMapAt wr M l))
              case atStart => exact ⟨0, show 0 + n = n by omega, rfl, HWE.out, HME.out⟩
              case round =>
                clear HWE HME hnk hlt
                obtain ⟨k, HK, rfl, HW, HMP⟩ := hrel
                have hkn : k ≤ n := by have := HK.out; omega
                by_cases hlt : k < n
                · have HGK := Lib.hid (show k + 1 + (gk - 1) = n ∧ 0 < gk by have := HK.out; omega)
                  obtain ⟨g, off, rfl, hg, hc⟩ := (ElemsAt.keep HH.out HW.out).item (by omega)
                  have hkl : k < l.length := by have := HN.out; omega
                  obtain ⟨x, hx⟩ : ∃ x, l[k]? = some x := ⟨_, List.getElem?_eq_getElem hkl⟩
                  obtain ⟨c0, c1, c2, c3, c4, c5, c6⟩ := hc k x hx
                  have hmem := List.mem_of_getElem? hx
                  have HX := Lib.hid hx
                  have hb1 : Below wr.heap.size wr (wr.alloc (.cells #[.string x.id, .string x.cu, .int .i64 x.kind, .string x.name, .int .i64 x.at_, .string x.par, .string x.text] 35)) := (Below.refl _ _).alloc (Nat.le_refl _) _
                  have HI1 : Hid (ItemAt (wr.alloc (.cells #[.string x.id, .string x.cu, .int .i64 x.kind, .string x.name, .int .i64 x.at_, .string x.par, .string x.text] 35)) wr.heap.size x) := item_new wr x
                  have HW1 := Lib.hid (HW.out.trans (hb1.mono HW.out.size))
                  have HM1 := Lib.hid (HMP.out.below hb1)
                  clear hc hx hkl HK hb1 hg HMP HW
                  go_upto_region 28 with (fail)
                  obtain ⟨P, hP⟩ : ∃ P, P = wr.heap.size := ⟨_, rfl⟩
                  rw [← hP] at HI1 ⊢
                  generalize wr.alloc (.cells #[.string x.id, .string x.cu, .int .i64 x.kind, .string x.name, .int .i64 x.at_, .string x.par, .string x.text] 35) = w1 at *
                  clear hP c0 c1 c2 c3 c4 c5 c6
                  obtain ⟨c0, c1, c2, c3, c4, c5, c6⟩ := HI1.out.c
                  have HPL := Lib.hid (placed_ok M k x l w1 HM1.out HL.out.set HX.out)
                  unfold Itm.v at HPL
                  clear hmem
                  go_wp2_with fail
                  refine HPL.out.mono ?_
                  rintro e w2 ⟨rfl, hb2⟩
                  have HW2 := Lib.hid (HW1.out.trans (hb2.mono HW1.out.size))
                  have HM2 := Lib.hid (HM1.out.below hb2)
                  clear hb2 HPL c0 c1 c2 c3 c4 c5 c6
                  go_wp2_with fail
                  go_roundg (gk - 1)
                  case measure => exact Nat.sub_lt HGK.out.2 Nat.one_pos
                  case rel => exact ⟨k + 1, HGK.out.1, by go_num, HW2.out, HM2.out⟩
                · have hnk : ¬ (k : Int) < (n : Int) := by omega
                  go_wp2_with fail
                  go_ret
                  exact ⟨rfl, HW.out⟩
end Go.Proofs.YtccllmkijnmooaaGreatDoor
