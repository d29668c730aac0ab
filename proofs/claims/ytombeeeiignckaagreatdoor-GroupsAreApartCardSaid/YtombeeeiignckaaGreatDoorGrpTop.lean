
/-
  placed accepts an item of right items.
  intake.Check accepts right items.
  Contains of strings; two rows of the call's own that do not share a block.
  The tree of items under way: maps of rows of strings that do not share a block.
  newTree of right items: the items by their ids, the ids right below each one, the tops.
  (tree).below: an item and all below it, by their ids.
  intake.Digest at any string: what it returns, as a function of the bytes.
  The sum of an item: what Digest returns of its kind and its text.
  slices.Sort at strings of the call's own.
  (tree).sum: the sum of a family below an item.
  slices.MinFunc at strings: it returns one of them, whatever the closure's numbers are.
  Which family of some is read: one of them.
  (tree).primary: one of the tops.
  Keys that are structs of two strings.
  Families as elements of a slice.
  A map from pairs of strings to rows of strings that do not share a block; pairs and groups as elements.
  'sets[k] = append(sets[k], top)' at keys that are structs: the entry is taken, the row grows, the entry is stored.
  Tops in groups by a key, in the order in which the keys come; groups by a finer key lie within groups by a coarser one. Plain lists.
  Families by ids: all ids, each once; sorted they are the items' own order.
  intake.Groups of right items: the tops in groups by their sums (and custodians), each group with one of its tops as the primary.
  The state of a desk: a map of ids to numbers, and which ids it has.
  A map of ids to numbers: a look that tells whether an id is there.
  GroupsAreApart returns true.
-/
import Derived.Test.YtombeeeiignckaaGreatDoorChkMap
import Derived.Test.YtombeeeiignckaaGreatDoorLay
import Derived.Deep.RegionHeld3
import Derived.Test.YtombeeeiignckaaGreatDoorStrLib
import Derived.Test.YtombeeeiignckaaGreatDoorDigest
import Derived.Laws.BytesArg
import Derived.Test.YtombeeeiignckaaGreatDoorItm
import Derived.Test.YtombeeeiignckaaGreatDoorShelf
import Derived.Sort.LotA
import Derived.Sort.Walk0
import Derived.Sort.OwnSorted
import Derived.Test.YtombeeeiignckaaGreatDoorOwnSet
import Derived.DeepKeys4
import Derived.Test.YtombeeeiignckaaGreatDoorIMap
import Derived.WideKeyEntry
import Derived.StillTailTactics
import Derived.Test.YtombeeeiignckaaGreatDoorStands
import Derived.Test.YtombeeeiignckaaGreatDoorStreamNew
import Derived.Test.YtombeeeiignckaaGreatDoorRightItems

namespace Go.Proofs.YtombeeeiignckaaGreatDoor
open Go.RowKit Go.Maps

set_option maxHeartbeats 3200000 in
set_option maxRecDepth 100000 in
theorem placed_ok (M i : Nat) (x : Itm) (l : List Itm) (w : World) (hM : IMapAt w M l) (hl : SetI l) (hx : l[i]? = some x) :
    Calls Tryz.prog 43 #[.map (some M), x.v] w (OkPost w) := by
  have HL := Lib.hid hl
  have HX := Lib.hid hx
  have HIL : Hid (i < l.length) := (List.getElem?_eq_some_iff.1 hx).1
  have hmem := List.mem_of_getElem? hx
  have hps := ((hl.ok.each x hmem).small).2.2.2.1
  have hb1 : Below w.heap.size w (w.alloc (.cells #[.string x.id, .string x.cu, .int .i64 x.kind, .string x.name, .int .i64 x.at_, .string x.par, .string x.text] 42)) := (Below.refl _ _).alloc (Nat.le_refl _) _
  have HI1 : Hid (ItemAt (w.alloc (.cells #[.string x.id, .string x.cu, .int .i64 x.kind, .string x.name, .int .i64 x.at_, .string x.par, .string x.text] 42)) w.heap.size x) := item_new w x
  have HM1 := Lib.hid (hM.below hb1)
  have HB1 := Lib.hid hb1
  have HAB := Lib.hid (fun wx (hb : Below (w.alloc (.cells #[.string x.id, .string x.cu, .int .i64 x.kind, .string x.name, .int .i64 x.at_, .string x.par, .string x.text] 42)).heap.size (w.alloc (.cells #[.string x.id, .string x.cu, .int .i64 x.kind, .string x.name, .int .i64 x.at_, .string x.par, .string x.text] 42)) wx) => aboveP_any M i x l wx (HM1.out.below hb) hl hx)
  have hdeep := hl.ok.tree.deep i HIL.out
  unfold Itm.v at HAB
  unfold Itm.v
  clear hM hl hx hb1
  go_enter Tryz.func43, Tryz.ntmps43
  go_upto_region 1 with (fail)
  obtain ⟨P, hP⟩ : ∃ P, P = w.heap.size := ⟨_, rfl⟩
  rw [← hP] at HI1 ⊢
  generalize w.alloc (.cells #[.string x.id, .string x.cu, .int .i64 x.kind, .string x.name, .int .i64 x.at_, .string x.par, .string x.text] 42) = w1 at *
  clear hP
  obtain ⟨c0, c1, c2, c3, c4, c5, c6⟩ := HI1.out.c
  generalize (chainI l (l.length + 1) i).length = len at *
  have hli : ¬ (4 : Int) < (len : Int) := by omega
  by_cases hp : x.par.data.toList = []
  · have hlk := HM1.out.miss hps (HL.out.findEmpty hp)
    have hb2 : Below w1.heap.size w1 (w1.alloc (.cells #[.string ⟨#[]⟩, .string ⟨#[]⟩, .int .i64 0, .string ⟨#[]⟩, .int .i64 0, .string ⟨#[]⟩, .string ⟨#[]⟩] 42)) := (Below.refl _ _).alloc (Nat.le_refl _) _
    obtain ⟨q1, q2, q3⟩ := par_emptyL hp
    clear hp hmem hps
    go_upto_region 2 with (fail)
    generalize w1.alloc (.cells #[.string ⟨#[]⟩, .string ⟨#[]⟩, .int .i64 0, .string ⟨#[]⟩, .int .i64 0, .string ⟨#[]⟩, .string ⟨#[]⟩] 42) = w2 at *
    clear hlk c0 c1 c2 c3 c4 c5 c6
    obtain ⟨c0, c1, c2, c3, c4, c5, c6⟩ := (HI1.out.keep hb2).c
    go_upto_region 4 with (fail)
    clear q1 q2 q3
    go_wp2_with fail
    refine (HAB.out _ hb2).mono ?_
    rintro e w3 ⟨rfl, hb3⟩
    have HB3 := Lib.hid (HB1.out.trans ((below_trans' hb2 hb3).mono HB1.out.size))
    clear hb3 hb2 HAB c0 c1 c2 c3 c4 c5 c6
    go_wp2_with fail
    rw [show decide ((4 : Int) < (len : Int)) = false from decide_eq_false (by omega)]
    refine (when_any false 2 _).mono ?_
    rintro e w' ⟨rfl, hw⟩
    obtain rfl := hw
    go_wp2_with fail
    go_ret
    exact ⟨rfl, HB3.out⟩
  · obtain ⟨q, hq⟩ : ∃ q, findI l x.par = some q := by
      rcases HL.out.ok.par x hmem with h | h
      · exact absurd h hp
      · exact Option.isSome_iff_exists.1 h
    obtain ⟨z, hz, -, -⟩ := findI_some hq
    have HKD : Hid (z.kind = 1 ∨ z.kind = 3) := by
      obtain ⟨y, hy, hk⟩ := HL.out.ok.tree.kind i q HIL.out (by rw [parI_of HX.out hp, hq])
      rw [hz] at hy
      cases hy
      exact hk
    have hlk := HM1.out.hit hps hq hz
    have hb2 : Below w1.heap.size w1 (w1.alloc (.cells #[.string z.id, .string z.cu, .int .i64 z.kind, .string z.name, .int .i64 z.at_, .string z.par, .string z.text] 42)) := (Below.refl _ _).alloc (Nat.le_refl _) _
    have HIZ : Hid (ItemAt (w1.alloc (.cells #[.string z.id, .string z.cu, .int .i64 z.kind, .string z.name, .int .i64 z.at_, .string z.par, .string z.text] 42)) w1.heap.size z) := item_new w1 z
    obtain ⟨q1, q2, q3⟩ := par_fullL hp
    clear hp hmem hps hq hz
    go_upto_region 2 with (fail)
    obtain ⟨Q, hQ⟩ : ∃ Q, Q = w1.heap.size := ⟨_, rfl⟩
    rw [← hQ] at HIZ ⊢
    generalize w1.alloc (.cells #[.string z.id, .string z.cu, .int .i64 z.kind, .string z.name, .int .i64 z.at_, .string z.par, .string z.text] 42) = w2 at *
    clear hlk hQ c0 c1 c2 c3 c4 c5 c6
    obtain ⟨c0, c1, c2, c3, c4, c5, c6⟩ := (HI1.out.keep hb2).c
    have d2 := HIZ.out.c.2.2.1
    generalize z.kind = kd at *
    rcases HKD.out with rfl | rfl
    · go_wp2_with fail
      refine (HAB.out _ hb2).mono ?_
      rintro e w3 ⟨rfl, hb3⟩
      have HB3 := Lib.hid (HB1.out.trans ((below_trans' hb2 hb3).mono HB1.out.size))
      clear hb3 hb2 HAB c0 c1 c2 c3 c4 c5 c6
      go_wp2_with fail
      rw [show decide ((4 : Int) < (len : Int)) = false from decide_eq_false (by omega)]
      refine (when_any false 2 _).mono ?_
      rintro e w' ⟨rfl, hw⟩
      obtain rfl := hw
      go_wp2_with fail
      go_ret
      exact ⟨rfl, HB3.out⟩
    · go_wp2_with fail
      refine (HAB.out _ hb2).mono ?_
      rintro e w3 ⟨rfl, hb3⟩
      have HB3 := Lib.hid (HB1.out.trans ((below_trans' hb2 hb3).mono HB1.out.size))
      clear hb3 hb2 HAB c0 c1 c2 c3 c4 c5 c6
      go_wp2_with fail
      rw [show decide ((4 : Int) < (len : Int)) = false from decide_eq_false (by omega)]
      refine (when_any false 2 _).mono ?_
      rintro e w' ⟨rfl, hw⟩
      obtain rfl := hw
      go_wp2_with fail
      go_ret
      exact ⟨rfl, HB3.out⟩
end Go.Proofs.YtombeeeiignckaaGreatDoor

namespace Go.Proofs.YtombeeeiignckaaGreatDoor
open Go.RowKit Go.Maps

/-- Right items in the order of their ids. -/
structure SetR (l : List Itm) : Prop where
  set : SetI l
  rise : Rising (l.map fun x => x.id.data.toList)
theorem SetR.at_ {l : List Itm} (h : SetR l) {k : Nat} {x y : Itm} (h0 : 0 < k) (hx : l[k]? = some x) (hy : l[k - 1]? = some y) : (Op.bytesLess x.id.data.toList y.id.data.toList || x.id.data.toList == y.id.data.toList) = false := by
  have hk := (List.getElem?_eq_some_iff.1 hx).1
  have := h.rise.at_ h0 (by simpa using hk)
  simpa [List.getD_eq_getElem?_getD, hx, hy] using this
set_option maxHeartbeats 6400000 in
set_option maxRecDepth 100000 in
theorem check_ok (A : Option Addr) (n c : Nat) (l : List Itm) (w : World) (h : ItemsAt w A n c l) (hl : SetR l) (hT : Tabs w) (hM : MaxAt w) :
    Calls Tryz.prog 16 #[.slice A n c] w (OkPost w) := by
  have HN := Lib.hid h.1
  have HH := Lib.hid h
  have HL := Lib.hid hl
  have hn : n ≤ 2000 := by have := hl.set.few; have := h.1; omega
  have HTT : Hid (∀ w', Below w.heap.size w w' → Tabs w' ∧ MaxAt w') := fun w' hb => ⟨Tabs.below hT hb, MaxAt.below hM hb⟩
  have HBY := Lib.hid (fun wx (hb : Below w.heap.size w wx) => byId_any A n c l wx (h.keep hb) hl.set)
  have hni : ¬ (2000 : Int) < (n : Int) := by omega
  clear h hl hT hM
  go_enter Tryz.func16, Tryz.ntmps16
  go_wp2_with fail
  go_loopg [23] n (fun gk v wr => ∃ k : Nat, Hid (k + gk = n) ∧ v = .int .i64 (k : Int) ∧ Hid (Below w.heap.size w wr))
  case atStart => exact ⟨0, show 0 + n = n by omega, rfl, Below.refl _ _⟩
  case round =>
    obtain ⟨k, HK, rfl, HW⟩ := hrel
    have hkn : k ≤ n := by have := HK.out; omega
    by_cases hlt : k < n
    · have HGK := Lib.hid (show k + 1 + (gk - 1) = n ∧ 0 < gk by have := HK.out; omega)
      obtain ⟨g, off, rfl, hg, hc⟩ := (ElemsAt.keep HH.out HW.out).item (by omega)
      have hkl : k < l.length := by have := HN.out; omega
      obtain ⟨x, hx⟩ : ∃ x, l[k]? = some x := ⟨_, List.getElem?_eq_getElem hkl⟩
      obtain ⟨c0, c1, c2, c3, c4, c5, c6⟩ := hc k x hx
      have hmem := List.mem_of_getElem? hx
      have HX := Lib.hid hx
      have HC := Lib.hid hc
      have HGL := Lib.hid hg
      have hb1 : Below wr.heap.size wr (wr.alloc (.cells #[.string x.id, .string x.cu, .int .i64 x.kind, .string x.name, .int .i64 x.at_, .string x.par, .string x.text] 42)) := (Below.refl _ _).alloc (Nat.le_refl _) _
      have HI1 : Hid (ItemAt (wr.alloc (.cells #[.string x.id, .string x.cu, .int .i64 x.kind, .string x.name, .int .i64 x.at_, .string x.par, .string x.text] 42)) wr.heap.size x) := item_new wr x
      have HBE := Lib.hid hb1
      have HW1 := Lib.hid (HW.out.trans (hb1.mono HW.out.size))
      clear hc hx hkl HK hb1 hg
      go_upto_region 6 with (fail)
      obtain ⟨P, hP⟩ : ∃ P, P = wr.heap.size := ⟨_, rfl⟩
      rw [← hP] at HI1 ⊢
      generalize wr.alloc (.cells #[.string x.id, .string x.cu, .int .i64 x.kind, .string x.name, .int .i64 x.at_, .string x.par, .string x.text] 42) = w1 at *
      have HCI := Lib.hid (fun wx (hb : Below w1.heap.size w1 wx) => checkItem_ok x wx (HL.out.set.ok.each x hmem) (HTT.out wx (HW1.out.trans (hb.mono HW1.out.size))).1 (HTT.out wx (HW1.out.trans (hb.mono HW1.out.size))).2)
      clear hP c0 c1 c2 c3 c4 c5 c6 hmem
      obtain ⟨c0, c1, c2, c3, c4, c5, c6⟩ := HI1.out.c
      unfold Itm.v at HCI
      go_cut [5] (fun v wx => v = .int .i64 0 ∧ Below w1.heap.size w1 wx)
      case first =>
        by_cases h0 : k = 0
        · subst h0
          have HHELD : Hid (∀ w', Below w1.heap.size w1 w' → w'.cell? ⟨P, 0, none⟩ = some (.string x.id) ∧ w'.cell? ⟨P, 1, none⟩ = some (.string x.cu) ∧ w'.cell? ⟨P, 2, none⟩ = some (.int .i64 x.kind) ∧ w'.cell? ⟨P, 3, none⟩ = some (.string x.name) ∧ w'.cell? ⟨P, 4, none⟩ = some (.int .i64 x.at_) ∧ w'.cell? ⟨P, 5, none⟩ = some (.string x.par) ∧ w'.cell? ⟨P, 6, none⟩ = some (.string x.text) ∧ Below w1.heap.size w1 w') := fun w' hb => by
            obtain ⟨d0, d1, d2, d3, d4, d5, d6⟩ := (HI1.out.keep hb).c
            exact ⟨d0, d1, d2, d3, d4, d5, d6, hb⟩
          refine wp_region_held_drew (S := fun w' => w'.cell? ⟨P, 0, none⟩ = some (.string x.id) ∧ w'.cell? ⟨P, 1, none⟩ = some (.string x.cu) ∧ w'.cell? ⟨P, 2, none⟩ = some (.int .i64 x.kind) ∧ w'.cell? ⟨P, 3, none⟩ = some (.string x.name) ∧ w'.cell? ⟨P, 4, none⟩ = some (.int .i64 x.at_) ∧ w'.cell? ⟨P, 5, none⟩ = some (.string x.par) ∧ w'.cell? ⟨P, 6, none⟩ = some (.string x.text) ∧ Below w1.heap.size w1 w') (by kernel_rfl) (HHELD.out _ (Below.refl _ _).drew) (fun hHeld => ?_)
          refine wpAnyH_take (i := 0) (oi := ⟨some 28, _, _, _, _, _⟩) (v := .agg #[.string x.id, .string x.cu, .int .i64 x.kind, .string x.name, .int .i64 x.at_, .string x.par, .string x.text]) rfl (by kernel_rfl) (by kernel_rfl) (by kernel_rfl) (fun _ _ _ h => h) (Or.inl ⟨by rfl, ?_⟩) hHeld ?_
          · intro w hSw
            (try dsimp only at hSw)
            go_simp
          simp only [Act.put, List.setIfInBounds_toArray, List.set_cons_zero, List.set_cons_succ]
          refine wpAnyH_take (i := 2) (oi := ⟨some 30, _, _, _, _, _⟩) (v := .int .i64 0) rfl (by kernel_rfl) (by kernel_rfl) (by kernel_rfl) (fun _ _ _ h => h) (Or.inl ⟨by rfl, ?_⟩) hHeld ?_
          · intro w hSw
            (try dsimp only at hSw)
            go_simp
          simp only [Act.put, List.setIfInBounds_toArray, List.set_cons_zero, List.set_cons_succ]
          refine wpAnyH_take (i := 3) (oi := ⟨some 31, _, _, _, _, _⟩) (v := .bool false) rfl (by kernel_rfl) (by kernel_rfl) (by kernel_rfl) (fun _ _ _ h => h) (Or.inl ⟨by rfl, ?_⟩) hHeld ?_
          · intro w hSw
            (try dsimp only at hSw)
            go_simp
          simp only [Act.put, List.setIfInBounds_toArray, List.set_cons_zero, List.set_cons_succ]
          refine wpAnyH_ready (rs := [1]) (by kernel_rfl) (by simp) ?_
          refine AllReadyH.cons (o := ⟨some 29, _, _, _, _, _⟩) rfl (fun K hK => ?_) AllReadyH.nil
          rw [if_pos (by rfl)]
          go_wp2_with fail
          refine Calls.mono (HCI.out _ (Below.refl _ _).drew) ?_
          rintro e w6 ⟨rfl, hb6⟩
          have hx0 : Below w1.heap.size w1 w6 := by first | exact hb6 | exact belowUI hb6 | fail
          clear hHeld hb6
          refine hK.out _ _ (HHELD.out _ hx0) (fun hHeld => ?_)
          clear hK
          (try simp only [Act.put, List.setIfInBounds_toArray, List.set_cons_zero, List.set_cons_succ])
          refine wpAnyH_take (i := 4) (oi := ⟨some 32, _, _, _, _, _⟩) (v := .bool false) rfl (by kernel_rfl) (by kernel_rfl) (by kernel_rfl) (fun _ _ _ h => h) (Or.inl ⟨by rfl, ?_⟩) hHeld ?_
          · intro w hSw
            (try dsimp only at hSw)
            go_simp
          simp only [Act.put, List.setIfInBounds_toArray, List.set_cons_zero, List.set_cons_succ]
          refine wpAnyH_take (i := 5) (oi := ⟨some 33, _, _, _, _, _⟩) (v := undef) rfl (by kernel_rfl) (by kernel_rfl) (by kernel_rfl) (fun _ _ _ h => h) (Or.inr ⟨by rfl, rfl⟩) hHeld ?_
          simp only [Act.put, List.setIfInBounds_toArray, List.set_cons_zero, List.set_cons_succ]
          refine wpAnyH_take (i := 6) (oi := ⟨some 34, _, _, _, _, _⟩) (v := undef) rfl (by kernel_rfl) (by kernel_rfl) (by kernel_rfl) (fun _ _ _ h => h) (Or.inr ⟨by rfl, rfl⟩) hHeld ?_
          simp only [Act.put, List.setIfInBounds_toArray, List.set_cons_zero, List.set_cons_succ]
          refine wpAnyH_take (i := 7) (oi := ⟨some 35, _, _, _, _, _⟩) (v := undef) rfl (by kernel_rfl) (by kernel_rfl) (by kernel_rfl) (fun _ _ _ h => h) (Or.inr ⟨by rfl, rfl⟩) hHeld ?_
          simp only [Act.put, List.setIfInBounds_toArray, List.set_cons_zero, List.set_cons_succ]
          refine wpAnyH_take (i := 8) (oi := ⟨some 36, _, _, _, _, _⟩) (v := undef) rfl (by kernel_rfl) (by kernel_rfl) (by kernel_rfl) (fun _ _ _ h => h) (Or.inr ⟨by rfl, rfl⟩) hHeld ?_
          simp only [Act.put, List.setIfInBounds_toArray, List.set_cons_zero, List.set_cons_succ]
          refine wpAnyH_take (i := 9) (oi := ⟨some 37, _, _, _, _, _⟩) (v := undef) rfl (by kernel_rfl) (by kernel_rfl) (by kernel_rfl) (fun _ _ _ h => h) (Or.inr ⟨by rfl, rfl⟩) hHeld ?_
          simp only [Act.put, List.setIfInBounds_toArray, List.set_cons_zero, List.set_cons_succ]
          refine wpAnyH_take (i := 10) (oi := ⟨some 38, _, _, _, _, _⟩) (v := undef) rfl (by kernel_rfl) (by kernel_rfl) (by kernel_rfl) (fun _ _ _ h => h) (Or.inr ⟨by rfl, rfl⟩) hHeld ?_
          simp only [Act.put, List.setIfInBounds_toArray, List.set_cons_zero, List.set_cons_succ]
          refine wpAnyH_take (i := 11) (oi := ⟨some 39, _, _, _, _, _⟩) (v := undef) rfl (by kernel_rfl) (by kernel_rfl) (by kernel_rfl) (fun _ _ _ h => h) (Or.inr ⟨by rfl, rfl⟩) hHeld ?_
          simp only [Act.put, List.setIfInBounds_toArray, List.set_cons_zero, List.set_cons_succ]
          refine wpAnyH_take (i := 12) (oi := ⟨some 40, _, _, _, _, _⟩) (v := undef) rfl (by kernel_rfl) (by kernel_rfl) (by kernel_rfl) (fun _ _ _ h => h) (Or.inr ⟨by rfl, rfl⟩) hHeld ?_
          simp only [Act.put, List.setIfInBounds_toArray, List.set_cons_zero, List.set_cons_succ]
          refine wpAnyH_take (i := 13) (oi := ⟨some 41, _, _, _, _, _⟩) (v := undef) rfl (by kernel_rfl) (by kernel_rfl) (by kernel_rfl) (fun _ _ _ h => h) (Or.inr ⟨by rfl, rfl⟩) hHeld ?_
          simp only [Act.put, List.setIfInBounds_toArray, List.set_cons_zero, List.set_cons_succ]
          refine wpAnyH_take (i := 14) (oi := ⟨some 42, _, _, _, _, _⟩) (v := undef) rfl (by kernel_rfl) (by kernel_rfl) (by kernel_rfl) (fun _ _ _ h => h) (Or.inr ⟨by rfl, rfl⟩) hHeld ?_
          simp only [Act.put, List.setIfInBounds_toArray, List.set_cons_zero, List.set_cons_succ]
          refine wpAnyH_take (i := 15) (oi := ⟨some 43, _, _, _, _, _⟩) (v := .bool false) rfl (by kernel_rfl) (by kernel_rfl) (by kernel_rfl) (fun _ _ _ h => h) (Or.inl ⟨by rfl, ?_⟩) hHeld ?_
          · intro w hSw
            (try dsimp only at hSw)
            go_simp
          simp only [Act.put, List.setIfInBounds_toArray, List.set_cons_zero, List.set_cons_succ]
          refine wpAnyH_ready (rs := [16]) (by kernel_rfl) (by simp) ?_
          refine AllReadyH.cons (o := ⟨some 44, _, _, _, _, _⟩) rfl (fun K hK => ?_) AllReadyH.nil
          rw [if_pos (by rfl)]
          go_wp2_with fail
          refine Calls.mono (when_any false 7 _) ?_
          rintro e w7 ⟨rfl, hw7⟩
          subst hw7
          clear hHeld
          refine hK.out _ _ (HHELD.out _ hx0) (fun hHeld => ?_)
          clear hK
          (try simp only [Act.put, List.setIfInBounds_toArray, List.set_cons_zero, List.set_cons_succ])
          refine wpAnyH_ready (rs := [17]) (by kernel_rfl) (by simp) ?_
          refine AllReadyH.cons (o := ⟨some 45, _, _, _, _, _⟩) rfl (fun K hK => ?_) AllReadyH.nil
          rw [if_pos (by rfl)]
          go_wp2_with fail
          clear hHeld
          refine hK.out _ _ (HHELD.out _ (hx0.alloc hx0.size _)) (fun hHeld => ?_)
          clear hK
          (try simp only [Act.put, List.setIfInBounds_toArray, List.set_cons_zero, List.set_cons_succ])
          refine wpAnyH_ready (rs := [18]) (by kernel_rfl) (by simp) ?_
          refine AllReadyH.cons (o := ⟨some 46, _, _, _, _, _⟩) rfl (fun K hK => ?_) AllReadyH.nil
          rw [if_pos (by rfl)]
          go_wp2_with fail
          refine Calls.mono (first_2z _ _ rfl _) ?_
          rintro e w8 ⟨rfl, hw8⟩
          have hy0 : Below w1.heap.size w1 w8 := by rw [← hw8]; exact hx0.alloc hx0.size _
          clear hHeld hw8
          refine hK.out _ _ (HHELD.out _ hy0) (fun hHeld => ?_)
          clear hK
          (try simp only [Act.put, List.setIfInBounds_toArray, List.set_cons_zero, List.set_cons_succ])
          refine wpAnyH_take (i := 19) (oi := ⟨some 5, _, _, _, _, _⟩) (v := .int .i64 0) rfl (by kernel_rfl) (by kernel_rfl) (by kernel_rfl) (fun _ _ _ h => h) (Or.inl ⟨by rfl, ?_⟩) hHeld ?_
          · intro w hSw
            (try dsimp only at hSw)
            go_simp
          simp only [Act.put, List.setIfInBounds_toArray, List.set_cons_zero, List.set_cons_succ]
          refine wpAnyH_done (by kernel_rfl) ?_ _
          go_wp2_with fail
          go_meet
          exact ⟨rfl, hy0⟩
        · have hk0 : 0 < k := by omega
          obtain ⟨y, hy⟩ : ∃ y, l[k - 1]? = some y := ⟨_, List.getElem?_eq_getElem (by have := HN.out; omega)⟩
          have hle := HL.out.at_ hk0 HX.out hy
          have HY0 : Hid (∀ w', Below w1.heap.size w1 w' → w'.cell? ⟨g, off + (k - 1) * 7, none⟩ = some (.string y.id)) := fun w' hb => ((HBE.out.trans (hb.mono HBE.out.size)).cell (p := ⟨g, off + (k - 1) * 7, none⟩) HGL.out).trans (HC.out (k - 1) y hy).1
          have hki : (0 : Int) < (k : Int) := by omega
          have hmax : max (k : Int) 1 = (k : Int) := by omega
          have hle2 : (Op.bytesLess x.id.toList y.id.toList || x.id.toList == y.id.toList) = false := by rw [Lib.toList_data, Lib.toList_data]; exact hle
          have HHELD : Hid (∀ w', Below w1.heap.size w1 w' → w'.cell? ⟨P, 0, none⟩ = some (.string x.id) ∧ w'.cell? ⟨P, 1, none⟩ = some (.string x.cu) ∧ w'.cell? ⟨P, 2, none⟩ = some (.int .i64 x.kind) ∧ w'.cell? ⟨P, 3, none⟩ = some (.string x.name) ∧ w'.cell? ⟨P, 4, none⟩ = some (.int .i64 x.at_) ∧ w'.cell? ⟨P, 5, none⟩ = some (.string x.par) ∧ w'.cell? ⟨P, 6, none⟩ = some (.string x.text) ∧ w'.cell? ⟨g, off + (k - 1) * 7, none⟩ = some (.string y.id) ∧ Below w1.heap.size w1 w') := fun w' hb => by
            obtain ⟨d0, d1, d2, d3, d4, d5, d6⟩ := (HI1.out.keep hb).c
            exact ⟨d0, d1, d2, d3, d4, d5, d6, HY0.out w' hb, hb⟩
          have hy0' := HY0.out w1 (Below.refl _ _)
          have hkj0 : (0 : Int) ≤ (k : Int) - 1 := by omega
          have hkj1 : (k : Int) - 1 < (n : Int) := by omega
          clear hle HY0 hy
          generalize y.id = yid at *
          refine wp_region_held_drew (S := fun w' => w'.cell? ⟨P, 0, none⟩ = some (.string x.id) ∧ w'.cell? ⟨P, 1, none⟩ = some (.string x.cu) ∧ w'.cell? ⟨P, 2, none⟩ = some (.int .i64 x.kind) ∧ w'.cell? ⟨P, 3, none⟩ = some (.string x.name) ∧ w'.cell? ⟨P, 4, none⟩ = some (.int .i64 x.at_) ∧ w'.cell? ⟨P, 5, none⟩ = some (.string x.par) ∧ w'.cell? ⟨P, 6, none⟩ = some (.string x.text) ∧ w'.cell? ⟨g, off + (k - 1) * 7, none⟩ = some (.string yid) ∧ Below w1.heap.size w1 w') (by kernel_rfl) (HHELD.out _ (Below.refl _ _).drew) (fun hHeld => ?_)
          refine wpAnyH_take (i := 0) (oi := ⟨some 28, _, _, _, _, _⟩) (v := .agg #[.string x.id, .string x.cu, .int .i64 x.kind, .string x.name, .int .i64 x.at_, .string x.par, .string x.text]) rfl (by kernel_rfl) (by kernel_rfl) (by kernel_rfl) (fun _ _ _ h => h) (Or.inl ⟨by rfl, ?_⟩) hHeld ?_
          · intro w hSw
            (try dsimp only at hSw)
            go_simp
          simp only [Act.put, List.setIfInBounds_toArray, List.set_cons_zero, List.set_cons_succ]
          refine wpAnyH_take (i := 2) (oi := ⟨some 30, _, _, _, _, _⟩) (v := .int .i64 (k : Int)) rfl (by kernel_rfl) (by kernel_rfl) (by kernel_rfl) (fun _ _ _ h => h) (Or.inl ⟨by rfl, ?_⟩) hHeld ?_
          · intro w hSw
            (try dsimp only at hSw)
            go_simp
          simp only [Act.put, List.setIfInBounds_toArray, List.set_cons_zero, List.set_cons_succ]
          refine wpAnyH_take (i := 3) (oi := ⟨some 31, _, _, _, _, _⟩) (v := .bool true) rfl (by kernel_rfl) (by kernel_rfl) (by kernel_rfl) (fun _ _ _ h => h) (Or.inl ⟨by rfl, ?_⟩) hHeld ?_
          · intro w hSw
            (try dsimp only at hSw)
            go_simp
          simp only [Act.put, List.setIfInBounds_toArray, List.set_cons_zero, List.set_cons_succ]
          refine wpAnyH_ready (rs := [1]) (by kernel_rfl) (by simp) ?_
          refine AllReadyH.cons (o := ⟨some 29, _, _, _, _, _⟩) rfl (fun K hK => ?_) AllReadyH.nil
          rw [if_pos (by rfl)]
          go_wp2_with fail
          refine Calls.mono (HCI.out _ (Below.refl _ _).drew) ?_
          rintro e w6 ⟨rfl, hb6⟩
          have hx0 : Below w1.heap.size w1 w6 := by first | exact hb6 | exact belowUI hb6 | fail
          clear hHeld hb6
          refine hK.out _ _ (HHELD.out _ hx0) (fun hHeld => ?_)
          clear hK
          (try simp only [Act.put, List.setIfInBounds_toArray, List.set_cons_zero, List.set_cons_succ])
          refine wpAnyH_take (i := 4) (oi := ⟨some 32, _, _, _, _, _⟩) (v := .bool true) rfl (by kernel_rfl) (by kernel_rfl) (by kernel_rfl) (fun _ _ _ h => h) (Or.inl ⟨by rfl, ?_⟩) hHeld ?_
          · intro w hSw
            (try dsimp only at hSw)
            go_simp
          simp only [Act.put, List.setIfInBounds_toArray, List.set_cons_zero, List.set_cons_succ]
          refine wpAnyH_take (i := 5) (oi := ⟨some 33, _, _, _, _, _⟩) (v := .pointer (some ⟨P, 0, none⟩)) rfl (by kernel_rfl) (by kernel_rfl) (by kernel_rfl) (fun _ _ _ h => h) (Or.inl ⟨by rfl, ?_⟩) hHeld ?_
          · intro w hSw
            (try dsimp only at hSw)
            go_simp
          simp only [Act.put, List.setIfInBounds_toArray, List.set_cons_zero, List.set_cons_succ]
          refine wpAnyH_take (i := 6) (oi := ⟨some 34, _, _, _, _, _⟩) (v := .string x.id) rfl (by kernel_rfl) (by kernel_rfl) (by kernel_rfl) (fun _ _ _ h => h) (Or.inl ⟨by rfl, ?_⟩) hHeld ?_
          · intro w hSw
            (try dsimp only at hSw)
            go_simp
          simp only [Act.put, List.setIfInBounds_toArray, List.set_cons_zero, List.set_cons_succ]
          refine wpAnyH_take (i := 7) (oi := ⟨some 35, _, _, _, _, _⟩) (v := .slice (some ⟨g, off, none⟩) n c) rfl (by kernel_rfl) (by kernel_rfl) (by kernel_rfl) (fun _ _ _ h => h) (Or.inl ⟨by rfl, ?_⟩) hHeld ?_
          · intro w hSw
            (try dsimp only at hSw)
            go_simp
          simp only [Act.put, List.setIfInBounds_toArray, List.set_cons_zero, List.set_cons_succ]
          refine wpAnyH_take (i := 8) (oi := ⟨some 36, _, _, _, _, _⟩) (v := .int .i64 (k : Int)) rfl (by kernel_rfl) (by kernel_rfl) (by kernel_rfl) (fun _ _ _ h => h) (Or.inl ⟨by rfl, ?_⟩) hHeld ?_
          · intro w hSw
            (try dsimp only at hSw)
            go_simp
          simp only [Act.put, List.setIfInBounds_toArray, List.set_cons_zero, List.set_cons_succ]
          refine wpAnyH_take (i := 9) (oi := ⟨some 37, _, _, _, _, _⟩) (v := .int .i64 (k : Int)) rfl (by kernel_rfl) (by kernel_rfl) (by kernel_rfl) (fun _ _ _ h => h) (Or.inl ⟨by rfl, ?_⟩) hHeld ?_
          · intro w hSw
            (try dsimp only at hSw)
            go_simp
          simp only [Act.put, List.setIfInBounds_toArray, List.set_cons_zero, List.set_cons_succ]
          refine wpAnyH_take (i := 10) (oi := ⟨some 38, _, _, _, _, _⟩) (v := .int .i64 ((k : Int) - 1)) rfl (by kernel_rfl) (by kernel_rfl) (by kernel_rfl) (fun _ _ _ h => h) (Or.inl ⟨by rfl, ?_⟩) hHeld ?_
          · intro w hSw
            (try dsimp only at hSw)
            go_simp
            exact IntWalk.i64_in _ (by omega)
          simp only [Act.put, List.setIfInBounds_toArray, List.set_cons_zero, List.set_cons_succ]
          refine wpAnyH_take (i := 11) (oi := ⟨some 39, _, _, _, _, _⟩) (v := .pointer (some ⟨g, off + (k - 1) * 7, none⟩)) rfl (by kernel_rfl) (by kernel_rfl) (by kernel_rfl) (fun _ _ _ h => h) (Or.inl ⟨by rfl, ?_⟩) hHeld ?_
          · intro w hSw
            (try dsimp only at hSw)
            go_simp
            intro hcon
            exfalso
            omega
          simp only [Act.put, List.setIfInBounds_toArray, List.set_cons_zero, List.set_cons_succ]
          refine wpAnyH_take (i := 12) (oi := ⟨some 40, _, _, _, _, _⟩) (v := .pointer (some ⟨g, off + (k - 1) * 7, none⟩)) rfl (by kernel_rfl) (by kernel_rfl) (by kernel_rfl) (fun _ _ _ h => h) (Or.inl ⟨by rfl, ?_⟩) hHeld ?_
          · intro w hSw
            (try dsimp only at hSw)
            go_simp
          simp only [Act.put, List.setIfInBounds_toArray, List.set_cons_zero, List.set_cons_succ]
          refine wpAnyH_take (i := 13) (oi := ⟨some 41, _, _, _, _, _⟩) (v := .string yid) rfl (by kernel_rfl) (by kernel_rfl) (by kernel_rfl) (fun _ _ _ h => h) (Or.inl ⟨by rfl, ?_⟩) hHeld ?_
          · intro w hSw
            (try dsimp only at hSw)
            go_simp
          simp only [Act.put, List.setIfInBounds_toArray, List.set_cons_zero, List.set_cons_succ]
          refine wpAnyH_take (i := 14) (oi := ⟨some 42, _, _, _, _, _⟩) (v := .bool false) rfl (by kernel_rfl) (by kernel_rfl) (by kernel_rfl) (fun _ _ _ h => h) (Or.inl ⟨by rfl, ?_⟩) hHeld ?_
          · intro w hSw
            (try dsimp only at hSw)
            go_simp
          simp only [Act.put, List.setIfInBounds_toArray, List.set_cons_zero, List.set_cons_succ]
          refine wpAnyH_take (i := 15) (oi := ⟨some 43, _, _, _, _, _⟩) (v := .bool false) rfl (by kernel_rfl) (by kernel_rfl) (by kernel_rfl) (fun _ _ _ h => h) (Or.inl ⟨by rfl, ?_⟩) hHeld ?_
          · intro w hSw
            (try dsimp only at hSw)
            go_simp
          simp only [Act.put, List.setIfInBounds_toArray, List.set_cons_zero, List.set_cons_succ]
          refine wpAnyH_ready (rs := [16]) (by kernel_rfl) (by simp) ?_
          refine AllReadyH.cons (o := ⟨some 44, _, _, _, _, _⟩) rfl (fun K hK => ?_) AllReadyH.nil
          rw [if_pos (by rfl)]
          go_wp2_with fail
          refine Calls.mono (when_any false 7 _) ?_
          rintro e w7 ⟨rfl, hw7⟩
          subst hw7
          clear hHeld
          refine hK.out _ _ (HHELD.out _ hx0) (fun hHeld => ?_)
          clear hK
          (try simp only [Act.put, List.setIfInBounds_toArray, List.set_cons_zero, List.set_cons_succ])
          refine wpAnyH_ready (rs := [17]) (by kernel_rfl) (by simp) ?_
          refine AllReadyH.cons (o := ⟨some 45, _, _, _, _, _⟩) rfl (fun K hK => ?_) AllReadyH.nil
          rw [if_pos (by rfl)]
          go_wp2_with fail
          clear hHeld
          refine hK.out _ _ (HHELD.out _ (hx0.alloc hx0.size _)) (fun hHeld => ?_)
          clear hK
          (try simp only [Act.put, List.setIfInBounds_toArray, List.set_cons_zero, List.set_cons_succ])
          refine wpAnyH_ready (rs := [18]) (by kernel_rfl) (by simp) ?_
          refine AllReadyH.cons (o := ⟨some 46, _, _, _, _, _⟩) rfl (fun K hK => ?_) AllReadyH.nil
          rw [if_pos (by rfl)]
          go_wp2_with fail
          refine Calls.mono (first_2z _ _ rfl _) ?_
          rintro e w8 ⟨rfl, hw8⟩
          have hy0 : Below w1.heap.size w1 w8 := by rw [← hw8]; exact hx0.alloc hx0.size _
          clear hHeld hw8
          refine hK.out _ _ (HHELD.out _ hy0) (fun hHeld => ?_)
          clear hK
          (try simp only [Act.put, List.setIfInBounds_toArray, List.set_cons_zero, List.set_cons_succ])
          refine wpAnyH_take (i := 19) (oi := ⟨some 5, _, _, _, _, _⟩) (v := .int .i64 0) rfl (by kernel_rfl) (by kernel_rfl) (by kernel_rfl) (fun _ _ _ h => h) (Or.inl ⟨by rfl, ?_⟩) hHeld ?_
          · intro w hSw
            (try dsimp only at hSw)
            go_simp
          simp only [Act.put, List.setIfInBounds_toArray, List.set_cons_zero, List.set_cons_succ]
          refine wpAnyH_done (by kernel_rfl) ?_ _
          go_wp2_with fail
          go_meet
          exact ⟨rfl, hy0⟩
      case rest =>
        obtain ⟨rfl, hbc⟩ := hcut
        have HW2 := Lib.hid (HW1.out.trans (hbc.mono HW1.out.size))
        clear hbc c0 c1 c2 c3 c4 c5 c6 HCI
        go_wp2_with fail
        go_roundg (gk - 1)
        case measure => exact Nat.sub_lt HGK.out.2 Nat.one_pos
        case rel => exact ⟨k + 1, HGK.out.1, by go_num, HW2.out⟩
    · have hnk : ¬ (k : Int) < (n : Int) := by omega
      have HB0 := Lib.hid (HBY.out wr HW.out)
      have HW0 := Lib.hid HW.out
      clear HK HW hkn hlt HBY
      obtain ⟨ko, rfl⟩ : ∃ ko : Nat, ko = k := ⟨_, rfl⟩
      go_wp2_with fail
      refine HB0.out.mono ?_
      rintro e w0 ⟨M, rfl, -, hm0, hb0⟩
      have HWE := Lib.hid (HW0.out.trans (hb0.mono HW0.out.size))
      have HME := Lib.hid hm0
      clear hb0 hm0 HB0 HW0 hnk
      go_wp2_with fail
      go_loopg [55] n (fun gk v wr => ∃ k : Nat, Hid (k + gk = n) ∧ v = .int .i64 (k : Int) ∧ Hid (Below w.heap.size w wr) ∧ Hid (IMapAt wr M l))
      case atStart => exact ⟨0, show 0 + n = n by omega, rfl, HWE.out, HME.out⟩
      case round =>
        clear HWE HME
        obtain ⟨k, HK, rfl, HW, HMP⟩ := hrel
        have hkn : k ≤ n := by have := HK.out; omega
        by_cases hlt : k < n
        · have HGK := Lib.hid (show k + 1 + (gk - 1) = n ∧ 0 < gk by have := HK.out; omega)
          obtain ⟨g, off, rfl, hg, hc⟩ := (ElemsAt.keep HH.out HW.out).item (by omega)
          have hkl : k < l.length := by have := HN.out; omega
          obtain ⟨x, hx⟩ : ∃ x, l[k]? = some x := ⟨_, List.getElem?_eq_getElem hkl⟩
          obtain ⟨c0, c1, c2, c3, c4, c5, c6⟩ := hc k x hx
          have hmem := List.mem_of_getElem? hx
          have HX := Lib.hid hx
          have hb1 : Below wr.heap.size wr (wr.alloc (.cells #[.string x.id, .string x.cu, .int .i64 x.kind, .string x.name, .int .i64 x.at_, .string x.par, .string x.text] 42)) := (Below.refl _ _).alloc (Nat.le_refl _) _
          have HI1 : Hid (ItemAt (wr.alloc (.cells #[.string x.id, .string x.cu, .int .i64 x.kind, .string x.name, .int .i64 x.at_, .string x.par, .string x.text] 42)) wr.heap.size x) := item_new wr x
          have HW1 := Lib.hid (HW.out.trans (hb1.mono HW.out.size))
          have HM1 := Lib.hid (HMP.out.below hb1)
          clear hc hx hkl HK hb1 hg HMP HW
          go_upto_region 14 with (fail)
          obtain ⟨P, hP⟩ : ∃ P, P = wr.heap.size := ⟨_, rfl⟩
          rw [← hP] at HI1 ⊢
          generalize wr.alloc (.cells #[.string x.id, .string x.cu, .int .i64 x.kind, .string x.name, .int .i64 x.at_, .string x.par, .string x.text] 42) = w1 at *
          clear hP c0 c1 c2 c3 c4 c5 c6
          obtain ⟨c0, c1, c2, c3, c4, c5, c6⟩ := HI1.out.c
          have hps := ((HL.out.set.ok.each x hmem).small).2.2.2.1
          by_cases hp : x.par.data.toList = []
          · have hlk := HM1.out.miss hps (HL.out.set.findEmpty hp)
            have hb2 : Below w1.heap.size w1 (w1.alloc (.cells #[.string ⟨#[]⟩, .string ⟨#[]⟩, .int .i64 0, .string ⟨#[]⟩, .int .i64 0, .string ⟨#[]⟩, .string ⟨#[]⟩] 42)) := (Below.refl _ _).alloc (Nat.le_refl _) _
            have HW2 := Lib.hid (HW1.out.trans (hb2.mono HW1.out.size))
            have HM2 := Lib.hid (HM1.out.below hb2)
            have HI2 := Lib.hid (HI1.out.keep hb2)
            obtain ⟨q1, q2, q3⟩ := par_emptyL hp
            clear hp hmem hps hb2
            go_upto_region 15 with (fail)
            generalize w1.alloc (.cells #[.string ⟨#[]⟩, .string ⟨#[]⟩, .int .i64 0, .string ⟨#[]⟩, .int .i64 0, .string ⟨#[]⟩, .string ⟨#[]⟩] 42) = w2 at *
            clear hlk c0 c1 c2 c3 c4 c5 c6
            obtain ⟨c0, c1, c2, c3, c4, c5, c6⟩ := HI2.out.c
            go_wp2_with fail
            go_roundg (gk - 1)
            case measure => exact Nat.sub_lt HGK.out.2 Nat.one_pos
            case rel => exact ⟨k + 1, HGK.out.1, by go_num, HW2.out, HM2.out⟩
          · obtain ⟨q, hq⟩ : ∃ q, findI l x.par = some q := by
              rcases HL.out.set.ok.par x hmem with h | h
              · exact absurd h hp
              · exact Option.isSome_iff_exists.1 h
            obtain ⟨z, hz, -, -⟩ := findI_some hq
            have hlk := HM1.out.hit hps hq hz
            have hb2 : Below w1.heap.size w1 (w1.alloc (.cells #[.string z.id, .string z.cu, .int .i64 z.kind, .string z.name, .int .i64 z.at_, .string z.par, .string z.text] 42)) := (Below.refl _ _).alloc (Nat.le_refl _) _
            have HW2 := Lib.hid (HW1.out.trans (hb2.mono HW1.out.size))
            have HM2 := Lib.hid (HM1.out.below hb2)
            have HI2 := Lib.hid (HI1.out.keep hb2)
            obtain ⟨q1, q2, q3⟩ := par_fullL hp
            clear hp hmem hps hq hz hb2
            go_upto_region 15 with (fail)
            generalize w1.alloc (.cells #[.string z.id, .string z.cu, .int .i64 z.kind, .string z.name, .int .i64 z.at_, .string z.par, .string z.text] 42) = w2 at *
            clear hlk c0 c1 c2 c3 c4 c5 c6
            obtain ⟨c0, c1, c2, c3, c4, c5, c6⟩ := HI2.out.c
            go_wp2_with fail
            go_roundg (gk - 1)
            case measure => exact Nat.sub_lt HGK.out.2 Nat.one_pos
            case rel => exact ⟨k + 1, HGK.out.1, by go_num, HW2.out, HM2.out⟩
        · have hnk : ¬ (k : Int) < (n : Int) := by omega
          have HWE := Lib.hid HW.out
          have HME := Lib.hid HMP.out
          clear HK HW HMP hkn
          obtain ⟨ko, rfl⟩ : ∃ ko : Nat, ko = k := ⟨_, rfl⟩
          go_wp2_with fail
          go_loopg [76] n (fun gk v wr => ∃ k : Nat, Hid (k + gk = n) ∧ v = .int .i64 (k : Int) ∧ Hid (Below w.heap.size w wr) ∧ Hid (IMapAt wr M l))
          case atStart => exact ⟨0, show 0 + n = n by omega, rfl, HWE.out, HME.out⟩
          case round =>
            clear HWE HME hnk hlt
            obtain ⟨k, HK, rfl, HW, HMP⟩ := hrel
            have hkn : k ≤ n := by have := HK.out; omega
            by_cases hlt : k < n
            · have HGK := Lib.hid (show k + 1 + (gk - 1) = n ∧ 0 < gk by have := HK.out; omega)
              obtain ⟨g, off, rfl, hg, hc⟩ := (ElemsAt.keep HH.out HW.out).item (by omega)
              have hkl : k < l.length := by have := HN.out; omega
              obtain ⟨x, hx⟩ : ∃ x, l[k]? = some x := ⟨_, List.getElem?_eq_getElem hkl⟩
              obtain ⟨c0, c1, c2, c3, c4, c5, c6⟩ := hc k x hx
              have hmem := List.mem_of_getElem? hx
              have HX := Lib.hid hx
              have hb1 : Below wr.heap.size wr (wr.alloc (.cells #[.string x.id, .string x.cu, .int .i64 x.kind, .string x.name, .int .i64 x.at_, .string x.par, .string x.text] 42)) := (Below.refl _ _).alloc (Nat.le_refl _) _
              have HI1 : Hid (ItemAt (wr.alloc (.cells #[.string x.id, .string x.cu, .int .i64 x.kind, .string x.name, .int .i64 x.at_, .string x.par, .string x.text] 42)) wr.heap.size x) := item_new wr x
              have HW1 := Lib.hid (HW.out.trans (hb1.mono HW.out.size))
              have HM1 := Lib.hid (HMP.out.below hb1)
              clear hc hx hkl HK hb1 hg HMP HW
              go_upto_region 21 with (fail)
              obtain ⟨P, hP⟩ : ∃ P, P = wr.heap.size := ⟨_, rfl⟩
              rw [← hP] at HI1 ⊢
              generalize wr.alloc (.cells #[.string x.id, .string x.cu, .int .i64 x.kind, .string x.name, .int .i64 x.at_, .string x.par, .string x.text] 42) = w1 at *
              clear hP c0 c1 c2 c3 c4 c5 c6
              obtain ⟨c0, c1, c2, c3, c4, c5, c6⟩ := HI1.out.c
              have HAB := Lib.hid (aboveP_any M k x l w1 HM1.out HL.out.set HX.out)
              unfold Itm.v at HAB
              clear hmem
              go_wp2_with fail
              refine HAB.out.mono ?_
              rintro e w2 ⟨rfl, hb2⟩
              have HW2 := Lib.hid (HW1.out.trans (hb2.mono HW1.out.size))
              have HM2 := Lib.hid (HM1.out.below hb2)
              clear hb2 HAB c0 c1 c2 c3 c4 c5 c6
              generalize (chainI l (l.length + 1) k).length = len at *
              go_wp2_with fail
              go_roundg (gk - 1)
              case measure => exact Nat.sub_lt HGK.out.2 Nat.one_pos
              case rel => exact ⟨k + 1, HGK.out.1, by go_num, HW2.out, HM2.out⟩
            · have hnk : ¬ (k : Int) < (n : Int) := by omega
              have HWE := Lib.hid HW.out
              have HME := Lib.hid HMP.out
              clear HK HW HMP hkn
              obtain ⟨ko, rfl⟩ : ∃ ko : Nat, ko = k := ⟨_, rfl⟩
              go_wp2_with fail
              go_loopg [90] n (fun gk v wr => ∃ k : Nat, Hid (k + gk = n) ∧ v = .int .i64 (k : Int) ∧ Hid (Below w.heap.size w wr) ∧ Hid (IMapAt wr M l))
              case atStart => exact ⟨0, show 0 + n = n by omega, rfl, HWE.out, HME.out⟩
              case round =>
                clear HWE HME hnk hlt
                obtain ⟨k, HK, rfl, HW, HMP⟩ := hrel
                have hkn : k ≤ n := by have := HK.out; omega
                by_cases hlt : k < n
                · have HGK := Lib.hid (show k + 1 + (gk - 1) = n ∧ 0 < gk by have := HK.out; omega)
                  obtain ⟨g, off, rfl, hg, hc⟩ := (ElemsAt.keep HH.out HW.out).item (by omega)
                  have hkl : k < l.length := by have := HN.out; omega
                  obtain ⟨x, hx⟩ : ∃ x, l[k]? = some x := ⟨_, List.getElem?_eq_getElem hkl⟩
                  obtain ⟨c0, c1, c2, c3, c4, c5, c6⟩ := hc k x hx
                  have hmem := List.mem_of_getElem? hx
                  have HX := Lib.hid hx
                  have hb1 : Below wr.heap.size wr (wr.alloc (.cells #[.string x.id, .string x.cu, .int .i64 x.kind, .string x.name, .int .i64 x.at_, .string x.par, .string x.text] 42)) := (Below.refl _ _).alloc (Nat.le_refl _) _
                  have HI1 : Hid (ItemAt (wr.alloc (.cells #[.string x.id, .string x.cu, .int .i64 x.kind, .string x.name, .int .i64 x.at_, .string x.par, .string x.text] 42)) wr.heap.size x) := item_new wr x
                  have HW1 := Lib.hid (HW.out.trans (hb1.mono HW.out.size))
                  have HM1 := Lib.hid (HMP.out.below hb1)
                  clear hc hx hkl HK hb1 hg HMP HW
                  go_upto_region 28 with (fail)
                  obtain ⟨P, hP⟩ : ∃ P, P = wr.heap.size := ⟨_, rfl⟩
                  rw [← hP] at HI1 ⊢
                  generalize wr.alloc (.cells #[.string x.id, .string x.cu, .int .i64 x.kind, .string x.name, .int .i64 x.at_, .string x.par, .string x.text] 42) = w1 at *
                  clear hP c0 c1 c2 c3 c4 c5 c6
                  obtain ⟨c0, c1, c2, c3, c4, c5, c6⟩ := HI1.out.c
                  have HPL := Lib.hid (placed_ok M k x l w1 HM1.out HL.out.set HX.out)
                  unfold Itm.v at HPL
                  clear hmem
                  go_wp2_with fail
                  refine HPL.out.mono ?_
                  rintro e w2 ⟨rfl, hb2⟩
                  have HW2 := Lib.hid (HW1.out.trans (hb2.mono HW1.out.size))
                  have HM2 := Lib.hid (HM1.out.below hb2)
                  clear hb2 HPL c0 c1 c2 c3 c4 c5 c6
                  go_wp2_with fail
                  go_roundg (gk - 1)
                  case measure => exact Nat.sub_lt HGK.out.2 Nat.one_pos
                  case rel => exact ⟨k + 1, HGK.out.1, by go_num, HW2.out, HM2.out⟩
                · have hnk : ¬ (k : Int) < (n : Int) := by omega
                  go_wp2_with fail
                  go_ret
                  exact ⟨rfl, HW.out⟩
end Go.Proofs.YtombeeeiignckaaGreatDoor

namespace Go.Proofs.YtombeeeiignckaaGreatDoor
open Go.RowKit

abbrev Str : Type := List UInt8
theorem idxS_neg (x : Str) : ∀ (l : List Str) (i : Nat), decide (0 ≤ Lib.idxFromS (l.map bag) (bag x) i) = l.contains x
  | [], i => by simp [Lib.idxFromS]
  | y :: l, i => by
    by_cases h : y = x
    · subst h
      simp [Lib.idxFromS]
    · have h' : ¬ bag y = bag x := fun e => h (bag_inj.1 e)
      have ih := idxS_neg x l (i + 1)
      have h'' : ¬ x = y := fun e => h e.symm
      simp only [List.map_cons, Lib.idxFromS, h', if_false]
      rw [ih]
      simp [h'']
theorem containsS_bag (x : Str) (l : List Str) : Lib.containsS (l.map bag) (bag x) = l.contains x := by
  have := idxS_neg x l 0
  unfold Lib.containsS
  first | exact this | (unfold Lib.idxOfS; exact this) | (rw [← this]; simp [Lib.idxOfS])
theorem containsS_any (A : Option Addr) (n c : Nat) (l : List Str) (x : Str) (w : World) (h : StrsAt w A n c l) (hn : n ≤ 100000) :
    Calls Tryz.prog 7 #[.slice A n c, .string (bag x)] w fun e w' => e = .returned (.bool (l.contains x)) ∧ w' = w := by
  have hl := h.1
  rcases Nat.eq_zero_or_pos n with h0 | h0
  · subst h0
    have e1 : l = [] := List.eq_nil_of_length_eq_zero hl.symm
    subst e1
    exact Tryz.slices_Contains_string_empty A c (bag x) w
  · obtain ⟨g1, o1, rfl, _, _⟩ := h.str h0
    refine (Tryz.slices_Contains_string g1 o1 n c (l.map bag) (bag x) w (by simp; omega) (by omega) h.bags).mono ?_
    rintro e w' ⟨rfl, rfl⟩
    refine ⟨ret_bool ?_, rfl⟩
    rw [List.take_of_length_le (by simp; omega)]
    exact containsS_bag x l
section
variable {α : Type} {E : Elem α}
/-- Two rows of the call's own that do not share a block. -/
def ApartV (v u : Value) : Prop := ∀ i, v.ownBlock = some i → u.ownBlock ≠ some i
theorem ApartV.symm {v u : Value} (h : ApartV v u) : ApartV u v := fun i e1 e2 => h i e2 e1
theorem apart_nil (u : Value) : ApartV (.slice none 0 0) u := fun i e => by cases e
theorem ApartV.grow {w : World} {base : Nat} {v v' u : Value} {Y : List α} {o : Obj} (h : ApartV v u) (hu : Owns E w base u Y) (hv : v'.ownBlock = v.ownBlock ∨ v'.ownBlock = some (w.alloc o).heap.size) : ApartV v' u := by
  intro i e1 e2
  rcases hv with hv | hv
  · exact h i (hv ▸ e1) e2
  · rw [hv] at e1
    have e3 := Option.some.inj e1
    have := (hu.lt i e2).2
    simp at e3
    omega
theorem Owns.apart {w w' : World} {base : Nat} {v u : Value} {Y : List α} {o : Obj} (h : ApartV v u) (hu : Owns E w base u Y) (hg : (w.alloc o).grownBy w' v.ownBlock) : Owns E w' base u Y := by
  refine World.ownsRow.kept (World.ownsRow.alloc hu o) hg ?_
  cases e : u.ownBlock with
  | none => exact .inl rfl
  | some i => exact .inr (fun e2 => h i e2.symm e)
end
theorem Owns.lit {α : Type} {E : Elem α} (hE : E.Ok) (w : World) (base : Nat) (l : List α) (hb : base ≤ w.heap.size) (hl : l.length ≤ 1000) : Owns E (w.alloc (.cells (E.cells l).toArray E.t)) base (.slice (some ⟨w.heap.size, 0, none⟩) l.length l.length) l := by
  refine ⟨Elem.cells_length hE l, .inr ⟨w.heap.size, l.length, (E.cells l).toArray, rfl, hb, heap_alloc_new _ _, Nat.le_refl _, by unfold maxLen; omega, by simp [Elem.cells_length hE], ?_⟩⟩
  rw [List.take_of_length_le]
  rw [List.toList_toArray, Elem.cells_length hE]
  exact Nat.le_refl _
theorem alloc_strs (w : World) (l : List (List UInt8)) (t : TypeId) : StrsAt (w.alloc (.cells (l.map fun x => Value.string ⟨x.toArray⟩).toArray t)) (some ⟨w.heap.size, 0, none⟩) l.length l.length l := by
  refine ⟨rfl, Nat.le_refl _, (fun e => by cases e), fun _ => ⟨w.heap.size, 0, rfl, by simp, fun k x i v hk hv => ?_⟩⟩
  have hi : i = 0 := by have := (List.getElem?_eq_some_iff.1 hv).1; simp [StrE] at this; exact this
  subst hi
  simp [StrE] at hv
  subst hv
  rw [World.cell?_alloc_at _ _ _ _ rfl]
  simp [StrE, hk]
theorem bags_data (l : List (List UInt8)) : (l.map bag).map (·.data.toList) = l := by
  rw [List.map_map]
  have : ((fun b : ByteArray => b.data.toList) ∘ bag) = id := by funext x; exact bag_data x
  rw [this, List.map_id]
theorem joinC_any (A : Option Addr) (n c : Nat) (l : List Str) (d : UInt8) (w : World) (h : StrsAt w A n c l) (hn : n ≤ 100000) (hl : (Lib.join l [d]).length ≤ 1000000) :
    Calls Tryz.prog 48 #[.slice A n c, .string ⟨#[d]⟩] w fun e w' => e = .returned (.string (bag (Lib.join l [d]))) ∧ Below w.heap.size w w' := by
  have hnl := h.1
  rcases Nat.eq_zero_or_pos n with h0 | h0
  · subst h0
    have hl : l = [] := List.eq_nil_of_length_eq_zero hnl.symm
    subst hl
    refine (Tryz.strings_Join_none A c ⟨#[d]⟩ w).mono ?_
    rintro e w' ⟨rfl, rfl⟩
    exact ⟨rfl, Below.refl _ _⟩
  · obtain ⟨g, off, rfl, hg, hc⟩ := h.str h0
    subst hnl
    have hb := bags_data l
    have hj := Tryz.strings_Join g off c (l.map bag) ⟨#[d]⟩ w (fun j x hx => by
      have hjl : j < (l.map bag).length := (List.getElem?_eq_some_iff.1 hx).1
      rw [h.bags j hjl, List.getD_eq_getElem?_getD, hx]; rfl) hg (by simp; omega) (by simp; exact h.2.1) (by rw [hb]; show (Lib.join l [d]).length ≤ _; omega)
    rw [hb, List.length_map] at hj
    exact hj

end Go.Proofs.YtombeeeiignckaaGreatDoor

namespace Go.Proofs.YtombeeeiignckaaGreatDoor
open Go.RowKit Go.Maps

/-- 'm[k] = v' as one step of a region that draws. -/
theorem step_mapUpdate_own {H : Type} {P : Program} (w : World) {ops : Array Oper} {o : Oper} {a : Act} {Kc : Act → World → Prop} {Q : Exit → Act → World → Prop} {X : Prop}
    (hg : o.guard = none) (m x v : Operand) (t : TypeId) (hop : o.op = Op.mapUpdate t m x v)
    (k e : TypeId) (K : Keyed P k) (ht : P.underlying t = some (.map k e)) (R : Value → Option (DataW H × List MemPlace)) (b n : Nat) (D : DataW H)
    (hm : a.eval m = .map (some b)) (hown : w.ownsMap P k R b n D) (hn : n < maxLen) (key val : Value) (kl : Lit) (hx : a.eval x = key) (hv : a.eval v = val) (hkey : keyOf P k key = some kl)
    (d : DataW H) (ps : List MemPlace) (hval : R val = some (d, ps))
    (hK : ∀ w', w'.ownsMap P k R b (n + 1) (D.put kl d) → w.grownBy w' (some b) → Kc (a.put o.dst undef) w') :
    if Region.wanted o (yielded ops a.tmps) = true then Oper.wp P o a w Kc Q else X := by
  have hw : Region.wanted o (yielded ops a.tmps) = true := by simp [Region.wanted, hg]
  rw [if_pos hw]
  obtain ⟨w', hrun, r1, r2⟩ := hown.update K ht hn hkey hval
  unfold Oper.wp
  simp [execOp, hop, hm, hx, hv, hrun, Result.andThen]
  exact hK w' r1 r2
theorem own_ne_map {w : World} {base M m : Nat} {v : Value} {l : List Str} {D : DataW Value} (h : OwnStrs w base v l) (hm : w.ownsMap Tryz.prog 9 heldE M m D) : v.ownBlock ≠ some M := by
  obtain ⟨es, cl, hb, _⟩ := hm
  intro e
  rcases h.2 with ⟨rfl, _⟩ | ⟨g, cap, cur, rfl, _, hh, _⟩
  · cases e
  · have e2 : g = M := Option.some.inj e
    subst e2
    rw [hb] at hh
    cases hh
theorem own_map {w w' : World} {base M m : Nat} {v : Value} {l : List Str} {D : DataW Value} (h : OwnStrs w base v l) (hm : w.ownsMap Tryz.prog 9 heldE M m D) (hg : w.grownBy w' (some M)) : OwnStrs w' base v l := by
  refine World.ownsRow.kept h hg ?_
  cases e : v.ownBlock with
  | none => exact .inl rfl
  | some i => exact .inr (fun e2 => own_ne_map h hm (by rw [e, e2]))
structure TreeAt (w : World) (base M m : Nat) (D : DataW Value) (hd : Str → Value) (kid : Str → List Str) (tv : Value) (tl : List Str) : Prop where
  map : w.ownsMap Tryz.prog 9 heldE M m D
  at_ : ∀ id, D.atKey (.string id) (.held (.slice none 0 0)) = .held (hd id)
  row : ∀ id, OwnStrs w base (hd id) (kid id)
  apart : ∀ id id', id ≠ id' → ApartV (hd id) (hd id')
  tops : OwnStrs w base tv tl
  topa : ∀ id, ApartV tv (hd id)
theorem TreeAt.keep {w w' : World} {base M m : Nat} {D : DataW Value} {hd : Str → Value} {kid : Str → List Str} {tv : Value} {tl : List Str} (h : TreeAt w base M m D hd kid tv tl) (hb : Below w.heap.size w w') : TreeAt w' base M m D hd kid tv tl :=
  ⟨h.map.kept (below_grown hb none) (by simp), h.at_, fun id => (h.row id).below_ hb, h.apart, h.tops.below_ hb, h.topa⟩
theorem TreeAt.look {w : World} {base M m : Nat} {D : DataW Value} {hd : Str → Value} {kid : Str → List Str} {tv : Value} {tl : List Str} (h : TreeAt w base M m D hd kid tv tl) (id : ByteArray) (hid : id.size ≤ 1000000) :
    (Instr.lookup 53 (.map (some M)) (.string id) false).run Tryz.prog w = .ok (hd id.data.toList) w := by
  obtain ⟨v, ps, hrun, hv⟩ := h.map.lookup keyS Tryz.underlying53 (z := .slice none 0 0) (by kernel_rfl) (zd := .held (.slice none 0 0)) (zp := []) rfl (keyS_mk id hid)
  rw [h.at_] at hv
  simp only [heldE, Option.some.injEq, Prod.mk.injEq, DataW.held.injEq] at hv
  rw [hv.1] at hrun
  exact hrun
theorem TreeAt.mapAfter {w w5 : World} {base M m : Nat} {D : DataW Value} {hd : Str → Value} {kid : Str → List Str} {tv : Value} {tl : List Str} {o : Obj} (h : TreeAt w base M m D hd kid tv tl) (p : Str) (hg : (w.alloc o).grownBy w5 (hd p).ownBlock) : w5.ownsMap Tryz.prog 9 heldE M m D :=
  (h.map.alloc o).kept hg (fun e => own_ne_map (h.row p) h.map e.symm)
theorem TreeAt.putKid {w w5 w6 : World} {base M m : Nat} {D : DataW Value} {hd : Str → Value} {kid : Str → List Str} {tv : Value} {tl : List Str} {o : Obj} (h : TreeAt w base M m D hd kid tv tl) (p : Str) (x : Str) (v5 : Value)
    (hown5 : OwnStrs w5 base v5 (kid p ++ [x])) (hg : (w.alloc o).grownBy w5 (hd p).ownBlock) (hv : v5.ownBlock = (hd p).ownBlock ∨ v5.ownBlock = some (w.alloc o).heap.size)
    (hm : w6.ownsMap Tryz.prog 9 heldE M (m + 1) (D.put (.string p) (.held v5))) (hg6 : w5.grownBy w6 (some M)) :
    TreeAt w6 base M (m + 1) (D.put (.string p) (.held v5)) (fun id => if id = p then v5 else hd id) (fun id => if id = p then kid p ++ [x] else kid id) tv tl := by
  have hm5 := h.mapAfter p hg
  have hrow : ∀ id, id ≠ p → OwnStrs w6 base (hd id) (kid id) := fun id hne => own_map (Owns.apart (h.apart p id (Ne.symm hne)) (h.row id) hg) hm5 hg6
  refine ⟨hm, fun id => ?_, fun id => ?_, fun id id' hne => ?_, ?_, fun id => ?_⟩
  · by_cases e : id = p
    · subst e
      rw [atKey_put_same h.map.isMap (str_key _)]
      simp
    · rw [atKey_put_other (str_neI e), h.at_]
      simp [e]
  · by_cases e : id = p
    · simp only [e, if_true]
      exact own_map hown5 hm5 hg6
    · simp only [e, if_false]
      exact hrow id e
  · by_cases e : id = p
    · by_cases e' : id' = p
      · exact absurd (e.trans e'.symm) hne
      · simp only [e, if_true, e', if_false]
        exact ApartV.grow (h.apart p id' (Ne.symm e')) (h.row id') hv
    · by_cases e' : id' = p
      · simp only [e, if_false, e', if_true]
        exact (ApartV.grow (h.apart p id (Ne.symm e)) (h.row id) hv).symm
      · simp only [e, if_false, e']
        exact h.apart id id' hne
  · exact own_map (Owns.apart (h.topa p).symm h.tops hg) hm5 hg6
  · by_cases e : id = p
    · simp only [e, if_true]
      exact (ApartV.grow (h.topa p).symm h.tops hv).symm
    · simp only [e, if_false]
      exact h.topa id
theorem TreeAt.putTop {w w5 : World} {base M m : Nat} {D : DataW Value} {hd : Str → Value} {kid : Str → List Str} {tv : Value} {tl : List Str} {o : Obj} (h : TreeAt w base M m D hd kid tv tl) (x : Str) (v5 : Value)
    (hown5 : OwnStrs w5 base v5 (tl ++ [x])) (hg : (w.alloc o).grownBy w5 tv.ownBlock) (hv : v5.ownBlock = tv.ownBlock ∨ v5.ownBlock = some (w.alloc o).heap.size) :
    TreeAt w5 base M m D hd kid v5 (tl ++ [x]) :=
  ⟨(h.map.alloc o).kept hg (fun e => own_ne_map h.tops h.map e.symm), h.at_, fun id => Owns.apart (h.topa id) (h.row id) hg, h.apart, hown5, fun id => ApartV.grow (h.topa id) (h.row id) hv⟩
theorem TreeAt.congr {w : World} {base M m : Nat} {D : DataW Value} {hd : Str → Value} {kid kid' : Str → List Str} {tv : Value} {tl tl' : List Str} (h : TreeAt w base M m D hd kid tv tl) (e : ∀ id, kid' id = kid id) (e' : tl' = tl) : TreeAt w base M m D hd kid' tv tl' := by
  obtain rfl : kid' = kid := funext e
  subst e'
  exact h
def idOf (x : Itm) : Str := x.id.data.toList
def parL (x : Itm) : Str := x.par.data.toList
/-- The ids of the items right below one, among the first ones; those of the tops. -/
def kidN (l : List Itm) (k : Nat) (id : Str) : List Str := ((l.take k).filter fun x => decide (parL x = id) && !(parL x).isEmpty).map idOf
def topN (l : List Itm) (k : Nat) : List Str := ((l.take k).filter fun x => (parL x).isEmpty).map idOf
theorem kidN_top {l : List Itm} {k : Nat} {x : Itm} (hx : l[k]? = some x) (hp : parL x = []) (id : Str) : kidN l (k + 1) id = kidN l k id ∧ topN l (k + 1) = topN l k ++ [idOf x] := by
  obtain ⟨h1, h2⟩ := List.getElem?_eq_some_iff.1 hx
  unfold kidN topN
  rw [List.take_succ_eq_append_getElem h1, h2, List.filter_append, List.filter_append, List.map_append, List.map_append]
  rw [List.filter_cons, List.filter_cons, hp]
  simp
theorem kidN_kid {l : List Itm} {k : Nat} {x : Itm} (hx : l[k]? = some x) (hp : parL x ≠ []) (id : Str) : kidN l (k + 1) id = (if id = parL x then kidN l k (parL x) ++ [idOf x] else kidN l k id) ∧ topN l (k + 1) = topN l k := by
  obtain ⟨h1, h2⟩ := List.getElem?_eq_some_iff.1 hx
  have hp2 : (parL x).isEmpty = false := by simpa using hp
  unfold kidN topN
  rw [List.take_succ_eq_append_getElem h1, h2, List.filter_append, List.filter_append, List.map_append, List.map_append]
  rw [List.filter_cons, List.filter_cons, hp2]
  by_cases e : id = parL x
  · subst e; simp
  · have e' : ¬ parL x = id := fun h => e h.symm
    simp [e, e']
theorem kidN_len (l : List Itm) (k : Nat) (id : Str) : (kidN l k id).length ≤ k := by
  unfold kidN
  rw [List.length_map]
  exact Nat.le_trans (List.length_filter_le _ _) (by simp; omega)
theorem topN_len (l : List Itm) (k : Nat) : (topN l k).length ≤ k := by
  unfold topN
  rw [List.length_map]
  exact Nat.le_trans (List.length_filter_le _ _) (by simp; omega)
end Go.Proofs.YtombeeeiignckaaGreatDoor

namespace Go.Proofs.YtombeeeiignckaaGreatDoor
open Go.RowKit Go.Maps

abbrev TB (w : World) (T : Nat) (a b c : Value) : Prop := w.heap[T]? = some (.cells #[a, b, c] 55 (0, 0))
theorem TB.lt {w : World} {T : Nat} {a b c : Value} (h : TB w T a b c) : T < w.heap.size := (Array.getElem?_eq_some_iff.1 h).1
theorem TB.c {w : World} {T : Nat} {a b c : Value} (h : TB w T a b c) : w.cell? ⟨T, 0, none⟩ = some a ∧ w.cell? ⟨T, 1, none⟩ = some b ∧ w.cell? ⟨T, 2, none⟩ = some c ∧ w.frozen? ⟨T, 0, none⟩ = false ∧ w.frozen? ⟨T, 1, none⟩ = false ∧ w.frozen? ⟨T, 2, none⟩ = false := by
  refine ⟨?_, ?_, ?_, by unfold TB at h; simp [World.frozen?, h], by unfold TB at h; simp [World.frozen?, h], by unfold TB at h; simp [World.frozen?, h]⟩ <;> (rw [cell_of_row w T _ _ _ _ h]; rfl)
theorem TB.keep {w w' : World} {T : Nat} {a b c : Value} (h : TB w T a b c) (hb : Below w.heap.size w w') : TB w' T a b c := (hb.block T h.lt).trans h
theorem TB.set0 {w : World} {T : Nat} {a b c : Value} (h : TB w T a b c) (v : Value) : TB (w.setCell ⟨T, 0, none⟩ v) T v b c := by unfold TB at *; simp [World.setCell, Array.getElem?_modify, h]
theorem TB.set1 {w : World} {T : Nat} {a b c : Value} (h : TB w T a b c) (v : Value) : TB (w.setCell ⟨T, 1, none⟩ v) T a v c := by unfold TB at *; simp [World.setCell, Array.getElem?_modify, h]
theorem TB.set2 {w : World} {T : Nat} {a b c : Value} (h : TB w T a b c) (v : Value) : TB (w.setCell ⟨T, 2, none⟩ v) T a b v := by unfold TB at *; simp [World.setCell, Array.getElem?_modify, h]
theorem tree_ne : (55 : TypeId) ≠ StrE.t := by decide
theorem item_ne : (42 : TypeId) ≠ StrE.t := by decide
theorem cells_ne_map {w : World} {b M m : Nat} {cs : Array Value} {t : TypeId} {fr : Nat × Nat} {D : DataW Value} (h : w.heap[b]? = some (.cells cs t fr)) (hm : w.ownsMap Tryz.prog 9 heldE M m D) : b ≠ M := by
  obtain ⟨es, cl, hb, _⟩ := hm
  intro e
  subst e
  rw [h] at hb
  cases hb
theorem cells_ne_imap {w : World} {b M : Nat} {cs : Array Value} {t : TypeId} {fr : Nat × Nat} {l : List Itm} (h : w.heap[b]? = some (.cells cs t fr)) (hm : IMapAt w M l) : b ≠ M := by
  obtain ⟨D, h1, _⟩ := hm.ex
  exact cells_ne_map h h1
theorem own_ne_imap {w : World} {base M : Nat} {v : Value} {L : List Str} {l : List Itm} (h : OwnStrs w base v L) (hm : IMapAt w M l) : v.ownBlock ≠ some M := by
  obtain ⟨D, h1, _⟩ := hm.ex
  exact own_ne_map h h1
theorem TreeAt.beside {w w' : World} {base M m R : Nat} {D : DataW Value} {hd : Str → Value} {kid : Str → List Str} {tv : Value} {tl : List Str} {cs : Array Value} {t : TypeId} {fr : Nat × Nat} (h : TreeAt w base M m D hd kid tv tl) (hR : w.heap[R]? = some (.cells cs t fr)) (ht : t ≠ StrE.t) (hg : w.grownBy w' (some R)) : TreeAt w' base M m D hd kid tv tl := by
  have hk : ∀ (v : Value) (L : List Str), OwnStrs w base v L → OwnStrs w' base v L := fun v L ho => by
    refine World.ownsRow.kept ho hg ?_
    cases e : v.ownBlock with
    | none => exact .inl rfl
    | some i => exact .inr (fun e2 => Owns.ne_block ho hR ht (by rw [e, e2]))
  exact ⟨h.map.kept hg (fun e => cells_ne_map hR h.map (Option.some.inj e).symm), h.at_, fun id => hk _ _ (h.row id), h.apart, hk _ _ h.tops, h.topa⟩
def NewTreePost (w : World) (l : List Itm) (e : Ending) (w' : World) : Prop :=
  ∃ Mi Mk m tv D hd, e = .returned (.agg #[.map (some Mi), .map (some Mk), tv]) ∧ IMapAt w' Mi l ∧ TreeAt w' w.heap.size Mk m D hd (kidN l l.length) tv (topN l l.length) ∧ Below w.heap.size w w'
set_option maxHeartbeats 6400000 in
set_option maxRecDepth 100000 in
theorem newTree_any (A : Option Addr) (n c : Nat) (l : List Itm) (w : World) (h : ItemsAt w A n c l) (hl : SetI l) :
    Calls Tryz.prog 19 #[.slice A n c] w (NewTreePost w l) := by
  have HN := Lib.hid h.1
  have HH := Lib.hid h
  have HL := Lib.hid hl
  have hn : n ≤ 2000 := by have := hl.few; have := h.1; omega
  have hmm := @run_makeMap Tryz.prog
  have hb0 : Below w.heap.size w (w.alloc (.cells #[.map none, .map none, .slice none 0 0] 55)) := (Below.refl _ _).alloc (Nat.le_refl _) _
  have HR0 : Hid (TB (w.alloc (.cells #[.map none, .map none, .slice none 0 0] 55)) w.heap.size (.map none) (.map none) (.slice none 0 0)) := heap_alloc_new w _
  have HB0 := Lib.hid hb0
  have HBY := Lib.hid (byId_any A n c l _ (h.keep hb0) hl)
  clear h hl hb0
  go_enter Tryz.func19, Tryz.ntmps19
  go_upto_region 1 with (fail)
  generalize w.alloc (.cells #[.map none, .map none, .slice none 0 0] 55) = w0 at *
  go_wp2_with (go_at_call 41; refine HBY.out.mono ?_; rintro e w1 ⟨Mi, rfl, -, hm1, hb1⟩; have HM1 := Lib.hid hm1; have HR1 := Lib.hid (HR0.out.keep hb1); have HB1 := Lib.hid (HB0.out.trans (hb1.mono HB0.out.size)); clear hm1 hb1)
  have hz1 : (w1.alloc (.map #[] 0)).heap.size = w1.heap.size + 1 := by simp
  have hbm : Below w1.heap.size w1 (w1.alloc (.map #[] 0)) := (Below.refl _ _).alloc (Nat.le_refl _) _
  have hb3 : Below w1.heap.size w1 ((w1.alloc (.map #[] 0)).alloc (.cells #[.map (some Mi), .map (some w1.heap.size), .slice none 0 0] 55)) := hbm.alloc hbm.size _
  have HT3 : Hid (TB ((w1.alloc (.map #[] 0)).alloc (.cells #[.map (some Mi), .map (some w1.heap.size), .slice none 0 0] 55)) (w1.heap.size + 1) (.map (some Mi)) (.map (some w1.heap.size)) (.slice none 0 0)) := by
    have := heap_alloc_new (w1.alloc (.map #[] 0)) (.cells #[.map (some Mi), .map (some w1.heap.size), .slice none 0 0] 55)
    rw [hz1] at this
    exact this
  have HTR3 : Hid (TreeAt ((w1.alloc (.map #[] 0)).alloc (.cells #[.map (some Mi), .map (some w1.heap.size), .slice none 0 0] 55)) w.heap.size w1.heap.size 0 (.map []) (fun _ => .slice none 0 0) (kidN l 0) (.slice none 0 0) (topN l 0)) :=
    ⟨(World.ownsMap_made (H := Value) w1 Tryz.prog 9 heldE).alloc _, fun _ => rfl, fun _ => Owns.nil _ _, fun _ _ _ => apart_nil _, Owns.nil _ _, fun _ => apart_nil _⟩
  have HM3 := Lib.hid (HM1.out.below hb3)
  have HR3 := Lib.hid (HR1.out.keep hb3)
  have HB3 := Lib.hid (HB1.out.trans (hb3.mono HB1.out.size))
  have HMM : Hid (Mi ≠ w1.heap.size) := by have := HM1.out.lt; show _ ≠ _; omega
  have HMK : Hid (w.heap.size ≤ w1.heap.size) := HB1.out.size
  have HTR0 : Hid (w.heap.size ≠ w1.heap.size + 1) := by show _ ≠ _; have := HB1.out.size; omega
  have HTW : Hid (w.heap.size ≤ w1.heap.size + 1) := by show _ ≤ _; have := HB1.out.size; omega
  clear hbm hb3 HM1 HR1 HB1 HB0 HR0 HBY hmm
  obtain ⟨T, hT⟩ : ∃ T, T = w1.heap.size + 1 := ⟨_, rfl⟩
  rw [← hT] at HT3 HTR0 HTW
  generalize ((w1.alloc (.map #[] 0)).alloc (.cells #[.map (some Mi), .map (some w1.heap.size), .slice none 0 0] 55)) = w2 at *
  try rw [← hT]
  clear hz1 hT
  generalize w1.heap.size = Mk at *
  go_loopg [12] n (fun gk v wr => ∃ (k m : Nat) (D : DataW Value) (hd : Str → Value) (tv : Value), Hid (k + gk = n) ∧ v = .int .i64 (k : Int) ∧ Hid (m ≤ k) ∧ Hid (TreeAt wr w.heap.size Mk m D hd (kidN l k) tv (topN l k)) ∧ Hid (TB wr T (.map (some Mi)) (.map (some Mk)) tv) ∧ Hid (TB wr w.heap.size (.map none) (.map none) (.slice none 0 0)) ∧ Hid (IMapAt wr Mi l) ∧ Hid (Below w.heap.size w wr))
  case atStart => exact ⟨0, 0, _, _, _, show 0 + n = n by omega, rfl, Nat.le_refl _, HTR3.out, HT3.out, HR3.out, HM3.out, HB3.out⟩
  case round =>
    obtain ⟨k, m, D, hd, tv, HK, rfl, HMLE, HTR, HTB, HRB, HMI, HB⟩ := hrel
    clear HTR3 HT3 HR3 HM3 HB3
    have hkn : k ≤ n := by have := HK.out; omega
    by_cases hlt : k < n
    · have HGK := Lib.hid (show k + 1 + (gk - 1) = n ∧ 0 < gk by have := HK.out; omega)
      obtain ⟨g, off, rfl, hg, hc⟩ := (ElemsAt.keep HH.out HB.out).item (by omega)
      have hkl : k < l.length := by have := HN.out; omega
      obtain ⟨x, hx⟩ : ∃ x, l[k]? = some x := ⟨_, List.getElem?_eq_getElem hkl⟩
      obtain ⟨c0, c1, c2, c3, c4, c5, c6⟩ := hc k x hx
      have hps := ((HL.out.ok.each x (List.mem_of_getElem? hx)).small).2.2.2.1
      have HX := Lib.hid hx
      have hb1 : Below wr.heap.size wr (wr.alloc (.cells #[.string x.id, .string x.cu, .int .i64 x.kind, .string x.name, .int .i64 x.at_, .string x.par, .string x.text] 42)) := (Below.refl _ _).alloc (Nat.le_refl _) _
      have HI1 : Hid (ItemAt (wr.alloc (.cells #[.string x.id, .string x.cu, .int .i64 x.kind, .string x.name, .int .i64 x.at_, .string x.par, .string x.text] 42)) wr.heap.size x) := item_new wr x
      have HB1 := Lib.hid (HB.out.trans (hb1.mono HB.out.size))
      have HM1 := Lib.hid (HMI.out.below hb1)
      have HTB1 := Lib.hid (HTB.out.keep hb1)
      have HRB1 := Lib.hid (HRB.out.keep hb1)
      have HTR1 := Lib.hid (HTR.out.keep hb1)
      clear hc hx hkl HK hb1 hg HMI HB HTB HRB HTR
      go_upto_region 5 with (fail)
      obtain ⟨P, hP⟩ : ∃ P, P = wr.heap.size := ⟨_, rfl⟩
      rw [← hP] at HI1 ⊢
      generalize (wr.alloc (.cells #[.string x.id, .string x.cu, .int .i64 x.kind, .string x.name, .int .i64 x.at_, .string x.par, .string x.text] 42)) = w2 at *
      clear hP c0 c1 c2 c3 c4 c5 c6
      obtain ⟨c0, c1, c2, c3, c4, c5, c6⟩ := HI1.out.c
      by_cases hp : x.par.data.toList = []
      · obtain ⟨t0, t1, t2, f0, f1, f2⟩ := HTB1.out.c
        obtain ⟨q1, q2, q3⟩ := par_emptyL hp
        have HPAR : Hid (parL x = []) := hp
        have htl := topN_len l k
        have hzb := HB1.out.size
        have HONE : Hid (ElemsAt StrE (w2.alloc (.cells #[.string x.id] 9)) (some ⟨w2.heap.size, 0, none⟩) 1 1 [idOf x]) := one_elem (E := StrE) w2 (idOf x)
        clear hp
        go_upto_region 6 with (fail)
        go_wp2_with (at_builtin; refine append_elems strE_ok rfl _ _ rfl w.heap.size tv (topN l k) rfl (World.ownsRow.alloc HTR1.out.tops _) (some ⟨w2.heap.size, 0, none⟩) 1 1 [idOf x] rfl HONE.out (by simp; omega) (by simp; omega) ?_; intro v5 w5 hown5 hgrow5 hv5; obtain ⟨A5, c5, hv9, -, -, -⟩ := hown5.at_ strE_ok; rw [show (topN l k ++ [idOf x]).length = (topN l k).length + 1 by simp] at hv9; subst hv9; have HT5 : Hid (TB w5 T (.map (some Mi)) (.map (some Mk)) tv) := (hgrow5.block T (by simp; have := HTB1.out.lt; omega) (fun e => Owns.ne_block HTR1.out.tops HTB1.out tree_ne e.symm)).trans (HTB1.out.keep ((Below.refl _ _).alloc (Nat.le_refl _) _)); have HR5 : Hid (TB w5 w.heap.size (.map none) (.map none) (.slice none 0 0)) := (hgrow5.block _ (by simp; have := HRB1.out.lt; omega) (fun e => Owns.ne_block HTR1.out.tops HRB1.out tree_ne e.symm)).trans (HRB1.out.keep ((Below.refl _ _).alloc (Nat.le_refl _) _)); have HM5 : Hid (IMapAt w5 Mi l) := (HM1.out.below ((Below.refl _ _).alloc (Nat.le_refl _) _)).kept hgrow5 (own_ne_imap HTR1.out.tops HM1.out); have HB5 : Hid (Below w.heap.size w w5) := (HB1.out.alloc HB1.out.size _).grown hgrow5 (by simp; have := HB1.out.size; omega) (fun i e => (HTR1.out.tops.lt i e).1); have HTR5 := Lib.hid (HTR1.out.putTop (idOf x) (.slice A5 ((topN l k).length + 1) c5) hown5 hgrow5 hv5); clear hown5 hgrow5 hv5; obtain ⟨y0, y1, y2, z0, z1, z2⟩ := HT5.out.c)
        have HT6 := Lib.hid (HT5.out.set2 (.slice A5 ((topN l k).length + 1) c5))
        have HG6 := Lib.hid (grown_setCell w5 T 2 (.slice A5 ((topN l k).length + 1) c5))
        have HTR6 := Lib.hid (HTR5.out.beside HT5.out tree_ne HG6.out)
        have HM6 := Lib.hid (HM5.out.kept HG6.out (fun e => cells_ne_imap HT5.out HM5.out (Option.some.inj e)))
        have HR6 : Hid (TB (w5.setCell ⟨T, 2, none⟩ (.slice A5 ((topN l k).length + 1) c5)) w.heap.size (.map none) (.map none) (.slice none 0 0)) := (HG6.out.block _ HR5.out.lt (fun e => HTR0.out (Option.some.inj e))).trans HR5.out
        have HB6 := Lib.hid (HB5.out.grown HG6.out HB5.out.size (fun i e => by have := Option.some.inj e; have := HTW.out; omega))
        go_roundg (gk - 1)
        case measure => exact Nat.sub_lt HGK.out.2 Nat.one_pos
        case rel => exact ⟨k + 1, m, D, hd, (.slice A5 ((topN l k).length + 1) c5), HGK.out.1, by go_num, show m ≤ k + 1 by have := HMLE.out; omega, HTR6.out.congr (fun id => (kidN_top HX.out HPAR.out id).1) (kidN_top HX.out HPAR.out []).2, HT6.out, HR6.out, HM6.out, HB6.out⟩
      · obtain ⟨q1, q2, q3⟩ := par_fullL hp
        have HPAR : Hid (parL x ≠ []) := hp
        have hmk := HMLE.out
        clear hp
        go_upto_region 7 with (fail)
        have HSOF : Hid (∀ w', TB w' T (.map (some Mi)) (.map (some Mk)) tv → ItemAt w' P x → w'.cell? ⟨T, 1, none⟩ = some (.map (some Mk)) ∧ w'.cell? ⟨P, 0, none⟩ = some (.string x.id) ∧ w'.cell? ⟨P, 5, none⟩ = some (.string x.par)) := fun w' h1 h2 => ⟨h1.c.2.1, h2.c.1, h2.c.2.2.2.2.2.1⟩
        refine wp_region_held_drew (S := fun w' => w'.cell? ⟨T, 1, none⟩ = some (.map (some Mk)) ∧ w'.cell? ⟨P, 0, none⟩ = some (.string x.id) ∧ w'.cell? ⟨P, 5, none⟩ = some (.string x.par)) (by kernel_rfl) (HSOF.out _ HTB1.out HI1.out) (fun hHeld => ?_)
        have HTR2 : Hid (TreeAt w2.drew w.heap.size Mk m D hd (kidN l k) tv (topN l k)) := HTR1.out.keep ((Below.refl _ _).drew)
        have HTB2 : Hid (TB w2.drew T (.map (some Mi)) (.map (some Mk)) tv) := HTB1.out
        have HI2 : Hid (ItemAt w2.drew P x) := HI1.out
        have HM2 : Hid (IMapAt w2.drew Mi l) := HM1.out.below ((Below.refl _ _).drew)
        have HRB2 : Hid (TB w2.drew w.heap.size (.map none) (.map none) (.slice none 0 0)) := HRB1.out
        have HB2 : Hid (Below w.heap.size w w2.drew) := HB1.out.drew
        clear HTR1 HTB1 HI1 HM1 HRB1 HB1
        generalize w2.drew = w3 at *
        have hlk := HTR2.out.look x.par hps
        have hlkA := fun (o : Obj) => (HTR2.out.keep ((Below.refl _ _).alloc (Nat.le_refl _) o)).look x.par hps
        refine wpAnyH_take (i := 0) (oi := ⟨some 26, _, _, _, _, _⟩) (v := .pointer (some ⟨T, 1, none⟩)) rfl (by kernel_rfl) (by kernel_rfl) (by kernel_rfl) (fun _ _ _ h => h) (Or.inl ⟨by rfl, ?_⟩) hHeld ?_
        · intro w hSw
          (try dsimp only at hSw)
          go_simp
        simp only [Act.put, List.setIfInBounds_toArray, List.set_cons_zero, List.set_cons_succ]
        refine wpAnyH_take (i := 1) (oi := ⟨some 27, _, _, _, _, _⟩) (v := .map (some Mk)) rfl (by kernel_rfl) (by kernel_rfl) (by kernel_rfl) (fun _ _ _ h => h) (Or.inl ⟨by rfl, ?_⟩) hHeld ?_
        · intro w hSw
          (try dsimp only at hSw)
          go_simp
        simp only [Act.put, List.setIfInBounds_toArray, List.set_cons_zero, List.set_cons_succ]
        refine wpAnyH_take (i := 2) (oi := ⟨some 28, _, _, _, _, _⟩) (v := .pointer (some ⟨P, 5, none⟩)) rfl (by kernel_rfl) (by kernel_rfl) (by kernel_rfl) (fun _ _ _ h => h) (Or.inl ⟨by rfl, ?_⟩) hHeld ?_
        · intro w hSw
          (try dsimp only at hSw)
          go_simp
        simp only [Act.put, List.setIfInBounds_toArray, List.set_cons_zero, List.set_cons_succ]
        refine wpAnyH_take (i := 3) (oi := ⟨some 29, _, _, _, _, _⟩) (v := .string x.par) rfl (by kernel_rfl) (by kernel_rfl) (by kernel_rfl) (fun _ _ _ h => h) (Or.inl ⟨by rfl, ?_⟩) hHeld ?_
        · intro w hSw
          (try dsimp only at hSw)
          go_simp
        simp only [Act.put, List.setIfInBounds_toArray, List.set_cons_zero, List.set_cons_succ]
        refine wpAnyH_take (i := 4) (oi := ⟨some 30, _, _, _, _, _⟩) (v := .pointer (some ⟨T, 1, none⟩)) rfl (by kernel_rfl) (by kernel_rfl) (by kernel_rfl) (fun _ _ _ h => h) (Or.inl ⟨by rfl, ?_⟩) hHeld ?_
        · intro w hSw
          (try dsimp only at hSw)
          go_simp
        simp only [Act.put, List.setIfInBounds_toArray, List.set_cons_zero, List.set_cons_succ]
        refine wpAnyH_take (i := 5) (oi := ⟨some 31, _, _, _, _, _⟩) (v := .map (some Mk)) rfl (by kernel_rfl) (by kernel_rfl) (by kernel_rfl) (fun _ _ _ h => h) (Or.inl ⟨by rfl, ?_⟩) hHeld ?_
        · intro w hSw
          (try dsimp only at hSw)
          go_simp
        simp only [Act.put, List.setIfInBounds_toArray, List.set_cons_zero, List.set_cons_succ]
        refine wpAnyH_take (i := 6) (oi := ⟨some 32, _, _, _, _, _⟩) (v := .pointer (some ⟨P, 5, none⟩)) rfl (by kernel_rfl) (by kernel_rfl) (by kernel_rfl) (fun _ _ _ h => h) (Or.inl ⟨by rfl, ?_⟩) hHeld ?_
        · intro w hSw
          (try dsimp only at hSw)
          go_simp
        simp only [Act.put, List.setIfInBounds_toArray, List.set_cons_zero, List.set_cons_succ]
        refine wpAnyH_take (i := 7) (oi := ⟨some 33, _, _, _, _, _⟩) (v := .string x.par) rfl (by kernel_rfl) (by kernel_rfl) (by kernel_rfl) (fun _ _ _ h => h) (Or.inl ⟨by rfl, ?_⟩) hHeld ?_
        · intro w hSw
          (try dsimp only at hSw)
          go_simp
        simp only [Act.put, List.setIfInBounds_toArray, List.set_cons_zero, List.set_cons_succ]
        refine wpAnyH_take (i := 9) (oi := ⟨some 35, _, _, _, _, _⟩) (v := .pointer (some ⟨P, 0, none⟩)) rfl (by kernel_rfl) (by kernel_rfl) (by kernel_rfl) (fun _ _ _ h => h) (Or.inl ⟨by rfl, ?_⟩) hHeld ?_
        · intro w hSw
          (try dsimp only at hSw)
          go_simp
        simp only [Act.put, List.setIfInBounds_toArray, List.set_cons_zero, List.set_cons_succ]
        refine wpAnyH_take (i := 10) (oi := ⟨some 36, _, _, _, _, _⟩) (v := .string x.id) rfl (by kernel_rfl) (by kernel_rfl) (by kernel_rfl) (fun _ _ _ h => h) (Or.inl ⟨by rfl, ?_⟩) hHeld ?_
        · intro w hSw
          (try dsimp only at hSw)
          go_simp
        simp only [Act.put, List.setIfInBounds_toArray, List.set_cons_zero, List.set_cons_succ]
        have HONE : Hid (ElemsAt StrE (w3.alloc (.cells #[.string x.id] 9)) (some ⟨w3.heap.size, 0, none⟩) 1 1 [idOf x]) := one_elem (E := StrE) w3 (idOf x)
        have hkl1 := kidN_len l k x.par.data.toList
        have hzb2 := HB2.out.size
        refine wpAnyH_ready (rs := [8, 11]) (by kernel_rfl) (by simp) ?_
        refine AllReadyH.cons (o := ⟨some 34, _, _, _, _, _⟩) rfl (fun K hK => ?_) (AllReadyH.cons (o := ⟨some 37, _, _, _, _, _⟩) rfl (fun K hK => ?_) AllReadyH.nil)
        · rw [if_pos (by rfl)]
          go_wp2_with fail
          refine hK.out _ _ (HSOF.out _ HTB2.out HI2.out) (fun hHeld => ?_)
          clear hK
          (try simp only [Act.put, List.setIfInBounds_toArray, List.set_cons_zero, List.set_cons_succ])
          refine wpAnyH_ready (rs := [11]) (by kernel_rfl) (by simp) ?_
          refine AllReadyH.cons (o := ⟨some 37, _, _, _, _, _⟩) rfl (fun K hK => ?_) AllReadyH.nil
          rw [if_pos (by rfl)]
          go_wp2_with fail
          refine hK.out _ _ (HSOF.out _ (HTB2.out.keep ((Below.refl _ _).alloc (Nat.le_refl _) _)) (HI2.out.keep ((Below.refl _ _).alloc (Nat.le_refl _) _))) (fun hHeld => ?_)
          clear hK
          (try simp only [Act.put, List.setIfInBounds_toArray, List.set_cons_zero, List.set_cons_succ])
          refine wpAnyH_ready (rs := [12]) (by kernel_rfl) (by simp) ?_
          refine AllReadyH.cons (o := ⟨some 38, _, _, _, _, _⟩) rfl (fun K hK => ?_) AllReadyH.nil
          refine step_elems strE_ok (by rfl) _ _ (by rfl) w.heap.size (hd x.par.data.toList) (kidN l k x.par.data.toList) (by rfl) (World.ownsRow.alloc (HTR2.out.row x.par.data.toList) _) ⟨w3.heap.size, 0, none⟩ 1 1 [idOf x] (by rfl) HONE.out (by omega) (by simp only [List.length_singleton]; omega) (by simp; omega) ?_
          intro v5 w5 hown5 hgrow5 hv5
          have HT5 : Hid (TB w5 T (.map (some Mi)) (.map (some Mk)) tv) := (hgrow5.block T (by simp; have := HTB2.out.lt; omega) (fun e => Owns.ne_block (HTR2.out.row x.par.data.toList) HTB2.out tree_ne e.symm)).trans (HTB2.out.keep ((Below.refl _ _).alloc (Nat.le_refl _) _))
          have HP5 : Hid (ItemAt w5 P x) := (hgrow5.block P (by simp; have := HI2.out.lt; omega) (fun e => Owns.ne_block (HTR2.out.row x.par.data.toList) HI2.out item_ne e.symm)).trans (HI2.out.keep ((Below.refl _ _).alloc (Nat.le_refl _) _))
          have HR5 : Hid (TB w5 w.heap.size (.map none) (.map none) (.slice none 0 0)) := (hgrow5.block _ (by simp; have := HRB2.out.lt; omega) (fun e => Owns.ne_block (HTR2.out.row x.par.data.toList) HRB2.out tree_ne e.symm)).trans (HRB2.out.keep ((Below.refl _ _).alloc (Nat.le_refl _) _))
          have HM5 : Hid (IMapAt w5 Mi l) := (HM2.out.below ((Below.refl _ _).alloc (Nat.le_refl _) _)).kept hgrow5 (own_ne_imap (HTR2.out.row x.par.data.toList) HM2.out)
          have HB5 : Hid (Below w.heap.size w w5) := (HB2.out.alloc HB2.out.size _).grown hgrow5 (by simp; have := HB2.out.size; omega) (fun i e => ((HTR2.out.row x.par.data.toList).lt i e).1)
          have hm5 := HTR2.out.mapAfter x.par.data.toList hgrow5
          clear hHeld
          refine hK.out _ _ (HSOF.out _ HT5.out HP5.out) (fun hHeld => ?_)
          clear hK
          (try simp only [Act.put, List.setIfInBounds_toArray, List.set_cons_zero, List.set_cons_succ])
          refine wpAnyH_ready (rs := [13]) (by kernel_rfl) (by simp) ?_
          refine AllReadyH.cons (o := ⟨none, _, _, _, _, _⟩) rfl (fun K hK => ?_) AllReadyH.nil
          refine step_mapUpdate_own _ (by rfl) _ _ _ 53 (by rfl) 9 33 keyS Tryz.underlying53 heldE Mk m D (by rfl) hm5 (by simp only [maxLen]; omega) (.string x.par) v5 (.string x.par.data.toList) (by rfl) (by rfl) (keyS_mk x.par hps) (.held v5) [] rfl ?_
          intro w6 hown6 hgrow6
          have HTR6 := Lib.hid (HTR2.out.putKid x.par.data.toList (idOf x) v5 hown5 hgrow5 hv5 hown6 hgrow6)
          have HT6 : Hid (TB w6 T (.map (some Mi)) (.map (some Mk)) tv) := (hgrow6.block T HT5.out.lt (fun e => cells_ne_map HT5.out hm5 (Option.some.inj e))).trans HT5.out
          have HP6 : Hid (ItemAt w6 P x) := (hgrow6.block P HP5.out.lt (fun e => cells_ne_map HP5.out hm5 (Option.some.inj e))).trans HP5.out
          have HR6 : Hid (TB w6 w.heap.size (.map none) (.map none) (.slice none 0 0)) := (hgrow6.block _ HR5.out.lt (fun e => cells_ne_map HR5.out hm5 (Option.some.inj e))).trans HR5.out
          have HM6 : Hid (IMapAt w6 Mi l) := HM5.out.kept hgrow6 (fun e => HMM.out (Option.some.inj e).symm)
          have HB6 : Hid (Below w.heap.size w w6) := HB5.out.grown hgrow6 HB5.out.size (fun i e => by have := Option.some.inj e; have := HMK.out; omega)
          clear hown5 hgrow5 hv5 hown6 hgrow6 hm5 hHeld
          refine hK.out _ _ (HSOF.out _ HT6.out HP6.out) (fun hHeld => ?_)
          clear hK hHeld
          refine wpAnyH_done (by kernel_rfl) ?_ _
          go_wp2_with fail
          go_roundg (gk - 1)
          case measure => exact Nat.sub_lt HGK.out.2 Nat.one_pos
          case rel => exact ⟨k + 1, m + 1, _, _, tv, HGK.out.1, by go_num, show m + 1 ≤ k + 1 by have := HMLE.out; omega, HTR6.out.congr (fun id => (kidN_kid HX.out HPAR.out id).1) (kidN_kid HX.out HPAR.out []).2, HT6.out, HR6.out, HM6.out, HB6.out⟩
        · rw [if_pos (by rfl)]
          go_wp2_with fail
          refine hK.out _ _ (HSOF.out _ (HTB2.out.keep ((Below.refl _ _).alloc (Nat.le_refl _) _)) (HI2.out.keep ((Below.refl _ _).alloc (Nat.le_refl _) _))) (fun hHeld => ?_)
          clear hK
          (try simp only [Act.put, List.setIfInBounds_toArray, List.set_cons_zero, List.set_cons_succ])
          refine wpAnyH_ready (rs := [8]) (by kernel_rfl) (by simp) ?_
          refine AllReadyH.cons (o := ⟨some 34, _, _, _, _, _⟩) rfl (fun K hK => ?_) AllReadyH.nil
          rw [if_pos (by rfl)]
          go_wp2_with fail
          refine hK.out _ _ (HSOF.out _ (HTB2.out.keep ((Below.refl _ _).alloc (Nat.le_refl _) _)) (HI2.out.keep ((Below.refl _ _).alloc (Nat.le_refl _) _))) (fun hHeld => ?_)
          clear hK
          (try simp only [Act.put, List.setIfInBounds_toArray, List.set_cons_zero, List.set_cons_succ])
          refine wpAnyH_ready (rs := [12]) (by kernel_rfl) (by simp) ?_
          refine AllReadyH.cons (o := ⟨some 38, _, _, _, _, _⟩) rfl (fun K hK => ?_) AllReadyH.nil
          refine step_elems strE_ok (by rfl) _ _ (by rfl) w.heap.size (hd x.par.data.toList) (kidN l k x.par.data.toList) (by rfl) (World.ownsRow.alloc (HTR2.out.row x.par.data.toList) _) ⟨w3.heap.size, 0, none⟩ 1 1 [idOf x] (by rfl) HONE.out (by omega) (by simp only [List.length_singleton]; omega) (by simp; omega) ?_
          intro v5 w5 hown5 hgrow5 hv5
          have HT5 : Hid (TB w5 T (.map (some Mi)) (.map (some Mk)) tv) := (hgrow5.block T (by simp; have := HTB2.out.lt; omega) (fun e => Owns.ne_block (HTR2.out.row x.par.data.toList) HTB2.out tree_ne e.symm)).trans (HTB2.out.keep ((Below.refl _ _).alloc (Nat.le_refl _) _))
          have HP5 : Hid (ItemAt w5 P x) := (hgrow5.block P (by simp; have := HI2.out.lt; omega) (fun e => Owns.ne_block (HTR2.out.row x.par.data.toList) HI2.out item_ne e.symm)).trans (HI2.out.keep ((Below.refl _ _).alloc (Nat.le_refl _) _))
          have HR5 : Hid (TB w5 w.heap.size (.map none) (.map none) (.slice none 0 0)) := (hgrow5.block _ (by simp; have := HRB2.out.lt; omega) (fun e => Owns.ne_block (HTR2.out.row x.par.data.toList) HRB2.out tree_ne e.symm)).trans (HRB2.out.keep ((Below.refl _ _).alloc (Nat.le_refl _) _))
          have HM5 : Hid (IMapAt w5 Mi l) := (HM2.out.below ((Below.refl _ _).alloc (Nat.le_refl _) _)).kept hgrow5 (own_ne_imap (HTR2.out.row x.par.data.toList) HM2.out)
          have HB5 : Hid (Below w.heap.size w w5) := (HB2.out.alloc HB2.out.size _).grown hgrow5 (by simp; have := HB2.out.size; omega) (fun i e => ((HTR2.out.row x.par.data.toList).lt i e).1)
          have hm5 := HTR2.out.mapAfter x.par.data.toList hgrow5
          clear hHeld
          refine hK.out _ _ (HSOF.out _ HT5.out HP5.out) (fun hHeld => ?_)
          clear hK
          (try simp only [Act.put, List.setIfInBounds_toArray, List.set_cons_zero, List.set_cons_succ])
          refine wpAnyH_ready (rs := [13]) (by kernel_rfl) (by simp) ?_
          refine AllReadyH.cons (o := ⟨none, _, _, _, _, _⟩) rfl (fun K hK => ?_) AllReadyH.nil
          refine step_mapUpdate_own _ (by rfl) _ _ _ 53 (by rfl) 9 33 keyS Tryz.underlying53 heldE Mk m D (by rfl) hm5 (by simp only [maxLen]; omega) (.string x.par) v5 (.string x.par.data.toList) (by rfl) (by rfl) (keyS_mk x.par hps) (.held v5) [] rfl ?_
          intro w6 hown6 hgrow6
          have HTR6 := Lib.hid (HTR2.out.putKid x.par.data.toList (idOf x) v5 hown5 hgrow5 hv5 hown6 hgrow6)
          have HT6 : Hid (TB w6 T (.map (some Mi)) (.map (some Mk)) tv) := (hgrow6.block T HT5.out.lt (fun e => cells_ne_map HT5.out hm5 (Option.some.inj e))).trans HT5.out
          have HP6 : Hid (ItemAt w6 P x) := (hgrow6.block P HP5.out.lt (fun e => cells_ne_map HP5.out hm5 (Option.some.inj e))).trans HP5.out
          have HR6 : Hid (TB w6 w.heap.size (.map none) (.map none) (.slice none 0 0)) := (hgrow6.block _ HR5.out.lt (fun e => cells_ne_map HR5.out hm5 (Option.some.inj e))).trans HR5.out
          have HM6 : Hid (IMapAt w6 Mi l) := HM5.out.kept hgrow6 (fun e => HMM.out (Option.some.inj e).symm)
          have HB6 : Hid (Below w.heap.size w w6) := HB5.out.grown hgrow6 HB5.out.size (fun i e => by have := Option.some.inj e; have := HMK.out; omega)
          clear hown5 hgrow5 hv5 hown6 hgrow6 hm5 hHeld
          refine hK.out _ _ (HSOF.out _ HT6.out HP6.out) (fun hHeld => ?_)
          clear hK hHeld
          refine wpAnyH_done (by kernel_rfl) ?_ _
          go_wp2_with fail
          go_roundg (gk - 1)
          case measure => exact Nat.sub_lt HGK.out.2 Nat.one_pos
          case rel => exact ⟨k + 1, m + 1, _, _, tv, HGK.out.1, by go_num, show m + 1 ≤ k + 1 by have := HMLE.out; omega, HTR6.out.congr (fun id => (kidN_kid HX.out HPAR.out id).1) (kidN_kid HX.out HPAR.out []).2, HT6.out, HR6.out, HM6.out, HB6.out⟩
    · have hnk : ¬ (k : Int) < (n : Int) := by omega
      obtain rfl : k = n := by omega
      have HKL : Hid (k = l.length) := HN.out
      obtain ⟨A5, c5, hv9, -, -, -⟩ := HTR.out.tops.at_ strE_ok
      subst hv9
      obtain ⟨t0, t1, t2, f0, f1, f2⟩ := HTB.out.c
      obtain ⟨r0, r1, r2, g0, g1, g2⟩ := HRB.out.c
      have HRS : Hid (TB (((wr.setCell ⟨w.heap.size, 0, none⟩ (.map (some Mi))).setCell ⟨w.heap.size, 1, none⟩ (.map (some Mk))).setCell ⟨w.heap.size, 2, none⟩ (.slice A5 (topN l k).length c5)) w.heap.size (.map (some Mi)) (.map (some Mk)) (.slice A5 (topN l k).length c5)) := ((HRB.out.set0 _).set1 _).set2 _
      have hgs : wr.grownBy (((wr.setCell ⟨w.heap.size, 0, none⟩ (.map (some Mi))).setCell ⟨w.heap.size, 1, none⟩ (.map (some Mk))).setCell ⟨w.heap.size, 2, none⟩ (.slice A5 (topN l k).length c5)) (some w.heap.size) := grown_trans (grown_trans (grown_setCell wr _ 0 _) (grown_setCell _ _ 1 _)) (grown_setCell _ _ 2 _)
      have HTRS := Lib.hid (HTR.out.beside HRB.out tree_ne hgs)
      have HMS := Lib.hid (HMI.out.kept hgs (fun e => cells_ne_imap HRB.out HMI.out (Option.some.inj e)))
      have HBS := Lib.hid (HB.out.grown hgs HB.out.size (fun i e => by have := Option.some.inj e; omega))
      clear hgs HTR HMI HB HK
      go_wp2_with fail
      clear t0 t1 t2 f0 f1 f2 r0 r1 r2 g0 g1 g2
      generalize (((wr.setCell ⟨w.heap.size, 0, none⟩ (.map (some Mi))).setCell ⟨w.heap.size, 1, none⟩ (.map (some Mk))).setCell ⟨w.heap.size, 2, none⟩ (.slice A5 (topN l k).length c5)) = wf at *
      obtain ⟨t0, t1, t2, f0, f1, f2⟩ := HRS.out.c
      refine bodyPost_ret (v := .agg #[.map (some Mi), .map (some Mk), (.slice A5 (topN l k).length c5)]) (by simp [results, Tryz.results19, go_sem, t0, t1, t2]) rfl ?_
      exact ⟨Mi, Mk, m, (.slice A5 (topN l k).length c5), D, hd, rfl, HMS.out, by rw [← HKL.out]; exact HTRS.out, HBS.out⟩
end Go.Proofs.YtombeeeiignckaaGreatDoor

namespace Go.Proofs.YtombeeeiignckaaGreatDoor
open Go.RowKit Go.Maps

/-- A map of rows that are read. -/
def KidsR (w : World) (M : Nat) (kid : Str → List Str) : Prop :=
  ∀ id : ByteArray, id.size ≤ 1000000 → ∃ A c, (Instr.lookup 53 (.map (some M)) (.string id) false).run Tryz.prog w = .ok (.slice A (kid id.data.toList).length c) w ∧ StrsAt w A (kid id.data.toList).length c (kid id.data.toList)
structure KidsK (w : World) (M : Nat) (kid : Str → List Str) : Prop where
  ex : ∃ (m : Nat) (D : DataW Value) (hd : Str → Value), w.ownsMap Tryz.prog 9 heldE M m D ∧ (∀ id, D.atKey (.string id) (.held (.slice none 0 0)) = .held (hd id)) ∧ ∀ id, ∃ A c, hd id = .slice A (kid id).length c ∧ StrsAt w A (kid id).length c (kid id)
theorem TreeAt.kids {w : World} {base M m : Nat} {D : DataW Value} {hd : Str → Value} {kid : Str → List Str} {tv : Value} {tl : List Str} (h : TreeAt w base M m D hd kid tv tl) : KidsK w M kid :=
  ⟨⟨m, D, hd, h.map, h.at_, fun id => by
    obtain ⟨A, c, e, _, hat, _⟩ := (h.row id).at_ strE_ok
    exact ⟨A, c, e, hat⟩⟩⟩
theorem KidsK.keep {w w' : World} {M : Nat} {kid : Str → List Str} (h : KidsK w M kid) (hb : Below w.heap.size w w') : KidsK w' M kid := by
  obtain ⟨m, D, hd, h1, h2, h3⟩ := h.ex
  exact ⟨⟨m, D, hd, h1.kept (below_grown hb none) (by simp), h2, fun id => by obtain ⟨A, c, e, hat⟩ := h3 id; exact ⟨A, c, e, hat.keep hb⟩⟩⟩
theorem KidsK.look2 {w w' : World} {M : Nat} {kid : Str → List Str} (h : KidsK w M kid) (hb : Below w.heap.size w w') (id : ByteArray) (hid : id.size ≤ 1000000) : ∃ A c, (Instr.lookup 53 (.map (some M)) (.string id) false).run Tryz.prog w' = .ok (.slice A (kid id.data.toList).length c) w' ∧ StrsAt w A (kid id.data.toList).length c (kid id.data.toList) := by
  obtain ⟨m, D, hd, h1, h2, h3⟩ := h.ex
  obtain ⟨v, ps, hrun, hv⟩ := (h1.kept (below_grown hb none) (by simp)).lookup keyS Tryz.underlying53 (z := .slice none 0 0) (by kernel_rfl) (zd := .held (.slice none 0 0)) (zp := []) rfl (keyS_mk id hid)
  rw [h2] at hv
  simp only [heldE, Option.some.injEq, Prod.mk.injEq, DataW.held.injEq] at hv
  obtain ⟨A, c, e, hat⟩ := h3 id.data.toList
  rw [hv.1, e] at hrun
  exact ⟨A, c, hrun, hat⟩
theorem KidsK.look {w : World} {M : Nat} {kid : Str → List Str} (h : KidsK w M kid) : KidsR w M kid := fun id hid => by
  obtain ⟨m, D, hd, h1, h2, h3⟩ := h.ex
  obtain ⟨v, ps, hrun, hv⟩ := h1.lookup keyS Tryz.underlying53 (z := .slice none 0 0) (by kernel_rfl) (zd := .held (.slice none 0 0)) (zp := []) rfl (keyS_mk id hid)
  rw [h2] at hv
  simp only [heldE, Option.some.injEq, Prod.mk.injEq, DataW.held.injEq] at hv
  obtain ⟨A, c, e, hat⟩ := h3 id.data.toList
  rw [hv.1, e] at hrun
  exact ⟨A, c, hrun, hat⟩
/-- The ids below one, as deep as that. -/
def belS (kid : Str → List Str) : Nat → Str → List Str
  | 0, id => [id]
  | f + 1, id => id :: (kid id).flatMap (belS kid f)
/-- Nothing lies deeper below one. -/
def EndsS (kid : Str → List Str) : Nat → Str → Prop
  | 0, id => kid id = []
  | f + 1, id => ∀ k ∈ kid id, EndsS kid f k
def BelPost (w : World) (L : List Str) (e : Ending) (w' : World) : Prop := ∃ v, e = .returned v ∧ OwnStrs w' w.heap.size v L ∧ Below w.heap.size w w'
theorem belS_fuel (kid : Str → List Str) : ∀ f id, (belS kid f id).length ≤ (belS kid (f + 1) id).length
  | 0, id => by simp [belS]
  | f + 1, id => by
    have h : ∀ L : List Str, (L.flatMap (belS kid f)).length ≤ (L.flatMap (belS kid (f + 1))).length := by
      intro L
      induction L with
      | nil => simp
      | cons a L ih =>
        have := belS_fuel kid f a
        simp only [List.flatMap_cons, List.length_append]
        omega
    have := h (kid id)
    rw [belS, belS]
    simp only [List.length_cons]
    omega
theorem belS_kid (kid : Str → List Str) (f : Nat) (id k : Str) (h : k ∈ kid id) : (belS kid f k).length ≤ (belS kid (f + 1) id).length := by
  rw [belS]
  have : ∀ L : List Str, k ∈ L → (belS kid f k).length ≤ (L.flatMap (belS kid f)).length := by
    intro L
    induction L with
    | nil => intro hm; cases hm
    | cons a L ih =>
      intro hm
      simp only [List.flatMap_cons, List.length_append]
      rcases List.mem_cons.1 hm with rfl | hm
      · omega
      · have := ih hm; omega
  have := this _ h
  simp only [List.length_cons]
  omega
end Go.Proofs.YtombeeeiignckaaGreatDoor

namespace Go.Proofs.YtombeeeiignckaaGreatDoor
open Go.RowKit

def fn64Step (z : Int) (c : UInt8) : Int := IntKind.u64.wrap (bits .xor .u64 z (c.toNat : Int) * 1099511628211)
def fn64To (L : List UInt8) (k : Nat) : Int := (L.take k).foldl fn64Step 14695981039346656037
theorem fn64To_succ (L : List UInt8) (k : Nat) (h : k < L.length) : fn64To L (k + 1) = fn64Step (fn64To L k) (L.getD k 0) := by
  unfold fn64To
  rw [List.take_succ_eq_append_getElem h, List.foldl_append]
  simp [h]
theorem u64_wrap_range (z : Int) : 0 ≤ IntKind.u64.wrap z ∧ IntKind.u64.wrap z < 18446744073709551616 := by
  have e : IntKind.u64.wrap z = z % 18446744073709551616 := by rfl
  rw [e]
  exact ⟨Int.emod_nonneg _ (by omega), Int.emod_lt_of_pos _ (by omega)⟩
theorem fn64To_range (L : List UInt8) : ∀ k, 0 ≤ fn64To L k ∧ fn64To L k < 18446744073709551616
  | 0 => by simp [fn64To]
  | k + 1 => by
    rcases Nat.lt_or_ge k L.length with h | h
    · rw [fn64To_succ L k h]
      exact u64_wrap_range _
    · have := fn64To_range L k
      have e : fn64To L (k + 1) = fn64To L k := by unfold fn64To; rw [List.take_of_length_le (by omega), List.take_of_length_le (by omega)]
      rw [e]; exact this
theorem u64_byte (c : UInt8) : IntKind.u64.wrap (c.toNat : Int) = (c.toNat : Int) := by
  have e : IntKind.u64.wrap (c.toNat : Int) = (c.toNat : Int) % 18446744073709551616 := by rfl
  have := c.toNat_lt
  rw [e]
  exact Int.emod_eq_of_lt (by omega) (by omega)
theorem hexF_len : ∀ (f n : Nat) (T : List Int), (hexF f n T).length ≤ T.length + f
  | 0, n, T => by simp [hexF]
  | f + 1, n, T => by
    unfold hexF
    split
    · simp
    · have := hexF_len f (n / 16) (dig (n % 16) :: T)
      simp only [List.length_cons] at this
      omega
/-- The digits of a hash in base 16; what Digest returns. -/
def hexS (L : List UInt8) : ByteArray := strOfNums (hexF 16 (fn64To L L.length).toNat [])
def dgB (L : List UInt8) : ByteArray := ⟨(Lib.repeatL [48] (16 - (hexS L).size)).toArray⟩ ++ hexS L
theorem hexS_size (L : List UInt8) : (hexS L).size ≤ 16 := by
  unfold hexS
  rw [strOfNums_size]
  have := hexF_len 16 (fn64To L L.length).toNat []
  simpa using this
theorem dgB_size (L : List UInt8) : (dgB L).size = 16 := by
  have h := hexS_size L
  unfold dgB
  rw [ByteArray.size_append]
  have : (⟨(Lib.repeatL [48] (16 - (hexS L).size)).toArray⟩ : ByteArray).size = 16 - (hexS L).size := by
    show (Lib.repeatL [48] (16 - (hexS L).size)).toArray.size = _
    simp [Lib.repeatL_length]
  omega
set_option maxHeartbeats 1600000 in
set_option maxRecDepth 100000 in
theorem digest_any (s : ByteArray) (w : World) (hS : StandAt w) (hs : s.size ≤ 1000000) :
    Calls Tryz.prog 27 #[.string s] w fun e w' => e = .returned (.string (dgB s.data.toList)) ∧ Below w.heap.size w w' := by
  have hlen : s.data.toList.length = s.size := by simp
  have HLEN := Lib.hid hlen; clear hlen
  have HS := Lib.hid hS; clear hS
  go_enter Tryz.func27, Tryz.ntmps27
  go_wp2_with fail
  go_loopg [3, 8] s.size (fun gk v5 i wr => ∃ (k : Nat), Hid (k + gk = s.size) ∧ i = .int .i64 k ∧ v5 = .int .u64 (fn64To s.data.toList k) ∧ w = wr)
  case atStart => exact ⟨0, show 0 + s.size = _ by omega, rfl, rfl, rfl⟩
  case round =>
    obtain ⟨k, HK, rfl, rfl, rfl⟩ := hrel
    have hkn : k ≤ s.size := by have := HK.out; omega
    have hz := fn64To_range s.data.toList k
    by_cases hlt : k < s.size
    · have hkl : k < s.data.toList.length := by rw [HLEN.out]; exact hlt
      have HST := Lib.hid (fn64To_succ s.data.toList k hkl)
      have hgd : s.data.toList.getD k 0 = s[k]'hlt := by
        rw [List.getD_eq_getElem?_getD, List.getElem?_eq_getElem hkl]; rfl
      rw [hgd] at HST
      generalize fn64To s.data.toList k = z at *
      clear hkl hgd
      go_wp2_with fail
      go_roundg (gk - 1)
      case measure => have := HK.out; omega
      case rel => exact ⟨k + 1, show k + 1 + (gk - 1) = _ by have := HK.out; omega, by go_num, by rw [HST.out]; unfold fn64Step; rw [u64_byte], rfl⟩
    · have hke : fn64To s.data.toList k = fn64To s.data.toList s.data.toList.length := by
        unfold fn64To
        rw [List.take_of_length_le (by rw [HLEN.out]; omega), List.take_of_length_le (Nat.le_refl _)]
      rw [hke] at hz ⊢
      have HXS : Hid (strOfNums (hexF 16 (fn64To s.data.toList s.data.toList.length).toNat []) = hexS s.data.toList) := rfl
      have HDG : Hid (dgB s.data.toList = ⟨(Lib.repeatL [48] (16 - (hexS s.data.toList).size)).toArray⟩ ++ hexS s.data.toList) := rfl
      have hxz := hexS_size s.data.toList
      generalize fn64To s.data.toList s.data.toList.length = F at *
      obtain ⟨f, rfl⟩ : ∃ f : Nat, F = (f : Int) := ⟨F.toNat, by omega⟩
      rw [Int.toNat_natCast] at HXS
      have HFU := Lib.hid (formatUint_any f (by omega) w HS.out)
      rw [HXS.out] at HFU
      generalize hexS s.data.toList = X at *
      clear hke
      go_wp2_with fail
      refine HFU.out.mono ?_
      rintro e w1 ⟨rfl, hb1⟩
      have HRP := Lib.hid (Tryz.strings_Repeat ⟨#[48]⟩ (16 - X.size) w1 (by omega) (by show 1 * _ ≤ _; omega))
      obtain ⟨c, hc⟩ : ∃ c, c = 16 - X.size := ⟨_, rfl⟩
      rw [← hc] at HRP HDG
      have hci : (16 : Int) - (X.size : Int) = (c : Int) := by omega
      have HB1 := Lib.hid hb1
      clear hb1 HFU hc
      go_wp2_with fail
      refine HRP.out.mono ?_
      rintro e w2 ⟨rfl, hb2⟩
      have HF2 : Hid (Below w.heap.size w w2) := HB1.out.trans (hb2.mono HB1.out.size)
      clear hb2 HRP
      have hrl : (Lib.repeatL [48] c).length = c := by simp [Lib.repeatL_length]
      have hrs : ¬ 9223372036854775807 < (Lib.repeatL [48] c).length + X.size := by omega
      go_wp2_with fail
      go_ret
      exact ⟨by rw [HDG.out]; rfl, HF2.out⟩
end Go.Proofs.YtombeeeiignckaaGreatDoor

namespace Go.Proofs.YtombeeeiignckaaGreatDoor
open Go.RowKit

def kwL (k : Int) : List UInt8 := if k = 1 then [109, 97, 105, 108] else if k = 2 then [102, 105, 108, 101] else if k = 3 then [98, 111, 120] else [110, 111, 116, 101]
theorem kwL_len (k : Int) : (kwL k).length ≤ 4 := by
  unfold kwL
  split
  · decide
  · split
    · decide
    · split <;> decide
set_option maxHeartbeats 400000 in
theorem kindL_any (z : Int) (w : World) (h : 1 ≤ z ∧ z ≤ 4) : Calls Tryz.prog 79 #[.int .i64 z] w fun e w' => e = .returned (.string ⟨(kwL z).toArray⟩) ∧ w' = w := by
  have hz : z = 1 ∨ z = 2 ∨ z = 3 ∨ z = 4 := by omega
  rcases hz with rfl | rfl | rfl | rfl
  all_goals
    go_enter Tryz.func79, Tryz.ntmps79
    go_wp2_with fail
    go_ret
    exact ⟨rfl, rfl⟩
def sumB (x : Itm) : ByteArray := dgB (kwL x.kind ++ 10 :: x.text.data.toList)
set_option maxHeartbeats 1600000 in
set_option maxRecDepth 100000 in
theorem sumI_any (x : Itm) (w : World) (hS : StandAt w) (hk : 1 ≤ x.kind ∧ x.kind ≤ 4) (ht : x.text.size ≤ 500000) :
    Calls Tryz.prog 49 #[x.v] w fun e w' => e = .returned (.string (sumB x)) ∧ Below w.heap.size w w' := by
  have hb1 : Below w.heap.size w (w.alloc (.cells #[.string x.id, .string x.cu, .int .i64 x.kind, .string x.name, .int .i64 x.at_, .string x.par, .string x.text] 42)) := (Below.refl _ _).alloc (Nat.le_refl _) _
  have HI1 : Hid (ItemAt (w.alloc (.cells #[.string x.id, .string x.cu, .int .i64 x.kind, .string x.name, .int .i64 x.at_, .string x.par, .string x.text] 42)) w.heap.size x) := item_new w x
  have HE : Hid (((⟨(kwL x.kind).toArray⟩ : ByteArray) ++ ⟨#[10]⟩ ++ x.text).data.toList = kwL x.kind ++ 10 :: x.text.data.toList) := by show _ = _; simp
  have hkl := kwL_len x.kind
  have HS1 := Lib.hid (hS.below hb1)
  have HB1 := Lib.hid hb1
  obtain ⟨sb, hsb⟩ : ∃ sb, sb = sumB x := ⟨_, rfl⟩
  rw [← hsb]
  have HSB : Hid (sb = dgB (kwL x.kind ++ 10 :: x.text.data.toList)) := hsb
  clear hsb
  clear hS hb1
  unfold Itm.v
  go_enter Tryz.func49, Tryz.ntmps49
  go_upto_region 1 with (fail)
  obtain ⟨P, hP⟩ : ∃ P, P = w.heap.size := ⟨_, rfl⟩
  rw [← hP] at HI1 ⊢
  clear hP
  generalize w.alloc (.cells #[.string x.id, .string x.cu, .int .i64 x.kind, .string x.name, .int .i64 x.at_, .string x.par, .string x.text] 42) = w1 at *
  obtain ⟨c0, c1, c2, c3, c4, c5, c6⟩ := HI1.out.c
  generalize x.kind = kd at *
  generalize x.text = tx at *
  have HKW : Hid (∀ wx : World, Calls Tryz.prog 79 #[.int .i64 kd] wx fun e w' => e = .returned (.string ⟨(kwL kd).toArray⟩) ∧ w' = wx) := fun wx => kindL_any kd wx hk
  have hz : (kwL kd).length = (⟨(kwL kd).toArray⟩ : ByteArray).size := by simp [ByteArray.size]
  generalize (⟨(kwL kd).toArray⟩ : ByteArray) = kb at *
  have hz1 : ¬ 9223372036854775807 < kb.size + 1 := by omega
  have hz2 : ¬ 9223372036854775807 < kb.size + 1 + tx.size := by omega
  refine wp_region_still_tail 7 (by kernel_rfl) (by kernel_rfl) ?_
  simp only [List.take_succ_cons, List.take_zero, List.drop_succ_cons, List.drop_zero]
  repeat still_step
  still_call (HKW.out _)
  repeat still_step
  refine wpStill_nil ?_
  change wpList _ _ _ _ _ w1.drew
  have HSY : Hid (StandAt w1.drew) := HS1.out.below (Below.refl _ _).drew
  have HBY : Hid (Below w.heap.size w w1.drew) := HB1.out.trans (Below.refl _ _).drew
  generalize w1.drew = Y at *
  have HDG := Lib.hid (digest_any (kb ++ ⟨#[10]⟩ ++ tx) Y HSY.out (by simp only [ByteArray.size_append]; show _ + 1 + _ ≤ _; omega))
  rw [HE.out] at HDG
  clear HS1 HB1 HKW c0 c1 c2 c3 c4 c5 c6
  go_wp2_with (go_at_call 27; refine HDG.out.mono ?_; rintro e w' ⟨rfl, hw⟩)
  have HF : Hid (Below w.heap.size w w') := HBY.out.trans (hw.mono HBY.out.size)
  rw [← HSB.out]
  go_ret
  exact ⟨rfl, HF.out⟩
end Go.Proofs.YtombeeeiignckaaGreatDoor

namespace Go.Proofs.YtombeeeiignckaaGreatDoor
open Go.RowKit Go.Sort

def sortH (l : List (List UInt8)) : List (List UInt8) := l.mergeSort fun x y => decide (x ≤ y)
theorem sortH_length (l : List (List UInt8)) : (sortH l).length = l.length := by simp [sortH]
theorem sortH_nil : sortH [] = [] := by simp [sortH]
theorem strE_cellsH (l : List (List UInt8)) : StrE.cells l = l.map encStr := by
  rw [strE_cells, List.map_map]; rfl
def SortHPost (w : World) (base : Nat) (v : Value) (l : List (List UInt8)) (e : Ending) (w' : World) : Prop := e = .returned (.tuple #[]) ∧ OwnStrs w' base v l ∧ w.grownBy w' v.ownBlock
theorem sortH_any (base : Nat) (v : Value) (l : List (List UInt8)) (w : World) (h : OwnStrs w base v l) (hl : l.length ≤ 100000) :
    Calls Tryz.prog 47 #[v] w (SortHPost w base v (sortH l)) := by
  rcases h.2 with ⟨rfl, hn⟩ | ⟨g, cap, cur, rfl, hbase, hb, h1, h2, h3, h4⟩
  · have : l = [] := List.eq_nil_of_length_eq_zero hn
    subst this
    refine (Tryz.slices_Sort_string_none none 0 w).mono ?_
    rintro e w' ⟨rfl, rfl⟩
    exact ⟨rfl, by rw [show sortH [] = [] by simp [sortH]]; exact Owns.nil _ _, below_grown (Below.refl _ _) none⟩
  · have hH : Holds encStr w g 0 l.toArray := holds_of_block hb (by rw [show l.length * StrE.size = l.length from Nat.mul_one _, strE_cellsH] at h4; exact h4)
    refine (Tryz.slices_Sort_string g 0 cap l w hH (Array.getElem?_eq_some_iff.1 hb).1 (by omega)).mono ?_
    rintro e w' ⟨rfl, nn, os, rfl⟩
    refine ⟨rfl, ?_, ?_⟩
    · unfold OwnStrs Owns
      rw [strE_cellsH, sortH_length]
      exact ownsRow_sorted (ss := l) (ts := sortH l) (sortH_length l) hbase hb h1 h2 h3
    · exact grownBy_sorted _
end Go.Proofs.YtombeeeiignckaaGreatDoor

namespace Go.Proofs.YtombeeeiignckaaGreatDoor
open Go.RowKit Go.Maps

/-- The item's own sum, by its id. -/
def ownS (l : List Itm) (id : Str) : Str := match findI l ⟨id.toArray⟩ with
  | some k => (match l[k]? with | some x => (sumB x).data.toList | none => [])
  | none => []
/-- The sum of a family below one, as deep as that. -/
def sumS (S0 : Str → Str) (kid : Str → List Str) : Nat → Str → Str
  | 0, id => (dgB (Lib.join [S0 id] [32])).data.toList
  | f + 1, id => (dgB (Lib.join (S0 id :: sortH ((kid id).map (sumS S0 kid f))) [32])).data.toList
theorem sumS_len (S0 : Str → Str) (kid : Str → List Str) : ∀ f id, (sumS S0 kid f id).length = 16
  | 0, id => by
    have := dgB_size (Lib.join [S0 id] [32])
    unfold sumS
    simpa using this
  | f + 1, id => by
    have := dgB_size (Lib.join (S0 id :: sortH ((kid id).map (sumS S0 kid f))) [32])
    unfold sumS
    simpa using this
theorem lens_le (m : Nat) : ∀ L : List Str, (∀ s ∈ L, s.length ≤ m) → Lib.lens L ≤ m * L.length
  | [], _ => by simp [Lib.lens]
  | a :: L, h => by
    have h1 := h a (by simp)
    have h2 := lens_le m L (fun s hs => h s (by simp [hs]))
    simp only [Lib.lens, List.map_cons, List.sum_cons, List.length_cons, Nat.mul_add, Nat.mul_one] at h2 ⊢
    omega
theorem join16 (s : Str) (L : List Str) (hs : s.length = 16) (hL : ∀ x ∈ L, x.length = 16) (hn : L.length ≤ 5000) : (Lib.join (s :: L) [32]).length ≤ 1000000 := by
  rw [Lib.join_length]
  have := lens_le 16 (s :: L) (fun x hx => by
    rcases List.mem_cons.1 hx with rfl | hx
    · omega
    · exact Nat.le_of_eq (hL x hx))
  simp only [List.length_cons, List.length_nil] at this ⊢
  omega
def SumPost (w : World) (s : Str) (e : Ending) (w' : World) : Prop := e = .returned (.string ⟨s.toArray⟩) ∧ Below w.heap.size w w'
/-- What t.items has of an item of the tree. -/
structure InTree (l : List Itm) (id : Str) : Prop where
  ex : ∃ k x, findI l ⟨id.toArray⟩ = some k ∧ l[k]? = some x ∧ (1 ≤ x.kind ∧ x.kind ≤ 4) ∧ x.text.size ≤ 500000
set_option maxHeartbeats 3200000 in
set_option maxRecDepth 100000 in
theorem sum_step (f Mi Mk : Nat) (tv : Value) (kid : Str → List Str) (id : Str) (w : World) (hK : KidsK w Mk kid) (hid : id.length ≤ 1000) (hsm : ∀ x k, k ∈ kid x → k.length ≤ 1000) (hkl : ∀ x, (kid x).length ≤ 5000)
    (l : List Itm) (hM : IMapAt w Mi l) (hS : StandAt w) (hin : InTree l id) (A0 : Option Addr) (n0 c0 : Nat) (htv : tv = .slice A0 n0 c0)
    (ih : ∀ k ∈ kid id, ∀ wx, KidsK wx Mk kid → IMapAt wx Mi l → StandAt wx → Calls Tryz.prog 20 #[.agg #[.map (some Mi), .map (some Mk), tv], .string ⟨k.toArray⟩] wx (SumPost wx (sumS (ownS l) kid f k))) :
    Calls Tryz.prog 20 #[.agg #[.map (some Mi), .map (some Mk), tv], .string ⟨id.toArray⟩] w (SumPost w (sumS (ownS l) kid (f + 1) id)) := by
  subst htv
  have hb1 : Below w.heap.size w (w.alloc (.cells #[.map (some Mi), .map (some Mk), .slice A0 n0 c0] 55)) := (Below.refl _ _).alloc (Nat.le_refl _) _
  have HT1 : Hid (TB (w.alloc (.cells #[.map (some Mi), .map (some Mk), .slice A0 n0 c0] 55)) w.heap.size (.map (some Mi)) (.map (some Mk)) (.slice A0 n0 c0)) := heap_alloc_new w _
  have HKW := Lib.hid hK
  have HB1 := Lib.hid hb1
  have HIH := Lib.hid ih
  have HSM := Lib.hid hsm
  have HMW := Lib.hid hM
  have HSW := Lib.hid hS
  have HIN := Lib.hid hin
  clear hK hb1 ih hsm hM hS hin
  go_enter Tryz.func20, Tryz.ntmps20
  go_upto_region 1 with (fail)
  obtain ⟨T, hT⟩ : ∃ T, T = w.heap.size := ⟨_, rfl⟩
  rw [← hT] at HT1 ⊢
  have HTW : Hid (w.heap.size ≤ T) := by show _ ≤ _; omega
  generalize w.alloc (.cells #[.map (some Mi), .map (some Mk), .slice A0 n0 c0] 55) = w1 at *
  clear hT
  have hz1 := HB1.out.size
  obtain ⟨t0, t1, t2, f0, f1, f2⟩ := HT1.out.c
  obtain ⟨A, c, hlk, hat⟩ := HKW.out.look2 HB1.out ⟨id.toArray⟩ (by simp [ByteArray.size]; omega)
  rw [show (⟨id.toArray⟩ : ByteArray).data.toList = id by simp] at hlk hat
  have HAT := Lib.hid hat
  have HBL : Hid (sumS (ownS l) kid (f + 1) id = (dgB (Lib.join (ownS l id :: sortH ((kid id).map (sumS (ownS l) kid f))) [32])).data.toList) := rfl
  have HSL := Lib.hid (sumS_len (ownS l) kid f)
  have hkb := hkl id
  obtain ⟨ks, hks⟩ : ∃ ks, ks = kid id := ⟨_, rfl⟩
  rw [← hks] at hlk HAT HBL hkb HIH
  obtain ⟨nk, hnk⟩ : ∃ nk, nk = ks.length := ⟨_, rfl⟩
  rw [← hnk] at hlk HAT hkb
  have HNK : Hid (nk = ks.length) := hnk
  clear hat hks hnk
  go_wp2_with fail
  clear hlk t0 t1 t2 f0 f1 f2
  go_loopg [5, 13] nk (fun gk v5 v wr => ∃ k : Nat, Hid (k + gk = nk) ∧ v = .int .i64 (k : Int) ∧ Hid (OwnStrs wr w.heap.size v5 ((ks.take k).map (sumS (ownS l) kid f))) ∧ Hid (TB wr T (.map (some Mi)) (.map (some Mk)) (.slice A0 n0 c0)) ∧ Hid (Below w.heap.size w wr))
  case atStart => exact ⟨0, show 0 + nk = nk by omega, rfl, Owns.nil _ _, HT1.out, HB1.out⟩
  case round =>
    obtain ⟨k, HKG, rfl, HO, HT, HB⟩ := hrel
    clear HT1 HB1
    have hkn : k ≤ nk := by have := HKG.out; omega
    by_cases hlt : k < nk
    · have HGK := Lib.hid (show k + 1 + (gk - 1) = nk ∧ 0 < gk by have := HKG.out; omega)
      obtain ⟨g, off, rfl, hg, hc⟩ := (ElemsAt.keep HAT.out HB.out).str (by omega)
      have hck := hc k hlt
      have hkl : k < ks.length := by have := HNK.out; omega
      have hmem : ks.getD k [] ∈ ks := by rw [List.getD_eq_getElem?_getD, List.getElem?_eq_getElem hkl]; exact List.getElem_mem hkl
      have HTK : Hid ((ks.take (k + 1)).map (sumS (ownS l) kid f) = (ks.take k).map (sumS (ownS l) kid f) ++ [sumS (ownS l) kid f (ks.getD k [])]) := by
        show _ = _
        rw [List.take_succ_eq_append_getElem hkl, List.map_append]
        simp [hkl]
      have HIX := Lib.hid (HIH.out _ hmem wr (HKW.out.keep HB.out) (HMW.out.below HB.out) (HSW.out.below HB.out))
      have HFL : Hid (((ks.take k).map (sumS (ownS l) kid f)).length ≤ 5000) := by show _ ≤ _; simp; omega
      obtain ⟨t0, t1, t2, f0, f1, f2⟩ := HT.out.c
      generalize ks.getD k [] = x at *
      generalize (ks.take k).map (sumS (ownS l) kid f) = F at *
      generalize sumS (ownS l) kid f x = B at *
      clear hc hmem hkl HKG
      go_wp2_with fail
      refine HIX.out.mono ?_
      rintro e w3 ⟨rfl, hb3⟩
      have HO3 := Lib.hid (HO.out.below_ hb3)
      have HT3 := Lib.hid (HT.out.keep hb3)
      have HB3 := Lib.hid (HB.out.trans (hb3.mono HB.out.size))
      have hzb := HB3.out.size
      have HONE : Hid (ElemsAt StrE (w3.alloc (.cells #[.string ⟨B.toArray⟩] 9)) (some ⟨w3.heap.size, 0, none⟩) 1 1 [B]) := one_elem (E := StrE) w3 B
      clear hb3 HO HT HB HIX hck t0 t1 t2 f0 f1 f2
      go_wp2_with (at_builtin; refine append_elems strE_ok rfl _ _ rfl w.heap.size u5 F rfl (World.ownsRow.alloc HO3.out _) (some ⟨w3.heap.size, 0, none⟩) 1 1 [B] rfl HONE.out (by have := HFL.out; simp; omega) (by simp; omega) ?_; intro v5 w5 hown5 hgrow5 hv5)
      have hbo : Below w3.heap.size w3 (w3.alloc (.cells #[.string ⟨B.toArray⟩] 9)) := (Below.refl _ _).alloc (Nat.le_refl _) _
      have hof : OwnStrs (w3.alloc (.cells #[.string ⟨B.toArray⟩] 9)) w.heap.size u5 F := World.ownsRow.alloc HO3.out _
      have HO5 : Hid (OwnStrs w5 w.heap.size v5 (F ++ [B])) := hown5
      have HT5 : Hid (TB w5 T (.map (some Mi)) (.map (some Mk)) (.slice A0 n0 c0)) := (hgrow5.block T (by simp; have := HT3.out.lt; omega) (fun e => Owns.ne_block hof (HT3.out.keep hbo) tree_ne e.symm)).trans (HT3.out.keep hbo)
      have HB5 : Hid (Below w.heap.size w w5) := (HB3.out.alloc hzb _).grown hgrow5 (by simp; omega) (fun i e => (hof.lt i e).1)
      clear hown5 hgrow5 hv5 hbo hof
      go_wp2_with fail
      go_roundg (gk - 1)
      case measure => exact Nat.sub_lt HGK.out.2 Nat.one_pos
      case rel => exact ⟨k + 1, HGK.out.1, by go_num, by rw [HTK.out]; exact HO5.out, HT5.out, HB5.out⟩
    · have hnk : ¬ (k : Int) < (nk : Int) := by omega
      have hta : ks.take k = ks := List.take_of_length_le (by have := HNK.out; omega)
      rw [hta] at HO
      have HML := Lib.hid (show ((ks.map (sumS (ownS l) kid f)).length ≤ 5000) by simp; have := HNK.out; omega)
      obtain ⟨kx, x, hfx, hlx, hkx, htx⟩ := HIN.out.ex
      clear hta
      have HHM := HB.out.size
      have HSO := Lib.hid (sortH_any w.heap.size u5 (ks.map (sumS (ownS l) kid f)) wr HO.out (by have := HML.out; omega))
      have HFX := Lib.hid (show findI l ⟨id.toArray⟩ = some kx ∧ l[kx]? = some x ∧ (1 ≤ x.kind ∧ x.kind ≤ 4) ∧ x.text.size ≤ 500000 from ⟨hfx, hlx, hkx, htx⟩)
      have HF16 : Hid (∀ y ∈ sortH (ks.map (sumS (ownS l) kid f)), y.length = 16) := fun y hy => by
        have := (List.mergeSort_perm (ks.map (sumS (ownS l) kid f)) fun x y => decide (x ≤ y)).mem_iff.1 hy
        obtain ⟨z, _, rfl⟩ := List.mem_map.1 this
        exact HSL.out z
      have HFL : Hid ((sortH (ks.map (sumS (ownS l) kid f))).length ≤ 5000) := by show _ ≤ _; rw [sortH_length]; exact HML.out
      generalize ks.map (sumS (ownS l) kid f) = F at *
      clear hfx hlx hkx htx
      go_wp2_with fail
      refine HSO.out.mono ?_
      rintro e w3 ⟨rfl, hown3, hg3⟩
      have HO3 : Hid (OwnStrs w3 w.heap.size u5 (sortH F)) := hown3
      have HB3 : Hid (Below w.heap.size w w3) := HB.out.grown hg3 HB.out.size (fun i e => (HO.out.lt i e).1)
      have HT3 : Hid (TB w3 T (.map (some Mi)) (.map (some Mk)) (.slice A0 n0 c0)) := (hg3.block T HT.out.lt (fun e => Owns.ne_block HO.out HT.out tree_ne e.symm)).trans HT.out
      clear HSO HO hown3 hg3 HB HT
      obtain ⟨t0, t1, t2, f0, f1, f2⟩ := HT3.out.c
      have hlk : (Instr.lookup 52 (.map (some Mi)) (.string ⟨id.toArray⟩) false).run Tryz.prog w3 = .ok x.v w3 := by
        have := (HMW.out.below HB3.out).look1 ⟨id.toArray⟩ (by simp [ByteArray.size]; omega) 0
        rw [valI_some HFX.out.1 HFX.out.2.1] at this
        exact this
      have HSI := Lib.hid (fun (wx : World) (hs : StandAt wx) => sumI_any x wx hs HFX.out.2.2.1 HFX.out.2.2.2)
      have HOW : Hid (ownS l id = (sumB x).data.toList) := by
        show _ = _
        unfold ownS
        rw [HFX.out.1]
        simp only
        rw [HFX.out.2.1]
      rw [HOW.out] at HBL
      clear HFX HOW
      have hsz : (sumB x).size = 16 := dgB_size _
      generalize x.v = xv at *
      generalize sumB x = sb at *
      obtain ⟨s, rfl⟩ : ∃ s : Str, sb = ⟨s.toArray⟩ := ⟨sb.data.toList, (mk_data sb).symm⟩
      have hs16 : s.length = 16 := by simpa [ByteArray.size] using hsz
      rw [show (⟨s.toArray⟩ : ByteArray).data.toList = s by simp] at HBL
      generalize sortH F = G at *
      have HJ := Lib.hid (join16 s G hs16 HF16.out HFL.out)
      go_wp2_with fail
      refine (HSI.out w3 (HSW.out.below HB3.out)).mono ?_
      rintro e w4 ⟨rfl, hb4⟩
      have HO4 := Lib.hid (HO3.out.below_ hb4)
      have HB4 : Hid (Below w.heap.size w w4) := HB3.out.trans (hb4.mono HB3.out.size)
      have hz4 := HB4.out.size
      obtain ⟨A6, c6, rfl, -, hat6, -⟩ := HO4.out.at_ strE_ok
      have hbo : Below w4.heap.size w4 (w4.alloc (.cells #[.string ⟨s.toArray⟩] 9)) := (Below.refl _ _).alloc (Nat.le_refl _) _
      have HO5 : Hid (OwnStrs (w4.alloc (.cells #[.string ⟨s.toArray⟩] 9)) w.heap.size (.slice (some ⟨w4.heap.size, 0, none⟩) 1 1) [s]) := Owns.lit strE_ok w4 w.heap.size [s] hz4 (by simp)
      have HAT6 := Lib.hid (ElemsAt.keep hat6 hbo)
      have HB5 : Hid (Below w.heap.size w (w4.alloc (.cells #[.string ⟨s.toArray⟩] 9))) := HB4.out.trans (hbo.mono hz4)
      clear hat6 hbo HSI HO4 HO3 HT3 HB3 hb4 hlk t0 t1 t2 f0 f1 f2
      have hg5 := HFL.out
      have hz5 := HB5.out.size
      go_wp2_with (at_builtin; refine append_elems strE_ok rfl _ _ rfl w.heap.size (.slice (some ⟨w4.heap.size, 0, none⟩) 1 1) [s] rfl HO5.out A6 G.length c6 G rfl HAT6.out (by simp only [List.length_cons, List.length_nil]; omega) hz5 ?_; intro v7 w7 hown7 hgrow7 hv7)
      have HB7 : Hid (Below w.heap.size w w7) := HB5.out.grown hgrow7 hz5 (fun i e => (HO5.out.lt i e).1)
      obtain ⟨A7, c7, rfl, -, hat7, -⟩ := hown7.at_ strE_ok
      have HJC := Lib.hid (joinC_any A7 _ c7 ([s] ++ G) 32 w7 hat7 (by simp only [List.length_append, List.length_cons, List.length_nil]; omega) HJ.out)
      clear hown7 hgrow7 hv7 hat7
      go_wp2_with fail
      refine HJC.out.mono ?_
      rintro e w8 ⟨rfl, hb8⟩
      have HB8 : Hid (Below w.heap.size w w8) := HB7.out.trans (hb8.mono HB7.out.size)
      have HDG := Lib.hid (digest_any (bag (Lib.join ([s] ++ G) [32])) w8 (HSW.out.below HB8.out) (by have := HJ.out; simpa [bag, ByteArray.size] using this))
      rw [bag_data] at HDG
      have HF8 : Hid (∀ w9, Below w8.heap.size w8 w9 → SumPost w (sumS (ownS l) kid (f + 1) id) (.returned (.string (dgB (Lib.join ([s] ++ G) [32])))) w9) := fun w9 hb9 => by
        refine ⟨?_, HB8.out.trans (hb9.mono HB8.out.size)⟩
        rw [HBL.out, mk_data]
        rfl
      clear hb8 HJC
      go_wp2_with fail
      refine HDG.out.mono ?_
      rintro e w9 ⟨rfl, hb9⟩
      have HF9 := Lib.hid (HF8.out w9 hb9)
      clear hb9 HF8 HDG
      go_wp2_with fail
      go_ret
      exact HF9.out
theorem sumS_fuel0 (S0 : Str → Str) (kid : Str → List Str) (id : Str) (h : kid id = []) : sumS S0 kid (0 + 1) id = sumS S0 kid 0 id := by
  rw [sumS, sumS, h]
  simp [sortH]
theorem sumT_any (Mi Mk : Nat) (A0 : Option Addr) (n0 c0 : Nat) (kid : Str → List Str) (l : List Itm) (hsm : ∀ x k, k ∈ kid x → k.length ≤ 1000) (hkl : ∀ x, (kid x).length ≤ 5000) (hkin : ∀ x k, k ∈ kid x → InTree l k) :
    ∀ (f : Nat) (id : Str) (w : World), KidsK w Mk kid → IMapAt w Mi l → StandAt w → id.length ≤ 1000 → InTree l id → EndsS kid f id →
    Calls Tryz.prog 20 #[.agg #[.map (some Mi), .map (some Mk), .slice A0 n0 c0], .string ⟨id.toArray⟩] w (SumPost w (sumS (ownS l) kid f id))
  | 0, id, w, hK, hM, hS, hid, hin, he => by
    have h := sum_step 0 Mi Mk (.slice A0 n0 c0) kid id w hK hid hsm hkl l hM hS hin A0 n0 c0 rfl (fun k hk => by rw [show kid id = [] from he] at hk; cases hk)
    rwa [sumS_fuel0 _ _ _ he] at h
  | f + 1, id, w, hK, hM, hS, hid, hin, he =>
    sum_step f Mi Mk (.slice A0 n0 c0) kid id w hK hid hsm hkl l hM hS hin A0 n0 c0 rfl (fun k hk wx h1 h2 h3 => sumT_any Mi Mk A0 n0 c0 kid l hsm hkl hkin f k wx h1 h2 h3 (hsm id k hk) (hkin id k hk) (he k hk))
end Go.Proofs.YtombeeeiignckaaGreatDoor

namespace Go.Proofs.YtombeeeiignckaaGreatDoor
open Go.RowKit

def MinPost (w : World) (L : List (List UInt8)) (e : Ending) (w' : World) : Prop := (∃ p ∈ L, e = .returned (.string ⟨p.toArray⟩)) ∧ Below w.heap.size w w'
set_option maxHeartbeats 800000 in
set_option maxRecDepth 100000 in
theorem minFn_any (N R T : Nat) (A : Option Addr) (n c : Nat) (L : List (List UInt8)) (w : World) (h : StrsAt w A n c L) (h0 : 0 < n) (hn : n ≤ 1000)
    (eg : ∀ args w, (callFunc N args).run Tryz.prog w = .ok (.enter N args) w)
    (hp : ∀ wx x y, Below w.heap.size w wx → x ∈ L → y ∈ L → Calls Tryz.prog N #[.string ⟨x.toArray⟩, .string ⟨y.toArray⟩, .pointer (some ⟨R, 0, none⟩), .pointer (some ⟨T, 0, none⟩)] wx fun e w' => (∃ z, e = .returned (.int .i64 z)) ∧ Below wx.heap.size wx w') :
    Calls Tryz.prog 51 #[.slice A n c, .func (.func N) #[] #[.pointer (some ⟨R, 0, none⟩), .pointer (some ⟨T, 0, none⟩)]] w (MinPost w L) := by
  have HN := Lib.hid h.1
  have HP := Lib.hid hp; clear hp
  obtain ⟨g, off, rfl, hg, hc⟩ := h.str h0
  have hc0 := hc 0 h0
  have hl0 : 0 < L.length := by have := HN.out; omega
  have hm0 : L.getD 0 [] ∈ L := by rw [List.getD_eq_getElem?_getD, List.getElem?_eq_getElem hl0]; exact List.getElem_mem hl0
  have HH := Lib.hid h; clear h
  have HM0 : Hid (∃ p ∈ L, (.string ⟨(L.getD 0 []).toArray⟩ : Value) = .string ⟨p.toArray⟩) := ⟨_, hm0, rfl⟩
  have hc1 : w.cell? ⟨g, off, none⟩ = some (.string ⟨(L.getD 0 []).toArray⟩) := hc0
  clear hc hc0 hl0 hm0
  generalize L.getD 0 [] = x0 at *
  have hn1 : ¬ (n : Int) < 1 := by omega
  go_enter Tryz.func51, Tryz.ntmps51
  go_wp2_with fail
  go_loopg [5, 6] n (fun gk m v wr => ∃ k : Nat, Hid (k + gk = n + 1) ∧ Hid (1 ≤ k ∧ k ≤ n) ∧ v = .int .i64 (k : Int) ∧ Hid (∃ p ∈ L, m = .string ⟨p.toArray⟩) ∧ Hid (Below w.heap.size w wr))
  case atStart => exact ⟨1, show 1 + n = n + 1 by omega, ⟨Nat.le_refl _, h0⟩, rfl, HM0.out, Below.refl _ _⟩
  case round =>
    obtain ⟨k, HG, HK, rfl, HM, HB⟩ := hrel
    have hk1 := HK.out.1
    have hkn := HK.out.2
    clear HM0 hc1
    by_cases hlt : k < n
    · obtain ⟨p, hp, rfl⟩ := HM.out
      obtain ⟨g', off', he, -, hc⟩ := (ElemsAt.keep HH.out HB.out).str (by omega)
      simp only [Option.some.injEq, Addr.mk.injEq, and_true] at he
      obtain ⟨rfl, rfl⟩ := he
      have hck := hc k hlt
      have hkl : k < L.length := by have := HN.out; omega
      have hmem : L.getD k [] ∈ L := by rw [List.getD_eq_getElem?_getD, List.getElem?_eq_getElem hkl]; exact List.getElem_mem hkl
      have hck2 : wr.cell? ⟨g, off + k, none⟩ = some (.string ⟨(L.getD k []).toArray⟩) := hck
      have HC := Lib.hid (HP.out wr (L.getD k []) p HB.out hmem hp)
      have HX : Hid (∃ p ∈ L, (.string ⟨(L.getD k []).toArray⟩ : Value) = .string ⟨p.toArray⟩) := ⟨_, hmem, rfl⟩
      have HCK := Lib.hid (fun (wx : World) (hb : Below wr.heap.size wr wx) => (hb.cell (p := ⟨g, off + k, none⟩) (Nat.lt_of_lt_of_le hg HB.out.size)).trans hck2)
      clear hc hck hkl hmem hp
      generalize L.getD k [] = x at *
      go_wp2_with fail
      refine HC.out.mono ?_
      rintro e w' ⟨⟨z, rfl⟩, hb⟩
      have hck3 := HCK.out w' hb
      have HB2 := Lib.hid (HB.out.trans (hb.mono HB.out.size))
      clear hb HCK HB HC hck2
      by_cases hz : z < 0
      · go_wp2_with fail
        go_roundg (gk - 1)
        case measure => have := HG.out; omega
        case rel => exact ⟨k + 1, show k + 1 + (gk - 1) = n + 1 by have := HG.out; omega, show 1 ≤ k + 1 ∧ k + 1 ≤ n by omega, by go_num, HX.out, HB2.out⟩
      · go_wp2_with fail
        go_roundg (gk - 1)
        case measure => have := HG.out; omega
        case rel => exact ⟨k + 1, show k + 1 + (gk - 1) = n + 1 by have := HG.out; omega, show 1 ≤ k + 1 ∧ k + 1 ≤ n by omega, by go_num, HM.out, HB2.out⟩
    · have hnk : ¬ (k : Int) < (n : Int) := by omega
      obtain ⟨p, hp, rfl⟩ := HM.out
      have HF : Hid (MinPost w L (.returned (.string ⟨p.toArray⟩)) wr) := ⟨⟨p, hp, rfl⟩, HB.out⟩
      clear hp
      go_wp2_with fail
      go_ret
      exact HF.out
end Go.Proofs.YtombeeeiignckaaGreatDoor

namespace Go.Proofs.YtombeeeiignckaaGreatDoor
open Go.RowKit Go.Maps

/-- What the closures read: the ranks and the tree. -/
structure RankAt (w : World) (R T Mi : Nat) (b c : Value) (l : List Itm) (ranks : List Str) : Prop where
  tb : TB w T (.map (some Mi)) b c
  im : IMapAt w Mi l
  rk : ∃ A n c, w.heap[R]? = some (.cells #[.slice A n c] 33 (0, 0)) ∧ StrsAt w A n c ranks ∧ n ≤ 1000
theorem RankAt.keep {w w' : World} {R T Mi : Nat} {b c : Value} {l : List Itm} {ranks : List Str} (h : RankAt w R T Mi b c l ranks) (hb : Below w.heap.size w w') : RankAt w' R T Mi b c l ranks := by
  refine ⟨h.tb.keep hb, h.im.below hb, ?_⟩
  obtain ⟨A, n, c, h1, h2, h3⟩ := h.rk
  exact ⟨A, n, c, (hb.block R (Array.getElem?_eq_some_iff.1 h1).1).trans h1, ElemsAt.keep h2 hb, h3⟩
theorem field_cu (x : Itm) (w : World) : (Instr.field 42 (.agg #[.string x.id, .string x.cu, .int .i64 x.kind, .string x.name, .int .i64 x.at_, .string x.par, .string x.text]) 1).run Tryz.prog w = .ok (.string x.cu) w := by
  kernel_rfl
theorem field_at_ (x : Itm) (w : World) : (Instr.field 42 (.agg #[.string x.id, .string x.cu, .int .i64 x.kind, .string x.name, .int .i64 x.at_, .string x.par, .string x.text]) 4).run Tryz.prog w = .ok (.int .i64 x.at_) w := by
  kernel_rfl
def idxZ (l : List Str) (x : Str) : Int := match l.findIdx? (fun y => decide (y = x)) with | some k => (k : Int) | none => -1
theorem idxZ_first {l : List Str} {x : Str} {r : Int} (h : FirstAt l x r) : r = idxZ l x := by
  unfold idxZ
  rcases h with ⟨rfl, hn⟩ | ⟨k, rfl, hk, hj⟩
  · have : l.findIdx? (fun y => decide (y = x)) = none := by
      rw [List.findIdx?_eq_none_iff]
      intro y hy
      have : y ≠ x := fun e => hn (e ▸ hy)
      simpa using this
    rw [this]
  · have : l.findIdx? (fun y => decide (y = x)) = some k := by
      obtain ⟨h1, h2⟩ := List.getElem?_eq_some_iff.1 hk
      rw [List.findIdx?_eq_some_iff_getElem]
      refine ⟨h1, by simpa using h2, fun j hjk => ?_⟩
      have := hj j hjk
      rw [List.getElem?_eq_getElem (by omega)] at this
      simpa using this
    rw [this]
/-- The rank of an item's custodian. -/
def rankZ (ranks : List Str) (cu : Str) : Int := if idxZ ranks cu < 0 then (ranks.length : Int) else idxZ ranks cu
def NumPost (w : World) (e : Ending) (w' : World) : Prop := (∃ z, e = .returned (.int .i64 z)) ∧ Below w.heap.size w w'
set_option maxHeartbeats 1600000 in
set_option maxRecDepth 100000 in
theorem rank_any (R T Mi : Nat) (b c : Value) (l : List Itm) (ranks : List Str) (id : Str) (w : World) (h : RankAt w R T Mi b c l ranks) (hid : id.length ≤ 1000) (k : Nat) (x : Itm) (hf : findI l ⟨id.toArray⟩ = some k) (hx : l[k]? = some x) :
    Calls Tryz.prog 50 #[.string ⟨id.toArray⟩, .pointer (some ⟨R, 0, none⟩), .pointer (some ⟨T, 0, none⟩)] w fun e w' => e = .returned (.int .i64 (rankZ ranks x.cu.data.toList)) ∧ w' = w := by
  obtain ⟨A, n, cc, hR, hat, hn⟩ := h.rk
  have hlk : (Instr.lookup 52 (.map (some Mi)) (.string ⟨id.toArray⟩) false).run Tryz.prog w = .ok x.v w := by
    have := h.im.look1 ⟨id.toArray⟩ (by simp [ByteArray.size]; omega) 0
    rw [valI_some hf hx] at this
    exact this
  obtain ⟨t0, t1, t2, f0, f1, f2⟩ := h.tb.c
  have r0 : w.cell? ⟨R, 0, none⟩ = some (.slice A n cc) := by simp [World.cell?, hR]
  have HAT := Lib.hid hat
  clear h hf hx hat hR
  unfold Itm.v at hlk
  go_enter Tryz.func50, Tryz.ntmps50
  have hfc := field_cu x w
  have HIX := Lib.hid (index_any A n cc ranks x.cu w HAT.out (by omega))
  go_wp2_with fail
  refine HIX.out.mono ?_
  rintro e w' ⟨r, rfl, hr0, hw⟩
  obtain rfl := hw.symm
  have HRZ : Hid (rankZ ranks x.cu.data.toList = if r < 0 then (n : Int) else r) := by
    show _ = _
    unfold rankZ
    rw [← idxZ_first hr0, HAT.out.1]
  clear hr0
  by_cases hr : r < 0
  · rw [if_pos hr] at HRZ
    go_wp2_with fail
    go_ret
    exact ⟨by rw [HRZ.out]; rfl, rfl⟩
  · rw [if_neg hr] at HRZ
    go_wp2_with fail
    go_ret
    exact ⟨by rw [HRZ.out]; rfl, rfl⟩
/-- The closure that compares. -/
structure CmpAt (w : World) (Rk R T Mi : Nat) (b c : Value) (l : List Itm) (ranks : List Str) : Prop where
  ra : RankAt w R T Mi b c l ranks
  fn : w.heap[Rk]? = some (.cells #[.func (.func 50) #[] #[.pointer (some ⟨R, 0, none⟩), .pointer (some ⟨T, 0, none⟩)]] 93 (0, 0))
theorem CmpAt.keep {w w' : World} {Rk R T Mi : Nat} {b c : Value} {l : List Itm} {ranks : List Str} (h : CmpAt w Rk R T Mi b c l ranks) (hb : Below w.heap.size w w') : CmpAt w' Rk R T Mi b c l ranks :=
  ⟨h.ra.keep hb, (hb.block Rk (Array.getElem?_eq_some_iff.1 h.fn).1).trans h.fn⟩
set_option maxHeartbeats 1600000 in
set_option maxRecDepth 100000 in
theorem cmp_any (Rk R T Mi : Nat) (b c : Value) (l : List Itm) (ranks : List Str) (p q : Str) (w : World) (h : CmpAt w Rk R T Mi b c l ranks) (hp : p.length ≤ 1000) (hq : q.length ≤ 1000) (hip : InTree l p) (hiq : InTree l q) :
    Calls Tryz.prog 52 #[.string ⟨p.toArray⟩, .string ⟨q.toArray⟩, .pointer (some ⟨Rk, 0, none⟩), .pointer (some ⟨T, 0, none⟩)] w (NumPost w) := by
  have r0 : w.cell? ⟨Rk, 0, none⟩ = some (.func (.func 50) #[] #[.pointer (some ⟨R, 0, none⟩), .pointer (some ⟨T, 0, none⟩)]) := by simp [World.cell?, h.fn]
  obtain ⟨kp, xp, hfp, hxp, -, -⟩ := hip.ex
  obtain ⟨kq, xq, hfq, hxq, -, -⟩ := hiq.ex
  have HR1 := Lib.hid (fun (wx : World) (hb : Below w.heap.size w wx) => rank_any R T Mi b c l ranks p wx (h.ra.keep hb) hp kp xp hfp hxp)
  have HR2 := Lib.hid (fun (wx : World) (hb : Below w.heap.size w wx) => rank_any R T Mi b c l ranks q wx (h.ra.keep hb) hq kq xq hfq hxq)
  have HH := Lib.hid h
  have HCK := Lib.hid (fun (wx : World) (hb : Below w.heap.size w wx) => (hb.cell (p := ⟨Rk, 0, none⟩) (Array.getElem?_eq_some_iff.1 h.fn).1).trans r0)
  clear h
  go_enter Tryz.func52, Tryz.ntmps52
  go_wp2_with fail
  go_quiet ((go_at_call 50; with_reducible first | exact Calls.quiet_of_same (HR1.out _ (below_drewN (Below.refl _ _) _)) | exact Calls.quiet_of_same (HR2.out _ (below_drewN (Below.refl _ _) _))))
  have HB : Hid (Below w.heap.size w (w.drewN nq)) := below_drewN (Below.refl _ _) _
  have HC := Lib.hid (HH.out.keep HB.out)
  generalize w.drewN nq = w1 at *
  generalize wrap64 (rankZ ranks xp.cu.data.toList - rankZ ranks xq.cu.data.toList) = d at *
  have hlp : (Instr.lookup 52 (.map (some Mi)) (.string ⟨p.toArray⟩) false).run Tryz.prog w1 = .ok xp.v w1 := by
    have := HC.out.ra.im.look1 ⟨p.toArray⟩ (by simp [ByteArray.size]; omega) 0
    rw [valI_some hfp hxp] at this
    exact this
  have hlq : (Instr.lookup 52 (.map (some Mi)) (.string ⟨q.toArray⟩) false).run Tryz.prog w1 = .ok xq.v w1 := by
    have := HC.out.ra.im.look1 ⟨q.toArray⟩ (by simp [ByteArray.size]; omega) 0
    rw [valI_some hfq hxq] at this
    exact this
  unfold Itm.v at hlp hlq
  have hfp2 := field_at_ xp w1
  have hfq2 := field_at_ xq w1
  obtain ⟨t0, t1, t2, f0, f1, f2⟩ := HC.out.ra.tb.c
  clear HR1 HR2 HCK r0 hfp hxp hfq hxq
  by_cases hd : d = 0
  · subst hd
    go_wp2_with fail
    go_ret
    exact ⟨⟨_, rfl⟩, HB.out⟩
  · go_wp2_with fail
    go_ret
    exact ⟨⟨_, rfl⟩, HB.out⟩
end Go.Proofs.YtombeeeiignckaaGreatDoor

namespace Go.Proofs.YtombeeeiignckaaGreatDoor
open Go.RowKit Go.Maps

set_option maxHeartbeats 3200000 in
set_option maxRecDepth 100000 in
theorem primary_any (Mi : Nat) (mk : Value) (A1 : Option Addr) (n1 c1 : Nat) (A2 : Option Addr) (n2 c2 : Nat) (A3 : Option Addr) (n3 c3 : Nat) (l : List Itm) (tops ranks : List Str) (w : World)
    (hM : IMapAt w Mi l) (ht : StrsAt w A2 n2 c2 tops) (hr : StrsAt w A3 n3 c3 ranks) (h0 : 0 < n2) (hn2 : n2 ≤ 1000) (hn3 : n3 ≤ 1000) (hsm : ∀ x ∈ tops, x.length ≤ 1000 ∧ InTree l x) (M2 : Nat) (hmk : mk = .map (some M2)) :
    Calls Tryz.prog 21 #[.agg #[.map (some Mi), mk, .slice A1 n1 c1], .slice A2 n2 c2, .slice A3 n3 c3] w (MinPost w tops) := by
  subst hmk
  obtain ⟨o1, ho1⟩ : ∃ o1 : Obj, o1 = .cells #[.map (some Mi), .map (some M2), .slice A1 n1 c1] 55 := ⟨_, rfl⟩
  obtain ⟨o2, ho2⟩ : ∃ o2 : Obj, o2 = .cells #[.slice A3 n3 c3] 33 := ⟨_, rfl⟩
  obtain ⟨o3, ho3⟩ : ∃ o3 : Obj, o3 = .cells #[.func (.func 50) #[] #[.pointer (some ⟨w.heap.size + 1, 0, none⟩), .pointer (some ⟨w.heap.size, 0, none⟩)]] 93 := ⟨_, rfl⟩
  have hb1 : Below w.heap.size w (w.alloc o1) := (Below.refl _ _).alloc (Nat.le_refl _) _
  have hb2 : Below (w.alloc o1).heap.size (w.alloc o1) ((w.alloc o1).alloc o2) := (Below.refl _ _).alloc (Nat.le_refl _) _
  have hb3 : Below ((w.alloc o1).alloc o2).heap.size ((w.alloc o1).alloc o2) (((w.alloc o1).alloc o2).alloc o3) := (Below.refl _ _).alloc (Nat.le_refl _) _
  have hz1 : (w.alloc o1).heap.size = w.heap.size + 1 := by simp
  have hz2 : ((w.alloc o1).alloc o2).heap.size = w.heap.size + 1 + 1 := by simp
  have T1 : TB (w.alloc o1) w.heap.size (.map (some Mi)) (.map (some M2)) (.slice A1 n1 c1) := by rw [ho1]; exact heap_alloc_new w _
  have R2 : ((w.alloc o1).alloc o2).heap[w.heap.size + 1]? = some o2 := by
    have := heap_alloc_new (w.alloc o1) o2
    rwa [hz1] at this
  have F3 : (((w.alloc o1).alloc o2).alloc o3).heap[w.heap.size + 1 + 1]? = some o3 := by
    have := heap_alloc_new ((w.alloc o1).alloc o2) o3
    rwa [hz2] at this
  have hbA : Below w.heap.size w (((w.alloc o1).alloc o2).alloc o3) := (hb1.trans (hb2.mono (by rw [hz1]; omega))).trans (hb3.mono (by rw [hz2]; omega))
  have CA : CmpAt (((w.alloc o1).alloc o2).alloc o3) (w.heap.size + 1 + 1) (w.heap.size + 1) w.heap.size Mi (.map (some M2)) (.slice A1 n1 c1) l ranks :=
    ⟨⟨(T1.keep hb2).keep hb3, hM.below hbA, ⟨A3, n3, c3, by rw [← ho2]; exact (hb3.block _ (by rw [hz2]; omega)).trans R2, ElemsAt.keep hr hbA, hn3⟩⟩, by rw [F3, ho3]⟩
  have HMF := Lib.hid (minFn_any 52 (w.heap.size + 1 + 1) w.heap.size A2 n2 c2 tops (((w.alloc o1).alloc o2).alloc o3) (ElemsAt.keep ht hbA) h0 hn2 (enters_of Tryz.func52 (by kernel_rfl) rfl)
    (fun wx x y hb hx hy => cmp_any (w.heap.size + 1 + 1) (w.heap.size + 1) w.heap.size Mi (.map (some M2)) (.slice A1 n1 c1) l ranks x y wx (CA.keep hb) (hsm x hx).1 (hsm y hy).1 (hsm x hx).2 (hsm y hy).2))
  have HBA := Lib.hid hbA
  subst ho1 ho2 ho3
  clear hM ht hr hsm hb1 hb2 hb3 T1 R2 F3 CA hbA hz1 hz2
  go_enter Tryz.func21, Tryz.ntmps21
  go_wp2_with fail
  refine HMF.out.mono ?_
  rintro e w' ⟨⟨p, hp, rfl⟩, hb⟩
  have HF : Hid (MinPost w tops (.returned (.string ⟨p.toArray⟩)) w') := ⟨⟨p, hp, rfl⟩, HBA.out.trans (hb.mono HBA.out.size)⟩
  clear hp hb HMF HBA
  go_wp2_with fail
  go_ret
  exact HF.out
end Go.Proofs.YtombeeeiignckaaGreatDoor

namespace Go.Proofs.YtombeeeiignckaaGreatDoor
open Go.RowKit Go.Maps

/-- How a key reads. -/
def keyP (s c : Str) : Lit := .string (keyBytes [.string s, .string c])
theorem keyP_inj {s c s' c' : Str} (h1 : s.length ≤ 1000000) (h2 : c.length ≤ 1000000) (h3 : s'.length ≤ 1000000) (h4 : c'.length ≤ 1000000) (h : keyP s c = keyP s' c') : s = s' ∧ c = c' := by
  unfold keyP at h
  have e : keyBytes [.string s, .string c] = keyBytes [.string s', .string c'] := by simpa using h
  have := keyBytes_inj (l := [.string s, .string c]) (l' := [.string s', .string c']) ⟨trivial, trivial, trivial⟩
    (fun a ha => by
      simp only [List.mem_cons, List.not_mem_nil, or_false] at ha
      rcases ha with rfl | rfl <;> (simp only [Lit.keyWf, maxLen]; omega))
    (fun a ha => by
      simp only [List.mem_cons, List.not_mem_nil, or_false] at ha
      rcases ha with rfl | rfl <;> (simp only [Lit.keyWf, maxLen]; omega)) e
  simpa using this
theorem keyP_key (s c : Str) : WideAt.IsKeyLit (keyP s c) := by first | trivial | exact Or.inl trivial | simp [WideAt.IsKeyLit, keyP]
theorem laidP : laidOutB Tryz.prog = true := by kernel_rfl
theorem keyK : Keyed Tryz.prog 61 := Keyed.of_law (deep_law_laid laidP (m := 2) (by omega) (of_decide_eq_true (by kernel_rfl)) (by kernel_rfl) (by kernel_rfl))
theorem keyK_mk (s c : ByteArray) (hs : s.size ≤ 1000000) (hc : c.size ≤ 1000000) : keyOf Tryz.prog 61 (.agg #[.string s, .string c]) = some (keyP s.data.toList c.data.toList) := by
  have hkt : Tryz.prog.keyType 61 = true := by kernel_rfl
  have hsz : Tryz.prog.cellsOf 61 = 2 := by kernel_rfl
  have h1 : Tryz.prog.cellsOf 9 = 1 := by kernel_rfl
  obtain ⟨m, hm⟩ : ∃ m, Tryz.prog.types.size = m + 1 := ⟨Tryz.prog.types.size - 1, by kernel_rfl⟩
  have e1 : s.size ≤ maxLen := by simp only [maxLen]; omega
  have e2 : c.size ≤ maxLen := by simp only [maxLen]; omega
  unfold keyOf
  simp only [Tryz.underlying61]
  rw [if_pos (by simp [hkt, Value.formed, Tryz.underlying61, hsz]), hm]
  unfold Program.keyLits
  simp only [Tryz.underlying61, Value.cells]
  rw [if_pos (by rw [hsz]; exact ⟨rfl, by simp⟩)]
  simp [List.mapM_cons, h1, Program.keyLits, Tryz.underlying9, e1, e2, keyP]
end Go.Proofs.YtombeeeiignckaaGreatDoor

namespace Go.Proofs.YtombeeeiignckaaGreatDoor
open Go.RowKit Go.Maps

abbrev Hd3 : Type := Option Addr × Nat × Nat
def hv3 (h : Hd3) : Value := .slice h.1 h.2.1 h.2.2
end Go.Proofs.YtombeeeiignckaaGreatDoor

namespace Go.Proofs.YtombeeeiignckaaGreatDoor
open Go.RowKit Go.Maps

abbrev KeyP : Type := Str × Str
def KeyE : Elem KeyP := ⟨61, 58, 2, 32, .agg #[.string ⟨#[]⟩, .string ⟨#[]⟩], fun p => [.string ⟨p.1.toArray⟩, .string ⟨p.2.toArray⟩]⟩
theorem keyE_ok : KeyE.Ok := ⟨fun _ => rfl, fun x u hu => by
  have hm : u ∈ [Value.string ⟨x.1.toArray⟩, Value.string ⟨x.2.toArray⟩] := hu
  simp only [List.mem_cons, List.not_mem_nil, or_false] at hm
  rcases hm with h | h <;> (subst h; rfl), by decide, by decide, by kernel_rfl, by kernel_rfl, Tryz.underlying58⟩
theorem keyE_ne : KeyE.t ≠ StrE.t := by decide
/-- A group: its sum, its primary, and where the tops lie. -/
def GrpE : Elem (Str × Str × Hd3) := ⟨36, 29, 3, 56, .agg #[.string ⟨#[]⟩, .string ⟨#[]⟩, .slice none 0 0], fun p => [.string ⟨p.1.toArray⟩, .string ⟨p.2.1.toArray⟩, hv3 p.2.2]⟩
theorem grpE_ok : GrpE.Ok := ⟨fun _ => rfl, fun x u hu => by
  have hm : u ∈ [Value.string ⟨x.1.toArray⟩, Value.string ⟨x.2.1.toArray⟩, hv3 x.2.2] := hu
  simp only [List.mem_cons, List.not_mem_nil, or_false] at hm
  rcases hm with h | h | h <;> (subst h; rfl), by decide, by decide, by kernel_rfl, by kernel_rfl, Tryz.underlying29⟩
theorem grpE_ne : GrpE.t ≠ StrE.t := by decide
def SmallK (k : KeyP) : Prop := k.1.length ≤ 1000000 ∧ k.2.length ≤ 1000000
theorem keyP_ne {k k' : KeyP} (h : SmallK k) (h' : SmallK k') (e : k ≠ k') : keyP k.1 k.2 ≠ keyP k'.1 k'.2 := fun hk => e (by
  obtain ⟨h1, h2⟩ := keyP_inj h.1 h.2 h'.1 h'.2 hk
  exact Prod.ext h1 h2)
theorem own_ne_mapK {w : World} {base M m : Nat} {v : Value} {l : List Str} {K : TypeId} {D : DataW Value} (h : OwnStrs w base v l) (hm : w.ownsMap Tryz.prog K heldE M m D) : v.ownBlock ≠ some M := by
  obtain ⟨es, cl, hb, _⟩ := hm
  intro e
  rcases h.2 with ⟨rfl, _⟩ | ⟨g, cap, cur, rfl, _, hh, _⟩
  · cases e
  · have e2 : g = M := Option.some.inj e
    subst e2
    rw [hb] at hh
    cases hh
theorem own_mapK {w w' : World} {base M m : Nat} {v : Value} {l : List Str} {K : TypeId} {D : DataW Value} (h : OwnStrs w base v l) (hm : w.ownsMap Tryz.prog K heldE M m D) (hg : w.grownBy w' (some M)) : OwnStrs w' base v l := by
  refine World.ownsRow.kept h hg ?_
  cases e : v.ownBlock with
  | none => exact .inl rfl
  | some i => exact .inr (fun e2 => own_ne_mapK h hm (by rw [e, e2]))
structure SetsAt (w : World) (base M m : Nat) (D : DataW Value) (hd : KeyP → Value) (row : KeyP → List Str) : Prop where
  map : w.ownsMap Tryz.prog 61 heldE M m D
  at_ : ∀ k, SmallK k → D.atKey (keyP k.1 k.2) (.held (.slice none 0 0)) = .held (hd k)
  row : ∀ k, OwnStrs w base (hd k) (row k)
  apart : ∀ k k', k ≠ k' → ApartV (hd k) (hd k')
theorem SetsAt.start (w : World) (base : Nat) : SetsAt (w.alloc (.map #[] 0)) base w.heap.size 0 (.map []) (fun _ => .slice none 0 0) (fun _ => []) :=
  ⟨World.ownsMap_made w _ _ _, fun _ _ => rfl, fun _ => Owns.nil _ _, fun _ _ _ => by first | exact .inl rfl | exact fun i e => by cases e⟩
theorem SetsAt.keep {w w' : World} {base M m : Nat} {D : DataW Value} {hd : KeyP → Value} {row : KeyP → List Str} (h : SetsAt w base M m D hd row) (hb : Below w.heap.size w w') : SetsAt w' base M m D hd row :=
  ⟨h.map.kept (below_grown hb none) (by simp), h.at_, fun k => (h.row k).below_ hb, h.apart⟩
theorem SetsAt.look {w : World} {base M m : Nat} {D : DataW Value} {hd : KeyP → Value} {row : KeyP → List Str} (h : SetsAt w base M m D hd row) (k : KeyP) (hk : SmallK k) :
    (Instr.lookup 57 (.map (some M)) (.agg #[.string ⟨k.1.toArray⟩, .string ⟨k.2.toArray⟩]) false).run Tryz.prog w = .ok (hd k) w := by
  have hkk := keyK_mk ⟨k.1.toArray⟩ ⟨k.2.toArray⟩ (by have := hk.1; simpa [ByteArray.size] using this) (by have := hk.2; simpa [ByteArray.size] using this)
  obtain ⟨v, ps, hrun, hv⟩ := h.map.lookup keyK Tryz.underlying57 (z := .slice none 0 0) (by kernel_rfl) (zd := .held (.slice none 0 0)) (zp := []) rfl hkk
  have := h.at_ k hk
  rw [show (keyP (⟨k.1.toArray⟩ : ByteArray).data.toList (⟨k.2.toArray⟩ : ByteArray).data.toList) = keyP k.1 k.2 by simp, this] at hv
  simp only [heldE, Option.some.injEq, Prod.mk.injEq, DataW.held.injEq] at hv
  rw [hv.1] at hrun
  exact hrun
theorem SetsAt.mapAfter {w w5 : World} {base M m : Nat} {D : DataW Value} {hd : KeyP → Value} {row : KeyP → List Str} {o : Obj} (h : SetsAt w base M m D hd row) (p : KeyP) (hg : (w.alloc o).grownBy w5 (hd p).ownBlock) : w5.ownsMap Tryz.prog 61 heldE M m D :=
  (h.map.alloc o).kept hg (fun e => own_ne_mapK (h.row p) h.map e.symm)
theorem SetsAt.put {w w5 w6 : World} {base M m : Nat} {D : DataW Value} {hd : KeyP → Value} {row : KeyP → List Str} {o : Obj} (h : SetsAt w base M m D hd row) (p : KeyP) (hp : SmallK p) (x : Str) (v5 : Value)
    (hown5 : OwnStrs w5 base v5 (row p ++ [x])) (hg : (w.alloc o).grownBy w5 (hd p).ownBlock) (hv : v5.ownBlock = (hd p).ownBlock ∨ v5.ownBlock = some (w.alloc o).heap.size)
    (hm : w6.ownsMap Tryz.prog 61 heldE M (m + 1) (D.put (keyP p.1 p.2) (.held v5))) (hg6 : w5.grownBy w6 (some M)) :
    SetsAt w6 base M (m + 1) (D.put (keyP p.1 p.2) (.held v5)) (fun k => if k = p then v5 else hd k) (fun k => if k = p then row p ++ [x] else row k) := by
  have hm5 := h.mapAfter p hg
  have hrow : ∀ k, k ≠ p → OwnStrs w6 base (hd k) (row k) := fun k hne => own_mapK (Owns.apart (h.apart p k (Ne.symm hne)) (h.row k) hg) hm5 hg6
  refine ⟨hm, fun k hk => ?_, fun k => ?_, fun k k' hne => ?_⟩
  · by_cases e : k = p
    · subst e
      rw [atKey_put_same h.map.isMap (keyP_key _ _)]
      simp
    · rw [atKey_put_other (keyP_ne hk hp e), h.at_ k hk]
      simp [e]
  · by_cases e : k = p
    · simp only [e, if_true]
      exact own_mapK hown5 hm5 hg6
    · simp only [e, if_false]
      exact hrow k e
  · by_cases e : k = p
    · by_cases e' : k' = p
      · exact absurd (e.trans e'.symm) hne
      · simp only [e, if_true, e', if_false]
        exact ApartV.grow (h.apart p k' (Ne.symm e')) (h.row k') hv
    · by_cases e' : k' = p
      · simp only [e, if_false, e', if_true]
        exact (ApartV.grow (h.apart p k (Ne.symm e)) (h.row k) hv).symm
      · simp only [e, if_false, e']
        exact h.apart k k' hne
end Go.Proofs.YtombeeeiignckaaGreatDoor

namespace Go.Proofs.YtombeeeiignckaaGreatDoor
open Go.RowKit Go.Maps Go.ChangeMaps

theorem keyLawP : WideMaps.KeyLaw Tryz.prog 61 := deep_law_laid laidP (m := 2) (by omega) (of_decide_eq_true (by kernel_rfl)) (by kernel_rfl) (by kernel_rfl)
/-- What an entry shows is what a look shows. -/
theorem entry_look {P : Program} {t k e : TypeId} (K : Keyed P k) (ht : P.underlying t = some (.map k e)) {z : Value} (hz : ∀ u : World, (zeroValue e).run P u = .ok z u) {w w' : World} {b clock : Nat} {es : Array MapEntry} (hb : w.heap[b]? = some (.map es clock))
    (hks : ∀ x ∈ es.toList, ∃ l, keyOf P k x.key = some l) {key : Value} {kl : Lit} (hkey : keyOf P k key = some kl) {v v0 st : Value}
    (hl : (Instr.lookup t (.map (some b)) key false).run P w = .ok v w) (he : (Instr.mapEntry t (.map (some b)) key).run P w = .ok (.tuple #[v0, st]) w') : v0 = v := by
  rcases K.find w hkey es.toList hks with ⟨h1, h2⟩ | ⟨j, e0, h1, h2, h3⟩
  · simp [Instr.mapEntry, run_underlying ht, MapKept.run_getObj_map hb, K.check w false hkey, h1, hz, MapKept.run_setObj_map _ hb, Result.andThen] at he
    simp [Instr.lookup, run_underlying ht, MapKept.run_getObj_map hb, K.check w _ hkey, h1, hz, Result.andThen] at hl
    rw [← he.1.1, ← hl]
  · have hj : es[j]? = some e0 := by simpa using h2
    simp [Instr.mapEntry, run_underlying ht, MapKept.run_getObj_map hb, K.check w false hkey, h1, hj, h3, K.stays w hkey, MapKept.run_setObj_map _ hb, Result.andThen] at he
    simp [Instr.lookup, run_underlying ht, MapKept.run_getObj_map hb, K.check w _ hkey, h1, Result.andThen] at hl
    rw [← he.1.1, ← hl]
theorem SetsAt.entry {w : World} {base M m : Nat} {D : DataW Value} {hd : KeyP → Value} {row : KeyP → List Str} (h : SetsAt w base M m D hd row) (p : KeyP) (hp : SmallK p) (hm : m ≤ 100000) :
    ∃ (st : Nat) (es1 : Array MapEntry) (clock1 : Nat),
      (Instr.mapEntry 57 (.map (some M)) (.agg #[.string ⟨p.1.toArray⟩, .string ⟨p.2.toArray⟩])).run Tryz.prog w = .ok (.tuple #[hd p, .int .i64 (st : Int)]) (setBlock w M (.map es1 clock1)) ∧
      (setBlock w M (.map es1 clock1)).heap[M]? = some (.map es1 clock1) ∧ w.grownBy (setBlock w M (.map es1 clock1)) (some M) ∧ (setBlock w M (.map es1 clock1)).heap.size = w.heap.size ∧
      ∀ (w2 : World) (val : Value), w2.heap[M]? = some (.map es1 clock1) → ∃ w3, (Instr.entryStore 57 (.map (some M)) (.int .i64 (st : Int)) val).run Tryz.prog w2 = .ok () w3 ∧
        w3.ownsMap Tryz.prog 61 heldE M (m + 1) (D.put (keyP p.1 p.2) (.held val)) ∧ w2.grownBy w3 (some M) := by
  have hlk := h.look p hp
  have hkk := keyK_mk ⟨p.1.toArray⟩ ⟨p.2.toArray⟩ (by have := hp.1; simpa [ByteArray.size] using this) (by have := hp.2; simpa [ByteArray.size] using this)
  rw [show (keyP (⟨p.1.toArray⟩ : ByteArray).data.toList (⟨p.2.toArray⟩ : ByteArray).data.toList) = keyP p.1 p.2 by simp] at hkk
  have hown := h.map
  have hup := fun (val : Value) => h.map.update keyK Tryz.underlying57 (by simp only [maxLen]; omega) (val := val) (d := .held val) (ps := []) hkk rfl
  obtain ⟨es, clock, hb, F, hs, hD⟩ := hown
  obtain ⟨v0, st, es1, clock1, h1, -, h3⟩ := WideElems.entry_then_store keyLawP Tryz.underlying57 (z := .slice none 0 0) (fun _ => by kernel_rfl) hb F hkk
  have hv0 : v0 = hd p := entry_look keyK Tryz.underlying57 (z := .slice none 0 0) (fun _ => by kernel_rfl) hb F.keys hkk hlk h1
  subst hv0
  refine ⟨st, es1, clock1, h1, heap_setBlock_same hb _, ⟨rfl, rfl, rfl, by simp [setBlock], fun i _ hi => heap_setBlock_other hb _ (fun e => hi (by rw [e]))⟩, by simp [setBlock], fun w2 val hw2 => ?_⟩
  obtain ⟨es', clock', hst, hmu⟩ := h3 w2 val hw2
  obtain ⟨w', hrun, hown', hg'⟩ := hup val
  rw [hmu] at hrun
  obtain rfl : setBlock w M (.map es' clock') = w' := by simpa using hrun
  refine ⟨_, hst, ?_, ⟨rfl, rfl, rfl, by simp [setBlock], fun i _ hi => heap_setBlock_other hw2 _ (fun e => hi (by rw [e]))⟩⟩
  obtain ⟨es2, c2, hb2, F2, hs2, hD2⟩ := hown'
  rw [heap_setBlock_same hb] at hb2
  obtain ⟨rfl, rfl⟩ : es' = es2 ∧ clock' = c2 := by simpa using hb2
  exact ⟨es', clock', heap_setBlock_same hw2 _, F2, hs2, hD2⟩
theorem SetsAt.alloc {w : World} {base M m : Nat} {D : DataW Value} {hd : KeyP → Value} {row : KeyP → List Str} (h : SetsAt w base M m D hd row) (o : Obj) : SetsAt (w.alloc o) base M m D hd row := h.keep ((Below.refl _ _).alloc (Nat.le_refl _) _)
/-- Behind the append and the store. -/
theorem SetsAt.finish {w w1 w5 w6 : World} {base M m : Nat} {D : DataW Value} {hd : KeyP → Value} {row : KeyP → List Str} (h : SetsAt w base M m D hd row) (p : KeyP) (hp : SmallK p) (x : Str) (v5 : Value)
    (h1 : w.grownBy w1 (some M)) (hz : w1.heap.size = w.heap.size) (hown5 : OwnStrs w5 base v5 (row p ++ [x])) (hg : w1.grownBy w5 (hd p).ownBlock) (hv : v5.ownBlock = (hd p).ownBlock ∨ v5.ownBlock = some w1.heap.size)
    (hne : v5.ownBlock ≠ some M)
    (hm : w6.ownsMap Tryz.prog 61 heldE M (m + 1) (D.put (keyP p.1 p.2) (.held v5))) (hg6 : w5.grownBy w6 (some M)) :
    SetsAt w6 base M (m + 1) (D.put (keyP p.1 p.2) (.held v5)) (fun k => if k = p then v5 else hd k) (fun k => if k = p then row p ++ [x] else row k) := by
  have hrow1 : ∀ k, OwnStrs w1 base (hd k) (row k) := fun k => own_mapK (h.row k) h.map h1
  have hrow5 : ∀ k, k ≠ p → OwnStrs w5 base (hd k) (row k) := fun k hk => by
    refine World.ownsRow.kept (hrow1 k) hg ?_
    cases e : (hd k).ownBlock with
    | none => exact .inl rfl
    | some i => exact .inr (fun e2 => h.apart p k (Ne.symm hk) i e2.symm e)
  have hn5 : ∀ k, (hd k).ownBlock ≠ some M := fun k => own_ne_mapK (h.row k) h.map
  have hrow : ∀ k, k ≠ p → OwnStrs w6 base (hd k) (row k) := fun k hk => by
    refine World.ownsRow.kept (hrow5 k hk) hg6 ?_
    cases e : (hd k).ownBlock with
    | none => exact .inl rfl
    | some i => exact .inr (fun e2 => hn5 k (by rw [e, e2]))
  have hap : ∀ k, k ≠ p → ApartV v5 (hd k) := fun k hk i e1 e2 => by
    rcases hv with hv | hv
    · exact h.apart p k (Ne.symm hk) i (hv ▸ e1) e2
    · rw [hv] at e1
      have e3 := Option.some.inj e1
      have := ((h.row k).lt i e2).2
      omega
  refine ⟨hm, fun k hk => ?_, fun k => ?_, fun k k' hk => ?_⟩
  · by_cases e : k = p
    · subst e
      rw [atKey_put_same h.map.isMap (keyP_key _ _)]
      simp
    · rw [atKey_put_other (keyP_ne hk hp e), h.at_ k hk]
      simp [e]
  · by_cases e : k = p
    · simp only [e, if_true]
      refine World.ownsRow.kept hown5 hg6 ?_
      cases e : v5.ownBlock with
      | none => exact .inl rfl
      | some i => exact .inr (fun e2 => hne (by rw [e, e2]))
    · simp only [e, if_false]
      exact hrow k e
  · by_cases e : k = p
    · by_cases e' : k' = p
      · exact absurd (e.trans e'.symm) hk
      · simp only [e, if_true, e', if_false]
        exact hap k' e'
    · by_cases e' : k' = p
      · simp only [e, if_false, e', if_true]
        exact (hap k e).symm
      · simp only [e, if_false, e']
        exact h.apart k k' hk
end Go.Proofs.YtombeeeiignckaaGreatDoor

namespace Go.Proofs.YtombeeeiignckaaGreatDoor

section
variable {T K : Type} [DecidableEq K] (key : T → K)
/-- The keys as they come, each once. -/
def ordK (L : List T) : List K := L.foldl (fun acc t => if key t ∈ acc then acc else acc ++ [key t]) []
/-- The group of a key. -/
def grpT (L : List T) (k : K) : List T := L.filter fun t => decide (key t = k)
/-- The groups of at least two. -/
def bigK (L : List T) : List K := (ordK key L).filter fun k => decide (1 < (grpT key L k).length)
def grpsK (L : List T) : List (List T) := (bigK key L).map (grpT key L)
theorem ordK_snoc (L : List T) (t : T) : ordK key (L ++ [t]) = if key t ∈ ordK key L then ordK key L else ordK key L ++ [key t] := by
  unfold ordK
  rw [List.foldl_append]
  rfl
theorem grpT_snoc (L : List T) (t : T) (k : K) : grpT key (L ++ [t]) k = if key t = k then grpT key L k ++ [t] else grpT key L k := by
  unfold grpT
  rw [List.filter_append]
  by_cases h : key t = k <;> simp [h]
theorem mem_grpT {L : List T} {k : K} {t : T} : t ∈ grpT key L k ↔ t ∈ L ∧ key t = k := by simp [grpT]
theorem ordK_take (L : List T) : ∀ m, m ≤ L.length → (ordK key (L.take m)).Nodup ∧ ∀ k, k ∈ ordK key (L.take m) ↔ ∃ t ∈ L.take m, key t = k
  | 0, _ => by simp [ordK]
  | m + 1, h => by
    obtain ⟨h1, h2⟩ := ordK_take L m (by omega)
    rw [List.take_succ_eq_append_getElem (by omega), ordK_snoc]
    split
    · rename_i hm
      refine ⟨h1, fun k => ?_⟩
      rw [h2]
      simp only [List.mem_append, List.mem_singleton]
      constructor
      · rintro ⟨t, ht, e⟩; exact ⟨t, .inl ht, e⟩
      · rintro ⟨t, ht | rfl, e⟩
        · exact ⟨t, ht, e⟩
        · rw [← e]; exact (h2 _).1 hm
    · rename_i hm
      refine ⟨?_, fun k => ?_⟩
      · rw [List.nodup_append]
        refine ⟨h1, by simp, ?_⟩
        intro a ha b hb
        rw [List.mem_singleton] at hb
        intro e
        exact hm (by rw [← hb, ← e]; exact ha)
      · simp only [List.mem_append, List.mem_singleton, h2]
        constructor
        · rintro (⟨t, ht, e⟩ | rfl)
          · exact ⟨t, .inl ht, e⟩
          · exact ⟨_, .inr rfl, rfl⟩
        · rintro ⟨t, ht | rfl, e⟩
          · exact .inl ⟨t, ht, e⟩
          · exact .inr e.symm
theorem ordK_nodup (L : List T) : (ordK key L).Nodup := by
  have := (ordK_take key L L.length (Nat.le_refl _)).1
  rwa [List.take_length] at this
theorem mem_ordK (L : List T) (k : K) : k ∈ ordK key L ↔ ∃ t ∈ L, key t = k := by
  have := (ordK_take key L L.length (Nat.le_refl _)).2 k
  rwa [List.take_length] at this
theorem grpT_nil (L : List T) (k : K) : grpT key L k = [] ↔ k ∉ ordK key L := by
  rw [mem_ordK]
  unfold grpT
  rw [List.filter_eq_nil_iff]
  simp
theorem ordK_len (L : List T) : (ordK key L).length ≤ L.length := by
  have : ∀ m, m ≤ L.length → (ordK key (L.take m)).length ≤ m := by
    intro m
    induction m with
    | zero => intro _; simp [ordK]
    | succ m ih =>
      intro h
      have := ih (by omega)
      rw [List.take_succ_eq_append_getElem (by omega), ordK_snoc]
      split
      · omega
      · rw [List.length_append]; simp; omega
  have := this L.length (Nat.le_refl _)
  rwa [List.take_length] at this
theorem grpT_len (L : List T) (k : K) : (grpT key L k).length ≤ L.length := List.length_filter_le _ _
end
section
variable {T : Type}
/-- Groups lie apart, and each of them has at least two. -/
structure ApartG (G : List (List T)) : Prop where
  nod : ∀ (i : Nat) (S : List T), G[i]? = some S → S.Nodup ∧ 1 < S.length
  dis : ∀ (i j : Nat) (S R : List T), G[i]? = some S → G[j]? = some R → ∀ t, t ∈ S → t ∈ R → i = j
theorem grps_apart {K : Type} [DecidableEq K] (key : T → K) (L : List T) (hL : L.Nodup) : ApartG (grpsK key L) := by
  have hn : (bigK key L).Nodup := (ordK_nodup key L).filter _
  refine ⟨fun i S h => ?_, fun i j S R h1 h2 t ht1 ht2 => ?_⟩
  · unfold grpsK at h
    rw [List.getElem?_map, Option.map_eq_some_iff] at h
    obtain ⟨k, hk, rfl⟩ := h
    have := (List.mem_filter.1 (List.mem_of_getElem? hk)).2
    exact ⟨hL.filter _, by simpa using this⟩
  · unfold grpsK at h1 h2
    rw [List.getElem?_map, Option.map_eq_some_iff] at h1 h2
    obtain ⟨k, hk, rfl⟩ := h1
    obtain ⟨k', hk', rfl⟩ := h2
    have e : k = k' := ((mem_grpT key).1 ht1).2.symm.trans ((mem_grpT key).1 ht2).2
    subst e
    obtain ⟨hi, hi2⟩ := List.getElem?_eq_some_iff.1 hk
    exact (List.getElem?_inj hi hn).1 (hk.trans hk'.symm)
/-- A group by a finer key lies within one by a coarser key. -/
theorem grps_within {K K' : Type} [DecidableEq K] [DecidableEq K'] (key : T → K) (fine : T → K') (L : List T) (hf : ∀ a b, fine a = fine b → key a = key b) {S : List T} (h : S ∈ grpsK fine L) :
    ∃ (i : Nat) (R : List T), (grpsK key L)[i]? = some R ∧ ∀ t ∈ S, t ∈ R := by
  unfold grpsK at h
  obtain ⟨k', hk', rfl⟩ := List.mem_map.1 h
  obtain ⟨h1, h2⟩ := List.mem_filter.1 hk'
  obtain ⟨t0, ht0, e0⟩ := (mem_ordK fine L k').1 h1
  have hsub : ∀ t ∈ grpT fine L k', t ∈ grpT key L (key t0) := fun t ht => by
    obtain ⟨ha, hb⟩ := (mem_grpT fine).1 ht
    exact (mem_grpT key).2 ⟨ha, hf _ _ (hb.trans e0.symm)⟩
  have hlen : (grpT fine L k').length ≤ (grpT key L (key t0)).length := by
    have : grpT fine L k' = (grpT key L (key t0)).filter fun t => decide (fine t = k') := by
      unfold grpT
      rw [List.filter_filter]
      apply List.filter_congr
      intro t _
      by_cases h : fine t = k'
      · simp [h, hf _ _ (h.trans e0.symm)]
      · simp [h]
    rw [this]
    exact List.length_filter_le _ _
  have hm : key t0 ∈ bigK key L := List.mem_filter.2 ⟨(mem_ordK key L _).2 ⟨t0, ht0, rfl⟩, by
    have : 1 < (grpT fine L k').length := by simpa using h2
    simpa using Nat.lt_of_lt_of_le this hlen⟩
  obtain ⟨i, hi⟩ := List.getElem?_of_mem hm
  exact ⟨i, _, by unfold grpsK; rw [List.getElem?_map, hi]; rfl, hsub⟩
/-- What is noted of the first i groups and the first j of the next one. -/
structure SeenOk (G : List (List T)) (i j : Nat) (st : T → Int) (dom : T → Bool) : Prop where
  doms : ∀ t, dom t = true ↔ (∃ a R, a < i ∧ G[a]? = some R ∧ t ∈ R) ∨ ∃ R, G[i]? = some R ∧ t ∈ R.take j
  sts : ∀ t a R, a < i → G[a]? = some R → t ∈ R → st t = (a : Int)
  sts2 : ∀ t R, G[i]? = some R → t ∈ R.take j → st t = (i : Int)
theorem SeenOk.start (G : List (List T)) : SeenOk G 0 0 (fun _ => 0) (fun _ => false) :=
  ⟨fun t => by simp, fun t a R h => by omega, fun t R _ h => by simp at h⟩
theorem SeenOk.next {G : List (List T)} {i : Nat} {st : T → Int} {dom : T → Bool} {S : List T} (h : SeenOk G i S.length st dom) (hS : G[i]? = some S) : SeenOk G (i + 1) 0 st dom := by
  refine ⟨fun t => ?_, fun t a R ha hR ht => ?_, fun t R _ ht => by simp at ht⟩
  · rw [h.doms]
    constructor
    · rintro (⟨a, R, ha, hR, ht⟩ | ⟨R, hR, ht⟩)
      · exact .inl ⟨a, R, by omega, hR, ht⟩
      · exact .inl ⟨i, R, by omega, hR, List.mem_of_mem_take ht⟩
    · rintro (⟨a, R, ha, hR, ht⟩ | ⟨R, _, ht⟩)
      · rcases Nat.lt_or_ge a i with h1 | h1
        · exact .inl ⟨a, R, h1, hR, ht⟩
        · obtain rfl : a = i := by omega
          rw [hS] at hR
          cases hR
          exact .inr ⟨S, hS, by rwa [List.take_length]⟩
      · simp at ht
  · rcases Nat.lt_or_ge a i with h1 | h1
    · exact h.sts t a R h1 hR ht
    · obtain rfl : a = i := by omega
      rw [hS] at hR
      cases hR
      exact h.sts2 t S hS (by rwa [List.take_length])
theorem SeenOk.step [DecidableEq T] {G : List (List T)} (hG : ApartG G) {i j : Nat} {st : T → Int} {dom : T → Bool} {S : List T} {t : T} (h : SeenOk G i j st dom) (hS : G[i]? = some S) (ht : S[j]? = some t) :
    dom t = false ∧ SeenOk G i (j + 1) (fun x => if x = t then (i : Int) else st x) (fun x => decide (x = t) || dom x) := by
  have hm : t ∈ S := List.mem_of_getElem? ht
  have hd : dom t = false := by
    cases hc : dom t with
    | false => rfl
    | true =>
      exfalso
      rcases (h.doms t).1 hc with ⟨a, R, ha, hR, hr⟩ | ⟨R, hR, hr⟩
      · have := hG.dis a i R S hR hS t hr hm
        omega
      · rw [hS] at hR
        cases hR
        obtain ⟨b, hb⟩ := List.getElem?_of_mem hr
        rw [List.getElem?_take] at hb
        split at hb
        · rename_i hbj
          obtain ⟨hb1, _⟩ := List.getElem?_eq_some_iff.1 hb
          have := (List.getElem?_inj hb1 (hG.nod i S hS).1).1 (hb.trans ht.symm)
          omega
        · cases hb
  obtain ⟨hj, hj2⟩ := List.getElem?_eq_some_iff.1 ht
  have htk : S.take (j + 1) = S.take j ++ [t] := by rw [List.take_succ_eq_append_getElem hj, hj2]
  refine ⟨hd, fun x => ?_, fun x a R ha hR hx => ?_, fun x R hR hx => ?_⟩
  · rw [Bool.or_eq_true, h.doms, decide_eq_true_eq]
    constructor
    · rintro (rfl | h1 | ⟨R, hR, hx⟩)
      · exact .inr ⟨S, hS, by rw [htk]; simp⟩
      · exact .inl h1
      · rw [hS] at hR
        cases hR
        exact .inr ⟨S, hS, by rw [htk]; exact List.mem_append_left _ hx⟩
    · rintro (h1 | ⟨R, hR, hx⟩)
      · exact .inr (.inl h1)
      · rw [hS] at hR
        cases hR
        rw [htk, List.mem_append, List.mem_singleton] at hx
        rcases hx with hx | hx
        · exact .inr (.inr ⟨S, hS, hx⟩)
        · exact .inl hx
  · by_cases e : x = t
    · exfalso
      subst e
      have := hG.dis a i R S hR hS x hx hm
      omega
    · simp only [e, if_false]
      exact h.sts x a R ha hR hx
  · rw [hS] at hR
    cases hR
    by_cases e : x = t
    · simp [e]
    · simp only [e, if_false]
      rw [htk, List.mem_append, List.mem_singleton] at hx
      exact h.sts2 x S hS (hx.resolve_right e)
/-- What a look finds of one group by the finer key. -/
theorem SeenOk.finer {G : List (List T)} {st : T → Int} {dom : T → Bool} (h : SeenOk G G.length 0 st dom) {i : Nat} {R S : List T} (hR : G[i]? = some R) (hS : ∀ t ∈ S, t ∈ R) : ∀ t ∈ S, dom t = true ∧ st t = (i : Int) := fun t ht => by
  obtain ⟨hi, _⟩ := List.getElem?_eq_some_iff.1 hR
  exact ⟨(h.doms t).2 (.inl ⟨i, R, hi, hR, hS t ht⟩), h.sts t i R hi hR (hS t ht)⟩
end
end Go.Proofs.YtombeeeiignckaaGreatDoor

namespace Go.Proofs.YtombeeeiignckaaGreatDoor
open Go.RowKit Go.Sort

def idAt (l : List Itm) (i : Nat) : Str := (l[i]?.map idOf).getD []
theorem idAt_of {l : List Itm} {i : Nat} {x : Itm} (h : l[i]? = some x) : idAt l i = idOf x := by simp [idAt, h]
theorem ids_range (l : List Itm) : (List.range l.length).map (idAt l) = l.map idOf := by
  apply List.ext_getElem?
  intro j
  rcases Nat.lt_or_ge j l.length with h | h
  · rw [List.getElem?_map, List.getElem?_map, List.getElem?_range h, List.getElem?_eq_getElem h]
    simp [idAt, h]
  · rw [List.getElem?_eq_none (by simpa using h), List.getElem?_eq_none (by simpa using h)]
theorem filter_ids (l : List Itm) (p : Itm → Bool) (q : Nat → Bool) (h : ∀ i x, l[i]? = some x → q i = p x) : (l.filter p).map idOf = ((List.range l.length).filter q).map (idAt l) := by
  have key : ∀ m, m ≤ l.length → ((l.take m).filter p).map idOf = ((List.range m).filter q).map (idAt l) := by
    intro m
    induction m with
    | zero => intro _; simp
    | succ m ih =>
      intro hm
      have hx : l[m]? = some l[m] := List.getElem?_eq_getElem (by omega)
      rw [List.take_succ_eq_append_getElem (by omega), List.filter_append, List.map_append, ih (by omega), List.range_succ, List.filter_append, List.map_append]
      congr 1
      rw [List.filter_cons, List.filter_cons, h m _ hx]
      cases p l[m]
      · rfl
      · simp [idAt_of hx]
  have := key l.length (Nat.le_refl _)
  rwa [List.take_length] at this
theorem chain_take (l : List Itm) : ∀ (f i : Nat), chainI l f i = (chainI l (f + 1) i).take f
  | 0, i => by simp [chainI]
  | f + 1, i => by
    cases hp : parI l i with
    | none => rw [chainI_none hp, chainI_none hp]; rfl
    | some p => rw [chainI_some hp, chainI_some hp, List.take_succ_cons, ← chain_take l f p]
section
variable {l : List Itm} (hl : SetI l)
include hl
theorem findI_id {i : Nat} {x : Itm} (hx : l[i]? = some x) : findI l x.id = some i := by
  cases hf : findI l x.id with
  | none => exact absurd rfl (findI_none hf x (List.mem_of_getElem? hx))
  | some k =>
    obtain ⟨y, hy, he, _⟩ := findI_some hf
    rw [hl.find hy hx he]
theorem parI_iff {i j : Nat} {x y : Itm} (hx : l[i]? = some x) (hy : l[j]? = some y) : decide (parI l j = some i) = (decide (parL y = idOf x) && !(parL y).isEmpty) := by
  by_cases hp : y.par.data.toList = []
  · rw [parI_nil hy hp]
    simp [parL, hp]
  · rw [parI_of hy hp]
    have hne : (parL y).isEmpty = false := by simpa [parL] using hp
    rw [hne, Bool.not_false, Bool.and_true]
    by_cases he : y.par = x.id
    · rw [he, findI_id hl hx]
      simp [parL, idOf, he]
    · have h2 : ¬ parL y = idOf x := fun e => he (ByteArray.ext (Array.toList_inj.1 e))
      have h1 : ¬ findI l y.par = some i := fun e => by
        obtain ⟨z, hz, hze, _⟩ := findI_some e
        rw [hx] at hz
        cases hz
        exact he hze.symm
      simp [h1, h2]
theorem parI_none_iff {j : Nat} {y : Itm} (hy : l[j]? = some y) : decide (parI l j = none) = (parL y).isEmpty := by
  by_cases hp : y.par.data.toList = []
  · rw [parI_nil hy hp]
    simp [parL, hp]
  · rw [parI_of hy hp]
    have hne : (parL y).isEmpty = false := by simpa [parL] using hp
    rw [hne]
    rcases hl.ok.par y (List.mem_of_getElem? hy) with h | h
    · exact absurd h hp
    · obtain ⟨q, hq⟩ := Option.isSome_iff_exists.1 h
      rw [hq]
      simp
theorem kid_ids {i : Nat} {x : Itm} (hx : l[i]? = some x) : kidN l l.length (idOf x) = (kidsI l i).map (idAt l) := by
  unfold kidN kidsI
  rw [List.take_length]
  exact filter_ids l _ _ (fun j y hy => parI_iff hl hx hy)
theorem top_ids : topN l l.length = (topsI l).map (idAt l) := by
  unfold topN topsI
  rw [List.take_length]
  exact filter_ids l _ _ (fun j y hy => parI_none_iff hl hy)
theorem bel_ids : ∀ (f i : Nat), i < l.length → belS (kidN l l.length) f (idAt l i) = (famI l f i).map (idAt l)
  | 0, i, _ => rfl
  | f + 1, i, hi => by
    have hx : l[i]? = some l[i] := List.getElem?_eq_getElem hi
    rw [belS, famI, List.map_cons]
    congr 1
    rw [idAt_of hx, kid_ids hl hx, List.flatMap_map, List.map_flatMap]
    have : ∀ L : List Nat, (∀ j ∈ L, j < l.length) → L.flatMap (fun j => belS (kidN l l.length) f (idAt l j)) = L.flatMap fun j => (famI l f j).map (idAt l) := by
      intro L
      induction L with
      | nil => intro _; rfl
      | cons a L ih =>
        intro h
        rw [List.flatMap_cons, List.flatMap_cons, bel_ids f a (h a (by simp)), ih (fun j hj => h j (by simp [hj]))]
    exact this _ (fun j hj => by have := (List.mem_filter.1 hj).1; simpa using this)
theorem depth_kid {i k : Nat} (hk : parI l k = some i) : (chainI l (l.length + 1) k).length = (chainI l (l.length + 1) i).length + 1 := by
  rw [chainI_some hk, List.length_cons, chain_take l, List.length_take]
  have := chain_short hl.ok.tree.loop i
  omega
theorem ends_ids : ∀ (f i : Nat), i < l.length → 4 ≤ (chainI l (l.length + 1) i).length + f → EndsS (kidN l l.length) f (idAt l i)
  | 0, i, hi, h => by
    have hx : l[i]? = some l[i] := List.getElem?_eq_getElem hi
    show kidN l l.length (idAt l i) = []
    rw [idAt_of hx, kid_ids hl hx]
    cases hk : kidsI l i with
    | nil => rfl
    | cons j L =>
      exfalso
      have hj : j ∈ kidsI l i := by rw [hk]; simp
      obtain ⟨h1, h2⟩ := List.mem_filter.1 hj
      have hp : parI l j = some i := by simpa using h2
      have h3 := depth_kid hl hp
      have h4 := hl.ok.tree.deep j (by simpa using h1)
      omega
  | f + 1, i, hi, h => by
    have hx : l[i]? = some l[i] := List.getElem?_eq_getElem hi
    show ∀ k ∈ kidN l l.length (idAt l i), EndsS (kidN l l.length) f k
    rw [idAt_of hx, kid_ids hl hx]
    intro k hk
    obtain ⟨j, hj, rfl⟩ := List.mem_map.1 hk
    obtain ⟨h1, h2⟩ := List.mem_filter.1 hj
    have hp : parI l j = some i := by simpa using h2
    have h3 := depth_kid hl hp
    exact ends_ids f j (by simpa using h1) (by omega)
theorem tops_ends : ∀ id ∈ topN l l.length, EndsS (kidN l l.length) 4 id := by
  intro id hid
  rw [top_ids hl] at hid
  obtain ⟨j, hj, rfl⟩ := List.mem_map.1 hid
  exact ends_ids hl 4 j (by have := (List.mem_filter.1 hj).1; simpa using this) (by omega)
theorem all_perm : ((topN l l.length).flatMap (belS (kidN l l.length) 4)).Perm (l.map idOf) := by
  have h1 : (topN l l.length).flatMap (belS (kidN l l.length) 4) = ((topsI l).flatMap (famI l 4)).map (idAt l) := by
    rw [top_ids hl, List.flatMap_map, List.map_flatMap]
    have : ∀ L : List Nat, (∀ j ∈ L, j < l.length) → L.flatMap (fun j => belS (kidN l l.length) 4 (idAt l j)) = L.flatMap fun j => (famI l 4 j).map (idAt l) := by
      intro L
      induction L with
      | nil => intro _; rfl
      | cons a L ih =>
        intro h
        rw [List.flatMap_cons, List.flatMap_cons, bel_ids hl 4 a (h a (by simp)), ih (fun j hj => h j (by simp [hj]))]
    exact this _ (fun j hj => by have := (List.mem_filter.1 hj).1; simpa using this)
  rw [h1, ← ids_range l]
  exact (fam_perm hl.ok.tree (Nat.le_refl 4)).map _
theorem kid_mem : ∀ x k, k ∈ kidN l l.length x → k.length ≤ 1000 := by
  intro x k hk
  unfold kidN at hk
  obtain ⟨y, hy, rfl⟩ := List.mem_map.1 hk
  have := (List.mem_filter.1 hy).1
  rw [List.take_length] at this
  have h := keyL_le (hl.ok.each y this).id
  have e : y.id.data.toList.length = y.id.size := by simp
  show y.id.data.toList.length ≤ 1000
  omega
theorem top_mem : ∀ k, k ∈ topN l l.length → k.length ≤ 1000 := by
  intro k hk
  unfold topN at hk
  obtain ⟨y, hy, rfl⟩ := List.mem_map.1 hk
  have := (List.mem_filter.1 hy).1
  rw [List.take_length] at this
  have h := keyL_le (hl.ok.each y this).id
  have e : y.id.data.toList.length = y.id.size := by simp
  show y.id.data.toList.length ≤ 1000
  omega
theorem bel_len (id : Str) (hid : id ∈ topN l l.length) : (belS (kidN l l.length) 4 id).length ≤ l.length := by
  have h := (all_perm hl).length_eq
  have key : ∀ L : List Str, id ∈ L → (belS (kidN l l.length) 4 id).length ≤ (L.flatMap (belS (kidN l l.length) 4)).length := by
    intro L
    induction L with
    | nil => intro hm; cases hm
    | cons a L ih =>
      intro hm
      rw [List.flatMap_cons, List.length_append]
      rcases List.mem_cons.1 hm with rfl | hm
      · omega
      · have := ih hm; omega
  have := key _ hid
  rw [h] at this
  simpa using this
end
theorem rising_le {L : List Str} (h : Rising L) : L.Pairwise fun a b => decide (a ≤ b) = true := by
  refine h.imp (fun {a b} hab => ?_)
  rw [Bool.or_eq_false_iff, bytesLess_eq, decide_eq_false_iff_not] at hab
  exact decide_eq_true (List.not_lt.1 hab.1)
theorem sort_rising {L M : List Str} (h : M.Perm L) (hr : Rising L) : (M.mergeSort fun x y => decide (x ≤ y)) = L := by
  refine List.Perm.eq_of_pairwise (le := fun a b => decide (a ≤ b) = true) (fun (a b : Str) _ _ h1 h2 => List.le_antisymm (of_decide_eq_true h1) (of_decide_eq_true h2)) ?_ (rising_le hr) ((List.mergeSort_perm _ _).trans h)
  refine List.pairwise_mergeSort (le := fun (x y : Str) => decide (x ≤ y)) (fun a b c h1 h2 => decide_eq_true (List.le_trans (of_decide_eq_true h1) (of_decide_eq_true h2))) (fun a b => ?_) _
  rcases List.le_total a b with h | h
  · rw [decide_eq_true h]; rfl
  · rw [decide_eq_true h, Bool.or_true]
end Go.Proofs.YtombeeeiignckaaGreatDoor

namespace Go.Proofs.YtombeeeiignckaaGreatDoor
open Go.RowKit Go.Maps Go.ChangeMaps
attribute [local go_sem ↓] Go.wp_at_zero Go.wp_at_succ

/-- The custodian of an item, by its id. -/
def cuS (l : List Itm) (id : Str) : Str := match findI l ⟨id.toArray⟩ with
  | some k => (match l[k]? with | some x => x.cu.data.toList | none => [])
  | none => []
/-- The key of a family. -/
def keyG (l : List Itm) (each : Bool) (id : Str) : KeyP := (sumS (ownS l) (kidN l l.length) 4 id, if each then cuS l id else [])
theorem keyG_coarse (l : List Itm) {a b : Str} (h : keyG l true a = keyG l true b) : keyG l false a = keyG l false b := by
  simp only [keyG, Prod.mk.injEq] at h ⊢
  exact ⟨h.1, rfl⟩
structure GrpsIn (w : World) (base : Nat) (v : Value) (P : List (Str × Str × Hd3)) (G : List (List Str)) : Prop where
  own : Owns GrpE w base v P
  len : P.length = G.length
  row : ∀ (i : Nat) (p : Str × Str × Hd3) (S : List Str), P[i]? = some p → G[i]? = some S → OwnStrs w base (hv3 p.2.2) S ∧ p.2.1 ∈ S
theorem GrpsIn.keep {w w' : World} {base : Nat} {v : Value} {P : List (Str × Str × Hd3)} {G : List (List Str)} (h : GrpsIn w base v P G) (hb : Below w.heap.size w w') : GrpsIn w' base v P G :=
  ⟨h.own.below_ hb, h.len, fun i p S hp hS => ⟨(h.row i p S hp hS).1.below_ hb, (h.row i p S hp hS).2⟩⟩
def GroupsPost (w : World) (l : List Itm) (each : Bool) (e : Ending) (w' : World) : Prop :=
  ∃ v P, e = .returned (.tuple #[v, .int .i64 0]) ∧ GrpsIn w' w.heap.size v P (grpsK (keyG l each) (topN l l.length)) ∧ Below w.heap.size w w'

theorem sl_toG (B : Option Addr) (m d j : Nat) (hj : j ≤ d) (V : Value) (h : sliced B 0 j d StrE.size = V) (wx : World) : (Instr.slice 33 (.slice B m d) none (some (.int .i64 (j : Int))) none).run Tryz.prog wx = .ok V wx := by
  rw [run_slice_h (P := Tryz.prog) (w := wx) (t := 33) (a := B) (len := m) (cap := d) (ht := und_strs) (kh := .i64) (h := (j : Int)) (h0 := by omega) (h2 := by omega), elem_strs, Tryz.sizeOf9]
  show Result.ok (sliced B 0 ((j : Int)).toNat d 1) wx = _
  rw [Int.toNat_natCast, ← h]; rfl
theorem pieceG {w : World} {A : Option Addr} {n c q : Nat} {l : List Str} (h : StrsAt w A n c l) (hq : q ≤ n) : ∃ A', (∀ wx, (Instr.slice 33 (.slice A n c) none (some (.int .i64 (q : Int))) none).run Tryz.prog wx = .ok (.slice A' q c) wx) ∧ StrsAt w A' q c (l.take q) := by
  obtain ⟨A', h1, h2⟩ := h.piece 0 q (Nat.zero_le _) hq
  rw [Nat.sub_zero, Nat.sub_zero] at h1
  rw [Nat.sub_zero, Nat.sub_zero, List.drop_zero] at h2
  exact ⟨A', fun wx => sl_toG A n c q (by have := h.2.1; omega) _ h1 wx, h2⟩
theorem key_stG (s : ByteArray) (hk : keyL s.data.toList = true) (w : World) : Calls Tryz.prog 18 #[.string s] w fun e w' => e = .returned (.bool true) ∧ w' = w := (key_any s w hk).mono fun _ _ h => ⟨h.1, h.2.symm⟩
theorem owns_ne_mapK {α : Type} {E : Elem α} {w : World} {base M m : Nat} {v : Value} {l : List α} {K : TypeId} {D : DataW Value} (h : Owns E w base v l) (hm : w.ownsMap Tryz.prog K heldE M m D) : v.ownBlock ≠ some M := by
  obtain ⟨es, cl, hb, _⟩ := hm
  intro e
  rcases h.2 with ⟨rfl, _⟩ | ⟨g, cap, cur, rfl, _, hh, _⟩
  · cases e
  · have e2 : g = M := Option.some.inj e
    subst e2
    rw [hb] at hh
    cases hh
theorem SetsAt.besideE {α : Type} {E : Elem α} {w w' : World} {base base' M m : Nat} {D : DataW Value} {hd : KeyP → Value} {row : KeyP → List Str} {v : Value} {l : List α} (h : SetsAt w base M m D hd row) (ho : Owns E w base' v l) (ht : E.t ≠ StrE.t) (hg : w.grownBy w' v.ownBlock) : SetsAt w' base M m D hd row :=
  ⟨h.map.kept hg (fun e => owns_ne_mapK ho h.map e.symm), h.at_, fun k => Owns.beside (h.row k) ho ht hg, h.apart⟩
theorem SetsAt.congr {w : World} {base M m : Nat} {D : DataW Value} {hd : KeyP → Value} {row row' : KeyP → List Str} (h : SetsAt w base M m D hd row) (e : ∀ k, row' k = row k) : SetsAt w base M m D hd row' := by
  obtain rfl : row' = row := funext e
  exact h
theorem Owns.mapKept {α : Type} {E : Elem α} {w w' : World} {base M m : Nat} {v : Value} {l : List α} {K : TypeId} {D : DataW Value} (h : Owns E w base v l) (hm : w.ownsMap Tryz.prog K heldE M m D) (hg : w.grownBy w' (some M)) : Owns E w' base v l := by
  refine World.ownsRow.kept h hg ?_
  cases e : v.ownBlock with
  | none => exact .inl rfl
  | some i => exact .inr (fun e2 => owns_ne_mapK h hm (by rw [e, e2]))
/-- The key block. -/
abbrev KB (w : World) (K : Nat) (s c : Str) : Prop := w.heap[K]? = some (.cells #[.string ⟨s.toArray⟩, .string ⟨c.toArray⟩] 61 (0, 0))
theorem KB.lt {w : World} {K : Nat} {s c : Str} (h : KB w K s c) : K < w.heap.size := (Array.getElem?_eq_some_iff.1 h).1
theorem KB.keep {w w' : World} {K : Nat} {s c : Str} (h : KB w K s c) (hb : Below w.heap.size w w') : KB w' K s c := (hb.block K h.lt).trans h
theorem KB.c {w : World} {K : Nat} {s c : Str} (h : KB w K s c) : w.cell? ⟨K, 0, none⟩ = some (.string ⟨s.toArray⟩) ∧ w.cell? ⟨K, 1, none⟩ = some (.string ⟨c.toArray⟩) ∧ w.frozen? ⟨K, 0, none⟩ = false ∧ w.frozen? ⟨K, 1, none⟩ = false := by
  refine ⟨?_, ?_, by unfold KB at h; simp [World.frozen?, h], by unfold KB at h; simp [World.frozen?, h]⟩ <;> (rw [cell_of_row w K _ _ _ _ h]; rfl)
theorem KB.set1 {w : World} {K : Nat} {s c : Str} (h : KB w K s c) (d : ByteArray) : KB (w.setCell ⟨K, 1, none⟩ (.string d)) K s d.data.toList := by unfold KB at *; simp [World.setCell, Array.getElem?_modify, h]
theorem ordK_take_succ {T K : Type} [DecidableEq K] (key : T → K) {L : List T} {k : Nat} {t : T} (h : L[k]? = some t) : ordK key (L.take (k + 1)) = if grpT key (L.take k) (key t) = [] then ordK key (L.take k) ++ [key t] else ordK key (L.take k) := by
  obtain ⟨h1, h2⟩ := List.getElem?_eq_some_iff.1 h
  rw [List.take_succ_eq_append_getElem h1, h2, ordK_snoc]
  by_cases hm : key t ∈ ordK key (L.take k)
  · rw [if_pos hm, if_neg (fun e => (grpT_nil key _ _).1 e hm)]
  · rw [if_neg hm, if_pos ((grpT_nil key _ _).2 hm)]
theorem grpT_take_succ {T K : Type} [DecidableEq K] (key : T → K) {L : List T} {k : Nat} {t : T} (h : L[k]? = some t) (q : K) : grpT key (L.take (k + 1)) q = if q = key t then grpT key (L.take k) (key t) ++ [t] else grpT key (L.take k) q := by
  obtain ⟨h1, h2⟩ := List.getElem?_eq_some_iff.1 h
  rw [List.take_succ_eq_append_getElem h1, h2, grpT_snoc]
  by_cases e : key t = q
  · subst e; simp
  · have e' : ¬ q = key t := fun x => e x.symm
    simp [e, e']
def bigG (L : List Str) (key : Str → KeyP) (ks : List KeyP) : List (List Str) := (ks.filter fun k => decide (1 < (grpT key L k).length)).map (grpT key L)
theorem bigG_succ {L : List Str} {key : Str → KeyP} {ks : List KeyP} {k : Nat} {p : KeyP} (h : ks[k]? = some p) : bigG L key (ks.take (k + 1)) = if 1 < (grpT key L p).length then bigG L key (ks.take k) ++ [grpT key L p] else bigG L key (ks.take k) := by
  obtain ⟨h1, h2⟩ := List.getElem?_eq_some_iff.1 h
  unfold bigG
  rw [List.take_succ_eq_append_getElem h1, h2, List.filter_append, List.map_append, List.filter_cons]
  by_cases e : 1 < (grpT key L p).length <;> simp [e]
theorem bigG_len (L : List Str) (key : Str → KeyP) (ks : List KeyP) : (bigG L key ks).length ≤ ks.length := by
  unfold bigG
  rw [List.length_map]
  exact List.length_filter_le _ _
theorem GrpsIn.beside {w w' : World} {base : Nat} {v v' : Value} {P : List (Str × Str × Hd3)} {G : List (List Str)} {s : Str} {pr : Str} {hd : Hd3} {S : List Str} (h : GrpsIn w base v P G) (hown : Owns GrpE w' base v' (P ++ [(s, pr, hd)])) (hg : w.grownBy w' v.ownBlock) (hS : OwnStrs w base (hv3 hd) S) (hm : pr ∈ S) : GrpsIn w' base v' (P ++ [(s, pr, hd)]) (G ++ [S]) := by
  refine ⟨hown, by rw [List.length_append, List.length_append, h.len]; rfl, fun i p R hp hR => ?_⟩
  rcases Nat.lt_or_ge i P.length with hi | hi
  · rw [List.getElem?_append_left hi] at hp
    rw [List.getElem?_append_left (by rw [← h.len]; exact hi)] at hR
    obtain ⟨h1, h2⟩ := h.row i p R hp hR
    exact ⟨Owns.beside h1 h.own grpE_ne hg, h2⟩
  · rw [List.getElem?_append_right hi] at hp
    rw [List.getElem?_append_right (by rw [← h.len]; exact hi)] at hR
    have hi0 : i - P.length = 0 := by have := (List.getElem?_eq_some_iff.1 hp).1; simp at this; omega
    rw [← h.len, hi0] at hR
    rw [hi0] at hp
    simp at hp hR
    subst hp hR
    exact ⟨Owns.beside hS h.own grpE_ne hg, hm⟩

theorem nil_eq (w : World) : (Go.binOp .eql 33 (.slice none 0 0) (.slice none 0 0)).run Tryz.prog w = .ok (.bool true) w := by kernel_rfl
theorem some_ne_nil (g o n c : Nat) (w : World) : (Go.binOp .eql 33 (.slice (some ⟨g, o, none⟩) n c) (.slice none 0 0)).run Tryz.prog w = .ok (.bool false) w := by kernel_rfl

theorem GrpsIn.base {w : World} {base base' : Nat} {v : Value} {P : List (Str × Str × Hd3)} {G : List (List Str)} (h : GrpsIn w base v P G) (hb : base' ≤ base) : GrpsIn w base' v P G :=
  ⟨h.own.base_ hb, h.len, fun i p S hp hS => ⟨(h.row i p S hp hS).1.base_ hb, (h.row i p S hp hS).2⟩⟩
theorem grpE_key : GrpE.t ≠ KeyE.t := by decide

theorem inTree_of {l : List Itm} (hl : SetR l) {y : Itm} (hy : y ∈ l) : InTree l (idOf y) := by
  obtain ⟨i, hi⟩ := List.getElem?_of_mem hy
  have hf := findI_id hl.set hi
  have he := hl.set.ok.each y hy
  exact ⟨⟨i, y, by rw [show (⟨(idOf y).toArray⟩ : ByteArray) = y.id from mk_data y.id]; exact hf, hi, he.kind, by have := he.size; omega⟩⟩
theorem tops_inTree {l : List Itm} (hl : SetR l) {t : Str} (h : t ∈ topN l l.length) : InTree l t := by
  unfold topN at h
  obtain ⟨y, hy, rfl⟩ := List.mem_map.1 h
  have := (List.mem_filter.1 hy).1
  rw [List.take_length] at this
  exact inTree_of hl this
theorem kids_inTree {l : List Itm} (hl : SetR l) {x k : Str} (h : k ∈ kidN l l.length x) : InTree l k := by
  unfold kidN at h
  obtain ⟨y, hy, rfl⟩ := List.mem_map.1 h
  have := (List.mem_filter.1 hy).1
  rw [List.take_length] at this
  exact inTree_of hl this
theorem cuS_of {l : List Itm} {t : Str} {k : Nat} {x : Itm} (hf : findI l ⟨t.toArray⟩ = some k) (hx : l[k]? = some x) : cuS l t = x.cu.data.toList := by
  unfold cuS
  rw [hf]
  simp only
  rw [hx]
theorem cuS_len {l : List Itm} (hl : SetR l) {t : Str} (h : InTree l t) : (cuS l t).length ≤ 1000 := by
  obtain ⟨k, x, hf, hx, -, -⟩ := h.ex
  rw [cuS_of hf hx]
  have h := keyL_le (hl.set.ok.each x (List.mem_of_getElem? hx)).cu
  have e : x.cu.data.toList.length = x.cu.size := by simp
  omega

theorem tops_cells {w : World} {base n c : Nat} {A : Option Addr} {tl : List Str} (hn : n = tl.length) (h : OwnStrs w base (.slice A n c) tl) (h0 : 0 < n) : ∃ g o, A = some ⟨g, o, none⟩ ∧ g < w.heap.size ∧ ∀ k, k < n → w.cell? ⟨g, o + k, none⟩ = some (.string ⟨(tl.getD k []).toArray⟩) := by
  obtain ⟨A', c', hv, -, hat, -⟩ := h.at_ strE_ok
  simp only [Value.slice.injEq] at hv
  obtain ⟨rfl, -, rfl⟩ := hv
  rw [← hn] at hat
  exact hat.str h0

set_option maxHeartbeats 6400000 in
set_option maxRecDepth 100000 in
theorem groups_any (A : Option Addr) (n c : Nat) (l : List Itm) (A3 : Option Addr) (n3 c3 : Nat) (ranks : List Str) (each : Bool) (w : World) (h : ItemsAt w A n c l) (hl : SetR l) (hfew : l.length ≤ 500) (hT : Tabs w) (hM : MaxAt w) (hS : StandAt w)
    (hr : StrsAt w A3 n3 c3 ranks) (hrk : ∀ x ∈ ranks, keyL x = true) (hnd : ranks.Nodup) (hn3 : n3 ≤ 200) :
    Calls Tryz.prog 6 #[.slice A n c, .slice A3 n3 c3, .bool each] w (GroupsPost w l each) := by
  have HC := Lib.hid (check_ok A n c l w h hl hT hM)
  have HNT := Lib.hid (fun wx (hb : Below w.heap.size w wx) => newTree_any A n c l wx (h.keep hb) hl.set)
  have HL := Lib.hid hl
  have HR := Lib.hid hr
  have HRK := Lib.hid hrk
  have HND := Lib.hid hnd
  have HRN := Lib.hid hr.1
  have HSW := Lib.hid hS
  have HFEW := Lib.hid hfew
  have hgt : ¬ (200 : Int) < (n3 : Int) := by omega
  clear h hl hT hM hr hrk hnd hS hfew
  go_enter Tryz.func6, Tryz.ntmps6
  go_wp2_with fail
  refine HC.out.mono ?_
  rintro e w1 ⟨rfl, hb1⟩
  go_wp2_with fail
  refine (when_any _ 2 w1).mono ?_
  rintro e w2 ⟨rfl, hw⟩
  obtain rfl := hw
  have hal : Below w1.heap.size w1 (w1.alloc (.cells #[.int .i64 0, .int .i64 0] 30)) := (Below.refl _ _).alloc (Nat.le_refl _) _
  have hF := fun g h t => first_2z g w1 h t
  rw [show whenE (decide ((200 : Int) < (n3 : Int))) 2 = 0 by simp [whenE, hgt]]
  go_wp2_with (go_at_call 15; refine (hF _ rfl _).mono ?_; rintro e w3 ⟨rfl, hw3⟩)
  have HB3 : Hid (Below w.heap.size w w3) := by
    show Below _ _ _
    rw [← hw3]
    exact hb1.trans (hal.mono hb1.size)
  clear hw3 hF hal hb1 hgt
  go_loopg [35] n3 (fun gk v wr => ∃ k : Nat, Hid (k + gk = n3) ∧ v = .int .i64 (k : Int) ∧ Hid (Below w.heap.size w wr))
  case atStart => exact ⟨0, show 0 + n3 = n3 by omega, rfl, HB3.out⟩
  case round =>
    obtain ⟨k, HK, rfl, HB⟩ := hrel
    clear HB3
    have hkn : k ≤ n3 := by have := HK.out; omega
    by_cases hlt : k < n3
    · have HGK := Lib.hid (show k + 1 + (gk - 1) = n3 ∧ 0 < gk by have := HK.out; omega)
      obtain ⟨A', hsl, hpc⟩ := pieceG (ElemsAt.keep HR.out HB.out.drew) hkn
      obtain ⟨g, off, rfl, hg, hc⟩ := (ElemsAt.keep HR.out HB.out).str (by omega)
      have hck := hc k hlt
      have hkl : k < ranks.length := by have := HRN.out; omega
      obtain ⟨x, hx⟩ : ∃ x, ranks[k]? = some x := ⟨_, List.getElem?_eq_getElem hkl⟩
      have hgd : ranks.getD k [] = x := by rw [List.getD_eq_getElem?_getD, hx]; rfl
      rw [hgd] at hck
      have HXK : Hid (keyL (⟨x.toArray⟩ : ByteArray).data.toList = true) := by show _ = _; simpa using HRK.out x (List.mem_of_getElem? hx)
      have HNC : Hid ((ranks.take k).contains x = false) := by
        show _ = _
        simp only [List.contains_eq_mem, decide_eq_false_iff_not]
        intro hm
        obtain ⟨j, hj⟩ := List.getElem?_of_mem hm
        rw [List.getElem?_take] at hj
        split at hj
        · rename_i hjk
          have := (List.getElem?_inj (by omega) HND.out).1 (hj.trans hx.symm)
          omega
        · cases hj
      have hsl1 := hsl wr.drew
      have HPC := Lib.hid hpc
      clear hc hgd hkl hx hg hsl hpc
      go_wp2_with fail
      refine wp_region_still_tail 10 (by kernel_rfl) (by kernel_rfl) ?_
      simp only [List.take_succ_cons, List.take_zero, List.drop_succ_cons, List.drop_zero]
      repeat still_step
      still_call (key_stG _ HXK.out _)
      repeat still_step
      still_call (when_no_st _ _)
      repeat still_step
      still_call (containsS_any _ _ _ _ x _ HPC.out (by omega))
      rw [HNC.out]
      repeat still_step
      still_call (when_no_st _ _)
      repeat still_step
      refine wpStill_nil ?_
      change wpList _ _ _ _ _ wr.drew
      have HBY := Lib.hid HB.out.drew
      clear hsl1 HPC hck HB
      generalize wr.drew = Y at *
      have hal : Below Y.heap.size Y (Y.alloc (.cells #[.int .i64 0, .int .i64 0] 30)) := (Below.refl _ _).alloc (Nat.le_refl _) _
      have hF := fun g h t => first_2z g Y h t
      go_wp2_with (go_at_call 15; refine (hF _ rfl _).mono ?_; rintro e w3 ⟨rfl, hw3⟩)
      have HB3 : Hid (Below w.heap.size w w3) := by
        show Below _ _ _
        rw [← hw3]
        exact HBY.out.trans (hal.mono HBY.out.size)
      clear hw3 hF hal HBY
      go_roundg (gk - 1)
      case measure => have := HGK.out; omega
      case rel => exact ⟨k + 1, HGK.out.1, by go_num, HB3.out⟩
    · have hnk : ¬ (k : Int) < (n3 : Int) := by omega
      have HNX := Lib.hid (HNT.out wr HB.out)
      have HB1 := Lib.hid HB.out
      clear HNT HC HK HB hkn hlt HRK HND
      go_wp2_with fail
      refine HNX.out.mono ?_
      rintro e w2 ⟨Mi, Mk, m, tv, D, hd, rfl, hmi, htr, hb2⟩
      obtain ⟨A5, c5, hv9, -, -, -⟩ := htr.tops.at_ strE_ok
      subst hv9
      have hz1 := HB1.out.size
      have hb3 : Below w2.heap.size w2 (w2.alloc (.cells #[.map (some Mi), .map (some Mk), .slice A5 (topN l l.length).length c5] 55)) := (Below.refl _ _).alloc (Nat.le_refl _) _
      have HT3 : Hid (TB (w2.alloc (.cells #[.map (some Mi), .map (some Mk), .slice A5 (topN l l.length).length c5] 55)) w2.heap.size (.map (some Mi)) (.map (some Mk)) (.slice A5 (topN l l.length).length c5)) := heap_alloc_new w2 _
      have HTR3 := Lib.hid (htr.keep hb3)
      have HMI3 := Lib.hid (hmi.below hb3)
      have HB3 := Lib.hid ((HB1.out.trans (hb2.mono hz1)).trans (hb3.mono (Nat.le_trans hz1 hb2.size)))
      have hz2 := hb2.size
      clear hmi htr hb2 HNX hnk
      go_upto_region 12 with (fail)
      obtain ⟨T, hTT⟩ : ∃ T, T = w2.heap.size := ⟨_, rfl⟩
      rw [← hTT] at HT3 ⊢
      generalize w2.alloc (.cells #[.map (some Mi), .map (some Mk), .slice A5 (topN l l.length).length c5] 55) = w3 at *
      clear hTT hb3 hz2 hz1
      have HTX0 : Hid (∀ t ∈ topN l l.length, t.length ≤ 1000 ∧ InTree l t) := fun t ht => ⟨top_mem HL.out.set t ht, tops_inTree HL.out ht⟩
      have hSU : ∀ (A0 : Option Addr) (n0 c0 : Nat), ∀ t ∈ topN l l.length, ∀ wx, KidsK wx Mk (kidN l l.length) → IMapAt wx Mi l → StandAt wx → Calls Tryz.prog 20 #[.agg #[.map (some Mi), .map (some Mk), .slice A0 n0 c0], .string ⟨t.toArray⟩] wx (SumPost wx (sumS (ownS l) (kidN l l.length) 4 t)) :=
        fun A0 n0 c0 t ht wx h1 h2 h3 => sumT_any Mi Mk A0 n0 c0 (kidN l l.length) l (kid_mem HL.out.set) (fun x => Nat.le_trans (kidN_len l l.length x) (by have := HFEW.out; omega)) (fun x k hk => kids_inTree HL.out hk) 4 t wx h1 h2 h3 (top_mem HL.out.set t ht) (tops_inTree HL.out ht) (tops_ends HL.out.set t ht)
      have HSU := Lib.hid hSU
      have HTL : Hid ((topN l l.length).length ≤ 500) := by have := topN_len l l.length; have := HFEW.out; show _ ≤ _; omega
      have HSL : Hid (∀ t, (sumS (ownS l) (kidN l l.length) 4 t).length = 16) := sumS_len _ _ 4
      have HKG : Hid (∀ t, keyG l each t = (sumS (ownS l) (kidN l l.length) 4 t, if each then cuS l t else [])) := fun t => rfl
      have HPOST : Hid (∀ v P wz, GrpsIn wz w.heap.size v P (bigG (topN l l.length) (keyG l each) (ordK (keyG l each) (topN l l.length))) → Below w.heap.size w wz → GroupsPost w l each (.returned (.tuple #[v, .int .i64 0])) wz) := fun v P wz h1 h2 => ⟨v, P, rfl, h1, h2⟩
      clear hSU
      generalize sumS (ownS l) (kidN l l.length) 4 = SU at *
      have HTR3K := Lib.hid HTR3.out.kids
      have HTO3 := Lib.hid HTR3.out.tops
      clear HTR3
      generalize kidN l l.length = kid at *
      generalize topN l l.length = tl at *
      obtain ⟨nt, hnt⟩ : ∃ nt, nt = tl.length := ⟨_, rfl⟩
      rw [← hnt] at HT3 HTO3 HTL
      try rw [← hnt]
      have HNT : Hid (nt = tl.length) := hnt
      have htn : nt ≤ 500 := HTL.out
      clear hnt HTL
      have hmm := @run_makeMap Tryz.prog
      have hb4 : Below w3.heap.size w3 (w3.alloc (.map #[] 0)) := (Below.refl _ _).alloc (Nat.le_refl _) _
      have HS4 := Lib.hid (SetsAt.start w3 w3.heap.size)
      have HB4 := Lib.hid hb4
      have t2 := (HT3.out.keep hb4).c.2.2.1
      go_upto_region 14 with (fail)
      clear hmm hb4
      generalize hw4 : w3.alloc (.map #[] 0) = w4 at *
      clear hw4
      go_wp2_with fail
      clear t2
      go_loopg [14, 62] nt (fun gk v14 v wr => ∃ (k m' : Nat) (D : DataW Value) (hd : KeyP → Value), Hid (k + gk = nt) ∧ v = .int .i64 (k : Int) ∧ Hid (m' ≤ k) ∧ Hid (SetsAt wr w3.heap.size w3.heap.size m' D hd (grpT (keyG l each) (tl.take k))) ∧ Hid (∀ q, grpT (keyG l each) (tl.take k) q = [] → hd q = .slice none 0 0) ∧ Hid (Owns KeyE wr w3.heap.size v14 (ordK (keyG l each) (tl.take k))) ∧ Hid (Below w3.heap.size w3 wr))
      case atStart => exact ⟨0, 0, _, _, show 0 + nt = nt by omega, rfl, Nat.le_refl _, HS4.out, fun q _ => rfl, Owns.nil _ _, HB4.out⟩
      case round =>
        obtain ⟨k, m', D, hd, HK, rfl, HME, HS, HNIL, HO, HB⟩ := hrel
        clear HS4 HB4
        obtain ⟨wl, rfl⟩ : ∃ wl : World, wl = wr := ⟨_, rfl⟩
        have hkn : k ≤ nt := by have := HK.out; omega
        by_cases hlt : k < nt
        · have HGK := Lib.hid (show k + 1 + (gk - 1) = nt ∧ 0 < gk by have := HK.out; omega)
          obtain ⟨g7, o7, hA7, hg7, hc7⟩ := tops_cells HNT.out (HTO3.out.below_ HB.out) (by omega)
          subst hA7
          have hck := hc7 k hlt
          have hkl : k < tl.length := by have := HNT.out; omega
          obtain ⟨x, hx⟩ : ∃ x, tl[k]? = some x := ⟨_, List.getElem?_eq_getElem hkl⟩
          have hgd : tl.getD k [] = x := by rw [List.getD_eq_getElem?_getD, hx]; rfl
          rw [hgd] at hck
          have hmem := List.mem_of_getElem? hx
          have HTX := Lib.hid hx
          obtain ⟨hxs, hxin⟩ := HTX0.out x hmem
          have HXIN := Lib.hid hxin
          have HSX := Lib.hid (HSU.out (some ⟨g7, o7, none⟩) nt c5 x hmem wl (HTR3K.out.keep HB.out) (HMI3.out.below HB.out) (HSW.out.below (HB3.out.trans (HB.out.mono HB3.out.size))))
          obtain ⟨t0, t1, t2, f0, f1, f2⟩ := (HT3.out.keep HB.out).c
          have HCL := Lib.hid (cuS_len HL.out hxin)
          have HKX := Lib.hid (HKG.out x)
          have HSX16 := Lib.hid (HSL.out x)
          obtain ⟨s, hs⟩ : ∃ s, s = SU x := ⟨_, rfl⟩
          rw [← hs] at HSX HKX HSX16
          clear hc7 hg7 hgd hkl hx hmem hxin hs HK
          go_wp2_with fail
          refine HSX.out.mono ?_
          rintro e w5 ⟨rfl, hb5⟩
          have HS5 := Lib.hid (HS.out.keep hb5)
          have HO5 := Lib.hid (HO.out.below_ hb5)
          have HB5 := Lib.hid (HB.out.trans (hb5.mono HB.out.size))
          clear HSX HS HO HB hb5 t0 t1 t2 f0 f1 f2 hck
          go_upto_if 70 with (fail)
          have hk6 : KB (w5.alloc (.cells #[.string ⟨s.toArray⟩, .string ⟨#[]⟩] 61)) w5.heap.size s [] := heap_alloc_new w5 _
          have hb6 : Below w5.heap.size w5 (w5.alloc (.cells #[.string ⟨s.toArray⟩, .string ⟨#[]⟩] 61)) := (Below.refl _ _).alloc (Nat.le_refl _) _
          obtain ⟨K, hK⟩ : ∃ K, K = w5.heap.size := ⟨_, rfl⟩
          have hKb : w5.heap.size ≤ K := Nat.le_of_eq hK.symm
          rw [← hK] at hk6 ⊢
          have hzb := HB5.out.size
          have hb63 : Below w3.heap.size w3 (w5.alloc (.cells #[.string ⟨s.toArray⟩, .string ⟨#[]⟩] 61)) := HB5.out.trans (hb6.mono hzb)
          generalize w5.alloc (.cells #[.string ⟨s.toArray⟩, .string ⟨#[]⟩] 61) = w6 at *
          obtain ⟨cu, hcu⟩ : ∃ cu, cu = (if each then cuS l x else []) := ⟨_, rfl⟩
          rw [← hcu] at HKX
          have HCU := Lib.hid hcu
          have HK6 := Lib.hid hk6
          have HB6 := Lib.hid hb6
          have HB63 := Lib.hid hb63
          clear hk6 hb6 hcu hb63 hK
          go_cut [] (fun wx => Hid (KB wx K s cu) ∧ Hid (Below w5.heap.size w5 wx))
          case first =>
            cases each with
            | false =>
              have e : cu = [] := HCU.out
              subst e
              go_wp2_with fail
              go_meet
              exact ⟨HK6.out, HB6.out⟩
            | true =>
              obtain ⟨kx, xi, hfx, hlx, -, -⟩ := HXIN.out.ex
              have e : cu = xi.cu.data.toList := by rw [HCU.out]; simp [cuS_of hfx hlx]
              have hlk : (Instr.lookup 52 (.map (some Mi)) (.string ⟨x.toArray⟩) false).run Tryz.prog w6 = .ok xi.v w6 := by
                have := (HMI3.out.below HB63.out).look1 ⟨x.toArray⟩ (by simp [ByteArray.size]; omega) 0
                rw [valI_some hfx hlx] at this
                exact this
              unfold Itm.v at hlk
              have hfc := field_cu xi w6
              obtain ⟨t0, t1, t2, f0, f1, f2⟩ := (HT3.out.keep HB63.out).c
              obtain ⟨k0, k1, k2, k3⟩ := HK6.out.c
              clear hfx hlx
              go_wp2_with fail
              go_meet
              exact ⟨by rw [e]; exact HK6.out.set1 xi.cu, HB6.out.setCell hKb _⟩
          case rest =>
            obtain ⟨HKc, HBc⟩ := hcut
            have hzc := HBc.out.size
            have HSc := Lib.hid (HS5.out.keep HBc.out)
            have HOc := Lib.hid (HO5.out.below_ HBc.out)
            have HB3c := Lib.hid (HB5.out.trans (HBc.out.mono hzb))
            have HSK : Hid (SmallK (s, cu)) := by
              refine ⟨by show s.length ≤ _; rw [HSX16.out]; omega, ?_⟩
              show cu.length ≤ _
              rw [HCU.out]
              cases each
              · simp
              · have := HCL.out; simpa using (by omega : (cuS l x).length ≤ 1000000)
            have hlk := HSc.out.look (s, cu) HSK.out
            dsimp only at hlk
            have HKEY := Lib.hid HKX.out
            have HRL : Hid ((grpT (keyG l each) (tl.take k) (s, cu)).length ≤ 500) := Nat.le_trans (grpT_len _ _ _) (by rw [List.length_take]; omega)
            have HOL : Hid ((ordK (keyG l each) (tl.take k)).length ≤ 500) := Nat.le_trans (ordK_len _ _) (by rw [List.length_take]; omega)
            have HOS := Lib.hid (ordK_take_succ (keyG l each) HTX.out)
            rw [HKEY.out] at HOS
            have hzc3 := HB3c.out.size
            obtain ⟨k0, k1, k2, k3⟩ := HKc.out.c
            have hbn := nil_eq wc
            have hbs := fun g o n c => some_ne_nil g o n c wc
            by_cases hrow : grpT (keyG l each) (tl.take k) (s, cu) = []
            · have hnil := HNIL.out _ hrow
              rw [hnil] at hlk
              have HOS2 : Hid (ordK (keyG l each) (tl.take (k + 1)) = ordK (keyG l each) (tl.take k) ++ [(s, cu)]) := by show _ = _; rw [HOS.out, if_pos hrow]
              have halc : Below wc.heap.size wc (wc.alloc (.cells #[.string ⟨s.toArray⟩, .string ⟨cu.toArray⟩] 61)) := (Below.refl _ _).alloc (Nat.le_refl _) _
              have HONEK : Hid (ElemsAt KeyE (wc.alloc (.cells #[.string ⟨s.toArray⟩, .string ⟨cu.toArray⟩] 61)) (some ⟨wc.heap.size, 0, none⟩) 1 1 [(s, cu)]) := one_elem (E := KeyE) wc (s, cu)
              have hOA : Owns KeyE (wc.alloc (.cells #[.string ⟨s.toArray⟩, .string ⟨cu.toArray⟩] 61)) w3.heap.size u14 (ordK (keyG l each) (tl.take k)) := HOc.out.below_ halc
              have hol := HOL.out
              have HOA := Lib.hid hOA
              have HSA := Lib.hid (HSc.out.keep halc)
              have HKA := Lib.hid (HKc.out.keep halc)
              have HBA := Lib.hid (HB3c.out.trans (halc.mono hzc3))
              have hza := HBA.out.size
              have HOW : Hid (∀ i, u14.ownBlock = some i → i < w5.heap.size) := fun i e => (HO5.out.lt i e).2
              clear hrow hnil hOA halc
              go_upto_if 80 with (fail)
              go_upto_region 22 with (at_builtin; refine append_elems keyE_ok rfl _ _ rfl w3.heap.size u14 (ordK (keyG l each) (tl.take k)) rfl HOA.out (some ⟨wc.heap.size, 0, none⟩) 1 1 [(s, cu)] rfl HONEK.out (by simp; omega) hza ?_; intro v7 w7 hown7 hgrow7 hv7)
              have HO7 : Hid (Owns KeyE w7 w3.heap.size v7 (ordK (keyG l each) (tl.take (k + 1)))) := by
                show Owns _ _ _ _ _
                rw [HOS2.out]
                exact hown7
              have HS7 := Lib.hid (HSA.out.besideE HOA.out keyE_ne hgrow7)
              have HK7 : Hid (KB w7 K s cu) := (hgrow7.block K HKA.out.lt (fun e => by have := HOW.out K e.symm; omega)).trans HKA.out
              have HB7 : Hid (Below w3.heap.size w3 w7) := HBA.out.grown hgrow7 hza (fun i e => (HOA.out.lt i e).1)
              clear hown7 hgrow7 hv7 hlk k0 k1 k2 k3 hza hol hzc3 hzc
              clear HOA HSA HKA HBA HONEK HOc HSc HKc HB3c HBc HO5 HS5 HB5
              have HBK := Lib.hid (HB7.out)
              have hz7 := HB7.out.size
              have hso7 := HS7.out.alloc (.cells #[.string ⟨x.toArray⟩] 9)
              have hal7 : Below w7.heap.size w7 (w7.alloc (.cells #[.string ⟨x.toArray⟩] 9)) := (Below.refl _ _).alloc (Nat.le_refl _) _
              have HONE : Hid (ElemsAt StrE (w7.alloc (.cells #[.string ⟨x.toArray⟩] 9)) (some ⟨w7.heap.size, 0, none⟩) 1 1 [x]) := one_elem (E := StrE) w7 x
              have hml := HS7.out.map.lt
              obtain ⟨st, es1, clock1, hE, hb8, hg8, hz8, hst⟩ := hso7.entry (s, cu) HSK.out (by have := HME.out; omega)
              dsimp only at hE
              have HO8 : Hid (Owns KeyE (setBlock (w7.alloc (.cells #[.string ⟨x.toArray⟩] 9)) w3.heap.size (.map es1 clock1)) w3.heap.size v7 (ordK (keyG l each) (tl.take (k + 1)))) := Owns.mapKept (HO7.out.below_ hal7) hso7.map hg8
              have HR8 := Lib.hid (own_mapK (hso7.row (s, cu)) hso7.map hg8)
              have HN8 := Lib.hid (own_ne_mapK (hso7.row (s, cu)) hso7.map)
              have HONE8 : Hid (ElemsAt StrE (setBlock (w7.alloc (.cells #[.string ⟨x.toArray⟩] 9)) w3.heap.size (.map es1 clock1)) (some ⟨w7.heap.size, 0, none⟩) 1 1 [x]) := HONE.out.grown hg8 (fun g' off' e => by cases e; intro e2; have := Option.some.inj e2; omega)
              have HB8 : Hid (Below w3.heap.size w3 (setBlock (w7.alloc (.cells #[.string ⟨x.toArray⟩] 9)) w3.heap.size (.map es1 clock1))) := (HB7.out.trans (hal7.mono hz7)).grown hg8 (by have := hal7.size; omega) (fun i e => by cases e; exact Nat.le_refl _)
              have HSO := Lib.hid hso7
              have HG8 := Lib.hid hg8
              have HZ8 := Lib.hid hz8
              have HB8M := Lib.hid hb8
              have HST := Lib.hid hst
              clear hso7 hg8 hz8 hb8 hst hal7 HONE
              generalize setBlock (w7.alloc (.cells #[.string ⟨x.toArray⟩] 9)) w3.heap.size (.map es1 clock1) = w8 at *
              have hrl := HRL.out
              have hb8z := HB8.out.size
              obtain ⟨k0, k1, k2, k3⟩ := HK7.out.c
              go_wp2_with (at_builtin; refine append_elems strE_ok rfl _ _ rfl w3.heap.size (hd (s, cu)) (grpT (keyG l each) (tl.take k) (s, cu)) rfl HR8.out (some ⟨w7.heap.size, 0, none⟩) 1 1 [x] rfl HONE8.out (by simp; omega) hb8z ?_; intro v9 w9 hown9 hgrow9 hv9; have hm9 : w9.heap[w3.heap.size]? = some (.map es1 clock1) := (hgrow9.block _ (Array.getElem?_eq_some_iff.1 HB8M.out).1 (fun e => HN8.out e.symm)).trans HB8M.out; obtain ⟨w10, hrun10, hown10, hgrow10⟩ := HST.out w9 v9 hm9)
              have hn9 : v9.ownBlock ≠ some w3.heap.size := fun e => by
                rcases hv9 with hv9 | hv9
                · exact HN8.out (hv9 ▸ e)
                · rw [hv9] at e; have := Option.some.inj e; have := HZ8.out; simp at this; omega
              have HS10 := Lib.hid (HSO.out.finish (s, cu) HSK.out x v9 HG8.out HZ8.out hown9 hgrow9 hv9 hn9 hown10 hgrow10)
              have HO10 : Hid (Owns KeyE w10 w3.heap.size v7 (ordK (keyG l each) (tl.take (k + 1)))) := by
                have h9 := Owns.beside HO8.out HR8.out (Ne.symm keyE_ne) hgrow9
                refine World.ownsRow.kept h9 hgrow10 ?_
                cases e : v7.ownBlock with
                | none => exact .inl rfl
                | some i => exact .inr (fun e2 => owns_ne_mapK HO7.out HS7.out.map (by rw [e, e2]))
              have HB10 : Hid (Below w3.heap.size w3 w10) := (HB8.out.grown hgrow9 hb8z (fun i e => (HR8.out.lt i e).1)).grown hgrow10 (by have := hgrow9.size; omega) (fun i e => by cases e; exact Nat.le_refl _)
              clear hown9 hgrow9 hv9 hm9 hown10 hgrow10 hn9
              go_wp2_with fail
              go_roundg (gk - 1)
              case measure => have := HGK.out; omega
              case rel =>
                refine ⟨k + 1, m' + 1, _, _, HGK.out.1, by go_num, show m' + 1 ≤ k + 1 by have := HME.out; omega, HS10.out.congr (fun q => ?_), show _ from ?_, HO10.out, HB10.out⟩
                · rw [grpT_take_succ (keyG l each) HTX.out q, HKEY.out]
                · intro q hq
                  rw [grpT_take_succ (keyG l each) HTX.out q, HKEY.out] at hq
                  by_cases e : q = (s, cu)
                  · simp [e] at hq
                  · simp only [e, if_false] at hq ⊢
                    exact HNIL.out q hq
            · have HOS2 : Hid (ordK (keyG l each) (tl.take (k + 1)) = ordK (keyG l each) (tl.take k)) := by show _ = _; rw [HOS.out, if_neg hrow]
              obtain ⟨A9, c9, hv9, -, hat9, -⟩ := (HSc.out.row (s, cu)).at_ strE_ok
              obtain ⟨g9, o9, rfl, -, -⟩ := hat9.str (by rcases Nat.eq_zero_or_pos (grpT (keyG l each) (tl.take k) (s, cu)).length with h | h; exact absurd (List.eq_nil_of_length_eq_zero h) hrow; exact h)
              rw [hv9] at hlk
              clear hrow hv9 hat9
              go_upto_region 22 with (fail)
              have HO7 : Hid (Owns KeyE wc w3.heap.size u14 (ordK (keyG l each) (tl.take (k + 1)))) := by
                show Owns _ _ _ _ _
                rw [HOS2.out]
                exact HOc.out
              have HS7 := Lib.hid HSc.out
              have HK7 := Lib.hid HKc.out
              have HB7 := Lib.hid HB3c.out
              clear hlk k0 k1 k2 k3 hzc3 hzc
              clear HOc HSc HKc HB3c HBc HO5 HS5 HB5
              have HBK := Lib.hid (HB7.out)
              have hz7 := HB7.out.size
              have hso7 := HS7.out.alloc (.cells #[.string ⟨x.toArray⟩] 9)
              have hal7 : Below wc.heap.size wc (wc.alloc (.cells #[.string ⟨x.toArray⟩] 9)) := (Below.refl _ _).alloc (Nat.le_refl _) _
              have HONE : Hid (ElemsAt StrE (wc.alloc (.cells #[.string ⟨x.toArray⟩] 9)) (some ⟨wc.heap.size, 0, none⟩) 1 1 [x]) := one_elem (E := StrE) wc x
              have hml := HS7.out.map.lt
              obtain ⟨st, es1, clock1, hE, hb8, hg8, hz8, hst⟩ := hso7.entry (s, cu) HSK.out (by have := HME.out; omega)
              dsimp only at hE
              have HO8 : Hid (Owns KeyE (setBlock (wc.alloc (.cells #[.string ⟨x.toArray⟩] 9)) w3.heap.size (.map es1 clock1)) w3.heap.size u14 (ordK (keyG l each) (tl.take (k + 1)))) := Owns.mapKept (HO7.out.below_ hal7) hso7.map hg8
              have HR8 := Lib.hid (own_mapK (hso7.row (s, cu)) hso7.map hg8)
              have HN8 := Lib.hid (own_ne_mapK (hso7.row (s, cu)) hso7.map)
              have HONE8 : Hid (ElemsAt StrE (setBlock (wc.alloc (.cells #[.string ⟨x.toArray⟩] 9)) w3.heap.size (.map es1 clock1)) (some ⟨wc.heap.size, 0, none⟩) 1 1 [x]) := HONE.out.grown hg8 (fun g' off' e => by cases e; intro e2; have := Option.some.inj e2; omega)
              have HB8 : Hid (Below w3.heap.size w3 (setBlock (wc.alloc (.cells #[.string ⟨x.toArray⟩] 9)) w3.heap.size (.map es1 clock1))) := (HB7.out.trans (hal7.mono hz7)).grown hg8 (by have := hal7.size; omega) (fun i e => by cases e; exact Nat.le_refl _)
              have HSO := Lib.hid hso7
              have HG8 := Lib.hid hg8
              have HZ8 := Lib.hid hz8
              have HB8M := Lib.hid hb8
              have HST := Lib.hid hst
              clear hso7 hg8 hz8 hb8 hst hal7 HONE
              generalize setBlock (wc.alloc (.cells #[.string ⟨x.toArray⟩] 9)) w3.heap.size (.map es1 clock1) = w8 at *
              have hrl := HRL.out
              have hb8z := HB8.out.size
              obtain ⟨k0, k1, k2, k3⟩ := HK7.out.c
              go_wp2_with (at_builtin; refine append_elems strE_ok rfl _ _ rfl w3.heap.size (hd (s, cu)) (grpT (keyG l each) (tl.take k) (s, cu)) rfl HR8.out (some ⟨wc.heap.size, 0, none⟩) 1 1 [x] rfl HONE8.out (by simp; omega) hb8z ?_; intro v9 w9 hown9 hgrow9 hv9; have hm9 : w9.heap[w3.heap.size]? = some (.map es1 clock1) := (hgrow9.block _ (Array.getElem?_eq_some_iff.1 HB8M.out).1 (fun e => HN8.out e.symm)).trans HB8M.out; obtain ⟨w10, hrun10, hown10, hgrow10⟩ := HST.out w9 v9 hm9)
              have hn9 : v9.ownBlock ≠ some w3.heap.size := fun e => by
                rcases hv9 with hv9 | hv9
                · exact HN8.out (hv9 ▸ e)
                · rw [hv9] at e; have := Option.some.inj e; have := HZ8.out; simp at this; omega
              have HS10 := Lib.hid (HSO.out.finish (s, cu) HSK.out x v9 HG8.out HZ8.out hown9 hgrow9 hv9 hn9 hown10 hgrow10)
              have HO10 : Hid (Owns KeyE w10 w3.heap.size u14 (ordK (keyG l each) (tl.take (k + 1)))) := by
                have h9 := Owns.beside HO8.out HR8.out (Ne.symm keyE_ne) hgrow9
                refine World.ownsRow.kept h9 hgrow10 ?_
                cases e : u14.ownBlock with
                | none => exact .inl rfl
                | some i => exact .inr (fun e2 => owns_ne_mapK HO7.out HS7.out.map (by rw [e, e2]))
              have HB10 : Hid (Below w3.heap.size w3 w10) := (HB8.out.grown hgrow9 hb8z (fun i e => (HR8.out.lt i e).1)).grown hgrow10 (by have := hgrow9.size; omega) (fun i e => by cases e; exact Nat.le_refl _)
              clear hown9 hgrow9 hv9 hm9 hown10 hgrow10 hn9
              go_wp2_with fail
              go_roundg (gk - 1)
              case measure => have := HGK.out; omega
              case rel =>
                refine ⟨k + 1, m' + 1, _, _, HGK.out.1, by go_num, show m' + 1 ≤ k + 1 by have := HME.out; omega, HS10.out.congr (fun q => ?_), show _ from ?_, HO10.out, HB10.out⟩
                · rw [grpT_take_succ (keyG l each) HTX.out q, HKEY.out]
                · intro q hq
                  rw [grpT_take_succ (keyG l each) HTX.out q, HKEY.out] at hq
                  by_cases e : q = (s, cu)
                  · simp [e] at hq
                  · simp only [e, if_false] at hq ⊢
                    exact HNIL.out q hq
        · have hta : tl.take k = tl := List.take_of_length_le (by have := HNT.out; omega)
          have hnk : ¬ (k : Int) < (nt : Int) := by omega
          rw [hta] at HS HO
          have HKS : Hid (∀ p ∈ ordK (keyG l each) tl, SmallK p) := fun p hp => by
            obtain ⟨t, ht, rfl⟩ := (mem_ordK (keyG l each) tl p).1 hp
            rw [HKG.out]
            refine ⟨by show (SU t).length ≤ _; rw [HSL.out]; omega, ?_⟩
            cases each
            · simp
            · have := cuS_len HL.out (HTX0.out t ht).2
              simpa using (by omega : (cuS l t).length ≤ 1000000)
          have HGM : Hid (∀ p, ∀ x ∈ grpT (keyG l each) tl p, x.length ≤ 1000 ∧ InTree l x) := fun p x hx => HTX0.out x ((mem_grpT (keyG l each)).1 hx).1
          have HGL : Hid (∀ p, (grpT (keyG l each) tl p).length ≤ 500) := fun p => Nat.le_trans (grpT_len _ _ _) (by have := HNT.out; omega)
          have hol : (ordK (keyG l each) tl).length ≤ 500 := Nat.le_trans (ordK_len _ _) (by have := HNT.out; omega)
          clear hta HNIL HK HKG HSL HSU HNT HTO3
          generalize ordK (keyG l each) tl = ks at *
          obtain ⟨Ao, co, hvo, -, -, -⟩ := HO.out.at_ keyE_ok
          subst hvo
          obtain ⟨no, hno⟩ : ∃ no, no = ks.length := ⟨_, rfl⟩
          rw [← hno] at HO hol
          try rw [← hno]
          have HNO : Hid (no = ks.length) := hno
          clear hno
          go_wp2_with fail
          go_loopg [18, 96] no (fun gk v18 v wr => ∃ (j : Nat) (P : List (Str × Str × Hd3)), Hid (j + gk = no) ∧ v = .int .i64 (j : Int) ∧ Hid (GrpsIn wr w3.heap.size v18 P (bigG tl (keyG l each) (ks.take j))) ∧ Hid (SetsAt wr w3.heap.size w3.heap.size m' D hd (grpT (keyG l each) tl)) ∧ Hid (Owns KeyE wr w3.heap.size (.slice Ao no co) ks) ∧ Hid (Below w3.heap.size w3 wr))
          case atStart => exact ⟨0, [], show 0 + no = no by omega, rfl, ⟨Owns.nil _ _, rfl, fun i p S hp => by simp at hp⟩, HS.out, HO.out, HB.out⟩
          case round =>
            obtain ⟨j, P, HJ, rfl, HP, HS2, HO2, HB2⟩ := hrel
            clear HS HO HB
            have hjn : j ≤ no := by have := HJ.out; omega
            by_cases hlt2 : j < no
            · have HGK := Lib.hid (show j + 1 + (gk - 1) = no ∧ 0 < gk by have := HJ.out; omega)
              obtain ⟨A', c', hv', -, hat', -⟩ := HO2.out.at_ keyE_ok
              simp only [Value.slice.injEq] at hv'
              obtain ⟨rfl, -, rfl⟩ := hv'
              obtain ⟨gO, oO, rfl, hgO, hcO⟩ := hat'.2.2.2 (by have := HNO.out; omega)
              have hjl : j < ks.length := by have := HNO.out; omega
              obtain ⟨p, hp⟩ : ∃ p, ks[j]? = some p := ⟨_, List.getElem?_eq_getElem hjl⟩
              have c0 := hcO j p 0 (.string ⟨p.1.toArray⟩) hp rfl
              have c1 := hcO j p 1 (.string ⟨p.2.toArray⟩) hp rfl
              have e2 : KeyE.size = 2 := rfl
              rw [e2, Nat.add_zero] at c0
              rw [e2] at c1
              have HSKP := Lib.hid (HKS.out p (List.mem_of_getElem? hp))
              have HBS := Lib.hid (bigG_succ (L := tl) (key := keyG l each) hp)
              have HGMP := Lib.hid (HGM.out p)
              have hglp := HGL.out p
              have hpl : P.length ≤ 500 := by have h1 := HP.out.len; have h2 := bigG_len tl (keyG l each) (ks.take j); rw [List.length_take] at h2; omega
              clear hat' hcO hjl hp e2 hgO HJ
              obtain ⟨p1, p2⟩ := p
              simp only at c0 c1
              go_upto_region 28 with (fail)
              have hk6 : KB (wr.alloc (.cells #[.string ⟨p1.toArray⟩, .string ⟨p2.toArray⟩] 61)) wr.heap.size p1 p2 := heap_alloc_new wr _
              have hb6 : Below wr.heap.size wr (wr.alloc (.cells #[.string ⟨p1.toArray⟩, .string ⟨p2.toArray⟩] 61)) := (Below.refl _ _).alloc (Nat.le_refl _) _
              have HP4 := Lib.hid (HP.out.keep hb6)
              have HS4 := Lib.hid (HS2.out.keep hb6)
              have HO4 := Lib.hid (HO2.out.below_ hb6)
              have HB4 := Lib.hid (HB2.out.trans (hb6.mono HB2.out.size))
              obtain ⟨K2, hK2⟩ : ∃ K2, K2 = wr.heap.size := ⟨_, rfl⟩
              rw [← hK2] at hk6 ⊢
              generalize wr.alloc (.cells #[.string ⟨p1.toArray⟩, .string ⟨p2.toArray⟩] 61) = w4 at *
              have HK4 := Lib.hid hk6
              clear hk6 hb6 hK2 HP HS2 HO2 HB2 c0 c1
              have hlk := HS4.out.look (p1, p2) HSKP.out
              dsimp only at hlk
              obtain ⟨k0, k1, k2, k3⟩ := HK4.out.c
              have hrow := HS4.out.row (p1, p2)
              obtain ⟨A9, c9, hv9, -, hat9, -⟩ := hrow.at_ strE_ok
              rw [hv9] at hlk hrow
              obtain ⟨n9, hn9⟩ : ∃ n9, n9 = (grpT (keyG l each) tl (p1, p2)).length := ⟨_, rfl⟩
              rw [← hn9] at hlk hat9 hglp HBS hrow
              have HROW : Hid (OwnStrs w4 w3.heap.size (hv3 (A9, n9, c9)) (grpT (keyG l each) tl (p1, p2))) := hrow
              have HAT9 := Lib.hid hat9
              have HW4 := Lib.hid (HB3.out.trans (HB4.out.mono HB3.out.size))
              clear hn9 hv9 hat9 hrow
              by_cases h1 : 1 < n9
              · rw [if_pos h1] at HBS
                have h1i : (1 : Int) < (n9 : Int) := by omega
                have HPR : Hid (∀ (A1 : Option Addr) (n1 c1 : Nat) (wx : World), Below w4.heap.size w4 wx → Calls Tryz.prog 21 #[.agg #[.map (some Mi), .map (some Mk), .slice A1 n1 c1], .slice A9 n9 c9, .slice A3 n3 c3] wx (MinPost wx (grpT (keyG l each) tl (p1, p2)))) :=
                  fun A1 n1 c1 wx hb => primary_any Mi (.map (some Mk)) A1 n1 c1 A9 n9 c9 A3 n3 c3 l _ ranks wx ((HMI3.out.below HB4.out).below hb) (ElemsAt.keep HAT9.out hb) (ElemsAt.keep HR.out (HW4.out.trans (hb.mono HW4.out.size))) (by omega) (by omega) (by omega) (fun x hx => HGMP.out x hx) Mk rfl
                obtain ⟨t0, t1, t2, f0, f1, f2⟩ := (HT3.out.keep HB4.out).c
                generalize grpT (keyG l each) tl (p1, p2) = S at *
                have hzz : w3.heap.size ≤ w4.heap.size := HB4.out.size
                go_upto_region 30 with (fail)
                go_region_law (first
                  | (refine step_elems grpE_ok (by rfl) _ _ (by rfl) w3.heap.size u18 P (by rfl) ?_ _ 1 1 [(p1, pr, (A9, n9, c9))] (by rfl) ?_ (by omega) ?_ ?_ ?_; (exact (HP8.out.keep ((Below.refl _ _).alloc (Nat.le_refl _) _)).own); (exact one_elem (E := GrpE) w8 (p1, pr, (A9, n9, c9))); (simp only [List.length_singleton]; omega); (simp; omega); intro v10 w10 hown10 hgrow10 hv10)
                  | (go_simp; go_at_call 21; (with_reducible refine Calls.mono (HPR.out _ _ _ _ ?_) ?_); (first | exact (Below.refl _ _).drew | exact Below.refl _ _ | exact below_drewN (Below.refl _ _) _); rintro e w8 ⟨⟨pr, hpr, rfl⟩, hb8⟩; have hb84 : Below w4.heap.size w4 w8 := (by first | exact hb8 | exact ((Below.refl _ _).drew).trans hb8 | exact (below_drewN (Below.refl _ _) _).trans hb8); have HP8 := Lib.hid (HP4.out.keep hb84); have HK8 := HK4.out.keep hb84; have hk8 := HK8.c.1; have hz8 := hb84.size))
                all_goals
                  have hal : Below w8.heap.size w8 (w8.alloc (.cells #[.string ⟨p1.toArray⟩, .string ⟨pr.toArray⟩, .slice A9 n9 c9] 36)) := (Below.refl _ _).alloc (Nat.le_refl _) _
                  have hbx : Below w4.heap.size w4 (w8.alloc (.cells #[.string ⟨p1.toArray⟩, .string ⟨pr.toArray⟩, .slice A9 n9 c9] 36)) := hb84.trans (hal.mono hz8)
                  have hpx := HP4.out.keep hbx
                  have HPX : Hid (GrpsIn w10 w3.heap.size v10 (P ++ [(p1, pr, (A9, n9, c9))]) (bigG tl (keyG l each) (ks.take (j + 1)))) := by
                    show GrpsIn _ _ _ _ _
                    rw [HBS.out]
                    exact hpx.beside hown10 hgrow10 (HROW.out.below_ hbx) hpr
                  have HSX := Lib.hid ((HS4.out.keep hbx).besideE hpx.own grpE_ne hgrow10)
                  have HOX := Lib.hid (Owns.beside (HO4.out.below_ hbx) hpx.own grpE_key hgrow10)
                  have HBX : Hid (Below w3.heap.size w3 w10) := (HB4.out.trans (hbx.mono hzz)).grown hgrow10 (by have := hbx.size; omega) (fun i e => (hpx.own.lt i e).1)
                  clear hown10 hgrow10 hv10 hpx hbx hal
                  go_wp2_with fail
                  go_roundg (gk - 1)
                  case measure => have := HGK.out; omega
                  case rel => exact ⟨j + 1, _, HGK.out.1, by go_num, HPX.out, HSX.out, HOX.out, HBX.out⟩
              · rw [if_neg h1] at HBS
                have h1i : ¬ (1 : Int) < (n9 : Int) := by omega
                go_wp2_with fail
                go_roundg (gk - 1)
                case measure => have := HGK.out; omega
                case rel => exact ⟨j + 1, P, HGK.out.1, by go_num, by rw [HBS.out]; exact HP4.out, HS4.out, HO4.out, HB4.out⟩
            · have hnj : ¬ (j : Int) < (no : Int) := by omega
              have hta : ks.take j = ks := List.take_of_length_le (by have := HNO.out; omega)
              rw [hta] at HP
              have HFF := Lib.hid (HPOST.out u18 P wr (HP.out.base HB3.out.size) (HB3.out.trans (HB2.out.mono HB3.out.size)))
              clear hta
              go_wp2_with fail
              go_ret2
              exact HFF.out
end Go.Proofs.YtombeeeiignckaaGreatDoor

namespace Go.Proofs.YtombeeeiignckaaGreatDoor
open Go.RowKit Go.Maps

/-- Block M holds a number for each id of dom (a look at another one shows 0); m stores were made. -/
structure StAt (w : World) (M m : Nat) (st : (List UInt8) → Int) (dom : (List UInt8) → Bool) : Prop where
  ex : ∃ D : DataW Value, w.ownsMap Tryz.prog 9 heldE M m D ∧ (∀ id : (List UInt8), D.atKey (.string id) (.held (.int .i64 0)) = .held (.int .i64 (st id))) ∧ ∀ id : (List UInt8), has D (.string id) = dom id
theorem StAt.start (w : World) : StAt (w.alloc (.map #[] 0)) w.heap.size 0 (fun _ => 0) (fun _ => false) := ⟨⟨.map [], World.ownsMap_made w _ _ _, fun _ => rfl, fun _ => rfl⟩⟩
theorem StAt.kept {w w' : World} {M m : Nat} {st : (List UInt8) → Int} {dom : (List UInt8) → Bool} {row : Option Nat} (h : StAt w M m st dom) (hg : w.grownBy w' row) (hr : row ≠ some M) : StAt w' M m st dom := by
  obtain ⟨D, h1, h2⟩ := h.ex
  exact ⟨⟨D, h1.kept hg hr.symm, h2⟩⟩
theorem StAt.below {w w' : World} {M m : Nat} {st : (List UInt8) → Int} {dom : (List UInt8) → Bool} (h : StAt w M m st dom) (hb : Below w.heap.size w w') : StAt w' M m st dom := h.kept (below_grown hb none) (by simp)
theorem StAt.lt {w : World} {M m : Nat} {st : (List UInt8) → Int} {dom : (List UInt8) → Bool} (h : StAt w M m st dom) : M < w.heap.size := by
  obtain ⟨D, h1, _⟩ := h.ex
  exact h1.lt
theorem StAt.look {w : World} {M m : Nat} {st : (List UInt8) → Int} {dom : (List UInt8) → Bool} (h : StAt w M m st dom) (id : ByteArray) (hid : id.size ≤ 1000000) (q : Nat) :
    (Instr.lookup 34 (.map (some M)) (.string id) false).run Tryz.prog (w.drewN q) = .ok (.int .i64 (st id.data.toList)) (w.drewN q) := by
  obtain ⟨D, h1, h2, _⟩ := h.ex
  have hd : (w.drewN q).ownsMap Tryz.prog 9 heldE M m D := h1
  obtain ⟨v, ps, hrun, hv⟩ := hd.lookup keyS Tryz.underlying34 (z := .int .i64 0) (by kernel_rfl) (zd := .held (.int .i64 0)) (zp := []) rfl (keyS_mk id hid)
  rw [h2] at hv
  simp only [heldE, Option.some.injEq, Prod.mk.injEq, DataW.held.injEq] at hv
  rw [hv.1] at hrun
  exact hrun
theorem StAt.put {w w' : World} {M m : Nat} {st : (List UInt8) → Int} {dom : (List UInt8) → Bool} {D : DataW Value} (x : (List UInt8)) (z : Int) (h1 : w.ownsMap Tryz.prog 9 heldE M m D) (h2 : ∀ id : (List UInt8), D.atKey (.string id) (.held (.int .i64 0)) = .held (.int .i64 (st id))) (h3 : ∀ id : (List UInt8), has D (.string id) = dom id)
    (hm : w'.ownsMap Tryz.prog 9 heldE M (m + 1) (D.put (.string x) (.held (.int .i64 z)))) : StAt w' M (m + 1) (fun id => if id = x then z else st id) (fun id => decide (id = x) || dom id) := by
  refine ⟨⟨_, hm, fun id => ?_, fun id => ?_⟩⟩
  · by_cases e : id = x
    · subst e
      rw [atKey_put_same h1.isMap (str_key _)]
      simp
    · rw [atKey_put_other (str_neI e), h2]
      simp [e]
  · by_cases e : id = x
    · subst e
      rw [has_put_same h1.isMap (str_key _)]
      simp
    · rw [has_put_other (str_neI e), h3]
      simp [e]
theorem StAt.congr {w : World} {M m : Nat} {st st' : (List UInt8) → Int} {dom dom' : (List UInt8) → Bool} (h : StAt w M m st dom) (h1 : ∀ x, st' x = st x) (h2 : ∀ x, dom' x = dom x) : StAt w M m st' dom' := by
  obtain rfl : st' = st := funext h1
  obtain rfl : dom' = dom := funext h2
  exact h
end Go.Proofs.YtombeeeiignckaaGreatDoor

namespace Go.Proofs.YtombeeeiignckaaGreatDoor
open Go.RowKit Go.Maps

theorem StAt.look2 {w : World} {M m : Nat} {st : (List UInt8) → Int} {dom : (List UInt8) → Bool} (h : StAt w M m st dom) (id : ByteArray) (hid : id.size ≤ 1000000) (q : Nat) :
    (Instr.lookup 34 (.map (some M)) (.string id) true).run Tryz.prog (w.drewN q) = .ok (.tuple #[.int .i64 (st id.data.toList), .bool (dom id.data.toList)]) (w.drewN q) := by
  obtain ⟨D, h1, h2, h3⟩ := h.ex
  have hd : (w.drewN q).ownsMap Tryz.prog 9 heldE M m D := h1
  obtain ⟨v, ps, hrun, hv⟩ := hd.look_ok keyS Tryz.underlying34 (z := .int .i64 0) (by kernel_rfl) (zd := .held (.int .i64 0)) (zp := []) rfl (keyS_mk id hid)
  rw [h2] at hv
  rw [h3] at hrun
  simp only [heldE, Option.some.injEq, Prod.mk.injEq, DataW.held.injEq] at hv
  rw [hv.1] at hrun
  exact hrun
end Go.Proofs.YtombeeeiignckaaGreatDoor

namespace Go.Proofs.YtombeeeiignckaaGreatDoor
open Go.RowKit Go.Maps
attribute [local go_sem ↓] Go.wp_at_zero Go.wp_at_succ

theorem GoodI.setRG {l : List Itm} (h : GoodI l) : SetR l := by
  refine ⟨⟨h.ok, ?_, by have := h.short; omega⟩, h.rise⟩
  have hr : (l.map fun x => x.id.data.toList).Pairwise fun a b => a ≠ b := h.rise.imp (fun {a b} hab e => by
    subst e
    rw [Bool.or_eq_false_iff] at hab
    simp at hab)
  have : (l.map Itm.id).Pairwise fun a b => a ≠ b := by
    rw [List.pairwise_map] at hr ⊢
    exact hr.imp (fun {a b} hab e => hab (by rw [e]))
  exact this
theorem topN_nodup {l : List Itm} (h : SetR l) : (topN l l.length).Nodup := by
  unfold topN
  rw [List.take_length]
  have h1 : ((l.filter fun x => (parL x).isEmpty).map Itm.id).Nodup := List.Nodup.sublist (List.Sublist.map _ List.filter_sublist) h.set.nodup
  have h2 : (l.filter fun x => (parL x).isEmpty).map idOf = ((l.filter fun x => (parL x).isEmpty).map Itm.id).map (fun b => b.data.toList) := by
    rw [List.map_map]; rfl
  rw [h2]
  refine (List.pairwise_map.2 (List.Pairwise.imp (fun {a b} hne e => hne ?_) h1))
  exact ByteArray.ext (Array.toList_inj.1 e)
/-- A group's cells. -/
abbrev GB (w : World) (K : Nat) (s p : Str) (h : Hd3) : Prop := w.heap[K]? = some (.cells #[.string ⟨s.toArray⟩, .string ⟨p.toArray⟩, .slice h.1 h.2.1 h.2.2] 36 (0, 0))
theorem GB.c {w : World} {K : Nat} {s p : Str} {h : Hd3} (hb : GB w K s p h) : w.cell? ⟨K, 0, none⟩ = some (.string ⟨s.toArray⟩) ∧ w.cell? ⟨K, 1, none⟩ = some (.string ⟨p.toArray⟩) ∧ w.cell? ⟨K, 2, none⟩ = some (.slice h.1 h.2.1 h.2.2) := by
  refine ⟨?_, ?_, ?_⟩ <;> (rw [cell_of_row w K _ _ _ _ hb]; rfl)
theorem GrpsIn.at_ {w : World} {base : Nat} {A : Option Addr} {n c : Nat} {P : List (Str × Str × Hd3)} {G : List (List Str)} (h : GrpsIn w base (.slice A n c) P G) {k : Nat} (hk : k < P.length) :
    ∃ (g o : Nat) (s pr : Str) (R : Option Addr) (rn rc : Nat) (S : List Str), A = some ⟨g, o, none⟩ ∧ G[k]? = some S ∧ pr ∈ S ∧ rn = S.length ∧ StrsAt w R rn rc S ∧ g < w.heap.size ∧
      w.cell? ⟨g, o + k * 3, none⟩ = some (.string ⟨s.toArray⟩) ∧ w.cell? ⟨g, o + k * 3 + 1, none⟩ = some (.string ⟨pr.toArray⟩) ∧ w.cell? ⟨g, o + k * 3 + 2, none⟩ = some (.slice R rn rc) := by
  obtain ⟨A', c', hv, -, hat, -⟩ := h.own.at_ grpE_ok
  simp only [Value.slice.injEq] at hv
  obtain ⟨rfl, rfl, rfl⟩ := hv
  obtain ⟨g, o, rfl, hg, hc⟩ := hat.2.2.2 (by omega)
  obtain ⟨p, hp⟩ : ∃ p, P[k]? = some p := ⟨_, List.getElem?_eq_getElem hk⟩
  obtain ⟨S, hS⟩ : ∃ S, G[k]? = some S := ⟨_, List.getElem?_eq_getElem (by rw [← h.len]; exact hk)⟩
  have c0 := hc k p 0 (.string ⟨p.1.toArray⟩) hp rfl
  have c1 := hc k p 1 (.string ⟨p.2.1.toArray⟩) hp rfl
  have c2 := hc k p 2 (hv3 p.2.2) hp rfl
  have e2 : GrpE.size = 3 := rfl
  rw [e2] at c0 c1 c2
  obtain ⟨hr, hm⟩ := h.row k p S hp hS
  obtain ⟨s, pr, R, rn, rc⟩ := p
  obtain ⟨A5, c5, hv5, -, hat5, -⟩ := hr.at_ strE_ok
  simp only [hv3, Value.slice.injEq] at hv5
  obtain ⟨rfl, rfl, rfl⟩ := hv5
  exact ⟨g, o, s, pr, R, S.length, rc, S, rfl, hS, hm, rfl, hat5, hg, c0, c1, c2⟩
set_option maxHeartbeats 6400000 in
set_option maxRecDepth 100000 in
theorem groupsLaw_any (A : Option Addr) (n c : Nat) (w : World) (hA : RowAt w A n) (hbig : n ≤ 1000000000000000) (hS : StandAt w) (hT : Tabs w) (hM : MaxAt w) :
    Calls Tryz.prog 3 #[.slice A n c] w (LawPost w) := by
  have hst := stream_new w A n c hA hbig
  have hB : Below w.heap.size w (w.alloc (.cells #[.slice A n c, .int .i64 0] 25)) := (Below.refl _ _).alloc (Nat.le_refl _) _
  have HS := Lib.hid hS
  have HTM : Hid (∀ w', Below w.heap.size w w' → Tabs w' ∧ MaxAt w') := fun w' hb => ⟨Tabs.below hT hb, MaxAt.below hM hb⟩
  clear hS hT hM
  go_enter Tryz.func3, Tryz.ntmps3
  go_upto_region 2 with (fail)
  generalize w.alloc (.cells #[.slice A n c, .int .i64 0] 25) = w1 at *
  go_wp2_with fail
  refine (rangeR_any w.heap.size A n c 0 0 12 _ hst (by omega) (by omega) (by omega) (by omega)).mono ?_
  rintro e w2 ⟨r, rfl, hr0, hr1, hs2, hg2⟩
  obtain ⟨m, rfl⟩ := Int.eq_ofNat_of_zero_le hr0
  have hm : m ≤ 12 := by omega
  have HB2 : Hid (Below w.heap.size w w2) := hB.grown hg2 hB.size (fun i e => Nat.le_of_eq (Option.some.inj e))
  have HRI := Lib.hid (rightItems_any w.heap.size A n c 1 m w2 hs2 (by omega) hm (fun w' hg => HTM.out w' (HB2.out.grown hg HB2.out.size (fun i e => Nat.le_of_eq (Option.some.inj e)))))
  clear hst hB hr0 hr1 hs2 hg2
  go_wp2_with fail
  refine HRI.out.mono ?_
  rintro e w3 ⟨v3, l, rfl, hown3, hgd, -, -, hg3⟩
  have HB3 : Hid (Below w.heap.size w w3) := HB2.out.grown hg3 HB2.out.size (fun i e => Nat.le_of_eq (Option.some.inj e))
  obtain ⟨A3, c3, hv3, -, hat3, -⟩ := hown3.at_ itemE_ok
  subst hv3
  have HL := Lib.hid hgd.setRG
  have hl12 := hgd.short
  obtain ⟨nl, hnl⟩ : ∃ nl, nl = l.length := ⟨_, rfl⟩
  rw [← hnl] at hat3 ⊢
  have HNL : Hid (nl = l.length) := hnl
  have HAT := Lib.hid hat3
  have HGR : Hid (∀ (each : Bool) (wx : World) (A0 : Option Addr), Below w3.heap.size w3 wx → StrsAt wx A0 1 1 [[98, 111, 98]] → Calls Tryz.prog 6 #[.slice A3 nl c3, .slice A0 1 1, .bool each] wx (GroupsPost wx l each)) :=
    fun each wx A0 hb hr => groups_any A3 nl c3 l A0 1 1 [[98, 111, 98]] each wx (HAT.out.keep hb) HL.out (by omega) (HTM.out wx (HB3.out.trans (hb.mono HB3.out.size))).1 (HTM.out wx (HB3.out.trans (hb.mono HB3.out.size))).2 (HS.out.below (HB3.out.trans (hb.mono HB3.out.size))) hr (by decide) (by decide) (by omega)
  have HAP := Lib.hid (grps_apart (keyG l false) (topN l l.length) (topN_nodup HL.out))
  have HWI : Hid (∀ S ∈ grpsK (keyG l true) (topN l l.length), ∃ (i : Nat) (R : List Str), (grpsK (keyG l false) (topN l l.length))[i]? = some R ∧ ∀ t ∈ S, t ∈ R) := fun S h => grps_within (keyG l false) (keyG l true) (topN l l.length) (fun a b => keyG_coarse l) h
  have HAPT := Lib.hid (grps_apart (keyG l true) (topN l l.length) (topN_nodup HL.out))
  have HTS : Hid (∀ each, ∀ S ∈ grpsK (keyG l each) (topN l l.length), ∀ t ∈ S, t.length ≤ 1000) := fun each S hS t ht => by
    unfold grpsK at hS
    obtain ⟨k, -, rfl⟩ := List.mem_map.1 hS
    exact top_mem HL.out.set t ((mem_grpT (keyG l each)).1 ht).1
  have HTN : Hid (∀ each, ∀ S ∈ grpsK (keyG l each) (topN l l.length), S.length ≤ 12) := fun each S hS => by
    unfold grpsK at hS
    obtain ⟨k, -, rfl⟩ := List.mem_map.1 hS
    exact Nat.le_trans (grpT_len _ _ _) (Nat.le_trans (topN_len l l.length) hl12)
  have HGN : Hid (∀ each, (grpsK (keyG l each) (topN l l.length)).length ≤ 12) := fun each => by
    unfold grpsK bigK
    rw [List.length_map]
    exact Nat.le_trans (List.length_filter_le _ _) (Nat.le_trans (ordK_len _ _) (Nat.le_trans (topN_len l l.length) hl12))
  clear hown3 hgd hg3 hat3 hnl HRI hl12
  have hal3 : Below w3.heap.size w3 (w3.alloc (.cells #[.string ⟨#[98, 111, 98]⟩] 9)) := (Below.refl _ _).alloc (Nat.le_refl _) _
  have HO3 : Hid (StrsAt (w3.alloc (.cells #[.string ⟨#[98, 111, 98]⟩] 9)) (some ⟨w3.heap.size, 0, none⟩) 1 1 [[98, 111, 98]]) := one_elem (E := StrE) w3 [98, 111, 98]
  have HA3 := Lib.hid hal3
  clear hal3
  go_wp2_with fail
  refine (HGR.out false _ _ HA3.out HO3.out).mono ?_
  rintro e w4 ⟨v4, P1, rfl, hp4, hb4⟩
  have HB34 : Hid (Below w3.heap.size w3 w4) := HA3.out.trans (hb4.mono HA3.out.size)
  have HP1 := Lib.hid (hp4.base (show w3.heap.size ≤ _ from HA3.out.size))
  clear hp4 hb4 HA3 HO3
  have hal4 : Below w4.heap.size w4 (w4.alloc (.cells #[.string ⟨#[98, 111, 98]⟩] 9)) := (Below.refl _ _).alloc (Nat.le_refl _) _
  have HO4 : Hid (StrsAt (w4.alloc (.cells #[.string ⟨#[98, 111, 98]⟩] 9)) (some ⟨w4.heap.size, 0, none⟩) 1 1 [[98, 111, 98]]) := one_elem (E := StrE) w4 [98, 111, 98]
  have HA4 := Lib.hid hal4
  clear hal4
  go_wp2_with fail
  refine (HGR.out true _ _ (HB34.out.trans (HA4.out.mono HB34.out.size)) HO4.out).mono ?_
  rintro e w5 ⟨v5, P2, rfl, hp5, hb5⟩
  have hb45 : Below w4.heap.size w4 w5 := HA4.out.trans (hb5.mono HA4.out.size)
  have HB35 : Hid (Below w3.heap.size w3 w5) := HB34.out.trans (hb45.mono HB34.out.size)
  have HB5 : Hid (Below w.heap.size w w5) := HB3.out.trans (HB35.out.mono HB3.out.size)
  have HP15 := Lib.hid (HP1.out.keep hb45)
  have HP25 := Lib.hid (hp5.base (show w3.heap.size ≤ _ from Nat.le_trans HB34.out.size HA4.out.size))
  clear hp5 hb5 hb45 HA4 HO4 HP1 HB34 HGR
  have HG1 := HGN.out false
  have HG2 := HGN.out true
  have HT1 := Lib.hid (HTS.out false)
  have HT2 := Lib.hid (HTS.out true)
  have HN1 := Lib.hid (HTN.out false)
  have HN2 := Lib.hid (HTN.out true)
  clear HTS HTN HGN
  generalize grpsK (keyG l false) (topN l l.length) = G1 at *
  generalize grpsK (keyG l true) (topN l l.length) = G2 at *
  obtain ⟨A1, c1, hv1, -, -, -⟩ := HP15.out.own.at_ grpE_ok
  obtain ⟨A2, c2, hv2, -, -, -⟩ := HP25.out.own.at_ grpE_ok
  subst hv1 hv2
  obtain ⟨n1, hn1⟩ : ∃ n1, n1 = P1.length := ⟨_, rfl⟩
  obtain ⟨n2, hn2⟩ : ∃ n2, n2 = P2.length := ⟨_, rfl⟩
  rw [← hn1] at HP15 ⊢
  rw [← hn2] at HP25 ⊢
  have HNP1 := Lib.hid hn1
  have HNP2 := Lib.hid hn2
  have hn12 : n1 ≤ 12 := by have := HP15.out.len; omega
  have hn22 : n2 ≤ 12 := by have := HP25.out.len; omega
  clear hn1 hn2
  have hmm := @run_makeMap Tryz.prog
  have hb6 : Below w5.heap.size w5 (w5.alloc (.map #[] 0)) := (Below.refl _ _).alloc (Nat.le_refl _) _
  have HS6 := Lib.hid (StAt.start w5)
  have HB6 := Lib.hid hb6
  clear hb6
  go_upto_region 8 with (fail)
  clear hmm
  obtain ⟨w6, hw6⟩ : ∃ w6, w6 = w5.alloc (.map #[] 0) := ⟨_, rfl⟩
  rw [← hw6] at HS6 HB6 ⊢
  clear hw6
  go_wp2_with fail
  go_loopg [52] n1 (fun gk v wr => ∃ (i m : Nat) (st : Str → Int) (dom : Str → Bool), Hid (i + gk = n1) ∧ v = .int .i64 (i : Int) ∧ Hid (m ≤ 100 * i) ∧ Hid (StAt wr w5.heap.size m st dom) ∧ Hid (SeenOk G1 i 0 st dom) ∧ Hid (Below w5.heap.size w5 wr))
  case atStart => exact ⟨0, 0, _, _, show 0 + n1 = n1 by omega, rfl, Nat.zero_le _, HS6.out, SeenOk.start G1, HB6.out⟩
  case round =>
    obtain ⟨i, m, st, dom, HI, rfl, HME, HST, HSE, HW⟩ := hrel
    clear HS6 HB6
    have hin : i ≤ n1 := by have := HI.out; omega
    by_cases hlt : i < n1
    · have HGK := Lib.hid (show i + 1 + (gk - 1) = n1 ∧ 0 < gk by have := HI.out; omega)
      obtain ⟨g, o, s, pr, R, rn, rc, S, rfl, hS, hpr, hrn, hat5, hg5, e0, e1, e2⟩ := HP15.out.at_ (k := i) (by have := HNP1.out; omega)
      have d0 := (HW.out.cell (p := ⟨g, _, none⟩) hg5).trans e0
      have d1 := (HW.out.cell (p := ⟨g, _, none⟩) hg5).trans e1
      have d2 := (HW.out.cell (p := ⟨g, _, none⟩) hg5).trans e2
      have hat := hat5.keep HW.out
      have HA5 := Lib.hid hat5
      clear e0 e1 e2 hat5 hg5
      have HSG := Lib.hid hS
      have hmem := List.mem_of_getElem? hS
      have hrn2 : 1 < rn := by have := (HAP.out.nod i S hS).2; omega
      have hrn12 : rn ≤ 12 := by have := HN1.out S hmem; omega
      have HSX := Lib.hid (HT1.out S hmem)
      have HRN := Lib.hid hrn
      have HPR : Hid (S.contains pr = true) := by show _ = _; simpa using hpr
      have hb7 : Below wr.heap.size wr (wr.alloc (.cells #[.string ⟨s.toArray⟩, .string ⟨pr.toArray⟩, .slice R rn rc] 36)) := (Below.refl _ _).alloc (Nat.le_refl _) _
      have HG7 : Hid (GB (wr.alloc (.cells #[.string ⟨s.toArray⟩, .string ⟨pr.toArray⟩, .slice R rn rc] 36)) wr.heap.size s pr (R, rn, rc)) := heap_alloc_new wr _
      have HA7 := Lib.hid (hat.keep hb7)
      have HST7 := Lib.hid (HST.out.below hb7)
      have HW7 := Lib.hid (HW.out.trans (hb7.mono HW.out.size))
      clear hS hmem hrn hpr hb7 hat HST HW HI
      go_upto_region 11 with (fail)
      obtain ⟨K, hK⟩ : ∃ K, K = wr.heap.size := ⟨_, rfl⟩
      rw [← hK] at HG7 ⊢
      generalize wr.alloc (.cells #[.string ⟨s.toArray⟩, .string ⟨pr.toArray⟩, .slice R rn rc] 36) = w7 at *
      clear hK d0 d1 d2
      obtain ⟨k0, k1, k2⟩ := HG7.out.c
      simp only at k2
      have h2i : ¬ (rn : Int) < 2 := by omega
      go_upto_region 13 with (go_at_call 7; refine (containsS_any R rn rc S pr w7 HA7.out (by omega)).mono ?_; rintro e w8 ⟨rfl, hw⟩; obtain rfl := hw; rw [HPR.out])
      obtain ⟨go, rfl⟩ : ∃ go : Nat, go = gk := ⟨_, rfl⟩
      obtain ⟨wo, rfl⟩ : ∃ wo : World, wo = wr := ⟨_, rfl⟩
      clear k0 k1 HA7 HG7
      go_wp2_with fail
      clear k2
      go_loopg [72] rn (fun gk v wr => ∃ (j m : Nat) (st : Str → Int) (dom : Str → Bool), Hid (j + gk = rn) ∧ v = .int .i64 (j : Int) ∧ Hid (m ≤ 100 * i + j) ∧ Hid (StAt wr w5.heap.size m st dom) ∧ Hid (SeenOk G1 i j st dom) ∧ Hid (Below w5.heap.size w5 wr))
      case atStart => exact ⟨0, m, st, dom, show 0 + rn = rn by omega, rfl, HME.out, HST7.out, HSE.out, HW7.out⟩
      case round =>
        obtain ⟨j, m', st', dom', HJ, rfl, HMJ, HSTJ, HSEJ, HWJ⟩ := hrel
        clear HST7 HSE HW7
        have hjn : j ≤ rn := by have := HJ.out; omega
        by_cases hlt2 : j < rn
        · have HGJ := Lib.hid (show j + 1 + (gk - 1) = rn ∧ 0 < gk by have := HJ.out; omega)
          obtain ⟨g', o', rfl, hg', hc'⟩ := (ElemsAt.keep HA5.out HWJ.out).str (by omega)
          have hck := hc' j hlt2
          have hjl : j < S.length := by have := HRN.out; omega
          obtain ⟨x, hx⟩ : ∃ x, S[j]? = some x := ⟨_, List.getElem?_eq_getElem hjl⟩
          have hgd : S.getD j [] = x := by rw [List.getD_eq_getElem?_getD, hx]; rfl
          rw [hgd] at hck
          have hxs := HSX.out x (List.mem_of_getElem? hx)
          obtain ⟨hd0, hse⟩ := HSEJ.out.step HAP.out HSG.out hx
          have HSEN := Lib.hid hse
          have hl2 := HSTJ.out.look2 ⟨x.toArray⟩ (by simp [ByteArray.size]; omega) 0
          rw [show (⟨x.toArray⟩ : ByteArray).data.toList = x by simp, hd0] at hl2
          have hl3 : (Instr.lookup 34 (.map (some w5.heap.size)) (.string ⟨x.toArray⟩) true).run Tryz.prog wr = .ok (.tuple #[.int .i64 (st' x), .bool false]) wr := hl2
          have HKX : Hid (keyOf Tryz.prog 9 (.string ⟨x.toArray⟩) = some (.string x)) := keyS_mk ⟨x.toArray⟩ (by simp [ByteArray.size]; omega)
          obtain ⟨D, hm1, hm2, hm3⟩ := HSTJ.out.ex
          have HM1 := Lib.hid hm1
          have HM2 := Lib.hid hm2
          have HM3 := Lib.hid hm3
          have hmb := HMJ.out
          clear hc' hg' hgd hjl hx hse hl2 hd0 hm1 hm2 hm3
          go_wp2_with (at_mapUpdate; refine wpList_mapUpdate_own _ rfl _ _ _ 34 rfl 9 3 keyS Tryz.underlying34 _ w5.heap.size m' D rfl HM1.out (by simp only [maxLen]; omega) _ _ (.string x) rfl rfl HKX.out (.held (.int .i64 (i : Int))) [] rfl ?_; intro w9 hown9 hgrow9)
          have HST9 := Lib.hid (StAt.put x (i : Int) HM1.out HM2.out HM3.out hown9)
          have HW9 : Hid (Below w5.heap.size w5 w9) := HWJ.out.grown hgrow9 HWJ.out.size (fun q e => by cases e; exact Nat.le_refl _)
          clear hown9 hgrow9 hl3 hck
          go_wp2_with fail
          go_roundg (gk - 1)
          case measure => have := HGJ.out; omega
          case rel => exact ⟨j + 1, m' + 1, _, _, HGJ.out.1, by go_num, show m' + 1 ≤ 100 * i + (j + 1) by have := HMJ.out; omega, HST9.out, HSEN.out, HW9.out⟩
        · have hnj : ¬ (j : Int) < (rn : Int) := by omega
          have hje : j = S.length := by have := HRN.out; omega
          rw [hje] at HSEJ
          have HSEX := Lib.hid (HSEJ.out.next HSG.out)
          have hmj := HMJ.out
          clear hje
          go_wp2_with fail
          go_roundg (go - 1)
          case measure => have := HGK.out; omega
          case rel => exact ⟨i + 1, m', st', dom', HGK.out.1, by go_num, show m' ≤ 100 * (i + 1) by omega, HSTJ.out, HSEX.out, HWJ.out⟩
    · have hni : ¬ (i : Int) < (n1 : Int) := by omega
      have hie : i = G1.length := by have := HNP1.out; have := HP15.out.len; omega
      rw [hie] at HSE
      clear hie HI HME
      obtain ⟨wz, rfl⟩ : ∃ wz : World, wz = wr := ⟨_, rfl⟩
      go_wp2_with fail
      go_loopg [90] n2 (fun gk v wr => ∃ (i : Nat), Hid (i + gk = n2) ∧ v = .int .i64 (i : Int) ∧ Hid (StAt wr w5.heap.size m st dom) ∧ Hid (Below w5.heap.size w5 wr))
      case atStart => exact ⟨0, show 0 + n2 = n2 by omega, rfl, HST.out, HW.out⟩
      case round =>
        obtain ⟨q, HQ, rfl, HSTQ, HWQ⟩ := hrel
        clear HST HW
        have hqn : q ≤ n2 := by have := HQ.out; omega
        by_cases hlt2 : q < n2
        · have HGK := Lib.hid (show q + 1 + (gk - 1) = n2 ∧ 0 < gk by have := HQ.out; omega)
          obtain ⟨g, o, s, pr, R, rn, rc, S, rfl, hS, hpr, hrn, hat5, hg5, e0, e1, e2⟩ := HP25.out.at_ (k := q) (by have := HNP2.out; omega)
          have d0 := (HWQ.out.cell (p := ⟨g, _, none⟩) hg5).trans e0
          have d1 := (HWQ.out.cell (p := ⟨g, _, none⟩) hg5).trans e1
          have d2 := (HWQ.out.cell (p := ⟨g, _, none⟩) hg5).trans e2
          have HA5 := Lib.hid hat5
          clear e0 e1 e2 hg5 hpr
          have hmem := List.mem_of_getElem? hS
          have hrn2 : 1 < rn := by have := (HAPT.out.nod q S hS).2; omega
          have hrn12 : rn ≤ 12 := by have := HN2.out S hmem; omega
          have HSX := Lib.hid (HT2.out S hmem)
          have HRN := Lib.hid hrn
          obtain ⟨b, Rg, hRg, hsub⟩ := HWI.out S hmem
          have HFI := Lib.hid (HSE.out.finer hRg hsub)
          have hb7 : Below wr.heap.size wr (wr.alloc (.cells #[.string ⟨s.toArray⟩, .string ⟨pr.toArray⟩, .slice R rn rc] 36)) := (Below.refl _ _).alloc (Nat.le_refl _) _
          have HG7 : Hid (GB (wr.alloc (.cells #[.string ⟨s.toArray⟩, .string ⟨pr.toArray⟩, .slice R rn rc] 36)) wr.heap.size s pr (R, rn, rc)) := heap_alloc_new wr _
          have HST7 := Lib.hid (HSTQ.out.below hb7)
          have HW7 := Lib.hid (HWQ.out.trans (hb7.mono HWQ.out.size))
          clear hS hmem hrn hb7 hat5 HSTQ HWQ HQ hRg hsub
          go_upto_region 25 with (fail)
          obtain ⟨K, hK⟩ : ∃ K, K = wr.heap.size := ⟨_, rfl⟩
          rw [← hK] at HG7 ⊢
          obtain ⟨go, rfl⟩ : ∃ go : Nat, go = gk := ⟨_, rfl⟩
          generalize wr.alloc (.cells #[.string ⟨s.toArray⟩, .string ⟨pr.toArray⟩, .slice R rn rc] 36) = w7 at *
          clear hK d0 d1 d2
          obtain ⟨k0, k1, k2⟩ := HG7.out.c
          simp only at k2
          obtain ⟨g', o', rfl, hg', hc'⟩ := (ElemsAt.keep HA5.out HW7.out).str (by omega)
          have hck := hc' 0 (by omega)
          have hjl : 0 < S.length := by have := HRN.out; omega
          obtain ⟨x, hx⟩ : ∃ x, S[0]? = some x := ⟨_, List.getElem?_eq_getElem hjl⟩
          have hgd : S.getD 0 [] = x := by rw [List.getD_eq_getElem?_getD, hx]; rfl
          rw [hgd, Nat.add_zero] at hck
          have hxs := HSX.out x (List.mem_of_getElem? hx)
          obtain ⟨hd0, hs0⟩ := HFI.out x (List.mem_of_getElem? hx)
          have hl2 := HST7.out.look2 ⟨x.toArray⟩ (by simp [ByteArray.size]; omega) 0
          rw [show (⟨x.toArray⟩ : ByteArray).data.toList = x by simp, hd0, hs0] at hl2
          have hl3 : (Instr.lookup 34 (.map (some w5.heap.size)) (.string ⟨x.toArray⟩) true).run Tryz.prog w7 = .ok (.tuple #[.int .i64 (b : Int), .bool true]) w7 := hl2
          clear hc' hg' hgd hjl hx hl2 hd0 hs0 k0 k1
          go_upto_region 26 with (fail)
          clear hl3 hck
          go_wp2_with fail
          clear k2
          go_loopg [106] rn (fun gk v wr => ∃ (j : Nat), Hid (j + gk = rn) ∧ v = .int .i64 (j : Int) ∧ Hid (StAt wr w5.heap.size m st dom) ∧ Hid (Below w5.heap.size w5 wr))
          case atStart => exact ⟨0, show 0 + rn = rn by omega, rfl, HST7.out, HW7.out⟩
          case round =>
            obtain ⟨j, HJ, rfl, HSTJ, HWJ⟩ := hrel
            clear HST7 HW7 HG7
            have hjn : j ≤ rn := by have := HJ.out; omega
            by_cases hlt3 : j < rn
            · have HGJ := Lib.hid (show j + 1 + (gk - 1) = rn ∧ 0 < gk by have := HJ.out; omega)
              obtain ⟨g'', o'', he, hg'', hc''⟩ := (ElemsAt.keep HA5.out HWJ.out).str (by omega)
              simp only [Option.some.injEq, Addr.mk.injEq, and_true] at he
              obtain ⟨rfl, rfl⟩ := he
              have hck := hc'' j hlt3
              have hjl : j < S.length := by have := HRN.out; omega
              obtain ⟨y, hy⟩ : ∃ y, S[j]? = some y := ⟨_, List.getElem?_eq_getElem hjl⟩
              have hgd : S.getD j [] = y := by rw [List.getD_eq_getElem?_getD, hy]; rfl
              rw [hgd] at hck
              have hys := HSX.out y (List.mem_of_getElem? hy)
              obtain ⟨hd0, hs0⟩ := HFI.out y (List.mem_of_getElem? hy)
              have hl2 := HSTJ.out.look2 ⟨y.toArray⟩ (by simp [ByteArray.size]; omega) 0
              rw [show (⟨y.toArray⟩ : ByteArray).data.toList = y by simp, hd0, hs0] at hl2
              have hl3 : (Instr.lookup 34 (.map (some w5.heap.size)) (.string ⟨y.toArray⟩) true).run Tryz.prog wr = .ok (.tuple #[.int .i64 (b : Int), .bool true]) wr := hl2
              clear hc'' hg'' hgd hjl hy hl2 hd0 hs0
              go_wp2_with fail
              go_roundg (gk - 1)
              case measure => have := HGJ.out; omega
              case rel => exact ⟨j + 1, HGJ.out.1, by go_num, HSTJ.out, HWJ.out⟩
            · have hnj : ¬ (j : Int) < (rn : Int) := by omega
              go_wp2_with fail
              go_roundg (go - 1)
              case measure => have := HGK.out; omega
              case rel => exact ⟨q + 1, HGK.out.1, by go_num, HSTJ.out, HWJ.out⟩
        · have hnq : ¬ (q : Int) < (n2 : Int) := by omega
          have HBQ := Lib.hid (HB5.out.trans (HWQ.out.mono HB5.out.size))
          go_wp2_with fail
          refine (stands_any wr (HS.out.below HBQ.out)).mono ?_
          rintro e w9 ⟨rfl, hb9⟩
          have HB9 := Lib.hid (HBQ.out.trans (hb9.mono HBQ.out.size))
          clear hb9
          go_wp2_with fail
          go_ret
          exact ⟨rfl, HB9.out⟩
end Go.Proofs.YtombeeeiignckaaGreatDoor
