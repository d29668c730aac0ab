
/-
  A map that holds some of the items of a list, in whatever order they came.
  above, at a map that holds some of right items.
  Which items have come in a range over a map of items; those that are whole; how they are picked.
  together, at a map that holds some of right items: no error.
  slices.Equal at items that are the same.
  Store.with: the store's items and more of them, in a new map.
  Store.Add of one of right items.
  Items sorted by their ids: what insertion sort makes of those that were picked.
  A row of items into whose texts something is written.
  slices.SortFunc at items, by their ids, twelve of them at most.
  Store.complete: are all items above one there.
  Store.some, Items, Waiting.
  intake.New: an empty store.
  A store as it lies: its block, its map, and which items are in it.
  An order of numbers; items that are right are a right set.
  Store.Join: all items of another store.
  A law's stream, items and stores, as they lie together.
  StoresMeet returns true.
-/
import Derived.Test.YtccllmkijnmooaaGreatDoorChkMap
import Derived.Sort.KeysCollected
import Derived.Maps.RangeWalk
import Derived.Test.YtccllmkijnmooaaGreatDoorStrLib
import Derived.Shelf.SlicesQ.Equal
import Derived.Laws.StructEq
import Derived.Test.YtccllmkijnmooaaGreatDoorChkI
import Derived.Shelf.SlSortCmp.InsertionK
import Derived.Sort.LotA
import Derived.Test.YtccllmkijnmooaaGreatDoorItemId
import Derived.Test.YtccllmkijnmooaaGreatDoorOrder
import Derived.Test.YtccllmkijnmooaaGreatDoorRightItems
import Derived.Test.YtccllmkijnmooaaGreatDoorRange
import Derived.Test.YtccllmkijnmooaaGreatDoorStands
import Derived.Test.YtccllmkijnmooaaGreatDoorStreamNew

namespace Go.Proofs.YtccllmkijnmooaaGreatDoor
open Go.RowKit Go.Maps

/-- Is an id there, when p says which items are. -/
def hasS (l : List Itm) (p : Nat → Bool) (id : ByteArray) : Bool := match findI l id with
  | some k => p k
  | none => false
def valS (l : List Itm) (p : Nat → Bool) (id : ByteArray) : Value := match findI l id with
  | some k => if p k = true then (match l[k]? with | some x => x.v | none => itemZ) else itemZ
  | none => itemZ
theorem hasS_of {l : List Itm} {p : Nat → Bool} {id : ByteArray} {k : Nat} (h : findI l id = some k) : hasS l p id = p k := by
  unfold hasS; rw [h]
theorem hasS_none {l : List Itm} {p : Nat → Bool} {id : ByteArray} (h : findI l id = none) : hasS l p id = false := by
  unfold hasS; rw [h]
theorem valS_of {l : List Itm} {p : Nat → Bool} {id : ByteArray} {k : Nat} {x : Itm} (h : findI l id = some k) (hp : p k = true) (hx : l[k]? = some x) : valS l p id = x.v := by
  unfold valS; rw [h]; simp only [hp, if_true, hx]
theorem valS_not {l : List Itm} {p : Nat → Bool} {id : ByteArray} (h : hasS l p id = false) : valS l p id = itemZ := by
  unfold hasS at h
  unfold valS
  cases hf : findI l id with
  | none => rfl
  | some k =>
    rw [hf] at h
    simp only at h ⊢
    rw [h]
    simp
/-- Block M holds the items of l that p names; m stores were made. -/
structure SMapAt (w : World) (M m : Nat) (l : List Itm) (p : Nat → Bool) : Prop where
  ex : ∃ D : DataW Value, w.ownsMap Tryz.prog 9 heldE M m D ∧ (∀ id : List UInt8, D.atKey (.string id) (.held itemZ) = .held (valS l p ⟨id.toArray⟩)) ∧ ∀ id : List UInt8, has D (.string id) = hasS l p ⟨id.toArray⟩
theorem hasS_empty (l : List Itm) (id : ByteArray) : hasS l (fun _ => false) id = false := by
  unfold hasS; split <;> rfl
theorem SMapAt.start (w : World) (l : List Itm) : SMapAt (w.alloc (.map #[] 0)) w.heap.size 0 l (fun _ => false) :=
  ⟨⟨.map [], World.ownsMap_made w _ _ _, fun id => by rw [valS_not (hasS_empty l _)]; rfl, fun id => by rw [hasS_empty]; rfl⟩⟩
theorem SMapAt.kept {w w' : World} {M m : Nat} {l : List Itm} {p : Nat → Bool} {row : Option Nat} (h : SMapAt w M m l p) (hg : w.grownBy w' row) (hr : row ≠ some M) : SMapAt w' M m l p := by
  obtain ⟨D, h1, h2⟩ := h.ex
  exact ⟨⟨D, h1.kept hg hr.symm, h2⟩⟩
theorem SMapAt.below {w w' : World} {M m : Nat} {l : List Itm} {p : Nat → Bool} (h : SMapAt w M m l p) (hb : Below w.heap.size w w') : SMapAt w' M m l p := h.kept (below_grown hb none) (by simp)
theorem SMapAt.lt {w : World} {M m : Nat} {l : List Itm} {p : Nat → Bool} (h : SMapAt w M m l p) : M < w.heap.size := by
  obtain ⟨D, h1, _⟩ := h.ex
  exact h1.lt
theorem SMapAt.congr {w : World} {M m : Nat} {l : List Itm} {p q : Nat → Bool} (h : SMapAt w M m l p) (e : ∀ k, k < l.length → q k = p k) : SMapAt w M m l q := by
  have h1 : ∀ id, hasS l q id = hasS l p id := fun id => by
    cases hf : findI l id with
    | none => rw [hasS_none hf, hasS_none hf]
    | some k => rw [hasS_of hf, hasS_of hf, e k (findI_lt hf)]
  have h2 : ∀ id, valS l q id = valS l p id := fun id => by
    cases hf : findI l id with
    | none => rw [valS_not (hasS_none hf), valS_not (hasS_none hf)]
    | some k => unfold valS; rw [hf]; simp only [e k (findI_lt hf)]
  obtain ⟨D, a, b, c⟩ := h.ex
  exact ⟨⟨D, a, fun id => by rw [h2]; exact b id, fun id => by rw [h1]; exact c id⟩⟩
theorem SMapAt.look2 {w : World} {M m : Nat} {l : List Itm} {p : Nat → Bool} (h : SMapAt w M m l p) (id : ByteArray) (hid : id.size ≤ 1000000) (q : Nat) :
    (Instr.lookup 49 (.map (some M)) (.string id) true).run Tryz.prog (w.drewN q) = .ok (.tuple #[valS l p id, .bool (hasS l p id)]) (w.drewN q) := by
  obtain ⟨D, h1, h2, h3⟩ := h.ex
  have hd : (w.drewN q).ownsMap Tryz.prog 9 heldE M m D := h1
  obtain ⟨v, ps, hrun, hv⟩ := hd.look_ok keyS Tryz.underlying49 (z := itemZ) (by kernel_rfl) (zd := .held itemZ) (zp := []) rfl (keyS_mk id hid)
  rw [h2, mk_data] at hv
  rw [h3, mk_data] at hrun
  simp only [heldE, Option.some.injEq, Prod.mk.injEq, DataW.held.injEq] at hv
  rw [hv.1] at hrun
  exact hrun
theorem SMapAt.hit {w : World} {M m q : Nat} {l : List Itm} {p : Nat → Bool} {z : Itm} {id : ByteArray} (h : SMapAt w M m l p) (hid : id.size ≤ 1000000) (hf : findI l id = some q) (hp : p q = true) (hz : l[q]? = some z) :
    (Instr.lookup 49 (.map (some M)) (.string id) true).run Tryz.prog w = .ok (.tuple #[.agg #[.string z.id, .string z.cu, .int .i64 z.kind, .string z.name, .int .i64 z.at_, .string z.par, .string z.text], .bool true]) w := by
  have := h.look2 id hid 0
  rw [valS_of hf hp hz, hasS_of hf, hp] at this
  exact this
theorem SMapAt.miss {w : World} {M m : Nat} {l : List Itm} {p : Nat → Bool} {id : ByteArray} (h : SMapAt w M m l p) (hid : id.size ≤ 1000000) (hf : hasS l p id = false) :
    (Instr.lookup 49 (.map (some M)) (.string id) true).run Tryz.prog w = .ok (.tuple #[.agg #[.string ⟨#[]⟩, .string ⟨#[]⟩, .int .i64 0, .string ⟨#[]⟩, .int .i64 0, .string ⟨#[]⟩, .string ⟨#[]⟩], .bool false]) w := by
  have := h.look2 id hid 0
  rw [valS_not hf, hf] at this
  exact this
/-- How many items are there: no more than were stored. -/
theorem SMapAt.len {w : World} {M m : Nat} {l : List Itm} {p : Nat → Bool} (h : SMapAt w M m l p) : ∃ s, s ≤ m ∧ ∀ ty, (Builtin.len_ #[49] ty #[.map (some M)]).run Tryz.prog w = .ok (.int .i64 (s : Int)) w := by
  obtain ⟨D, h1, _, _⟩ := h.ex
  exact ⟨_, h1.size_le, fun ty => h1.len Tryz.underlying49 ty⟩
/-- Behind a further item. -/
theorem SMapAt.put {w w' : World} {M m k : Nat} {l : List Itm} {p : Nat → Bool} {x : Itm} {D : DataW Value} (hl : SetI l) (hx : l[k]? = some x) (h1 : w.ownsMap Tryz.prog 9 heldE M m D) (h2 : ∀ id : List UInt8, D.atKey (.string id) (.held itemZ) = .held (valS l p ⟨id.toArray⟩)) (h3 : ∀ id : List UInt8, has D (.string id) = hasS l p ⟨id.toArray⟩)
    (hm : w'.ownsMap Tryz.prog 9 heldE M (m + 1) (D.put (.string x.id.data.toList) (.held x.v))) : SMapAt w' M (m + 1) l (fun i => decide (i = k) || p i) := by
  have hself : findI l x.id = some k := by
    cases hf : findI l x.id with
    | none =>
      unfold findI at hf
      rw [List.findIdx?_eq_none_iff] at hf
      have := hf x (List.mem_of_getElem? hx)
      simp at this
    | some j =>
      obtain ⟨z, hz, hze, _⟩ := findI_some hf
      rw [hl.find hz hx hze]
  have hoth : ∀ id : List UInt8, id ≠ x.id.data.toList → ∀ j, findI l ⟨id.toArray⟩ = some j → j ≠ k := fun id hne j hf e => by
    subst e
    obtain ⟨z, hz, hze, _⟩ := findI_some hf
    rw [hx] at hz
    have e2 := Option.some.inj hz
    subst e2
    exact hne (by rw [hze])
  refine ⟨⟨_, hm, fun id => ?_, fun id => ?_⟩⟩
  · by_cases e : id = x.id.data.toList
    · subst e
      rw [atKey_put_same h1.isMap (str_key _), mk_data, valS_of hself (by simp) hx]
    · rw [atKey_put_other (str_neI e), h2]
      congr 1
      cases hf : findI l (⟨id.toArray⟩ : ByteArray) with
      | none => rw [valS_not (hasS_none hf), valS_not (hasS_none hf)]
      | some j =>
        have hj := hoth id e j hf
        unfold valS
        rw [hf]
        simp [hj]
  · by_cases e : id = x.id.data.toList
    · subst e
      rw [has_put_same h1.isMap (str_key _), mk_data, hasS_of hself]
      simp
    · rw [has_put_other (str_neI e), h3]
      cases hf : findI l (⟨id.toArray⟩ : ByteArray) with
      | none => rw [hasS_none hf, hasS_none hf]
      | some j =>
        have hj := hoth id e j hf
        rw [hasS_of hf, hasS_of hf]
        simp [hj]
end Go.Proofs.YtccllmkijnmooaaGreatDoor

namespace Go.Proofs.YtccllmkijnmooaaGreatDoor
open Go.RowKit Go.Maps

def AboveS (w : World) (c : Nat) (e : Ending) (w' : World) : Prop := ∃ m : Nat, e = .returned (.tuple #[.int .i64 (m : Int), .bool false]) ∧ m ≤ c ∧ Below w.heap.size w w'
set_option maxHeartbeats 3200000 in
set_option maxRecDepth 100000 in
theorem aboveS_any (M mm i : Nat) (p : Nat → Bool) (x : Itm) (l : List Itm) (w : World) (hM : SMapAt w M mm l p) (hl : SetI l) (hx : l[i]? = some x) :
    Calls Tryz.prog 33 #[.map (some M), x.v] w (AboveS w (chainI l (l.length + 1) i).length) := by
  have HL := Lib.hid hl
  have HX := Lib.hid hx
  have hfew := hl.few
  have HIL : Hid (i < l.length) := (List.getElem?_eq_some_iff.1 hx).1
  obtain ⟨w2, hw2⟩ : ∃ w2, w2 = (w.alloc (.cells #[.string x.id, .string x.cu, .int .i64 x.kind, .string x.name, .int .i64 x.at_, .string x.par, .string x.text] 35)).alloc (.cells #[.string x.id, .string x.cu, .int .i64 x.kind, .string x.name, .int .i64 x.at_, .string x.par, .string x.text] 35) := ⟨_, rfl⟩
  have hz1 : (w.alloc (.cells #[.string x.id, .string x.cu, .int .i64 x.kind, .string x.name, .int .i64 x.at_, .string x.par, .string x.text] 35)).heap.size = w.heap.size + 1 := by simp
  have hb1 : Below w.heap.size w (w.alloc (.cells #[.string x.id, .string x.cu, .int .i64 x.kind, .string x.name, .int .i64 x.at_, .string x.par, .string x.text] 35)) := (Below.refl _ _).alloc (Nat.le_refl _) _
  have HB2 : Hid (Below w.heap.size w w2) := by show Below _ _ _; rw [hw2]; exact hb1.alloc hb1.size _
  have HI0 : Hid (ItemAt w2 w.heap.size x) := by show ItemAt _ _ _; rw [hw2]; exact ItemAt.keep (item_new w x) ((Below.refl _ _).alloc (Nat.le_refl _) _)
  have HI1 : Hid (ItemAt w2 (w.heap.size + 1) x) := by
    show ItemAt _ _ _
    rw [hw2]
    have := item_new (w.alloc (.cells #[.string x.id, .string x.cu, .int .i64 x.kind, .string x.name, .int .i64 x.at_, .string x.par, .string x.text] 35)) x
    rw [hz1] at this
    exact this
  have HM2 : Hid (SMapAt w2 M mm l p) := hM.below HB2.out
  have HML := Lib.hid hM.lt
  unfold Itm.v
  clear hM hl hx hb1
  go_enter Tryz.func33, Tryz.ntmps33
  go_upto_region 2 with (fail)
  rw [← hw2]
  clear hw2 hz1
  obtain ⟨sz, hsz, hlen⟩ := HM2.out.len
  go_wp2_with fail
  clear hlen hsz
  go_loopg [4, 12] sz (fun gk v4 v wr => ∃ (m j : Nat) (y : Itm), Hid (m + gk = sz) ∧ v4 = .int .i64 (m : Int) ∧ v = .int .i64 (m : Int) ∧ Hid (upI l m i = some j) ∧ Hid (l[j]? = some y) ∧ Hid (ItemAt wr (w.heap.size + 1) y) ∧ Hid (ItemAt wr w.heap.size x) ∧ Hid (SMapAt wr M mm l p) ∧ Hid (m ≤ (chainI l (l.length + 1) i).length) ∧ Hid (Below w.heap.size w wr))
  case atStart => exact ⟨0, i, x, show 0 + sz = _ by omega, rfl, rfl, show _ = _ from rfl, HX.out, HI1.out, HI0.out, HM2.out, Nat.zero_le _, HB2.out⟩
  case round =>
    obtain ⟨m, j, y, HK, rfl, rfl, HU, HY, HIY, HI0, HM, HC, HB⟩ := hrel
    have hml : m ≤ sz := by have := HK.out; omega
    have hcs := chain_short HL.out.ok.tree.loop i
    have hc4 := HL.out.ok.tree.deep i HIL.out
    have hm4 : m ≤ 4 := Nat.le_trans HC.out hc4
    by_cases hlt : m < sz
    · have HGK := Lib.hid (show m + 1 + (gk - 1) = sz ∧ 0 < gk by have := HK.out; omega)
      have hmem := List.mem_of_getElem? HY.out
      have hps := ((HL.out.ok.each y hmem).small).2.2.2.1
      obtain ⟨c0, c1, c2, c3, c4, c5, c6⟩ := HIY.out.c
      cases hmiss : hasS l p y.par with
      | false =>
        have HF : Hid (AboveS w (chainI l (l.length + 1) i).length (.returned (.tuple #[.int .i64 (m : Int), .bool false])) (wr.alloc (.cells #[.string ⟨#[]⟩, .string ⟨#[]⟩, .int .i64 0, .string ⟨#[]⟩, .int .i64 0, .string ⟨#[]⟩, .string ⟨#[]⟩] 35))) := ⟨m, rfl, HC.out, HB.out.alloc HB.out.size _⟩
        have hlk := HM.out.miss hps hmiss
        clear hmiss hmem hps HK hcs hc4
        go_wp2_with fail
        go_ret2
        exact HF.out
      | true =>
        have hp : ¬ y.par.data.toList = [] := fun e => by
          rw [hasS_none (HL.out.findEmpty e)] at hmiss
          cases hmiss
        obtain ⟨q, hq⟩ : ∃ q, findI l y.par = some q := by
          cases hf : findI l y.par with
          | none => rw [hasS_none hf] at hmiss; cases hmiss
          | some q => exact ⟨q, rfl⟩
        have hpq : p q = true := by rw [hasS_of hq] at hmiss; exact hmiss
        obtain ⟨z, hz, hze, _⟩ := findI_some hq
        have HUN : Hid (upI l (m + 1) i = some q) := by show _ = _; rw [upI, HU.out]; show parI l j = some q; rw [parI_of HY.out hp, hq]
        have HZ := Lib.hid hz
        have HNE : Hid (z.id ≠ x.id) := fun e => by
          have hqi := HL.out.find hz HX.out e
          subst hqi
          refine HL.out.ok.tree.loop q HIL.out ?_
          have hmc := HC.out
          have := chain_get (l := l) (l.length + 1) m q (by omega)
          rw [HUN.out] at this
          exact List.mem_of_getElem? this
        have HC1 : Hid (m + 1 ≤ (chainI l (l.length + 1) i).length) := by
          have hmc := HC.out
          exact chain_ge (f := l.length + 1) HUN.out (by omega)
        have hlk := HM.out.hit hps hq hpq hz
        obtain ⟨q1, q2, q3⟩ := par_fullL hp
        have e0 : (z.id.toList == x.id.toList) = false := by rw [bytes_eq]; exact decide_eq_false HNE.out
        have hb1 : Below wr.heap.size wr (wr.alloc (.cells #[.string z.id, .string z.cu, .int .i64 z.kind, .string z.name, .int .i64 z.at_, .string z.par, .string z.text] 35)) := (Below.refl _ _).alloc (Nat.le_refl _) _
        have HIZ : Hid (ItemAt (wr.alloc (.cells #[.string z.id, .string z.cu, .int .i64 z.kind, .string z.name, .int .i64 z.at_, .string z.par, .string z.text] 35)) wr.heap.size z) := item_new wr z
        have HIY1 := Lib.hid (HIY.out.keep hb1)
        have HI01 := Lib.hid (HI0.out.keep hb1)
        have HM1 := Lib.hid (HM.out.below hb1)
        have HB1 := Lib.hid (HB.out.trans (hb1.mono HB.out.size))
        have HPZ : Hid (w.heap.size + 1 < wr.heap.size) := HIY.out.lt
        clear hp hmem hps HK hq hz hze hb1 hmiss hpq hcs hc4
        go_upto_region 5 with (fail)
        obtain ⟨Q, hQ⟩ : ∃ Q, Q = wr.heap.size := ⟨_, rfl⟩
        rw [← hQ] at HIZ HPZ ⊢
        generalize wr.alloc (.cells #[.string z.id, .string z.cu, .int .i64 z.kind, .string z.name, .int .i64 z.at_, .string z.par, .string z.text] 35) = w1 at *
        clear hQ hlk c0 c1 c2 c3 c4 c5 c6 HIY HI0 HM HB
        obtain ⟨c0, c1, c2, c3, c4, c5, c6⟩ := HIY1.out.c
        obtain ⟨d0, d1, d2, d3, d4, d5, d6⟩ := HIZ.out.c
        have x0 := HI01.out.c.1
        have ff := HIY1.out.fr
        have f0 := ff 0; have f1 := ff 1; have f2 := ff 2; have f3 := ff 3; have f4 := ff 4; have f5 := ff 5; have f6 := ff 6
        clear ff
        have HS1 := Lib.hid (ItemAt.setAll (z := z) HIY1.out)
        have HG1 := Lib.hid (grown_setAll w1 (w.heap.size + 1) z)
        go_wp2_with fail
        have HI03 := Lib.hid (ItemAt.row_ HI01.out HG1.out (by omega))
        have HM3 := Lib.hid (HM1.out.kept HG1.out (fun e => by have := Option.some.inj e; have := HML.out; omega))
        have HB3 : Hid (Below w.heap.size w _) := HB1.out.grown HG1.out HB1.out.size (fun i e => by have := Option.some.inj e; omega)
        go_roundg (gk - 1)
        case measure => exact Nat.sub_lt HGK.out.2 Nat.one_pos
        case rel => exact ⟨m + 1, q, z, HGK.out.1, by go_num, by go_num, HUN.out, HZ.out, HS1.out, HI03.out, HM3.out, HC1.out, HB3.out⟩
    · have hnk : ¬ (m : Int) < (sz : Int) := by omega
      have HF : Hid (AboveS w (chainI l (l.length + 1) i).length (.returned (.tuple #[.int .i64 (m : Int), .bool false])) wr) := ⟨m, rfl, HC.out, HB.out⟩
      clear hcs hc4
      go_wp2_with fail
      go_ret2
      exact HF.out
end Go.Proofs.YtccllmkijnmooaaGreatDoor

namespace Go.Proofs.YtccllmkijnmooaaGreatDoor
open Go.RowKit Go.Maps

instance : Inhabited Itm := ⟨⟨⟨#[]⟩, ⟨#[]⟩, 0, ⟨#[]⟩, 0, ⟨#[]⟩, ⟨#[]⟩⟩⟩
theorem SetI.self {l : List Itm} (hl : SetI l) {k : Nat} {x : Itm} (hx : l[k]? = some x) : findI l x.id = some k := by
  cases hf : findI l x.id with
  | none => exact absurd rfl (findI_none hf x (List.mem_of_getElem? hx))
  | some j =>
    obtain ⟨z, hz, hze, _⟩ := findI_some hf
    rw [hl.find hz hx hze]
theorem invK_strS : ∀ key kl, keyOf Tryz.prog 9 key = some kl → ∃ x : List UInt8, key = .string (bag x) := fun key kl h => by
  obtain ⟨x, hx, _⟩ := Maps.keyOf_str Tryz.underlying9 h
  exact ⟨x, hx⟩
theorem key_bagS {x : List UInt8} {kl : Lit} (h : keyOf Tryz.prog 9 (.string (bag x)) = some kl) : kl = .string x := by
  obtain ⟨y, hy, hk, _⟩ := Maps.keyOf_str Tryz.underlying9 h
  have : bag x = bag y := by simpa [encStr, bag] using hy
  rw [hk, bag_inj.1 this]
theorem sameS (x y : List UInt8) : (Lit.string x).sameKey (.string y) = decide (x = y) := by simp [Lit.sameKey, Bool.beq_eq_decide_eq]

def litI (l : List Itm) (k : Nat) : Lit := match l[k]? with
  | some x => .string x.id.data.toList
  | none => .string []
theorem litI_of {l : List Itm} {k : Nat} {x : Itm} (h : l[k]? = some x) : litI l k = .string x.id.data.toList := by unfold litI; rw [h]
/-- The items of a map that have come. -/
def comeS (l : List Itm) (p : Nat → Bool) (left : Lit → Bool) : Nat → Bool := fun k => p k && !left (litI l k)
/-- A key of the map is an item's. -/
theorem key_item {l : List Itm} {p : Nat → Bool} {x : List UInt8} (h : hasS l p ⟨x.toArray⟩ = true) : ∃ k z, l[k]? = some z ∧ p k = true ∧ z.id = ⟨x.toArray⟩ ∧ findI l ⟨x.toArray⟩ = some k := by
  cases hf : findI l (⟨x.toArray⟩ : ByteArray) with
  | none => rw [hasS_none hf] at h; cases h
  | some k =>
    rw [hasS_of hf] at h
    obtain ⟨z, hz, hze, _⟩ := findI_some hf
    exact ⟨k, z, hz, h, hze, rfl⟩
theorem comeS_start {l : List Itm} (hl : SetI l) {p : Nat → Bool} {D : DataW Value} (h3 : ∀ id : List UInt8, has D (.string id) = hasS l p ⟨id.toArray⟩) (k : Nat) (hk : k < l.length) : comeS l p (has D) k = false := by
  unfold comeS
  obtain ⟨x, hx⟩ : ∃ x, l[k]? = some x := ⟨_, List.getElem?_eq_getElem hk⟩
  rw [litI_of hx, h3, mk_data, hasS_of (hl.self hx)]
  cases p k <;> rfl
theorem comeS_end {l : List Itm} {p : Nat → Bool} {left : Lit → Bool} (h : ∀ k, left k = false) : comeS l p left = p := by
  funext k
  unfold comeS
  rw [h]
  simp
theorem comeS_step {l : List Itm} (hl : SetI l) {p : Nat → Bool} {left : Lit → Bool} {j : Nat} {z : Itm} {x : List UInt8} (hz : l[j]? = some z) (hp : p j = true) (hx : z.id = ⟨x.toArray⟩) (k : Nat) (hk : k < l.length) : comeS l p (fun y => left y && !y.sameKey (.string x)) k = (decide (k = j) || comeS l p left k) := by
  unfold comeS
  obtain ⟨y, hy⟩ : ∃ y, l[k]? = some y := ⟨_, List.getElem?_eq_getElem hk⟩
  rw [litI_of hy]
  show (p k && !(left (Lit.string y.id.data.toList) && !(Lit.string y.id.data.toList).sameKey (Lit.string x))) = _
  rw [sameS]
  by_cases e : k = j
  · subst e
    rw [hz] at hy
    have e2 := Option.some.inj hy
    subst e2
    have e3 : z.id.data.toList = x := by rw [hx]
    simp [e3, hp]
  · have e3 : ¬ y.id.data.toList = x := fun h => e (hl.find hy hz (by rw [hx, ← h]))
    simp [e, e3]
theorem comeS_old {l : List Itm} {p : Nat → Bool} {left : Lit → Bool} {j : Nat} {z : Itm} {x : List UInt8} (hz : l[j]? = some z) (hx : z.id = ⟨x.toArray⟩) (hlk : left (.string x) = true) : comeS l p left j = false := by
  unfold comeS
  rw [litI_of hz, hx]
  have : (⟨x.toArray⟩ : ByteArray).data.toList = x := rfl
  rw [this, hlk]
  simp
/-- More items. -/
def addS (p : Nat → Bool) (ks : List Nat) : Nat → Bool := fun i => p i || decide (i ∈ ks)
theorem addS_nil (p : Nat → Bool) : addS p [] = p := by funext i; simp [addS]
theorem addS_snoc (p : Nat → Bool) (ks : List Nat) (k : Nat) : addS p (ks ++ [k]) = fun i => decide (i = k) || addS p ks i := by
  funext i
  simp only [addS, List.mem_append, List.mem_singleton, Bool.decide_or]
  cases p i <;> cases decide (i ∈ ks) <;> cases decide (i = k) <;> rfl
theorem addS_in {p : Nat → Bool} {ks : List Nat} {k : Nat} (h : addS p ks k = true) : addS p (ks ++ [k]) = addS p ks := by
  rw [addS_snoc]
  funext i
  by_cases e : i = k
  · rw [e, h]; simp
  · simp [e]
/-- All items above one are there. -/
def wholeS (l : List Itm) (p : Nat → Bool) (i : Nat) : Bool := (chainI l (l.length + 1) i).all p
theorem wholeS_all {l : List Itm} {p : Nat → Bool} (h : ∀ k, k < l.length → p k = true) (i : Nat) : wholeS l p i = true := by
  unfold wholeS
  rw [List.all_eq_true]
  intro k hk
  exact h k (chainI_lt l _ i k hk)
theorem wholeS_end {l : List Itm} {p : Nat → Bool} {i m : Nat} (hm : (chainI l (l.length + 1) i).length = m) (h : ∀ j q, j < m → upI l (j + 1) i = some q → p q = true) : wholeS l p i = true := by
  unfold wholeS
  rw [List.all_eq_true]
  intro k hk
  obtain ⟨j, hj, e⟩ := List.getElem_of_mem hk
  have h1 := chainI_len l (l.length + 1) i
  have h2 := chain_get (l := l) (l.length + 1) j i (by omega)
  rw [List.getElem?_eq_getElem hj, e] at h2
  exact h j k (by omega) h2.symm
theorem wholeS_not {l : List Itm} {p : Nat → Bool} {i m q : Nat} (hm : m < l.length + 1) (hu : upI l (m + 1) i = some q) (hp : p q = false) : wholeS l p i = false := by
  unfold wholeS
  rw [List.all_eq_false]
  refine ⟨q, ?_, by simp [hp]⟩
  have h2 := chain_get (l := l) (l.length + 1) m i hm
  rw [hu] at h2
  exact List.mem_of_getElem? h2
/-- The items whose places q names, in their order. -/
def pickS (l : List Itm) (q : Nat → Bool) : List Itm := ((List.range l.length).filter q).filterMap fun k => l[k]?
theorem pickS_all {l : List Itm} {q : Nat → Bool} (h : ∀ k, k < l.length → q k = true) : pickS l q = l := by
  unfold pickS
  have e : (List.range l.length).filter q = List.range l.length := List.filter_eq_self.2 (fun k hk => h k (List.mem_range.1 hk))
  rw [e]
  refine List.ext_getElem? fun k => ?_
  have e2 : ((List.range l.length).filterMap fun k => l[k]?) = l := by
    have : ∀ n, n ≤ l.length → ((List.range n).filterMap fun k => l[k]?) = l.take n := by
      intro n
      induction n with
      | zero => intro _; simp
      | succ n ih =>
        intro hn
        rw [List.range_succ, List.filterMap_append, ih (by omega), List.take_add_one]
        have h1 : l[n]? = some l[n] := List.getElem?_eq_getElem (by omega)
        simp [h1]
    rw [this _ (Nat.le_refl _), List.take_length]
  rw [e2]
theorem pickS_congr {l : List Itm} {q q' : Nat → Bool} (h : ∀ k, k < l.length → q k = q' k) : pickS l q = pickS l q' := by
  unfold pickS
  congr 1
  exact List.filter_congr (fun k hk => h k (List.mem_range.1 hk))
theorem pickS_mem {l : List Itm} {q : Nat → Bool} {x : Itm} (h : x ∈ pickS l q) : x ∈ l := by
  unfold pickS at h
  obtain ⟨k, _, hk⟩ := List.mem_filterMap.1 h
  exact List.mem_of_getElem? hk
theorem pickS_len (l : List Itm) (q : Nat → Bool) : (pickS l q).length ≤ l.length := by
  unfold pickS
  have h1 := List.length_filterMap_le (fun k => l[k]?) ((List.range l.length).filter q)
  have h2 := List.length_filter_le q (List.range l.length)
  rw [List.length_range] at h2
  omega
/-- What was taken, in whatever order: the items of ks. -/
def itemsOf (l : List Itm) (ks : List Nat) : List Itm := ks.filterMap fun k => l[k]?
theorem itemsOf_snoc {l : List Itm} {ks : List Nat} {k : Nat} {x : Itm} (hx : l[k]? = some x) : itemsOf l (ks ++ [k]) = itemsOf l ks ++ [x] := by
  unfold itemsOf
  rw [List.filterMap_append]
  simp [hx]
/-- A range has taken these. -/
structure TakenS (l : List Itm) (q : Nat → Bool) (ks : List Nat) : Prop where
  nodup : ks.Nodup
  mem : ∀ k, k ∈ ks ↔ k < l.length ∧ q k = true
theorem TakenS.nil {l : List Itm} {q : Nat → Bool} (h : ∀ k, k < l.length → q k = false) : TakenS l q [] :=
  ⟨List.Pairwise.nil, fun k => ⟨fun hk => (by cases hk), fun ⟨h1, h2⟩ => by rw [h k h1] at h2; cases h2⟩⟩
theorem TakenS.skip {l : List Itm} {q q' : Nat → Bool} {ks : List Nat} (h : TakenS l q ks) (e : ∀ k, k < l.length → q' k = q k) : TakenS l q' ks :=
  ⟨h.nodup, fun k => by
    rw [h.mem]
    constructor
    · rintro ⟨h1, h2⟩
      exact ⟨h1, by rw [e k h1]; exact h2⟩
    · rintro ⟨h1, h2⟩
      exact ⟨h1, by rw [← e k h1]; exact h2⟩⟩
theorem TakenS.snoc {l : List Itm} {q q' : Nat → Bool} {ks : List Nat} {j : Nat} (h : TakenS l q ks) (hj : j < l.length) (hq : q j = false) (e : ∀ k, k < l.length → q' k = (decide (k = j) || q k)) : TakenS l q' (ks ++ [j]) := by
  refine ⟨?_, fun k => ?_⟩
  · rw [List.nodup_append]
    refine ⟨h.nodup, by simp, fun a ha b hb => ?_⟩
    rw [List.mem_singleton] at hb
    subst hb
    intro e2
    subst e2
    have := ((h.mem a).1 ha).2
    rw [hq] at this
    cases this
  · rw [List.mem_append, List.mem_singleton, h.mem]
    constructor
    · rintro (⟨h1, h2⟩ | rfl)
      · exact ⟨h1, by rw [e k h1, h2]; simp⟩
      · exact ⟨hj, by rw [e k hj]; simp⟩
    · rintro ⟨h1, h2⟩
      rw [e k h1] at h2
      by_cases hk : k = j
      · exact .inr hk
      · simp [hk] at h2
        exact .inl ⟨h1, h2⟩
theorem TakenS.perm {l : List Itm} {q : Nat → Bool} {ks : List Nat} (h : TakenS l q ks) : (itemsOf l ks).Perm (pickS l q) := by
  have hp : ks.Perm ((List.range l.length).filter q) := by
    rw [List.perm_ext_iff_of_nodup h.nodup (List.nodup_range.filter _)]
    intro k
    rw [h.mem, List.mem_filter, List.mem_range]
  exact hp.filterMap _
theorem TakenS.len {l : List Itm} {q : Nat → Bool} {ks : List Nat} (h : TakenS l q ks) : (itemsOf l ks).length ≤ l.length := by
  rw [h.perm.length_eq]
  exact pickS_len l q
theorem owns_ne_range {α : Type} {E : Elem α} {w : World} {base M r n cnt : Nat} {v : Value} {l : List α} {D : DataW Value} {left : Lit → Bool} (h : Owns E w base v l) (hr : w.ranges Tryz.prog 9 heldE M r n D left cnt) : v.ownBlock ≠ some M ∧ v.ownBlock ≠ some r := by
  obtain ⟨es, clock, since, seen, c0, hb, _, _, _, hi, _⟩ := hr
  rcases h.2 with ⟨rfl, _⟩ | ⟨g, cap, cur, rfl, _, hh, _⟩
  · exact ⟨fun e => (by cases e), fun e => (by cases e)⟩
  · refine ⟨fun e => ?_, fun e => ?_⟩
    · have e2 : g = M := Option.some.inj e
      subst e2
      rw [hb] at hh
      cases hh
    · have e2 : g = r := Option.some.inj e
      subst e2
      rw [hi] at hh
      cases hh
/-- A store: the block that names its map. -/
def StoB (w : World) (g M : Nat) : Prop := w.heap[g]? = some (.cells #[.map (some M)] 51 (0, 0))
theorem StoB.lt {w : World} {g M : Nat} (h : StoB w g M) : g < w.heap.size := (Array.getElem?_eq_some_iff.1 h).1
theorem StoB.c {w : World} {g M : Nat} (h : StoB w g M) : w.cell? ⟨g, 0, none⟩ = some (.map (some M)) := by
  rw [cell_of_row w g _ _ _ _ h]; rfl
theorem StoB.f {w : World} {g M : Nat} (h : StoB w g M) (j : Nat) : w.frozen? ⟨g, j, none⟩ = false := by
  unfold StoB at h
  simp [World.frozen?, h]
theorem StoB.keep {w w' : World} {g M : Nat} (h : StoB w g M) (hb : Below w.heap.size w w') : StoB w' g M := (hb.block g h.lt).trans h
theorem StoB.kept {w w' : World} {g M : Nat} {row : Option Nat} (h : StoB w g M) (hg : w.grownBy w' row) (hr : row ≠ some g) : StoB w' g M := (hg.block g h.lt (fun e => hr e.symm)).trans h
theorem StoB.set {w : World} {g M : Nat} (h : StoB w g M) (M' : Nat) : StoB (w.setCell ⟨g, 0, none⟩ (.map (some M'))) g M' := by
  unfold StoB at *; simp [World.setCell, Array.getElem?_modify, h]
theorem StoB.ne_map {w : World} {g M M' m : Nat} {l : List Itm} {p : Nat → Bool} (h : StoB w g M) (hm : SMapAt w M' m l p) : g ≠ M' := by
  obtain ⟨D, ⟨es, cl, hb, _⟩, _⟩ := hm.ex
  intro e
  subst e
  unfold StoB at h
  rw [hb] at h
  cases h
end Go.Proofs.YtccllmkijnmooaaGreatDoor

namespace Go.Proofs.YtccllmkijnmooaaGreatDoor
open Go.RowKit Go.Maps
attribute [local go_sem ↓] Go.wp_at_zero Go.wp_at_succ

set_option maxHeartbeats 3200000 in
set_option maxRecDepth 100000 in
theorem together_any (M mm : Nat) (p : Nat → Bool) (l : List Itm) (w : World) (hM : SMapAt w M mm l p) (hl : SetI l) :
    Calls Tryz.prog 52 #[.map (some M)] w (OkPost w) := by
  obtain ⟨D, h1, h2, h3⟩ := hM.ex
  have HL := Lib.hid hl
  have H2 := Lib.hid h2
  have H3 := Lib.hid h3
  have HOWN := Lib.hid h1
  have HM := Lib.hid hM
  have HML := Lib.hid hM.lt
  have HNEXT : Hid (∀ (x : List UInt8) (ya : DataW Value) (cb : Value), has D (.string x) = true → (∀ zd, D.atKey (.string x) zd = ya) → ya = .held cb → ∃ k z, l[k]? = some z ∧ p k = true ∧ z.id = ⟨x.toArray⟩ ∧ cb = z.v) := by
    show ∀ (x : List UInt8) (ya : DataW Value) (cb : Value), has D (.string x) = true → (∀ zd, D.atKey (.string x) zd = ya) → ya = .held cb → ∃ k z, l[k]? = some z ∧ p k = true ∧ z.id = ⟨x.toArray⟩ ∧ cb = z.v
    intro x ya cb hh ha hy
    rw [H3.out] at hh
    obtain ⟨k, z, hz, hp, hx, hf⟩ := key_item hh
    have e := ha (.held itemZ)
    rw [H2.out, valS_of hf hp hz, hy] at e
    simp only [DataW.held.injEq] at e
    exact ⟨k, z, hz, hp, hx, e.symm⟩
  clear hM hl h1 h2 h3
  go_enter Tryz.func52, Tryz.ntmps52
  go_wp2_with (at_range; refine wpList_range_own _ rfl _ 49 rfl 9 35 keyS Tryz.underlying49 _ M mm _ rfl HOWN.out ?_; intro w6 hrg6 hg6 hs6)
  go_frame
  have HB6 : Hid (Below w.heap.size w w6) := (Below.refl _ _).grown hg6 (Nat.le_refl _) (fun i hi => by cases hi)
  have HRG6 := Lib.hid hrg6
  obtain ⟨R, hR⟩ : ∃ R, R = w.heap.size := ⟨_, rfl⟩
  rw [← hR] at HRG6 ⊢
  have HRB : Hid (w.heap.size ≤ R) := by show _ ≤ _; rw [hR]; exact Nat.le_refl _
  clear hrg6 hg6 hs6 hR
  go_loopg [5] (Maps.size D) (fun gk _ wr => ∃ left : Lit → Bool, Hid (wr.ranges Tryz.prog 9 heldE M R mm D left gk) ∧ Hid (Below w.heap.size w wr))
  case atStart => exact ⟨_, HRG6.out, HB6.out⟩
  case round =>
    obtain ⟨left, HRG, HB⟩ := hrel
    clear HRG6 HB6
    go_wp2_with (at_next; refine wpList_next_ranges _ rfl _ rfl 9 keyS _ (fun x : List UInt8 => Value.string (bag x)) (fun v : Value => v) invK_strS (fun v _ _ => ⟨v, rfl⟩) M R mm _ _ _ rfl HRG.out (Hid.out ?_) (Hid.out ?_))
    · refine Lib.hid ?_
      intro hc0 hl0
      have HBD := Lib.hid HB.out
      clear hl0 hc0 HRG HB
      obtain ⟨wd, rfl⟩ : ∃ wd : World, wd = wr := ⟨_, rfl⟩
      obtain ⟨go, rfl⟩ : ∃ go : Nat, go = gk := ⟨_, rfl⟩
      have HOD := Lib.hid (HOWN.out.kept (below_grown HBD.out none) (by simp))
      have HRD : Hid (w.heap.size ≤ wd.heap.size) := HBD.out.size
      go_wp2_with (at_range; refine wpList_range_own _ rfl _ 49 rfl 9 35 keyS Tryz.underlying49 _ M mm _ rfl HOD.out ?_; intro w6 hrg6 hg6 hs6)
      go_frame
      have HB6 : Hid (Below w.heap.size w w6) := HBD.out.grown hg6 HBD.out.size (fun i hi => by cases hi)
      have HRG6 := Lib.hid hrg6
      clear HRB
      obtain ⟨R, hR⟩ : ∃ R, R = wd.heap.size := ⟨_, rfl⟩
      rw [← hR] at HRG6 HRD ⊢
      have HRB : Hid (w.heap.size ≤ R) := HRD.out
      clear hrg6 hg6 hs6 hR HRD HBD HOD
      go_loopg [7, 12] (Maps.size D) (fun gk v7 _ wr => ∃ left : Lit → Bool, v7 = .int .i64 0 ∧ Hid (wr.ranges Tryz.prog 9 heldE M R mm D left gk) ∧ Hid (Below w.heap.size w wr))
      case atStart => exact ⟨_, rfl, HRG6.out, HB6.out⟩
      case round =>
        obtain ⟨left, rfl, HRG, HB⟩ := hrel
        clear HRG6 HB6
        go_wp2_with (at_next; refine wpList_next_ranges _ rfl _ rfl 9 keyS _ (fun x : List UInt8 => Value.string (bag x)) (fun v : Value => v) invK_strS (fun v _ _ => ⟨v, rfl⟩) M R mm _ _ _ rfl HRG.out (Hid.out ?_) (Hid.out ?_))
        · refine Lib.hid ?_
          intro hc0 hl0
          clear hl0 hc0 HRG
          go_wp2_with fail
          go_ret
          exact ⟨rfl, HB.out⟩
        · refine Lib.hid ?_
          intro x cb kl ya yb w7 cnt7 hkey hlk hRv hat hrg7 hlt7 hg7 hs7 hen
          obtain rfl := key_bagS hkey
          have hya : ya = .held cb := by
            simp only [heldE, Option.some.injEq, Prod.mk.injEq] at hRv
            exact hRv.1.symm
          obtain ⟨k, z, hz, hpk, hzx, hcb⟩ := HNEXT.out x ya cb (has_true_of_atKey hat) hat hya
          subst hcb
          have HZ := Lib.hid hz
          have HB7 : Hid (Below w.heap.size w w7) := HB.out.grown hg7 HB.out.size (fun i hi => by cases hi; exact HRB.out)
          have HRG8 := Lib.hid (hrg7.alloc (.cells #[.string z.id, .string z.cu, .int .i64 z.kind, .string z.name, .int .i64 z.at_, .string z.par, .string z.text] 35))
          have HI8 : Hid (ItemAt (w7.alloc (.cells #[.string z.id, .string z.cu, .int .i64 z.kind, .string z.name, .int .i64 z.at_, .string z.par, .string z.text] 35)) w7.heap.size z) := item_new w7 z
          have HB8 : Hid (Below w.heap.size w (w7.alloc (.cells #[.string z.id, .string z.cu, .int .i64 z.kind, .string z.name, .int .i64 z.at_, .string z.par, .string z.text] 35))) := HB7.out.alloc HB7.out.size _
          have HM8 := Lib.hid (HM.out.below HB8.out)
          unfold Itm.v at hen
          clear hkey hlk hRv hat hrg7 hg7 hs7 hya hz hpk hzx HRG HB HB7
          go_upto_region 11 with (fail)
          obtain ⟨P, hP⟩ : ∃ P, P = w7.heap.size := ⟨_, rfl⟩
          rw [← hP] at HI8 ⊢
          generalize w7.alloc (.cells #[.string z.id, .string z.cu, .int .i64 z.kind, .string z.name, .int .i64 z.at_, .string z.par, .string z.text] 35) = w8 at *
          clear hP hen
          obtain ⟨c0, c1, c2, c3, c4, c5, c6⟩ := HI8.out.c
          have hmem := List.mem_of_getElem? HZ.out
          have hps := ((HL.out.ok.each z hmem).small).2.2.2.1
          have hkl := (List.getElem?_eq_some_iff.1 HZ.out).1
          have HDEEP : Hid ((chainI l (l.length + 1) k).length ≤ 4) := HL.out.ok.tree.deep k hkl
          cases hmiss : hasS l p z.par with
          | false =>
            have hlk := HM8.out.miss hps hmiss
            have hb9 : Below w8.heap.size w8 (w8.alloc (.cells #[.string ⟨#[]⟩, .string ⟨#[]⟩, .int .i64 0, .string ⟨#[]⟩, .int .i64 0, .string ⟨#[]⟩, .string ⟨#[]⟩] 35)) := (Below.refl _ _).alloc (Nat.le_refl _) _
            have HI9 := Lib.hid (HI8.out.keep hb9)
            have HM9 := Lib.hid (HM8.out.below hb9)
            have HB9 := Lib.hid (HB8.out.trans (hb9.mono HB8.out.size))
            have HRG9 := Lib.hid (HRG8.out.alloc (.cells #[.string ⟨#[]⟩, .string ⟨#[]⟩, .int .i64 0, .string ⟨#[]⟩, .int .i64 0, .string ⟨#[]⟩, .string ⟨#[]⟩] 35))
            have HPQ : Hid (P < w8.heap.size) := HI8.out.lt
            clear hmem hps hkl hmiss hb9 HB8 HRG8 HM8
            go_upto_region 12 with (fail)
            obtain ⟨Q, hQ⟩ : ∃ Q, Q = w8.heap.size := ⟨_, rfl⟩
            rw [← hQ] at HPQ ⊢
            generalize w8.alloc (.cells #[.string ⟨#[]⟩, .string ⟨#[]⟩, .int .i64 0, .string ⟨#[]⟩, .int .i64 0, .string ⟨#[]⟩, .string ⟨#[]⟩] 35) = w9 at *
            clear hQ hlk c0 c1 c2 c3 c4 c5 c6 HI8
            obtain ⟨c0, c1, c2, c3, c4, c5, c6⟩ := HI9.out.c
            have HAB := aboveS_any M mm k p z l w9 HM9.out HL.out HZ.out
            unfold Itm.v at HAB
            have HAB := Lib.hid HAB
            by_cases hp : z.par.data.toList = []
            · obtain ⟨q1, q2, q3⟩ := par_emptyL hp
              clear hp
              go_upto_region 14 with (fail)
              clear q1 q2 q3
              go_wp2_with fail
              refine HAB.out.mono ?_
              rintro e w10 ⟨m, rfl, hm4, hb10⟩
              have h4 : ¬ (4 : Int) < (m : Int) := by have := HDEEP.out; omega
              have HRG10 := Lib.hid (HRG9.out.kept (below_grown hb10 none) (by simp) (by simp))
              have HB10 := Lib.hid (HB9.out.trans (hb10.mono HB9.out.size))
              clear hm4 hb10 HAB
              go_wp2_with fail
              go_roundg cnt7
              case measure => exact hlt7
              case rel => exact ⟨_, rfl, HRG10.out, HB10.out⟩
            · obtain ⟨q1, q2, q3⟩ := par_fullL hp
              clear hp
              go_upto_region 14 with (fail)
              clear q1 q2 q3
              go_wp2_with fail
              refine HAB.out.mono ?_
              rintro e w10 ⟨m, rfl, hm4, hb10⟩
              have h4 : ¬ (4 : Int) < (m : Int) := by have := HDEEP.out; omega
              have HRG10 := Lib.hid (HRG9.out.kept (below_grown hb10 none) (by simp) (by simp))
              have HB10 := Lib.hid (HB9.out.trans (hb10.mono HB9.out.size))
              clear hm4 hb10 HAB
              go_wp2_with fail
              go_roundg cnt7
              case measure => exact hlt7
              case rel => exact ⟨_, rfl, HRG10.out, HB10.out⟩
          | true =>
            have hp : ¬ z.par.data.toList = [] := fun e => by
              rw [hasS_none (HL.out.findEmpty e)] at hmiss
              cases hmiss
            obtain ⟨q, hq⟩ : ∃ q, findI l z.par = some q := by
              cases hf : findI l z.par with
              | none => rw [hasS_none hf] at hmiss; cases hmiss
              | some q => exact ⟨q, rfl⟩
            have hpq : p q = true := by rw [hasS_of hq] at hmiss; exact hmiss
            obtain ⟨y, hy, hye, _⟩ := findI_some hq
            have hlk := HM8.out.hit hps hq hpq hy
            obtain ⟨y', hy', hkind⟩ := HL.out.ok.tree.kind k q hkl (by rw [parI_of HZ.out hp, hq])
            rw [hy] at hy'
            have e2 := Option.some.inj hy'
            subst e2
            obtain ⟨q1, q2, q3⟩ := par_fullL hp
            have hb9 : Below w8.heap.size w8 (w8.alloc (.cells #[.string y.id, .string y.cu, .int .i64 y.kind, .string y.name, .int .i64 y.at_, .string y.par, .string y.text] 35)) := (Below.refl _ _).alloc (Nat.le_refl _) _
            have HI9 := Lib.hid (HI8.out.keep hb9)
            have HY9 : Hid (ItemAt (w8.alloc (.cells #[.string y.id, .string y.cu, .int .i64 y.kind, .string y.name, .int .i64 y.at_, .string y.par, .string y.text] 35)) w8.heap.size y) := item_new w8 y
            have HM9 := Lib.hid (HM8.out.below hb9)
            have HB9 := Lib.hid (HB8.out.trans (hb9.mono HB8.out.size))
            have HRG9 := Lib.hid (HRG8.out.alloc (.cells #[.string y.id, .string y.cu, .int .i64 y.kind, .string y.name, .int .i64 y.at_, .string y.par, .string y.text] 35))
            have HPQ : Hid (P < w8.heap.size) := HI8.out.lt
            clear hmem hps hkl hmiss hb9 HB8 HRG8 HM8 hp hq hpq hy hye hy'
            go_upto_region 12 with (fail)
            obtain ⟨Q, hQ⟩ : ∃ Q, Q = w8.heap.size := ⟨_, rfl⟩
            rw [← hQ] at HPQ HY9 ⊢
            generalize w8.alloc (.cells #[.string y.id, .string y.cu, .int .i64 y.kind, .string y.name, .int .i64 y.at_, .string y.par, .string y.text] 35) = w9 at *
            clear hQ hlk c0 c1 c2 c3 c4 c5 c6 HI8
            obtain ⟨c0, c1, c2, c3, c4, c5, c6⟩ := HI9.out.c
            have d2 := HY9.out.c.2.2.1
            have HAB := aboveS_any M mm k p z l w9 HM9.out HL.out HZ.out
            unfold Itm.v at HAB
            have HAB := Lib.hid HAB
            rcases hkind with hkk | hkk
            · rw [hkk] at d2
              clear hkk
              go_upto_region 14 with (fail)
              clear q1 q2 q3 d2
              go_wp2_with fail
              refine HAB.out.mono ?_
              rintro e w10 ⟨m, rfl, hm4, hb10⟩
              have h4 : ¬ (4 : Int) < (m : Int) := by have := HDEEP.out; omega
              have HRG10 := Lib.hid (HRG9.out.kept (below_grown hb10 none) (by simp) (by simp))
              have HB10 := Lib.hid (HB9.out.trans (hb10.mono HB9.out.size))
              clear hm4 hb10 HAB
              go_wp2_with fail
              go_roundg cnt7
              case measure => exact hlt7
              case rel => exact ⟨_, rfl, HRG10.out, HB10.out⟩
            · rw [hkk] at d2
              clear hkk
              go_upto_region 14 with (fail)
              clear q1 q2 q3 d2
              go_wp2_with fail
              refine HAB.out.mono ?_
              rintro e w10 ⟨m, rfl, hm4, hb10⟩
              have h4 : ¬ (4 : Int) < (m : Int) := by have := HDEEP.out; omega
              have HRG10 := Lib.hid (HRG9.out.kept (below_grown hb10 none) (by simp) (by simp))
              have HB10 := Lib.hid (HB9.out.trans (hb10.mono HB9.out.size))
              clear hm4 hb10 HAB
              go_wp2_with fail
              go_roundg cnt7
              case measure => exact hlt7
              case rel => exact ⟨_, rfl, HRG10.out, HB10.out⟩
    · refine Lib.hid ?_
      intro x cb kl ya yb w7 cnt7 hkey hlk hRv hat hrg7 hlt7 hg7 hs7 hen
      obtain rfl := key_bagS hkey
      have hya : ya = .held cb := by
        simp only [heldE, Option.some.injEq, Prod.mk.injEq] at hRv
        exact hRv.1.symm
      obtain ⟨k, z, hz, hpk, hzx, hcb⟩ := HNEXT.out x ya cb (has_true_of_atKey hat) hat hya
      subst hcb
      have HZ := Lib.hid hz
      have HB7 : Hid (Below w.heap.size w w7) := HB.out.grown hg7 HB.out.size (fun i hi => by cases hi; exact HRB.out)
      have HRG8 := Lib.hid (hrg7.alloc (.cells #[.string z.id, .string z.cu, .int .i64 z.kind, .string z.name, .int .i64 z.at_, .string z.par, .string z.text] 35))
      have HI8 : Hid (ItemAt (w7.alloc (.cells #[.string z.id, .string z.cu, .int .i64 z.kind, .string z.name, .int .i64 z.at_, .string z.par, .string z.text] 35)) w7.heap.size z) := item_new w7 z
      have HB8 : Hid (Below w.heap.size w (w7.alloc (.cells #[.string z.id, .string z.cu, .int .i64 z.kind, .string z.name, .int .i64 z.at_, .string z.par, .string z.text] 35))) := HB7.out.alloc HB7.out.size _
      have HM8 := Lib.hid (HM.out.below HB8.out)
      unfold Itm.v at hen
      clear hkey hlk hRv hat hrg7 hg7 hs7 hya hz hpk hzx HRG HB HB7
      go_upto_region 4 with (fail)
      obtain ⟨P, hP⟩ : ∃ P, P = w7.heap.size := ⟨_, rfl⟩
      rw [← hP] at HI8 ⊢
      generalize w7.alloc (.cells #[.string z.id, .string z.cu, .int .i64 z.kind, .string z.name, .int .i64 z.at_, .string z.par, .string z.text] 35) = w8 at *
      clear hP hen
      obtain ⟨c0, c1, c2, c3, c4, c5, c6⟩ := HI8.out.c
      have HAB := aboveS_any M mm k p z l w8 HM8.out HL.out HZ.out
      unfold Itm.v at HAB
      have HAB := Lib.hid HAB
      go_wp2_with fail
      refine HAB.out.mono ?_
      rintro e w9 ⟨m, rfl, -, hb9⟩
      have HRG9 := Lib.hid (HRG8.out.kept (below_grown hb9 none) (by simp) (by simp))
      have HB9 := Lib.hid (HB8.out.trans (hb9.mono HB8.out.size))
      clear HAB hb9 HRG8 HB8
      go_wp2_with fail
      go_roundg cnt7
      case measure => exact hlt7
      case rel => exact ⟨_, HRG9.out, HB9.out⟩
end Go.Proofs.YtccllmkijnmooaaGreatDoor

namespace Go.Proofs.YtccllmkijnmooaaGreatDoor
open Go.RowKit Go.Maps Go.Shelf

instance : DecidableEq Itm := fun x y => by
  cases x; cases y
  simp only [Itm.mk.injEq]
  exact inferInstance
theorem neqI : NeqAt Tryz.prog 35 (fun x : Itm => .agg (Itm.cells x).toArray) (fun x y => decide (x = y)) := by
  refine ⟨fun x y w => ?_, GuardAt.agg _ (by kernel_rfl)⟩
  have u3 := Tryz.underlying3
  have a3 := Tryz.isAgg3
  have z3 := Tryz.sizeOf3
  have u9 := Tryz.underlying9
  have a9 := Tryz.isAgg9
  have z9 := Tryz.sizeOf9
  have hS : Tryz.prog.underlying 35 = some (.struct (Tryz.prog.fieldsOf 35)) := by kernel_rfl
  have hp : Tryz.prog.stoodInHeld 35 = false := by kernel_rfl
  obtain ⟨x1, x2, x3, x4, x5, x6, x7⟩ := x
  obtain ⟨y1, y2, y3, y4, y5, y6, y7⟩ := y
  have e : decide ((⟨x1, x2, x3, x4, x5, x6, x7⟩ : Itm) = ⟨y1, y2, y3, y4, y5, y6, y7⟩) = (decide (x1 = y1) && (decide (x2 = y2) && (decide (x3 = y3) && (decide (x4 = y4) && (decide (x5 = y5) && (decide (x6 = y6) && decide (x7 = y7))))))) := by
    simp only [Itm.mk.injEq, Bool.decide_and]
  simp only [Itm.cells]
  rw [e]
  rw [run_neq_struct, show (10000 : Nat) = 9998 + 1 + 1 from rfl, run_equalIn_agg w (9998 + 1) 35 _ _ hS hp]
  simp only [Program.fieldsOf, Tryz.underlying35]
  go_simp
  have hb : ∀ x y : ByteArray, (x.toList = y.toList) = (x = y) := fun x y => propext ⟨fun h => by
    have h1 := bytes_eq x y
    rw [h] at h1
    simpa using h1.symm, fun h => by rw [h]⟩
  by_cases h1 : x1 = y1
  · by_cases h2 : x2 = y2
    · by_cases h3 : x3 = y3
      · by_cases h4 : x4 = y4
        · by_cases h5 : x5 = y5
          · by_cases h6 : x6 = y6
            · by_cases h7 : x7 = y7 <;> simp [hb, h1, h2, h3, h4, h5, h6, h7]
            · simp [hb, h1, h2, h3, h4, h5, h6]
          · simp [h1, h2, h3, h4, h5]
        · simp [hb, h1, h2, h3, h4]
      · simp [h1, h2, h3]
    · simp [hb, h1, h2]
  · simp [hb, h1]
theorem allEqI (l : List Itm) : Lib.allEq (fun x y => decide (x = y)) l l = true := by
  induction l with
  | nil => rfl
  | cons x l ih => simp [Lib.allEq, ih]
theorem ItemsAt.cellsQ {w : World} {g o n c : Nat} {l : List Itm} (h : ItemsAt w (some ⟨g, o, none⟩) n c l) : ∀ j, j < l.length → ∀ i v, (Itm.cells l[j]!)[i]? = some v → w.cell? ⟨g, o + j * 7 + i, none⟩ = some v := by
  intro j hj i v hi
  obtain ⟨g', o', he, _, hc⟩ := h.2.2.2 (by rw [h.1]; omega)
  simp only [Option.some.injEq, Addr.mk.injEq] at he
  obtain ⟨rfl, rfl, _⟩ := he
  have hx : l[j]? = some l[j]! := by simp [hj]
  exact hc j _ i v hx hi
set_option maxHeartbeats 400000 in
theorem equalI_any (A B : Option Addr) (n c m d : Nat) (l : List Itm) (w : World) (hA : ItemsAt w A n c l) (hB : ItemsAt w B m d l) (hn : n ≤ 10000) :
    Calls Tryz.prog 10 #[.slice A n c, .slice B m d] w fun e w' => e = .returned (.bool true) ∧ Below w.heap.size w w' := by
  have hl := hA.1
  have hl2 := hB.1
  obtain rfl : n = m := by omega
  rcases Nat.eq_zero_or_pos n with h0 | h0
  · subst h0
    clear hA hB hl hl2
    go_enter Tryz.func10, Tryz.ntmps10
    go_wp2_with fail
    refine wp_loop_rounds 1 ?_
    rw [rounds_succ]
    go_wp2_with fail
    go_ret
    exact ⟨rfl, Below.refl _ _⟩
  · obtain ⟨g1, o1, rfl, hg1, hc1⟩ := hA.2.2.2 h0
    obtain ⟨g2, o2, rfl, hg2, hc2⟩ := hB.2.2.2 h0
    refine (AnyQ.slices_Equal Tryz.eqQ10 7 Tryz.isAgg35 Tryz.sizeOf35 Itm.cells (fun _ => rfl) _ neqI g1 o1 n c g2 o2 n d l l w (by omega) (by omega) (by omega) (by omega) hA.cellsQ hB.cellsQ).mono ?_
    rintro e w' ⟨rfl, q, rfl⟩
    refine ⟨ret_bool ?_, below_drewN (Below.refl _ _) q⟩
    rw [List.take_of_length_le (by omega)]
    exact allEqI l
end Go.Proofs.YtccllmkijnmooaaGreatDoor

namespace Go.Proofs.YtccllmkijnmooaaGreatDoor
open Go.RowKit Go.Maps Go.Shelf
attribute [local go_sem ↓] Go.wp_at_zero Go.wp_at_succ

def WithPost (w : World) (l : List Itm) (p : Nat → Bool) (N : Nat) (e : Ending) (w' : World) : Prop :=
  ∃ M m c : Nat, e = .returned (.tuple #[.map (some M), .int .i64 (c : Int), .int .i64 0]) ∧ w.heap.size ≤ M ∧ SMapAt w' M m l p ∧ m ≤ N ∧ Below w.heap.size w w'
set_option maxHeartbeats 6400000 in
set_option maxRecDepth 100000 in
theorem with_any (g M mm n c : Nat) (A : Option Addr) (p : Nat → Bool) (l xs : List Itm) (ks : List Nat) (w : World) (hg : StoB w g M) (hM : SMapAt w M mm l p) (hl : SetI l) (hxs : ItemsAt w A n c xs) (hkl : ks.length = xs.length) (hks : ∀ (j : Nat) (x : Itm), xs[j]? = some x → ∃ k : Nat, ks[j]? = some k ∧ l[k]? = some x) (hmm1 : mm + n ≤ 1000) :
    Calls Tryz.prog 23 #[.pointer (some ⟨g, 0, none⟩), .slice A n c] w (WithPost w l (addS p ks) (mm + n)) := by
  have HXL : Hid (n = xs.length) := hxs.1
  have HL := Lib.hid hl
  have HKS := Lib.hid hks
  have HKL := Lib.hid hkl
  have hmk := @run_makeMap Tryz.prog
  have hb1 : Below w.heap.size w (w.alloc (.map #[] 0)) := (Below.refl _ _).alloc (Nat.le_refl _) _
  have HC1 := Lib.hid (SMapAt.start w l)
  have HM1 := Lib.hid (hM.below hb1)
  have HG1 := Lib.hid (hg.keep hb1)
  have HX0 := Lib.hid hxs
  have HB1 := Lib.hid hb1
  have HMLT := Lib.hid hM.lt
  clear hb1 hM hg hxs hl hks hkl
  go_enter Tryz.func23, Tryz.ntmps23
  go_upto_region 2 with (fail)
  obtain ⟨B, hB⟩ : ∃ B, B = w.heap.size := ⟨_, rfl⟩
  rw [← hB] at HC1 ⊢
  have HBB := Lib.hid hB
  have HMB : Hid (M ≠ B) := by have := HMLT.out; show _ ≠ _; omega
  generalize w.alloc (.map #[] 0) = w1 at *
  clear hB hmk
  have c0 := HG1.out.c
  obtain ⟨D, h1, h2, h3⟩ := HM1.out.ex
  have H3 := Lib.hid h3
  have HOWN := Lib.hid h1
  have HSZ : Hid (Maps.size D ≤ mm) := h1.size_le
  have HNEXT : Hid (∀ (x : List UInt8) (ya : DataW Value) (cb : Value), has D (.string x) = true → (∀ zd, D.atKey (.string x) zd = ya) → ya = .held cb → ∃ k z, l[k]? = some z ∧ p k = true ∧ z.id = ⟨x.toArray⟩ ∧ cb = z.v) := by
    show ∀ (x : List UInt8) (ya : DataW Value) (cb : Value), has D (.string x) = true → (∀ zd, D.atKey (.string x) zd = ya) → ya = .held cb → ∃ k z, l[k]? = some z ∧ p k = true ∧ z.id = ⟨x.toArray⟩ ∧ cb = z.v
    intro x ya cb hh ha hy
    rw [h3] at hh
    obtain ⟨k, z, hz, hp, hx, hf⟩ := key_item hh
    have e := ha (.held itemZ)
    rw [h2, valS_of hf hp hz, hy] at e
    simp only [DataW.held.injEq] at e
    exact ⟨k, z, hz, hp, hx, e.symm⟩
  clear h1 h2 h3
  go_wp2_with (at_range; refine wpList_range_own _ rfl _ 49 rfl 9 35 keyS Tryz.underlying49 _ M mm _ rfl HOWN.out ?_; intro w6 hrg6 hg6 hs6)
  go_frame
  have HB6 : Hid (Below w.heap.size w w6) := HB1.out.grown hg6 HB1.out.size (fun i hi => by cases hi)
  have HC6 := Lib.hid (HC1.out.kept hg6 (by simp))
  have HRG6 := Lib.hid hrg6
  obtain ⟨R, hR⟩ : ∃ R, R = w1.heap.size := ⟨_, rfl⟩
  rw [← hR] at HRG6 ⊢
  have HRB : Hid (w.heap.size ≤ R ∧ B < R) := ⟨by rw [hR]; exact HB1.out.size, by rw [hR]; exact HC1.out.lt⟩
  clear hrg6 hg6 hs6 hR HC1 HG1 HB1 HM1 c0
  go_loopg [8] (Maps.size D) (fun gk _ wr => ∃ (left : Lit → Bool) (m : Nat), Hid (wr.ranges Tryz.prog 9 heldE M R mm D left gk) ∧ Hid (SMapAt wr B m l (comeS l p left)) ∧ Hid (m + gk ≤ mm) ∧ Hid (Below w.heap.size w wr))
  case atStart => exact ⟨_, 0, HRG6.out, HC6.out.congr (fun k hk => comeS_start HL.out H3.out k hk), by show 0 + _ ≤ _; have := HSZ.out; omega, HB6.out⟩
  case round =>
    obtain ⟨left, m, HRG, HC, HK, HB⟩ := hrel
    clear HRG6 HB6 HC6
    go_wp2_with (at_next; refine wpList_next_ranges _ rfl _ rfl 9 keyS _ (fun x : List UInt8 => Value.string (bag x)) (fun v : Value => v) invK_strS (fun v _ _ => ⟨v, rfl⟩) M R mm _ _ _ rfl HRG.out (Hid.out ?_) (Hid.out ?_))
    · refine Lib.hid ?_
      intro hc0 hl0
      have HCD : Hid (SMapAt wr B m l (addS p (ks.take 0))) := by
        have h := HC.out
        rw [comeS_end hl0] at h
        show SMapAt _ _ _ _ _
        rw [List.take_zero, addS_nil]
        exact h
      have HMD : Hid (m ≤ mm) := by have := HK.out; show _ ≤ _; omega
      have HBD := Lib.hid HB.out
      have HXD := Lib.hid (ElemsAt.keep HX0.out HB.out)
      clear hl0 hc0 HRG HB HC HK
      obtain ⟨wd, rfl⟩ : ∃ wd : World, wd = wr := ⟨_, rfl⟩
      obtain ⟨go, rfl⟩ : ∃ go : Nat, go = gk := ⟨_, rfl⟩
      go_wp2_with fail
      go_loopg [10, 31] n (fun gk v10 v31 wr => ∃ (j c m : Nat), Hid (j + gk = n) ∧ v10 = .int .i64 (c : Int) ∧ v31 = .int .i64 (j : Int) ∧ Hid (SMapAt wr B m l (addS p (ks.take j))) ∧ Hid (m ≤ mm + j) ∧ Hid (c ≤ j) ∧ Hid (Below w.heap.size w wr))
      case atStart => exact ⟨0, 0, m, show 0 + n = n by omega, rfl, rfl, HCD.out, HMD.out, Nat.le_refl _, HBD.out⟩
      case round =>
        obtain ⟨j, ct, m2, HK, rfl, rfl, HC, HM2, HCT, HB⟩ := hrel
        clear HCD HMD HBD HXD
        have hjn : j ≤ n := by have := HK.out; omega
        by_cases hlt : j < n
        · have HGK := Lib.hid (show j + 1 + (gk - 1) = n ∧ 0 < gk by have := HK.out; omega)
          obtain ⟨ga, off, rfl, hga, hcc⟩ := (ElemsAt.keep HX0.out HB.out).item (by omega)
          obtain ⟨x, hx⟩ : ∃ x, xs[j]? = some x := ⟨_, List.getElem?_eq_getElem (by have := HXL.out; omega)⟩
          obtain ⟨k, hk, hlk⟩ := HKS.out j x hx
          obtain ⟨c0, c1, c2, c3, c4, c5, c6⟩ := hcc j x hx
          have HLK := Lib.hid hlk
          have HTK : Hid (ks.take (j + 1) = ks.take j ++ [k]) := by show _ = _; obtain ⟨h1, h2⟩ := List.getElem?_eq_some_iff.1 hk; rw [List.take_succ_eq_append_getElem h1, h2]
          have hxid := ((HL.out.ok.each x (List.mem_of_getElem? hlk)).small).1
          have hself := HL.out.self hlk
          have hb1 : Below wr.heap.size wr (wr.alloc (.cells #[.string x.id, .string x.cu, .int .i64 x.kind, .string x.name, .int .i64 x.at_, .string x.par, .string x.text] 35)) := (Below.refl _ _).alloc (Nat.le_refl _) _
          have HI1 : Hid (ItemAt (wr.alloc (.cells #[.string x.id, .string x.cu, .int .i64 x.kind, .string x.name, .int .i64 x.at_, .string x.par, .string x.text] 35)) wr.heap.size x) := item_new wr x
          have HB1 := Lib.hid (HB.out.trans (hb1.mono HB.out.size))
          have HC1 := Lib.hid (HC.out.below hb1)
          have HPW : Hid (w.heap.size ≤ wr.heap.size) := HB.out.size
          clear hcc hx hk hlk hb1 HK HB HC
          go_upto_region 10 with (fail)
          obtain ⟨P, hP⟩ : ∃ P, P = wr.heap.size := ⟨_, rfl⟩
          rw [← hP] at HI1 HPW ⊢
          generalize wr.alloc (.cells #[.string x.id, .string x.cu, .int .i64 x.kind, .string x.name, .int .i64 x.at_, .string x.par, .string x.text] 35) = w1' at *
          clear hP c0 c1 c2 c3 c4 c5 c6 hga
          obtain ⟨c0, c1, c2, c3, c4, c5, c6⟩ := HI1.out.c
          cases hin : addS p (ks.take j) k with
          | true =>
            have hlk := HC1.out.hit hxid hself hin HLK.out
            have HADD : Hid (addS p (ks.take (j + 1)) = addS p (ks.take j)) := by show _ = _; rw [HTK.out, addS_in hin]
            have hb2 : Below w1'.heap.size w1' (w1'.alloc (.cells #[.string x.id, .string x.cu, .int .i64 x.kind, .string x.name, .int .i64 x.at_, .string x.par, .string x.text] 35)) := (Below.refl _ _).alloc (Nat.le_refl _) _
            have HI2 := Lib.hid (HI1.out.keep hb2)
            have HJ2 : Hid (ItemAt (w1'.alloc (.cells #[.string x.id, .string x.cu, .int .i64 x.kind, .string x.name, .int .i64 x.at_, .string x.par, .string x.text] 35)) w1'.heap.size x) := item_new w1' x
            have HB2 := Lib.hid (HB1.out.trans (hb2.mono HB1.out.size))
            have HC2 := Lib.hid (HC1.out.below hb2)
            have HPQ : Hid (P < w1'.heap.size) := HI1.out.lt
            clear hin hb2 HB1 HC1 hself hxid
            go_upto_region 11 with (fail)
            obtain ⟨Q, hQ⟩ : ∃ Q, Q = w1'.heap.size := ⟨_, rfl⟩
            rw [← hQ] at HJ2 HPQ ⊢
            generalize w1'.alloc (.cells #[.string x.id, .string x.cu, .int .i64 x.kind, .string x.name, .int .i64 x.at_, .string x.par, .string x.text] 35) = w2' at *
            clear hQ hlk c0 c1 c2 c3 c4 c5 c6 HI1
            obtain ⟨c0, c1, c2, c3, c4, c5, c6⟩ := HI2.out.c
            obtain ⟨d0, d1, d2, d3, d4, d5, d6⟩ := HJ2.out.c
            have hne : ∀ w, Sem.run Tryz.prog (binOp .neq 35 (.agg #[.string x.id, .string x.cu, .int .i64 x.kind, .string x.name, .int .i64 x.at_, .string x.par, .string x.text]) (.agg #[.string x.id, .string x.cu, .int .i64 x.kind, .string x.name, .int .i64 x.at_, .string x.par, .string x.text])) w = .ok (.bool false) w := fun w => by
              have h := neqI.1 x x w
              simp only [decide_true, Bool.not_true] at h
              exact h
            have hgd : ∀ (op : BinOp) (a b : Operand) (w : World), Sem.run Tryz.prog (eqGuard op 35 a b (.agg #[.string x.id, .string x.cu, .int .i64 x.kind, .string x.name, .int .i64 x.at_, .string x.par, .string x.text]) (.agg #[.string x.id, .string x.cu, .int .i64 x.kind, .string x.name, .int .i64 x.at_, .string x.par, .string x.text])) w = .ok () w := fun op a b w => neqI.2 op a b x x w
            go_wp2_with fail
            go_roundg (gk - 1)
            case measure => exact Nat.sub_lt HGK.out.2 Nat.one_pos
            case rel => exact ⟨j + 1, ct, m2, HGK.out.1, rfl, by go_num, by show SMapAt _ _ _ _ _; rw [HADD.out]; exact HC2.out, by have := HM2.out; show _ ≤ _; omega, by have := HCT.out; show _ ≤ _; omega, HB2.out⟩
          | false =>
            have hhas : hasS l (addS p (ks.take j)) x.id = false := by rw [hasS_of hself]; exact hin
            have hlk := HC1.out.miss hxid hhas
            have HKEY := Lib.hid (keyS_mk x.id hxid)
            have hb2 : Below w1'.heap.size w1' (w1'.alloc (.cells #[.string ⟨#[]⟩, .string ⟨#[]⟩, .int .i64 0, .string ⟨#[]⟩, .int .i64 0, .string ⟨#[]⟩, .string ⟨#[]⟩] 35)) := (Below.refl _ _).alloc (Nat.le_refl _) _
            have HI2 := Lib.hid (HI1.out.keep hb2)
            have HB2 := Lib.hid (HB1.out.trans (hb2.mono HB1.out.size))
            have HC2 := Lib.hid (HC1.out.below hb2)
            have HPQ : Hid (P < w1'.heap.size) := HI1.out.lt
            have e1 : IntKind.i64.wrap ((ct : Int) + 1) = (ct : Int) + 1 := IntWalk.i64_in _ (by have := HCT.out; omega)
            clear hin hb2 HB1 HC1 hself hxid hhas
            go_upto_region 11 with (fail)
            obtain ⟨Q, hQ⟩ : ∃ Q, Q = w1'.heap.size := ⟨_, rfl⟩
            rw [← hQ] at HPQ ⊢
            generalize w1'.alloc (.cells #[.string ⟨#[]⟩, .string ⟨#[]⟩, .int .i64 0, .string ⟨#[]⟩, .int .i64 0, .string ⟨#[]⟩, .string ⟨#[]⟩] 35) = w2' at *
            clear hQ hlk c0 c1 c2 c3 c4 c5 c6 HI1
            obtain ⟨c0, c1, c2, c3, c4, c5, c6⟩ := HI2.out.c
            obtain ⟨D2, k1, k2, k3⟩ := HC2.out.ex
            have HK1 := Lib.hid k1
            have HK2 := Lib.hid k2
            have HK3 := Lib.hid k3
            have HWB : Hid (w.heap.size ≤ B) := by have := HBB.out; show _ ≤ _; omega
            have hm2 : m2 ≤ 1000 := by have := HM2.out; omega
            clear k1 k2 k3
            go_wp2_with (at_mapUpdate; refine wpList_mapUpdate_own _ rfl _ _ _ 49 rfl 9 35 keyS Tryz.underlying49 _ B m2 D2 rfl HK1.out (by simp only [maxLen]; omega) _ _ (.string x.id.data.toList) rfl rfl HKEY.out (.held x.v) [] rfl ?_; intro w5 hown5 hgrow5)
            have HC5 : Hid (SMapAt w5 B (m2 + 1) l (addS p (ks.take (j + 1)))) := by
              show SMapAt _ _ _ _ _
              rw [HTK.out, addS_snoc]
              exact SMapAt.put HL.out HLK.out HK1.out HK2.out HK3.out hown5
            have HB5 : Hid (Below w.heap.size w w5) := HB2.out.grown hgrow5 HB2.out.size (fun i e => by cases e; exact HWB.out)
            clear hown5 hgrow5
            go_wp2_with fail
            go_roundg (gk - 1)
            case measure => exact Nat.sub_lt HGK.out.2 Nat.one_pos
            case rel => exact ⟨j + 1, ct + 1, m2 + 1, HGK.out.1, by go_num, by go_num, HC5.out, by have := HM2.out; show _ ≤ _; omega, by have := HCT.out; show _ ≤ _; omega, HB5.out⟩
        · have hnk : ¬ (j : Int) < (n : Int) := by omega
          have hta : ks.take j = ks := List.take_of_length_le (by rw [HKL.out]; have := HXL.out; omega)
          rw [hta] at HC
          have HM3 : Hid (m2 ≤ mm + n) := by have := HM2.out; show _ ≤ _; omega
          have HWB : Hid (w.heap.size ≤ B) := by have := HBB.out; show _ ≤ _; omega
          clear hta HK hlt hjn
          rcases Nat.eq_zero_or_pos ct with hc | hc
          · subst hc
            have HF : Hid (WithPost w l (addS p ks) (mm + n) (.returned (.tuple #[.map (some B), .int .i64 ((0 : Nat) : Int), .int .i64 0])) wr) := ⟨B, m2, 0, rfl, HWB.out, HC.out, HM3.out, HB.out⟩
            go_wp2_with fail
            refine bodyPost_ret (v := .tuple #[.map (some B), .int .i64 0, .int .i64 0]) (by simp [results, Tryz.results23, go_sem]) rfl ?_
            exact HF.out
          · have hcz : ((ct : Int) == 0) = false := by simp; omega
            obtain ⟨sz, hsz, hlen⟩ := HC.out.len
            have hbig : ¬ (2000 : Int) < (sz : Int) := by have := HM3.out; omega
            have HT := Lib.hid (together_any B m2 (addS p ks) l wr HC.out HL.out)
            clear hsz hc
            go_wp2_with fail
            refine HT.out.mono ?_
            rintro e w9 ⟨rfl, hb9⟩
            have HF : Hid (WithPost w l (addS p ks) (mm + n) (.returned (.tuple #[.map (some B), .int .i64 (ct : Int), .int .i64 0])) w9) := ⟨B, m2, ct, rfl, HWB.out, HC.out.below hb9, HM3.out, HB.out.trans (hb9.mono HB.out.size)⟩
            clear HT hb9 hlen
            go_wp2_with fail
            refine bodyPost_ret (v := .tuple #[.map (some B), .int .i64 (ct : Int), .int .i64 0]) (by simp [results, Tryz.results23, go_sem]) rfl ?_
            exact HF.out
    · refine Lib.hid ?_
      intro x cb kl ya yb w7 cnt7 hkey hlk hRv hat hrg7 hlt7 hg7 hs7 hen
      obtain rfl := key_bagS hkey
      have hya : ya = .held cb := by
        simp only [heldE, Option.some.injEq, Prod.mk.injEq] at hRv
        exact hRv.1.symm
      obtain ⟨k, z, hz, hpk, hzx, hcb⟩ := HNEXT.out x ya cb (has_true_of_atKey hat) hat hya
      subst hcb
      have HZ := Lib.hid hz
      have HPK := Lib.hid hpk
      have HZX := Lib.hid hzx
      have HKEY := Lib.hid hkey
      have HB7 : Hid (Below w.heap.size w w7) := HB.out.grown hg7 HB.out.size (fun i hi => by cases hi; exact HRB.out.1)
      have HC7 := Lib.hid (HC.out.kept hg7 (fun e => by have := Option.some.inj e; have := HRB.out.2; omega))
      have HRG8 := Lib.hid (hrg7.alloc (.cells #[.string z.id, .string z.cu, .int .i64 z.kind, .string z.name, .int .i64 z.at_, .string z.par, .string z.text] 35))
      have HI8 : Hid (ItemAt (w7.alloc (.cells #[.string z.id, .string z.cu, .int .i64 z.kind, .string z.name, .int .i64 z.at_, .string z.par, .string z.text] 35)) w7.heap.size z) := item_new w7 z
      have hb8 : Below w7.heap.size w7 (w7.alloc (.cells #[.string z.id, .string z.cu, .int .i64 z.kind, .string z.name, .int .i64 z.at_, .string z.par, .string z.text] 35)) := (Below.refl _ _).alloc (Nat.le_refl _) _
      have HB8 : Hid (Below w.heap.size w (w7.alloc (.cells #[.string z.id, .string z.cu, .int .i64 z.kind, .string z.name, .int .i64 z.at_, .string z.par, .string z.text] 35))) := HB7.out.trans (hb8.mono HB7.out.size)
      have HC8 := Lib.hid (HC7.out.below hb8)
      have HMK : Hid (m + 1 + cnt7 ≤ mm) := by have := HK.out; show _ ≤ _; omega
      unfold Itm.v at hen
      clear hkey hlk hRv hat hrg7 hg7 hs7 hya hz hpk hzx HRG HB HB7 HC HC7 hb8 HK
      go_upto_region 5 with (fail)
      obtain ⟨P, hP⟩ : ∃ P, P = w7.heap.size := ⟨_, rfl⟩
      rw [← hP] at HI8 ⊢
      generalize w7.alloc (.cells #[.string z.id, .string z.cu, .int .i64 z.kind, .string z.name, .int .i64 z.at_, .string z.par, .string z.text] 35) = w8 at *
      clear hP hen
      obtain ⟨c0, c1, c2, c3, c4, c5, c6⟩ := HI8.out.c
      obtain ⟨D2, k1, k2, k3⟩ := HC8.out.ex
      have HK1 := Lib.hid k1
      have HK2 := Lib.hid k2
      have HK3 := Lib.hid k3
      have HWB : Hid (w.heap.size ≤ B) := by have := HBB.out; show _ ≤ _; omega
      have hm2 : m ≤ 1000 := by have := HMK.out; omega
      clear k1 k2 k3
      go_wp2_with (at_mapUpdate; refine wpList_mapUpdate_own _ rfl _ _ _ 49 rfl 9 35 keyS Tryz.underlying49 _ B m D2 rfl HK1.out (by simp only [maxLen]; omega) _ _ (.string x) rfl rfl HKEY.out (.held z.v) [] rfl ?_; intro w9 hown9 hgrow9)
      have hxe : x = z.id.data.toList := by rw [HZX.out]
      have HC9 : Hid (SMapAt w9 B (m + 1) l (comeS l p (fun y => left y && !y.sameKey (.string x)))) := by
        refine SMapAt.congr (SMapAt.put HL.out HZ.out HK1.out HK2.out HK3.out (by rw [← hxe]; exact hown9)) (fun i hi => ?_)
        exact comeS_step HL.out HZ.out HPK.out HZX.out i hi
      have HB9 : Hid (Below w.heap.size w w9) := HB8.out.grown hgrow9 HB8.out.size (fun i e => by cases e; exact HWB.out)
      have HRG9 := Lib.hid (HRG8.out.kept hgrow9 (fun e => HMB.out (Option.some.inj e)) (fun e => by have := Option.some.inj e; have := HRB.out.2; omega))
      clear hown9 hgrow9 hxe
      go_roundg cnt7
      case measure => exact hlt7
      case rel => exact ⟨_, m + 1, HRG9.out, HC9.out, HMK.out, HB9.out⟩
end Go.Proofs.YtccllmkijnmooaaGreatDoor

namespace Go.Proofs.YtccllmkijnmooaaGreatDoor
open Go.RowKit Go.Maps

def AddPost (w : World) (g N : Nat) (l : List Itm) (p : Nat → Bool) (e : Ending) (w' : World) : Prop :=
  ∃ (b : Bool) (M m : Nat), e = .returned (.tuple #[.bool b, .int .i64 0]) ∧ StoB w' g M ∧ w.heap.size ≤ M ∧ SMapAt w' M m l p ∧ m ≤ N ∧ w.grownBy w' (some g)
set_option maxHeartbeats 3200000 in
set_option maxRecDepth 100000 in
theorem addS_any (g M mm k : Nat) (p : Nat → Bool) (l : List Itm) (x : Itm) (w : World) (hg : StoB w g M) (hM : SMapAt w M mm l p) (hl : SetI l) (hx : l[k]? = some x) (hmm : mm + 1 ≤ 1000) (hT : Tabs w) (hMx : MaxAt w) :
    Calls Tryz.prog 8 #[.pointer (some ⟨g, 0, none⟩), x.v] w (AddPost w g (mm + 1) l (addS p [k])) := by
  have HL := Lib.hid hl
  have HX := Lib.hid hx
  have HOK := Lib.hid (hl.ok.each x (List.mem_of_getElem? hx))
  have hb1 : Below w.heap.size w (w.alloc (.cells #[.string x.id, .string x.cu, .int .i64 x.kind, .string x.name, .int .i64 x.at_, .string x.par, .string x.text] 35)) := (Below.refl _ _).alloc (Nat.le_refl _) _
  have HI1 : Hid (ItemAt (w.alloc (.cells #[.string x.id, .string x.cu, .int .i64 x.kind, .string x.name, .int .i64 x.at_, .string x.par, .string x.text] 35)) w.heap.size x) := item_new w x
  have HG1 := Lib.hid (hg.keep hb1)
  have HM1 := Lib.hid (hM.below hb1)
  have HT1 := Lib.hid (And.intro (Tabs.below hT hb1) (MaxAt.below hMx hb1))
  have HB1 := Lib.hid hb1
  have HGL := Lib.hid hg.lt
  unfold Itm.v
  clear hg hM hl hx hb1 hT hMx
  go_enter Tryz.func8, Tryz.ntmps8
  go_upto_region 1 with (fail)
  obtain ⟨P, hP⟩ : ∃ P, P = w.heap.size := ⟨_, rfl⟩
  rw [← hP] at HI1 ⊢
  have HPW := Lib.hid hP
  generalize w.alloc (.cells #[.string x.id, .string x.cu, .int .i64 x.kind, .string x.name, .int .i64 x.at_, .string x.par, .string x.text] 35) = w1 at *
  clear hP
  obtain ⟨c0, c1, c2, c3, c4, c5, c6⟩ := HI1.out.c
  have hck := checkItem_ok x w1 HOK.out HT1.out.1 HT1.out.2
  unfold Itm.v at hck
  have HCK := Lib.hid hck
  clear hck
  go_wp2_with fail
  refine HCK.out.mono ?_
  rintro e w2 ⟨rfl, hb2⟩
  have HI2 := Lib.hid (HI1.out.keep hb2)
  have HG2 := Lib.hid (HG1.out.keep hb2)
  have HM2 := Lib.hid (HM1.out.below hb2)
  have HB2 := Lib.hid (HB1.out.trans (hb2.mono HB1.out.size))
  clear hb2 HCK HI1 HG1 HM1 HB1 c0 c1 c2 c3 c4 c5 c6
  obtain ⟨c0, c1, c2, c3, c4, c5, c6⟩ := HI2.out.c
  have hb3 : Below w2.heap.size w2 (w2.alloc (.cells #[.string x.id, .string x.cu, .int .i64 x.kind, .string x.name, .int .i64 x.at_, .string x.par, .string x.text] 35)) := (Below.refl _ _).alloc (Nat.le_refl _) _
  have hone : ItemsAt (w2.alloc (.cells #[.string x.id, .string x.cu, .int .i64 x.kind, .string x.name, .int .i64 x.at_, .string x.par, .string x.text] 35)) (some ⟨w2.heap.size, 0, none⟩) 1 1 [x] := one_elem (E := ItemE) w2 x
  have HW := Lib.hid (with_any g M mm 1 1 (some ⟨w2.heap.size, 0, none⟩) p l [x] [k] _ (HG2.out.keep hb3) (HM2.out.below hb3) HL.out hone rfl (fun j y hy => by
    match j, hy with
    | 0, hy => exact ⟨k, rfl, by rw [HX.out]; simpa using hy⟩
    | j + 1, hy => simp at hy) (by omega))
  have HG3 := Lib.hid (HG2.out.keep hb3)
  have HB3 := Lib.hid (HB2.out.trans (hb3.mono HB2.out.size))
  clear hb3 hone HG2 HM2
  go_wp2_with fail
  refine HW.out.mono ?_
  rintro e w4 ⟨M4, m4, ct, rfl, hM4, hS4, hm4, hb4⟩
  have HG4 := Lib.hid (HG3.out.keep hb4)
  have HB4 := Lib.hid (HB3.out.trans (hb4.mono HB3.out.size))
  have HS4 := Lib.hid hS4
  have HM4 : Hid (w.heap.size ≤ M4) := by have := HB3.out.size; show _ ≤ _; omega
  have HN4 := Lib.hid hm4
  have gf := HG4.out.f 0
  have gc := HG4.out.c
  clear hM4 hS4 hm4 hb4 HW HG3 HB3 HB2 c0 c1 c2 c3 c4 c5 c6 HI2
  have HG5 := Lib.hid (HG4.out.set M4)
  have HS5 := Lib.hid (HS4.out.kept (grown_setCell w4 g 0 (.map (some M4))) (fun e => HG4.out.ne_map HS4.out (Option.some.inj e)))
  have HGR : Hid (w.grownBy (w4.setCell ⟨g, 0, none⟩ (.map (some M4))) (some g)) := grown_trans (below_grown HB4.out _) (grown_setCell _ _ _ _)
  go_wp2_with fail
  refine bodyPost_ret (v := .tuple #[.bool (decide ((0 : Int) < (ct : Int))), .int .i64 0]) (by simp [results, Tryz.results8, go_sem]) rfl ?_
  exact ⟨_, M4, m4, rfl, HG5.out, HM4.out, HS5.out, HN4.out, HGR.out⟩
end Go.Proofs.YtccllmkijnmooaaGreatDoor

namespace Go.Proofs.YtccllmkijnmooaaGreatDoor
open Go.RowKit Go.Shelf Go.Sort Go.Lib

section
variable {α : Type} {E : Elem α} [Inhabited α]
theorem Owns.holdsS (hE : E.Ok) {w : World} {base g c n : Nat} {l : List α} (h : Owns E w base (.slice (some ⟨g, 0, none⟩) n c) l) : HoldsK E.enc E.size w g 0 l.toArray := by
  intro j hj
  rw [size_flatK, List.size_toArray] at hj
  have hp := hE.pos
  have hk : j / E.size < l.length := (Nat.div_lt_iff_lt_mul hp).2 hj
  have hm : j % E.size < E.size := Nat.mod_lt _ hp
  obtain ⟨G, c', he, _, _, hc⟩ := h.where_ hE (Nat.lt_of_le_of_lt (Nat.zero_le _) hk)
  simp only [Value.slice.injEq, Option.some.injEq, Addr.mk.injEq] at he
  obtain ⟨⟨rfl, _⟩, _⟩ := he
  have hx : l[j / E.size]? = some l[j / E.size]! := by simp [hk]
  have hu : (E.enc l[j / E.size]!)[j % E.size]? = some (E.enc l[j / E.size]!)[j % E.size]! := by
    have : j % E.size < (E.enc l[j / E.size]!).length := by rw [hE.len]; exact hm
    rw [List.getElem?_eq_getElem this, getElem!_pos (E.enc l[j / E.size]!) (j % E.size) this]
  have h1 := hc _ _ _ _ hx hu
  have e : j / E.size * E.size + j % E.size = j := by rw [Nat.mul_comm]; exact Nat.div_add_mod _ _
  rw [e] at h1
  rw [get_flatK _ _ _ _ (by rw [List.size_toArray]; exact hj), Nat.zero_add]
  simpa using h1
theorem elems_of_holdsS (hE : E.Ok) {w : World} {g c : Nat} {d : Array α} (h : HoldsK E.enc E.size w g 0 d) (hlt : g < w.heap.size) (hc : d.size ≤ c) : ElemsAt E w (some ⟨g, 0, none⟩) d.size c d.toList := by
  refine ⟨by simp, hc, (fun e => by cases e), fun _ => ⟨g, 0, rfl, hlt, fun k x i v hk hv => ?_⟩⟩
  have hk' : k < d.size := by have := (List.getElem?_eq_some_iff.1 hk).1; simpa using this
  have hi : i < E.size := by have := (List.getElem?_eq_some_iff.1 hv).1; rw [hE.len] at this; exact this
  have h1 := (h.cell (i := k) (c := i) hk' hi).1
  have ex : d[k]! = x := by
    have h2 := hk
    rw [Array.getElem?_toList, Array.getElem?_eq_getElem hk'] at h2
    rw [getElem!_pos d k hk']
    exact Option.some.inj h2
  rw [ex] at h1
  have ev : (E.enc x)[i]! = v := by
    obtain ⟨h3, h4⟩ := List.getElem?_eq_some_iff.1 hv
    rw [getElem!_pos _ i h3, h4]
  rw [ev] at h1
  exact h1
theorem grown_sortS (enc : α → List Value) (k : Nat) (w : World) (blk off m : Nat) (d : Array α) (os : Array Obj) : w.grownBy (sortWorldK enc k w blk off m d os) (some blk) := by
  refine ⟨rfl, rfl, rfl, size_sortWorldK_c enc k w blk off m d os, fun i hi hne => ?_⟩
  have hne' : blk ≠ i := fun e => hne (by rw [e])
  show ((w.heap.modify blk _) ++ os)[i]? = _
  rw [Array.getElem?_append_left (by simpa using hi), Array.getElem?_modify, if_neg hne']
end

theorem cmpB_less : ∀ (a b : List UInt8), decide (Lib.compareBytes a b < 0) = Op.bytesLess a b
  | [], [] => by simp [Lib.compareBytes, Op.bytesLess]
  | [], _ :: _ => by simp [Lib.compareBytes, Op.bytesLess]
  | _ :: _, [] => by simp [Lib.compareBytes, Op.bytesLess]
  | x :: a, y :: b => by
    have ih := cmpB_less a b
    unfold Lib.compareBytes Op.bytesLess
    by_cases h1 : x < y
    · simp [h1]
    · by_cases h2 : y < x
      · have h3 : ¬ x = y := fun e => by subst e; exact h1 h2
        simp [h1, h2, h3]
      · have h3 : x = y := UInt8.le_antisymm (UInt8.not_lt.1 h2) (UInt8.not_lt.1 h1)
        subst h3
        simp only [h1, if_false, decide_false, Bool.false_or, beq_self_eq_true, Bool.true_and]
        exact ih
def cmpIt (x y : Itm) : Int := Lib.compareBytes x.id.data.toList y.id.data.toList
theorem ltIt (x y : Itm) : ltOf cmpIt x y = ltStr x.id.data.toList y.id.data.toList := by
  unfold ltOf cmpIt ltStr
  rw [cmpB_less, bytesLess_eq]
theorem swoIt : SWO (ltOf cmpIt) where
  irrefl x := by rw [ltIt]; exact swo_ltStr.irrefl _
  trans x y z h1 h2 := by rw [ltIt] at *; exact swo_ltStr.trans _ _ _ h1 h2
  ntrans x y z h1 h2 := by rw [ltIt] at *; exact swo_ltStr.ntrans _ _ _ h1 h2
def sortIt (l : List Itm) : List Itm := (insertionSort (ltOf cmpIt) l.toArray 0 l.length).toList
theorem sortIt_spec (l : List Itm) : PermIn 0 l.length l.toArray (insertionSort (ltOf cmpIt) l.toArray 0 l.length) ∧ SortedIn (ltOf cmpIt) 0 l.length (insertionSort (ltOf cmpIt) l.toArray 0 l.length) :=
  insertionSort_holds (lt := ltOf cmpIt) swoIt l.toArray 0 l.length (Nat.zero_le _) (by simp)
theorem sortIt_size (l : List Itm) : (insertionSort (ltOf cmpIt) l.toArray 0 l.length).size = l.length := by rw [(sortIt_spec l).1.1]; simp
theorem sortIt_length (l : List Itm) : (sortIt l).length = l.length := by
  unfold sortIt
  rw [Array.length_toList, sortIt_size]
theorem sortIt_nil : sortIt [] = [] := List.eq_nil_of_length_eq_zero (sortIt_length [])
theorem sortIt_perm (l : List Itm) : (sortIt l).Perm l := by
  have h := (sortIt_spec l).1.2.2
  have hs := sortIt_size l
  unfold sortIt
  generalize insertionSort (ltOf cmpIt) l.toArray 0 l.length = d at *
  have e1 : d.extract 0 l.length = d := by rw [← hs]; simp
  have e2 : l.toArray.extract 0 l.length = l.toArray := by simp
  rw [e1, e2] at h
  exact h
theorem sortIt_sorted (l : List Itm) : (sortIt l).Pairwise fun x y => ltOf cmpIt y x = false := by
  have h := (sortIt_spec l).2
  have hs := sortIt_size l
  unfold sortIt
  generalize insertionSort (ltOf cmpIt) l.toArray 0 l.length = d at *
  rw [List.pairwise_iff_getElem]
  intro i j hi hj hij
  have hi' : i < d.size := by simpa using hi
  have hj' : j < d.size := by simpa using hj
  have := h i j (Nat.zero_le _) hij (by omega)
  rw [getElem!_pos d i hi', getElem!_pos d j hj'] at this
  simpa using this
theorem pickS_sub (l : List Itm) (q : Nat → Bool) : (pickS l q).Sublist l := by
  have h : (pickS l q).Sublist ((List.range l.length).filterMap fun k => l[k]?) := List.filter_sublist.filterMap _
  have e : ((List.range l.length).filterMap fun k => l[k]?) = l := by
    have := pickS_all (l := l) (q := fun _ => true) (fun _ _ => rfl)
    unfold pickS at this
    rw [List.filter_eq_self.2 (fun _ _ => rfl)] at this
    exact this
  rw [e] at h
  exact h
/-- Sorted, what was picked is in the list's own order. -/
theorem sort_picked {l m : List Itm} {q : Nat → Bool} (hl : SetR l) (h : m.Perm (pickS l q)) : sortIt m = pickS l q := by
  have hrise : l.Pairwise fun x y => ltOf cmpIt y x = false := by
    have h1 := List.pairwise_map.1 hl.rise
    refine h1.imp (fun {a b} hab => ?_)
    rw [Bool.or_eq_false_iff] at hab
    rw [ltIt]
    unfold ltStr
    rw [← bytesLess_eq]
    exact hab.1
  have hin : ∀ x, x ∈ pickS l q → x ∈ l := fun x hx => (pickS_sub l q).subset hx
  refine List.Perm.eq_of_pairwise (le := fun x y => ltOf cmpIt y x = false) (fun a b ha hb h1 h2 => ?_) (sortIt_sorted m) (hrise.sublist (pickS_sub l q)) ((sortIt_perm m).trans h)
  have ha' : a ∈ l := hin a ((((sortIt_perm m).trans h).mem_iff).1 ha)
  have hb' : b ∈ l := hin b hb
  rw [ltIt] at h1 h2
  unfold ltStr at h1 h2
  rw [decide_eq_false_iff_not] at h1 h2
  have e : a.id.data.toList = b.id.data.toList := List.le_antisymm (List.not_lt.1 h1) (List.not_lt.1 h2)
  obtain ⟨i, hi, rfl⟩ := List.getElem_of_mem ha'
  obtain ⟨j, hj, rfl⟩ := List.getElem_of_mem hb'
  have hij := hl.set.find (List.getElem?_eq_getElem hi) (List.getElem?_eq_getElem hj) (ByteArray.ext (Array.toList_inj.1 e))
  subst hij
  rfl
end Go.Proofs.YtccllmkijnmooaaGreatDoor

namespace Go.Proofs.YtccllmkijnmooaaGreatDoor
open Go.RowKit Go.Shelf Go.Sort Go.Lib

/-- A row that holds so many items, whatever they are, and that may be written. -/
def RowI (w : World) (G n : Nat) : Prop := ∃ (cs : Array Value) (t : TypeId) (fr : Nat × Nat), w.heap[G]? = some (.cells cs t fr) ∧ n * 7 ≤ cs.size ∧ ∀ k, k < n → w.frozen? ⟨G, k * 7 + 6, none⟩ = false
theorem RowI.lt {w : World} {G n : Nat} (h : RowI w G n) : G < w.heap.size := by
  obtain ⟨cs, t, fr, h1, _⟩ := h
  exact (Array.getElem?_eq_some_iff.1 h1).1
theorem RowI.set {w : World} {G n : Nat} (h : RowI w G n) (j : Nat) (v : Value) : RowI (w.setCell ⟨G, j, none⟩ v) G n := by
  obtain ⟨cs, t, fr, h1, h2, h3⟩ := h
  refine ⟨cs.setIfInBounds j v, t, fr, by simp [World.setCell, Array.getElem?_modify, h1], by rw [Array.size_setIfInBounds]; exact h2, fun k hk => ?_⟩
  have := h3 k hk
  simp only [World.frozen?, h1] at this
  simp [World.frozen?, World.setCell, Array.getElem?_modify, h1]
  simpa using this
theorem RowI.at_ {w : World} {G n : Nat} (h : RowI w G n) (k : Nat) (hk : k < n) : (∃ v, w.cell? ⟨G, k * 7 + 6, none⟩ = some v) ∧ w.frozen? ⟨G, k * 7 + 6, none⟩ = false := by
  obtain ⟨cs, t, fr, h1, h2, h3⟩ := h
  have hlt : k * 7 + 6 < cs.size := by omega
  refine ⟨⟨cs[k * 7 + 6], ?_⟩, h3 k hk⟩
  simp [World.cell?, h1, hlt]
theorem RowI.keep {w w' : World} {G n : Nat} (h : RowI w G n) (hb : Below w.heap.size w w') : RowI w' G n := by
  have hlt := h.lt
  obtain ⟨cs, t, fr, h1, h2, h3⟩ := h
  have hk := (hb.block G hlt).trans h1
  refine ⟨cs, t, fr, hk, h2, fun k hkn => ?_⟩
  have := h3 k hkn
  simp only [World.frozen?, h1] at this
  simp only [World.frozen?, hk]
  exact this
theorem cell_block {w : World} {G j : Nat} {v : Value} (h : w.cell? ⟨G, j, none⟩ = some v) : ∃ cs t fr, w.heap[G]? = some (.cells cs t fr) ∧ j < cs.size := by
  unfold World.cell? at h
  split at h
  · rename_i c t fr hc
    simp at h
    obtain ⟨h1, _⟩ := Array.getElem?_eq_some_iff.1 h
    exact ⟨c, t, fr, hc, h1⟩
  · cases h
theorem rowI_of_holds {w : World} {G : Nat} {d : Array Itm} (h : HoldsK Itm.cells 7 w G 0 d) (h0 : 0 < d.size) : RowI w G d.size := by
  have h1 := (h.cell (i := d.size - 1) (c := 6) (by omega) (by omega)).1
  obtain ⟨cs, t, fr, hb, hsz⟩ := cell_block h1
  refine ⟨cs, t, fr, hb, by omega, fun k hk => ?_⟩
  have h2 := (h.cell (i := k) (c := 6) hk (by omega)).2
  rw [Nat.zero_add] at h2
  exact h2
end Go.Proofs.YtccllmkijnmooaaGreatDoor

namespace Go.Proofs.YtccllmkijnmooaaGreatDoor
open Go.RowKit Go.Shelf Go.Sort Go.Lib

set_option maxHeartbeats 800000 in
theorem cmpI_closure (x y : Itm) (W : World) : Calls Tryz.prog 55 #[x.v, y.v] W fun e w' => e = .returned (.int .i64 (cmpIt x y)) ∧ ∃ q os', w' = grow (W.drewN q) os' := by
  unfold cmpIt Itm.v
  obtain ⟨x0, x1, x2, x3, x4, x5, x6⟩ := x
  obtain ⟨y0, y1, y2, y3, y4, y5, y6⟩ := y
  simp only
  have HC := Lib.hid (fun w => Tryz.strings_Compare x0 y0 w)
  generalize Lib.compareBytes x0.data.toList y0.data.toList = cc at *
  go_enter Tryz.func55, Tryz.ntmps55
  go_wp2_with fail
  refine (HC.out _).mono ?_
  rintro e w' ⟨rfl, rfl⟩
  go_wp2_with fail
  go_ret
  exact ⟨rfl, 0, _, by rw [alloc_eq_grow, alloc_eq_grow, grow_grow]; rfl⟩
theorem cmpI_lays (blk off size : Nat) (w : World) : CmpLays Tryz.prog 55 #[] Itm.cells 7 cmpIt blk off size w :=
  fun _ _ _ _ x y => cmpI_closure x y _
def SortIPost (w : World) (A : Option Addr) (n c : Nat) (l : List Itm) (row : Option Nat) (e : Ending) (w' : World) : Prop :=
  e = .returned (.tuple #[]) ∧ ItemsAt w' A n c (sortIt l) ∧ w.grownBy w' row ∧ (0 < n → ∃ G, A = some ⟨G, 0, none⟩ ∧ RowI w' G n)
set_option maxHeartbeats 800000 in
theorem insIt_zero (A : Option Addr) (c : Nat) (w : World) (F : Value) : Calls Tryz.prog 126 #[.slice A 0 c, .int .i64 0, .int .i64 0, F] w fun e w' => e = .returned (.tuple #[]) ∧ w' = w := by
  go_enter Tryz.func126, Tryz.ntmps126
  go_wp2_with fail
  refine wp_loop_rounds 1 ?_
  rw [rounds_succ]
  go_wp2_with fail
  go_end0
  exact ⟨rfl, rfl⟩
set_option maxHeartbeats 800000 in
theorem insIt_any (base n c : Nat) (A : Option Addr) (l : List Itm) (w : World) (hn : n = l.length) (hn2 : n ≤ 1000) (h : Owns ItemE w base (.slice A n c) l) :
    Calls Tryz.prog 126 #[.slice A n c, .int .i64 0, .int .i64 n, .func (.func 55) #[] #[]] w (SortIPost w A n c l (Value.slice A n c).ownBlock) := by
  subst hn
  rcases Nat.eq_zero_or_pos l.length with h0 | h0
  · have hl := List.eq_nil_of_length_eq_zero h0
    subst hl
    obtain ⟨A', c', he, hcc, hat, _⟩ := h.at_ itemE_ok
    simp only [Value.slice.injEq] at he
    obtain ⟨rfl, _, rfl⟩ := he
    refine (insIt_zero A c w _).mono ?_
    rintro e w' ⟨rfl, hw⟩
    rw [hw]
    exact ⟨rfl, by rw [sortIt_nil]; exact hat, World.grownBy.refl _ _, fun h => absurd h (by simp)⟩
  · obtain ⟨g, c', he, hgb, hgl, _⟩ := h.where_ itemE_ok h0
    simp only [Value.slice.injEq] at he
    obtain ⟨rfl, _, rfl⟩ := he
    obtain ⟨A', c', he, hcc, hat, _⟩ := h.at_ itemE_ok
    simp only [Value.slice.injEq] at he
    obtain ⟨rfl, _, rfl⟩ := he
    have hlc := hat.2.1
    have hH := h.holdsS itemE_ok
    have eg : ∀ args w, (callFunc 55 args).run Tryz.prog w = .ok (.enter 55 args) w := enters_of Tryz.func55 (by kernel_rfl) rfl
    have hcon := AnyQ.insertionSortCmpFunc Tryz.inQ126 7 Tryz.isAgg35 Tryz.sizeOf35 Itm.cells (fun _ => rfl)
      (fun x v hv => itemE_ok.one x v hv) cmpIt 55 #[] g 0 c 0 l.length l.toArray w eg (cmpI_lays g 0 _ w) hH hgl (Nat.zero_le _) (by simp) (by simp; omega)
    have hsz : l.toArray.size = l.length := by simp
    rw [hsz] at hcon
    refine Calls.mono hcon ?_
    rintro e w' ⟨rfl, q, os, rfl⟩
    have hs : (insertionSort (ltOf cmpIt) l.toArray 0 l.length).size = l.length := sortIt_size l
    have hH' := holdsK_sortWorldK_c Itm.cells 7 w g 0 l.toArray _ q os hH hgl (by rw [hs, hsz])
    have hel := elems_of_holdsS itemE_ok (c := c) hH' (Nat.lt_of_lt_of_le hgl (size_sortWorldK_c Itm.cells 7 w g 0 q _ os)) (by rw [hs]; exact hlc)
    have hro := rowI_of_holds hH' (by rw [hs]; exact h0)
    rw [hs] at hel hro
    exact ⟨rfl, hel, grown_sortS Itm.cells 7 w g 0 q _ os, fun _ => ⟨g, rfl, hro⟩⟩
set_option maxHeartbeats 1600000 in
set_option maxRecDepth 100000 in
theorem pdqIt_any (base n c : Nat) (A : Option Addr) (l : List Itm) (lim : Int) (w : World) (hn : n = l.length) (hn2 : n ≤ 12) (h : Owns ItemE w base (.slice A n c) l) :
    Calls Tryz.prog 88 #[.slice A n c, .int .i64 0, .int .i64 n, .int .i64 lim, .func (.func 55) #[] #[]] w (SortIPost w A n c l (Value.slice A n c).ownBlock) := by
  have HN := Lib.hid hn; clear hn
  have HI := Lib.hid (insIt_any base n c A l w HN.out (by omega) h)
  clear h
  have h12 : ¬ (12 : Int) < (n : Int) := by omega
  have h12' : (n : Int) ≤ 12 := by omega
  go_enter Tryz.func88, Tryz.ntmps88
  go_wp2_with fail
  refine wp_loop_rounds 1 ?_
  rw [rounds_succ]
  go_wp2_with fail
  refine HI.out.mono ?_
  rintro e w' ⟨rfl, h1, h2, h3⟩
  clear HI
  go_wp2_with fail
  go_end0
  exact ⟨rfl, h1, h2, h3⟩
set_option maxHeartbeats 800000 in
theorem sortFuncI_any (base n c : Nat) (A : Option Addr) (l : List Itm) (w : World) (hn : n = l.length) (hn2 : n ≤ 12) (h : Owns ItemE w base (.slice A n c) l) :
    Calls Tryz.prog 54 #[.slice A n c, .func (.func 55) #[] #[]] w (SortIPost w A n c l (Value.slice A n c).ownBlock) := by
  have HI := Lib.hid (fun lim => pdqIt_any base n c A l lim w hn hn2 h); clear h hn
  have HB := Lib.hid (fun W : World => Tryz.bits_Len (n : Int) W (by omega) (by omega))
  go_enter Tryz.func54, Tryz.ntmps54
  go_wp2_with fail
  refine (HB.out _).mono ?_
  rintro e w' ⟨rfl, hw⟩
  obtain rfl := hw
  go_wp2_with fail
  refine (HI.out _).mono ?_
  rintro e w' ⟨rfl, h1, h2, h3⟩
  go_wp2_with fail
  go_end0
  exact ⟨rfl, h1, h2, h3⟩
end Go.Proofs.YtccllmkijnmooaaGreatDoor

namespace Go.Proofs.YtccllmkijnmooaaGreatDoor
open Go.RowKit Go.Maps

def WholePost (w : World) (b : Bool) (e : Ending) (w' : World) : Prop := e = .returned (.bool b) ∧ Below w.heap.size w w'
theorem SMapAt.hitN {w : World} {M m q : Nat} {l : List Itm} {p : Nat → Bool} {z : Itm} {id : ByteArray} (h : SMapAt w M m l p) (hid : id.size ≤ 1000000) (hf : findI l id = some q) (hp : p q = true) (hz : l[q]? = some z) (N : Nat) :
    (Instr.lookup 49 (.map (some M)) (.string id) true).run Tryz.prog (w.drewN N) = .ok (.tuple #[.agg #[.string z.id, .string z.cu, .int .i64 z.kind, .string z.name, .int .i64 z.at_, .string z.par, .string z.text], .bool true]) (w.drewN N) := by
  have := h.look2 id hid N
  rw [valS_of hf hp hz, hasS_of hf, hp] at this
  exact this
theorem SMapAt.missN {w : World} {M m : Nat} {l : List Itm} {p : Nat → Bool} {id : ByteArray} (h : SMapAt w M m l p) (hid : id.size ≤ 1000000) (hf : hasS l p id = false) (N : Nat) :
    (Instr.lookup 49 (.map (some M)) (.string id) true).run Tryz.prog (w.drewN N) = .ok (.tuple #[.agg #[.string ⟨#[]⟩, .string ⟨#[]⟩, .int .i64 0, .string ⟨#[]⟩, .int .i64 0, .string ⟨#[]⟩, .string ⟨#[]⟩], .bool false]) (w.drewN N) := by
  have := h.look2 id hid N
  rw [valS_not hf, hf] at this
  exact this
set_option maxHeartbeats 3200000 in
set_option maxRecDepth 100000 in
theorem complete_any (g M mm i : Nat) (p : Nat → Bool) (x : Itm) (l : List Itm) (w : World) (hg : StoB w g M) (hM : SMapAt w M mm l p) (hl : SetI l) (hx : l[i]? = some x) :
    Calls Tryz.prog 53 #[.pointer (some ⟨g, 0, none⟩), x.v] w (WholePost w (wholeS l p i)) := by
  have HL := Lib.hid hl
  have HX := Lib.hid hx
  have HIL : Hid (i < l.length) := (List.getElem?_eq_some_iff.1 hx).1
  have hb1 : Below w.heap.size w (w.alloc (.cells #[.string x.id, .string x.cu, .int .i64 x.kind, .string x.name, .int .i64 x.at_, .string x.par, .string x.text] 35)) := (Below.refl _ _).alloc (Nat.le_refl _) _
  have HI1 : Hid (ItemAt (w.alloc (.cells #[.string x.id, .string x.cu, .int .i64 x.kind, .string x.name, .int .i64 x.at_, .string x.par, .string x.text] 35)) w.heap.size x) := item_new w x
  have HG1 := Lib.hid (hg.keep hb1)
  have HM1 := Lib.hid (hM.below hb1)
  have HB1 := Lib.hid hb1
  have HGL := Lib.hid hg.lt
  have HML := Lib.hid hM.lt
  unfold Itm.v
  clear hM hl hx hb1 hg
  go_enter Tryz.func53, Tryz.ntmps53
  go_wp2_with fail
  obtain ⟨P, hP⟩ : ∃ P, P = w.heap.size := ⟨_, rfl⟩
  rw [← hP] at HI1 ⊢
  have HPW := Lib.hid hP
  generalize w.alloc (.cells #[.string x.id, .string x.cu, .int .i64 x.kind, .string x.name, .int .i64 x.at_, .string x.par, .string x.text] 35) = w1 at *
  clear hP
  go_loopg [5, 6] (l.length + 1) (fun gk _ _ wr => ∃ (m j : Nat) (y : Itm), Hid (m + gk = l.length + 1) ∧ Hid (upI l m i = some j) ∧ Hid (l[j]? = some y) ∧ Hid (ItemAt wr P y) ∧ Hid (SMapAt wr M mm l p) ∧ Hid (StoB wr g M) ∧ Hid (m ≤ (chainI l (l.length + 1) i).length) ∧ Hid (∀ j q, j < m → upI l (j + 1) i = some q → p q = true) ∧ Hid (Below w.heap.size w wr))
  case atStart => exact ⟨0, i, x, show 0 + _ = _ by omega, show _ = _ from rfl, HX.out, HI1.out, HM1.out, HG1.out, Nat.zero_le _, (fun j q h => absurd h (Nat.not_lt_zero _)), HB1.out⟩
  case round =>
    obtain ⟨m, j, y, HK, HU, HY, HIY, HM, HG, HC, HQ, HB⟩ := hrel
    clear HI1 HM1 HG1 HB1
    have hcs := chain_short HL.out.ok.tree.loop i
    have hml : m < l.length + 1 := Nat.lt_of_le_of_lt HC.out hcs
    have HGK := Lib.hid (show m + 1 + (gk - 1) = l.length + 1 ∧ 0 < gk by have := HK.out; omega)
    have hmem := List.mem_of_getElem? HY.out
    have hps := ((HL.out.ok.each y hmem).small).2.2.2.1
    obtain ⟨c0, c1, c2, c3, c4, c5, c6⟩ := HIY.out.c
    by_cases hp : y.par.data.toList = []
    · have HF : Hid (WholePost w (wholeS l p i) (.returned (.bool true)) wr) := by
        refine ⟨?_, HB.out⟩
        rw [wholeS_end (chain_done HU.out (parI_nil HY.out hp) (by omega)) HQ.out]
      obtain ⟨q1, q2, q3⟩ := par_emptyL hp
      clear hp hps hmem hcs
      go_wp2_with fail
      go_ret
      exact HF.out
    · obtain ⟨q, hq⟩ : ∃ q, findI l y.par = some q := by
        rcases HL.out.ok.par y hmem with h | h
        · exact absurd h hp
        · exact Option.isSome_iff_exists.1 h
      have HUN : Hid (upI l (m + 1) i = some q) := by show _ = _; rw [upI, HU.out]; show parI l j = some q; rw [parI_of HY.out hp, hq]
      obtain ⟨q1, q2, q3⟩ := par_fullL hp
      have gc := HG.out.c
      cases hpq : p q with
      | false =>
        have HF : Hid (wholeS l p i = false) := wholeS_not hml HUN.out hpq
        have hlk := HM.out.missN hps (by rw [hasS_of hq]; exact hpq)
        have hb1 : Below wr.heap.size wr (wr.alloc (.cells #[.string ⟨#[]⟩, .string ⟨#[]⟩, .int .i64 0, .string ⟨#[]⟩, .int .i64 0, .string ⟨#[]⟩, .string ⟨#[]⟩] 35)) := (Below.refl _ _).alloc (Nat.le_refl _) _
        have hlk1 := (HM.out.below hb1).missN hps (by rw [hasS_of hq]; exact hpq)
        have hlkA : (Instr.lookup 49 (.map (some M)) (.string y.par) true).run Tryz.prog wr.drew = .ok (.tuple #[.agg #[.string ⟨#[]⟩, .string ⟨#[]⟩, .int .i64 0, .string ⟨#[]⟩, .int .i64 0, .string ⟨#[]⟩, .string ⟨#[]⟩], .bool false]) wr.drew := hlk 1
        have hlkB : (Instr.lookup 49 (.map (some M)) (.string y.par) true).run Tryz.prog (wr.alloc (.cells #[.string ⟨#[]⟩, .string ⟨#[]⟩, .int .i64 0, .string ⟨#[]⟩, .int .i64 0, .string ⟨#[]⟩, .string ⟨#[]⟩] 35)).drew = .ok (.tuple #[.agg #[.string ⟨#[]⟩, .string ⟨#[]⟩, .int .i64 0, .string ⟨#[]⟩, .int .i64 0, .string ⟨#[]⟩, .string ⟨#[]⟩], .bool false]) (wr.alloc (.cells #[.string ⟨#[]⟩, .string ⟨#[]⟩, .int .i64 0, .string ⟨#[]⟩, .int .i64 0, .string ⟨#[]⟩, .string ⟨#[]⟩] 35)).drew := hlk1 1
        have gc1 := (HG.out.keep hb1).c
        clear hlk hlk1
        obtain ⟨d0, d1, d2, d3, d4, d5, d6⟩ := (HIY.out.keep hb1).c
        clear hp hps hmem hcs hq hpq hb1
        have HF2 : Hid (WholePost w (wholeS l p i) (.returned (.bool false)) (wr.alloc (.cells #[.string ⟨#[]⟩, .string ⟨#[]⟩, .int .i64 0, .string ⟨#[]⟩, .int .i64 0, .string ⟨#[]⟩, .string ⟨#[]⟩] 35)).drew) := ⟨by rw [HF.out], below_drewN (HB.out.alloc HB.out.size _) 1⟩
        go_wp2_with fail
        go_region
        all_goals
          go_wp2_with fail
          go_ret
          exact HF2.out
      | true =>
        obtain ⟨z, hz, hze, _⟩ := findI_some hq
        have HZ := Lib.hid hz
        have HC1 : Hid (m + 1 ≤ (chainI l (l.length + 1) i).length) := chain_ge (f := l.length + 1) HUN.out (by omega)
        have HQ1 : Hid (∀ j' q', j' < m + 1 → upI l (j' + 1) i = some q' → p q' = true) := fun j' q' hj hu => by
          by_cases e : j' = m
          · subst e
            rw [HUN.out] at hu
            have e2 := Option.some.inj hu
            subst e2
            exact hpq
          · exact HQ.out j' q' (by omega) hu
        have hlk := HM.out.hitN hps hq hpq hz
        have hb1 : Below wr.heap.size wr (wr.alloc (.cells #[.string ⟨#[]⟩, .string ⟨#[]⟩, .int .i64 0, .string ⟨#[]⟩, .int .i64 0, .string ⟨#[]⟩, .string ⟨#[]⟩] 35)) := (Below.refl _ _).alloc (Nat.le_refl _) _
        have hlk1 := (HM.out.below hb1).hitN hps hq hpq hz
        have hlkA : (Instr.lookup 49 (.map (some M)) (.string y.par) true).run Tryz.prog wr.drew = .ok (.tuple #[.agg #[.string z.id, .string z.cu, .int .i64 z.kind, .string z.name, .int .i64 z.at_, .string z.par, .string z.text], .bool true]) wr.drew := hlk 1
        have hlkB : (Instr.lookup 49 (.map (some M)) (.string y.par) true).run Tryz.prog (wr.alloc (.cells #[.string ⟨#[]⟩, .string ⟨#[]⟩, .int .i64 0, .string ⟨#[]⟩, .int .i64 0, .string ⟨#[]⟩, .string ⟨#[]⟩] 35)).drew = .ok (.tuple #[.agg #[.string z.id, .string z.cu, .int .i64 z.kind, .string z.name, .int .i64 z.at_, .string z.par, .string z.text], .bool true]) (wr.alloc (.cells #[.string ⟨#[]⟩, .string ⟨#[]⟩, .int .i64 0, .string ⟨#[]⟩, .int .i64 0, .string ⟨#[]⟩, .string ⟨#[]⟩] 35)).drew := hlk1 1
        have gc1 := (HG.out.keep hb1).c
        obtain ⟨d0, d1, d2, d3, d4, d5, d6⟩ := (HIY.out.keep hb1).c
        have hb2 : Below wr.heap.size wr (wr.alloc (.cells #[.string z.id, .string z.cu, .int .i64 z.kind, .string z.name, .int .i64 z.at_, .string z.par, .string z.text] 35)).drew := below_drewN ((Below.refl _ _).alloc (Nat.le_refl _) _) 1
        have HIZ : Hid (ItemAt (wr.alloc (.cells #[.string z.id, .string z.cu, .int .i64 z.kind, .string z.name, .int .i64 z.at_, .string z.par, .string z.text] 35)).drew wr.heap.size z) := item_new wr z
        have HIY1 := Lib.hid (HIY.out.keep hb2)
        have HM1 := Lib.hid (HM.out.below hb2)
        have HG1 := Lib.hid (HG.out.keep hb2)
        have HB1 := Lib.hid (HB.out.trans (hb2.mono HB.out.size))
        have HPZ : Hid (P < wr.heap.size ∧ g < wr.heap.size) := ⟨HIY.out.lt, HG.out.lt⟩
        clear hp hps hmem hcs hq hpq hb1 hb2 hlk hlk1 hz hze HK HM HG HB HQ HC
        go_wp2_with fail
        go_region
        all_goals
          clear hlkA hlkB gc1 d0 d1 d2 d3 d4 d5 d6 c0 c1 c2 c3 c4 c5 c6 q1 q2 q3 gc HIY
          obtain ⟨Q, hQ⟩ : ∃ Q, Q = wr.heap.size := ⟨_, rfl⟩
          rw [← hQ] at HIZ HPZ ⊢
          generalize (wr.alloc (.cells #[.string z.id, .string z.cu, .int .i64 z.kind, .string z.name, .int .i64 z.at_, .string z.par, .string z.text] 35)).drew = w2 at *
          clear hQ
          obtain ⟨c0, c1, c2, c3, c4, c5, c6⟩ := HIY1.out.c
          obtain ⟨d0, d1, d2, d3, d4, d5, d6⟩ := HIZ.out.c
          have ff := HIY1.out.fr
          have f0 := ff 0; have f1 := ff 1; have f2 := ff 2; have f3 := ff 3; have f4 := ff 4; have f5 := ff 5; have f6 := ff 6
          clear ff
          have HS3 := Lib.hid (ItemAt.setAll (z := z) HIY1.out)
          have HGR := Lib.hid (grown_setAll w2 P z)
          have HM3 := Lib.hid (HM1.out.kept HGR.out (fun e => by have := Option.some.inj e; have := HML.out; have := HPW.out; omega))
          have HG3 := Lib.hid (HG1.out.kept HGR.out (fun e => by have := Option.some.inj e; have := HGL.out; have := HPW.out; omega))
          have HB3 : Hid (Below w.heap.size w _) := HB1.out.grown HGR.out HB1.out.size (fun i e => by have := Option.some.inj e; have := HPW.out; omega)
          go_wp2_with fail
          go_roundg (gk - 1)
          case measure => exact Nat.sub_lt HGK.out.2 Nat.one_pos
          case rel => exact ⟨m + 1, q, z, HGK.out.1, HUN.out, HZ.out, HS3.out, HM3.out, HG3.out, HC1.out, HQ1.out, HB3.out⟩
end Go.Proofs.YtccllmkijnmooaaGreatDoor

namespace Go.Proofs.YtccllmkijnmooaaGreatDoor
open Go.RowKit Go.Maps
attribute [local go_sem ↓] Go.wp_at_zero Go.wp_at_succ

/-- The items of a store that are whole, or those that are not. -/
def someQ (l : List Itm) (p : Nat → Bool) (b : Bool) : Nat → Bool := fun k => p k && (wholeS l p k == b)
theorem someQ_full {l : List Itm} {p : Nat → Bool} (h : ∀ k, k < l.length → p k = true) : pickS l (someQ l p true) = l :=
  pickS_all fun k hk => by unfold someQ; rw [h k hk, wholeS_all h k]; rfl
theorem someQ_none {l : List Itm} {p : Nat → Bool} (h : ∀ k, k < l.length → p k = true) : pickS l (someQ l p false) = [] := by
  unfold pickS
  have e : (List.range l.length).filter (someQ l p false) = [] := List.filter_eq_nil_iff.2 (fun k hk => by
    unfold someQ
    rw [wholeS_all h k, Bool.and_comm]
    simp)
  rw [e]
  rfl
/-- A new row of items. -/
def SomePost (w : World) (xs : List Itm) (e : Ending) (w' : World) : Prop :=
  ∃ (A : Option Addr) (c : Nat), e = .returned (.slice A xs.length c) ∧ ItemsAt w' A xs.length c xs ∧ Below w.heap.size w w' ∧ (0 < xs.length → ∃ G, A = some ⟨G, 0, none⟩ ∧ w.heap.size ≤ G ∧ RowI w' G xs.length)
set_option maxHeartbeats 6400000 in
set_option maxRecDepth 100000 in
theorem some_any (g M mm : Nat) (p : Nat → Bool) (b : Bool) (l : List Itm) (w : World) (hg : StoB w g M) (hM : SMapAt w M mm l p) (hl : SetR l) (h12 : l.length ≤ 12) :
    Calls Tryz.prog 24 #[.pointer (some ⟨g, 0, none⟩), .bool b] w (SomePost w (pickS l (someQ l p b))) := by
  obtain ⟨D, h1, h2, h3⟩ := hM.ex
  have HL := Lib.hid hl
  have H12 := Lib.hid h12
  have H2 := Lib.hid h2
  have H3 := Lib.hid h3
  have HOWN := Lib.hid h1
  have HM := Lib.hid hM
  have HG := Lib.hid hg
  have HML := Lib.hid hM.lt
  have HNEXT : Hid (∀ (x : List UInt8) (ya : DataW Value) (cb : Value), has D (.string x) = true → (∀ zd, D.atKey (.string x) zd = ya) → ya = .held cb → ∃ k z, l[k]? = some z ∧ p k = true ∧ z.id = ⟨x.toArray⟩ ∧ cb = z.v) := by
    show ∀ (x : List UInt8) (ya : DataW Value) (cb : Value), has D (.string x) = true → (∀ zd, D.atKey (.string x) zd = ya) → ya = .held cb → ∃ k z, l[k]? = some z ∧ p k = true ∧ z.id = ⟨x.toArray⟩ ∧ cb = z.v
    intro x ya cb hh ha hy
    rw [H3.out] at hh
    obtain ⟨k, z, hz, hp, hx, hf⟩ := key_item hh
    have e := ha (.held itemZ)
    rw [H2.out, valS_of hf hp hz, hy] at e
    simp only [DataW.held.injEq] at e
    exact ⟨k, z, hz, hp, hx, e.symm⟩
  have c0 := HG.out.c
  clear hM hl h1 h2 h3 h12 hg
  go_enter Tryz.func24, Tryz.ntmps24
  go_wp2_with (at_range; refine wpList_range_own _ rfl _ 49 rfl 9 35 keyS Tryz.underlying49 _ M mm _ rfl HOWN.out ?_; intro w6 hrg6 hg6 hs6)
  go_frame
  have HB6 : Hid (Below w.heap.size w w6) := (Below.refl _ _).grown hg6 (Nat.le_refl _) (fun i hi => by cases hi)
  have HRG6 := Lib.hid hrg6
  obtain ⟨R, hR⟩ : ∃ R, R = w.heap.size := ⟨_, rfl⟩
  rw [← hR] at HRG6 ⊢
  have HRB : Hid (w.heap.size ≤ R) := by show _ ≤ _; rw [hR]; exact Nat.le_refl _
  have HON6 : Hid (Owns ItemE w6 w.heap.size (.slice none 0 0) (itemsOf l [])) := Owns.nil _ _
  clear hrg6 hg6 hs6 hR c0
  go_loopg [5, 7] (Maps.size D) (fun gk v5 _ wr => ∃ (left : Lit → Bool) (ks : List Nat), Hid (wr.ranges Tryz.prog 9 heldE M R mm D left gk) ∧ Hid (Owns ItemE wr w.heap.size v5 (itemsOf l ks)) ∧ Hid (TakenS l (fun k => comeS l p left k && (wholeS l p k == b)) ks) ∧ Hid (Below w.heap.size w wr))
  case atStart => exact ⟨_, [], HRG6.out, HON6.out, TakenS.nil (fun k hk => by simp only [comeS_start HL.out.set H3.out k hk, Bool.false_and]), HB6.out⟩
  case round =>
    obtain ⟨left, ks, HRG, HO, HT, HB⟩ := hrel
    clear HRG6 HB6 HON6
    go_wp2_with (at_next; refine wpList_next_ranges _ rfl _ rfl 9 keyS _ (fun x : List UInt8 => Value.string (bag x)) (fun v : Value => v) invK_strS (fun v _ _ => ⟨v, rfl⟩) M R mm _ _ _ rfl HRG.out (Hid.out ?_) (Hid.out ?_))
    · refine Lib.hid ?_
      intro hc0 hl0
      have HTD : Hid (TakenS l (someQ l p b) ks) := by
        have h := HT.out
        rw [comeS_end hl0] at h
        exact h
      have HLEN : Hid ((itemsOf l ks).length ≤ 12) := Nat.le_trans HTD.out.len H12.out
      have HEQ : Hid (sortIt (itemsOf l ks) = pickS l (someQ l p b)) := sort_picked HL.out HTD.out.perm
      have HNL : Hid ((itemsOf l ks).length = (pickS l (someQ l p b)).length) := HTD.out.perm.length_eq
      obtain ⟨A5, c5, hv5, -, -, -⟩ := HO.out.at_ itemE_ok
      subst hv5
      obtain ⟨n5, hn5⟩ : ∃ n5, n5 = (itemsOf l ks).length := ⟨_, rfl⟩
      rw [← hn5] at HO ⊢
      have HN5 : Hid (n5 = (pickS l (someQ l p b)).length) := hn5.trans HNL.out
      have HS := Lib.hid (sortFuncI_any w.heap.size n5 c5 A5 (itemsOf l ks) wr hn5 (by rw [hn5]; exact HLEN.out) HO.out)
      clear hl0 hc0 HRG hn5 HT HTD
      go_wp2_with fail
      refine HS.out.mono ?_
      rintro e w9 ⟨rfl, hat9, hg9, hro9⟩
      have HF : Hid (SomePost w (pickS l (someQ l p b)) (.returned (.slice A5 n5 c5)) w9) := by
        rw [HEQ.out] at hat9
        rw [HN5.out] at hat9 hro9 ⊢
        refine ⟨A5, c5, rfl, hat9, HB.out.grown hg9 HB.out.size (fun i e => (HO.out.lt i e).1), fun h0 => ?_⟩
        obtain ⟨G, hG, hr⟩ := hro9 h0
        subst hG
        exact ⟨G, rfl, (HO.out.lt G rfl).1, hr⟩
      clear hat9 hg9 hro9 HS
      go_wp2_with fail
      go_ret
      exact HF.out
    · refine Lib.hid ?_
      intro x cb kl ya yb w7 cnt7 hkey hlk hRv hat hrg7 hlt7 hg7 hs7 hen
      obtain rfl := key_bagS hkey
      have hya : ya = .held cb := by
        simp only [heldE, Option.some.injEq, Prod.mk.injEq] at hRv
        exact hRv.1.symm
      obtain ⟨k, z, hz, hpk, hzx, hcb⟩ := HNEXT.out x ya cb (has_true_of_atKey hat) hat hya
      subst hcb
      have HZ := Lib.hid hz
      have HKL : Hid (k < l.length) := (List.getElem?_eq_some_iff.1 hz).1
      have HOLD : Hid (comeS l p left k = false) := comeS_old hz hzx hlk
      have HSTEP : Hid (∀ i, i < l.length → comeS l p (fun y => left y && !y.sameKey (.string x)) i = (decide (i = k) || comeS l p left i)) := fun i hi => comeS_step HL.out.set hz hpk hzx i hi
      have HB7 : Hid (Below w.heap.size w w7) := HB.out.grown hg7 HB.out.size (fun i hi => by cases hi; exact HRB.out)
      have HO7 : Hid (Owns ItemE w7 w.heap.size u5 (itemsOf l ks)) := World.ownsRow.kept HO.out hg7 (.inr (owns_ne_range HO.out HRG.out).2)
      have hb8 : Below w7.heap.size w7 (w7.alloc (.cells #[.string z.id, .string z.cu, .int .i64 z.kind, .string z.name, .int .i64 z.at_, .string z.par, .string z.text] 35)) := (Below.refl _ _).alloc (Nat.le_refl _) _
      have HRG8 := Lib.hid (hrg7.alloc (.cells #[.string z.id, .string z.cu, .int .i64 z.kind, .string z.name, .int .i64 z.at_, .string z.par, .string z.text] 35))
      have HI8 : Hid (ItemAt (w7.alloc (.cells #[.string z.id, .string z.cu, .int .i64 z.kind, .string z.name, .int .i64 z.at_, .string z.par, .string z.text] 35)) w7.heap.size z) := item_new w7 z
      have HB8 : Hid (Below w.heap.size w (w7.alloc (.cells #[.string z.id, .string z.cu, .int .i64 z.kind, .string z.name, .int .i64 z.at_, .string z.par, .string z.text] 35))) := HB7.out.trans (hb8.mono HB7.out.size)
      have HO8 := Lib.hid (HO7.out.below_ hb8)
      have HM8 := Lib.hid (HM.out.below HB8.out)
      have HG8 := Lib.hid (HG.out.keep HB8.out)
      unfold Itm.v at hen
      clear hkey hlk hRv hat hrg7 hg7 hs7 hya hz hpk hzx HRG HB HB7 HO HO7 hb8
      go_upto_region 5 with (fail)
      obtain ⟨P, hP⟩ : ∃ P, P = w7.heap.size := ⟨_, rfl⟩
      rw [← hP] at HI8 ⊢
      generalize w7.alloc (.cells #[.string z.id, .string z.cu, .int .i64 z.kind, .string z.name, .int .i64 z.at_, .string z.par, .string z.text] 35) = w8 at *
      clear hP hen
      obtain ⟨c0, c1, c2, c3, c4, c5, c6⟩ := HI8.out.c
      have HCM0 := complete_any g M mm k p z l w8 HG8.out HM8.out HL.out.set HZ.out
      unfold Itm.v at HCM0
      have hbb : wholeS l p k = b ∨ wholeS l p k = !b := by cases wholeS l p k <;> cases b <;> simp
      rcases hbb with hwb | hwb
      · have HWB := Lib.hid hwb
        rw [hwb] at HCM0
        have HCM := Lib.hid HCM0
        clear HCM0 hwb
        have hlen := HT.out.len
        have h12' := H12.out
        go_wp2_with fail
        refine HCM.out.mono ?_
        rintro e w9 ⟨rfl, hb9⟩
        have HRG9 := Lib.hid (HRG8.out.kept (below_grown hb9 none) (by simp) (by simp))
        have HB9 := Lib.hid (HB8.out.trans (hb9.mono HB8.out.size))
        have HO9 := Lib.hid (HO8.out.below_ hb9)
        have HI9 := Lib.hid (HI8.out.keep hb9)
        have HWZ : Hid (w.heap.size ≤ w9.heap.size) := HB9.out.size
        clear HCM hb9 HRG8 HB8 HO8 HI8 c0 c1 c2 c3 c4 c5 c6
        obtain ⟨c0, c1, c2, c3, c4, c5, c6⟩ := HI9.out.c
        have HTN : Hid (TakenS l (fun i => comeS l p (fun y => left y && !y.sameKey (.string x)) i && (wholeS l p i == b)) (ks ++ [k])) := by
          refine TakenS.snoc HT.out HKL.out (by simp only [HOLD.out, Bool.false_and]) (fun i hi => ?_)
          simp only [HSTEP.out i hi]
          by_cases e : i = k
          · subst e
            simp [HWB.out]
          · simp [e]
        go_wp2_with (at_builtin; refine append_elems itemE_ok rfl _ _ rfl w.heap.size _ (itemsOf l ks) rfl (World.ownsRow.alloc HO9.out _) (some ⟨w9.heap.size, 0, none⟩) 1 1 [z] rfl (one_elem (E := ItemE) w9 z) (by simp; omega) (by have := HWZ.out; simp; omega) ?_; intro v10 w10 hown10 hgrow10 _)
        have hne := owns_ne_range (World.ownsRow.alloc HO9.out (.cells (ItemE.enc z).toArray ItemE.t)) (HRG9.out.alloc (.cells (ItemE.enc z).toArray ItemE.t))
        have HRG10 := Lib.hid ((HRG9.out.alloc (.cells (ItemE.enc z).toArray ItemE.t)).kept hgrow10 (Ne.symm hne.1) (Ne.symm hne.2))
        have HB10 : Hid (Below w.heap.size w w10) := (HB9.out.alloc HB9.out.size _).grown hgrow10 (by have := HB9.out.size; simp; omega) (fun i hi => (HO9.out.lt i hi).1)
        have HO10 : Hid (Owns ItemE w10 w.heap.size v10 (itemsOf l (ks ++ [k]))) := by show Owns _ _ _ _ _; rw [itemsOf_snoc HZ.out]; exact hown10
        clear hown10 hgrow10 hne HRG9 HB9 HO9 HI9 c0 c1 c2 c3 c4 c5 c6
        go_wp2_with fail
        go_roundg cnt7
        case measure => exact hlt7
        case rel => exact ⟨_, ks ++ [k], HRG10.out, HO10.out, HTN.out, HB10.out⟩
      · have HWB := Lib.hid hwb
        rw [hwb] at HCM0
        have HCM := Lib.hid HCM0
        clear HCM0 hwb
        have HTN : Hid (TakenS l (fun i => comeS l p (fun y => left y && !y.sameKey (.string x)) i && (wholeS l p i == b)) ks) := by
          refine TakenS.skip HT.out (fun i hi => ?_)
          simp only [HSTEP.out i hi]
          by_cases e : i = k
          · subst e
            simp [HWB.out, HOLD.out]
          · simp [e]
        cases b
        all_goals
          go_wp2_with fail
          refine HCM.out.mono ?_
          rintro e w9 ⟨rfl, hb9⟩
          have HRG9 := Lib.hid (HRG8.out.kept (below_grown hb9 none) (by simp) (by simp))
          have HB9 := Lib.hid (HB8.out.trans (hb9.mono HB8.out.size))
          have HO9 := Lib.hid (HO8.out.below_ hb9)
          clear HCM hb9 HRG8 HB8 HO8 HI8 c0 c1 c2 c3 c4 c5 c6
          go_wp2_with fail
          go_roundg cnt7
          case measure => exact hlt7
          case rel => exact ⟨_, ks, HRG9.out, HO9.out, HTN.out, HB9.out⟩
set_option maxHeartbeats 800000 in
theorem items_any (g M mm : Nat) (p : Nat → Bool) (l : List Itm) (w : World) (hg : StoB w g M) (hM : SMapAt w M mm l p) (hl : SetR l) (h12 : l.length ≤ 12) :
    Calls Tryz.prog 9 #[.pointer (some ⟨g, 0, none⟩)] w (SomePost w (pickS l (someQ l p true))) := by
  have HS := Lib.hid (some_any g M mm p true l w hg hM hl h12)
  clear hg hM hl h12
  generalize pickS l (someQ l p true) = xs at *
  go_enter Tryz.func9, Tryz.ntmps9
  go_wp2_with fail
  refine HS.out.mono ?_
  rintro e w1 ⟨A, c, rfl, h1, h2, h3⟩
  have HF : Hid (SomePost w xs (.returned (.slice A xs.length c)) w1) := ⟨A, c, rfl, h1, h2, h3⟩
  clear HS h1 h2 h3
  go_wp2_with fail
  go_ret
  exact HF.out
set_option maxHeartbeats 800000 in
theorem waiting_any (g M mm : Nat) (p : Nat → Bool) (l : List Itm) (w : World) (hg : StoB w g M) (hM : SMapAt w M mm l p) (hl : SetR l) (h12 : l.length ≤ 12) :
    Calls Tryz.prog 15 #[.pointer (some ⟨g, 0, none⟩)] w (SomePost w (pickS l (someQ l p false))) := by
  have HS := Lib.hid (some_any g M mm p false l w hg hM hl h12)
  clear hg hM hl h12
  generalize pickS l (someQ l p false) = xs at *
  go_enter Tryz.func15, Tryz.ntmps15
  go_wp2_with fail
  refine HS.out.mono ?_
  rintro e w1 ⟨A, c, rfl, h1, h2, h3⟩
  have HF : Hid (SomePost w xs (.returned (.slice A xs.length c)) w1) := ⟨A, c, rfl, h1, h2, h3⟩
  clear HS h1 h2 h3
  go_wp2_with fail
  go_ret
  exact HF.out
end Go.Proofs.YtccllmkijnmooaaGreatDoor

namespace Go.Proofs.YtccllmkijnmooaaGreatDoor
open Go.RowKit Go.Maps

def NewSPost (w : World) (e : Ending) (w' : World) : Prop := ∃ g M, e = .returned (.pointer (some ⟨g, 0, none⟩)) ∧ w.heap.size ≤ g ∧ w.heap.size ≤ M ∧ StoB w' g M ∧ (∀ l, SMapAt w' M 0 l (fun _ => false)) ∧ Below w.heap.size w w'
set_option maxHeartbeats 800000 in
theorem newS_any (w : World) : Calls Tryz.prog 6 #[] w (NewSPost w) := by
  have hmm := @run_makeMap Tryz.prog
  have hb1 : Below w.heap.size w (w.alloc (.map #[] 0)) := (Below.refl _ _).alloc (Nat.le_refl _) _
  have hz1 : (w.alloc (.map #[] 0)).heap.size = w.heap.size + 1 := by simp
  have HP : Hid (NewSPost w (.returned (.pointer (some ⟨w.heap.size + 1, 0, none⟩))) ((w.alloc (.map #[] 0)).alloc (.cells #[.map (some w.heap.size)] 51))) := by
    refine ⟨w.heap.size + 1, w.heap.size, rfl, by omega, Nat.le_refl _, ?_, fun l => (SMapAt.start w l).below ((Below.refl _ _).alloc (Nat.le_refl _) _), hb1.alloc hb1.size _⟩
    have := heap_alloc_new (w.alloc (.map #[] 0)) (.cells #[.map (some w.heap.size)] 51)
    rw [hz1] at this
    exact this
  clear hb1 hz1
  go_enter Tryz.func6, Tryz.ntmps6
  go_wp2_with fail
  go_ret
  exact HP.out
end Go.Proofs.YtccllmkijnmooaaGreatDoor

namespace Go.Proofs.YtccllmkijnmooaaGreatDoor
open Go.RowKit Go.Maps

/-- The store at block g has the items of l that p names; no more than N stores were made into its map. -/
def StoAt (w : World) (g N : Nat) (l : List Itm) (p : Nat → Bool) : Prop := ∃ M m, StoB w g M ∧ SMapAt w M m l p ∧ m ≤ N
theorem StoAt.lt {w : World} {g N : Nat} {l : List Itm} {p : Nat → Bool} (h : StoAt w g N l p) : g < w.heap.size := by
  obtain ⟨M, m, h1, _⟩ := h
  exact h1.lt
theorem StoAt.below {w w' : World} {g N : Nat} {l : List Itm} {p : Nat → Bool} (h : StoAt w g N l p) (hb : Below w.heap.size w w') : StoAt w' g N l p := by
  obtain ⟨M, m, h1, h2, h3⟩ := h
  exact ⟨M, m, h1.keep hb, h2.below hb, h3⟩
/-- A block of cells that is not the store's turned. -/
theorem StoAt.cells {w w' : World} {g N b : Nat} {l : List Itm} {p : Nat → Bool} {cs : Array Value} {t : TypeId} {fr : Nat × Nat} (h : StoAt w g N l p) (hb : w.heap[b]? = some (.cells cs t fr)) (hne : b ≠ g) (hg : w.grownBy w' (some b)) : StoAt w' g N l p := by
  obtain ⟨M, m, h1, h2, h3⟩ := h
  refine ⟨M, m, h1.kept hg (fun e => hne (Option.some.inj e)), h2.kept hg (fun e => ?_), h3⟩
  have e2 := Option.some.inj e
  subst e2
  obtain ⟨D, ⟨es, cl, hb2, _⟩, _⟩ := h2.ex
  rw [hb] at hb2
  cases hb2
theorem StoAt.other {w w' : World} {g N g' N' : Nat} {l l' : List Itm} {p p' : Nat → Bool} (h : StoAt w g N l p) (h' : StoAt w g' N' l' p') (hne : g' ≠ g) (hg : w.grownBy w' (some g')) : StoAt w' g N l p := by
  obtain ⟨M, m, h1, _⟩ := h'
  exact h.cells h1 hne hg
theorem StoAt.row {w w' : World} {g N G n : Nat} {l : List Itm} {p : Nat → Bool} (h : StoAt w g N l p) (hr : RowI w G n) (hne : G ≠ g) (hg : w.grownBy w' (some G)) : StoAt w' g N l p := by
  obtain ⟨cs, t, fr, h1, _⟩ := hr
  exact h.cells h1 hne hg
theorem StoAt.stream {w w' : World} {g N s n c K : Nat} {A : Option Addr} {l : List Itm} {p : Nat → Bool} (h : StoAt w g N l p) (hs : StreamAt w s A n c K) (hne : s ≠ g) (hg : w.grownBy w' (some s)) : StoAt w' g N l p := by
  obtain ⟨k, _, h1⟩ := hs.blk
  exact h.cells h1 hne hg
theorem StoAt.congr {w : World} {g N : Nat} {l : List Itm} {p q : Nat → Bool} (h : StoAt w g N l p) (e : ∀ k, k < l.length → q k = p k) : StoAt w g N l q := by
  obtain ⟨M, m, h1, h2, h3⟩ := h
  exact ⟨M, m, h1, h2.congr e, h3⟩
theorem StoAt.more {w : World} {g N N' : Nat} {l : List Itm} {p : Nat → Bool} (h : StoAt w g N l p) (hn : N ≤ N') : StoAt w g N' l p := by
  obtain ⟨M, m, h1, h2, h3⟩ := h
  exact ⟨M, m, h1, h2, Nat.le_trans h3 hn⟩
def StoNewPost (w : World) (e : Ending) (w' : World) : Prop := ∃ g, e = .returned (.pointer (some ⟨g, 0, none⟩)) ∧ w.heap.size ≤ g ∧ (∀ l, StoAt w' g 0 l (addS (fun _ => false) [])) ∧ Below w.heap.size w w'
theorem stoNew_any (w : World) : Calls Tryz.prog 6 #[] w (StoNewPost w) := by
  refine (newS_any w).mono ?_
  rintro e w' ⟨g, M, he, h1, h2, h3, h4, h5⟩
  exact ⟨g, he, h1, fun l => ⟨M, 0, h3, by rw [addS_nil]; exact h4 l, Nat.le_refl _⟩, h5⟩
def StoAddPost (w : World) (g N : Nat) (l : List Itm) (p : Nat → Bool) (e : Ending) (w' : World) : Prop :=
  ∃ b : Bool, e = .returned (.tuple #[.bool b, .int .i64 0]) ∧ StoAt w' g N l p ∧ w.grownBy w' (some g)
theorem stoAdd_any (g N k : Nat) (p : Nat → Bool) (l : List Itm) (x : Itm) (w : World) (h : StoAt w g N l p) (hl : SetI l) (hx : l[k]? = some x) (hN : N + 1 ≤ 1000) (hT : Tabs w) (hMx : MaxAt w) :
    Calls Tryz.prog 8 #[.pointer (some ⟨g, 0, none⟩), x.v] w (StoAddPost w g (N + 1) l (addS p [k])) := by
  obtain ⟨M, m, h1, h2, h3⟩ := h
  refine (addS_any g M m k p l x w h1 h2 hl hx (by omega) hT hMx).mono ?_
  rintro e w' ⟨b, M', m', he, a1, a2, a3, a4, a5⟩
  exact ⟨b, he, ⟨M', m', a1, a3, by omega⟩, a5⟩
theorem addS_add (p : Nat → Bool) (a b : List Nat) : addS (addS p a) b = addS p (a ++ b) := by
  funext i
  simp only [addS, List.mem_append, Bool.decide_or, Bool.or_assoc]
theorem addS_full {ks : List Nat} {m : Nat} (h : ks.Perm (List.range m)) (k : Nat) (hk : k < m) : addS (fun _ => false) ks k = true := by
  unfold addS
  rw [Bool.false_or]
  exact decide_eq_true ((h.mem_iff).2 (List.mem_range.2 hk))
theorem stoItems_any (g N : Nat) (p : Nat → Bool) (l : List Itm) (w : World) (h : StoAt w g N l p) (hl : SetR l) (h12 : l.length ≤ 12) :
    Calls Tryz.prog 9 #[.pointer (some ⟨g, 0, none⟩)] w (SomePost w (pickS l (someQ l p true))) := by
  obtain ⟨M, m, h1, h2, _⟩ := h
  exact items_any g M m p l w h1 h2 hl h12
theorem stoWaiting_any (g N : Nat) (p : Nat → Bool) (l : List Itm) (w : World) (h : StoAt w g N l p) (hl : SetR l) (h12 : l.length ≤ 12) :
    Calls Tryz.prog 15 #[.pointer (some ⟨g, 0, none⟩)] w (SomePost w (pickS l (someQ l p false))) := by
  obtain ⟨M, m, h1, h2, _⟩ := h
  exact waiting_any g M m p l w h1 h2 hl h12
end Go.Proofs.YtccllmkijnmooaaGreatDoor

namespace Go.Proofs.YtccllmkijnmooaaGreatDoor
open Go.RowKit

theorem order_nat {ol : List Int} {m : Nat} (h : ol.Perm ((List.range m).map Int.ofNat)) : ∃ ks : List Nat, ol = ks.map Int.ofNat ∧ ks.Perm (List.range m) := by
  refine ⟨ol.map Int.toNat, ?_, ?_⟩
  · rw [List.map_map]
    have : ∀ x ∈ ol, (Int.ofNat ∘ Int.toNat) x = id x := fun x hx => by
      obtain ⟨k, _, rfl⟩ := List.mem_map.1 (h.subset hx)
      rfl
    rw [List.map_congr_left this, List.map_id]
  · have h1 := h.map Int.toNat
    rw [List.map_map] at h1
    have e : (Int.toNat ∘ Int.ofNat) = id := by funext k; rfl
    rw [e, List.map_id] at h1
    exact h1
theorem GoodI.setRS {l : List Itm} (h : GoodI l) : SetR l := by
  refine ⟨⟨h.ok, ?_, by have := h.short; omega⟩, h.rise⟩
  have hr : (l.map fun x => x.id.data.toList).Pairwise fun a b => a ≠ b := h.rise.imp (fun {a b} hab e => by
    subst e
    rw [Bool.or_eq_false_iff] at hab
    simp at hab)
  have : (l.map Itm.id).Pairwise fun a b => a ≠ b := by
    rw [List.pairwise_map] at hr ⊢
    exact hr.imp (fun {a b} hab e => hab (by rw [e]))
  exact this
end Go.Proofs.YtccllmkijnmooaaGreatDoor

namespace Go.Proofs.YtccllmkijnmooaaGreatDoor
open Go.RowKit Go.Maps
attribute [local go_sem ↓] Go.wp_at_zero Go.wp_at_succ

theorem itemsOf_cons {l : List Itm} {ks : List Nat} {k : Nat} {x : Itm} (hx : l[k]? = some x) : itemsOf l (k :: ks) = x :: itemsOf l ks := by
  unfold itemsOf
  rw [List.filterMap_cons_some hx]
theorem itemsOf_places (l : List Itm) : ∀ ks : List Nat, (∀ k ∈ ks, k < l.length) → ks.length = (itemsOf l ks).length ∧ ∀ (j : Nat) (x : Itm), (itemsOf l ks)[j]? = some x → ∃ k : Nat, ks[j]? = some k ∧ l[k]? = some x
  | [], _ => ⟨rfl, fun j x h => by simp [itemsOf] at h⟩
  | k :: ks, h => by
    obtain ⟨x0, hx0⟩ : ∃ x, l[k]? = some x := ⟨_, List.getElem?_eq_getElem (h k (by simp))⟩
    obtain ⟨h1, h2⟩ := itemsOf_places l ks (fun k hk => h k (by simp [hk]))
    rw [itemsOf_cons hx0]
    refine ⟨by simp [h1], fun j x hj => ?_⟩
    match j, hj with
    | 0, hj => exact ⟨k, rfl, by rw [hx0]; simpa using hj⟩
    | j + 1, hj =>
      obtain ⟨k', a, b⟩ := h2 j x (by simpa using hj)
      exact ⟨k', by simpa using a, b⟩
def JoinPost (w : World) (g N : Nat) (l : List Itm) (p : Nat → Bool) (e : Ending) (w' : World) : Prop :=
  ∃ c : Nat, e = .returned (.tuple #[.int .i64 (c : Int), .int .i64 0]) ∧ StoAt w' g N l p ∧ w.grownBy w' (some g)
set_option maxHeartbeats 6400000 in
set_option maxRecDepth 100000 in
theorem join_any (g g2 N N2 : Nat) (p q : Nat → Bool) (l : List Itm) (w : World) (h : StoAt w g N l p) (h' : StoAt w g2 N2 l q) (hl : SetI l) (h12 : l.length ≤ 12) (hN : N + 12 ≤ 1000) :
    Calls Tryz.prog 16 #[.pointer (some ⟨g, 0, none⟩), .pointer (some ⟨g2, 0, none⟩)] w (JoinPost w g (N + 12) l (fun k => p k || q k)) := by
  obtain ⟨M1, m1, hg1, hM1, hm1⟩ := h
  obtain ⟨M, mm, hg, hM, hmm⟩ := h'
  obtain ⟨D, h1, h2, h3⟩ := hM.ex
  have HL := Lib.hid hl
  have H12 := Lib.hid h12
  have HN := Lib.hid hN
  have HM1 := Lib.hid hM1
  have HG1 := Lib.hid hg1
  have HMM1 := Lib.hid hm1
  have H2 := Lib.hid h2
  have H3 := Lib.hid h3
  have HOWN := Lib.hid h1
  have HG := Lib.hid hg
  have HNEXT : Hid (∀ (x : List UInt8) (ya : DataW Value) (cb : Value), has D (.string x) = true → (∀ zd, D.atKey (.string x) zd = ya) → ya = .held cb → ∃ k z, l[k]? = some z ∧ q k = true ∧ z.id = ⟨x.toArray⟩ ∧ cb = z.v) := by
    show ∀ (x : List UInt8) (ya : DataW Value) (cb : Value), has D (.string x) = true → (∀ zd, D.atKey (.string x) zd = ya) → ya = .held cb → ∃ k z, l[k]? = some z ∧ q k = true ∧ z.id = ⟨x.toArray⟩ ∧ cb = z.v
    intro x ya cb hh ha hy
    rw [H3.out] at hh
    obtain ⟨k, z, hz, hp, hx, hf⟩ := key_item hh
    have e := ha (.held itemZ)
    rw [H2.out, valS_of hf hp hz, hy] at e
    simp only [DataW.held.injEq] at e
    exact ⟨k, z, hz, hp, hx, e.symm⟩
  have c0 := HG.out.c
  clear hM hl h1 h2 h3 h12 hg hg1 hM1 hm1 hmm hN
  go_enter Tryz.func16, Tryz.ntmps16
  go_wp2_with (at_range; refine wpList_range_own _ rfl _ 49 rfl 9 35 keyS Tryz.underlying49 _ M mm _ rfl HOWN.out ?_; intro w6 hrg6 hg6 hs6)
  go_frame
  have HB6 : Hid (Below w.heap.size w w6) := (Below.refl _ _).grown hg6 (Nat.le_refl _) (fun i hi => by cases hi)
  have HRG6 := Lib.hid hrg6
  obtain ⟨R, hR⟩ : ∃ R, R = w.heap.size := ⟨_, rfl⟩
  rw [← hR] at HRG6 ⊢
  have HRB : Hid (w.heap.size ≤ R) := by show _ ≤ _; rw [hR]; exact Nat.le_refl _
  have HON6 : Hid (Owns ItemE w6 w.heap.size (.slice none 0 0) (itemsOf l [])) := Owns.nil _ _
  clear hrg6 hg6 hs6 hR c0
  go_loopg [6, 8] (Maps.size D) (fun gk v6 _ wr => ∃ (left : Lit → Bool) (ks : List Nat), Hid (wr.ranges Tryz.prog 9 heldE M R mm D left gk) ∧ Hid (Owns ItemE wr w.heap.size v6 (itemsOf l ks)) ∧ Hid (TakenS l (comeS l q left) ks) ∧ Hid (Below w.heap.size w wr))
  case atStart => exact ⟨_, [], HRG6.out, HON6.out, TakenS.nil (fun k hk => comeS_start HL.out H3.out k hk), HB6.out⟩
  case round =>
    obtain ⟨left, ks, HRG, HO, HT, HB⟩ := hrel
    clear HRG6 HB6 HON6
    go_wp2_with (at_next; refine wpList_next_ranges _ rfl _ rfl 9 keyS _ (fun x : List UInt8 => Value.string (bag x)) (fun v : Value => v) invK_strS (fun v _ _ => ⟨v, rfl⟩) M R mm _ _ _ rfl HRG.out (Hid.out ?_) (Hid.out ?_))
    · refine Lib.hid ?_
      intro hc0 hl0
      have HTD : Hid (TakenS l q ks) := by
        have h := HT.out
        rw [comeS_end hl0] at h
        exact h
      have HLEN : Hid ((itemsOf l ks).length ≤ 12) := Nat.le_trans HTD.out.len H12.out
      have HPL := Lib.hid (itemsOf_places l ks (fun k hk => ((HTD.out.mem k).1 hk).1))
      have HSET : Hid (∀ k, k < l.length → (p k || q k) = addS p ks k) := fun k hk => by
        unfold addS
        congr 1
        rw [Bool.eq_iff_iff, decide_eq_true_iff, HTD.out.mem]
        exact ⟨fun h => ⟨hk, h⟩, fun h => h.2⟩
      obtain ⟨A5, c5, hv5, -, hat5, -⟩ := HO.out.at_ itemE_ok
      subst hv5
      obtain ⟨n5, hn5⟩ : ∃ n5, n5 = (itemsOf l ks).length := ⟨_, rfl⟩
      rw [← hn5] at hat5 ⊢
      have HN5 : Hid (n5 ≤ 12) := by show _ ≤ _; rw [hn5]; exact HLEN.out
      have HG2 := Lib.hid (HG1.out.keep HB.out)
      have HW := Lib.hid (with_any g M1 m1 n5 c5 A5 p l (itemsOf l ks) ks wr HG2.out (HM1.out.below HB.out) HL.out hat5 HPL.out.1 HPL.out.2 (by have := HN5.out; have := HN.out; have := HMM1.out; omega))
      clear hl0 hc0 HRG hn5 HT HTD hat5
      go_wp2_with fail
      refine HW.out.mono ?_
      rintro e w4 ⟨M4, m4, ct, rfl, hM4, hS4, hm4, hb4⟩
      have HG4 := Lib.hid (HG2.out.keep hb4)
      have HB4 := Lib.hid (HB.out.trans (hb4.mono HB.out.size))
      have HS4 := Lib.hid hS4
      have HN4 : Hid (m4 ≤ N + 12) := by have h1 := HN5.out; have h2 := HMM1.out; show _ ≤ _; omega
      have gf := HG4.out.f 0
      have gc := HG4.out.c
      clear hM4 hS4 hm4 hb4 HW
      have HG5 := Lib.hid (HG4.out.set M4)
      have HS5 := Lib.hid (HS4.out.kept (grown_setCell w4 g 0 (.map (some M4))) (fun e => HG4.out.ne_map HS4.out (Option.some.inj e)))
      have HGR : Hid (w.grownBy (w4.setCell ⟨g, 0, none⟩ (.map (some M4))) (some g)) := grown_trans (below_grown HB4.out _) (grown_setCell _ _ _ _)
      have HF : Hid (JoinPost w g (N + 12) l (fun k => p k || q k) (.returned (.tuple #[.int .i64 (ct : Int), .int .i64 0])) (w4.setCell ⟨g, 0, none⟩ (.map (some M4)))) := ⟨ct, rfl, ⟨M4, m4, HG5.out, HS5.out.congr HSET.out, HN4.out⟩, HGR.out⟩
      go_wp2_with fail
      refine bodyPost_ret (v := .tuple #[.int .i64 (ct : Int), .int .i64 0]) (by simp [results, Tryz.results16, go_sem]) rfl ?_
      exact HF.out
    · refine Lib.hid ?_
      intro x cb kl ya yb w7 cnt7 hkey hlk hRv hat hrg7 hlt7 hg7 hs7 hen
      obtain rfl := key_bagS hkey
      have hya : ya = .held cb := by
        simp only [heldE, Option.some.injEq, Prod.mk.injEq] at hRv
        exact hRv.1.symm
      obtain ⟨k, z, hz, hpk, hzx, hcb⟩ := HNEXT.out x ya cb (has_true_of_atKey hat) hat hya
      subst hcb
      have HZ := Lib.hid hz
      have HKL : Hid (k < l.length) := (List.getElem?_eq_some_iff.1 hz).1
      have HOLD : Hid (comeS l q left k = false) := comeS_old hz hzx hlk
      have HSTEP : Hid (∀ i, i < l.length → comeS l q (fun y => left y && !y.sameKey (.string x)) i = (decide (i = k) || comeS l q left i)) := fun i hi => comeS_step HL.out hz hpk hzx i hi
      have HB7 : Hid (Below w.heap.size w w7) := HB.out.grown hg7 HB.out.size (fun i hi => by cases hi; exact HRB.out)
      have HO7 : Hid (Owns ItemE w7 w.heap.size u6 (itemsOf l ks)) := World.ownsRow.kept HO.out hg7 (.inr (owns_ne_range HO.out HRG.out).2)
      have hb8 : Below w7.heap.size w7 (w7.alloc (.cells #[.string z.id, .string z.cu, .int .i64 z.kind, .string z.name, .int .i64 z.at_, .string z.par, .string z.text] 35)) := (Below.refl _ _).alloc (Nat.le_refl _) _
      have HRG8 := Lib.hid (hrg7.alloc (.cells #[.string z.id, .string z.cu, .int .i64 z.kind, .string z.name, .int .i64 z.at_, .string z.par, .string z.text] 35))
      have HI8 : Hid (ItemAt (w7.alloc (.cells #[.string z.id, .string z.cu, .int .i64 z.kind, .string z.name, .int .i64 z.at_, .string z.par, .string z.text] 35)) w7.heap.size z) := item_new w7 z
      have HB8 : Hid (Below w.heap.size w (w7.alloc (.cells #[.string z.id, .string z.cu, .int .i64 z.kind, .string z.name, .int .i64 z.at_, .string z.par, .string z.text] 35))) := HB7.out.trans (hb8.mono HB7.out.size)
      have HO8 := Lib.hid (HO7.out.below_ hb8)
      unfold Itm.v at hen
      clear hkey hlk hRv hat hrg7 hg7 hs7 hya hz hpk hzx HRG HB HB7 HO HO7 hb8
      go_upto_region 5 with (fail)
      obtain ⟨P, hP⟩ : ∃ P, P = w7.heap.size := ⟨_, rfl⟩
      rw [← hP] at HI8 ⊢
      generalize w7.alloc (.cells #[.string z.id, .string z.cu, .int .i64 z.kind, .string z.name, .int .i64 z.at_, .string z.par, .string z.text] 35) = w8 at *
      clear hP hen
      obtain ⟨c0, c1, c2, c3, c4, c5, c6⟩ := HI8.out.c
      have hlen := HT.out.len
      have h12' := H12.out
      have HTN : Hid (TakenS l (comeS l q (fun y => left y && !y.sameKey (.string x))) (ks ++ [k])) := TakenS.snoc HT.out HKL.out HOLD.out HSTEP.out
      have HWZ : Hid (w.heap.size ≤ w8.heap.size) := HB8.out.size
      go_wp2_with (at_builtin; refine append_elems itemE_ok rfl _ _ rfl w.heap.size _ (itemsOf l ks) rfl (World.ownsRow.alloc HO8.out _) (some ⟨w8.heap.size, 0, none⟩) 1 1 [z] rfl (one_elem (E := ItemE) w8 z) (by simp; omega) (by have := HWZ.out; simp; omega) ?_; intro v10 w10 hown10 hgrow10 _)
      have hne := owns_ne_range (World.ownsRow.alloc HO8.out (.cells (ItemE.enc z).toArray ItemE.t)) (HRG8.out.alloc (.cells (ItemE.enc z).toArray ItemE.t))
      have HRG10 := Lib.hid ((HRG8.out.alloc (.cells (ItemE.enc z).toArray ItemE.t)).kept hgrow10 (Ne.symm hne.1) (Ne.symm hne.2))
      have HB10 : Hid (Below w.heap.size w w10) := (HB8.out.alloc HB8.out.size _).grown hgrow10 (by have := HB8.out.size; simp; omega) (fun i hi => (HO8.out.lt i hi).1)
      have HO10 : Hid (Owns ItemE w10 w.heap.size v10 (itemsOf l (ks ++ [k]))) := by show Owns _ _ _ _ _; rw [itemsOf_snoc HZ.out]; exact hown10
      clear hown10 hgrow10 hne HRG8 HB8 HO8 HI8 c0 c1 c2 c3 c4 c5 c6
      go_wp2_with fail
      go_roundg cnt7
      case measure => exact hlt7
      case rel => exact ⟨_, ks ++ [k], HRG10.out, HO10.out, HTN.out, HB10.out⟩
end Go.Proofs.YtccllmkijnmooaaGreatDoor

namespace Go.Proofs.YtccllmkijnmooaaGreatDoor
open Go.RowKit Go.Maps

/-- The stream s, the items at A2, and stores (each: its block, its number, what it holds). -/
structure MeetAt (w0 w : World) (s : Nat) (A : Option Addr) (n c K : Nat) (A2 : Option Addr) (nl c2 : Nat) (l : List Itm) (gs : List (Nat × Nat × (Nat → Bool))) : Prop where
  st : StreamAt w s A n c K
  sto : ∀ e ∈ gs, StoAt w e.1 e.2.1 l e.2.2
  it : ElemsAt ItemE w A2 nl c2 l
  b : Below w0.heap.size w0 w
  lo : w0.heap.size ≤ s
  apart : ∀ e ∈ gs, s < e.1
  itb : ∀ i off, A2 = some ⟨i, off, none⟩ → s < i ∧ ∀ e ∈ gs, i < e.1
  dist : gs.Pairwise fun a b => a.1 ≠ b.1
section
variable {w0 w w' : World} {s n c K nl c2 : Nat} {A A2 : Option Addr} {l : List Itm}
theorem MeetAt.below {gs : List (Nat × Nat × (Nat → Bool))} (h : MeetAt w0 w s A n c K A2 nl c2 l gs) (hb : Below w.heap.size w w') : MeetAt w0 w' s A n c K A2 nl c2 l gs :=
  ⟨h.st.below hb, fun e he => (h.sto e he).below hb, ElemsAt.keep h.it hb, h.b.trans (hb.mono h.b.size), h.lo, h.apart, h.itb, h.dist⟩
theorem MeetAt.stream {K' : Nat} {gs : List (Nat × Nat × (Nat → Bool))} (h : MeetAt w0 w s A n c K A2 nl c2 l gs) (hs : StreamAt w' s A n c K') (hg : w.grownBy w' (some s)) : MeetAt w0 w' s A n c K' A2 nl c2 l gs :=
  ⟨hs, fun e he => (h.sto e he).stream h.st (Nat.ne_of_lt (h.apart e he)) hg, h.it.grown hg (fun i off e e2 => by have := Option.some.inj e2; have := (h.itb i off e).1; omega), h.b.grown hg h.b.size (fun i e => by have := Option.some.inj e; have := h.lo; omega), h.lo, h.apart, h.itb, h.dist⟩
theorem MeetAt.more {K' : Nat} {gs : List (Nat × Nat × (Nat → Bool))} (h : MeetAt w0 w s A n c K A2 nl c2 l gs) (hk : K ≤ K') : MeetAt w0 w s A n c K' A2 nl c2 l gs :=
  ⟨h.st.more hk, h.sto, h.it, h.b, h.lo, h.apart, h.itb, h.dist⟩
theorem MeetAt.at_ {a b : List (Nat × Nat × (Nat → Bool))} {g N : Nat} {p : Nat → Bool} (h : MeetAt w0 w s A n c K A2 nl c2 l (a ++ (g, N, p) :: b)) : StoAt w g N l p := h.sto (g, N, p) (by simp)
theorem MeetAt.set {a b : List (Nat × Nat × (Nat → Bool))} {g N N' : Nat} {p p' : Nat → Bool} (h : MeetAt w0 w s A n c K A2 nl c2 l (a ++ (g, N, p) :: b)) (hs : StoAt w' g N' l p') (hg : w.grownBy w' (some g)) : MeetAt w0 w' s A n c K A2 nl c2 l (a ++ (g, N', p') :: b) := by
  have hmem : ∀ e ∈ a ++ (g, N', p') :: b, ∃ e' ∈ a ++ (g, N, p) :: b, e'.1 = e.1 := fun e he => by
    rw [List.mem_append, List.mem_cons] at he
    rcases he with h1 | rfl | h1
    · exact ⟨e, by simp [h1], rfl⟩
    · exact ⟨(g, N, p), by simp, rfl⟩
    · exact ⟨e, by simp [h1], rfl⟩
  have hsg : s < g := h.apart (g, N, p) (by simp)
  have hd := List.pairwise_append.1 h.dist
  have hd2 := List.pairwise_cons.1 hd.2.1
  refine ⟨h.st.row_ hg (fun i e => by have := Option.some.inj e; omega), fun e he => ?_, h.it.grown hg (fun i off e e2 => by have := Option.some.inj e2; have := (h.itb i off e).2 (g, N, p) (by simp); omega), h.b.grown hg h.b.size (fun i e => by have := Option.some.inj e; have := h.lo; omega), h.lo, fun e he => ?_, fun i off e => ⟨(h.itb i off e).1, fun e2 he2 => ?_⟩, ?_⟩
  · rw [List.mem_append, List.mem_cons] at he
    have h0 : StoAt w g N l p := h.at_
    rcases he with h1 | rfl | h1
    · exact (h.sto e (by simp [h1])).other h0 (fun e2 => hd.2.2 e h1 (g, N, p) (by simp) e2.symm) hg
    · exact hs
    · exact (h.sto e (by simp [h1])).other h0 (hd2.1 e h1) hg
  · obtain ⟨e', h1, h2⟩ := hmem e he
    rw [← h2]
    exact h.apart e' h1
  · obtain ⟨e', h1, h2⟩ := hmem e2 he2
    rw [← h2]
    exact (h.itb i off e).2 e' h1
  · rw [List.pairwise_append, List.pairwise_cons]
    exact ⟨hd.1, ⟨fun e he => hd2.1 e he, hd2.2⟩, fun x hx y hy => by
      rw [List.mem_cons] at hy
      rcases hy with rfl | hy
      · exact hd.2.2 x hx (g, N, p) (by simp)
      · exact hd.2.2 x hx y (by simp [hy])⟩
theorem MeetAt.moreN {a b : List (Nat × Nat × (Nat → Bool))} {g N N' : Nat} {p : Nat → Bool} (h : MeetAt w0 w s A n c K A2 nl c2 l (a ++ (g, N, p) :: b)) (hn : N ≤ N') : MeetAt w0 w s A n c K A2 nl c2 l (a ++ (g, N', p) :: b) :=
  h.set (h.at_.more hn) (World.grownBy.refl _ _)
theorem MeetAt.new {gs : List (Nat × Nat × (Nat → Bool))} {g : Nat} {p : Nat → Bool} (h : MeetAt w0 w s A n c K A2 nl c2 l gs) (hi : ∀ i off, A2 = some ⟨i, off, none⟩ → i < w.heap.size) (hg : w.heap.size ≤ g) (hs : StoAt w' g 0 l p) (hb : Below w.heap.size w w') : MeetAt w0 w' s A n c K A2 nl c2 l ((g, 0, p) :: gs) := by
  have h2 := h.below hb
  refine ⟨h2.st, fun e he => ?_, h2.it, h2.b, h2.lo, fun e he => ?_, fun i off e => ⟨(h.itb i off e).1, fun e2 he2 => ?_⟩, ?_⟩
  · rcases List.mem_cons.1 he with rfl | he
    · exact hs
    · exact h2.sto e he
  · rcases List.mem_cons.1 he with rfl | he
    · exact Nat.lt_of_lt_of_le h.st.lt hg
    · exact h2.apart e he
  · rcases List.mem_cons.1 he2 with rfl | he2
    · exact Nat.lt_of_lt_of_le (hi i off e) hg
    · exact (h.itb i off e).2 e2 he2
  · refine List.pairwise_cons.2 ⟨fun e he => ?_, h.dist⟩
    have := (h.sto e he).lt
    show g ≠ e.1
    omega
theorem MeetAt.items {gs : List (Nat × Nat × (Nat → Bool))} (h : MeetAt w0 w s A n c K A2 nl c2 l gs) : ElemsAt ItemE w A2 nl c2 l := h.it
end
end Go.Proofs.YtccllmkijnmooaaGreatDoor

namespace Go.Proofs.YtccllmkijnmooaaGreatDoor
open Go.RowKit Go.Maps
attribute [local go_sem ↓] Go.wp_at_zero Go.wp_at_succ

theorem elem_itms : Tryz.prog.elem 26 = 35 := by kernel_rfl
theorem und_itms : Tryz.prog.underlying 26 = some (.slice (Tryz.prog.elem 26)) := by rw [elem_itms]; exact Tryz.underlying26
theorem sl_toI (B : Option Addr) (m d j : Nat) (hj : j ≤ d) (V : Value) (h : sliced B 0 j d ItemE.size = V) (wx : World) : (Instr.slice 26 (.slice B m d) none (some (.int .i64 (j : Int))) none).run Tryz.prog wx = .ok V wx := by
  rw [run_slice_h (P := Tryz.prog) (w := wx) (t := 26) (a := B) (len := m) (cap := d) (ht := und_itms) (kh := .i64) (h := (j : Int)) (h0 := by omega) (h2 := by omega), elem_itms, Tryz.sizeOf35]
  show Result.ok (sliced B 0 ((j : Int)).toNat d 7) wx = _
  rw [Int.toNat_natCast, ← h]; rfl
def noneS : Nat → Bool := addS (fun _ => false) []
theorem piece_toI {w : World} {A : Option Addr} {n c q : Nat} {l : List Itm} (h : ElemsAt ItemE w A n c l) (hq : q ≤ n) : ∃ A', (∀ wx, (Instr.slice 26 (.slice A n c) none (some (.int .i64 (q : Int))) none).run Tryz.prog wx = .ok (.slice A' q c) wx) ∧ ∀ wx, ElemsAt ItemE wx A n c l → ElemsAt ItemE wx A' q c (l.take q) := by
  have key : ∀ wx, ElemsAt ItemE wx A n c l → ∃ A', sliced A 0 q c ItemE.size = .slice A' q c ∧ ElemsAt ItemE wx A' q c (l.take q) := fun wx hx => by
    obtain ⟨A', h1, h2⟩ := hx.piece 0 q (Nat.zero_le _) hq
    rw [Nat.sub_zero, Nat.sub_zero] at h1
    rw [Nat.sub_zero, Nat.sub_zero, List.drop_zero] at h2
    exact ⟨A', h1, h2⟩
  obtain ⟨A', h1, -⟩ := key w h
  refine ⟨A', fun wx => sl_toI A n c q (Nat.le_trans hq h.2.1) _ h1 wx, fun wx hx => ?_⟩
  obtain ⟨A2, h3, h4⟩ := key wx hx
  rw [h1] at h3
  simp only [Value.slice.injEq] at h3
  obtain ⟨rfl, -⟩ := h3
  exact h4
set_option maxHeartbeats 12800000 in
set_option maxRecDepth 100000 in
theorem meetLaw_any (A : Option Addr) (n c : Nat) (w : World) (hA : RowAt w A n) (hbig : n ≤ 1000000000000000) (hS : StandAt w) (hT : Tabs w) (hM : MaxAt w) :
    Calls Tryz.prog 4 #[.slice A n c] w (LawPost w) := by
  have hst := stream_new w A n c hA hbig
  have hB : Below w.heap.size w (w.alloc (.cells #[.slice A n c, .int .i64 0] 25)) := (Below.refl _ _).alloc (Nat.le_refl _) _
  have HS := Lib.hid hS
  have HTM : Hid (∀ w', Below w.heap.size w w' → Tabs w' ∧ MaxAt w') := fun w' hb => ⟨Tabs.below hT hb, MaxAt.below hM hb⟩
  clear hS hT hM
  go_enter Tryz.func4, Tryz.ntmps4
  go_upto_region 2 with (fail)
  generalize w.alloc (.cells #[.slice A n c, .int .i64 0] 25) = w1 at *
  go_wp2_with fail
  refine (rangeR_any w.heap.size A n c 0 0 9 _ hst (by omega) (by omega) (by omega) (by omega)).mono ?_
  rintro e w2 ⟨r, rfl, hr0, hr1, hs2, hg2⟩
  obtain ⟨m, rfl⟩ := Int.eq_ofNat_of_zero_le hr0
  have hm : m ≤ 12 := by omega
  have HM9 : Hid (m ≤ 9) := by show _ ≤ _; omega
  have HB2 : Hid (Below w.heap.size w w2) := hB.grown hg2 hB.size (fun i e => Nat.le_of_eq (Option.some.inj e))
  have HRI := Lib.hid (rightItems_any w.heap.size A n c 1 m w2 hs2 (by omega) hm (fun w' hg => HTM.out w' (HB2.out.grown hg HB2.out.size (fun i e => Nat.le_of_eq (Option.some.inj e)))))
  have HW2 : Hid (w.heap.size < w2.heap.size) := hs2.lt
  clear hst hB hr0 hr1 hs2 hg2 hm
  go_wp2_with fail
  refine HRI.out.mono ?_
  rintro e w3 ⟨v3, l, rfl, hown3, hgd, hlm, hs3, hg3⟩
  have HB3 : Hid (Below w.heap.size w w3) := HB2.out.grown hg3 HB2.out.size (fun i e => Nat.le_of_eq (Option.some.inj e))
  obtain ⟨A2, c2, hv3, -, hat3, -⟩ := hown3.at_ itemE_ok
  subst hv3
  have HL := Lib.hid hgd.setRS
  obtain ⟨nl, hnl⟩ : ∃ nl, nl = l.length := ⟨_, rfl⟩
  rw [← hnl] at hat3 ⊢
  have HNL := Lib.hid hnl
  have hnl9 : nl ≤ 9 := by have := HM9.out; omega
  have HM3 : Hid (MeetAt w w3 w.heap.size A n c 4000 A2 nl c2 l []) := ⟨hs3.more (by have := HM9.out; omega), (fun e he => by cases he), hat3, HB3.out, Nat.le_refl _, (fun e he => by cases he), (fun i off e => ⟨by subst e; have h1 := (hown3.lt i rfl).1; have := HW2.out; omega, fun e2 he => by cases he⟩), List.Pairwise.nil⟩
  have HI3 : Hid (∀ i off, A2 = some ⟨i, off, none⟩ → i < w3.heap.size) := fun i off e => by subst e; exact (hown3.lt i rfl).2
  have HNW := Lib.hid (fun w => stoNew_any w)
  clear hown3 hgd hlm hs3 hg3 hat3 hnl HRI HB2 HB3 HW2
  go_wp2_with fail
  refine (HNW.out _).mono ?_
  rintro e w4 ⟨gx, rfl, hgx, hx4, hb4⟩
  have HM4 := Lib.hid (HM3.out.new HI3.out hgx (hx4 l) hb4)
  have HI4 : Hid (∀ i off, A2 = some ⟨i, off, none⟩ → i < w4.heap.size) := fun i off e => Nat.lt_of_lt_of_le (HI3.out i off e) hb4.size
  clear hgx hx4 hb4 HM3 HI3
  go_wp2_with fail
  refine (HNW.out _).mono ?_
  rintro e w5 ⟨gy, rfl, hgy, hy5, hb5⟩
  have HM5 := Lib.hid (HM4.out.new HI4.out hgy (hy5 l) hb5)
  have HI5 : Hid (∀ i off, A2 = some ⟨i, off, none⟩ → i < w5.heap.size) := fun i off e => Nat.lt_of_lt_of_le (HI4.out i off e) hb5.size
  clear hgy hy5 hb5 HM4 HI4
  go_wp2_with fail
  refine (HNW.out _).mono ?_
  rintro e w6 ⟨gz, rfl, hgz, hz6, hb6⟩
  have HM6 := Lib.hid (HM5.out.new HI5.out hgz (hz6 l) hb6)
  have HI6 : Hid (∀ i off, A2 = some ⟨i, off, none⟩ → i < w6.heap.size) := fun i off e => Nat.lt_of_lt_of_le (HI5.out i off e) hb6.size
  clear hgz hz6 hb6 HM5 HI5
  go_wp2_with fail
  go_loopg [44] nl (fun gk v wr => ∃ (j : Nat) (px pz : Nat → Bool), Hid (j + gk = nl) ∧ v = .int .i64 (j : Int) ∧ Hid (MeetAt w wr w.heap.size A n c (4000 + j) A2 nl c2 l [(gz, j, pz), (gy, 0, noneS), (gx, j, px)]) ∧ Hid (∀ k, k < j → px k = true))
  case atStart => exact ⟨0, noneS, noneS, show 0 + nl = nl by omega, rfl, HM6.out, (fun k hk => absurd hk (Nat.not_lt_zero _))⟩
  case round =>
    obtain ⟨j, px, pz, HK, rfl, HM, HPX⟩ := hrel
    clear HM6
    have hjn : j ≤ nl := by have := HK.out; omega
    by_cases hlt : j < nl
    · have HGK := Lib.hid (show j + 1 + (gk - 1) = nl ∧ 0 < gk by have := HK.out; omega)
      obtain ⟨x, hx⟩ : ∃ x, l[j]? = some x := ⟨_, List.getElem?_eq_getElem (by have := HNL.out; omega)⟩
      obtain ⟨ga, off, rfl, hga, hcc⟩ := HM.out.it.item (by omega)
      obtain ⟨c0, c1, c2', c3, c4, c5, c6⟩ := hcc j x hx
      have HX := Lib.hid hx
      have hb1 : Below wr.heap.size wr (wr.alloc (.cells #[.string x.id, .string x.cu, .int .i64 x.kind, .string x.name, .int .i64 x.at_, .string x.par, .string x.text] 35)) := (Below.refl _ _).alloc (Nat.le_refl _) _
      have HI1 : Hid (ItemAt (wr.alloc (.cells #[.string x.id, .string x.cu, .int .i64 x.kind, .string x.name, .int .i64 x.at_, .string x.par, .string x.text] 35)) wr.heap.size x) := item_new wr x
      have HM1 := Lib.hid (HM.out.below hb1)
      have HP1 : Hid (gx < wr.heap.size ∧ gz < wr.heap.size ∧ w.heap.size < wr.heap.size) := ⟨(HM.out.sto (gx, j, px) (by simp)).lt, (HM.out.sto (gz, j, pz) (by simp)).lt, HM.out.st.lt⟩
      clear hcc hx HK hga hb1 HM
      go_upto_region 9 with (fail)
      obtain ⟨P, hP⟩ : ∃ P, P = wr.heap.size := ⟨_, rfl⟩
      rw [← hP] at HI1 HP1 ⊢
      generalize wr.alloc (.cells #[.string x.id, .string x.cu, .int .i64 x.kind, .string x.name, .int .i64 x.at_, .string x.par, .string x.text] 35) = w7 at *
      clear hP c0 c1 c2' c3 c4 c5 c6
      obtain ⟨c0, c1, c2', c3, c4, c5, c6⟩ := HI1.out.c
      have hadd := stoAdd_any gx j j px l x w7 (HM1.out.sto (gx, j, px) (by simp)) HL.out.set HX.out (by omega) (HTM.out w7 HM1.out.b).1 (HTM.out w7 HM1.out.b).2
      unfold Itm.v at hadd
      have HAD := Lib.hid hadd
      clear hadd
      go_wp2_with fail
      refine HAD.out.mono ?_
      rintro e w8 ⟨b, rfl, hs8, hg8⟩
      have HM8 : Hid (MeetAt w w8 w.heap.size A n c (4000 + j) (some ⟨ga, off, none⟩) nl c2 l [(gz, j, pz), (gy, 0, noneS), (gx, j + 1, addS px [j])]) := MeetAt.set (a := [(gz, j, pz), (gy, 0, noneS)]) (b := []) HM1.out hs8 hg8
      have HI8 := Lib.hid (HI1.out.row_ hg8 (by have := HP1.out; omega))
      have HPX8 : Hid (∀ k, k < j + 1 → addS px [j] k = true) := fun k hk => by
        unfold addS
        by_cases e : k = j
        · simp [e]
        · rw [HPX.out k (by omega)]; rfl
      have HFL := Lib.hid (flip_any w.heap.size A n c (4000 + j) 2 w8 HM8.out.st (by omega) (by omega))
      clear hs8 hg8 HAD HM1 HI1 HPX c0 c1 c2' c3 c4 c5 c6
      generalize addS px [j] = px' at *
      go_wp2_with fail
      refine HFL.out.mono ?_
      rintro e w9 ⟨r, rfl, hs9, hg9⟩
      have HM9' := Lib.hid (HM8.out.stream hs9 hg9)
      have HI9 := Lib.hid (HI8.out.row_ hg9 (by have := HP1.out; omega))
      clear hs9 hg9 HFL HM8 HI8
      obtain ⟨c0, c1, c2', c3, c4, c5, c6⟩ := HI9.out.c
      cases r with
      | false =>
        go_wp2_with fail
        go_roundg (gk - 1)
        case measure => exact Nat.sub_lt HGK.out.2 Nat.one_pos
        case rel => exact ⟨j + 1, px', pz, HGK.out.1, by go_num, MeetAt.moreN (a := []) (b := [(gy, 0, noneS), (gx, j + 1, px')]) (N := j) HM9'.out (Nat.le_succ j), HPX8.out⟩
      | true =>
        have hadd := stoAdd_any gz j j pz l x w9 (HM9'.out.sto (gz, j, pz) (by simp)) HL.out.set HX.out (by omega) (HTM.out w9 HM9'.out.b).1 (HTM.out w9 HM9'.out.b).2
        unfold Itm.v at hadd
        have HAD := Lib.hid hadd
        clear hadd
        go_wp2_with fail
        refine HAD.out.mono ?_
        rintro e w10 ⟨b, rfl, hs10, hg10⟩
        have HM10 : Hid (MeetAt w w10 w.heap.size A n c (4000 + j + 1) (some ⟨ga, off, none⟩) nl c2 l [(gz, j + 1, addS pz [j]), (gy, 0, noneS), (gx, j + 1, px')]) := MeetAt.set (a := []) (b := [(gy, 0, noneS), (gx, j + 1, px')]) (N := j) HM9'.out hs10 hg10
        clear hs10 hg10 HAD
        go_wp2_with fail
        go_roundg (gk - 1)
        case measure => exact Nat.sub_lt HGK.out.2 Nat.one_pos
        case rel => exact ⟨j + 1, px', addS pz [j], HGK.out.1, by go_num, HM10.out, HPX8.out⟩
    · have hnk : ¬ (j : Int) < (nl : Int) := by omega
      have HPF : Hid (∀ k, k < l.length → px k = true) := fun k hk => HPX.out k (by have := HNL.out; omega)
      have HMX : Hid (MeetAt w wr w.heap.size A n c 4020 A2 nl c2 l [(gz, 20, pz), (gy, 0, noneS), (gx, 20, px)]) :=
        MeetAt.moreN (a := [(gz, 20, pz), (gy, 0, noneS)]) (b := []) (N := j) (MeetAt.moreN (a := []) (b := [(gy, 0, noneS), (gx, j, px)]) (N := j) (HM.out.more (by omega)) (by omega)) (by omega)
      obtain ⟨wo, rfl⟩ : ∃ wo : World, wo = wr := ⟨_, rfl⟩
      obtain ⟨go, rfl⟩ : ∃ go : Nat, go = gk := ⟨_, rfl⟩
      have HOR := Lib.hid (order_any w.heap.size A n c 4020 nl wo HMX.out.st (by omega) (by omega))
      have HIX : Hid (∀ i off, A2 = some ⟨i, off, none⟩ → i < wo.heap.size) := fun i off e => by have h1 := (HM.out.itb i off e).2 (gx, j, px) (by simp); have h2 := (HM.out.sto (gx, j, px) (by simp)).lt; omega
      clear HM HPX HK hjn hlt HI6
      go_wp2_with fail
      refine HOR.out.mono ?_
      rintro e w7 ⟨v4, ol, rfl, hown4, hperm, hs7, hg7⟩
      obtain ⟨ks, rfl, hks⟩ := order_nat hperm
      obtain ⟨A4, c4, hv4, -, hat4, -⟩ := hown4.at_ intE_ok
      subst hv4
      have hkl : ks.length = nl := by rw [hks.length_eq, List.length_range]
      rw [List.length_map, hkl] at hat4 ⊢
      have HKL := Lib.hid hkl
      have HKS := Lib.hid hks
      have HAT4 := Lib.hid hat4
      have HLT4 : Hid (∀ i off, A4 = some ⟨i, off, none⟩ → wo.heap.size ≤ i) := fun i off e => by
        subst e
        exact (hown4.lt i rfl).1
      have HM7 : Hid (MeetAt w w7 w.heap.size A n c 5000 A2 nl c2 l [(gz, 20, pz), (gy, 0, noneS), (gx, 20, px)]) := (HMX.out.stream hs7 hg7).more (by omega)
      have HYO : Hid (gy < wo.heap.size ∧ w.heap.size < wo.heap.size) := ⟨(HMX.out.sto (gy, 0, noneS) (by simp)).lt, HMX.out.st.lt⟩
      clear hown4 hperm hks hkl hat4 hs7 hg7 HOR HMX hnk
      go_wp2_with fail
      go_loopg [67] nl (fun gk v wr => ∃ (j : Nat) (py : Nat → Bool), Hid (j + gk = nl) ∧ v = .int .i64 (j : Int) ∧ Hid (MeetAt w wr w.heap.size A n c (5000 + j) A2 nl c2 l [(gz, 20, pz), (gy, 2 * j, py), (gx, 20, px)]) ∧ Hid (∀ k, k ∈ ks.take j → py k = true) ∧ Hid (ElemsAt IntE wr A4 nl c4 (ks.map Int.ofNat)))
      case atStart => exact ⟨0, noneS, show 0 + nl = nl by omega, rfl, HM7.out, (fun k hk => by simp at hk), HAT4.out⟩
      case round =>
        obtain ⟨j, py, HK, rfl, HM, HPY, HO⟩ := hrel
        clear HM7 HAT4
        have hjn : j ≤ nl := by have := HK.out; omega
        by_cases hlt : j < nl
        · have HGK := Lib.hid (show j + 1 + (gk - 1) = nl ∧ 0 < gk by have := HK.out; omega)
          obtain ⟨k, hk⟩ : ∃ k, ks[j]? = some k := ⟨_, List.getElem?_eq_getElem (by have := HKL.out; omega)⟩
          have hkn : k < nl := List.mem_range.1 ((HKS.out.mem_iff).1 (List.mem_of_getElem? hk))
          obtain ⟨x, hx⟩ : ∃ x, l[k]? = some x := ⟨_, List.getElem?_eq_getElem (by have := HNL.out; omega)⟩
          obtain ⟨gi, oi, hi, hgi, hci⟩ := HO.out.2.2.2 (by omega)
          have ci := hci j (k : Int) 0 (.int .i64 (k : Int)) (by rw [List.getElem?_map, hk]; rfl) rfl
          rw [show IntE.size = 1 from rfl, Nat.mul_one, Nat.add_zero] at ci
          subst hi
          obtain ⟨ga, off, rfl, hga, hcc⟩ := HM.out.it.item (by omega)
          obtain ⟨c0, c1, c2', c3, c4', c5, c6⟩ := hcc k x hx
          have HX := Lib.hid hx
          have HTK : Hid (ks.take (j + 1) = ks.take j ++ [k]) := by show _ = _; obtain ⟨h1, h2⟩ := List.getElem?_eq_some_iff.1 hk; rw [List.take_succ_eq_append_getElem h1, h2]
          have HPY8 : Hid (∀ i, i ∈ ks.take (j + 1) → addS py [k] i = true) := fun i hi => by
            rw [HTK.out, List.mem_append, List.mem_singleton] at hi
            unfold addS
            rcases hi with hi | hi
            · rw [HPY.out i hi]; rfl
            · simp [hi]
          have HPY9 : Hid (∀ i, i ∈ ks.take (j + 1) → addS (addS py [k]) [k] i = true) := fun i hi => by
            rw [show addS (addS py [k]) [k] i = (addS py [k] i || decide (i ∈ [k])) from rfl, HPY8.out i hi]; rfl
          have hadd := stoAdd_any gy (2 * j) k py l x wr (HM.out.sto (gy, 2 * j, py) (by simp)) HL.out.set hx (by omega) (HTM.out wr HM.out.b).1 (HTM.out wr HM.out.b).2
          unfold Itm.v at hadd
          have HAD := Lib.hid hadd
          clear hci hcc hx hk hadd HK hgi hga
          go_wp2_with fail
          refine HAD.out.mono ?_
          rintro e w8 ⟨b, rfl, hs8, hg8⟩
          have HM8 : Hid (MeetAt w w8 w.heap.size A n c (5000 + j) (some ⟨ga, off, none⟩) nl c2 l [(gz, 20, pz), (gy, 2 * j + 1, addS py [k]), (gx, 20, px)]) := MeetAt.set (a := [(gz, 20, pz)]) (b := [(gx, 20, px)]) (N := 2 * j) HM.out hs8 hg8
          have HO8 := Lib.hid (HO.out.grown hg8 (fun i off e e2 => by have h1 := Option.some.inj e2; have h2 := HLT4.out i off e; have h3 := HYO.out; omega))
          have HFL := Lib.hid (flip_any w.heap.size A n c (5000 + j) 3 w8 HM8.out.st (by omega) (by omega))
          clear hs8 hg8 HAD HM HO HPY c0 c1 c2' c3 c4' c5 c6
          go_wp2_with fail
          refine HFL.out.mono ?_
          rintro e w9 ⟨r, rfl, hs9, hg9⟩
          have HM9' := Lib.hid (HM8.out.stream hs9 hg9)
          have HO9 := Lib.hid (HO8.out.grown hg9 (fun i off e e2 => by have h1 := Option.some.inj e2; have h2 := HLT4.out i off e; have h3 := HYO.out; omega))
          clear hs9 hg9 HFL HM8 HO8 ci
          cases r with
          | false =>
            go_wp2_with fail
            go_roundg (gk - 1)
            case measure => exact Nat.sub_lt HGK.out.2 Nat.one_pos
            case rel => exact ⟨j + 1, addS py [k], HGK.out.1, by go_num, MeetAt.moreN (a := [(gz, 20, pz)]) (b := [(gx, 20, px)]) (N := 2 * j + 1) HM9'.out (by omega), HPY8.out, HO9.out⟩
          | true =>
            obtain ⟨ga', off', he', hga, hcc⟩ := HM9'.out.it.item (by omega)
            simp only [Option.some.injEq, Addr.mk.injEq] at he'
            obtain ⟨rfl, rfl, -⟩ := he'
            obtain ⟨c0, c1, c2', c3, c4', c5, c6⟩ := hcc k x HX.out
            have hadd := stoAdd_any gy (2 * j + 1) k (addS py [k]) l x w9 (HM9'.out.sto (gy, 2 * j + 1, addS py [k]) (by simp)) HL.out.set HX.out (by omega) (HTM.out w9 HM9'.out.b).1 (HTM.out w9 HM9'.out.b).2
            unfold Itm.v at hadd
            have HAD := Lib.hid hadd
            clear hcc hadd hga
            go_wp2_with fail
            refine HAD.out.mono ?_
            rintro e w10 ⟨b, rfl, hs10, hg10⟩
            have HM10 : Hid (MeetAt w w10 w.heap.size A n c (5000 + j + 1) (some ⟨ga, off, none⟩) nl c2 l [(gz, 20, pz), (gy, 2 * j + 1 + 1, addS (addS py [k]) [k]), (gx, 20, px)]) := MeetAt.set (a := [(gz, 20, pz)]) (b := [(gx, 20, px)]) (N := 2 * j + 1) HM9'.out hs10 hg10
            have HO10 := Lib.hid (HO9.out.grown hg10 (fun i off e e2 => by have h1 := Option.some.inj e2; have h2 := HLT4.out i off e; have h3 := HYO.out; omega))
            clear hs10 hg10 HAD HM9' HO9
            go_wp2_with fail
            go_roundg (gk - 1)
            case measure => exact Nat.sub_lt HGK.out.2 Nat.one_pos
            case rel => exact ⟨j + 1, addS (addS py [k]) [k], HGK.out.1, by go_num, HM10.out, HPY9.out, HO10.out⟩
        · have hnk : ¬ (j : Int) < (nl : Int) := by omega
          have HPYF : Hid (∀ k, k < l.length → py k = true) := fun k hk => HPY.out k (by rw [List.take_of_length_le (by have := HKL.out; omega)]; exact (HKS.out.mem_iff).2 (List.mem_range.2 (by have := HNL.out; omega)))
          have HMY : Hid (MeetAt w wr w.heap.size A n c 5020 A2 nl c2 l [(gz, 20, pz), (gy, 20, py), (gx, 20, px)]) :=
            MeetAt.moreN (a := [(gz, 20, pz)]) (b := [(gx, 20, px)]) (N := 2 * j) (HM.out.more (by omega)) (by omega)
          clear HM HPY HK hjn hlt HO HKS HKL HLT4 HYO
          obtain ⟨wq, rfl⟩ : ∃ wq : World, wq = wr := ⟨_, rfl⟩
          obtain ⟨gq, rfl⟩ : ∃ gq : Nat, gq = gk := ⟨_, rfl⟩
          have H12 : Hid (l.length ≤ 12) := by have := HNL.out; show _ ≤ _; omega
          have HXI : Hid (∀ W, Below wq.heap.size wq W → Calls Tryz.prog 9 #[.pointer (some ⟨gx, 0, none⟩)] W (SomePost W l)) := fun W hb => by
            have h := stoItems_any gx 20 px l W ((HMY.out.sto (gx, 20, px) (by simp)).below hb) HL.out H12.out
            rw [someQ_full HPF.out] at h
            exact h
          have HYI : Hid (∀ W, Below wq.heap.size wq W → Calls Tryz.prog 9 #[.pointer (some ⟨gy, 0, none⟩)] W (SomePost W l)) := fun W hb => by
            have h := stoItems_any gy 20 py l W ((HMY.out.sto (gy, 20, py) (by simp)).below hb) HL.out H12.out
            rw [someQ_full HPYF.out] at h
            exact h
          have HXW : Hid (∀ W, Below wq.heap.size wq W → Calls Tryz.prog 15 #[.pointer (some ⟨gx, 0, none⟩)] W (SomePost W [])) := fun W hb => by
            have h := stoWaiting_any gx 20 px l W ((HMY.out.sto (gx, 20, px) (by simp)).below hb) HL.out H12.out
            rw [someQ_none HPF.out] at h
            exact h
          have HYW : Hid (∀ W, Below wq.heap.size wq W → Calls Tryz.prog 15 #[.pointer (some ⟨gy, 0, none⟩)] W (SomePost W [])) := fun W hb => by
            have h := stoWaiting_any gy 20 py l W ((HMY.out.sto (gy, 20, py) (by simp)).below hb) HL.out H12.out
            rw [someQ_none HPYF.out] at h
            exact h
          go_wp2_with fail
          refine (HXI.out _ (Below.refl _ _)).mono ?_
          rintro e w8 ⟨A8, c8, rfl, hat8, hb8, -⟩
          rw [← HNL.out] at hat8 ⊢
          have HQ8 := Lib.hid hb8
          have HB8 := Lib.hid (HMY.out.b.trans (hb8.mono HMY.out.b.size))
          have HCK := Lib.hid (check_ok A8 nl c8 l w8 hat8 HL.out (HTM.out w8 HB8.out).1 (HTM.out w8 HB8.out).2)
          clear hat8 hb8 hnk
          go_wp2_with fail
          refine HCK.out.mono ?_
          rintro e w9 ⟨rfl, hb9⟩
          have HQ9 := Lib.hid (HQ8.out.trans (hb9.mono HQ8.out.size))
          clear hb9 HCK HB8 HQ8
          go_wp2_with fail
          refine (HXI.out _ HQ9.out).mono ?_
          rintro e w10 ⟨A10, c10, rfl, hat10, hb10, -⟩
          rw [← HNL.out] at hat10 ⊢
          have HQ10 := Lib.hid (HQ9.out.trans (hb10.mono HQ9.out.size))
          have HA10 := Lib.hid hat10
          clear hat10 hb10 HQ9
          go_wp2_with fail
          refine (HYI.out _ HQ10.out).mono ?_
          rintro e w11 ⟨A11, c11, rfl, hat11, hb11, -⟩
          rw [← HNL.out] at hat11 ⊢
          have HQ11 := Lib.hid (HQ10.out.trans (hb11.mono HQ10.out.size))
          have HEQ := Lib.hid (equalI_any A10 A11 nl c10 nl c11 l w11 (ElemsAt.keep HA10.out hb11) hat11 (by omega))
          clear hat11 hb11 HQ10 HA10
          go_wp2_with fail
          refine HEQ.out.mono ?_
          rintro e w12 ⟨rfl, hb12⟩
          have HQ12 := Lib.hid (HQ11.out.trans (hb12.mono HQ11.out.size))
          clear hb12 HQ11 HEQ
          go_wp2_with fail
          refine (HXW.out _ HQ12.out).mono ?_
          rintro e w13 ⟨A13, c13, rfl, -, hb13, -⟩
          have HQ13 := Lib.hid (HQ12.out.trans (hb13.mono HQ12.out.size))
          clear hb13 HQ12
          rw [List.length_nil]
          go_wp2_with fail
          refine (HYW.out _ HQ13.out).mono ?_
          rintro e w14 ⟨A14, c14, rfl, -, hb14, -⟩
          have HQ14 := Lib.hid (HQ13.out.trans (hb14.mono HQ13.out.size))
          clear hb14 HQ13
          rw [List.length_nil]
          go_wp2_with fail
          refine (HXI.out _ HQ14.out).mono ?_
          rintro e w15 ⟨A15, c15, rfl, hat15, hb15, -⟩
          rw [← HNL.out] at hat15 ⊢
          have HQ15 := Lib.hid (HQ14.out.trans (hb15.mono HQ14.out.size))
          have HEQ := Lib.hid (equalI_any A15 A2 nl c15 nl c2 l w15 hat15 (ElemsAt.keep HMY.out.it HQ15.out) (by omega))
          clear hat15 hb15 HQ14
          go_wp2_with fail
          refine HEQ.out.mono ?_
          rintro e w16 ⟨rfl, hb16⟩
          have HQ16 := Lib.hid (HQ15.out.trans (hb16.mono HQ15.out.size))
          have HM16 := Lib.hid (HMY.out.below HQ16.out)
          have HI16 : Hid (∀ i off, A2 = some ⟨i, off, none⟩ → i < w16.heap.size) := fun i off e => by
            have h1 := (HMY.out.itb i off e).2 (gx, 20, px) (by simp)
            have h2 := (HM16.out.sto (gx, 20, px) (by simp)).lt
            omega
          clear hb16 HQ15 HEQ HMY HXI HYI HXW HYW HQ16
          go_wp2_with fail
          refine (HNW.out _).mono ?_
          rintro e w17 ⟨gw, rfl, hgw, hw17, hb17⟩
          have HM17 := Lib.hid (HM16.out.new HI16.out hgw (hw17 l) hb17)
          have HI17 : Hid (∀ i off, A2 = some ⟨i, off, none⟩ → i < w17.heap.size) := fun i off e => Nat.lt_of_lt_of_le (HI16.out i off e) hb17.size
          clear hgw hw17 hb17 HM16 HI16
          go_wp2_with fail
          refine (HNW.out _).mono ?_
          rintro e w18 ⟨gh, rfl, hgh, hh18, hb18⟩
          have HM18 := Lib.hid (HM17.out.new HI17.out hgh (hh18 l) hb18)
          clear hgh hh18 hb18 HM17 HI17
          have HRA := Lib.hid (rangeR_any w.heap.size A n c 5020 0 (nl : Int) w18 HM18.out.st (by omega) (by omega) (by omega) (by omega))
          go_wp2_with fail
          refine HRA.out.mono ?_
          rintro e w19 ⟨r, rfl, hr0, hr1, hs19, hg19⟩
          obtain ⟨q, rfl⟩ := Int.eq_ofNat_of_zero_le hr0
          have hqn : q ≤ nl := by omega
          have HM19 := Lib.hid (HM18.out.stream hs19 hg19)
          obtain ⟨A5, hsl, hpc⟩ := piece_toI HM19.out.it hqn
          have HPC := Lib.hid hpc
          clear hr0 hr1 hs19 hg19 HM18 HRA hpc
          go_wp2_with fail
          clear hsl
          go_loopg [124] q (fun gk v wr => ∃ (j : Nat) (ph : Nat → Bool), Hid (j + gk = q) ∧ v = .int .i64 (j : Int) ∧ Hid (MeetAt w wr w.heap.size A n c (5020 + 1) A2 nl c2 l [(gh, j, ph), (gw, j, ph), (gz, 20, pz), (gy, 20, py), (gx, 20, px)]))
          case atStart => exact ⟨0, noneS, show 0 + q = q by omega, rfl, HM19.out⟩
          case round =>
            obtain ⟨j, ph, HK, rfl, HM⟩ := hrel
            clear HM19
            have hjn : j ≤ q := by have := HK.out; omega
            by_cases hlt : j < q
            · have HGK := Lib.hid (show j + 1 + (gk - 1) = q ∧ 0 < gk by have := HK.out; omega)
              obtain ⟨x, hx⟩ : ∃ x, l[j]? = some x := ⟨_, List.getElem?_eq_getElem (by have := HNL.out; omega)⟩
              obtain ⟨ga, off, rfl, hga, hcc⟩ := (HPC.out wr HM.out.it).item (by omega)
              obtain ⟨c0, c1, c2', c3, c4', c5, c6⟩ := hcc j x (by rw [List.getElem?_take_of_lt hlt]; exact hx)
              have HX := Lib.hid hx
              have hb1 : Below wr.heap.size wr (wr.alloc (.cells #[.string x.id, .string x.cu, .int .i64 x.kind, .string x.name, .int .i64 x.at_, .string x.par, .string x.text] 35)) := (Below.refl _ _).alloc (Nat.le_refl _) _
              have HI1 : Hid (ItemAt (wr.alloc (.cells #[.string x.id, .string x.cu, .int .i64 x.kind, .string x.name, .int .i64 x.at_, .string x.par, .string x.text] 35)) wr.heap.size x) := item_new wr x
              have HM1 := Lib.hid (HM.out.below hb1)
              have HP1 : Hid (gh < wr.heap.size ∧ gw < wr.heap.size) := ⟨(HM.out.sto (gh, j, ph) (by simp)).lt, (HM.out.sto (gw, j, ph) (by simp)).lt⟩
              clear hcc hx HK hga hb1 HM
              go_upto_region 29 with (fail)
              obtain ⟨P, hP⟩ : ∃ P, P = wr.heap.size := ⟨_, rfl⟩
              rw [← hP] at HI1 HP1 ⊢
              generalize wr.alloc (.cells #[.string x.id, .string x.cu, .int .i64 x.kind, .string x.name, .int .i64 x.at_, .string x.par, .string x.text] 35) = w20 at *
              clear hP c0 c1 c2' c3 c4' c5 c6
              obtain ⟨c0, c1, c2', c3, c4', c5, c6⟩ := HI1.out.c
              have hadd := stoAdd_any gh j j ph l x w20 (HM1.out.sto (gh, j, ph) (by simp)) HL.out.set HX.out (by omega) (HTM.out w20 HM1.out.b).1 (HTM.out w20 HM1.out.b).2
              unfold Itm.v at hadd
              have HAD := Lib.hid hadd
              clear hadd
              go_wp2_with fail
              refine HAD.out.mono ?_
              rintro e w21 ⟨b, rfl, hs21, hg21⟩
              have HM21 : Hid (MeetAt w w21 w.heap.size A n c (5020 + 1) A2 nl c2 l [(gh, j + 1, addS ph [j]), (gw, j, ph), (gz, 20, pz), (gy, 20, py), (gx, 20, px)]) := MeetAt.set (a := []) (b := [(gw, j, ph), (gz, 20, pz), (gy, 20, py), (gx, 20, px)]) (N := j) HM1.out hs21 hg21
              have HI21 := Lib.hid (HI1.out.row_ hg21 (by have := HP1.out; omega))
              clear hs21 hg21 HAD HM1 HI1 c0 c1 c2' c3 c4' c5 c6
              obtain ⟨c0, c1, c2', c3, c4', c5, c6⟩ := HI21.out.c
              have hadd := stoAdd_any gw j j ph l x w21 (HM21.out.sto (gw, j, ph) (by simp)) HL.out.set HX.out (by omega) (HTM.out w21 HM21.out.b).1 (HTM.out w21 HM21.out.b).2
              unfold Itm.v at hadd
              have HAD := Lib.hid hadd
              clear hadd
              go_wp2_with fail
              refine HAD.out.mono ?_
              rintro e w22 ⟨b2, rfl, hs22, hg22⟩
              have HM22 : Hid (MeetAt w w22 w.heap.size A n c (5020 + 1) A2 nl c2 l [(gh, j + 1, addS ph [j]), (gw, j + 1, addS ph [j]), (gz, 20, pz), (gy, 20, py), (gx, 20, px)]) := MeetAt.set (a := [(gh, j + 1, addS ph [j])]) (b := [(gz, 20, pz), (gy, 20, py), (gx, 20, px)]) (N := j) HM21.out hs22 hg22
              clear hs22 hg22 HAD HM21 HI21 c0 c1 c2' c3 c4' c5 c6
              go_wp2_with fail
              go_roundg (gk - 1)
              case measure => exact Nat.sub_lt HGK.out.2 Nat.one_pos
              case rel => exact ⟨j + 1, addS ph [j], HGK.out.1, by go_num, HM22.out⟩
            · have hnk : ¬ (j : Int) < (q : Int) := by omega
              have HJO := Lib.hid (join_any gh gz j 20 ph pz l wr (HM.out.sto (gh, j, ph) (by simp)) (HM.out.sto (gz, 20, pz) (by simp)) HL.out.set H12.out (by omega))
              clear HK hlt
              go_wp2_with fail
              refine HJO.out.mono ?_
              rintro e w20 ⟨ct, rfl, hs20, hg20⟩
              have HM20 : Hid (MeetAt w w20 w.heap.size A n c (5020 + 1) A2 nl c2 l [(gh, j + 12, fun k => ph k || pz k), (gw, j, ph), (gz, 20, pz), (gy, 20, py), (gx, 20, px)]) := MeetAt.set (a := []) (b := [(gw, j, ph), (gz, 20, pz), (gy, 20, py), (gx, 20, px)]) (N := j) HM.out hs20 hg20
              have hjz := join_any gz gw 20 j pz ph l w20 (HM20.out.sto (gz, 20, pz) (by simp)) (HM20.out.sto (gw, j, ph) (by simp)) HL.out.set H12.out (by omega)
              rw [show (fun k => pz k || ph k) = fun k => ph k || pz k from funext fun k => Bool.or_comm _ _] at hjz
              have HJZ := Lib.hid hjz
              clear hs20 hg20 HJO HM hjz hnk
              go_wp2_with fail
              refine HJZ.out.mono ?_
              rintro e w21 ⟨ct2, rfl, hs21, hg21⟩
              have HM21 : Hid (MeetAt w w21 w.heap.size A n c (5020 + 1) A2 nl c2 l [(gh, j + 12, fun k => ph k || pz k), (gw, j, ph), (gz, 20 + 12, fun k => ph k || pz k), (gy, 20, py), (gx, 20, px)]) := MeetAt.set (a := [(gh, j + 12, fun k => ph k || pz k), (gw, j, ph)]) (b := [(gy, 20, py), (gx, 20, px)]) (N := 20) HM20.out hs21 hg21
              clear hs21 hg21 HJZ HM20
              generalize (fun k => ph k || pz k) = pj at *
              have HHI : Hid (∀ W, Below w21.heap.size w21 W → Calls Tryz.prog 9 #[.pointer (some ⟨gh, 0, none⟩)] W (SomePost W (pickS l (someQ l pj true)))) := fun W hb => stoItems_any gh (j + 12) pj l W ((HM21.out.sto (gh, j + 12, pj) (by simp)).below hb) HL.out H12.out
              have HZI : Hid (∀ W, Below w21.heap.size w21 W → Calls Tryz.prog 9 #[.pointer (some ⟨gz, 0, none⟩)] W (SomePost W (pickS l (someQ l pj true)))) := fun W hb => stoItems_any gz (20 + 12) pj l W ((HM21.out.sto (gz, 20 + 12, pj) (by simp)).below hb) HL.out H12.out
              have HHW : Hid (∀ W, Below w21.heap.size w21 W → Calls Tryz.prog 15 #[.pointer (some ⟨gh, 0, none⟩)] W (SomePost W (pickS l (someQ l pj false)))) := fun W hb => stoWaiting_any gh (j + 12) pj l W ((HM21.out.sto (gh, j + 12, pj) (by simp)).below hb) HL.out H12.out
              have HZW : Hid (∀ W, Below w21.heap.size w21 W → Calls Tryz.prog 15 #[.pointer (some ⟨gz, 0, none⟩)] W (SomePost W (pickS l (someQ l pj false)))) := fun W hb => stoWaiting_any gz (20 + 12) pj l W ((HM21.out.sto (gz, 20 + 12, pj) (by simp)).below hb) HL.out H12.out
              have hl1 : (pickS l (someQ l pj true)).length ≤ 12 := Nat.le_trans (pickS_len l _) H12.out
              have hl2 : (pickS l (someQ l pj false)).length ≤ 12 := Nat.le_trans (pickS_len l _) H12.out
              generalize pickS l (someQ l pj true) = L1 at *
              generalize pickS l (someQ l pj false) = L2 at *
              obtain ⟨n1, hn1⟩ : ∃ n1, n1 = L1.length := ⟨_, rfl⟩
              obtain ⟨n2, hn2⟩ : ∃ n2, n2 = L2.length := ⟨_, rfl⟩
              have HN1 := Lib.hid hn1
              have HN2 := Lib.hid hn2
              rw [← hn1] at hl1
              rw [← hn2] at hl2
              clear hn1 hn2
              go_wp2_with fail
              refine (HHI.out _ (Below.refl _ _)).mono ?_
              rintro e w22 ⟨A22, c22, rfl, hat22, hb22, -⟩
              rw [← HN1.out] at hat22 ⊢
              have HQ22 := Lib.hid hb22
              have HA22 := Lib.hid hat22
              clear hat22 hb22
              go_wp2_with fail
              refine (HZI.out _ HQ22.out).mono ?_
              rintro e w23 ⟨A23, c23, rfl, hat23, hb23, -⟩
              rw [← HN1.out] at hat23 ⊢
              have HQ23 := Lib.hid (HQ22.out.trans (hb23.mono HQ22.out.size))
              have HEQ := Lib.hid (equalI_any A22 A23 n1 c22 n1 c23 L1 w23 (ElemsAt.keep HA22.out hb23) hat23 (by omega))
              clear hat23 hb23 HQ22 HA22
              go_wp2_with fail
              refine HEQ.out.mono ?_
              rintro e w24 ⟨rfl, hb24⟩
              have HQ24 := Lib.hid (HQ23.out.trans (hb24.mono HQ23.out.size))
              clear hb24 HQ23 HEQ
              go_wp2_with fail
              refine (HHW.out _ HQ24.out).mono ?_
              rintro e w25 ⟨A25, c25, rfl, hat25, hb25, -⟩
              rw [← HN2.out] at hat25 ⊢
              have HQ25 := Lib.hid (HQ24.out.trans (hb25.mono HQ24.out.size))
              have HA25 := Lib.hid hat25
              clear hat25 hb25 HQ24
              go_wp2_with fail
              refine (HZW.out _ HQ25.out).mono ?_
              rintro e w26 ⟨A26, c26, rfl, hat26, hb26, -⟩
              rw [← HN2.out] at hat26 ⊢
              have HQ26 := Lib.hid (HQ25.out.trans (hb26.mono HQ25.out.size))
              have HEQ := Lib.hid (equalI_any A25 A26 n2 c25 n2 c26 L2 w26 (ElemsAt.keep HA25.out hb26) hat26 (by omega))
              clear hat26 hb26 HQ25 HA25
              go_wp2_with fail
              refine HEQ.out.mono ?_
              rintro e w27 ⟨rfl, hb27⟩
              have HQ27 := Lib.hid (HQ26.out.trans (hb27.mono HQ26.out.size))
              have HB27 := Lib.hid (HM21.out.b.trans (HQ27.out.mono HM21.out.b.size))
              have HSD := Lib.hid (stands_any w27 (HS.out.below HB27.out))
              clear hb27 HQ26 HEQ
              go_wp2_with fail
              refine HSD.out.mono ?_
              rintro e w28 ⟨rfl, hb28⟩
              have HB28 := Lib.hid (HB27.out.trans (hb28.mono HB27.out.size))
              clear hb28 HSD
              go_wp2_with fail
              go_ret
              exact ⟨rfl, HB28.out⟩
end Go.Proofs.YtccllmkijnmooaaGreatDoor
