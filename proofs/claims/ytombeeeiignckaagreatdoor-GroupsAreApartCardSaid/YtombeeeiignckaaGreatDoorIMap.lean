
/-
  A map from ids to items.
-/
import Derived.Test.YtombeeeiignckaaGreatDoorItm
import Derived.Test.YtombeeeiignckaaGreatDoorSetMap
namespace Go.Proofs.YtombeeeiignckaaGreatDoor
open Go.RowKit Go.Maps

def itemZ : Value := .agg #[.string ⟨#[]⟩, .string ⟨#[]⟩, .int .i64 0, .string ⟨#[]⟩, .int .i64 0, .string ⟨#[]⟩, .string ⟨#[]⟩]
def valI (l : List Itm) (id : ByteArray) : Value := match findI l id with
  | some k => (match l[k]? with | some x => x.v | none => itemZ)
  | none => itemZ
theorem valI_some {l : List Itm} {id : ByteArray} {k : Nat} {x : Itm} (h : findI l id = some k) (hx : l[k]? = some x) : valI l id = x.v := by
  unfold valI
  rw [h]
  simp only
  rw [hx]
theorem valI_none {l : List Itm} {id : ByteArray} (h : findI l id = none) : valI l id = itemZ := by
  unfold valI
  rw [h]
theorem findI_snoc_new {l : List Itm} {x : Itm} {id : ByteArray} (hn : x.id ∉ l.map Itm.id) (h : x.id = id) : findI (l ++ [x]) id = some l.length := by
  unfold findI
  rw [List.findIdx?_append]
  have h0 : l.findIdx? (fun x => decide (x.id = id)) = none := by
    rw [List.findIdx?_eq_none_iff]
    intro y hy
    have : y.id ≠ id := fun e => hn (List.mem_map.2 ⟨y, hy, by rw [e, h]⟩)
    simpa using this
  rw [h0]
  simp [h]
theorem findI_snoc_old {l : List Itm} {x : Itm} {id : ByteArray} (h : x.id ≠ id) : findI (l ++ [x]) id = findI l id := by
  unfold findI
  rw [List.findIdx?_append]
  simp [h]
theorem valI_snoc_new {l : List Itm} {x : Itm} {id : ByteArray} (hn : x.id ∉ l.map Itm.id) (h : x.id = id) : valI (l ++ [x]) id = x.v := valI_some (findI_snoc_new hn h) (by simp)
theorem valI_snoc_old {l : List Itm} {x : Itm} {id : ByteArray} (h : x.id ≠ id) : valI (l ++ [x]) id = valI l id := by
  cases hf : findI l id with
  | none => rw [valI_none hf, valI_none ((findI_snoc_old h).trans hf)]
  | some k =>
    have hk := findI_lt hf
    rw [valI_some ((findI_snoc_old h).trans hf) (x := l[k]) (by rw [List.getElem?_append_left hk]; exact List.getElem?_eq_getElem hk), valI_some hf (List.getElem?_eq_getElem hk)]
theorem str_neI {x y : List UInt8} (h : x ≠ y) : (Lit.string x) ≠ .string y := fun e => h (by simpa using e)
theorem mk_data (x : ByteArray) : (⟨x.data.toList.toArray⟩ : ByteArray) = x := by simp
/-- A value as it is. -/
def heldE : Value → Option (DataW Value × List MemPlace) := fun v => some (.held v, [])
/-- Block M holds the items by their ids. -/
structure IMapAt (w : World) (M : Nat) (l : List Itm) : Prop where
  ex : ∃ D : DataW Value, w.ownsMap Tryz.prog 9 heldE M l.length D ∧ (∀ id : List UInt8, D.atKey (.string id) (.held itemZ) = .held (valI l ⟨id.toArray⟩)) ∧ (∀ id : List UInt8, has D (.string id) = (findI l ⟨id.toArray⟩).isSome) ∧ Maps.size D = l.length
theorem IMapAt.start (w : World) : IMapAt (w.alloc (.map #[] 0)) w.heap.size [] := ⟨⟨.map [], World.ownsMap_made w _ _ _, fun _ => rfl, fun _ => rfl, rfl⟩⟩
theorem IMapAt.kept {w w' : World} {M : Nat} {l : List Itm} {row : Option Nat} (h : IMapAt w M l) (hg : w.grownBy w' row) (hr : row ≠ some M) : IMapAt w' M l := by
  obtain ⟨D, h1, h2⟩ := h.ex
  exact ⟨⟨D, h1.kept hg hr.symm, h2⟩⟩
theorem IMapAt.below {w w' : World} {M : Nat} {l : List Itm} (h : IMapAt w M l) (hb : Below w.heap.size w w') : IMapAt w' M l := h.kept (below_grown hb none) (by simp)
theorem IMapAt.low {w w' : World} {M B : Nat} {l : List Itm} (h : IMapAt w M l) (hb : Below B w w') (hM : M < B) : IMapAt w' M l := by
  obtain ⟨D, ⟨es, cl, hbk, r⟩, h2⟩ := h.ex
  exact ⟨⟨D, ⟨es, cl, (hb.block M hM).trans hbk, r⟩, h2⟩⟩
theorem IMapAt.lt {w : World} {M : Nat} {l : List Itm} (h : IMapAt w M l) : M < w.heap.size := by
  obtain ⟨D, h1, _⟩ := h.ex
  exact h1.lt
theorem IMapAt.look2 {w : World} {M : Nat} {l : List Itm} (h : IMapAt w M l) (id : ByteArray) (hid : id.size ≤ 1000000) (q : Nat) :
    (Instr.lookup 52 (.map (some M)) (.string id) true).run Tryz.prog (w.drewN q) = .ok (.tuple #[valI l id, .bool (findI l id).isSome]) (w.drewN q) := by
  obtain ⟨D, h1, h2, h3, _⟩ := h.ex
  have hd : (w.drewN q).ownsMap Tryz.prog 9 heldE M l.length D := h1
  obtain ⟨v, ps, hrun, hv⟩ := hd.look_ok keyS Tryz.underlying52 (z := itemZ) (by kernel_rfl) (zd := .held itemZ) (zp := []) rfl (keyS_mk id hid)
  rw [h2, h3, mk_data] at *
  simp only [heldE, Option.some.injEq, Prod.mk.injEq, DataW.held.injEq] at hv
  rw [hv.1] at hrun
  exact hrun
theorem IMapAt.look1 {w : World} {M : Nat} {l : List Itm} (h : IMapAt w M l) (id : ByteArray) (hid : id.size ≤ 1000000) (q : Nat) :
    (Instr.lookup 52 (.map (some M)) (.string id) false).run Tryz.prog (w.drewN q) = .ok (valI l id) (w.drewN q) := by
  obtain ⟨D, h1, h2, h3, _⟩ := h.ex
  have hd : (w.drewN q).ownsMap Tryz.prog 9 heldE M l.length D := h1
  obtain ⟨v, ps, hrun, hv⟩ := hd.lookup keyS Tryz.underlying52 (z := itemZ) (by kernel_rfl) (zd := .held itemZ) (zp := []) rfl (keyS_mk id hid)
  rw [h2, mk_data] at hv
  simp only [heldE, Option.some.injEq, Prod.mk.injEq, DataW.held.injEq] at hv
  rw [hv.1] at hrun
  exact hrun
theorem IMapAt.len {w : World} {M : Nat} {l : List Itm} (h : IMapAt w M l) (ty : TypeId) : (Builtin.len_ #[52] ty #[.map (some M)]).run Tryz.prog w = .ok (.int .i64 (l.length : Int)) w := by
  obtain ⟨D, h1, h2, h3, h4⟩ := h.ex
  rw [← h4]
  exact h1.len Tryz.underlying52 ty
/-- Behind a further item. -/
theorem IMapAt.put {w w' : World} {M : Nat} {l : List Itm} {D : DataW Value} (x : Itm) (hn : x.id ∉ l.map Itm.id) (h1 : w.ownsMap Tryz.prog 9 heldE M l.length D) (h2 : ∀ id : List UInt8, D.atKey (.string id) (.held itemZ) = .held (valI l ⟨id.toArray⟩)) (h3 : ∀ id : List UInt8, has D (.string id) = (findI l ⟨id.toArray⟩).isSome) (h4 : Maps.size D = l.length)
    (hm : w'.ownsMap Tryz.prog 9 heldE M (l.length + 1) (D.put (.string x.id.data.toList) (.held x.v))) : IMapAt w' M (l ++ [x]) := by
  have hne : ∀ id : List UInt8, id ≠ x.id.data.toList → x.id ≠ (⟨id.toArray⟩ : ByteArray) := fun id h e => h (by rw [e])
  refine ⟨⟨D.put (.string x.id.data.toList) (.held x.v), by rw [List.length_append]; exact hm, fun id => ?_, fun id => ?_, ?_⟩⟩
  · by_cases e : id = x.id.data.toList
    · subst e
      rw [atKey_put_same h1.isMap (str_key _), valI_snoc_new hn (by simp)]
    · rw [atKey_put_other (str_neI e), h2, valI_snoc_old (hne id e)]
  · by_cases e : id = x.id.data.toList
    · subst e
      rw [has_put_same h1.isMap (str_key _), findI_snoc_new hn (by simp)]
      rfl
    · rw [has_put_other (str_neI e), h3, findI_snoc_old (hne id e)]
  · rw [size_put (h1.tidy keyS), h3, h4, List.length_append]
    have : findI l (⟨x.id.data.toList.toArray⟩ : ByteArray) = none := by
      unfold findI
      rw [List.findIdx?_eq_none_iff]
      intro y hy
      have : y.id ≠ (⟨x.id.data.toList.toArray⟩ : ByteArray) := fun e => hn (List.mem_map.2 ⟨y, hy, by rw [e]⟩)
      simpa using this
    rw [this]
    simp
end Go.Proofs.YtombeeeiignckaaGreatDoor
