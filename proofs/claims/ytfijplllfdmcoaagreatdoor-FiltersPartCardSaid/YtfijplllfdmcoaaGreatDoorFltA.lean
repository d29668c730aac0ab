
/-
  A plain string has no blank at its ends: in plain lists.
  base.Plain and CheckItem accept what is right.
  Sets of strings that are made by the call: a map[string]bool in which each value is true.
  A map from ids to items.
  Families in plain lists: the items below the tops, in order of the walk, are all items, each once.
  byId, above and placed at right items.
  placed accepts an item of right items.
  intake.Check accepts right items.
  Contains of strings; two rows of the call's own that do not share a block.
  The tree of items under way: maps of rows of strings that do not share a block.
  newTree of right items: the items by their ids, the ids right below each one, the tops.
  (tree).top: the item at the head of a chain of parents.
  (tree).below: an item and all below it, by their ids.
  Families by ids: all ids, each once; sorted they are the items' own order.
  slices.Sort at strings of the call's own.
  Families that have one of some items: plain.
  intake.Whole at ids of right items: the families that have one of them.
  intake.Digest at any string: what it returns, as a function of the bytes.
  The sum of an item: what Digest returns of its kind and its text.
  A region whose operations may come in many orders, walked once for each operation: an invariant that says of each operation that came what it left.
  What operations of a free region leave: rows of the call's own, tables of rows, pointers into them.
  chaseref2.SumOf of an item: sixteen bytes.
  slices.Compact at strings of the call's own turns that row alone.
-/
import Derived.Test.YtfijplllfdmcoaaGreatDoorElems
import Derived.Lib.TrimByte
import Derived.Test.YtfijplllfdmcoaaGreatDoorRightItems
import Derived.Test.YtfijplllfdmcoaaGreatDoorKey
import Derived.Maps.OwnSet
import Derived.Maps.StringElems
import Derived.Maps.Ext
import Derived.StringKeys
import Derived.Test.YtfijplllfdmcoaaGreatDoorItm
import Derived.Test.YtfijplllfdmcoaaGreatDoorLay
import Derived.Deep.RegionHeld3
import Derived.Test.YtfijplllfdmcoaaGreatDoorStrLib
import Derived.Sort.Walk0
import Derived.Test.YtfijplllfdmcoaaGreatDoorShelf
import Derived.Sort.LotA
import Derived.Sort.OwnSorted
import Derived.Test.YtfijplllfdmcoaaGreatDoorDigest
import Derived.Laws.BytesArg
import Derived.Test.YtfijplllfdmcoaaGreatDoorBase
import Derived.RegionTactic
import Derived.Test.YtfijplllfdmcoaaGreatDoorOrder
import Derived.StillTailTactics

namespace Go.Proofs.YtfijplllfdmcoaaGreatDoor

theorem trimB_head {l : List UInt8} {c : UInt8} (h : Lib.trimB l c = l) : Lib.hasPrefix l [c] = false := by
  have h1 := List.head?_dropWhile_not (· == c) (Lib.trimRightB l c)
  have e : (Lib.trimRightB l c).dropWhile (· == c) = l := h
  rw [e] at h1
  cases l with
  | nil => rfl
  | cons b t =>
    simp only [List.head?_cons] at h1
    have h2 : (c == b) = false := by
      rw [Bool.eq_false_iff] at h1 ⊢
      intro e2
      exact h1 (by rw [beq_iff_eq] at e2 ⊢; exact e2.symm)
    simp [Lib.hasPrefix, List.isPrefixOf, h2]
theorem trimB_last {l : List UInt8} {c : UInt8} (h : Lib.trimB l c = l) : Lib.hasSuffix l [c] = false := by
  have e : (Lib.trimRightB l c).dropWhile (· == c) = l := h
  have h1 := (List.dropWhile_suffix (· == c) (l := Lib.trimRightB l c)).length_le
  rw [e] at h1
  have h2 : (Lib.trimRightB l c).length = (l.reverse.dropWhile (· == c)).length := by simp [Lib.trimRightB]
  have h3 := (List.dropWhile_suffix (· == c) (l := l.reverse))
  have h4 := h3.length_le
  have h5 : l.reverse.dropWhile (· == c) = l.reverse := h3.eq_of_length (by rw [List.length_reverse] at h4 ⊢; omega)
  have h6 := List.head?_dropWhile_not (· == c) l.reverse
  rw [h5] at h6
  unfold Lib.hasSuffix List.isSuffixOf
  generalize l.reverse = r at h6
  cases r with
  | nil => rfl
  | cons b t =>
    simp only [List.head?_cons] at h6
    have h2 : (c == b) = false := by
      rw [Bool.eq_false_iff] at h6 ⊢
      intro e2
      exact h6 (by rw [beq_iff_eq] at e2 ⊢; exact e2.symm)
    simp [List.isPrefixOf, h2]
end Go.Proofs.YtfijplllfdmcoaaGreatDoor

namespace Go.Proofs.YtfijplllfdmcoaaGreatDoor
open Go.RowKit

set_option maxHeartbeats 1600000 in
theorem plainP_ok (s : ByteArray) (w : World) (hp : plainB s.data.toList = true) (hs : s.size ≤ 1000000) (hT : Tabs w) (hM : MaxAt w) :
    Calls Tryz.prog 134 #[.string s] w (BoolPost w true) := by
  unfold plainB at hp
  simp only [Bool.and_eq_true, decide_eq_true_eq, Bool.not_eq_true'] at hp
  obtain ⟨h1, h2, h3⟩ := hp
  have hv := visible_any s false w hs hT
  rw [h1] at hv
  have HV := Lib.hid hv
  have HP := Lib.hid (fun wx => Tryz.strings_HasPrefix s ⟨#[32]⟩ wx)
  have HS := Lib.hid (fun wx => Tryz.strings_HasSuffix s ⟨#[32]⟩ wx (by omega))
  rw [show Lib.hasPrefix s.data.toList (⟨#[32]⟩ : ByteArray).data.toList = false from trimB_head h2] at HP
  rw [show Lib.hasSuffix s.data.toList (⟨#[32]⟩ : ByteArray).data.toList = false from trimB_last h2] at HS
  have HC := Lib.hid (fun wx (hb : Below w.heap.size w wx) => strContains_any s ⟨#[32, 32]⟩ wx hs (MaxAt.below hM hb))
  rw [show Lib.contains s.data.toList (⟨#[32, 32]⟩ : ByteArray).data.toList = false from h3] at HC
  clear hv hM hT h1 h2 h3
  go_enter Tryz.func134, Tryz.ntmps134
  go_wp2_with fail
  refine HV.out.mono ?_
  rintro e w2 ⟨rfl, hb2⟩
  have HB2 := Lib.hid hb2
  clear hb2
  go_wp2_with fail
  refine (HP.out w2).mono ?_
  rintro e w3 ⟨rfl, rfl⟩
  go_wp2_with fail
  refine (HS.out _).mono ?_
  rintro e w4 ⟨rfl, rfl⟩
  go_wp2_with fail
  refine (HC.out _ HB2.out).mono ?_
  rintro e w5 ⟨rfl, hb5⟩
  have HB5 := Lib.hid (below_trans' HB2.out hb5)
  clear hb5
  go_wp2_with fail
  go_ret
  exact ⟨rfl, HB5.out⟩
theorem moment_ok (z : Int) (w : World) (h : 0 ≤ z ∧ z ≤ 5761439) : Calls Tryz.prog 135 #[.int .i64 z] w fun e w' => e = .returned (.bool true) ∧ w' = w := by
  have hi := in_any z 0 5761439 w
  rw [inB_in _ _ _ h.1 h.2] at hi
  go_enter Tryz.func135, Tryz.ntmps135
  go_wp2_with fail
  refine hi.mono ?_
  rintro e w' ⟨rfl, hw⟩
  obtain rfl := hw
  go_wp2_with fail
  go_ret
  exact ⟨rfl, rfl⟩
theorem kindWord_ok (z : Int) (w : World) (h : 1 ≤ z ∧ z ≤ 4) : Calls Tryz.prog 42 #[.int .i64 z] w fun e w' => (∃ b c : UInt8, ∃ s : List UInt8, e = .returned (.string ⟨(b :: c :: s).toArray⟩)) ∧ w' = w := by
  have hz : z = 1 ∨ z = 2 ∨ z = 3 ∨ z = 4 := by omega
  rcases hz with rfl | rfl | rfl | rfl
  · go_enter Tryz.func42, Tryz.ntmps42
    go_wp2_with fail
    go_ret
    exact ⟨⟨109, 97, [105, 108], rfl⟩, rfl⟩
  · go_enter Tryz.func42, Tryz.ntmps42
    go_wp2_with fail
    go_ret
    exact ⟨⟨102, 105, [108, 101], rfl⟩, rfl⟩
  · go_enter Tryz.func42, Tryz.ntmps42
    go_wp2_with fail
    go_ret
    exact ⟨⟨98, 111, [120], rfl⟩, rfl⟩
  · go_enter Tryz.func42, Tryz.ntmps42
    go_wp2_with fail
    go_ret
    exact ⟨⟨110, 111, [116, 101], rfl⟩, rfl⟩
def OkPost (w : World) (e : Ending) (w' : World) : Prop := e = .returned (.int .i64 0) ∧ Below w.heap.size w w'
set_option maxHeartbeats 3200000 in
set_option maxRecDepth 100000 in
theorem checkItem_ok (x : Itm) (w : World) (hx : ItemOk x) (hT : Tabs w) (hM : MaxAt w) :
    Calls Tryz.prog 82 #[x.v] w (OkPost w) := by
  have hb0 : Below w.heap.size w (w.alloc (.cells #[.string x.id, .string x.cu, .int .i64 x.kind, .string x.name, .int .i64 x.at_, .string x.par, .string x.text] 60)) := (Below.refl _ _).alloc (Nat.le_refl _) _
  have HI0 : Hid (ItemAt (w.alloc (.cells #[.string x.id, .string x.cu, .int .i64 x.kind, .string x.name, .int .i64 x.at_, .string x.par, .string x.text] 60)) w.heap.size x) := item_new w x
  have HB0 := Lib.hid hb0
  have HTX := Lib.hid (hT.below hb0)
  have HMX := Lib.hid (hM.below hb0)
  have HX := Lib.hid hx
  have HSM := Lib.hid hx.small
  unfold Itm.v
  clear hb0 hT hM hx
  go_enter Tryz.func82, Tryz.ntmps82
  go_upto_region 1 with (fail)
  obtain ⟨P, hP⟩ : ∃ P, P = w.heap.size := ⟨_, rfl⟩
  rw [← hP] at HI0 ⊢
  generalize w.alloc (.cells #[.string x.id, .string x.cu, .int .i64 x.kind, .string x.name, .int .i64 x.at_, .string x.par, .string x.text] 60) = w0 at *
  clear hP
  obtain ⟨c0, c1, c2, c3, c4, c5, c6⟩ := HI0.out.c
  have K1 := Lib.hid (fun wx => key_any x.id wx HX.out.id)
  have K2 := Lib.hid (fun wx => key_any x.cu wx HX.out.cu)
  have K3 := Lib.hid (fun wx => kindWord_ok x.kind wx HX.out.kind)
  have K5 := Lib.hid (plainP_ok x.name w0 HX.out.plain HSM.out.2.2.1 HTX.out HMX.out)
  have K6 := Lib.hid (fun wx => moment_ok x.at_ wx HX.out.at_)
  have K10 := Lib.hid (fun wx (hb : Below w0.heap.size w0 wx) => text_any x.text wx HSM.out.2.2.2.2 (Tabs.below HTX.out hb))
  rw [HX.out.text] at K10
  have k4 : ¬ (120 : Int) < (x.name.size : Int) := by have := HX.out.short; omega
  have k9 : ¬ (20000 : Int) < (x.text.size : Int) := by have := HX.out.size; omega
  go_wp2_with fail
  refine (K1.out _).mono ?_
  rintro e w' ⟨rfl, hw⟩
  obtain rfl := hw
  go_wp2_with fail
  refine (K2.out _).mono ?_
  rintro e w' ⟨rfl, hw⟩
  obtain rfl := hw
  go_wp2_with fail
  refine (K3.out _).mono ?_
  rintro e w' ⟨⟨b, c, s, rfl⟩, hw⟩
  obtain rfl := hw
  go_wp2_with fail
  refine K5.out.mono ?_
  rintro e w3 ⟨rfl, hb3⟩
  have HB3 := Lib.hid hb3
  clear c0 c1 c2 c3 c4 c5 c6 hb3 K1 K2 K3 K5
  obtain ⟨c0, c1, c2, c3, c4, c5, c6⟩ := (HI0.out.keep HB3.out).c
  go_wp2_with fail
  refine (K6.out _).mono ?_
  rintro e w' ⟨rfl, hw⟩
  obtain rfl := hw
  clear K6
  have KOWN : Hid (x.par ≠ x.id) := HX.out.own
  have KP := Lib.hid HX.out.par
  have q8 : (x.par.toList == x.id.toList) = false := by rw [bytes_eq]; exact decide_eq_false KOWN.out
  rcases KP.out with hp | hp
  · obtain ⟨q1, q2, q3⟩ := par_emptyL hp
    clear hp KP
    go_upto_region 13 with (fail)
    clear q1 q2 q3
    go_wp2_with fail
    refine (K10.out _ HB3.out).mono ?_
    rintro e w9 ⟨rfl, hb9⟩
    have HB9 := Lib.hid (HB0.out.trans ((below_trans' HB3.out hb9).mono HB0.out.size))
    clear hb9
    go_wp2_with fail
    go_ret
    exact ⟨rfl, HB9.out⟩
  · have hne : ¬ x.par.data.toList = [] := fun e => by rw [e] at hp; cases hp
    obtain ⟨q1, q2, q3⟩ := par_fullL hne
    have K7 := Lib.hid (fun wx => key_any x.par wx hp)
    clear hp hne KP
    go_wp2_with fail
    refine (K7.out _).mono ?_
    rintro e w' ⟨rfl, hw⟩
    obtain rfl := hw
    go_upto_region 13 with (fail)
    clear q1 q2 q3
    go_wp2_with fail
    refine (K10.out _ HB3.out).mono ?_
    rintro e w9 ⟨rfl, hb9⟩
    have HB9 := Lib.hid (HB0.out.trans ((below_trans' HB3.out hb9).mono HB0.out.size))
    clear hb9
    go_wp2_with fail
    go_ret
    exact ⟨rfl, HB9.out⟩
end Go.Proofs.YtfijplllfdmcoaaGreatDoor

namespace Go.Proofs.YtfijplllfdmcoaaGreatDoor
open Go.RowKit Go.Maps

theorem keyS : Keyed Tryz.prog 9 := string_keyed Tryz.underlying9
theorem keyS_mk (s : ByteArray) (hs : s.size ≤ 1000000) : keyOf Tryz.prog 9 (.string s) = some (.string s.data.toList) := WideMaps.keyOf_string_mk Tryz.underlying9 (by simp only [maxLen]; omega)
theorem str_key (x : List UInt8) : WideAt.IsKeyLit (.string x) := by first | trivial | exact Or.inl trivial | simp [WideAt.IsKeyLit]
/-- What was put in. -/
def setD (l : List (List UInt8)) : DataW Unit := l.foldl (fun D x => D.put (.string x) (.lit (.bool true))) (.map [])
theorem setD_snoc (l : List (List UInt8)) (x : List UInt8) : setD (l ++ [x]) = (setD l).put (.string x) (.lit (.bool true)) := by simp [setD]
theorem setD_at (k : List UInt8) (l : List (List UInt8)) : IsMap (setD l) ∧ (setD l).atKey (.string k) (.lit (.bool false)) = .lit (.bool (l.contains k)) := by
  have h : ∀ (l : List (List UInt8)) (D : DataW Unit) (b : Bool), IsMap D → D.atKey (.string k) (.lit (.bool false)) = .lit (.bool b) → IsMap (l.foldl (fun D x => D.put (.string x) (.lit (.bool true))) D) ∧ (l.foldl (fun D x => D.put (.string x) (.lit (.bool true))) D).atKey (.string k) (.lit (.bool false)) = .lit (.bool (b || l.contains k)) := by
    intro l
    induction l with
    | nil => intro D b h1 h2; exact ⟨h1, by simpa using h2⟩
    | cons x l ih =>
      intro D b h1 h2
      rw [List.foldl_cons, List.contains_cons]
      by_cases hx : k = x
      · have := ih (D.put (.string x) (.lit (.bool true))) true (h1.put _ _) (by rw [← hx]; exact atKey_put_same h1 (str_key _) _ _)
        refine ⟨this.1, this.2.trans ?_⟩
        simp [hx]
      · have hne : (Lit.string k) ≠ .string x := fun e => hx (by simpa using e)
        have := ih (D.put (.string x) (.lit (.bool true))) b (h1.put _ _) (by rw [atKey_put_other hne]; exact h2)
        refine ⟨this.1, this.2.trans ?_⟩
        rw [show (k == x) = false by simpa using hx, Bool.false_or]
  have h2 := h l (.map []) false isMap_empty rfl
  rw [Bool.false_or] at h2
  exact h2
theorem elem_bool_inv {P : Program} {e : TypeId} (he : P.underlying e = some .bool) {v : Value} {z : DataW Unit × List MemPlace} (h : plainElem P e v = some z) : ∃ b, v = .bool b ∧ z = (.lit (.bool b), []) := by
  unfold plainElem at h
  rw [he] at h
  cases v <;> simp at h
  exact ⟨_, rfl, h.symm⟩
/-- Block M holds the set of l. -/
def SetAt (w : World) (M : Nat) (l : List (List UInt8)) : Prop := w.ownsMap Tryz.prog 9 (plainElem Tryz.prog 4) M l.length (setD l)
theorem SetAt.look {w : World} {M : Nat} {l : List (List UInt8)} (h : SetAt w M l) (id : ByteArray) (hid : id.size ≤ 1000000) (q : Nat) :
    (Instr.lookup 84 (.map (some M)) (.string id) false).run Tryz.prog (w.drewN q) = .ok (.bool (l.contains id.data.toList)) (w.drewN q) := by
  have hd : (w.drewN q).ownsMap Tryz.prog 9 (plainElem Tryz.prog 4) M l.length (setD l) := h
  obtain ⟨v, ps, hrun, hv⟩ := hd.lookup keyS Tryz.underlying84 (z := .bool false) (by kernel_rfl) (zd := .lit (.bool false)) (zp := []) (by kernel_rfl) (keyS_mk id hid)
  rw [(setD_at id.data.toList l).2] at hv
  obtain ⟨b', rfl, hz⟩ := elem_bool_inv Tryz.underlying4 hv
  simp only [Prod.mk.injEq, DataW.lit.injEq, Lit.bool.injEq] at hz
  rw [hz.1]
  exact hrun
theorem SetAt.look0 {w : World} {M : Nat} {l : List (List UInt8)} (h : SetAt w M l) (id : ByteArray) (hid : id.size ≤ 1000000) :
    (Instr.lookup 84 (.map (some M)) (.string id) false).run Tryz.prog w = .ok (.bool (l.contains id.data.toList)) w := h.look id hid 0
theorem SetAt.lt {w : World} {M : Nat} {l : List (List UInt8)} (h : SetAt w M l) : M < w.heap.size := World.ownsMap.lt h
end Go.Proofs.YtfijplllfdmcoaaGreatDoor

namespace Go.Proofs.YtfijplllfdmcoaaGreatDoor
open Go.RowKit Go.Maps

def itemZ : Value := .agg #[.string ⟨#[]⟩, .string ⟨#[]⟩, .int .i64 0, .string ⟨#[]⟩, .int .i64 0, .string ⟨#[]⟩, .string ⟨#[]⟩]
def valI (l : List Itm) (id : ByteArray) : Value := match findI l id with
  | some k => (match l[k]? with | some x => x.v | none => itemZ)
  | none => itemZ
theorem valI_some {l : List Itm} {id : ByteArray} {k : Nat} {x : Itm} (h : findI l id = some k) (hx : l[k]? = some x) : valI l id = x.v := by
  unfold valI
  rw [h]
  simp only
  rw [hx]
theorem valI_none {l : List Itm} {id : ByteArray} (h : findI l id = none) : valI l id = itemZ := by
  unfold valI
  rw [h]
theorem findI_snoc_new {l : List Itm} {x : Itm} {id : ByteArray} (hn : x.id ∉ l.map Itm.id) (h : x.id = id) : findI (l ++ [x]) id = some l.length := by
  unfold findI
  rw [List.findIdx?_append]
  have h0 : l.findIdx? (fun x => decide (x.id = id)) = none := by
    rw [List.findIdx?_eq_none_iff]
    intro y hy
    have : y.id ≠ id := fun e => hn (List.mem_map.2 ⟨y, hy, by rw [e, h]⟩)
    simpa using this
  rw [h0]
  simp [h]
theorem findI_snoc_old {l : List Itm} {x : Itm} {id : ByteArray} (h : x.id ≠ id) : findI (l ++ [x]) id = findI l id := by
  unfold findI
  rw [List.findIdx?_append]
  simp [h]
theorem valI_snoc_new {l : List Itm} {x : Itm} {id : ByteArray} (hn : x.id ∉ l.map Itm.id) (h : x.id = id) : valI (l ++ [x]) id = x.v := valI_some (findI_snoc_new hn h) (by simp)
theorem valI_snoc_old {l : List Itm} {x : Itm} {id : ByteArray} (h : x.id ≠ id) : valI (l ++ [x]) id = valI l id := by
  cases hf : findI l id with
  | none => rw [valI_none hf, valI_none ((findI_snoc_old h).trans hf)]
  | some k =>
    have hk := findI_lt hf
    rw [valI_some ((findI_snoc_old h).trans hf) (x := l[k]) (by rw [List.getElem?_append_left hk]; exact List.getElem?_eq_getElem hk), valI_some hf (List.getElem?_eq_getElem hk)]
theorem str_neI {x y : List UInt8} (h : x ≠ y) : (Lit.string x) ≠ .string y := fun e => h (by simpa using e)
theorem mk_data (x : ByteArray) : (⟨x.data.toList.toArray⟩ : ByteArray) = x := by simp
/-- A value as it is. -/
def heldE : Value → Option (DataW Value × List MemPlace) := fun v => some (.held v, [])
/-- Block M holds the items by their ids. -/
structure IMapAt (w : World) (M : Nat) (l : List Itm) : Prop where
  ex : ∃ D : DataW Value, w.ownsMap Tryz.prog 9 heldE M l.length D ∧ (∀ id : List UInt8, D.atKey (.string id) (.held itemZ) = .held (valI l ⟨id.toArray⟩)) ∧ (∀ id : List UInt8, has D (.string id) = (findI l ⟨id.toArray⟩).isSome) ∧ Maps.size D = l.length
theorem IMapAt.start (w : World) : IMapAt (w.alloc (.map #[] 0)) w.heap.size [] := ⟨⟨.map [], World.ownsMap_made w _ _ _, fun _ => rfl, fun _ => rfl, rfl⟩⟩
theorem IMapAt.kept {w w' : World} {M : Nat} {l : List Itm} {row : Option Nat} (h : IMapAt w M l) (hg : w.grownBy w' row) (hr : row ≠ some M) : IMapAt w' M l := by
  obtain ⟨D, h1, h2⟩ := h.ex
  exact ⟨⟨D, h1.kept hg hr.symm, h2⟩⟩
theorem IMapAt.below {w w' : World} {M : Nat} {l : List Itm} (h : IMapAt w M l) (hb : Below w.heap.size w w') : IMapAt w' M l := h.kept (below_grown hb none) (by simp)
theorem IMapAt.low {w w' : World} {M B : Nat} {l : List Itm} (h : IMapAt w M l) (hb : Below B w w') (hM : M < B) : IMapAt w' M l := by
  obtain ⟨D, ⟨es, cl, hbk, r⟩, h2⟩ := h.ex
  exact ⟨⟨D, ⟨es, cl, (hb.block M hM).trans hbk, r⟩, h2⟩⟩
theorem IMapAt.lt {w : World} {M : Nat} {l : List Itm} (h : IMapAt w M l) : M < w.heap.size := by
  obtain ⟨D, h1, _⟩ := h.ex
  exact h1.lt
theorem IMapAt.look2 {w : World} {M : Nat} {l : List Itm} (h : IMapAt w M l) (id : ByteArray) (hid : id.size ≤ 1000000) (q : Nat) :
    (Instr.lookup 79 (.map (some M)) (.string id) true).run Tryz.prog (w.drewN q) = .ok (.tuple #[valI l id, .bool (findI l id).isSome]) (w.drewN q) := by
  obtain ⟨D, h1, h2, h3, _⟩ := h.ex
  have hd : (w.drewN q).ownsMap Tryz.prog 9 heldE M l.length D := h1
  obtain ⟨v, ps, hrun, hv⟩ := hd.look_ok keyS Tryz.underlying79 (z := itemZ) (by kernel_rfl) (zd := .held itemZ) (zp := []) rfl (keyS_mk id hid)
  rw [h2, h3, mk_data] at *
  simp only [heldE, Option.some.injEq, Prod.mk.injEq, DataW.held.injEq] at hv
  rw [hv.1] at hrun
  exact hrun
theorem IMapAt.look1 {w : World} {M : Nat} {l : List Itm} (h : IMapAt w M l) (id : ByteArray) (hid : id.size ≤ 1000000) (q : Nat) :
    (Instr.lookup 79 (.map (some M)) (.string id) false).run Tryz.prog (w.drewN q) = .ok (valI l id) (w.drewN q) := by
  obtain ⟨D, h1, h2, h3, _⟩ := h.ex
  have hd : (w.drewN q).ownsMap Tryz.prog 9 heldE M l.length D := h1
  obtain ⟨v, ps, hrun, hv⟩ := hd.lookup keyS Tryz.underlying79 (z := itemZ) (by kernel_rfl) (zd := .held itemZ) (zp := []) rfl (keyS_mk id hid)
  rw [h2, mk_data] at hv
  simp only [heldE, Option.some.injEq, Prod.mk.injEq, DataW.held.injEq] at hv
  rw [hv.1] at hrun
  exact hrun
theorem IMapAt.len {w : World} {M : Nat} {l : List Itm} (h : IMapAt w M l) (ty : TypeId) : (Builtin.len_ #[79] ty #[.map (some M)]).run Tryz.prog w = .ok (.int .i64 (l.length : Int)) w := by
  obtain ⟨D, h1, h2, h3, h4⟩ := h.ex
  rw [← h4]
  exact h1.len Tryz.underlying79 ty
/-- Behind a further item. -/
theorem IMapAt.put {w w' : World} {M : Nat} {l : List Itm} {D : DataW Value} (x : Itm) (hn : x.id ∉ l.map Itm.id) (h1 : w.ownsMap Tryz.prog 9 heldE M l.length D) (h2 : ∀ id : List UInt8, D.atKey (.string id) (.held itemZ) = .held (valI l ⟨id.toArray⟩)) (h3 : ∀ id : List UInt8, has D (.string id) = (findI l ⟨id.toArray⟩).isSome) (h4 : Maps.size D = l.length)
    (hm : w'.ownsMap Tryz.prog 9 heldE M (l.length + 1) (D.put (.string x.id.data.toList) (.held x.v))) : IMapAt w' M (l ++ [x]) := by
  have hne : ∀ id : List UInt8, id ≠ x.id.data.toList → x.id ≠ (⟨id.toArray⟩ : ByteArray) := fun id h e => h (by rw [e])
  refine ⟨⟨D.put (.string x.id.data.toList) (.held x.v), by rw [List.length_append]; exact hm, fun id => ?_, fun id => ?_, ?_⟩⟩
  · by_cases e : id = x.id.data.toList
    · subst e
      rw [atKey_put_same h1.isMap (str_key _), valI_snoc_new hn (by simp)]
    · rw [atKey_put_other (str_neI e), h2, valI_snoc_old (hne id e)]
  · by_cases e : id = x.id.data.toList
    · subst e
      rw [has_put_same h1.isMap (str_key _), findI_snoc_new hn (by simp)]
      rfl
    · rw [has_put_other (str_neI e), h3, findI_snoc_old (hne id e)]
  · rw [size_put (h1.tidy keyS), h3, h4, List.length_append]
    have : findI l (⟨x.id.data.toList.toArray⟩ : ByteArray) = none := by
      unfold findI
      rw [List.findIdx?_eq_none_iff]
      intro y hy
      have : y.id ≠ (⟨x.id.data.toList.toArray⟩ : ByteArray) := fun e => hn (List.mem_map.2 ⟨y, hy, by rw [e]⟩)
      simpa using this
    rw [this]
    simp
end Go.Proofs.YtfijplllfdmcoaaGreatDoor

namespace Go.Proofs.YtfijplllfdmcoaaGreatDoor

/-- The item so many steps above one. -/
def upI (l : List Itm) : Nat → Nat → Option Nat
  | 0, j => some j
  | k + 1, j => (upI l k j).bind (parI l)
theorem upI_succ' (l : List Itm) : ∀ k j, upI l (k + 1) j = (parI l j).bind (upI l k)
  | 0, j => by simp [upI]
  | k + 1, j => by
    rw [upI, upI_succ' l k j]
    cases h : parI l j with
    | none => rfl
    | some p => rfl
theorem upI_lt {l : List Itm} : ∀ {k j i : Nat}, j < l.length → upI l k j = some i → i < l.length
  | 0, j, i, hj, h => by simp [upI] at h; omega
  | k + 1, j, i, hj, h => by
    rw [upI] at h
    cases hu : upI l k j with
    | none => rw [hu] at h; cases h
    | some m => rw [hu] at h; exact parI_lt h
/-- The items right below one. -/
def kidsI (l : List Itm) (i : Nat) : List Nat := (List.range l.length).filter fun j => decide (parI l j = some i)
def topsI (l : List Itm) : List Nat := (List.range l.length).filter fun j => decide (parI l j = none)
/-- An item and all below it, as deep as that. -/
def famI (l : List Itm) : Nat → Nat → List Nat
  | 0, i => [i]
  | f + 1, i => i :: (kidsI l i).flatMap (famI l f)
/-- How often an item comes when one walks up so far. -/
def hitsI (l : List Itm) (j i : Nat) : Nat → Nat
  | 0 => if upI l 0 j = some i then 1 else 0
  | k + 1 => hitsI l j i k + if upI l (k + 1) j = some i then 1 else 0
theorem sum_map_add {α : Type} (L : List α) (f g : α → Nat) : (L.map fun x => f x + g x).sum = (L.map f).sum + (L.map g).sum := by
  induction L with
  | nil => rfl
  | cons a L ih => simp only [List.map_cons, List.sum_cons, ih]; omega
theorem sum_one {P : Nat → Prop} [DecidablePred P] (o : Option Nat) (n : Nat) (ho : ∀ c, o = some c → c < n) :
    (((List.range n).filter fun c => decide (P c)).map fun c => if o = some c then 1 else 0).sum = if ∃ c, o = some c ∧ P c then 1 else 0 := by
  have key : ∀ m, (((List.range m).filter fun c => decide (P c)).map fun c => if o = some c then 1 else 0).sum = if ∃ c, c < m ∧ o = some c ∧ P c then 1 else 0 := by
    intro m
    induction m with
    | zero => simp
    | succ m ih =>
      rw [List.range_succ, List.filter_append, List.map_append, List.sum_append, ih]
      by_cases hm : o = some m
      · have h0 : ¬ ∃ c, c < m ∧ o = some c ∧ P c := fun ⟨c, hc, h1, _⟩ => by rw [hm] at h1; cases h1; omega
        rw [if_neg h0]
        by_cases hp : P m
        · rw [if_pos ⟨m, by omega, hm, hp⟩]; simp [hp, hm]
        · have h1 : ¬ ∃ c, c < m + 1 ∧ o = some c ∧ P c := fun ⟨c, _, h1, h2⟩ => by rw [hm] at h1; cases h1; exact hp h2
          rw [if_neg h1]; simp [hp]
      · have e : (∃ c, c < m + 1 ∧ o = some c ∧ P c) ↔ ∃ c, c < m ∧ o = some c ∧ P c := ⟨fun ⟨c, hc, h1, h2⟩ => ⟨c, by rcases Nat.lt_succ_iff_lt_or_eq.1 hc with h | h; exact h; subst h; exact absurd h1 hm, h1, h2⟩, fun ⟨c, hc, h⟩ => ⟨c, by omega, h⟩⟩
        simp only [e]
        by_cases hp : P m <;> simp [hp, hm]
  rw [key n]
  have e : (∃ c, c < n ∧ o = some c ∧ P c) ↔ ∃ c, o = some c ∧ P c := ⟨fun ⟨c, _, h⟩ => ⟨c, h⟩, fun ⟨c, h⟩ => ⟨c, ho c h.1, h⟩⟩
  simp only [e]
theorem famI_count (l : List Itm) (j : Nat) (hj : j < l.length) : ∀ f i, (famI l f i).count j = hitsI l j i f
  | 0, i => by
    simp only [famI, hitsI, upI, List.count_cons, List.count_nil]
    by_cases h : j = i
    · subst h; simp
    · have h2 : ¬ i = j := fun e => h e.symm
      simp [h, h2]
  | f + 1, i => by
    have ih := famI_count l j hj f
    simp only [famI, List.count_cons, List.count_flatMap]
    have e : (List.map (List.count j ∘ famI l f) (kidsI l i)) = (kidsI l i).map fun c => hitsI l j c f := List.map_congr_left fun c _ => ih c
    rw [e]
    have key : ∀ g, ((kidsI l i).map fun c => hitsI l j c g).sum + (if upI l 0 j = some i then 1 else 0) = hitsI l j i (g + 1) := by
      intro g
      induction g with
      | zero =>
        have hs : ((kidsI l i).map fun c => hitsI l j c 0).sum = if ∃ c, upI l 0 j = some c ∧ parI l c = some i then 1 else 0 := sum_one (P := fun c => parI l c = some i) (upI l 0 j) l.length (fun c hc => upI_lt hj hc)
        rw [hs]
        simp only [hitsI]
        have e2 : (∃ c, upI l 0 j = some c ∧ parI l c = some i) ↔ upI l (0 + 1) j = some i := by
          rw [show upI l (0 + 1) j = (upI l 0 j).bind (parI l) from rfl]; cases upI l 0 j <;> simp
        simp only [e2]; omega
      | succ g ih2 =>
        have hs : ((kidsI l i).map fun c => if upI l (g + 1) j = some c then 1 else 0).sum = if ∃ c, upI l (g + 1) j = some c ∧ parI l c = some i then 1 else 0 := sum_one (P := fun c => parI l c = some i) (upI l (g + 1) j) l.length (fun c hc => upI_lt hj hc)
        have e2 : (∃ c, upI l (g + 1) j = some c ∧ parI l c = some i) ↔ upI l (g + 1 + 1) j = some i := by
          rw [show upI l (g + 1 + 1) j = (upI l (g + 1) j).bind (parI l) from rfl]; cases upI l (g + 1) j <;> simp
        have e3 : ((kidsI l i).map fun c => hitsI l j c (g + 1)) = (kidsI l i).map fun c => hitsI l j c g + if upI l (g + 1) j = some c then 1 else 0 := rfl
        rw [e3, sum_map_add, hs]
        simp only [e2]
        rw [show hitsI l j i (g + 1 + 1) = hitsI l j i (g + 1) + if upI l (g + 1 + 1) j = some i then 1 else 0 from rfl, ← ih2]
        omega
    rw [← key f]
    simp only [upI]
    by_cases h : j = i
    · subst h; simp
    · have h2 : ¬ i = j := fun e => h e.symm
      simp [h, h2]
/-- How many of the first steps end at a top. -/
def endsI (l : List Itm) (j : Nat) : Nat → Nat
  | 0 => if ∃ c, upI l 0 j = some c ∧ parI l c = none then 1 else 0
  | k + 1 => endsI l j k + if ∃ c, upI l (k + 1) j = some c ∧ parI l c = none then 1 else 0
theorem tops_count (l : List Itm) (j : Nat) (hj : j < l.length) (f : Nat) : ((topsI l).flatMap (famI l f)).count j = endsI l j f := by
  rw [List.count_flatMap]
  have e : (List.map (List.count j ∘ famI l f) (topsI l)) = (topsI l).map fun c => hitsI l j c f := List.map_congr_left fun c _ => famI_count l j hj f c
  rw [e]
  induction f with
  | zero => exact sum_one (P := fun c => parI l c = none) (upI l 0 j) l.length (fun c hc => upI_lt hj hc)
  | succ g ih =>
    have hs : ((topsI l).map fun c => if upI l (g + 1) j = some c then 1 else 0).sum = if ∃ c, upI l (g + 1) j = some c ∧ parI l c = none then 1 else 0 := sum_one (P := fun c => parI l c = none) (upI l (g + 1) j) l.length (fun c hc => upI_lt hj hc)
    have e3 : ((topsI l).map fun c => hitsI l j c (g + 1)) = (topsI l).map fun c => hitsI l j c g + if upI l (g + 1) j = some c then 1 else 0 := rfl
    rw [e3, sum_map_add, hs, ih (List.map_congr_left fun c _ => famI_count l j hj g c)]
    rfl
theorem ends_none {l : List Itm} {j k : Nat} (h : upI l k j = none) : ∀ m, endsI l j (k + m) = endsI l j k
  | 0 => rfl
  | m + 1 => by
    have hz : ∀ q, upI l (k + q) j = none := by
      intro q
      induction q with
      | zero => exact h
      | succ q ih => rw [← Nat.add_assoc, upI, ih]; rfl
    have h1 : ¬ ∃ c, upI l (k + m + 1) j = some c ∧ parI l c = none := fun ⟨c, hc, _⟩ => by rw [Nat.add_assoc, hz] at hc; cases hc
    rw [← Nat.add_assoc, endsI, if_neg h1, ends_none h m, Nat.add_zero]
theorem ends_some {l : List Itm} {j : Nat} : ∀ k, upI l (k + 1) j ≠ none → endsI l j k = 0
  | 0, h => by
    have : ¬ ∃ c, upI l 0 j = some c ∧ parI l c = none := fun ⟨c, hc, h2⟩ => h (by rw [upI, hc]; exact h2)
    rw [endsI, if_neg this]
  | k + 1, h => by
    have h0 : upI l (k + 1) j ≠ none := fun e => h (by rw [upI, e]; rfl)
    have : ¬ ∃ c, upI l (k + 1) j = some c ∧ parI l c = none := fun ⟨c, hc, h2⟩ => h (by rw [upI, hc]; exact h2)
    rw [endsI, if_neg this, ends_some k h0]
theorem ends_one {l : List Itm} {j : Nat} : ∀ f, upI l (f + 1) j = none → endsI l j f = 1
  | 0, h => by
    have : ∃ c, upI l 0 j = some c ∧ parI l c = none := ⟨j, rfl, by rw [upI] at h; exact h⟩
    rw [endsI, if_pos this]
  | f + 1, h => by
    by_cases h1 : upI l (f + 1) j = none
    · have h2 := ends_none h1 0
      have h3 : ¬ ∃ c, upI l (f + 1) j = some c ∧ parI l c = none := fun ⟨c, hc, _⟩ => by rw [h1] at hc; cases hc
      rw [endsI, if_neg h3, ends_one f h1]
    · have : ∃ c, upI l (f + 1) j = some c ∧ parI l c = none := by
        cases hc : upI l (f + 1) j with
        | none => exact absurd hc h1
        | some c => exact ⟨c, rfl, by rw [upI, hc] at h; exact h⟩
      rw [endsI, if_pos this, ends_some f h1]
theorem up_of_chain (l : List Itm) : ∀ (f k j : Nat), (chainI l f j).length ≤ k → k < f → upI l (k + 1) j = none
  | 0, _, _, _, h => by omega
  | f + 1, k, j, h, hk => by
    rw [upI_succ']
    cases hp : parI l j with
    | none => rfl
    | some p =>
      rw [chainI_some hp] at h
      obtain ⟨k', rfl⟩ : ∃ k', k = k' + 1 := ⟨k - 1, by simp at h; omega⟩
      exact up_of_chain l f k' p (by simpa using h) (by omega)
theorem famI_mem {l : List Itm} : ∀ {f i j : Nat}, i < l.length → j ∈ famI l f i → j < l.length
  | 0, i, j, hi, h => by simp [famI] at h; omega
  | f + 1, i, j, hi, h => by
    rw [famI, List.mem_cons, List.mem_flatMap] at h
    rcases h with rfl | ⟨c, hc, h⟩
    · exact hi
    · have : c < l.length := by
        have := (List.mem_filter.1 hc).1
        simpa using this
      exact famI_mem this h
theorem pigeon : ∀ (n : Nat) (g : Nat → Nat), (∀ a, a ≤ n → g a < n) → ∃ a b, a < b ∧ b ≤ n ∧ g a = g b
  | 0, g, h => absurd (h 0 (Nat.le_refl _)) (by omega)
  | n + 1, g, h => by
    by_cases hx : ∃ a, a ≤ n ∧ g a = g (n + 1)
    · obtain ⟨a, ha, e⟩ := hx
      exact ⟨a, n + 1, by omega, Nat.le_refl _, e⟩
    · have hne : ∀ a, a ≤ n → g a ≠ g (n + 1) := fun a ha e => hx ⟨a, ha, e⟩
      obtain ⟨a, b, hab, hb, e⟩ := pigeon n (fun a => if g a = n then g (n + 1) else g a) (fun a ha => by
        have h1 := h a (by omega)
        have h2 := h (n + 1) (Nat.le_refl _)
        have h3 := hne a ha
        show (if g a = n then g (n + 1) else g a) < n
        split <;> omega)
      have h3 := hne a (by omega)
      have h4 := hne b hb
      have e' : (if g a = n then g (n + 1) else g a) = if g b = n then g (n + 1) else g b := e
      refine ⟨a, b, hab, by omega, ?_⟩
      split at e' <;> split at e' <;> omega
theorem upI_add (l : List Itm) (m : Nat) : ∀ (k j : Nat), upI l (m + k) j = (upI l k j).bind (upI l m)
  | 0, j => rfl
  | k + 1, j => by
    rw [← Nat.add_assoc, upI_succ', upI_succ']
    cases parI l j with
    | none => rfl
    | some p => exact upI_add l m k p
theorem chain_get {l : List Itm} : ∀ (f a j : Nat), a < f → (chainI l f j)[a]? = upI l (a + 1) j
  | 0, _, _, h => by omega
  | f + 1, a, j, h => by
    rw [upI_succ']
    cases hp : parI l j with
    | none => rw [chainI_none hp]; rfl
    | some p =>
      rw [chainI_some hp]
      cases a with
      | zero => rfl
      | succ a => rw [List.getElem?_cons_succ]; exact chain_get f a p (by omega)
theorem chain_short {l : List Itm} (h : ∀ i, i < l.length → i ∉ chainI l (l.length + 1) i) (j : Nat) : (chainI l (l.length + 1) j).length < l.length + 1 := by
  by_cases hlt : (chainI l (l.length + 1) j).length < l.length + 1
  · exact hlt
  exfalso
  obtain ⟨a, b, hab, hb, e⟩ := pigeon l.length (fun a => (chainI l (l.length + 1) j).getD a 0) (fun a ha => by
    have hal : a < (chainI l (l.length + 1) j).length := by omega
    show (chainI l (l.length + 1) j).getD a 0 < _
    rw [List.getD_eq_getElem?_getD, List.getElem?_eq_getElem hal]
    exact chainI_lt l _ j _ (List.getElem_mem hal))
  have hal : a < (chainI l (l.length + 1) j).length := by omega
  have hbl : b < (chainI l (l.length + 1) j).length := by omega
  have e' : (chainI l (l.length + 1) j).getD a 0 = (chainI l (l.length + 1) j).getD b 0 := e
  rw [List.getD_eq_getElem?_getD, List.getElem?_eq_getElem hal, List.getD_eq_getElem?_getD, List.getElem?_eq_getElem hbl] at e'
  have ga := chain_get (l := l) (l.length + 1) a j (by omega)
  have gb := chain_get (l := l) (l.length + 1) b j (by omega)
  rw [List.getElem?_eq_getElem hal] at ga
  rw [List.getElem?_eq_getElem hbl] at gb
  have hc := chainI_lt l _ j _ (List.getElem_mem hal)
  simp only [Option.getD_some] at e'
  rw [← e'] at gb
  generalize (chainI l (l.length + 1) j)[a] = c at *
  have hcc : upI l (b - a) c = some c := by
    have := upI_add l (b - a) (a + 1) j
    rw [← ga, show b - a + (a + 1) = b + 1 by omega, ← gb] at this
    exact this.symm
  refine h c hc ?_
  have := chain_get (l := l) (l.length + 1) (b - a - 1) c (by omega)
  rw [show b - a - 1 + 1 = b - a by omega, hcc] at this
  exact List.mem_of_getElem? this
theorem up_top {l : List Itm} (ht : TreeOk l) {j : Nat} (hj : j < l.length) {f : Nat} (hf : 4 ≤ f) : upI l (f + 1) j = none := by
  have h5 := up_of_chain l (l.length + 1) (chainI l (l.length + 1) j).length j (Nat.le_refl _) (chain_short ht.loop j)
  have hz : ∀ q, upI l ((chainI l (l.length + 1) j).length + 1 + q) j = none := by
    intro q
    induction q with
    | zero => exact h5
    | succ q ih => rw [← Nat.add_assoc, upI, ih]; rfl
  have h6 := ht.deep j hj
  have := hz (f - (chainI l (l.length + 1) j).length)
  rwa [show (chainI l (l.length + 1) j).length + 1 + (f - (chainI l (l.length + 1) j).length) = f + 1 by omega] at this
theorem fam_perm {l : List Itm} (ht : TreeOk l) {f : Nat} (hf : 4 ≤ f) : ((topsI l).flatMap (famI l f)).Perm (List.range l.length) := by
  rw [List.perm_iff_count]
  intro j
  by_cases hj : j < l.length
  · rw [tops_count l j hj f]
    have hr : (List.range l.length).count j = 1 := by
      rw [List.count_range]; simp [hj]
    rw [ends_one f (up_top ht hj hf), hr]
  · have h1 : (List.range l.length).count j = 0 := List.count_eq_zero.2 (by simp; omega)
    have h2 : ((topsI l).flatMap (famI l f)).count j = 0 := List.count_eq_zero.2 (fun hm => by
      rw [List.mem_flatMap] at hm
      obtain ⟨c, hc, hm⟩ := hm
      have : c < l.length := by
        have := (List.mem_filter.1 hc).1
        simpa using this
      exact hj (famI_mem this hm))
    rw [h1, h2]
end Go.Proofs.YtfijplllfdmcoaaGreatDoor

namespace Go.Proofs.YtfijplllfdmcoaaGreatDoor
open Go.RowKit Go.Maps

/-- Items that stay: right, each with another id. -/
structure SetI (l : List Itm) : Prop where
  ok : ItemsOk l
  nodup : (l.map Itm.id).Nodup
  few : l.length ≤ 2000
theorem SetI.find {l : List Itm} (h : SetI l) {i j : Nat} {x y : Itm} (hx : l[i]? = some x) (hy : l[j]? = some y) (e : x.id = y.id) : i = j := by
  obtain ⟨hi, rfl⟩ := List.getElem?_eq_some_iff.1 hx
  obtain ⟨hj, rfl⟩ := List.getElem?_eq_some_iff.1 hy
  have hp := List.pairwise_iff_getElem.1 h.nodup
  rcases Nat.lt_trichotomy i j with h1 | h1 | h1
  · exact (hp i j (by simpa using hi) (by simpa using hj) h1 (by rw [List.getElem_map, List.getElem_map]; exact e)).elim
  · exact h1
  · exact (hp j i (by simpa using hj) (by simpa using hi) h1 (by rw [List.getElem_map, List.getElem_map]; exact e.symm)).elim
theorem SetI.id_ne {l : List Itm} (h : SetI l) {x : Itm} (hx : x ∈ l) : x.id.data.toList ≠ [] := fun e => by
  have := (h.ok.each x hx).id
  rw [e] at this
  cases this
theorem SetI.findEmpty {l : List Itm} (h : SetI l) {p : ByteArray} (hp : p.data.toList = []) : findI l p = none := by
  unfold findI
  rw [List.findIdx?_eq_none_iff]
  intro x hx
  have : x.id ≠ p := fun e => h.id_ne hx (by rw [e]; exact hp)
  simpa using this
theorem chain_done {l : List Itm} {i j m f : Nat} (hu : upI l m i = some j) (hp : parI l j = none) (hm : m < f) : (chainI l f i).length = m := by
  have h1 : (chainI l f i).length ≤ m := by
    have := chain_get (l := l) f m i hm
    rw [upI, hu] at this
    rw [show (some j).bind (parI l) = none from hp] at this
    exact List.getElem?_eq_none_iff.1 this
  rcases Nat.eq_zero_or_pos m with h0 | h0
  · omega
  · have := chain_get (l := l) f (m - 1) i (by omega)
    rw [show m - 1 + 1 = m by omega, hu] at this
    have := (List.getElem?_eq_some_iff.1 this).1
    omega
theorem chain_ge {l : List Itm} {i j m f : Nat} (hu : upI l m i = some j) (hm : m ≤ f) : m ≤ (chainI l f i).length := by
  rcases Nat.eq_zero_or_pos m with h0 | h0
  · omega
  · have := chain_get (l := l) f (m - 1) i (by omega)
    rw [show m - 1 + 1 = m by omega, hu] at this
    have := (List.getElem?_eq_some_iff.1 this).1
    omega
def ByIdPost (w : World) (l : List Itm) (e : Ending) (w' : World) : Prop := ∃ M, e = .returned (.map (some M)) ∧ w.heap.size ≤ M ∧ IMapAt w' M l ∧ Below w.heap.size w w'
set_option maxHeartbeats 1600000 in
set_option maxRecDepth 100000 in
theorem byId_any (A : Option Addr) (n c : Nat) (l : List Itm) (w : World) (h : ItemsAt w A n c l) (hl : SetI l) :
    Calls Tryz.prog 83 #[.slice A n c] w (ByIdPost w l) := by
  have HN := Lib.hid h.1
  have HH := Lib.hid h
  have HL := Lib.hid hl
  have hn : n ≤ 2000 := by have := hl.few; have := h.1; omega
  have hmm := @run_makeMap Tryz.prog
  have h00 : Below w.heap.size w (w.alloc (.map #[] 0)) := (Below.refl _ _).alloc (Nat.le_refl _) _
  have HM0 := Lib.hid (IMapAt.start w)
  clear h hl
  go_enter Tryz.func83, Tryz.ntmps83
  go_wp2_with fail
  go_loopg [9] n (fun gk v wr => ∃ k : Nat, Hid (k + gk = n) ∧ v = .int .i64 (k : Int) ∧ Hid (IMapAt wr w.heap.size (l.take k)) ∧ Hid (Below w.heap.size w wr))
  case atStart => exact ⟨0, show 0 + n = n by omega, rfl, HM0.out, h00⟩
  case round =>
    obtain ⟨k, HK, rfl, HM, HB⟩ := hrel
    clear h00 HM0
    have hkn : k ≤ n := by have := HK.out; omega
    by_cases hlt : k < n
    · have HGK := Lib.hid (show k + 1 + (gk - 1) = n ∧ 0 < gk by have := HK.out; omega)
      obtain ⟨g, off, rfl, hg, hc⟩ := (ElemsAt.keep HH.out HB.out).item (by omega)
      have hkl : k < l.length := by have := HN.out; omega
      obtain ⟨x, hx⟩ : ∃ x, l[k]? = some x := ⟨_, List.getElem?_eq_getElem hkl⟩
      obtain ⟨c0, c1, c2, c3, c4, c5, c6⟩ := hc k x hx
      have HTK : Hid (l.take (k + 1) = l.take k ++ [x]) := by show _ = _; obtain ⟨h1, h2⟩ := List.getElem?_eq_some_iff.1 hx; rw [List.take_succ_eq_append_getElem h1, h2]
      have HNEW : Hid (x.id ∉ (l.take k).map Itm.id) := by
        show ¬ _
        intro hm
        obtain ⟨y, hy, he⟩ := List.mem_map.1 hm
        obtain ⟨i, hi, rfl⟩ := List.mem_take_iff_getElem.1 hy
        have := HL.out.find (i := i) (j := k) (List.getElem?_eq_getElem (by omega)) hx he
        omega
      have hkey := keyS_mk x.id (by have := ((HL.out.ok.each x (List.mem_of_getElem? hx)).small).1; exact this)
      have HKEY := Lib.hid hkey
      have hlen : (l.take k).length = k := by rw [List.length_take]; omega
      have HLEN := Lib.hid hlen
      have hb1 : Below wr.heap.size wr (wr.alloc (.cells #[.string x.id, .string x.cu, .int .i64 x.kind, .string x.name, .int .i64 x.at_, .string x.par, .string x.text] 60)) := (Below.refl _ _).alloc (Nat.le_refl _) _
      have HI1 : Hid (ItemAt (wr.alloc (.cells #[.string x.id, .string x.cu, .int .i64 x.kind, .string x.name, .int .i64 x.at_, .string x.par, .string x.text] 60)) wr.heap.size x) := item_new wr x
      have HB1 := Lib.hid (HB.out.trans (hb1.mono HB.out.size))
      have HM1 := Lib.hid (HM.out.below hb1)
      clear hc hx hkl HK hb1 hkey hlen
      go_upto_region 5 with (fail)
      obtain ⟨P, hP⟩ : ∃ P, P = wr.heap.size := ⟨_, rfl⟩
      rw [← hP] at HI1 ⊢
      generalize wr.alloc (.cells #[.string x.id, .string x.cu, .int .i64 x.kind, .string x.name, .int .i64 x.at_, .string x.par, .string x.text] 60) = w1 at *
      clear hP c0 c1 c2 c3 c4 c5 c6
      obtain ⟨c0, c1, c2, c3, c4, c5, c6⟩ := HI1.out.c
      obtain ⟨D, hD⟩ := HM1.out.ex
      have HD := Lib.hid hD
      clear hD
      go_wp2_with (at_mapUpdate; refine wpList_mapUpdate_own _ rfl _ _ _ 79 rfl 9 60 keyS Tryz.underlying79 _ w.heap.size (l.take k).length D rfl HD.out.1 (by rw [HLEN.out]; simp only [maxLen]; omega) _ _ (.string x.id.data.toList) rfl rfl HKEY.out (.held x.v) [] rfl ?_; intro w5 hown5 hgrow5)
      have HM5 : Hid (IMapAt w5 w.heap.size (l.take (k + 1))) := by show IMapAt _ _ _; rw [HTK.out]; exact IMapAt.put x HNEW.out HD.out.1 HD.out.2.1 HD.out.2.2.1 HD.out.2.2.2 hown5
      have HB5 : Hid (Below w.heap.size w w5) := HB1.out.grown hgrow5 HB1.out.size (fun i e => by have := Option.some.inj e; omega)
      clear hown5 hgrow5
      go_roundg (gk - 1)
      case measure => exact Nat.sub_lt HGK.out.2 Nat.one_pos
      case rel => exact ⟨k + 1, HGK.out.1, by go_num, HM5.out, HB5.out⟩
    · have hnk : ¬ (k : Int) < (n : Int) := by omega
      have hta : l.take k = l := List.take_of_length_le (by have := HN.out; omega)
      rw [hta] at HM
      clear hta
      go_wp2_with fail
      go_ret
      exact ⟨_, rfl, Nat.le_refl _, HM.out, HB.out⟩
theorem IMapAt.hit {w : World} {M q : Nat} {l : List Itm} {z : Itm} {id : ByteArray} (h : IMapAt w M l) (hid : id.size ≤ 1000000) (hf : findI l id = some q) (hz : l[q]? = some z) :
    (Instr.lookup 79 (.map (some M)) (.string id) true).run Tryz.prog w = .ok (.tuple #[.agg #[.string z.id, .string z.cu, .int .i64 z.kind, .string z.name, .int .i64 z.at_, .string z.par, .string z.text], .bool true]) w := by
  have := h.look2 id hid 0
  rw [valI_some hf hz, hf] at this
  exact this
theorem IMapAt.miss {w : World} {M : Nat} {l : List Itm} {id : ByteArray} (h : IMapAt w M l) (hid : id.size ≤ 1000000) (hf : findI l id = none) :
    (Instr.lookup 79 (.map (some M)) (.string id) true).run Tryz.prog w = .ok (.tuple #[.agg #[.string ⟨#[]⟩, .string ⟨#[]⟩, .int .i64 0, .string ⟨#[]⟩, .int .i64 0, .string ⟨#[]⟩, .string ⟨#[]⟩], .bool false]) w := by
  have := h.look2 id hid 0
  rw [valI_none hf, hf] at this
  exact this
theorem ItemAt.setAll {w : World} {P : Nat} {y z : Itm} (h : ItemAt w P y) : ItemAt (((((((w.setCell ⟨P, 0, none⟩ (.string z.id)).setCell ⟨P, 1, none⟩ (.string z.cu)).setCell ⟨P, 2, none⟩ (.int .i64 z.kind)).setCell ⟨P, 3, none⟩ (.string z.name)).setCell ⟨P, 4, none⟩ (.int .i64 z.at_)).setCell ⟨P, 5, none⟩ (.string z.par)).setCell ⟨P, 6, none⟩ (.string z.text)) P z :=
  ((((((h.setId z.id).setCu z.cu).setKind z.kind).setName z.name).setAt z.at_).setPar z.par).setText z.text
theorem grown_setAll (w : World) (P : Nat) (z : Itm) : w.grownBy (((((((w.setCell ⟨P, 0, none⟩ (.string z.id)).setCell ⟨P, 1, none⟩ (.string z.cu)).setCell ⟨P, 2, none⟩ (.int .i64 z.kind)).setCell ⟨P, 3, none⟩ (.string z.name)).setCell ⟨P, 4, none⟩ (.int .i64 z.at_)).setCell ⟨P, 5, none⟩ (.string z.par)).setCell ⟨P, 6, none⟩ (.string z.text)) (some P) :=
  grown_trans (grown_trans (grown_trans (grown_trans (grown_trans (grown_trans (grown_setCell w P 0 _) (grown_setCell _ P 1 _)) (grown_setCell _ P 2 _)) (grown_setCell _ P 3 _)) (grown_setCell _ P 4 _)) (grown_setCell _ P 5 _)) (grown_setCell _ P 6 _)
def AboveP (w : World) (m : Nat) (e : Ending) (w' : World) : Prop := e = .returned (.tuple #[.int .i64 (m : Int), .bool false]) ∧ Below w.heap.size w w'
set_option maxHeartbeats 3200000 in
set_option maxRecDepth 100000 in
theorem aboveP_any (M i : Nat) (x : Itm) (l : List Itm) (w : World) (hM : IMapAt w M l) (hl : SetI l) (hx : l[i]? = some x) :
    Calls Tryz.prog 84 #[.map (some M), x.v] w (AboveP w (chainI l (l.length + 1) i).length) := by
  have HL := Lib.hid hl
  have HX := Lib.hid hx
  have hfew := hl.few
  have HIL : Hid (i < l.length) := (List.getElem?_eq_some_iff.1 hx).1
  obtain ⟨w2, hw2⟩ : ∃ w2, w2 = (w.alloc (.cells #[.string x.id, .string x.cu, .int .i64 x.kind, .string x.name, .int .i64 x.at_, .string x.par, .string x.text] 60)).alloc (.cells #[.string x.id, .string x.cu, .int .i64 x.kind, .string x.name, .int .i64 x.at_, .string x.par, .string x.text] 60) := ⟨_, rfl⟩
  have hz1 : (w.alloc (.cells #[.string x.id, .string x.cu, .int .i64 x.kind, .string x.name, .int .i64 x.at_, .string x.par, .string x.text] 60)).heap.size = w.heap.size + 1 := by simp
  have hb1 : Below w.heap.size w (w.alloc (.cells #[.string x.id, .string x.cu, .int .i64 x.kind, .string x.name, .int .i64 x.at_, .string x.par, .string x.text] 60)) := (Below.refl _ _).alloc (Nat.le_refl _) _
  have HB2 : Hid (Below w.heap.size w w2) := by show Below _ _ _; rw [hw2]; exact hb1.alloc hb1.size _
  have HI0 : Hid (ItemAt w2 w.heap.size x) := by show ItemAt _ _ _; rw [hw2]; exact ItemAt.keep (item_new w x) ((Below.refl _ _).alloc (Nat.le_refl _) _)
  have HI1 : Hid (ItemAt w2 (w.heap.size + 1) x) := by
    show ItemAt _ _ _
    rw [hw2]
    have := item_new (w.alloc (.cells #[.string x.id, .string x.cu, .int .i64 x.kind, .string x.name, .int .i64 x.at_, .string x.par, .string x.text] 60)) x
    rw [hz1] at this
    exact this
  have HM2 : Hid (IMapAt w2 M l) := hM.below HB2.out
  have HML := Lib.hid hM.lt
  unfold Itm.v
  clear hM hl hx hb1
  go_enter Tryz.func84, Tryz.ntmps84
  go_upto_region 2 with (fail)
  rw [← hw2]
  clear hw2 hz1
  have hlen := fun ty => HM2.out.len ty
  go_wp2_with fail
  clear hlen
  go_loopg [4, 12] l.length (fun gk v4 v wr => ∃ (m j : Nat) (y : Itm), Hid (m + gk = l.length) ∧ v4 = .int .i64 (m : Int) ∧ v = .int .i64 (m : Int) ∧ Hid (upI l m i = some j) ∧ Hid (l[j]? = some y) ∧ Hid (ItemAt wr (w.heap.size + 1) y) ∧ Hid (ItemAt wr w.heap.size x) ∧ Hid (IMapAt wr M l) ∧ Hid (Below w.heap.size w wr))
  case atStart => exact ⟨0, i, x, show 0 + l.length = _ by omega, rfl, rfl, show _ = _ from rfl, HX.out, HI1.out, HI0.out, HM2.out, HB2.out⟩
  case round =>
    obtain ⟨m, j, y, HK, rfl, rfl, HU, HY, HIY, HI0, HM, HB⟩ := hrel
    have hml : m ≤ l.length := by have := HK.out; omega
    by_cases hlt : m < l.length
    · have HGK := Lib.hid (show m + 1 + (gk - 1) = l.length ∧ 0 < gk by have := HK.out; omega)
      have hmem := List.mem_of_getElem? HY.out
      have hps := ((HL.out.ok.each y hmem).small).2.2.2.1
      obtain ⟨c0, c1, c2, c3, c4, c5, c6⟩ := HIY.out.c
      by_cases hp : y.par.data.toList = []
      · have HF : Hid (AboveP w (chainI l (l.length + 1) i).length (.returned (.tuple #[.int .i64 (m : Int), .bool false])) (wr.alloc (.cells #[.string ⟨#[]⟩, .string ⟨#[]⟩, .int .i64 0, .string ⟨#[]⟩, .int .i64 0, .string ⟨#[]⟩, .string ⟨#[]⟩] 60))) := by
          refine ⟨?_, HB.out.alloc HB.out.size _⟩
          rw [chain_done HU.out (parI_nil HY.out hp) (by omega)]
        have hlk := HM.out.miss hps (HL.out.findEmpty hp)
        clear hp hmem hps HK
        go_wp2_with fail
        go_ret2
        exact HF.out
      · obtain ⟨q, hq⟩ : ∃ q, findI l y.par = some q := by
          rcases HL.out.ok.par y hmem with h | h
          · exact absurd h hp
          · exact Option.isSome_iff_exists.1 h
        obtain ⟨z, hz, hze, _⟩ := findI_some hq
        have HUN : Hid (upI l (m + 1) i = some q) := by show _ = _; rw [upI, HU.out]; show parI l j = some q; rw [parI_of HY.out hp, hq]
        have HZ := Lib.hid hz
        have HNE : Hid (z.id ≠ x.id) := fun e => by
          have hqi := HL.out.find hz HX.out e
          subst hqi
          refine HL.out.ok.tree.loop q HIL.out ?_
          have := chain_get (l := l) (l.length + 1) m q (by omega)
          rw [HUN.out] at this
          exact List.mem_of_getElem? this
        have hlk := HM.out.hit hps hq hz
        obtain ⟨q1, q2, q3⟩ := par_fullL hp
        have e0 : (z.id.toList == x.id.toList) = false := by rw [bytes_eq]; exact decide_eq_false HNE.out
        have hb1 : Below wr.heap.size wr (wr.alloc (.cells #[.string z.id, .string z.cu, .int .i64 z.kind, .string z.name, .int .i64 z.at_, .string z.par, .string z.text] 60)) := (Below.refl _ _).alloc (Nat.le_refl _) _
        have HIZ : Hid (ItemAt (wr.alloc (.cells #[.string z.id, .string z.cu, .int .i64 z.kind, .string z.name, .int .i64 z.at_, .string z.par, .string z.text] 60)) wr.heap.size z) := item_new wr z
        have HIY1 := Lib.hid (HIY.out.keep hb1)
        have HI01 := Lib.hid (HI0.out.keep hb1)
        have HM1 := Lib.hid (HM.out.below hb1)
        have HB1 := Lib.hid (HB.out.trans (hb1.mono HB.out.size))
        have HPZ : Hid (w.heap.size + 1 < wr.heap.size) := HIY.out.lt
        clear hp hmem hps HK hq hz hze hb1
        go_upto_region 5 with (fail)
        obtain ⟨Q, hQ⟩ : ∃ Q, Q = wr.heap.size := ⟨_, rfl⟩
        rw [← hQ] at HIZ HPZ ⊢
        generalize wr.alloc (.cells #[.string z.id, .string z.cu, .int .i64 z.kind, .string z.name, .int .i64 z.at_, .string z.par, .string z.text] 60) = w1 at *
        clear hQ hlk c0 c1 c2 c3 c4 c5 c6 HIY HI0 HM HB
        obtain ⟨c0, c1, c2, c3, c4, c5, c6⟩ := HIY1.out.c
        obtain ⟨d0, d1, d2, d3, d4, d5, d6⟩ := HIZ.out.c
        have x0 := HI01.out.c.1
        have ff := HIY1.out.fr
        have f0 := ff 0; have f1 := ff 1; have f2 := ff 2; have f3 := ff 3; have f4 := ff 4; have f5 := ff 5; have f6 := ff 6
        clear ff
        have HS1 := Lib.hid (ItemAt.setAll (z := z) HIY1.out)
        have HG1 := Lib.hid (grown_setAll w1 (w.heap.size + 1) z)
        go_wp2_with fail
        have HI03 := Lib.hid (ItemAt.row_ HI01.out HG1.out (by omega))
        have HM3 := Lib.hid (HM1.out.kept HG1.out (fun e => by have := Option.some.inj e; have := HML.out; omega))
        have HB3 : Hid (Below w.heap.size w _) := HB1.out.grown HG1.out HB1.out.size (fun i e => by have := Option.some.inj e; omega)
        go_roundg (gk - 1)
        case measure => exact Nat.sub_lt HGK.out.2 Nat.one_pos
        case rel => exact ⟨m + 1, q, z, HGK.out.1, by go_num, by go_num, HUN.out, HZ.out, HS1.out, HI03.out, HM3.out, HB3.out⟩
    · have hnk : ¬ (m : Int) < (l.length : Int) := by omega
      have HF : Hid (AboveP w (chainI l (l.length + 1) i).length (.returned (.tuple #[.int .i64 (m : Int), .bool false])) wr) := by
        refine ⟨?_, HB.out⟩
        have h1 := chain_ge (f := l.length + 1) HU.out (by omega)
        have h2 := chain_short HL.out.ok.tree.loop i
        rw [show (chainI l (l.length + 1) i).length = m by omega]
      go_wp2_with fail
      go_ret2
      exact HF.out
end Go.Proofs.YtfijplllfdmcoaaGreatDoor

namespace Go.Proofs.YtfijplllfdmcoaaGreatDoor
open Go.RowKit Go.Maps

set_option maxHeartbeats 3200000 in
set_option maxRecDepth 100000 in
theorem placed_ok (M i : Nat) (x : Itm) (l : List Itm) (w : World) (hM : IMapAt w M l) (hl : SetI l) (hx : l[i]? = some x) :
    Calls Tryz.prog 85 #[.map (some M), x.v] w (OkPost w) := by
  have HL := Lib.hid hl
  have HX := Lib.hid hx
  have HIL : Hid (i < l.length) := (List.getElem?_eq_some_iff.1 hx).1
  have hmem := List.mem_of_getElem? hx
  have hps := ((hl.ok.each x hmem).small).2.2.2.1
  have hb1 : Below w.heap.size w (w.alloc (.cells #[.string x.id, .string x.cu, .int .i64 x.kind, .string x.name, .int .i64 x.at_, .string x.par, .string x.text] 60)) := (Below.refl _ _).alloc (Nat.le_refl _) _
  have HI1 : Hid (ItemAt (w.alloc (.cells #[.string x.id, .string x.cu, .int .i64 x.kind, .string x.name, .int .i64 x.at_, .string x.par, .string x.text] 60)) w.heap.size x) := item_new w x
  have HM1 := Lib.hid (hM.below hb1)
  have HB1 := Lib.hid hb1
  have HAB := Lib.hid (fun wx (hb : Below (w.alloc (.cells #[.string x.id, .string x.cu, .int .i64 x.kind, .string x.name, .int .i64 x.at_, .string x.par, .string x.text] 60)).heap.size (w.alloc (.cells #[.string x.id, .string x.cu, .int .i64 x.kind, .string x.name, .int .i64 x.at_, .string x.par, .string x.text] 60)) wx) => aboveP_any M i x l wx (HM1.out.below hb) hl hx)
  have hdeep := hl.ok.tree.deep i HIL.out
  unfold Itm.v at HAB
  unfold Itm.v
  clear hM hl hx hb1
  go_enter Tryz.func85, Tryz.ntmps85
  go_upto_region 1 with (fail)
  obtain ⟨P, hP⟩ : ∃ P, P = w.heap.size := ⟨_, rfl⟩
  rw [← hP] at HI1 ⊢
  generalize w.alloc (.cells #[.string x.id, .string x.cu, .int .i64 x.kind, .string x.name, .int .i64 x.at_, .string x.par, .string x.text] 60) = w1 at *
  clear hP
  obtain ⟨c0, c1, c2, c3, c4, c5, c6⟩ := HI1.out.c
  generalize (chainI l (l.length + 1) i).length = len at *
  have hli : ¬ (4 : Int) < (len : Int) := by omega
  by_cases hp : x.par.data.toList = []
  · have hlk := HM1.out.miss hps (HL.out.findEmpty hp)
    have hb2 : Below w1.heap.size w1 (w1.alloc (.cells #[.string ⟨#[]⟩, .string ⟨#[]⟩, .int .i64 0, .string ⟨#[]⟩, .int .i64 0, .string ⟨#[]⟩, .string ⟨#[]⟩] 60)) := (Below.refl _ _).alloc (Nat.le_refl _) _
    obtain ⟨q1, q2, q3⟩ := par_emptyL hp
    clear hp hmem hps
    go_upto_region 2 with (fail)
    generalize w1.alloc (.cells #[.string ⟨#[]⟩, .string ⟨#[]⟩, .int .i64 0, .string ⟨#[]⟩, .int .i64 0, .string ⟨#[]⟩, .string ⟨#[]⟩] 60) = w2 at *
    clear hlk c0 c1 c2 c3 c4 c5 c6
    obtain ⟨c0, c1, c2, c3, c4, c5, c6⟩ := (HI1.out.keep hb2).c
    go_upto_region 4 with (fail)
    clear q1 q2 q3
    go_wp2_with fail
    refine (HAB.out _ hb2).mono ?_
    rintro e w3 ⟨rfl, hb3⟩
    have HB3 := Lib.hid (HB1.out.trans ((below_trans' hb2 hb3).mono HB1.out.size))
    clear hb3 hb2 HAB c0 c1 c2 c3 c4 c5 c6
    go_wp2_with fail
    rw [show decide ((4 : Int) < (len : Int)) = false from decide_eq_false (by omega)]
    refine (when_any false 2 _).mono ?_
    rintro e w' ⟨rfl, hw⟩
    obtain rfl := hw
    go_wp2_with fail
    go_ret
    exact ⟨rfl, HB3.out⟩
  · obtain ⟨q, hq⟩ : ∃ q, findI l x.par = some q := by
      rcases HL.out.ok.par x hmem with h | h
      · exact absurd h hp
      · exact Option.isSome_iff_exists.1 h
    obtain ⟨z, hz, -, -⟩ := findI_some hq
    have HKD : Hid (z.kind = 1 ∨ z.kind = 3) := by
      obtain ⟨y, hy, hk⟩ := HL.out.ok.tree.kind i q HIL.out (by rw [parI_of HX.out hp, hq])
      rw [hz] at hy
      cases hy
      exact hk
    have hlk := HM1.out.hit hps hq hz
    have hb2 : Below w1.heap.size w1 (w1.alloc (.cells #[.string z.id, .string z.cu, .int .i64 z.kind, .string z.name, .int .i64 z.at_, .string z.par, .string z.text] 60)) := (Below.refl _ _).alloc (Nat.le_refl _) _
    have HIZ : Hid (ItemAt (w1.alloc (.cells #[.string z.id, .string z.cu, .int .i64 z.kind, .string z.name, .int .i64 z.at_, .string z.par, .string z.text] 60)) w1.heap.size z) := item_new w1 z
    obtain ⟨q1, q2, q3⟩ := par_fullL hp
    clear hp hmem hps hq hz
    go_upto_region 2 with (fail)
    obtain ⟨Q, hQ⟩ : ∃ Q, Q = w1.heap.size := ⟨_, rfl⟩
    rw [← hQ] at HIZ ⊢
    generalize w1.alloc (.cells #[.string z.id, .string z.cu, .int .i64 z.kind, .string z.name, .int .i64 z.at_, .string z.par, .string z.text] 60) = w2 at *
    clear hlk hQ c0 c1 c2 c3 c4 c5 c6
    obtain ⟨c0, c1, c2, c3, c4, c5, c6⟩ := (HI1.out.keep hb2).c
    have d2 := HIZ.out.c.2.2.1
    generalize z.kind = kd at *
    rcases HKD.out with rfl | rfl
    · go_wp2_with fail
      refine (HAB.out _ hb2).mono ?_
      rintro e w3 ⟨rfl, hb3⟩
      have HB3 := Lib.hid (HB1.out.trans ((below_trans' hb2 hb3).mono HB1.out.size))
      clear hb3 hb2 HAB c0 c1 c2 c3 c4 c5 c6
      go_wp2_with fail
      rw [show decide ((4 : Int) < (len : Int)) = false from decide_eq_false (by omega)]
      refine (when_any false 2 _).mono ?_
      rintro e w' ⟨rfl, hw⟩
      obtain rfl := hw
      go_wp2_with fail
      go_ret
      exact ⟨rfl, HB3.out⟩
    · go_wp2_with fail
      refine (HAB.out _ hb2).mono ?_
      rintro e w3 ⟨rfl, hb3⟩
      have HB3 := Lib.hid (HB1.out.trans ((below_trans' hb2 hb3).mono HB1.out.size))
      clear hb3 hb2 HAB c0 c1 c2 c3 c4 c5 c6
      go_wp2_with fail
      rw [show decide ((4 : Int) < (len : Int)) = false from decide_eq_false (by omega)]
      refine (when_any false 2 _).mono ?_
      rintro e w' ⟨rfl, hw⟩
      obtain rfl := hw
      go_wp2_with fail
      go_ret
      exact ⟨rfl, HB3.out⟩
end Go.Proofs.YtfijplllfdmcoaaGreatDoor

namespace Go.Proofs.YtfijplllfdmcoaaGreatDoor
open Go.RowKit Go.Maps

/-- Right items in the order of their ids. -/
structure SetR (l : List Itm) : Prop where
  set : SetI l
  rise : Rising (l.map fun x => x.id.data.toList)
theorem SetR.at_ {l : List Itm} (h : SetR l) {k : Nat} {x y : Itm} (h0 : 0 < k) (hx : l[k]? = some x) (hy : l[k - 1]? = some y) : (Op.bytesLess x.id.data.toList y.id.data.toList || x.id.data.toList == y.id.data.toList) = false := by
  have hk := (List.getElem?_eq_some_iff.1 hx).1
  have := h.rise.at_ h0 (by simpa using hk)
  simpa [List.getD_eq_getElem?_getD, hx, hy] using this
set_option maxHeartbeats 6400000 in
set_option maxRecDepth 100000 in
theorem check_ok (A : Option Addr) (n c : Nat) (l : List Itm) (w : World) (h : ItemsAt w A n c l) (hl : SetR l) (hT : Tabs w) (hM : MaxAt w) :
    Calls Tryz.prog 37 #[.slice A n c] w (OkPost w) := by
  have HN := Lib.hid h.1
  have HH := Lib.hid h
  have HL := Lib.hid hl
  have hn : n ≤ 2000 := by have := hl.set.few; have := h.1; omega
  have HTT : Hid (∀ w', Below w.heap.size w w' → Tabs w' ∧ MaxAt w') := fun w' hb => ⟨Tabs.below hT hb, MaxAt.below hM hb⟩
  have HBY := Lib.hid (fun wx (hb : Below w.heap.size w wx) => byId_any A n c l wx (h.keep hb) hl.set)
  have hni : ¬ (2000 : Int) < (n : Int) := by omega
  clear h hl hT hM
  go_enter Tryz.func37, Tryz.ntmps37
  go_wp2_with fail
  go_loopg [23] n (fun gk v wr => ∃ k : Nat, Hid (k + gk = n) ∧ v = .int .i64 (k : Int) ∧ Hid (Below w.heap.size w wr))
  case atStart => exact ⟨0, show 0 + n = n by omega, rfl, Below.refl _ _⟩
  case round =>
    obtain ⟨k, HK, rfl, HW⟩ := hrel
    have hkn : k ≤ n := by have := HK.out; omega
    by_cases hlt : k < n
    · have HGK := Lib.hid (show k + 1 + (gk - 1) = n ∧ 0 < gk by have := HK.out; omega)
      obtain ⟨g, off, rfl, hg, hc⟩ := (ElemsAt.keep HH.out HW.out).item (by omega)
      have hkl : k < l.length := by have := HN.out; omega
      obtain ⟨x, hx⟩ : ∃ x, l[k]? = some x := ⟨_, List.getElem?_eq_getElem hkl⟩
      obtain ⟨c0, c1, c2, c3, c4, c5, c6⟩ := hc k x hx
      have hmem := List.mem_of_getElem? hx
      have HX := Lib.hid hx
      have HC := Lib.hid hc
      have HGL := Lib.hid hg
      have hb1 : Below wr.heap.size wr (wr.alloc (.cells #[.string x.id, .string x.cu, .int .i64 x.kind, .string x.name, .int .i64 x.at_, .string x.par, .string x.text] 60)) := (Below.refl _ _).alloc (Nat.le_refl _) _
      have HI1 : Hid (ItemAt (wr.alloc (.cells #[.string x.id, .string x.cu, .int .i64 x.kind, .string x.name, .int .i64 x.at_, .string x.par, .string x.text] 60)) wr.heap.size x) := item_new wr x
      have HBE := Lib.hid hb1
      have HW1 := Lib.hid (HW.out.trans (hb1.mono HW.out.size))
      clear hc hx hkl HK hb1 hg
      go_upto_region 6 with (fail)
      obtain ⟨P, hP⟩ : ∃ P, P = wr.heap.size := ⟨_, rfl⟩
      rw [← hP] at HI1 ⊢
      generalize wr.alloc (.cells #[.string x.id, .string x.cu, .int .i64 x.kind, .string x.name, .int .i64 x.at_, .string x.par, .string x.text] 60) = w1 at *
      have HCI := Lib.hid (fun wx (hb : Below w1.heap.size w1 wx) => checkItem_ok x wx (HL.out.set.ok.each x hmem) (HTT.out wx (HW1.out.trans (hb.mono HW1.out.size))).1 (HTT.out wx (HW1.out.trans (hb.mono HW1.out.size))).2)
      clear hP c0 c1 c2 c3 c4 c5 c6 hmem
      obtain ⟨c0, c1, c2, c3, c4, c5, c6⟩ := HI1.out.c
      unfold Itm.v at HCI
      go_cut [5] (fun v wx => v = .int .i64 0 ∧ Below w1.heap.size w1 wx)
      case first =>
        by_cases h0 : k = 0
        · subst h0
          have HHELD : Hid (∀ w', Below w1.heap.size w1 w' → w'.cell? ⟨P, 0, none⟩ = some (.string x.id) ∧ w'.cell? ⟨P, 1, none⟩ = some (.string x.cu) ∧ w'.cell? ⟨P, 2, none⟩ = some (.int .i64 x.kind) ∧ w'.cell? ⟨P, 3, none⟩ = some (.string x.name) ∧ w'.cell? ⟨P, 4, none⟩ = some (.int .i64 x.at_) ∧ w'.cell? ⟨P, 5, none⟩ = some (.string x.par) ∧ w'.cell? ⟨P, 6, none⟩ = some (.string x.text) ∧ Below w1.heap.size w1 w') := fun w' hb => by
            obtain ⟨d0, d1, d2, d3, d4, d5, d6⟩ := (HI1.out.keep hb).c
            exact ⟨d0, d1, d2, d3, d4, d5, d6, hb⟩
          refine wp_region_held_drew (S := fun w' => w'.cell? ⟨P, 0, none⟩ = some (.string x.id) ∧ w'.cell? ⟨P, 1, none⟩ = some (.string x.cu) ∧ w'.cell? ⟨P, 2, none⟩ = some (.int .i64 x.kind) ∧ w'.cell? ⟨P, 3, none⟩ = some (.string x.name) ∧ w'.cell? ⟨P, 4, none⟩ = some (.int .i64 x.at_) ∧ w'.cell? ⟨P, 5, none⟩ = some (.string x.par) ∧ w'.cell? ⟨P, 6, none⟩ = some (.string x.text) ∧ Below w1.heap.size w1 w') (by kernel_rfl) (HHELD.out _ (Below.refl _ _).drew) (fun hHeld => ?_)
          refine wpAnyH_take (i := 0) (oi := ⟨some 28, _, _, _, _, _⟩) (v := .agg #[.string x.id, .string x.cu, .int .i64 x.kind, .string x.name, .int .i64 x.at_, .string x.par, .string x.text]) rfl (by kernel_rfl) (by kernel_rfl) (by kernel_rfl) (fun _ _ _ h => h) (Or.inl ⟨by rfl, ?_⟩) hHeld ?_
          · intro w hSw
            (try dsimp only at hSw)
            go_simp
          simp only [Act.put, List.setIfInBounds_toArray, List.set_cons_zero, List.set_cons_succ]
          refine wpAnyH_take (i := 2) (oi := ⟨some 30, _, _, _, _, _⟩) (v := .int .i64 0) rfl (by kernel_rfl) (by kernel_rfl) (by kernel_rfl) (fun _ _ _ h => h) (Or.inl ⟨by rfl, ?_⟩) hHeld ?_
          · intro w hSw
            (try dsimp only at hSw)
            go_simp
          simp only [Act.put, List.setIfInBounds_toArray, List.set_cons_zero, List.set_cons_succ]
          refine wpAnyH_take (i := 3) (oi := ⟨some 31, _, _, _, _, _⟩) (v := .bool false) rfl (by kernel_rfl) (by kernel_rfl) (by kernel_rfl) (fun _ _ _ h => h) (Or.inl ⟨by rfl, ?_⟩) hHeld ?_
          · intro w hSw
            (try dsimp only at hSw)
            go_simp
          simp only [Act.put, List.setIfInBounds_toArray, List.set_cons_zero, List.set_cons_succ]
          refine wpAnyH_ready (rs := [1]) (by kernel_rfl) (by simp) ?_
          refine AllReadyH.cons (o := ⟨some 29, _, _, _, _, _⟩) rfl (fun K hK => ?_) AllReadyH.nil
          rw [if_pos (by rfl)]
          go_wp2_with fail
          refine Calls.mono (HCI.out _ (Below.refl _ _).drew) ?_
          rintro e w6 ⟨rfl, hb6⟩
          have hx0 : Below w1.heap.size w1 w6 := by first | exact hb6 | exact belowUI hb6 | fail
          clear hHeld hb6
          refine hK.out _ _ (HHELD.out _ hx0) (fun hHeld => ?_)
          clear hK
          (try simp only [Act.put, List.setIfInBounds_toArray, List.set_cons_zero, List.set_cons_succ])
          refine wpAnyH_take (i := 4) (oi := ⟨some 32, _, _, _, _, _⟩) (v := .bool false) rfl (by kernel_rfl) (by kernel_rfl) (by kernel_rfl) (fun _ _ _ h => h) (Or.inl ⟨by rfl, ?_⟩) hHeld ?_
          · intro w hSw
            (try dsimp only at hSw)
            go_simp
          simp only [Act.put, List.setIfInBounds_toArray, List.set_cons_zero, List.set_cons_succ]
          refine wpAnyH_take (i := 5) (oi := ⟨some 33, _, _, _, _, _⟩) (v := undef) rfl (by kernel_rfl) (by kernel_rfl) (by kernel_rfl) (fun _ _ _ h => h) (Or.inr ⟨by rfl, rfl⟩) hHeld ?_
          simp only [Act.put, List.setIfInBounds_toArray, List.set_cons_zero, List.set_cons_succ]
          refine wpAnyH_take (i := 6) (oi := ⟨some 34, _, _, _, _, _⟩) (v := undef) rfl (by kernel_rfl) (by kernel_rfl) (by kernel_rfl) (fun _ _ _ h => h) (Or.inr ⟨by rfl, rfl⟩) hHeld ?_
          simp only [Act.put, List.setIfInBounds_toArray, List.set_cons_zero, List.set_cons_succ]
          refine wpAnyH_take (i := 7) (oi := ⟨some 35, _, _, _, _, _⟩) (v := undef) rfl (by kernel_rfl) (by kernel_rfl) (by kernel_rfl) (fun _ _ _ h => h) (Or.inr ⟨by rfl, rfl⟩) hHeld ?_
          simp only [Act.put, List.setIfInBounds_toArray, List.set_cons_zero, List.set_cons_succ]
          refine wpAnyH_take (i := 8) (oi := ⟨some 36, _, _, _, _, _⟩) (v := undef) rfl (by kernel_rfl) (by kernel_rfl) (by kernel_rfl) (fun _ _ _ h => h) (Or.inr ⟨by rfl, rfl⟩) hHeld ?_
          simp only [Act.put, List.setIfInBounds_toArray, List.set_cons_zero, List.set_cons_succ]
          refine wpAnyH_take (i := 9) (oi := ⟨some 37, _, _, _, _, _⟩) (v := undef) rfl (by kernel_rfl) (by kernel_rfl) (by kernel_rfl) (fun _ _ _ h => h) (Or.inr ⟨by rfl, rfl⟩) hHeld ?_
          simp only [Act.put, List.setIfInBounds_toArray, List.set_cons_zero, List.set_cons_succ]
          refine wpAnyH_take (i := 10) (oi := ⟨some 38, _, _, _, _, _⟩) (v := undef) rfl (by kernel_rfl) (by kernel_rfl) (by kernel_rfl) (fun _ _ _ h => h) (Or.inr ⟨by rfl, rfl⟩) hHeld ?_
          simp only [Act.put, List.setIfInBounds_toArray, List.set_cons_zero, List.set_cons_succ]
          refine wpAnyH_take (i := 11) (oi := ⟨some 39, _, _, _, _, _⟩) (v := undef) rfl (by kernel_rfl) (by kernel_rfl) (by kernel_rfl) (fun _ _ _ h => h) (Or.inr ⟨by rfl, rfl⟩) hHeld ?_
          simp only [Act.put, List.setIfInBounds_toArray, List.set_cons_zero, List.set_cons_succ]
          refine wpAnyH_take (i := 12) (oi := ⟨some 40, _, _, _, _, _⟩) (v := undef) rfl (by kernel_rfl) (by kernel_rfl) (by kernel_rfl) (fun _ _ _ h => h) (Or.inr ⟨by rfl, rfl⟩) hHeld ?_
          simp only [Act.put, List.setIfInBounds_toArray, List.set_cons_zero, List.set_cons_succ]
          refine wpAnyH_take (i := 13) (oi := ⟨some 41, _, _, _, _, _⟩) (v := undef) rfl (by kernel_rfl) (by kernel_rfl) (by kernel_rfl) (fun _ _ _ h => h) (Or.inr ⟨by rfl, rfl⟩) hHeld ?_
          simp only [Act.put, List.setIfInBounds_toArray, List.set_cons_zero, List.set_cons_succ]
          refine wpAnyH_take (i := 14) (oi := ⟨some 42, _, _, _, _, _⟩) (v := undef) rfl (by kernel_rfl) (by kernel_rfl) (by kernel_rfl) (fun _ _ _ h => h) (Or.inr ⟨by rfl, rfl⟩) hHeld ?_
          simp only [Act.put, List.setIfInBounds_toArray, List.set_cons_zero, List.set_cons_succ]
          refine wpAnyH_take (i := 15) (oi := ⟨some 43, _, _, _, _, _⟩) (v := .bool false) rfl (by kernel_rfl) (by kernel_rfl) (by kernel_rfl) (fun _ _ _ h => h) (Or.inl ⟨by rfl, ?_⟩) hHeld ?_
          · intro w hSw
            (try dsimp only at hSw)
            go_simp
          simp only [Act.put, List.setIfInBounds_toArray, List.set_cons_zero, List.set_cons_succ]
          refine wpAnyH_ready (rs := [16]) (by kernel_rfl) (by simp) ?_
          refine AllReadyH.cons (o := ⟨some 44, _, _, _, _, _⟩) rfl (fun K hK => ?_) AllReadyH.nil
          rw [if_pos (by rfl)]
          go_wp2_with fail
          refine Calls.mono (when_any false 7 _) ?_
          rintro e w7 ⟨rfl, hw7⟩
          subst hw7
          clear hHeld
          refine hK.out _ _ (HHELD.out _ hx0) (fun hHeld => ?_)
          clear hK
          (try simp only [Act.put, List.setIfInBounds_toArray, List.set_cons_zero, List.set_cons_succ])
          refine wpAnyH_ready (rs := [17]) (by kernel_rfl) (by simp) ?_
          refine AllReadyH.cons (o := ⟨some 45, _, _, _, _, _⟩) rfl (fun K hK => ?_) AllReadyH.nil
          rw [if_pos (by rfl)]
          go_wp2_with fail
          clear hHeld
          refine hK.out _ _ (HHELD.out _ (hx0.alloc hx0.size _)) (fun hHeld => ?_)
          clear hK
          (try simp only [Act.put, List.setIfInBounds_toArray, List.set_cons_zero, List.set_cons_succ])
          refine wpAnyH_ready (rs := [18]) (by kernel_rfl) (by simp) ?_
          refine AllReadyH.cons (o := ⟨some 46, _, _, _, _, _⟩) rfl (fun K hK => ?_) AllReadyH.nil
          rw [if_pos (by rfl)]
          go_wp2_with fail
          refine Calls.mono (first_2z _ _ rfl _) ?_
          rintro e w8 ⟨rfl, hw8⟩
          have hy0 : Below w1.heap.size w1 w8 := by rw [← hw8]; exact hx0.alloc hx0.size _
          clear hHeld hw8
          refine hK.out _ _ (HHELD.out _ hy0) (fun hHeld => ?_)
          clear hK
          (try simp only [Act.put, List.setIfInBounds_toArray, List.set_cons_zero, List.set_cons_succ])
          refine wpAnyH_take (i := 19) (oi := ⟨some 5, _, _, _, _, _⟩) (v := .int .i64 0) rfl (by kernel_rfl) (by kernel_rfl) (by kernel_rfl) (fun _ _ _ h => h) (Or.inl ⟨by rfl, ?_⟩) hHeld ?_
          · intro w hSw
            (try dsimp only at hSw)
            go_simp
          simp only [Act.put, List.setIfInBounds_toArray, List.set_cons_zero, List.set_cons_succ]
          refine wpAnyH_done (by kernel_rfl) ?_ _
          go_wp2_with fail
          go_meet
          exact ⟨rfl, hy0⟩
        · have hk0 : 0 < k := by omega
          obtain ⟨y, hy⟩ : ∃ y, l[k - 1]? = some y := ⟨_, List.getElem?_eq_getElem (by have := HN.out; omega)⟩
          have hle := HL.out.at_ hk0 HX.out hy
          have HY0 : Hid (∀ w', Below w1.heap.size w1 w' → w'.cell? ⟨g, off + (k - 1) * 7, none⟩ = some (.string y.id)) := fun w' hb => ((HBE.out.trans (hb.mono HBE.out.size)).cell (p := ⟨g, off + (k - 1) * 7, none⟩) HGL.out).trans (HC.out (k - 1) y hy).1
          have hki : (0 : Int) < (k : Int) := by omega
          have hmax : max (k : Int) 1 = (k : Int) := by omega
          have hle2 : (Op.bytesLess x.id.toList y.id.toList || x.id.toList == y.id.toList) = false := by rw [Lib.toList_data, Lib.toList_data]; exact hle
          have HHELD : Hid (∀ w', Below w1.heap.size w1 w' → w'.cell? ⟨P, 0, none⟩ = some (.string x.id) ∧ w'.cell? ⟨P, 1, none⟩ = some (.string x.cu) ∧ w'.cell? ⟨P, 2, none⟩ = some (.int .i64 x.kind) ∧ w'.cell? ⟨P, 3, none⟩ = some (.string x.name) ∧ w'.cell? ⟨P, 4, none⟩ = some (.int .i64 x.at_) ∧ w'.cell? ⟨P, 5, none⟩ = some (.string x.par) ∧ w'.cell? ⟨P, 6, none⟩ = some (.string x.text) ∧ w'.cell? ⟨g, off + (k - 1) * 7, none⟩ = some (.string y.id) ∧ Below w1.heap.size w1 w') := fun w' hb => by
            obtain ⟨d0, d1, d2, d3, d4, d5, d6⟩ := (HI1.out.keep hb).c
            exact ⟨d0, d1, d2, d3, d4, d5, d6, HY0.out w' hb, hb⟩
          have hy0' := HY0.out w1 (Below.refl _ _)
          have hkj0 : (0 : Int) ≤ (k : Int) - 1 := by omega
          have hkj1 : (k : Int) - 1 < (n : Int) := by omega
          clear hle HY0 hy
          generalize y.id = yid at *
          refine wp_region_held_drew (S := fun w' => w'.cell? ⟨P, 0, none⟩ = some (.string x.id) ∧ w'.cell? ⟨P, 1, none⟩ = some (.string x.cu) ∧ w'.cell? ⟨P, 2, none⟩ = some (.int .i64 x.kind) ∧ w'.cell? ⟨P, 3, none⟩ = some (.string x.name) ∧ w'.cell? ⟨P, 4, none⟩ = some (.int .i64 x.at_) ∧ w'.cell? ⟨P, 5, none⟩ = some (.string x.par) ∧ w'.cell? ⟨P, 6, none⟩ = some (.string x.text) ∧ w'.cell? ⟨g, off + (k - 1) * 7, none⟩ = some (.string yid) ∧ Below w1.heap.size w1 w') (by kernel_rfl) (HHELD.out _ (Below.refl _ _).drew) (fun hHeld => ?_)
          refine wpAnyH_take (i := 0) (oi := ⟨some 28, _, _, _, _, _⟩) (v := .agg #[.string x.id, .string x.cu, .int .i64 x.kind, .string x.name, .int .i64 x.at_, .string x.par, .string x.text]) rfl (by kernel_rfl) (by kernel_rfl) (by kernel_rfl) (fun _ _ _ h => h) (Or.inl ⟨by rfl, ?_⟩) hHeld ?_
          · intro w hSw
            (try dsimp only at hSw)
            go_simp
          simp only [Act.put, List.setIfInBounds_toArray, List.set_cons_zero, List.set_cons_succ]
          refine wpAnyH_take (i := 2) (oi := ⟨some 30, _, _, _, _, _⟩) (v := .int .i64 (k : Int)) rfl (by kernel_rfl) (by kernel_rfl) (by kernel_rfl) (fun _ _ _ h => h) (Or.inl ⟨by rfl, ?_⟩) hHeld ?_
          · intro w hSw
            (try dsimp only at hSw)
            go_simp
          simp only [Act.put, List.setIfInBounds_toArray, List.set_cons_zero, List.set_cons_succ]
          refine wpAnyH_take (i := 3) (oi := ⟨some 31, _, _, _, _, _⟩) (v := .bool true) rfl (by kernel_rfl) (by kernel_rfl) (by kernel_rfl) (fun _ _ _ h => h) (Or.inl ⟨by rfl, ?_⟩) hHeld ?_
          · intro w hSw
            (try dsimp only at hSw)
            go_simp
          simp only [Act.put, List.setIfInBounds_toArray, List.set_cons_zero, List.set_cons_succ]
          refine wpAnyH_ready (rs := [1]) (by kernel_rfl) (by simp) ?_
          refine AllReadyH.cons (o := ⟨some 29, _, _, _, _, _⟩) rfl (fun K hK => ?_) AllReadyH.nil
          rw [if_pos (by rfl)]
          go_wp2_with fail
          refine Calls.mono (HCI.out _ (Below.refl _ _).drew) ?_
          rintro e w6 ⟨rfl, hb6⟩
          have hx0 : Below w1.heap.size w1 w6 := by first | exact hb6 | exact belowUI hb6 | fail
          clear hHeld hb6
          refine hK.out _ _ (HHELD.out _ hx0) (fun hHeld => ?_)
          clear hK
          (try simp only [Act.put, List.setIfInBounds_toArray, List.set_cons_zero, List.set_cons_succ])
          refine wpAnyH_take (i := 4) (oi := ⟨some 32, _, _, _, _, _⟩) (v := .bool true) rfl (by kernel_rfl) (by kernel_rfl) (by kernel_rfl) (fun _ _ _ h => h) (Or.inl ⟨by rfl, ?_⟩) hHeld ?_
          · intro w hSw
            (try dsimp only at hSw)
            go_simp
          simp only [Act.put, List.setIfInBounds_toArray, List.set_cons_zero, List.set_cons_succ]
          refine wpAnyH_take (i := 5) (oi := ⟨some 33, _, _, _, _, _⟩) (v := .pointer (some ⟨P, 0, none⟩)) rfl (by kernel_rfl) (by kernel_rfl) (by kernel_rfl) (fun _ _ _ h => h) (Or.inl ⟨by rfl, ?_⟩) hHeld ?_
          · intro w hSw
            (try dsimp only at hSw)
            go_simp
          simp only [Act.put, List.setIfInBounds_toArray, List.set_cons_zero, List.set_cons_succ]
          refine wpAnyH_take (i := 6) (oi := ⟨some 34, _, _, _, _, _⟩) (v := .string x.id) rfl (by kernel_rfl) (by kernel_rfl) (by kernel_rfl) (fun _ _ _ h => h) (Or.inl ⟨by rfl, ?_⟩) hHeld ?_
          · intro w hSw
            (try dsimp only at hSw)
            go_simp
          simp only [Act.put, List.setIfInBounds_toArray, List.set_cons_zero, List.set_cons_succ]
          refine wpAnyH_take (i := 7) (oi := ⟨some 35, _, _, _, _, _⟩) (v := .slice (some ⟨g, off, none⟩) n c) rfl (by kernel_rfl) (by kernel_rfl) (by kernel_rfl) (fun _ _ _ h => h) (Or.inl ⟨by rfl, ?_⟩) hHeld ?_
          · intro w hSw
            (try dsimp only at hSw)
            go_simp
          simp only [Act.put, List.setIfInBounds_toArray, List.set_cons_zero, List.set_cons_succ]
          refine wpAnyH_take (i := 8) (oi := ⟨some 36, _, _, _, _, _⟩) (v := .int .i64 (k : Int)) rfl (by kernel_rfl) (by kernel_rfl) (by kernel_rfl) (fun _ _ _ h => h) (Or.inl ⟨by rfl, ?_⟩) hHeld ?_
          · intro w hSw
            (try dsimp only at hSw)
            go_simp
          simp only [Act.put, List.setIfInBounds_toArray, List.set_cons_zero, List.set_cons_succ]
          refine wpAnyH_take (i := 9) (oi := ⟨some 37, _, _, _, _, _⟩) (v := .int .i64 (k : Int)) rfl (by kernel_rfl) (by kernel_rfl) (by kernel_rfl) (fun _ _ _ h => h) (Or.inl ⟨by rfl, ?_⟩) hHeld ?_
          · intro w hSw
            (try dsimp only at hSw)
            go_simp
          simp only [Act.put, List.setIfInBounds_toArray, List.set_cons_zero, List.set_cons_succ]
          refine wpAnyH_take (i := 10) (oi := ⟨some 38, _, _, _, _, _⟩) (v := .int .i64 ((k : Int) - 1)) rfl (by kernel_rfl) (by kernel_rfl) (by kernel_rfl) (fun _ _ _ h => h) (Or.inl ⟨by rfl, ?_⟩) hHeld ?_
          · intro w hSw
            (try dsimp only at hSw)
            go_simp
            exact IntWalk.i64_in _ (by omega)
          simp only [Act.put, List.setIfInBounds_toArray, List.set_cons_zero, List.set_cons_succ]
          refine wpAnyH_take (i := 11) (oi := ⟨some 39, _, _, _, _, _⟩) (v := .pointer (some ⟨g, off + (k - 1) * 7, none⟩)) rfl (by kernel_rfl) (by kernel_rfl) (by kernel_rfl) (fun _ _ _ h => h) (Or.inl ⟨by rfl, ?_⟩) hHeld ?_
          · intro w hSw
            (try dsimp only at hSw)
            go_simp
            intro hcon
            exfalso
            omega
          simp only [Act.put, List.setIfInBounds_toArray, List.set_cons_zero, List.set_cons_succ]
          refine wpAnyH_take (i := 12) (oi := ⟨some 40, _, _, _, _, _⟩) (v := .pointer (some ⟨g, off + (k - 1) * 7, none⟩)) rfl (by kernel_rfl) (by kernel_rfl) (by kernel_rfl) (fun _ _ _ h => h) (Or.inl ⟨by rfl, ?_⟩) hHeld ?_
          · intro w hSw
            (try dsimp only at hSw)
            go_simp
          simp only [Act.put, List.setIfInBounds_toArray, List.set_cons_zero, List.set_cons_succ]
          refine wpAnyH_take (i := 13) (oi := ⟨some 41, _, _, _, _, _⟩) (v := .string yid) rfl (by kernel_rfl) (by kernel_rfl) (by kernel_rfl) (fun _ _ _ h => h) (Or.inl ⟨by rfl, ?_⟩) hHeld ?_
          · intro w hSw
            (try dsimp only at hSw)
            go_simp
          simp only [Act.put, List.setIfInBounds_toArray, List.set_cons_zero, List.set_cons_succ]
          refine wpAnyH_take (i := 14) (oi := ⟨some 42, _, _, _, _, _⟩) (v := .bool false) rfl (by kernel_rfl) (by kernel_rfl) (by kernel_rfl) (fun _ _ _ h => h) (Or.inl ⟨by rfl, ?_⟩) hHeld ?_
          · intro w hSw
            (try dsimp only at hSw)
            go_simp
          simp only [Act.put, List.setIfInBounds_toArray, List.set_cons_zero, List.set_cons_succ]
          refine wpAnyH_take (i := 15) (oi := ⟨some 43, _, _, _, _, _⟩) (v := .bool false) rfl (by kernel_rfl) (by kernel_rfl) (by kernel_rfl) (fun _ _ _ h => h) (Or.inl ⟨by rfl, ?_⟩) hHeld ?_
          · intro w hSw
            (try dsimp only at hSw)
            go_simp
          simp only [Act.put, List.setIfInBounds_toArray, List.set_cons_zero, List.set_cons_succ]
          refine wpAnyH_ready (rs := [16]) (by kernel_rfl) (by simp) ?_
          refine AllReadyH.cons (o := ⟨some 44, _, _, _, _, _⟩) rfl (fun K hK => ?_) AllReadyH.nil
          rw [if_pos (by rfl)]
          go_wp2_with fail
          refine Calls.mono (when_any false 7 _) ?_
          rintro e w7 ⟨rfl, hw7⟩
          subst hw7
          clear hHeld
          refine hK.out _ _ (HHELD.out _ hx0) (fun hHeld => ?_)
          clear hK
          (try simp only [Act.put, List.setIfInBounds_toArray, List.set_cons_zero, List.set_cons_succ])
          refine wpAnyH_ready (rs := [17]) (by kernel_rfl) (by simp) ?_
          refine AllReadyH.cons (o := ⟨some 45, _, _, _, _, _⟩) rfl (fun K hK => ?_) AllReadyH.nil
          rw [if_pos (by rfl)]
          go_wp2_with fail
          clear hHeld
          refine hK.out _ _ (HHELD.out _ (hx0.alloc hx0.size _)) (fun hHeld => ?_)
          clear hK
          (try simp only [Act.put, List.setIfInBounds_toArray, List.set_cons_zero, List.set_cons_succ])
          refine wpAnyH_ready (rs := [18]) (by kernel_rfl) (by simp) ?_
          refine AllReadyH.cons (o := ⟨some 46, _, _, _, _, _⟩) rfl (fun K hK => ?_) AllReadyH.nil
          rw [if_pos (by rfl)]
          go_wp2_with fail
          refine Calls.mono (first_2z _ _ rfl _) ?_
          rintro e w8 ⟨rfl, hw8⟩
          have hy0 : Below w1.heap.size w1 w8 := by rw [← hw8]; exact hx0.alloc hx0.size _
          clear hHeld hw8
          refine hK.out _ _ (HHELD.out _ hy0) (fun hHeld => ?_)
          clear hK
          (try simp only [Act.put, List.setIfInBounds_toArray, List.set_cons_zero, List.set_cons_succ])
          refine wpAnyH_take (i := 19) (oi := ⟨some 5, _, _, _, _, _⟩) (v := .int .i64 0) rfl (by kernel_rfl) (by kernel_rfl) (by kernel_rfl) (fun _ _ _ h => h) (Or.inl ⟨by rfl, ?_⟩) hHeld ?_
          · intro w hSw
            (try dsimp only at hSw)
            go_simp
          simp only [Act.put, List.setIfInBounds_toArray, List.set_cons_zero, List.set_cons_succ]
          refine wpAnyH_done (by kernel_rfl) ?_ _
          go_wp2_with fail
          go_meet
          exact ⟨rfl, hy0⟩
      case rest =>
        obtain ⟨rfl, hbc⟩ := hcut
        have HW2 := Lib.hid (HW1.out.trans (hbc.mono HW1.out.size))
        clear hbc c0 c1 c2 c3 c4 c5 c6 HCI
        go_wp2_with fail
        go_roundg (gk - 1)
        case measure => exact Nat.sub_lt HGK.out.2 Nat.one_pos
        case rel => exact ⟨k + 1, HGK.out.1, by go_num, HW2.out⟩
    · have hnk : ¬ (k : Int) < (n : Int) := by omega
      have HB0 := Lib.hid (HBY.out wr HW.out)
      have HW0 := Lib.hid HW.out
      clear HK HW hkn hlt HBY
      obtain ⟨ko, rfl⟩ : ∃ ko : Nat, ko = k := ⟨_, rfl⟩
      go_wp2_with fail
      refine HB0.out.mono ?_
      rintro e w0 ⟨M, rfl, -, hm0, hb0⟩
      have HWE := Lib.hid (HW0.out.trans (hb0.mono HW0.out.size))
      have HME := Lib.hid hm0
      clear hb0 hm0 HB0 HW0 hnk
      go_wp2_with fail
      go_loopg [55] n (fun gk v wr => ∃ k : Nat, Hid (k + gk = n) ∧ v = .int .i64 (k : Int) ∧ Hid (Below w.heap.size w wr) ∧ Hid (IMapAt wr M l))
      case atStart => exact ⟨0, show 0 + n = n by omega, rfl, HWE.out, HME.out⟩
      case round =>
        clear HWE HME
        obtain ⟨k, HK, rfl, HW, HMP⟩ := hrel
        have hkn : k ≤ n := by have := HK.out; omega
        by_cases hlt : k < n
        · have HGK := Lib.hid (show k + 1 + (gk - 1) = n ∧ 0 < gk by have := HK.out; omega)
          obtain ⟨g, off, rfl, hg, hc⟩ := (ElemsAt.keep HH.out HW.out).item (by omega)
          have hkl : k < l.length := by have := HN.out; omega
          obtain ⟨x, hx⟩ : ∃ x, l[k]? = some x := ⟨_, List.getElem?_eq_getElem hkl⟩
          obtain ⟨c0, c1, c2, c3, c4, c5, c6⟩ := hc k x hx
          have hmem := List.mem_of_getElem? hx
          have HX := Lib.hid hx
          have hb1 : Below wr.heap.size wr (wr.alloc (.cells #[.string x.id, .string x.cu, .int .i64 x.kind, .string x.name, .int .i64 x.at_, .string x.par, .string x.text] 60)) := (Below.refl _ _).alloc (Nat.le_refl _) _
          have HI1 : Hid (ItemAt (wr.alloc (.cells #[.string x.id, .string x.cu, .int .i64 x.kind, .string x.name, .int .i64 x.at_, .string x.par, .string x.text] 60)) wr.heap.size x) := item_new wr x
          have HW1 := Lib.hid (HW.out.trans (hb1.mono HW.out.size))
          have HM1 := Lib.hid (HMP.out.below hb1)
          clear hc hx hkl HK hb1 hg HMP HW
          go_upto_region 14 with (fail)
          obtain ⟨P, hP⟩ : ∃ P, P = wr.heap.size := ⟨_, rfl⟩
          rw [← hP] at HI1 ⊢
          generalize wr.alloc (.cells #[.string x.id, .string x.cu, .int .i64 x.kind, .string x.name, .int .i64 x.at_, .string x.par, .string x.text] 60) = w1 at *
          clear hP c0 c1 c2 c3 c4 c5 c6
          obtain ⟨c0, c1, c2, c3, c4, c5, c6⟩ := HI1.out.c
          have hps := ((HL.out.set.ok.each x hmem).small).2.2.2.1
          by_cases hp : x.par.data.toList = []
          · have hlk := HM1.out.miss hps (HL.out.set.findEmpty hp)
            have hb2 : Below w1.heap.size w1 (w1.alloc (.cells #[.string ⟨#[]⟩, .string ⟨#[]⟩, .int .i64 0, .string ⟨#[]⟩, .int .i64 0, .string ⟨#[]⟩, .string ⟨#[]⟩] 60)) := (Below.refl _ _).alloc (Nat.le_refl _) _
            have HW2 := Lib.hid (HW1.out.trans (hb2.mono HW1.out.size))
            have HM2 := Lib.hid (HM1.out.below hb2)
            have HI2 := Lib.hid (HI1.out.keep hb2)
            obtain ⟨q1, q2, q3⟩ := par_emptyL hp
            clear hp hmem hps hb2
            go_upto_region 15 with (fail)
            generalize w1.alloc (.cells #[.string ⟨#[]⟩, .string ⟨#[]⟩, .int .i64 0, .string ⟨#[]⟩, .int .i64 0, .string ⟨#[]⟩, .string ⟨#[]⟩] 60) = w2 at *
            clear hlk c0 c1 c2 c3 c4 c5 c6
            obtain ⟨c0, c1, c2, c3, c4, c5, c6⟩ := HI2.out.c
            go_wp2_with fail
            go_roundg (gk - 1)
            case measure => exact Nat.sub_lt HGK.out.2 Nat.one_pos
            case rel => exact ⟨k + 1, HGK.out.1, by go_num, HW2.out, HM2.out⟩
          · obtain ⟨q, hq⟩ : ∃ q, findI l x.par = some q := by
              rcases HL.out.set.ok.par x hmem with h | h
              · exact absurd h hp
              · exact Option.isSome_iff_exists.1 h
            obtain ⟨z, hz, -, -⟩ := findI_some hq
            have hlk := HM1.out.hit hps hq hz
            have hb2 : Below w1.heap.size w1 (w1.alloc (.cells #[.string z.id, .string z.cu, .int .i64 z.kind, .string z.name, .int .i64 z.at_, .string z.par, .string z.text] 60)) := (Below.refl _ _).alloc (Nat.le_refl _) _
            have HW2 := Lib.hid (HW1.out.trans (hb2.mono HW1.out.size))
            have HM2 := Lib.hid (HM1.out.below hb2)
            have HI2 := Lib.hid (HI1.out.keep hb2)
            obtain ⟨q1, q2, q3⟩ := par_fullL hp
            clear hp hmem hps hq hz hb2
            go_upto_region 15 with (fail)
            generalize w1.alloc (.cells #[.string z.id, .string z.cu, .int .i64 z.kind, .string z.name, .int .i64 z.at_, .string z.par, .string z.text] 60) = w2 at *
            clear hlk c0 c1 c2 c3 c4 c5 c6
            obtain ⟨c0, c1, c2, c3, c4, c5, c6⟩ := HI2.out.c
            go_wp2_with fail
            go_roundg (gk - 1)
            case measure => exact Nat.sub_lt HGK.out.2 Nat.one_pos
            case rel => exact ⟨k + 1, HGK.out.1, by go_num, HW2.out, HM2.out⟩
        · have hnk : ¬ (k : Int) < (n : Int) := by omega
          have HWE := Lib.hid HW.out
          have HME := Lib.hid HMP.out
          clear HK HW HMP hkn
          obtain ⟨ko, rfl⟩ : ∃ ko : Nat, ko = k := ⟨_, rfl⟩
          go_wp2_with fail
          go_loopg [76] n (fun gk v wr => ∃ k : Nat, Hid (k + gk = n) ∧ v = .int .i64 (k : Int) ∧ Hid (Below w.heap.size w wr) ∧ Hid (IMapAt wr M l))
          case atStart => exact ⟨0, show 0 + n = n by omega, rfl, HWE.out, HME.out⟩
          case round =>
            clear HWE HME hnk hlt
            obtain ⟨k, HK, rfl, HW, HMP⟩ := hrel
            have hkn : k ≤ n := by have := HK.out; omega
            by_cases hlt : k < n
            · have HGK := Lib.hid (show k + 1 + (gk - 1) = n ∧ 0 < gk by have := HK.out; omega)
              obtain ⟨g, off, rfl, hg, hc⟩ := (ElemsAt.keep HH.out HW.out).item (by omega)
              have hkl : k < l.length := by have := HN.out; omega
              obtain ⟨x, hx⟩ : ∃ x, l[k]? = some x := ⟨_, List.getElem?_eq_getElem hkl⟩
              obtain ⟨c0, c1, c2, c3, c4, c5, c6⟩ := hc k x hx
              have hmem := List.mem_of_getElem? hx
              have HX := Lib.hid hx
              have hb1 : Below wr.heap.size wr (wr.alloc (.cells #[.string x.id, .string x.cu, .int .i64 x.kind, .string x.name, .int .i64 x.at_, .string x.par, .string x.text] 60)) := (Below.refl _ _).alloc (Nat.le_refl _) _
              have HI1 : Hid (ItemAt (wr.alloc (.cells #[.string x.id, .string x.cu, .int .i64 x.kind, .string x.name, .int .i64 x.at_, .string x.par, .string x.text] 60)) wr.heap.size x) := item_new wr x
              have HW1 := Lib.hid (HW.out.trans (hb1.mono HW.out.size))
              have HM1 := Lib.hid (HMP.out.below hb1)
              clear hc hx hkl HK hb1 hg HMP HW
              go_upto_region 21 with (fail)
              obtain ⟨P, hP⟩ : ∃ P, P = wr.heap.size := ⟨_, rfl⟩
              rw [← hP] at HI1 ⊢
              generalize wr.alloc (.cells #[.string x.id, .string x.cu, .int .i64 x.kind, .string x.name, .int .i64 x.at_, .string x.par, .string x.text] 60) = w1 at *
              clear hP c0 c1 c2 c3 c4 c5 c6
              obtain ⟨c0, c1, c2, c3, c4, c5, c6⟩ := HI1.out.c
              have HAB := Lib.hid (aboveP_any M k x l w1 HM1.out HL.out.set HX.out)
              unfold Itm.v at HAB
              clear hmem
              go_wp2_with fail
              refine HAB.out.mono ?_
              rintro e w2 ⟨rfl, hb2⟩
              have HW2 := Lib.hid (HW1.out.trans (hb2.mono HW1.out.size))
              have HM2 := Lib.hid (HM1.out.below hb2)
              clear hb2 HAB c0 c1 c2 c3 c4 c5 c6
              generalize (chainI l (l.length + 1) k).length = len at *
              go_wp2_with fail
              go_roundg (gk - 1)
              case measure => exact Nat.sub_lt HGK.out.2 Nat.one_pos
              case rel => exact ⟨k + 1, HGK.out.1, by go_num, HW2.out, HM2.out⟩
            · have hnk : ¬ (k : Int) < (n : Int) := by omega
              have HWE := Lib.hid HW.out
              have HME := Lib.hid HMP.out
              clear HK HW HMP hkn
              obtain ⟨ko, rfl⟩ : ∃ ko : Nat, ko = k := ⟨_, rfl⟩
              go_wp2_with fail
              go_loopg [90] n (fun gk v wr => ∃ k : Nat, Hid (k + gk = n) ∧ v = .int .i64 (k : Int) ∧ Hid (Below w.heap.size w wr) ∧ Hid (IMapAt wr M l))
              case atStart => exact ⟨0, show 0 + n = n by omega, rfl, HWE.out, HME.out⟩
              case round =>
                clear HWE HME hnk hlt
                obtain ⟨k, HK, rfl, HW, HMP⟩ := hrel
                have hkn : k ≤ n := by have := HK.out; omega
                by_cases hlt : k < n
                · have HGK := Lib.hid (show k + 1 + (gk - 1) = n ∧ 0 < gk by have := HK.out; omega)
                  obtain ⟨g, off, rfl, hg, hc⟩ := (ElemsAt.keep HH.out HW.out).item (by omega)
                  have hkl : k < l.length := by have := HN.out; omega
                  obtain ⟨x, hx⟩ : ∃ x, l[k]? = some x := ⟨_, List.getElem?_eq_getElem hkl⟩
                  obtain ⟨c0, c1, c2, c3, c4, c5, c6⟩ := hc k x hx
                  have hmem := List.mem_of_getElem? hx
                  have HX := Lib.hid hx
                  have hb1 : Below wr.heap.size wr (wr.alloc (.cells #[.string x.id, .string x.cu, .int .i64 x.kind, .string x.name, .int .i64 x.at_, .string x.par, .string x.text] 60)) := (Below.refl _ _).alloc (Nat.le_refl _) _
                  have HI1 : Hid (ItemAt (wr.alloc (.cells #[.string x.id, .string x.cu, .int .i64 x.kind, .string x.name, .int .i64 x.at_, .string x.par, .string x.text] 60)) wr.heap.size x) := item_new wr x
                  have HW1 := Lib.hid (HW.out.trans (hb1.mono HW.out.size))
                  have HM1 := Lib.hid (HMP.out.below hb1)
                  clear hc hx hkl HK hb1 hg HMP HW
                  go_upto_region 28 with (fail)
                  obtain ⟨P, hP⟩ : ∃ P, P = wr.heap.size := ⟨_, rfl⟩
                  rw [← hP] at HI1 ⊢
                  generalize wr.alloc (.cells #[.string x.id, .string x.cu, .int .i64 x.kind, .string x.name, .int .i64 x.at_, .string x.par, .string x.text] 60) = w1 at *
                  clear hP c0 c1 c2 c3 c4 c5 c6
                  obtain ⟨c0, c1, c2, c3, c4, c5, c6⟩ := HI1.out.c
                  have HPL := Lib.hid (placed_ok M k x l w1 HM1.out HL.out.set HX.out)
                  unfold Itm.v at HPL
                  clear hmem
                  go_wp2_with fail
                  refine HPL.out.mono ?_
                  rintro e w2 ⟨rfl, hb2⟩
                  have HW2 := Lib.hid (HW1.out.trans (hb2.mono HW1.out.size))
                  have HM2 := Lib.hid (HM1.out.below hb2)
                  clear hb2 HPL c0 c1 c2 c3 c4 c5 c6
                  go_wp2_with fail
                  go_roundg (gk - 1)
                  case measure => exact Nat.sub_lt HGK.out.2 Nat.one_pos
                  case rel => exact ⟨k + 1, HGK.out.1, by go_num, HW2.out, HM2.out⟩
                · have hnk : ¬ (k : Int) < (n : Int) := by omega
                  go_wp2_with fail
                  go_ret
                  exact ⟨rfl, HW.out⟩
end Go.Proofs.YtfijplllfdmcoaaGreatDoor

namespace Go.Proofs.YtfijplllfdmcoaaGreatDoor
open Go.RowKit

abbrev Str : Type := List UInt8
theorem idxS_neg (x : Str) : ∀ (l : List Str) (i : Nat), decide (0 ≤ Lib.idxFromS (l.map bag) (bag x) i) = l.contains x
  | [], i => by simp [Lib.idxFromS]
  | y :: l, i => by
    by_cases h : y = x
    · subst h
      simp [Lib.idxFromS]
    · have h' : ¬ bag y = bag x := fun e => h (bag_inj.1 e)
      have ih := idxS_neg x l (i + 1)
      have h'' : ¬ x = y := fun e => h e.symm
      simp only [List.map_cons, Lib.idxFromS, h', if_false]
      rw [ih]
      simp [h'']
theorem containsS_bag (x : Str) (l : List Str) : Lib.containsS (l.map bag) (bag x) = l.contains x := by
  have := idxS_neg x l 0
  unfold Lib.containsS
  first | exact this | (unfold Lib.idxOfS; exact this) | (rw [← this]; simp [Lib.idxOfS])
theorem containsS_any (A : Option Addr) (n c : Nat) (l : List Str) (x : Str) (w : World) (h : StrsAt w A n c l) (hn : n ≤ 100000) :
    Calls Tryz.prog 54 #[.slice A n c, .string (bag x)] w fun e w' => e = .returned (.bool (l.contains x)) ∧ w' = w := by
  have hl := h.1
  rcases Nat.eq_zero_or_pos n with h0 | h0
  · subst h0
    have e1 : l = [] := List.eq_nil_of_length_eq_zero hl.symm
    subst e1
    exact Tryz.slices_Contains_string_empty A c (bag x) w
  · obtain ⟨g1, o1, rfl, _, _⟩ := h.str h0
    refine (Tryz.slices_Contains_string g1 o1 n c (l.map bag) (bag x) w (by simp; omega) (by omega) h.bags).mono ?_
    rintro e w' ⟨rfl, rfl⟩
    refine ⟨ret_bool ?_, rfl⟩
    rw [List.take_of_length_le (by simp; omega)]
    exact containsS_bag x l
section
variable {α : Type} {E : Elem α}
/-- Two rows of the call's own that do not share a block. -/
def ApartV (v u : Value) : Prop := ∀ i, v.ownBlock = some i → u.ownBlock ≠ some i
theorem ApartV.symm {v u : Value} (h : ApartV v u) : ApartV u v := fun i e1 e2 => h i e2 e1
theorem apart_nil (u : Value) : ApartV (.slice none 0 0) u := fun i e => by cases e
theorem ApartV.grow {w : World} {base : Nat} {v v' u : Value} {Y : List α} {o : Obj} (h : ApartV v u) (hu : Owns E w base u Y) (hv : v'.ownBlock = v.ownBlock ∨ v'.ownBlock = some (w.alloc o).heap.size) : ApartV v' u := by
  intro i e1 e2
  rcases hv with hv | hv
  · exact h i (hv ▸ e1) e2
  · rw [hv] at e1
    have e3 := Option.some.inj e1
    have := (hu.lt i e2).2
    simp at e3
    omega
theorem Owns.apart {w w' : World} {base : Nat} {v u : Value} {Y : List α} {o : Obj} (h : ApartV v u) (hu : Owns E w base u Y) (hg : (w.alloc o).grownBy w' v.ownBlock) : Owns E w' base u Y := by
  refine World.ownsRow.kept (World.ownsRow.alloc hu o) hg ?_
  cases e : u.ownBlock with
  | none => exact .inl rfl
  | some i => exact .inr (fun e2 => h i e2.symm e)
end
theorem Owns.lit {α : Type} {E : Elem α} (hE : E.Ok) (w : World) (base : Nat) (l : List α) (hb : base ≤ w.heap.size) (hl : l.length ≤ 1000) : Owns E (w.alloc (.cells (E.cells l).toArray E.t)) base (.slice (some ⟨w.heap.size, 0, none⟩) l.length l.length) l := by
  refine ⟨Elem.cells_length hE l, .inr ⟨w.heap.size, l.length, (E.cells l).toArray, rfl, hb, heap_alloc_new _ _, Nat.le_refl _, by unfold maxLen; omega, by simp [Elem.cells_length hE], ?_⟩⟩
  rw [List.take_of_length_le]
  rw [List.toList_toArray, Elem.cells_length hE]
  exact Nat.le_refl _
theorem alloc_strs (w : World) (l : List (List UInt8)) (t : TypeId) : StrsAt (w.alloc (.cells (l.map fun x => Value.string ⟨x.toArray⟩).toArray t)) (some ⟨w.heap.size, 0, none⟩) l.length l.length l := by
  refine ⟨rfl, Nat.le_refl _, (fun e => by cases e), fun _ => ⟨w.heap.size, 0, rfl, by simp, fun k x i v hk hv => ?_⟩⟩
  have hi : i = 0 := by have := (List.getElem?_eq_some_iff.1 hv).1; simp [StrE] at this; exact this
  subst hi
  simp [StrE] at hv
  subst hv
  rw [World.cell?_alloc_at _ _ _ _ rfl]
  simp [StrE, hk]
theorem bags_data (l : List (List UInt8)) : (l.map bag).map (·.data.toList) = l := by
  rw [List.map_map]
  have : ((fun b : ByteArray => b.data.toList) ∘ bag) = id := by funext x; exact bag_data x
  rw [this, List.map_id]
theorem joinC_any (A : Option Addr) (n c : Nat) (l : List Str) (d : UInt8) (w : World) (h : StrsAt w A n c l) (hn : n ≤ 100000) (hl : (Lib.join l [d]).length ≤ 1000000) :
    Calls Tryz.prog 114 #[.slice A n c, .string ⟨#[d]⟩] w fun e w' => e = .returned (.string (bag (Lib.join l [d]))) ∧ Below w.heap.size w w' := by
  have hnl := h.1
  rcases Nat.eq_zero_or_pos n with h0 | h0
  · subst h0
    have hl : l = [] := List.eq_nil_of_length_eq_zero hnl.symm
    subst hl
    refine (Tryz.strings_Join_none A c ⟨#[d]⟩ w).mono ?_
    rintro e w' ⟨rfl, rfl⟩
    exact ⟨rfl, Below.refl _ _⟩
  · obtain ⟨g, off, rfl, hg, hc⟩ := h.str h0
    subst hnl
    have hb := bags_data l
    have hj := Tryz.strings_Join g off c (l.map bag) ⟨#[d]⟩ w (fun j x hx => by
      have hjl : j < (l.map bag).length := (List.getElem?_eq_some_iff.1 hx).1
      rw [h.bags j hjl, List.getD_eq_getElem?_getD, hx]; rfl) hg (by simp; omega) (by simp; exact h.2.1) (by rw [hb]; show (Lib.join l [d]).length ≤ _; omega)
    rw [hb, List.length_map] at hj
    exact hj

end Go.Proofs.YtfijplllfdmcoaaGreatDoor

namespace Go.Proofs.YtfijplllfdmcoaaGreatDoor
open Go.RowKit Go.Maps

/-- 'm[k] = v' as one step of a region that draws. -/
theorem step_mapUpdate_own {H : Type} {P : Program} (w : World) {ops : Array Oper} {o : Oper} {a : Act} {Kc : Act → World → Prop} {Q : Exit → Act → World → Prop} {X : Prop}
    (hg : o.guard = none) (m x v : Operand) (t : TypeId) (hop : o.op = Op.mapUpdate t m x v)
    (k e : TypeId) (K : Keyed P k) (ht : P.underlying t = some (.map k e)) (R : Value → Option (DataW H × List MemPlace)) (b n : Nat) (D : DataW H)
    (hm : a.eval m = .map (some b)) (hown : w.ownsMap P k R b n D) (hn : n < maxLen) (key val : Value) (kl : Lit) (hx : a.eval x = key) (hv : a.eval v = val) (hkey : keyOf P k key = some kl)
    (d : DataW H) (ps : List MemPlace) (hval : R val = some (d, ps))
    (hK : ∀ w', w'.ownsMap P k R b (n + 1) (D.put kl d) → w.grownBy w' (some b) → Kc (a.put o.dst undef) w') :
    if Region.wanted o (yielded ops a.tmps) = true then Oper.wp P o a w Kc Q else X := by
  have hw : Region.wanted o (yielded ops a.tmps) = true := by simp [Region.wanted, hg]
  rw [if_pos hw]
  obtain ⟨w', hrun, r1, r2⟩ := hown.update K ht hn hkey hval
  unfold Oper.wp
  simp [execOp, hop, hm, hx, hv, hrun, Result.andThen]
  exact hK w' r1 r2
theorem own_ne_map {w : World} {base M m : Nat} {v : Value} {l : List Str} {D : DataW Value} (h : OwnStrs w base v l) (hm : w.ownsMap Tryz.prog 9 heldE M m D) : v.ownBlock ≠ some M := by
  obtain ⟨es, cl, hb, _⟩ := hm
  intro e
  rcases h.2 with ⟨rfl, _⟩ | ⟨g, cap, cur, rfl, _, hh, _⟩
  · cases e
  · have e2 : g = M := Option.some.inj e
    subst e2
    rw [hb] at hh
    cases hh
theorem own_map {w w' : World} {base M m : Nat} {v : Value} {l : List Str} {D : DataW Value} (h : OwnStrs w base v l) (hm : w.ownsMap Tryz.prog 9 heldE M m D) (hg : w.grownBy w' (some M)) : OwnStrs w' base v l := by
  refine World.ownsRow.kept h hg ?_
  cases e : v.ownBlock with
  | none => exact .inl rfl
  | some i => exact .inr (fun e2 => own_ne_map h hm (by rw [e, e2]))
structure TreeAt (w : World) (base M m : Nat) (D : DataW Value) (hd : Str → Value) (kid : Str → List Str) (tv : Value) (tl : List Str) : Prop where
  map : w.ownsMap Tryz.prog 9 heldE M m D
  at_ : ∀ id, D.atKey (.string id) (.held (.slice none 0 0)) = .held (hd id)
  row : ∀ id, OwnStrs w base (hd id) (kid id)
  apart : ∀ id id', id ≠ id' → ApartV (hd id) (hd id')
  tops : OwnStrs w base tv tl
  topa : ∀ id, ApartV tv (hd id)
theorem TreeAt.keep {w w' : World} {base M m : Nat} {D : DataW Value} {hd : Str → Value} {kid : Str → List Str} {tv : Value} {tl : List Str} (h : TreeAt w base M m D hd kid tv tl) (hb : Below w.heap.size w w') : TreeAt w' base M m D hd kid tv tl :=
  ⟨h.map.kept (below_grown hb none) (by simp), h.at_, fun id => (h.row id).below_ hb, h.apart, h.tops.below_ hb, h.topa⟩
theorem TreeAt.look {w : World} {base M m : Nat} {D : DataW Value} {hd : Str → Value} {kid : Str → List Str} {tv : Value} {tl : List Str} (h : TreeAt w base M m D hd kid tv tl) (id : ByteArray) (hid : id.size ≤ 1000000) :
    (Instr.lookup 80 (.map (some M)) (.string id) false).run Tryz.prog w = .ok (hd id.data.toList) w := by
  obtain ⟨v, ps, hrun, hv⟩ := h.map.lookup keyS Tryz.underlying80 (z := .slice none 0 0) (by kernel_rfl) (zd := .held (.slice none 0 0)) (zp := []) rfl (keyS_mk id hid)
  rw [h.at_] at hv
  simp only [heldE, Option.some.injEq, Prod.mk.injEq, DataW.held.injEq] at hv
  rw [hv.1] at hrun
  exact hrun
theorem TreeAt.mapAfter {w w5 : World} {base M m : Nat} {D : DataW Value} {hd : Str → Value} {kid : Str → List Str} {tv : Value} {tl : List Str} {o : Obj} (h : TreeAt w base M m D hd kid tv tl) (p : Str) (hg : (w.alloc o).grownBy w5 (hd p).ownBlock) : w5.ownsMap Tryz.prog 9 heldE M m D :=
  (h.map.alloc o).kept hg (fun e => own_ne_map (h.row p) h.map e.symm)
theorem TreeAt.putKid {w w5 w6 : World} {base M m : Nat} {D : DataW Value} {hd : Str → Value} {kid : Str → List Str} {tv : Value} {tl : List Str} {o : Obj} (h : TreeAt w base M m D hd kid tv tl) (p : Str) (x : Str) (v5 : Value)
    (hown5 : OwnStrs w5 base v5 (kid p ++ [x])) (hg : (w.alloc o).grownBy w5 (hd p).ownBlock) (hv : v5.ownBlock = (hd p).ownBlock ∨ v5.ownBlock = some (w.alloc o).heap.size)
    (hm : w6.ownsMap Tryz.prog 9 heldE M (m + 1) (D.put (.string p) (.held v5))) (hg6 : w5.grownBy w6 (some M)) :
    TreeAt w6 base M (m + 1) (D.put (.string p) (.held v5)) (fun id => if id = p then v5 else hd id) (fun id => if id = p then kid p ++ [x] else kid id) tv tl := by
  have hm5 := h.mapAfter p hg
  have hrow : ∀ id, id ≠ p → OwnStrs w6 base (hd id) (kid id) := fun id hne => own_map (Owns.apart (h.apart p id (Ne.symm hne)) (h.row id) hg) hm5 hg6
  refine ⟨hm, fun id => ?_, fun id => ?_, fun id id' hne => ?_, ?_, fun id => ?_⟩
  · by_cases e : id = p
    · subst e
      rw [atKey_put_same h.map.isMap (str_key _)]
      simp
    · rw [atKey_put_other (str_neI e), h.at_]
      simp [e]
  · by_cases e : id = p
    · simp only [e, if_true]
      exact own_map hown5 hm5 hg6
    · simp only [e, if_false]
      exact hrow id e
  · by_cases e : id = p
    · by_cases e' : id' = p
      · exact absurd (e.trans e'.symm) hne
      · simp only [e, if_true, e', if_false]
        exact ApartV.grow (h.apart p id' (Ne.symm e')) (h.row id') hv
    · by_cases e' : id' = p
      · simp only [e, if_false, e', if_true]
        exact (ApartV.grow (h.apart p id (Ne.symm e)) (h.row id) hv).symm
      · simp only [e, if_false, e']
        exact h.apart id id' hne
  · exact own_map (Owns.apart (h.topa p).symm h.tops hg) hm5 hg6
  · by_cases e : id = p
    · simp only [e, if_true]
      exact (ApartV.grow (h.topa p).symm h.tops hv).symm
    · simp only [e, if_false]
      exact h.topa id
theorem TreeAt.putTop {w w5 : World} {base M m : Nat} {D : DataW Value} {hd : Str → Value} {kid : Str → List Str} {tv : Value} {tl : List Str} {o : Obj} (h : TreeAt w base M m D hd kid tv tl) (x : Str) (v5 : Value)
    (hown5 : OwnStrs w5 base v5 (tl ++ [x])) (hg : (w.alloc o).grownBy w5 tv.ownBlock) (hv : v5.ownBlock = tv.ownBlock ∨ v5.ownBlock = some (w.alloc o).heap.size) :
    TreeAt w5 base M m D hd kid v5 (tl ++ [x]) :=
  ⟨(h.map.alloc o).kept hg (fun e => own_ne_map h.tops h.map e.symm), h.at_, fun id => Owns.apart (h.topa id) (h.row id) hg, h.apart, hown5, fun id => ApartV.grow (h.topa id) (h.row id) hv⟩
theorem TreeAt.congr {w : World} {base M m : Nat} {D : DataW Value} {hd : Str → Value} {kid kid' : Str → List Str} {tv : Value} {tl tl' : List Str} (h : TreeAt w base M m D hd kid tv tl) (e : ∀ id, kid' id = kid id) (e' : tl' = tl) : TreeAt w base M m D hd kid' tv tl' := by
  obtain rfl : kid' = kid := funext e
  subst e'
  exact h
def idOf (x : Itm) : Str := x.id.data.toList
def parL (x : Itm) : Str := x.par.data.toList
/-- The ids of the items right below one, among the first ones; those of the tops. -/
def kidN (l : List Itm) (k : Nat) (id : Str) : List Str := ((l.take k).filter fun x => decide (parL x = id) && !(parL x).isEmpty).map idOf
def topN (l : List Itm) (k : Nat) : List Str := ((l.take k).filter fun x => (parL x).isEmpty).map idOf
theorem kidN_top {l : List Itm} {k : Nat} {x : Itm} (hx : l[k]? = some x) (hp : parL x = []) (id : Str) : kidN l (k + 1) id = kidN l k id ∧ topN l (k + 1) = topN l k ++ [idOf x] := by
  obtain ⟨h1, h2⟩ := List.getElem?_eq_some_iff.1 hx
  unfold kidN topN
  rw [List.take_succ_eq_append_getElem h1, h2, List.filter_append, List.filter_append, List.map_append, List.map_append]
  rw [List.filter_cons, List.filter_cons, hp]
  simp
theorem kidN_kid {l : List Itm} {k : Nat} {x : Itm} (hx : l[k]? = some x) (hp : parL x ≠ []) (id : Str) : kidN l (k + 1) id = (if id = parL x then kidN l k (parL x) ++ [idOf x] else kidN l k id) ∧ topN l (k + 1) = topN l k := by
  obtain ⟨h1, h2⟩ := List.getElem?_eq_some_iff.1 hx
  have hp2 : (parL x).isEmpty = false := by simpa using hp
  unfold kidN topN
  rw [List.take_succ_eq_append_getElem h1, h2, List.filter_append, List.filter_append, List.map_append, List.map_append]
  rw [List.filter_cons, List.filter_cons, hp2]
  by_cases e : id = parL x
  · subst e; simp
  · have e' : ¬ parL x = id := fun h => e h.symm
    simp [e, e']
theorem kidN_len (l : List Itm) (k : Nat) (id : Str) : (kidN l k id).length ≤ k := by
  unfold kidN
  rw [List.length_map]
  exact Nat.le_trans (List.length_filter_le _ _) (by simp; omega)
theorem topN_len (l : List Itm) (k : Nat) : (topN l k).length ≤ k := by
  unfold topN
  rw [List.length_map]
  exact Nat.le_trans (List.length_filter_le _ _) (by simp; omega)
end Go.Proofs.YtfijplllfdmcoaaGreatDoor

namespace Go.Proofs.YtfijplllfdmcoaaGreatDoor
open Go.RowKit Go.Maps

abbrev TB (w : World) (T : Nat) (a b c : Value) : Prop := w.heap[T]? = some (.cells #[a, b, c] 82 (0, 0))
theorem TB.lt {w : World} {T : Nat} {a b c : Value} (h : TB w T a b c) : T < w.heap.size := (Array.getElem?_eq_some_iff.1 h).1
theorem TB.c {w : World} {T : Nat} {a b c : Value} (h : TB w T a b c) : w.cell? ⟨T, 0, none⟩ = some a ∧ w.cell? ⟨T, 1, none⟩ = some b ∧ w.cell? ⟨T, 2, none⟩ = some c ∧ w.frozen? ⟨T, 0, none⟩ = false ∧ w.frozen? ⟨T, 1, none⟩ = false ∧ w.frozen? ⟨T, 2, none⟩ = false := by
  refine ⟨?_, ?_, ?_, by unfold TB at h; simp [World.frozen?, h], by unfold TB at h; simp [World.frozen?, h], by unfold TB at h; simp [World.frozen?, h]⟩ <;> (rw [cell_of_row w T _ _ _ _ h]; rfl)
theorem TB.keep {w w' : World} {T : Nat} {a b c : Value} (h : TB w T a b c) (hb : Below w.heap.size w w') : TB w' T a b c := (hb.block T h.lt).trans h
theorem TB.set0 {w : World} {T : Nat} {a b c : Value} (h : TB w T a b c) (v : Value) : TB (w.setCell ⟨T, 0, none⟩ v) T v b c := by unfold TB at *; simp [World.setCell, Array.getElem?_modify, h]
theorem TB.set1 {w : World} {T : Nat} {a b c : Value} (h : TB w T a b c) (v : Value) : TB (w.setCell ⟨T, 1, none⟩ v) T a v c := by unfold TB at *; simp [World.setCell, Array.getElem?_modify, h]
theorem TB.set2 {w : World} {T : Nat} {a b c : Value} (h : TB w T a b c) (v : Value) : TB (w.setCell ⟨T, 2, none⟩ v) T a b v := by unfold TB at *; simp [World.setCell, Array.getElem?_modify, h]
theorem tree_ne : (82 : TypeId) ≠ StrE.t := by decide
theorem item_ne : (60 : TypeId) ≠ StrE.t := by decide
theorem cells_ne_map {w : World} {b M m : Nat} {cs : Array Value} {t : TypeId} {fr : Nat × Nat} {D : DataW Value} (h : w.heap[b]? = some (.cells cs t fr)) (hm : w.ownsMap Tryz.prog 9 heldE M m D) : b ≠ M := by
  obtain ⟨es, cl, hb, _⟩ := hm
  intro e
  subst e
  rw [h] at hb
  cases hb
theorem cells_ne_imap {w : World} {b M : Nat} {cs : Array Value} {t : TypeId} {fr : Nat × Nat} {l : List Itm} (h : w.heap[b]? = some (.cells cs t fr)) (hm : IMapAt w M l) : b ≠ M := by
  obtain ⟨D, h1, _⟩ := hm.ex
  exact cells_ne_map h h1
theorem own_ne_imap {w : World} {base M : Nat} {v : Value} {L : List Str} {l : List Itm} (h : OwnStrs w base v L) (hm : IMapAt w M l) : v.ownBlock ≠ some M := by
  obtain ⟨D, h1, _⟩ := hm.ex
  exact own_ne_map h h1
theorem TreeAt.beside {w w' : World} {base M m R : Nat} {D : DataW Value} {hd : Str → Value} {kid : Str → List Str} {tv : Value} {tl : List Str} {cs : Array Value} {t : TypeId} {fr : Nat × Nat} (h : TreeAt w base M m D hd kid tv tl) (hR : w.heap[R]? = some (.cells cs t fr)) (ht : t ≠ StrE.t) (hg : w.grownBy w' (some R)) : TreeAt w' base M m D hd kid tv tl := by
  have hk : ∀ (v : Value) (L : List Str), OwnStrs w base v L → OwnStrs w' base v L := fun v L ho => by
    refine World.ownsRow.kept ho hg ?_
    cases e : v.ownBlock with
    | none => exact .inl rfl
    | some i => exact .inr (fun e2 => Owns.ne_block ho hR ht (by rw [e, e2]))
  exact ⟨h.map.kept hg (fun e => cells_ne_map hR h.map (Option.some.inj e).symm), h.at_, fun id => hk _ _ (h.row id), h.apart, hk _ _ h.tops, h.topa⟩
def NewTreePost (w : World) (l : List Itm) (e : Ending) (w' : World) : Prop :=
  ∃ Mi Mk m tv D hd, e = .returned (.agg #[.map (some Mi), .map (some Mk), tv]) ∧ IMapAt w' Mi l ∧ TreeAt w' w.heap.size Mk m D hd (kidN l l.length) tv (topN l l.length) ∧ Below w.heap.size w w'
set_option maxHeartbeats 6400000 in
set_option maxRecDepth 100000 in
theorem newTree_any (A : Option Addr) (n c : Nat) (l : List Itm) (w : World) (h : ItemsAt w A n c l) (hl : SetI l) :
    Calls Tryz.prog 38 #[.slice A n c] w (NewTreePost w l) := by
  have HN := Lib.hid h.1
  have HH := Lib.hid h
  have HL := Lib.hid hl
  have hn : n ≤ 2000 := by have := hl.few; have := h.1; omega
  have hmm := @run_makeMap Tryz.prog
  have hb0 : Below w.heap.size w (w.alloc (.cells #[.map none, .map none, .slice none 0 0] 82)) := (Below.refl _ _).alloc (Nat.le_refl _) _
  have HR0 : Hid (TB (w.alloc (.cells #[.map none, .map none, .slice none 0 0] 82)) w.heap.size (.map none) (.map none) (.slice none 0 0)) := heap_alloc_new w _
  have HB0 := Lib.hid hb0
  have HBY := Lib.hid (byId_any A n c l _ (h.keep hb0) hl)
  clear h hl hb0
  go_enter Tryz.func38, Tryz.ntmps38
  go_upto_region 1 with (fail)
  generalize w.alloc (.cells #[.map none, .map none, .slice none 0 0] 82) = w0 at *
  go_wp2_with (go_at_call 83; refine HBY.out.mono ?_; rintro e w1 ⟨Mi, rfl, -, hm1, hb1⟩; have HM1 := Lib.hid hm1; have HR1 := Lib.hid (HR0.out.keep hb1); have HB1 := Lib.hid (HB0.out.trans (hb1.mono HB0.out.size)); clear hm1 hb1)
  have hz1 : (w1.alloc (.map #[] 0)).heap.size = w1.heap.size + 1 := by simp
  have hbm : Below w1.heap.size w1 (w1.alloc (.map #[] 0)) := (Below.refl _ _).alloc (Nat.le_refl _) _
  have hb3 : Below w1.heap.size w1 ((w1.alloc (.map #[] 0)).alloc (.cells #[.map (some Mi), .map (some w1.heap.size), .slice none 0 0] 82)) := hbm.alloc hbm.size _
  have HT3 : Hid (TB ((w1.alloc (.map #[] 0)).alloc (.cells #[.map (some Mi), .map (some w1.heap.size), .slice none 0 0] 82)) (w1.heap.size + 1) (.map (some Mi)) (.map (some w1.heap.size)) (.slice none 0 0)) := by
    have := heap_alloc_new (w1.alloc (.map #[] 0)) (.cells #[.map (some Mi), .map (some w1.heap.size), .slice none 0 0] 82)
    rw [hz1] at this
    exact this
  have HTR3 : Hid (TreeAt ((w1.alloc (.map #[] 0)).alloc (.cells #[.map (some Mi), .map (some w1.heap.size), .slice none 0 0] 82)) w.heap.size w1.heap.size 0 (.map []) (fun _ => .slice none 0 0) (kidN l 0) (.slice none 0 0) (topN l 0)) :=
    ⟨(World.ownsMap_made (H := Value) w1 Tryz.prog 9 heldE).alloc _, fun _ => rfl, fun _ => Owns.nil _ _, fun _ _ _ => apart_nil _, Owns.nil _ _, fun _ => apart_nil _⟩
  have HM3 := Lib.hid (HM1.out.below hb3)
  have HR3 := Lib.hid (HR1.out.keep hb3)
  have HB3 := Lib.hid (HB1.out.trans (hb3.mono HB1.out.size))
  have HMM : Hid (Mi ≠ w1.heap.size) := by have := HM1.out.lt; show _ ≠ _; omega
  have HMK : Hid (w.heap.size ≤ w1.heap.size) := HB1.out.size
  have HTR0 : Hid (w.heap.size ≠ w1.heap.size + 1) := by show _ ≠ _; have := HB1.out.size; omega
  have HTW : Hid (w.heap.size ≤ w1.heap.size + 1) := by show _ ≤ _; have := HB1.out.size; omega
  clear hbm hb3 HM1 HR1 HB1 HB0 HR0 HBY hmm
  obtain ⟨T, hT⟩ : ∃ T, T = w1.heap.size + 1 := ⟨_, rfl⟩
  rw [← hT] at HT3 HTR0 HTW
  generalize ((w1.alloc (.map #[] 0)).alloc (.cells #[.map (some Mi), .map (some w1.heap.size), .slice none 0 0] 82)) = w2 at *
  try rw [← hT]
  clear hz1 hT
  generalize w1.heap.size = Mk at *
  go_loopg [12] n (fun gk v wr => ∃ (k m : Nat) (D : DataW Value) (hd : Str → Value) (tv : Value), Hid (k + gk = n) ∧ v = .int .i64 (k : Int) ∧ Hid (m ≤ k) ∧ Hid (TreeAt wr w.heap.size Mk m D hd (kidN l k) tv (topN l k)) ∧ Hid (TB wr T (.map (some Mi)) (.map (some Mk)) tv) ∧ Hid (TB wr w.heap.size (.map none) (.map none) (.slice none 0 0)) ∧ Hid (IMapAt wr Mi l) ∧ Hid (Below w.heap.size w wr))
  case atStart => exact ⟨0, 0, _, _, _, show 0 + n = n by omega, rfl, Nat.le_refl _, HTR3.out, HT3.out, HR3.out, HM3.out, HB3.out⟩
  case round =>
    obtain ⟨k, m, D, hd, tv, HK, rfl, HMLE, HTR, HTB, HRB, HMI, HB⟩ := hrel
    clear HTR3 HT3 HR3 HM3 HB3
    have hkn : k ≤ n := by have := HK.out; omega
    by_cases hlt : k < n
    · have HGK := Lib.hid (show k + 1 + (gk - 1) = n ∧ 0 < gk by have := HK.out; omega)
      obtain ⟨g, off, rfl, hg, hc⟩ := (ElemsAt.keep HH.out HB.out).item (by omega)
      have hkl : k < l.length := by have := HN.out; omega
      obtain ⟨x, hx⟩ : ∃ x, l[k]? = some x := ⟨_, List.getElem?_eq_getElem hkl⟩
      obtain ⟨c0, c1, c2, c3, c4, c5, c6⟩ := hc k x hx
      have hps := ((HL.out.ok.each x (List.mem_of_getElem? hx)).small).2.2.2.1
      have HX := Lib.hid hx
      have hb1 : Below wr.heap.size wr (wr.alloc (.cells #[.string x.id, .string x.cu, .int .i64 x.kind, .string x.name, .int .i64 x.at_, .string x.par, .string x.text] 60)) := (Below.refl _ _).alloc (Nat.le_refl _) _
      have HI1 : Hid (ItemAt (wr.alloc (.cells #[.string x.id, .string x.cu, .int .i64 x.kind, .string x.name, .int .i64 x.at_, .string x.par, .string x.text] 60)) wr.heap.size x) := item_new wr x
      have HB1 := Lib.hid (HB.out.trans (hb1.mono HB.out.size))
      have HM1 := Lib.hid (HMI.out.below hb1)
      have HTB1 := Lib.hid (HTB.out.keep hb1)
      have HRB1 := Lib.hid (HRB.out.keep hb1)
      have HTR1 := Lib.hid (HTR.out.keep hb1)
      clear hc hx hkl HK hb1 hg HMI HB HTB HRB HTR
      go_upto_region 5 with (fail)
      obtain ⟨P, hP⟩ : ∃ P, P = wr.heap.size := ⟨_, rfl⟩
      rw [← hP] at HI1 ⊢
      generalize (wr.alloc (.cells #[.string x.id, .string x.cu, .int .i64 x.kind, .string x.name, .int .i64 x.at_, .string x.par, .string x.text] 60)) = w2 at *
      clear hP c0 c1 c2 c3 c4 c5 c6
      obtain ⟨c0, c1, c2, c3, c4, c5, c6⟩ := HI1.out.c
      by_cases hp : x.par.data.toList = []
      · obtain ⟨t0, t1, t2, f0, f1, f2⟩ := HTB1.out.c
        obtain ⟨q1, q2, q3⟩ := par_emptyL hp
        have HPAR : Hid (parL x = []) := hp
        have htl := topN_len l k
        have hzb := HB1.out.size
        have HONE : Hid (ElemsAt StrE (w2.alloc (.cells #[.string x.id] 9)) (some ⟨w2.heap.size, 0, none⟩) 1 1 [idOf x]) := one_elem (E := StrE) w2 (idOf x)
        clear hp
        go_upto_region 6 with (fail)
        go_wp2_with (at_builtin; refine append_elems strE_ok rfl _ _ rfl w.heap.size tv (topN l k) rfl (World.ownsRow.alloc HTR1.out.tops _) (some ⟨w2.heap.size, 0, none⟩) 1 1 [idOf x] rfl HONE.out (by simp; omega) (by simp; omega) ?_; intro v5 w5 hown5 hgrow5 hv5; obtain ⟨A5, c5, hv9, -, -, -⟩ := hown5.at_ strE_ok; rw [show (topN l k ++ [idOf x]).length = (topN l k).length + 1 by simp] at hv9; subst hv9; have HT5 : Hid (TB w5 T (.map (some Mi)) (.map (some Mk)) tv) := (hgrow5.block T (by simp; have := HTB1.out.lt; omega) (fun e => Owns.ne_block HTR1.out.tops HTB1.out tree_ne e.symm)).trans (HTB1.out.keep ((Below.refl _ _).alloc (Nat.le_refl _) _)); have HR5 : Hid (TB w5 w.heap.size (.map none) (.map none) (.slice none 0 0)) := (hgrow5.block _ (by simp; have := HRB1.out.lt; omega) (fun e => Owns.ne_block HTR1.out.tops HRB1.out tree_ne e.symm)).trans (HRB1.out.keep ((Below.refl _ _).alloc (Nat.le_refl _) _)); have HM5 : Hid (IMapAt w5 Mi l) := (HM1.out.below ((Below.refl _ _).alloc (Nat.le_refl _) _)).kept hgrow5 (own_ne_imap HTR1.out.tops HM1.out); have HB5 : Hid (Below w.heap.size w w5) := (HB1.out.alloc HB1.out.size _).grown hgrow5 (by simp; have := HB1.out.size; omega) (fun i e => (HTR1.out.tops.lt i e).1); have HTR5 := Lib.hid (HTR1.out.putTop (idOf x) (.slice A5 ((topN l k).length + 1) c5) hown5 hgrow5 hv5); clear hown5 hgrow5 hv5; obtain ⟨y0, y1, y2, z0, z1, z2⟩ := HT5.out.c)
        have HT6 := Lib.hid (HT5.out.set2 (.slice A5 ((topN l k).length + 1) c5))
        have HG6 := Lib.hid (grown_setCell w5 T 2 (.slice A5 ((topN l k).length + 1) c5))
        have HTR6 := Lib.hid (HTR5.out.beside HT5.out tree_ne HG6.out)
        have HM6 := Lib.hid (HM5.out.kept HG6.out (fun e => cells_ne_imap HT5.out HM5.out (Option.some.inj e)))
        have HR6 : Hid (TB (w5.setCell ⟨T, 2, none⟩ (.slice A5 ((topN l k).length + 1) c5)) w.heap.size (.map none) (.map none) (.slice none 0 0)) := (HG6.out.block _ HR5.out.lt (fun e => HTR0.out (Option.some.inj e))).trans HR5.out
        have HB6 := Lib.hid (HB5.out.grown HG6.out HB5.out.size (fun i e => by have := Option.some.inj e; have := HTW.out; omega))
        go_roundg (gk - 1)
        case measure => exact Nat.sub_lt HGK.out.2 Nat.one_pos
        case rel => exact ⟨k + 1, m, D, hd, (.slice A5 ((topN l k).length + 1) c5), HGK.out.1, by go_num, show m ≤ k + 1 by have := HMLE.out; omega, HTR6.out.congr (fun id => (kidN_top HX.out HPAR.out id).1) (kidN_top HX.out HPAR.out []).2, HT6.out, HR6.out, HM6.out, HB6.out⟩
      · obtain ⟨q1, q2, q3⟩ := par_fullL hp
        have HPAR : Hid (parL x ≠ []) := hp
        have hmk := HMLE.out
        clear hp
        go_upto_region 7 with (fail)
        have HSOF : Hid (∀ w', TB w' T (.map (some Mi)) (.map (some Mk)) tv → ItemAt w' P x → w'.cell? ⟨T, 1, none⟩ = some (.map (some Mk)) ∧ w'.cell? ⟨P, 0, none⟩ = some (.string x.id) ∧ w'.cell? ⟨P, 5, none⟩ = some (.string x.par)) := fun w' h1 h2 => ⟨h1.c.2.1, h2.c.1, h2.c.2.2.2.2.2.1⟩
        refine wp_region_held_drew (S := fun w' => w'.cell? ⟨T, 1, none⟩ = some (.map (some Mk)) ∧ w'.cell? ⟨P, 0, none⟩ = some (.string x.id) ∧ w'.cell? ⟨P, 5, none⟩ = some (.string x.par)) (by kernel_rfl) (HSOF.out _ HTB1.out HI1.out) (fun hHeld => ?_)
        have HTR2 : Hid (TreeAt w2.drew w.heap.size Mk m D hd (kidN l k) tv (topN l k)) := HTR1.out.keep ((Below.refl _ _).drew)
        have HTB2 : Hid (TB w2.drew T (.map (some Mi)) (.map (some Mk)) tv) := HTB1.out
        have HI2 : Hid (ItemAt w2.drew P x) := HI1.out
        have HM2 : Hid (IMapAt w2.drew Mi l) := HM1.out.below ((Below.refl _ _).drew)
        have HRB2 : Hid (TB w2.drew w.heap.size (.map none) (.map none) (.slice none 0 0)) := HRB1.out
        have HB2 : Hid (Below w.heap.size w w2.drew) := HB1.out.drew
        clear HTR1 HTB1 HI1 HM1 HRB1 HB1
        generalize w2.drew = w3 at *
        have hlk := HTR2.out.look x.par hps
        have hlkA := fun (o : Obj) => (HTR2.out.keep ((Below.refl _ _).alloc (Nat.le_refl _) o)).look x.par hps
        refine wpAnyH_take (i := 0) (oi := ⟨some 26, _, _, _, _, _⟩) (v := .pointer (some ⟨T, 1, none⟩)) rfl (by kernel_rfl) (by kernel_rfl) (by kernel_rfl) (fun _ _ _ h => h) (Or.inl ⟨by rfl, ?_⟩) hHeld ?_
        · intro w hSw
          (try dsimp only at hSw)
          go_simp
        simp only [Act.put, List.setIfInBounds_toArray, List.set_cons_zero, List.set_cons_succ]
        refine wpAnyH_take (i := 1) (oi := ⟨some 27, _, _, _, _, _⟩) (v := .map (some Mk)) rfl (by kernel_rfl) (by kernel_rfl) (by kernel_rfl) (fun _ _ _ h => h) (Or.inl ⟨by rfl, ?_⟩) hHeld ?_
        · intro w hSw
          (try dsimp only at hSw)
          go_simp
        simp only [Act.put, List.setIfInBounds_toArray, List.set_cons_zero, List.set_cons_succ]
        refine wpAnyH_take (i := 2) (oi := ⟨some 28, _, _, _, _, _⟩) (v := .pointer (some ⟨P, 5, none⟩)) rfl (by kernel_rfl) (by kernel_rfl) (by kernel_rfl) (fun _ _ _ h => h) (Or.inl ⟨by rfl, ?_⟩) hHeld ?_
        · intro w hSw
          (try dsimp only at hSw)
          go_simp
        simp only [Act.put, List.setIfInBounds_toArray, List.set_cons_zero, List.set_cons_succ]
        refine wpAnyH_take (i := 3) (oi := ⟨some 29, _, _, _, _, _⟩) (v := .string x.par) rfl (by kernel_rfl) (by kernel_rfl) (by kernel_rfl) (fun _ _ _ h => h) (Or.inl ⟨by rfl, ?_⟩) hHeld ?_
        · intro w hSw
          (try dsimp only at hSw)
          go_simp
        simp only [Act.put, List.setIfInBounds_toArray, List.set_cons_zero, List.set_cons_succ]
        refine wpAnyH_take (i := 4) (oi := ⟨some 30, _, _, _, _, _⟩) (v := .pointer (some ⟨T, 1, none⟩)) rfl (by kernel_rfl) (by kernel_rfl) (by kernel_rfl) (fun _ _ _ h => h) (Or.inl ⟨by rfl, ?_⟩) hHeld ?_
        · intro w hSw
          (try dsimp only at hSw)
          go_simp
        simp only [Act.put, List.setIfInBounds_toArray, List.set_cons_zero, List.set_cons_succ]
        refine wpAnyH_take (i := 5) (oi := ⟨some 31, _, _, _, _, _⟩) (v := .map (some Mk)) rfl (by kernel_rfl) (by kernel_rfl) (by kernel_rfl) (fun _ _ _ h => h) (Or.inl ⟨by rfl, ?_⟩) hHeld ?_
        · intro w hSw
          (try dsimp only at hSw)
          go_simp
        simp only [Act.put, List.setIfInBounds_toArray, List.set_cons_zero, List.set_cons_succ]
        refine wpAnyH_take (i := 6) (oi := ⟨some 32, _, _, _, _, _⟩) (v := .pointer (some ⟨P, 5, none⟩)) rfl (by kernel_rfl) (by kernel_rfl) (by kernel_rfl) (fun _ _ _ h => h) (Or.inl ⟨by rfl, ?_⟩) hHeld ?_
        · intro w hSw
          (try dsimp only at hSw)
          go_simp
        simp only [Act.put, List.setIfInBounds_toArray, List.set_cons_zero, List.set_cons_succ]
        refine wpAnyH_take (i := 7) (oi := ⟨some 33, _, _, _, _, _⟩) (v := .string x.par) rfl (by kernel_rfl) (by kernel_rfl) (by kernel_rfl) (fun _ _ _ h => h) (Or.inl ⟨by rfl, ?_⟩) hHeld ?_
        · intro w hSw
          (try dsimp only at hSw)
          go_simp
        simp only [Act.put, List.setIfInBounds_toArray, List.set_cons_zero, List.set_cons_succ]
        refine wpAnyH_take (i := 9) (oi := ⟨some 35, _, _, _, _, _⟩) (v := .pointer (some ⟨P, 0, none⟩)) rfl (by kernel_rfl) (by kernel_rfl) (by kernel_rfl) (fun _ _ _ h => h) (Or.inl ⟨by rfl, ?_⟩) hHeld ?_
        · intro w hSw
          (try dsimp only at hSw)
          go_simp
        simp only [Act.put, List.setIfInBounds_toArray, List.set_cons_zero, List.set_cons_succ]
        refine wpAnyH_take (i := 10) (oi := ⟨some 36, _, _, _, _, _⟩) (v := .string x.id) rfl (by kernel_rfl) (by kernel_rfl) (by kernel_rfl) (fun _ _ _ h => h) (Or.inl ⟨by rfl, ?_⟩) hHeld ?_
        · intro w hSw
          (try dsimp only at hSw)
          go_simp
        simp only [Act.put, List.setIfInBounds_toArray, List.set_cons_zero, List.set_cons_succ]
        have HONE : Hid (ElemsAt StrE (w3.alloc (.cells #[.string x.id] 9)) (some ⟨w3.heap.size, 0, none⟩) 1 1 [idOf x]) := one_elem (E := StrE) w3 (idOf x)
        have hkl1 := kidN_len l k x.par.data.toList
        have hzb2 := HB2.out.size
        refine wpAnyH_ready (rs := [8, 11]) (by kernel_rfl) (by simp) ?_
        refine AllReadyH.cons (o := ⟨some 34, _, _, _, _, _⟩) rfl (fun K hK => ?_) (AllReadyH.cons (o := ⟨some 37, _, _, _, _, _⟩) rfl (fun K hK => ?_) AllReadyH.nil)
        · rw [if_pos (by rfl)]
          go_wp2_with fail
          refine hK.out _ _ (HSOF.out _ HTB2.out HI2.out) (fun hHeld => ?_)
          clear hK
          (try simp only [Act.put, List.setIfInBounds_toArray, List.set_cons_zero, List.set_cons_succ])
          refine wpAnyH_ready (rs := [11]) (by kernel_rfl) (by simp) ?_
          refine AllReadyH.cons (o := ⟨some 37, _, _, _, _, _⟩) rfl (fun K hK => ?_) AllReadyH.nil
          rw [if_pos (by rfl)]
          go_wp2_with fail
          refine hK.out _ _ (HSOF.out _ (HTB2.out.keep ((Below.refl _ _).alloc (Nat.le_refl _) _)) (HI2.out.keep ((Below.refl _ _).alloc (Nat.le_refl _) _))) (fun hHeld => ?_)
          clear hK
          (try simp only [Act.put, List.setIfInBounds_toArray, List.set_cons_zero, List.set_cons_succ])
          refine wpAnyH_ready (rs := [12]) (by kernel_rfl) (by simp) ?_
          refine AllReadyH.cons (o := ⟨some 38, _, _, _, _, _⟩) rfl (fun K hK => ?_) AllReadyH.nil
          refine step_elems strE_ok (by rfl) _ _ (by rfl) w.heap.size (hd x.par.data.toList) (kidN l k x.par.data.toList) (by rfl) (World.ownsRow.alloc (HTR2.out.row x.par.data.toList) _) ⟨w3.heap.size, 0, none⟩ 1 1 [idOf x] (by rfl) HONE.out (by omega) (by simp only [List.length_singleton]; omega) (by simp; omega) ?_
          intro v5 w5 hown5 hgrow5 hv5
          have HT5 : Hid (TB w5 T (.map (some Mi)) (.map (some Mk)) tv) := (hgrow5.block T (by simp; have := HTB2.out.lt; omega) (fun e => Owns.ne_block (HTR2.out.row x.par.data.toList) HTB2.out tree_ne e.symm)).trans (HTB2.out.keep ((Below.refl _ _).alloc (Nat.le_refl _) _))
          have HP5 : Hid (ItemAt w5 P x) := (hgrow5.block P (by simp; have := HI2.out.lt; omega) (fun e => Owns.ne_block (HTR2.out.row x.par.data.toList) HI2.out item_ne e.symm)).trans (HI2.out.keep ((Below.refl _ _).alloc (Nat.le_refl _) _))
          have HR5 : Hid (TB w5 w.heap.size (.map none) (.map none) (.slice none 0 0)) := (hgrow5.block _ (by simp; have := HRB2.out.lt; omega) (fun e => Owns.ne_block (HTR2.out.row x.par.data.toList) HRB2.out tree_ne e.symm)).trans (HRB2.out.keep ((Below.refl _ _).alloc (Nat.le_refl _) _))
          have HM5 : Hid (IMapAt w5 Mi l) := (HM2.out.below ((Below.refl _ _).alloc (Nat.le_refl _) _)).kept hgrow5 (own_ne_imap (HTR2.out.row x.par.data.toList) HM2.out)
          have HB5 : Hid (Below w.heap.size w w5) := (HB2.out.alloc HB2.out.size _).grown hgrow5 (by simp; have := HB2.out.size; omega) (fun i e => ((HTR2.out.row x.par.data.toList).lt i e).1)
          have hm5 := HTR2.out.mapAfter x.par.data.toList hgrow5
          clear hHeld
          refine hK.out _ _ (HSOF.out _ HT5.out HP5.out) (fun hHeld => ?_)
          clear hK
          (try simp only [Act.put, List.setIfInBounds_toArray, List.set_cons_zero, List.set_cons_succ])
          refine wpAnyH_ready (rs := [13]) (by kernel_rfl) (by simp) ?_
          refine AllReadyH.cons (o := ⟨none, _, _, _, _, _⟩) rfl (fun K hK => ?_) AllReadyH.nil
          refine step_mapUpdate_own _ (by rfl) _ _ _ 80 (by rfl) 9 29 keyS Tryz.underlying80 heldE Mk m D (by rfl) hm5 (by simp only [maxLen]; omega) (.string x.par) v5 (.string x.par.data.toList) (by rfl) (by rfl) (keyS_mk x.par hps) (.held v5) [] rfl ?_
          intro w6 hown6 hgrow6
          have HTR6 := Lib.hid (HTR2.out.putKid x.par.data.toList (idOf x) v5 hown5 hgrow5 hv5 hown6 hgrow6)
          have HT6 : Hid (TB w6 T (.map (some Mi)) (.map (some Mk)) tv) := (hgrow6.block T HT5.out.lt (fun e => cells_ne_map HT5.out hm5 (Option.some.inj e))).trans HT5.out
          have HP6 : Hid (ItemAt w6 P x) := (hgrow6.block P HP5.out.lt (fun e => cells_ne_map HP5.out hm5 (Option.some.inj e))).trans HP5.out
          have HR6 : Hid (TB w6 w.heap.size (.map none) (.map none) (.slice none 0 0)) := (hgrow6.block _ HR5.out.lt (fun e => cells_ne_map HR5.out hm5 (Option.some.inj e))).trans HR5.out
          have HM6 : Hid (IMapAt w6 Mi l) := HM5.out.kept hgrow6 (fun e => HMM.out (Option.some.inj e).symm)
          have HB6 : Hid (Below w.heap.size w w6) := HB5.out.grown hgrow6 HB5.out.size (fun i e => by have := Option.some.inj e; have := HMK.out; omega)
          clear hown5 hgrow5 hv5 hown6 hgrow6 hm5 hHeld
          refine hK.out _ _ (HSOF.out _ HT6.out HP6.out) (fun hHeld => ?_)
          clear hK hHeld
          refine wpAnyH_done (by kernel_rfl) ?_ _
          go_wp2_with fail
          go_roundg (gk - 1)
          case measure => exact Nat.sub_lt HGK.out.2 Nat.one_pos
          case rel => exact ⟨k + 1, m + 1, _, _, tv, HGK.out.1, by go_num, show m + 1 ≤ k + 1 by have := HMLE.out; omega, HTR6.out.congr (fun id => (kidN_kid HX.out HPAR.out id).1) (kidN_kid HX.out HPAR.out []).2, HT6.out, HR6.out, HM6.out, HB6.out⟩
        · rw [if_pos (by rfl)]
          go_wp2_with fail
          refine hK.out _ _ (HSOF.out _ (HTB2.out.keep ((Below.refl _ _).alloc (Nat.le_refl _) _)) (HI2.out.keep ((Below.refl _ _).alloc (Nat.le_refl _) _))) (fun hHeld => ?_)
          clear hK
          (try simp only [Act.put, List.setIfInBounds_toArray, List.set_cons_zero, List.set_cons_succ])
          refine wpAnyH_ready (rs := [8]) (by kernel_rfl) (by simp) ?_
          refine AllReadyH.cons (o := ⟨some 34, _, _, _, _, _⟩) rfl (fun K hK => ?_) AllReadyH.nil
          rw [if_pos (by rfl)]
          go_wp2_with fail
          refine hK.out _ _ (HSOF.out _ (HTB2.out.keep ((Below.refl _ _).alloc (Nat.le_refl _) _)) (HI2.out.keep ((Below.refl _ _).alloc (Nat.le_refl _) _))) (fun hHeld => ?_)
          clear hK
          (try simp only [Act.put, List.setIfInBounds_toArray, List.set_cons_zero, List.set_cons_succ])
          refine wpAnyH_ready (rs := [12]) (by kernel_rfl) (by simp) ?_
          refine AllReadyH.cons (o := ⟨some 38, _, _, _, _, _⟩) rfl (fun K hK => ?_) AllReadyH.nil
          refine step_elems strE_ok (by rfl) _ _ (by rfl) w.heap.size (hd x.par.data.toList) (kidN l k x.par.data.toList) (by rfl) (World.ownsRow.alloc (HTR2.out.row x.par.data.toList) _) ⟨w3.heap.size, 0, none⟩ 1 1 [idOf x] (by rfl) HONE.out (by omega) (by simp only [List.length_singleton]; omega) (by simp; omega) ?_
          intro v5 w5 hown5 hgrow5 hv5
          have HT5 : Hid (TB w5 T (.map (some Mi)) (.map (some Mk)) tv) := (hgrow5.block T (by simp; have := HTB2.out.lt; omega) (fun e => Owns.ne_block (HTR2.out.row x.par.data.toList) HTB2.out tree_ne e.symm)).trans (HTB2.out.keep ((Below.refl _ _).alloc (Nat.le_refl _) _))
          have HP5 : Hid (ItemAt w5 P x) := (hgrow5.block P (by simp; have := HI2.out.lt; omega) (fun e => Owns.ne_block (HTR2.out.row x.par.data.toList) HI2.out item_ne e.symm)).trans (HI2.out.keep ((Below.refl _ _).alloc (Nat.le_refl _) _))
          have HR5 : Hid (TB w5 w.heap.size (.map none) (.map none) (.slice none 0 0)) := (hgrow5.block _ (by simp; have := HRB2.out.lt; omega) (fun e => Owns.ne_block (HTR2.out.row x.par.data.toList) HRB2.out tree_ne e.symm)).trans (HRB2.out.keep ((Below.refl _ _).alloc (Nat.le_refl _) _))
          have HM5 : Hid (IMapAt w5 Mi l) := (HM2.out.below ((Below.refl _ _).alloc (Nat.le_refl _) _)).kept hgrow5 (own_ne_imap (HTR2.out.row x.par.data.toList) HM2.out)
          have HB5 : Hid (Below w.heap.size w w5) := (HB2.out.alloc HB2.out.size _).grown hgrow5 (by simp; have := HB2.out.size; omega) (fun i e => ((HTR2.out.row x.par.data.toList).lt i e).1)
          have hm5 := HTR2.out.mapAfter x.par.data.toList hgrow5
          clear hHeld
          refine hK.out _ _ (HSOF.out _ HT5.out HP5.out) (fun hHeld => ?_)
          clear hK
          (try simp only [Act.put, List.setIfInBounds_toArray, List.set_cons_zero, List.set_cons_succ])
          refine wpAnyH_ready (rs := [13]) (by kernel_rfl) (by simp) ?_
          refine AllReadyH.cons (o := ⟨none, _, _, _, _, _⟩) rfl (fun K hK => ?_) AllReadyH.nil
          refine step_mapUpdate_own _ (by rfl) _ _ _ 80 (by rfl) 9 29 keyS Tryz.underlying80 heldE Mk m D (by rfl) hm5 (by simp only [maxLen]; omega) (.string x.par) v5 (.string x.par.data.toList) (by rfl) (by rfl) (keyS_mk x.par hps) (.held v5) [] rfl ?_
          intro w6 hown6 hgrow6
          have HTR6 := Lib.hid (HTR2.out.putKid x.par.data.toList (idOf x) v5 hown5 hgrow5 hv5 hown6 hgrow6)
          have HT6 : Hid (TB w6 T (.map (some Mi)) (.map (some Mk)) tv) := (hgrow6.block T HT5.out.lt (fun e => cells_ne_map HT5.out hm5 (Option.some.inj e))).trans HT5.out
          have HP6 : Hid (ItemAt w6 P x) := (hgrow6.block P HP5.out.lt (fun e => cells_ne_map HP5.out hm5 (Option.some.inj e))).trans HP5.out
          have HR6 : Hid (TB w6 w.heap.size (.map none) (.map none) (.slice none 0 0)) := (hgrow6.block _ HR5.out.lt (fun e => cells_ne_map HR5.out hm5 (Option.some.inj e))).trans HR5.out
          have HM6 : Hid (IMapAt w6 Mi l) := HM5.out.kept hgrow6 (fun e => HMM.out (Option.some.inj e).symm)
          have HB6 : Hid (Below w.heap.size w w6) := HB5.out.grown hgrow6 HB5.out.size (fun i e => by have := Option.some.inj e; have := HMK.out; omega)
          clear hown5 hgrow5 hv5 hown6 hgrow6 hm5 hHeld
          refine hK.out _ _ (HSOF.out _ HT6.out HP6.out) (fun hHeld => ?_)
          clear hK hHeld
          refine wpAnyH_done (by kernel_rfl) ?_ _
          go_wp2_with fail
          go_roundg (gk - 1)
          case measure => exact Nat.sub_lt HGK.out.2 Nat.one_pos
          case rel => exact ⟨k + 1, m + 1, _, _, tv, HGK.out.1, by go_num, show m + 1 ≤ k + 1 by have := HMLE.out; omega, HTR6.out.congr (fun id => (kidN_kid HX.out HPAR.out id).1) (kidN_kid HX.out HPAR.out []).2, HT6.out, HR6.out, HM6.out, HB6.out⟩
    · have hnk : ¬ (k : Int) < (n : Int) := by omega
      obtain rfl : k = n := by omega
      have HKL : Hid (k = l.length) := HN.out
      obtain ⟨A5, c5, hv9, -, -, -⟩ := HTR.out.tops.at_ strE_ok
      subst hv9
      obtain ⟨t0, t1, t2, f0, f1, f2⟩ := HTB.out.c
      obtain ⟨r0, r1, r2, g0, g1, g2⟩ := HRB.out.c
      have HRS : Hid (TB (((wr.setCell ⟨w.heap.size, 0, none⟩ (.map (some Mi))).setCell ⟨w.heap.size, 1, none⟩ (.map (some Mk))).setCell ⟨w.heap.size, 2, none⟩ (.slice A5 (topN l k).length c5)) w.heap.size (.map (some Mi)) (.map (some Mk)) (.slice A5 (topN l k).length c5)) := ((HRB.out.set0 _).set1 _).set2 _
      have hgs : wr.grownBy (((wr.setCell ⟨w.heap.size, 0, none⟩ (.map (some Mi))).setCell ⟨w.heap.size, 1, none⟩ (.map (some Mk))).setCell ⟨w.heap.size, 2, none⟩ (.slice A5 (topN l k).length c5)) (some w.heap.size) := grown_trans (grown_trans (grown_setCell wr _ 0 _) (grown_setCell _ _ 1 _)) (grown_setCell _ _ 2 _)
      have HTRS := Lib.hid (HTR.out.beside HRB.out tree_ne hgs)
      have HMS := Lib.hid (HMI.out.kept hgs (fun e => cells_ne_imap HRB.out HMI.out (Option.some.inj e)))
      have HBS := Lib.hid (HB.out.grown hgs HB.out.size (fun i e => by have := Option.some.inj e; omega))
      clear hgs HTR HMI HB HK
      go_wp2_with fail
      clear t0 t1 t2 f0 f1 f2 r0 r1 r2 g0 g1 g2
      generalize (((wr.setCell ⟨w.heap.size, 0, none⟩ (.map (some Mi))).setCell ⟨w.heap.size, 1, none⟩ (.map (some Mk))).setCell ⟨w.heap.size, 2, none⟩ (.slice A5 (topN l k).length c5)) = wf at *
      obtain ⟨t0, t1, t2, f0, f1, f2⟩ := HRS.out.c
      refine bodyPost_ret (v := .agg #[.map (some Mi), .map (some Mk), (.slice A5 (topN l k).length c5)]) (by simp [results, Tryz.results38, go_sem, t0, t1, t2]) rfl ?_
      exact ⟨Mi, Mk, m, (.slice A5 (topN l k).length c5), D, hd, rfl, HMS.out, by rw [← HKL.out]; exact HTRS.out, HBS.out⟩
end Go.Proofs.YtfijplllfdmcoaaGreatDoor

namespace Go.Proofs.YtfijplllfdmcoaaGreatDoor
open Go.RowKit Go.Maps
attribute [local go_sem ↓] Go.wp_at_zero Go.wp_at_succ

/-- The parent of an id (empty: none). -/
def parS (l : List Itm) (id : ByteArray) : ByteArray := match findI l id with
  | some k => (match l[k]? with | some x => x.par | none => ⟨#[]⟩)
  | none => ⟨#[]⟩
def rootS (l : List Itm) : Nat → ByteArray → ByteArray
  | 0, id => id
  | f + 1, id => if parS l id = ⟨#[]⟩ then id else rootS l f (parS l id)
/-- The chain of parents above an id ends within so many steps. -/
def EndUp (l : List Itm) : Nat → ByteArray → Prop
  | 0, id => parS l id = ⟨#[]⟩
  | f + 1, id => parS l id = ⟨#[]⟩ ∨ EndUp l f (parS l id)
theorem field_parZ (w : World) : (Instr.field 60 (.agg #[.string ⟨#[]⟩, .string ⟨#[]⟩, .int .i64 0, .string ⟨#[]⟩, .int .i64 0, .string ⟨#[]⟩, .string ⟨#[]⟩]) 5).run Tryz.prog w = .ok (.string ⟨#[]⟩) w := by kernel_rfl
theorem field_par (x : Itm) (w : World) : (Instr.field 60 (.agg #[.string x.id, .string x.cu, .int .i64 x.kind, .string x.name, .int .i64 x.at_, .string x.par, .string x.text]) 5).run Tryz.prog w = .ok (.string x.par) w := by kernel_rfl
theorem valI_par (l : List Itm) (id : ByteArray) (w : World) : (Instr.field 60 (valI l id) 5).run Tryz.prog w = .ok (.string (parS l id)) w := by
  cases h : findI l id with
  | none => rw [valI_none h, show parS l id = ⟨#[]⟩ by unfold parS; rw [h]]; exact field_parZ w
  | some k =>
    obtain ⟨x, hx, -, -⟩ := findI_some h
    rw [valI_some h hx, show parS l id = x.par by unfold parS; rw [h]; simp only; rw [hx]]
    exact field_par x w
set_option maxHeartbeats 1600000 in
set_option maxRecDepth 100000 in
theorem top_any (Mi : Nat) (mk : Nat) (A1 : Option Addr) (n1 c1 : Nat) (l : List Itm) (f : Nat) (id : ByteArray) (w : World) (hM : IMapAt w Mi l) (hid : id.size ≤ 1000000) (hps : ∀ z, (parS l z).size ≤ 1000000) (he : EndUp l f id) :
    Calls Tryz.prog 40 #[.agg #[.map (some Mi), .map (some mk), .slice A1 n1 c1], .string id] w fun e w' => e = .returned (.string (rootS l f id)) ∧ Below w.heap.size w w' := by
  have hb1 : Below w.heap.size w (w.alloc (.cells #[.map (some Mi), .map (some mk), .slice A1 n1 c1] 82)) := (Below.refl _ _).alloc (Nat.le_refl _) _
  have HT1 : Hid (TB (w.alloc (.cells #[.map (some Mi), .map (some mk), .slice A1 n1 c1] 82)) w.heap.size (.map (some Mi)) (.map (some mk)) (.slice A1 n1 c1)) := heap_alloc_new w _
  have HM1 := Lib.hid (hM.below hb1)
  have HB1 := Lib.hid hb1
  have HPS := Lib.hid hps
  have HE := Lib.hid he
  clear hM hb1 hps he
  go_enter Tryz.func40, Tryz.ntmps40
  go_upto_region 1 with (fail)
  obtain ⟨T, hT⟩ : ∃ T, T = w.heap.size := ⟨_, rfl⟩
  rw [← hT] at HT1 ⊢
  generalize w.alloc (.cells #[.map (some Mi), .map (some mk), .slice A1 n1 c1] 82) = w1 at *
  clear hT
  obtain ⟨t0, t1, t2, f0, f1, f2⟩ := HT1.out.c
  go_loopg [1] f (fun gk v wr => ∃ z : ByteArray, v = .string z ∧ Hid (z.size ≤ 1000000) ∧ Hid (EndUp l gk z) ∧ Hid (rootS l f id = rootS l gk z) ∧ w1 = wr)
  case atStart => exact ⟨id, rfl, hid, HE.out, rfl, rfl⟩
  case round =>
    obtain ⟨z, rfl, HZ, HEU, HR, rfl⟩ := hrel
    have hlk : (Instr.lookup 79 (.map (some Mi)) (.string z) false).run Tryz.prog w1 = .ok (valI l z) w1 := HM1.out.look1 z HZ.out 0
    have hfp := valI_par l z w1
    have HPZ := Lib.hid (HPS.out z)
    by_cases hp : (parS l z).data.toList = []
    · obtain ⟨q1, q2, q3⟩ := par_emptyL hp
      have he : parS l z = ⟨#[]⟩ := ByteArray.ext (Array.toList_inj.1 (by simpa using hp))
      have HF : Hid (rootS l gk z = z) := by
        show _ = _
        cases gk with
        | zero => rfl
        | succ m => rw [rootS, if_pos he]
      clear hp he
      generalize parS l z = p at *
      go_wp2_with fail
      go_ret
      exact ⟨by rw [HR.out, HF.out]; rfl, HB1.out⟩
    · obtain ⟨q1, q2, q3⟩ := par_fullL hp
      have he : ¬ parS l z = ⟨#[]⟩ := fun e => hp (by rw [e])
      have HNX : Hid (0 < gk ∧ EndUp l (gk - 1) (parS l z) ∧ rootS l gk z = rootS l (gk - 1) (parS l z)) := by
        have hE := HEU.out
        cases gk with
        | zero => exact absurd hE he
        | succ m => exact ⟨by omega, hE.resolve_left he, by rw [rootS, if_neg he]; rfl⟩
      clear hp he
      generalize parS l z = p at *
      go_wp2_with fail
      go_roundg (gk - 1)
      case measure => exact Nat.sub_lt HNX.out.1 Nat.one_pos
      case rel => exact ⟨p, rfl, HPZ.out, HNX.out.2.1, HR.out.trans HNX.out.2.2, rfl⟩
end Go.Proofs.YtfijplllfdmcoaaGreatDoor

namespace Go.Proofs.YtfijplllfdmcoaaGreatDoor
open Go.RowKit Go.Maps

/-- A map of rows that are read. -/
def KidsR (w : World) (M : Nat) (kid : Str → List Str) : Prop :=
  ∀ id : ByteArray, id.size ≤ 1000000 → ∃ A c, (Instr.lookup 80 (.map (some M)) (.string id) false).run Tryz.prog w = .ok (.slice A (kid id.data.toList).length c) w ∧ StrsAt w A (kid id.data.toList).length c (kid id.data.toList)
structure KidsK (w : World) (M : Nat) (kid : Str → List Str) : Prop where
  ex : ∃ (m : Nat) (D : DataW Value) (hd : Str → Value), w.ownsMap Tryz.prog 9 heldE M m D ∧ (∀ id, D.atKey (.string id) (.held (.slice none 0 0)) = .held (hd id)) ∧ ∀ id, ∃ A c, hd id = .slice A (kid id).length c ∧ StrsAt w A (kid id).length c (kid id)
theorem TreeAt.kids {w : World} {base M m : Nat} {D : DataW Value} {hd : Str → Value} {kid : Str → List Str} {tv : Value} {tl : List Str} (h : TreeAt w base M m D hd kid tv tl) : KidsK w M kid :=
  ⟨⟨m, D, hd, h.map, h.at_, fun id => by
    obtain ⟨A, c, e, _, hat, _⟩ := (h.row id).at_ strE_ok
    exact ⟨A, c, e, hat⟩⟩⟩
theorem KidsK.keep {w w' : World} {M : Nat} {kid : Str → List Str} (h : KidsK w M kid) (hb : Below w.heap.size w w') : KidsK w' M kid := by
  obtain ⟨m, D, hd, h1, h2, h3⟩ := h.ex
  exact ⟨⟨m, D, hd, h1.kept (below_grown hb none) (by simp), h2, fun id => by obtain ⟨A, c, e, hat⟩ := h3 id; exact ⟨A, c, e, hat.keep hb⟩⟩⟩
theorem KidsK.look2 {w w' : World} {M : Nat} {kid : Str → List Str} (h : KidsK w M kid) (hb : Below w.heap.size w w') (id : ByteArray) (hid : id.size ≤ 1000000) : ∃ A c, (Instr.lookup 80 (.map (some M)) (.string id) false).run Tryz.prog w' = .ok (.slice A (kid id.data.toList).length c) w' ∧ StrsAt w A (kid id.data.toList).length c (kid id.data.toList) := by
  obtain ⟨m, D, hd, h1, h2, h3⟩ := h.ex
  obtain ⟨v, ps, hrun, hv⟩ := (h1.kept (below_grown hb none) (by simp)).lookup keyS Tryz.underlying80 (z := .slice none 0 0) (by kernel_rfl) (zd := .held (.slice none 0 0)) (zp := []) rfl (keyS_mk id hid)
  rw [h2] at hv
  simp only [heldE, Option.some.injEq, Prod.mk.injEq, DataW.held.injEq] at hv
  obtain ⟨A, c, e, hat⟩ := h3 id.data.toList
  rw [hv.1, e] at hrun
  exact ⟨A, c, hrun, hat⟩
theorem KidsK.look {w : World} {M : Nat} {kid : Str → List Str} (h : KidsK w M kid) : KidsR w M kid := fun id hid => by
  obtain ⟨m, D, hd, h1, h2, h3⟩ := h.ex
  obtain ⟨v, ps, hrun, hv⟩ := h1.lookup keyS Tryz.underlying80 (z := .slice none 0 0) (by kernel_rfl) (zd := .held (.slice none 0 0)) (zp := []) rfl (keyS_mk id hid)
  rw [h2] at hv
  simp only [heldE, Option.some.injEq, Prod.mk.injEq, DataW.held.injEq] at hv
  obtain ⟨A, c, e, hat⟩ := h3 id.data.toList
  rw [hv.1, e] at hrun
  exact ⟨A, c, hrun, hat⟩
/-- The ids below one, as deep as that. -/
def belS (kid : Str → List Str) : Nat → Str → List Str
  | 0, id => [id]
  | f + 1, id => id :: (kid id).flatMap (belS kid f)
/-- Nothing lies deeper below one. -/
def EndsS (kid : Str → List Str) : Nat → Str → Prop
  | 0, id => kid id = []
  | f + 1, id => ∀ k ∈ kid id, EndsS kid f k
def BelPost (w : World) (L : List Str) (e : Ending) (w' : World) : Prop := ∃ v, e = .returned v ∧ OwnStrs w' w.heap.size v L ∧ Below w.heap.size w w'
set_option maxHeartbeats 3200000 in
set_option maxRecDepth 100000 in
theorem below_step (f Mi Mk : Nat) (tv : Value) (kid : Str → List Str) (id : Str) (w : World) (hK : KidsK w Mk kid) (hid : id.length ≤ 1000) (hsm : ∀ x k, k ∈ kid x → k.length ≤ 1000) (hkl : ∀ x, (kid x).length ≤ 5000)
    (hlen : (belS kid (f + 1) id).length ≤ 50000) (A0 : Option Addr) (n0 c0 : Nat) (htv : tv = .slice A0 n0 c0)
    (ih : ∀ k ∈ kid id, ∀ wx, KidsK wx Mk kid → Calls Tryz.prog 51 #[.agg #[.map (some Mi), .map (some Mk), tv], .string ⟨k.toArray⟩] wx (BelPost wx (belS kid f k))) :
    Calls Tryz.prog 51 #[.agg #[.map (some Mi), .map (some Mk), tv], .string ⟨id.toArray⟩] w (BelPost w (belS kid (f + 1) id)) := by
  subst htv
  have hb1 : Below w.heap.size w (w.alloc (.cells #[.map (some Mi), .map (some Mk), .slice A0 n0 c0] 82)) := (Below.refl _ _).alloc (Nat.le_refl _) _
  have HT1 : Hid (TB (w.alloc (.cells #[.map (some Mi), .map (some Mk), .slice A0 n0 c0] 82)) w.heap.size (.map (some Mi)) (.map (some Mk)) (.slice A0 n0 c0)) := heap_alloc_new w _
  have HKW := Lib.hid hK
  have HB1 := Lib.hid hb1
  have HIH := Lib.hid ih
  have HSM := Lib.hid hsm
  have HLEN := Lib.hid hlen
  clear hK hb1 ih hsm hlen
  go_enter Tryz.func51, Tryz.ntmps51
  go_upto_region 1 with (fail)
  obtain ⟨T, hT⟩ : ∃ T, T = w.heap.size := ⟨_, rfl⟩
  rw [← hT] at HT1 ⊢
  have HTW : Hid (w.heap.size ≤ T) := by show _ ≤ _; omega
  generalize w.alloc (.cells #[.map (some Mi), .map (some Mk), .slice A0 n0 c0] 82) = w1 at *
  clear hT
  have hz1 := HB1.out.size
  go_upto_region 2 with (fail)
  have hb2 : Below w1.heap.size w1 (w1.alloc (.cells #[.string ⟨id.toArray⟩] 9)) := (Below.refl _ _).alloc (Nat.le_refl _) _
  have HO2 : Hid (OwnStrs (w1.alloc (.cells #[.string ⟨id.toArray⟩] 9)) w.heap.size (.slice (some ⟨w1.heap.size, 0, none⟩) 1 1) [id]) := Owns.lit strE_ok w1 w.heap.size [id] hz1 (by simp)
  have HT2 := Lib.hid (HT1.out.keep hb2)
  have HB2 := Lib.hid (HB1.out.trans (hb2.mono hz1))
  generalize w1.alloc (.cells #[.string ⟨id.toArray⟩] 9) = w2 at *
  clear HT1 HB1 hb2
  obtain ⟨t0, t1, t2, f0, f1, f2⟩ := HT2.out.c
  obtain ⟨A, c, hlk, hat⟩ := HKW.out.look2 HB2.out ⟨id.toArray⟩ (by simp [ByteArray.size]; omega)
  rw [show (⟨id.toArray⟩ : ByteArray).data.toList = id by simp] at hlk hat
  have HAT := Lib.hid hat
  have HBL : Hid (belS kid (f + 1) id = id :: (kid id).flatMap (belS kid f)) := rfl
  have hkb := hkl id
  obtain ⟨ks, hks⟩ : ∃ ks, ks = kid id := ⟨_, rfl⟩
  rw [← hks] at hlk HAT HBL hkb HIH
  obtain ⟨nk, hnk⟩ : ∃ nk, nk = ks.length := ⟨_, rfl⟩
  rw [← hnk] at hlk HAT hkb
  have HNK : Hid (nk = ks.length) := hnk
  have HO2' : Hid (OwnStrs w2 w.heap.size (.slice (some ⟨w1.heap.size, 0, none⟩) 1 1) (id :: (ks.take 0).flatMap (belS kid f))) := HO2.out
  clear hat hks hnk HO2
  go_wp2_with fail
  clear hlk t0 t1 t2 f0 f1 f2
  go_loopg [5, 15] nk (fun gk v5 v wr => ∃ k : Nat, Hid (k + gk = nk) ∧ v = .int .i64 (k : Int) ∧ Hid (OwnStrs wr w.heap.size v5 (id :: (ks.take k).flatMap (belS kid f))) ∧ Hid (TB wr T (.map (some Mi)) (.map (some Mk)) (.slice A0 n0 c0)) ∧ Hid (Below w.heap.size w wr))
  case atStart => exact ⟨0, show 0 + nk = nk by omega, rfl, HO2'.out, HT2.out, HB2.out⟩
  case round =>
    obtain ⟨k, HKG, rfl, HO, HT, HB⟩ := hrel
    clear HO2' HT2 HB2
    have hkn : k ≤ nk := by have := HKG.out; omega
    by_cases hlt : k < nk
    · have HGK := Lib.hid (show k + 1 + (gk - 1) = nk ∧ 0 < gk by have := HKG.out; omega)
      obtain ⟨g, off, rfl, hg, hc⟩ := (ElemsAt.keep HAT.out HB.out).str (by omega)
      have hck := hc k hlt
      have hkl : k < ks.length := by have := HNK.out; omega
      have hmem : ks.getD k [] ∈ ks := by rw [List.getD_eq_getElem?_getD, List.getElem?_eq_getElem hkl]; exact List.getElem_mem hkl
      have HTK : Hid ((ks.take (k + 1)).flatMap (belS kid f) = (ks.take k).flatMap (belS kid f) ++ belS kid f (ks.getD k [])) := by
        show _ = _
        rw [List.take_succ_eq_append_getElem hkl, List.flatMap_append]
        simp [hkl]
      have HIX := Lib.hid (HIH.out _ hmem wr (HKW.out.keep HB.out))
      have HLL : Hid ((id :: (ks.take (k + 1)).flatMap (belS kid f)).length ≤ 50000) := by
        have h1 := HLEN.out
        rw [HBL.out] at h1
        have h2 : ks.flatMap (belS kid f) = (ks.take (k + 1)).flatMap (belS kid f) ++ (ks.drop (k + 1)).flatMap (belS kid f) := by rw [← List.flatMap_append, List.take_append_drop]
        rw [h2] at h1
        show _ ≤ _
        simp only [List.length_cons, List.length_append] at h1 ⊢
        omega
      rw [HTK.out] at HLL
      obtain ⟨t0, t1, t2, f0, f1, f2⟩ := HT.out.c
      generalize ks.getD k [] = x at *
      generalize (ks.take k).flatMap (belS kid f) = F at *
      generalize belS kid f x = B at *
      clear hc hmem hkl HKG
      go_wp2_with fail
      refine HIX.out.mono ?_
      rintro e w3 ⟨v3, rfl, hown3, hb3⟩
      obtain ⟨A3, c3, rfl, -, hat3, -⟩ := hown3.at_ strE_ok
      have HAT3 := Lib.hid hat3
      have HO3 := Lib.hid (HO.out.below_ hb3)
      have HT3 := Lib.hid (HT.out.keep hb3)
      have HB3 := Lib.hid (HB.out.trans (hb3.mono HB.out.size))
      have hl1 := HLL.out
      simp only [List.length_cons, List.length_append] at hl1
      have hzb := HB3.out.size
      clear hown3 hb3 hat3 HO HT HB HIX hck t0 t1 t2 f0 f1 f2
      go_wp2_with (at_builtin; refine append_elems strE_ok rfl _ _ rfl w.heap.size u5 (id :: F) rfl HO3.out A3 B.length c3 B rfl HAT3.out (by simp only [List.length_cons]; omega) (by omega) ?_; intro v5 w5 hown5 hgrow5 hv5)
      have HO5 : Hid (OwnStrs w5 w.heap.size v5 (id :: (F ++ B))) := hown5
      have HT5 : Hid (TB w5 T (.map (some Mi)) (.map (some Mk)) (.slice A0 n0 c0)) := (hgrow5.block T HT3.out.lt (fun e => Owns.ne_block HO3.out HT3.out tree_ne e.symm)).trans HT3.out
      have HB5 : Hid (Below w.heap.size w w5) := HB3.out.grown hgrow5 HB3.out.size (fun i e => (HO3.out.lt i e).1)
      clear hown5 hgrow5 hv5
      go_wp2_with fail
      go_roundg (gk - 1)
      case measure => exact Nat.sub_lt HGK.out.2 Nat.one_pos
      case rel => exact ⟨k + 1, HGK.out.1, by go_num, by rw [HTK.out]; exact HO5.out, HT5.out, HB5.out⟩
    · have hnk : ¬ (k : Int) < (nk : Int) := by omega
      have hta : ks.take k = ks := List.take_of_length_le (by have := HNK.out; omega)
      rw [hta] at HO
      have HF : Hid (BelPost w (belS kid (f + 1) id) (.returned u5) wr) := ⟨u5, rfl, by rw [HBL.out]; exact HO.out, HB.out⟩
      clear hta
      go_wp2_with fail
      go_ret
      exact HF.out
theorem belS_fuel (kid : Str → List Str) : ∀ f id, (belS kid f id).length ≤ (belS kid (f + 1) id).length
  | 0, id => by simp [belS]
  | f + 1, id => by
    have h : ∀ L : List Str, (L.flatMap (belS kid f)).length ≤ (L.flatMap (belS kid (f + 1))).length := by
      intro L
      induction L with
      | nil => simp
      | cons a L ih =>
        have := belS_fuel kid f a
        simp only [List.flatMap_cons, List.length_append]
        omega
    have := h (kid id)
    rw [belS, belS]
    simp only [List.length_cons]
    omega
theorem belS_kid (kid : Str → List Str) (f : Nat) (id k : Str) (h : k ∈ kid id) : (belS kid f k).length ≤ (belS kid (f + 1) id).length := by
  rw [belS]
  have : ∀ L : List Str, k ∈ L → (belS kid f k).length ≤ (L.flatMap (belS kid f)).length := by
    intro L
    induction L with
    | nil => intro hm; cases hm
    | cons a L ih =>
      intro hm
      simp only [List.flatMap_cons, List.length_append]
      rcases List.mem_cons.1 hm with rfl | hm
      · omega
      · have := ih hm; omega
  have := this _ h
  simp only [List.length_cons]
  omega
theorem belowT_any (Mi Mk : Nat) (A0 : Option Addr) (n0 c0 : Nat) (kid : Str → List Str) (hsm : ∀ x k, k ∈ kid x → k.length ≤ 1000) (hkl : ∀ x, (kid x).length ≤ 5000) :
    ∀ (f : Nat) (id : Str) (w : World), KidsK w Mk kid → id.length ≤ 1000 → EndsS kid f id → (belS kid f id).length ≤ 50000 →
    Calls Tryz.prog 51 #[.agg #[.map (some Mi), .map (some Mk), .slice A0 n0 c0], .string ⟨id.toArray⟩] w (BelPost w (belS kid f id))
  | 0, id, w, hK, hid, he, hl => by
    have e : belS kid (0 + 1) id = belS kid 0 id := by
      rw [belS, belS, show kid id = [] from he]; rfl
    have h := below_step 0 Mi Mk (.slice A0 n0 c0) kid id w hK hid hsm hkl (by rw [e]; exact hl) A0 n0 c0 rfl (fun k hk => by rw [show kid id = [] from he] at hk; cases hk)
    rwa [e] at h
  | f + 1, id, w, hK, hid, he, hl =>
    below_step f Mi Mk (.slice A0 n0 c0) kid id w hK hid hsm hkl hl A0 n0 c0 rfl (fun k hk wx hx => belowT_any Mi Mk A0 n0 c0 kid hsm hkl f k wx hx (hsm id k hk) (he k hk) (Nat.le_trans (belS_kid kid f id k hk) hl))
end Go.Proofs.YtfijplllfdmcoaaGreatDoor

namespace Go.Proofs.YtfijplllfdmcoaaGreatDoor
open Go.RowKit Go.Sort

def idAt (l : List Itm) (i : Nat) : Str := (l[i]?.map idOf).getD []
theorem idAt_of {l : List Itm} {i : Nat} {x : Itm} (h : l[i]? = some x) : idAt l i = idOf x := by simp [idAt, h]
theorem ids_range (l : List Itm) : (List.range l.length).map (idAt l) = l.map idOf := by
  apply List.ext_getElem?
  intro j
  rcases Nat.lt_or_ge j l.length with h | h
  · rw [List.getElem?_map, List.getElem?_map, List.getElem?_range h, List.getElem?_eq_getElem h]
    simp [idAt, h]
  · rw [List.getElem?_eq_none (by simpa using h), List.getElem?_eq_none (by simpa using h)]
theorem filter_ids (l : List Itm) (p : Itm → Bool) (q : Nat → Bool) (h : ∀ i x, l[i]? = some x → q i = p x) : (l.filter p).map idOf = ((List.range l.length).filter q).map (idAt l) := by
  have key : ∀ m, m ≤ l.length → ((l.take m).filter p).map idOf = ((List.range m).filter q).map (idAt l) := by
    intro m
    induction m with
    | zero => intro _; simp
    | succ m ih =>
      intro hm
      have hx : l[m]? = some l[m] := List.getElem?_eq_getElem (by omega)
      rw [List.take_succ_eq_append_getElem (by omega), List.filter_append, List.map_append, ih (by omega), List.range_succ, List.filter_append, List.map_append]
      congr 1
      rw [List.filter_cons, List.filter_cons, h m _ hx]
      cases p l[m]
      · rfl
      · simp [idAt_of hx]
  have := key l.length (Nat.le_refl _)
  rwa [List.take_length] at this
theorem chain_take (l : List Itm) : ∀ (f i : Nat), chainI l f i = (chainI l (f + 1) i).take f
  | 0, i => by simp [chainI]
  | f + 1, i => by
    cases hp : parI l i with
    | none => rw [chainI_none hp, chainI_none hp]; rfl
    | some p => rw [chainI_some hp, chainI_some hp, List.take_succ_cons, ← chain_take l f p]
section
variable {l : List Itm} (hl : SetI l)
include hl
theorem findI_id {i : Nat} {x : Itm} (hx : l[i]? = some x) : findI l x.id = some i := by
  cases hf : findI l x.id with
  | none => exact absurd rfl (findI_none hf x (List.mem_of_getElem? hx))
  | some k =>
    obtain ⟨y, hy, he, _⟩ := findI_some hf
    rw [hl.find hy hx he]
theorem parI_iff {i j : Nat} {x y : Itm} (hx : l[i]? = some x) (hy : l[j]? = some y) : decide (parI l j = some i) = (decide (parL y = idOf x) && !(parL y).isEmpty) := by
  by_cases hp : y.par.data.toList = []
  · rw [parI_nil hy hp]
    simp [parL, hp]
  · rw [parI_of hy hp]
    have hne : (parL y).isEmpty = false := by simpa [parL] using hp
    rw [hne, Bool.not_false, Bool.and_true]
    by_cases he : y.par = x.id
    · rw [he, findI_id hl hx]
      simp [parL, idOf, he]
    · have h2 : ¬ parL y = idOf x := fun e => he (ByteArray.ext (Array.toList_inj.1 e))
      have h1 : ¬ findI l y.par = some i := fun e => by
        obtain ⟨z, hz, hze, _⟩ := findI_some e
        rw [hx] at hz
        cases hz
        exact he hze.symm
      simp [h1, h2]
theorem parI_none_iff {j : Nat} {y : Itm} (hy : l[j]? = some y) : decide (parI l j = none) = (parL y).isEmpty := by
  by_cases hp : y.par.data.toList = []
  · rw [parI_nil hy hp]
    simp [parL, hp]
  · rw [parI_of hy hp]
    have hne : (parL y).isEmpty = false := by simpa [parL] using hp
    rw [hne]
    rcases hl.ok.par y (List.mem_of_getElem? hy) with h | h
    · exact absurd h hp
    · obtain ⟨q, hq⟩ := Option.isSome_iff_exists.1 h
      rw [hq]
      simp
theorem kid_ids {i : Nat} {x : Itm} (hx : l[i]? = some x) : kidN l l.length (idOf x) = (kidsI l i).map (idAt l) := by
  unfold kidN kidsI
  rw [List.take_length]
  exact filter_ids l _ _ (fun j y hy => parI_iff hl hx hy)
theorem top_ids : topN l l.length = (topsI l).map (idAt l) := by
  unfold topN topsI
  rw [List.take_length]
  exact filter_ids l _ _ (fun j y hy => parI_none_iff hl hy)
theorem bel_ids : ∀ (f i : Nat), i < l.length → belS (kidN l l.length) f (idAt l i) = (famI l f i).map (idAt l)
  | 0, i, _ => rfl
  | f + 1, i, hi => by
    have hx : l[i]? = some l[i] := List.getElem?_eq_getElem hi
    rw [belS, famI, List.map_cons]
    congr 1
    rw [idAt_of hx, kid_ids hl hx, List.flatMap_map, List.map_flatMap]
    have : ∀ L : List Nat, (∀ j ∈ L, j < l.length) → L.flatMap (fun j => belS (kidN l l.length) f (idAt l j)) = L.flatMap fun j => (famI l f j).map (idAt l) := by
      intro L
      induction L with
      | nil => intro _; rfl
      | cons a L ih =>
        intro h
        rw [List.flatMap_cons, List.flatMap_cons, bel_ids f a (h a (by simp)), ih (fun j hj => h j (by simp [hj]))]
    exact this _ (fun j hj => by have := (List.mem_filter.1 hj).1; simpa using this)
theorem depth_kid {i k : Nat} (hk : parI l k = some i) : (chainI l (l.length + 1) k).length = (chainI l (l.length + 1) i).length + 1 := by
  rw [chainI_some hk, List.length_cons, chain_take l, List.length_take]
  have := chain_short hl.ok.tree.loop i
  omega
theorem ends_ids : ∀ (f i : Nat), i < l.length → 4 ≤ (chainI l (l.length + 1) i).length + f → EndsS (kidN l l.length) f (idAt l i)
  | 0, i, hi, h => by
    have hx : l[i]? = some l[i] := List.getElem?_eq_getElem hi
    show kidN l l.length (idAt l i) = []
    rw [idAt_of hx, kid_ids hl hx]
    cases hk : kidsI l i with
    | nil => rfl
    | cons j L =>
      exfalso
      have hj : j ∈ kidsI l i := by rw [hk]; simp
      obtain ⟨h1, h2⟩ := List.mem_filter.1 hj
      have hp : parI l j = some i := by simpa using h2
      have h3 := depth_kid hl hp
      have h4 := hl.ok.tree.deep j (by simpa using h1)
      omega
  | f + 1, i, hi, h => by
    have hx : l[i]? = some l[i] := List.getElem?_eq_getElem hi
    show ∀ k ∈ kidN l l.length (idAt l i), EndsS (kidN l l.length) f k
    rw [idAt_of hx, kid_ids hl hx]
    intro k hk
    obtain ⟨j, hj, rfl⟩ := List.mem_map.1 hk
    obtain ⟨h1, h2⟩ := List.mem_filter.1 hj
    have hp : parI l j = some i := by simpa using h2
    have h3 := depth_kid hl hp
    exact ends_ids f j (by simpa using h1) (by omega)
theorem tops_ends : ∀ id ∈ topN l l.length, EndsS (kidN l l.length) 4 id := by
  intro id hid
  rw [top_ids hl] at hid
  obtain ⟨j, hj, rfl⟩ := List.mem_map.1 hid
  exact ends_ids hl 4 j (by have := (List.mem_filter.1 hj).1; simpa using this) (by omega)
theorem all_perm : ((topN l l.length).flatMap (belS (kidN l l.length) 4)).Perm (l.map idOf) := by
  have h1 : (topN l l.length).flatMap (belS (kidN l l.length) 4) = ((topsI l).flatMap (famI l 4)).map (idAt l) := by
    rw [top_ids hl, List.flatMap_map, List.map_flatMap]
    have : ∀ L : List Nat, (∀ j ∈ L, j < l.length) → L.flatMap (fun j => belS (kidN l l.length) 4 (idAt l j)) = L.flatMap fun j => (famI l 4 j).map (idAt l) := by
      intro L
      induction L with
      | nil => intro _; rfl
      | cons a L ih =>
        intro h
        rw [List.flatMap_cons, List.flatMap_cons, bel_ids hl 4 a (h a (by simp)), ih (fun j hj => h j (by simp [hj]))]
    exact this _ (fun j hj => by have := (List.mem_filter.1 hj).1; simpa using this)
  rw [h1, ← ids_range l]
  exact (fam_perm hl.ok.tree (Nat.le_refl 4)).map _
theorem kid_mem : ∀ x k, k ∈ kidN l l.length x → k.length ≤ 1000 := by
  intro x k hk
  unfold kidN at hk
  obtain ⟨y, hy, rfl⟩ := List.mem_map.1 hk
  have := (List.mem_filter.1 hy).1
  rw [List.take_length] at this
  have h := keyL_le (hl.ok.each y this).id
  have e : y.id.data.toList.length = y.id.size := by simp
  show y.id.data.toList.length ≤ 1000
  omega
theorem top_mem : ∀ k, k ∈ topN l l.length → k.length ≤ 1000 := by
  intro k hk
  unfold topN at hk
  obtain ⟨y, hy, rfl⟩ := List.mem_map.1 hk
  have := (List.mem_filter.1 hy).1
  rw [List.take_length] at this
  have h := keyL_le (hl.ok.each y this).id
  have e : y.id.data.toList.length = y.id.size := by simp
  show y.id.data.toList.length ≤ 1000
  omega
theorem bel_len (id : Str) (hid : id ∈ topN l l.length) : (belS (kidN l l.length) 4 id).length ≤ l.length := by
  have h := (all_perm hl).length_eq
  have key : ∀ L : List Str, id ∈ L → (belS (kidN l l.length) 4 id).length ≤ (L.flatMap (belS (kidN l l.length) 4)).length := by
    intro L
    induction L with
    | nil => intro hm; cases hm
    | cons a L ih =>
      intro hm
      rw [List.flatMap_cons, List.length_append]
      rcases List.mem_cons.1 hm with rfl | hm
      · omega
      · have := ih hm; omega
  have := key _ hid
  rw [h] at this
  simpa using this
end
theorem rising_le {L : List Str} (h : Rising L) : L.Pairwise fun a b => decide (a ≤ b) = true := by
  refine h.imp (fun {a b} hab => ?_)
  rw [Bool.or_eq_false_iff, bytesLess_eq, decide_eq_false_iff_not] at hab
  exact decide_eq_true (List.not_lt.1 hab.1)
theorem sort_rising {L M : List Str} (h : M.Perm L) (hr : Rising L) : (M.mergeSort fun x y => decide (x ≤ y)) = L := by
  refine List.Perm.eq_of_pairwise (le := fun a b => decide (a ≤ b) = true) (fun (a b : Str) _ _ h1 h2 => List.le_antisymm (of_decide_eq_true h1) (of_decide_eq_true h2)) ?_ (rising_le hr) ((List.mergeSort_perm _ _).trans h)
  refine List.pairwise_mergeSort (le := fun (x y : Str) => decide (x ≤ y)) (fun a b c h1 h2 => decide_eq_true (List.le_trans (of_decide_eq_true h1) (of_decide_eq_true h2))) (fun a b => ?_) _
  rcases List.le_total a b with h | h
  · rw [decide_eq_true h]; rfl
  · rw [decide_eq_true h, Bool.or_true]
end Go.Proofs.YtfijplllfdmcoaaGreatDoor

namespace Go.Proofs.YtfijplllfdmcoaaGreatDoor
open Go.RowKit Go.Sort

def sortH (l : List (List UInt8)) : List (List UInt8) := l.mergeSort fun x y => decide (x ≤ y)
theorem sortH_length (l : List (List UInt8)) : (sortH l).length = l.length := by simp [sortH]
theorem sortH_nil : sortH [] = [] := by simp [sortH]
theorem strE_cellsH (l : List (List UInt8)) : StrE.cells l = l.map encStr := by
  rw [strE_cells, List.map_map]; rfl
def SortHPost (w : World) (base : Nat) (v : Value) (l : List (List UInt8)) (e : Ending) (w' : World) : Prop := e = .returned (.tuple #[]) ∧ OwnStrs w' base v l ∧ w.grownBy w' v.ownBlock
theorem sortH_any (base : Nat) (v : Value) (l : List (List UInt8)) (w : World) (h : OwnStrs w base v l) (hl : l.length ≤ 100000) :
    Calls Tryz.prog 12 #[v] w (SortHPost w base v (sortH l)) := by
  rcases h.2 with ⟨rfl, hn⟩ | ⟨g, cap, cur, rfl, hbase, hb, h1, h2, h3, h4⟩
  · have : l = [] := List.eq_nil_of_length_eq_zero hn
    subst this
    refine (Tryz.slices_Sort_string_none none 0 w).mono ?_
    rintro e w' ⟨rfl, rfl⟩
    exact ⟨rfl, by rw [show sortH [] = [] by simp [sortH]]; exact Owns.nil _ _, below_grown (Below.refl _ _) none⟩
  · have hH : Holds encStr w g 0 l.toArray := holds_of_block hb (by rw [show l.length * StrE.size = l.length from Nat.mul_one _, strE_cellsH] at h4; exact h4)
    refine (Tryz.slices_Sort_string g 0 cap l w hH (Array.getElem?_eq_some_iff.1 hb).1 (by omega)).mono ?_
    rintro e w' ⟨rfl, nn, os, rfl⟩
    refine ⟨rfl, ?_, ?_⟩
    · unfold OwnStrs Owns
      rw [strE_cellsH, sortH_length]
      exact ownsRow_sorted (ss := l) (ts := sortH l) (sortH_length l) hbase hb h1 h2 h3
    · exact grownBy_sorted _
end Go.Proofs.YtfijplllfdmcoaaGreatDoor

namespace Go.Proofs.YtfijplllfdmcoaaGreatDoor
open Go.RowKit

/-- The top above an id. -/
def rootL (l : List Itm) (id : Str) : Str := (rootS l 4 (bag id)).data.toList
theorem bag_nil {s : Str} (h : bag s = ⟨#[]⟩) : s = [] := by
  have := congrArg (fun b : ByteArray => b.data.toList) h
  simpa [bag] using this
theorem endUp_more (l : List Itm) : ∀ (m : Nat) (id : ByteArray), EndUp l m id → EndUp l (m + 1) id
  | 0, _, h => Or.inl h
  | m + 1, _, h => h.elim Or.inl fun h => Or.inr (endUp_more l m _ h)
theorem endUp_le (l : List Itm) (id : ByteArray) {d : Nat} (h : EndUp l d id) : ∀ k, EndUp l (d + k) id
  | 0 => h
  | k + 1 => endUp_more l _ _ (endUp_le l id h k)
section
variable {l : List Itm} (hl : SetI l)
include hl
theorem parS_of {x : Itm} (hx : x ∈ l) : parS l x.id = x.par := by
  obtain ⟨i, hi⟩ := List.getElem?_of_mem hx
  unfold parS
  rw [findI_id hl hi]
  simp only [hi]
theorem kid_par {id k : Str} (hk : k ∈ kidN l l.length id) : parS l (bag k) = bag id ∧ id ≠ [] := by
  unfold kidN at hk
  obtain ⟨y, hy, rfl⟩ := List.mem_map.1 hk
  obtain ⟨h1, h2⟩ := List.mem_filter.1 hy
  rw [List.take_length] at h1
  rw [Bool.and_eq_true] at h2
  have h3 : parL y = id := of_decide_eq_true h2.1
  subst h3
  refine ⟨?_, fun e => by rw [e] at h2; simp at h2⟩
  show parS l (bag y.id.data.toList) = bag y.par.data.toList
  rw [bag_of, bag_of]
  exact parS_of hl h1
theorem bel_up : ∀ (f : Nat) (id k : Str), k ∈ belS (kidN l l.length) f id → ∃ d, d ≤ f ∧ (∀ m, rootS l (d + m) (bag k) = rootS l m (bag id)) ∧ ∀ m, EndUp l m (bag id) → EndUp l (d + m) (bag k)
  | 0, id, k, h => by
    rw [belS, List.mem_singleton] at h
    subst h
    exact ⟨0, Nat.le_refl _, fun m => by rw [Nat.zero_add], fun m h => by rwa [Nat.zero_add]⟩
  | f + 1, id, k, h => by
    rw [belS, List.mem_cons] at h
    rcases h with rfl | h
    · exact ⟨0, Nat.zero_le _, fun m => by rw [Nat.zero_add], fun m h => by rwa [Nat.zero_add]⟩
    · obtain ⟨c, hc, hk⟩ := List.mem_flatMap.1 h
      obtain ⟨d, hd, h1, h2⟩ := bel_up f c k hk
      obtain ⟨hp, hne⟩ := kid_par hl hc
      have hne2 : ¬ parS l (bag c) = ⟨#[]⟩ := fun e => hne (bag_nil (by rw [← hp]; exact e))
      refine ⟨d + 1, by omega, fun m => ?_, fun m hm => ?_⟩
      · rw [Nat.add_assoc, h1 (1 + m), Nat.add_comm 1 m, rootS, if_neg hne2, hp]
      · rw [Nat.add_assoc, Nat.add_comm 1 m]
        exact h2 (m + 1) (Or.inr (by rw [hp]; exact hm))
theorem top_par {t : Str} (ht : t ∈ topN l l.length) : parS l (bag t) = ⟨#[]⟩ := by
  unfold topN at ht
  obtain ⟨y, hy, rfl⟩ := List.mem_map.1 ht
  obtain ⟨h1, h2⟩ := List.mem_filter.1 hy
  rw [List.take_length] at h1
  show parS l (bag y.id.data.toList) = _
  rw [bag_of, parS_of hl h1]
  have h3 : y.par.data.toList = [] := List.isEmpty_iff.1 h2
  exact ByteArray.ext (Array.toList_inj.1 (by simpa using h3))
theorem root_top {t : Str} (ht : t ∈ topN l l.length) : ∀ m, rootS l m (bag t) = bag t
  | 0 => rfl
  | m + 1 => by rw [rootS, if_pos (top_par hl ht)]
theorem root_fam {t k : Str} (ht : t ∈ topN l l.length) (hk : k ∈ belS (kidN l l.length) 4 t) : rootL l k = t := by
  obtain ⟨d, hd, h1, -⟩ := bel_up hl 4 t k hk
  have h2 := h1 (4 - d)
  rw [show d + (4 - d) = 4 by omega, root_top hl ht] at h2
  unfold rootL
  rw [h2]
  simp [bag]
theorem mem_fam {x : Itm} (hx : x ∈ l) : ∃ t, t ∈ topN l l.length ∧ idOf x ∈ belS (kidN l l.length) 4 t := by
  have h : idOf x ∈ (topN l l.length).flatMap (belS (kidN l l.length) 4) := (all_perm hl).mem_iff.2 (List.mem_map.2 ⟨x, hx, rfl⟩)
  obtain ⟨t, ht, hk⟩ := List.mem_flatMap.1 h
  exact ⟨t, ht, hk⟩
theorem endUp_item {x : Itm} (hx : x ∈ l) : EndUp l 4 x.id := by
  obtain ⟨t, ht, hk⟩ := mem_fam hl hx
  obtain ⟨d, hd, -, h2⟩ := bel_up hl 4 t _ hk
  have h3 : EndUp l (d + 0) (bag (idOf x)) := h2 0 (top_par hl ht)
  have h4 := endUp_le l _ h3 (4 - d)
  rw [show d + 0 + (4 - d) = 4 by omega] at h4
  rw [← bag_of x.id]
  exact h4
theorem root_mem {x : Itm} (hx : x ∈ l) : rootL l (idOf x) ∈ topN l l.length := by
  obtain ⟨t, ht, hk⟩ := mem_fam hl hx
  rw [root_fam hl ht hk]
  exact ht
theorem par_small (z : ByteArray) : (parS l z).size ≤ 1000000 := by
  unfold parS
  cases h : findI l z with
  | none => exact Nat.zero_le _
  | some k =>
    obtain ⟨x, hx, -, -⟩ := findI_some h
    simp only [hx]
    have hmem := List.mem_of_getElem? hx
    by_cases hp : x.par.data.toList = []
    · have : x.par.size = 0 := by
        have h1 := congrArg List.length hp
        simpa using h1
      omega
    · have := (ItemOk.small (hl.ok.each x hmem)).2.2.2.1
      omega
theorem fam_filter (p : Str → Bool) : ∀ L : List Str, (∀ t ∈ L, t ∈ topN l l.length) → (L.flatMap (belS (kidN l l.length) 4)).filter (fun k => p (rootL l k)) = (L.filter p).flatMap (belS (kidN l l.length) 4)
  | [], _ => rfl
  | t :: L, h => by
    have ih := fam_filter p L (fun s hs => h s (List.mem_cons_of_mem _ hs))
    have ht := h t (List.mem_cons_self ..)
    rw [List.flatMap_cons, List.filter_append, ih]
    cases hp : p t with
    | true =>
      rw [List.filter_cons_of_pos hp, List.flatMap_cons]
      congr 1
      rw [List.filter_eq_self]
      intro k hk
      rw [root_fam hl ht hk, hp]
    | false =>
      rw [List.filter_cons_of_neg (by simp [hp])]
      have : (belS (kidN l l.length) 4 t).filter (fun k => p (rootL l k)) = [] := by
        rw [List.filter_eq_nil_iff]
        intro k hk
        rw [root_fam hl ht hk, hp]
        simp
      rw [this, List.nil_append]
/-- The families of some tops have the items with one of these tops. -/
theorem part_perm (p : Str → Bool) : (((topN l l.length).filter p).flatMap (belS (kidN l l.length) 4)).Perm ((l.filter fun x => p (rootL l (idOf x))).map idOf) := by
  have h := (all_perm hl).filter (fun k => p (rootL l k))
  rw [fam_filter hl p _ (fun _ ht => ht), List.filter_map] at h
  exact h
end
/-- What is kept at a set of tops. -/
def keptI (l : List Itm) (K : List Str) : List Itm := l.filter fun x => K.contains (rootL l (idOf x))
theorem whole_kept {l : List Itm} (hl : SetI l) (hr : Rising (l.map idOf)) (K : List Str) :
    sortH (((topN l l.length).filter fun t => ((((keptI l K).map idOf).map (rootL l)).contains t)).flatMap (belS (kidN l l.length) 4)) = (keptI l K).map idOf := by
  have hp := part_perm hl (fun t => (((keptI l K).map idOf).map (rootL l)).contains t)
  have he : (l.filter fun x => (((keptI l K).map idOf).map (rootL l)).contains (rootL l (idOf x))) = keptI l K := by
    refine List.filter_congr fun x hx => ?_
    rw [Bool.eq_iff_iff, List.contains_iff_mem, List.contains_iff_mem]
    constructor
    · intro h
      obtain ⟨s, hs, he⟩ := List.mem_map.1 h
      obtain ⟨y, hy, rfl⟩ := List.mem_map.1 hs
      have h2 := (List.mem_filter.1 hy).2
      rw [List.contains_iff_mem] at h2
      rw [← he]
      exact h2
    · intro h
      refine List.mem_map.2 ⟨idOf x, List.mem_map.2 ⟨x, List.mem_filter.2 ⟨hx, ?_⟩, rfl⟩, rfl⟩
      rw [List.contains_iff_mem]
      exact h
  rw [he] at hp
  exact sort_rising hp (List.Pairwise.sublist ((List.filter_sublist).map idOf) hr)
end Go.Proofs.YtfijplllfdmcoaaGreatDoor

namespace Go.Proofs.YtfijplllfdmcoaaGreatDoor
open Go.RowKit Go.Maps
attribute [local go_sem ↓] Go.wp_at_zero Go.wp_at_succ

theorem SetAt.kept {w w' : World} {M : Nat} {L : List Str} {row : Option Nat} (h : SetAt w M L) (hg : w.grownBy w' row) (hr : row ≠ some M) : SetAt w' M L := World.ownsMap.kept h hg hr.symm
theorem SetAt.below {w w' : World} {M : Nat} {L : List Str} (h : SetAt w M L) (hb : Below w.heap.size w w') : SetAt w' M L := h.kept (below_grown hb none) (by simp)
theorem SetAt.put {w : World} {M : Nat} {L : List Str} {x : Str} (h : w.ownsMap Tryz.prog 9 (plainElem Tryz.prog 4) M (L.length + 1) ((setD L).put (.string x) (.lit (.bool true)))) : SetAt w M (L ++ [x]) := by
  unfold SetAt
  rw [setD_snoc, List.length_append]
  exact h
theorem SetAt.start (w : World) : SetAt (w.alloc (.map #[] 0)) w.heap.size [] := World.ownsMap_made w _ _ _
theorem SetI.findMem {l : List Itm} (hl : SetI l) {s : Str} (hs : s ∈ l.map idOf) : ∃ q z, findI l (bag s) = some q ∧ l[q]? = some z ∧ z ∈ l ∧ z.id = bag s := by
  obtain ⟨z, hz, rfl⟩ := List.mem_map.1 hs
  obtain ⟨q, hq⟩ := List.getElem?_of_mem hz
  have e : bag (idOf z) = z.id := bag_of z.id
  exact ⟨q, z, by rw [e]; exact findI_id hl hq, hq, hz, e.symm⟩
theorem root_size {l : List Itm} (hl : SetI l) {s : Str} (hs : s ∈ l.map idOf) : (rootS l 4 (bag s)).size ≤ 1000000 := by
  obtain ⟨z, hz, rfl⟩ := List.mem_map.1 hs
  have h := top_mem hl _ (root_mem hl hz)
  have e : (rootL l (idOf z)).length = (rootS l 4 (bag (idOf z))).size := by unfold rootL; simp
  omega
def wholeL (l : List Itm) (ids : List Str) : List Str := ((topN l l.length).filter fun t => (ids.map (rootL l)).contains t).flatMap (belS (kidN l l.length) 4)
def WholePost (w : World) (L : List Str) (e : Ending) (w' : World) : Prop := ∃ v, e = .returned (.tuple #[v, .int .i64 0]) ∧ OwnStrs w' w.heap.size v L ∧ Below w.heap.size w w'
theorem sub_len {α : Type} (f : α → List Str) (p : α → Bool) : ∀ L : List α, ((L.filter p).flatMap f).length ≤ (L.flatMap f).length
  | [] => Nat.le_refl _
  | a :: L => by
    have ih := sub_len f p L
    rw [List.flatMap_cons, List.length_append]
    cases hp : p a with
    | true => rw [List.filter_cons_of_pos hp, List.flatMap_cons, List.length_append]; omega
    | false => rw [List.filter_cons_of_neg (by simp [hp])]; omega
set_option maxHeartbeats 6400000 in
set_option maxRecDepth 100000 in
theorem whole_any (A : Option Addr) (n c : Nat) (l : List Itm) (B : Option Addr) (nb cb : Nat) (ids : List Str) (w : World) (h : ItemsAt w A n c l) (hi : StrsAt w B nb cb ids) (hm : ∀ s ∈ ids, s ∈ l.map idOf) (hl : SetR l) (hT : Tabs w) (hM : MaxAt w) (hnb : nb ≤ 2000) :
    Calls Tryz.prog 11 #[.slice A n c, .slice B nb cb] w (WholePost w (wholeL l ids)) := by
  have HC := Lib.hid (check_ok A n c l w h hl hT hM)
  have HNT := Lib.hid (fun wx (hb : Below w.heap.size w wx) => newTree_any A n c l wx (h.keep hb) hl.set)
  have HI := Lib.hid hi
  have HL := Lib.hid hl
  have HM := Lib.hid hm
  have hfew := hl.set.few
  have hmm := @run_makeMap Tryz.prog
  clear h hl hT hM hi hm
  go_enter Tryz.func11, Tryz.ntmps11
  go_wp2_with fail
  refine HC.out.mono ?_
  rintro e w1 ⟨rfl, hb1⟩
  have HB1 := Lib.hid hb1
  have HNX := Lib.hid (HNT.out w1 hb1)
  clear hb1 HC HNT
  go_wp2_with fail
  refine HNX.out.mono ?_
  rintro e w2 ⟨Mi, Mk, m, tv, D, hd, rfl, hmi, htr, hb2⟩
  obtain ⟨A5, c5, hv9, -, -, -⟩ := htr.tops.at_ strE_ok
  subst hv9
  have hz1 := HB1.out.size
  have hb3 : Below w2.heap.size w2 (w2.alloc (.cells #[.map (some Mi), .map (some Mk), .slice A5 (topN l l.length).length c5] 82)) := (Below.refl _ _).alloc (Nat.le_refl _) _
  have HT3 : Hid (TB (w2.alloc (.cells #[.map (some Mi), .map (some Mk), .slice A5 (topN l l.length).length c5] 82)) w2.heap.size (.map (some Mi)) (.map (some Mk)) (.slice A5 (topN l l.length).length c5)) := heap_alloc_new w2 _
  have HKD3 := Lib.hid (htr.keep hb3).kids
  have HTO3 := Lib.hid ((htr.keep hb3).tops)
  have HMI3 := Lib.hid (hmi.below hb3)
  have HB3 := Lib.hid ((HB1.out.trans (hb2.mono hz1)).trans (hb3.mono (Nat.le_trans hz1 hb2.size)))
  have hz2 := hb2.size
  clear hmi htr hb2 HNX
  go_upto_region 5 with (fail)
  obtain ⟨T, hT⟩ : ∃ T, T = w2.heap.size := ⟨_, rfl⟩
  rw [← hT] at HT3 ⊢
  generalize w2.alloc (.cells #[.map (some Mi), .map (some Mk), .slice A5 (topN l l.length).length c5] 82) = w3 at *
  clear hT hb3 hz2 hz1 HB1
  have hbm : Below w3.heap.size w3 (w3.alloc (.map #[] 0)) := (Below.refl _ _).alloc (Nat.le_refl _) _
  have HS4 : Hid (SetAt (w3.alloc (.map #[] 0)) w3.heap.size []) := SetAt.start w3
  have HW4 := Lib.hid hbm
  have HI3 := Lib.hid (ElemsAt.keep HI.out HB3.out)
  have htn := topN_len l l.length
  obtain ⟨nt, hnt⟩ : ∃ nt, nt = (topN l l.length).length := ⟨_, rfl⟩
  rw [← hnt] at HT3 HTO3 htn
  have HNT : Hid (nt = (topN l l.length).length) := hnt
  clear hnt hbm HI
  have HFT : Hid (∀ wx, Below w3.heap.size w3 wx → TB wx T (.map (some Mi)) (.map (some Mk)) (.slice A5 nt c5) ∧ IMapAt wx Mi l ∧ KidsK wx Mk (kidN l l.length) ∧ StrsAt wx B nb cb ids ∧ OwnStrs wx w1.heap.size (.slice A5 nt c5) (topN l l.length)) := fun wx hb => ⟨HT3.out.keep hb, HMI3.out.below hb, HKD3.out.keep hb, ElemsAt.keep HI3.out hb, HTO3.out.below_ hb⟩
  have HN : Hid (nb = ids.length) := HI3.out.1
  go_wp2_with fail
  generalize w3.alloc (.map #[] 0) = w4 at *
  obtain ⟨M, hM⟩ : ∃ M, M = w3.heap.size := ⟨_, rfl⟩
  rw [← hM] at HS4 ⊢
  have HMB : Hid (w3.heap.size ≤ M) := Nat.le_of_eq hM.symm
  clear hM
  have HMM : Hid (∀ s, s ∈ ids → s ∈ l.map idOf) := HM.out
  go_loopg [26] nb (fun gk v wr => ∃ k : Nat, Hid (k + gk = nb) ∧ v = .int .i64 (k : Int) ∧ Hid (SetAt wr M ((ids.take k).map (rootL l))) ∧ Hid (Below w3.heap.size w3 wr))
  case atStart => exact ⟨0, show 0 + nb = nb by omega, rfl, HS4.out, HW4.out⟩
  case round =>
    obtain ⟨k, HK, rfl, HS, HW⟩ := hrel
    clear HS4 HW4 HT3 HKD3 HTO3 HMI3 HI3
    have hkn : k ≤ nb := by have := HK.out; omega
    by_cases hlt : k < nb
    · have HGK := Lib.hid (show k + 1 + (gk - 1) = nb ∧ 0 < gk by have := HK.out; omega)
      obtain ⟨hT, hMi, hKd, hSt, hTo⟩ := HFT.out wr HW.out
      obtain ⟨g, off, rfl, hg, hc⟩ := hSt.str (by omega)
      have hck := hc k hlt
      have hkl : k < ids.length := by have := HN.out; omega
      have hmem : ids.getD k [] ∈ ids := by rw [List.getD_eq_getElem?_getD, List.getElem?_eq_getElem hkl]; exact List.getElem_mem hkl
      have HTK : Hid ((ids.take (k + 1)).map (rootL l) = (ids.take k).map (rootL l) ++ [rootL l (ids.getD k [])]) := by show _ = _; rw [List.take_succ_eq_append_getElem hkl, List.map_append]; simp [hkl]
      have hin := HMM.out _ hmem
      obtain ⟨q, z, hf, hz, hzl, hze⟩ := HL.out.set.findMem hin
      have hrs := root_size HL.out.set hin
      have hzs : (bag (ids.getD k [])).size ≤ 1000000 := by rw [← hze]; exact (ItemOk.small (HL.out.set.ok.each z hzl)).1
      have hend : EndUp l 4 (bag (ids.getD k [])) := by rw [← hze]; exact endUp_item HL.out.set hzl
      have HTOP := Lib.hid (fun wx (hb : Below wr.heap.size wr wx) => top_any Mi Mk A5 nt c5 l 4 (bag (ids.getD k [])) wx (hMi.below hb) hzs (par_small HL.out.set) hend)
      have hlk := hMi.hit hzs hf hz
      have HRL : Hid (rootL l (ids.getD k []) = (rootS l 4 (bag (ids.getD k []))).data.toList) := rfl
      have hLl : ((ids.take k).map (rootL l)).length ≤ 2000 := by rw [List.length_map, List.length_take]; omega
      generalize ids.getD k [] = s at *
      generalize hr : rootS l 4 (bag s) = r at *
      generalize (ids.take k).map (rootL l) = L at *
      clear hr hend hf hz hzl hze hin hmem hkl hc hg hSt hKd hTo
      have hb5 : Below wr.heap.size wr (wr.alloc (.cells #[.string z.id, .string z.cu, .int .i64 z.kind, .string z.name, .int .i64 z.at_, .string z.par, .string z.text] 60)) := (Below.refl _ _).alloc (Nat.le_refl _) _
      have HB5 := Lib.hid hb5
      have HT5 := Lib.hid (hT.keep hb5)
      have HS5 := Lib.hid (HS.out.below hb5)
      obtain ⟨t0, t1, t2, f0, f1, f2⟩ := hT.c
      unfold bag at hlk HTOP
      clear hb5 hT hMi
      go_upto_region 10 with (fail)
      generalize wr.alloc (.cells #[.string z.id, .string z.cu, .int .i64 z.kind, .string z.name, .int .i64 z.at_, .string z.par, .string z.text] 60) = w5 at *
      clear hck hlk t0 t1 t2 f0 f1 f2 HS
      obtain ⟨t0, t1, t2, f0, f1, f2⟩ := HT5.out.c
      go_wp2_with fail
      refine (HTOP.out w5 HB5.out).mono ?_
      rintro e w6 ⟨rfl, hb6⟩
      have HS6 : Hid (w6.ownsMap Tryz.prog 9 (plainElem Tryz.prog 4) M L.length (setD L)) := HS5.out.below hb6
      have HW6 : Hid (Below w3.heap.size w3 w6) := (HW.out.trans (HB5.out.mono HW.out.size)).trans (hb6.mono (Nat.le_trans HW.out.size HB5.out.size))
      clear hb6 HTOP HS5 HT5 HB5 HW t0 t1 t2 f0 f1 f2
      go_wp2_with (at_mapUpdate; refine wpList_mapUpdate_own _ rfl _ _ _ 84 rfl 9 4 keyS Tryz.underlying84 _ M L.length _ rfl HS6.out (by simp only [maxLen]; omega) _ _ (.string r.data.toList) rfl rfl (keyS_mk r hrs) (.lit (.bool true)) [] (plainElem_bool Tryz.underlying4 true) ?_; intro w7 hown7 hgrow7)
      have HS7 : Hid (SetAt w7 M ((ids.take (k + 1)).map (rootL l))) := by show SetAt _ _ _; rw [HTK.out, HRL.out]; exact SetAt.put hown7
      have HW7 : Hid (Below w3.heap.size w3 w7) := HW6.out.grown hgrow7 HW6.out.size (fun i e => by cases e; exact HMB.out)
      clear hown7 hgrow7 HS6 HW6
      go_wp2_with fail
      go_roundg (gk - 1)
      case measure => exact Nat.sub_lt HGK.out.2 Nat.one_pos
      case rel => exact ⟨k + 1, HGK.out.1, by go_num, HS7.out, HW7.out⟩
    · have hnk : ¬ (k : Int) < (nb : Int) := by omega
      have hta : ids.take k = ids := List.take_of_length_le (by have := HN.out; omega)
      rw [hta] at HS
      have hwz := HW.out.size
      obtain ⟨hT, -, hKd, -, hTo⟩ := HFT.out wr HW.out
      obtain ⟨wd, hwd⟩ : ∃ wd : World, wd = wr := ⟨_, rfl⟩
      rw [← hwd] at HS HW hT hKd hTo hwz
      rw [← hwd]
      clear hwd hta hlt HK hkn
      have HTD := Lib.hid hT
      have HKD := Lib.hid hKd
      have HTT := Lib.hid hTo
      have HBD : Hid (Below w.heap.size w wd) := HB3.out.trans (HW.out.mono HB3.out.size)
      have HTOP := Lib.hid (tops_ends HL.out.set)
      have HTM := Lib.hid (top_mem HL.out.set)
      have HKM := Lib.hid (kid_mem HL.out.set)
      have HBN : Hid (∀ x, x ∈ topN l l.length → (belS (kidN l l.length) 4 x).length ≤ 2000) := fun x hx => Nat.le_trans (bel_len HL.out.set x hx) hfew
      have HKL : Hid (∀ x, (kidN l l.length x).length ≤ 5000) := fun x => Nat.le_trans (kidN_len l l.length x) (by omega)
      have HALL : Hid (∀ p : Str → Bool, ∀ k, ((((topN l l.length).take k).filter p).flatMap (belS (kidN l l.length) 4)).length ≤ 2000) := fun p k => by
        have h1 := (all_perm HL.out.set).length_eq
        rw [List.length_map] at h1
        have h2 := sub_len (belS (kidN l l.length) 4) p ((topN l l.length).take k)
        have h3 : ((topN l l.length).flatMap (belS (kidN l l.length) 4)) = (((topN l l.length).take k).flatMap (belS (kidN l l.length) 4)) ++ (((topN l l.length).drop k).flatMap (belS (kidN l l.length) 4)) := by rw [← List.flatMap_append, List.take_append_drop]
        rw [h3, List.length_append] at h1
        show _ ≤ _
        omega
      have HPOST : Hid (∀ v wr, OwnStrs wr w.heap.size v ((((topN l l.length).filter fun t => (ids.map (rootL l)).contains t)).flatMap (belS (kidN l l.length) 4)) → Below w.heap.size w wr → WholePost w (wholeL l ids) (.returned (.tuple #[v, .int .i64 0])) wr) := fun v wr h1 h2 => ⟨v, rfl, h1, h2⟩
      have HBF : Hid (∀ (A : Option Addr) (n0 c0 : Nat) (x : Str), x ∈ topN l l.length → ∀ wx, KidsK wx Mk (kidN l l.length) → Calls Tryz.prog 51 #[.agg #[.map (some Mi), .map (some Mk), .slice A n0 c0], .string ⟨x.toArray⟩] wx (BelPost wx (belS (kidN l l.length) 4 x))) := fun A n0 c0 x hx wx hk => belowT_any Mi Mk A n0 c0 (kidN l l.length) HKM.out HKL.out 4 x wx hk (HTM.out _ hx) (HTOP.out _ hx) (Nat.le_trans (HBN.out _ hx) (by omega))
      clear HTOP HKM HKL HM HMM HL HFT hT hKd hTo HW HN
      generalize wholeL l ids = WL at *
      generalize belS (kidN l l.length) 4 = itms at *
      generalize topN l l.length = tl at *
      generalize kidN l l.length = kid at *
      generalize ids.map (rootL l) = IN at *
      obtain ⟨t0, t1, t2, f0, f1, f2⟩ := HTD.out.c
      go_wp2_with fail
      clear t0 t1 t2 f0 f1 f2
      go_loopg [13, 47] nt (fun gk v13 v wr => ∃ k : Nat, Hid (k + gk = nt) ∧ v = .int .i64 (k : Int) ∧ Hid (OwnStrs wr wd.heap.size v13 (((tl.take k).filter fun t => IN.contains t).flatMap itms)) ∧ Hid (Below wd.heap.size wd wr))
      case atStart => exact ⟨0, show 0 + nt = nt by omega, rfl, Owns.nil _ _, Below.refl _ _⟩
      case round =>
        obtain ⟨k, HK, rfl, HO, HW⟩ := hrel
        have hkn : k ≤ nt := by have := HK.out; omega
        by_cases hlt : k < nt
        · have HGK := Lib.hid (show k + 1 + (gk - 1) = nt ∧ 0 < gk by have := HK.out; omega)
          obtain ⟨A7, c7, hv7, -, hat7, -⟩ := (HTT.out.below_ HW.out).at_ strE_ok
          simp only [Value.slice.injEq] at hv7
          obtain ⟨rfl, hn7, rfl⟩ := hv7
          rw [← hn7] at hat7
          obtain ⟨g, off, rfl, hg, hc⟩ := hat7.str (by omega)
          have hck := hc k hlt
          have hkl : k < tl.length := by have := HNT.out; omega
          have hmem : tl.getD k [] ∈ tl := by rw [List.getD_eq_getElem?_getD, List.getElem?_eq_getElem hkl]; exact List.getElem_mem hkl
          have HTK : Hid (tl.take (k + 1) = tl.take k ++ [tl.getD k []]) := by show _ = _; rw [List.take_succ_eq_append_getElem hkl]; simp [hkl]
          have hbl := HBN.out _ hmem
          have hxs : (⟨(tl.getD k []).toArray⟩ : ByteArray).size ≤ 1000000 := by have := HTM.out _ hmem; simp only [ByteArray.size, List.size_toArray]; omega
          have hlk := (HS.out.below HW.out).look0 _ hxs
          rw [show (⟨(tl.getD k []).toArray⟩ : ByteArray).data.toList = tl.getD k [] by simp] at hlk
          have HBX := Lib.hid (HBF.out (some ⟨g, off, none⟩) nt c5 (tl.getD k []) hmem wr (HKD.out.keep HW.out))
          have hF1 := HALL.out (fun t => IN.contains t) k
          obtain ⟨t0, t1, t2, f0, f1, f2⟩ := (HTD.out.keep HW.out).c
          generalize tl.getD k [] = x at *
          generalize hF : ((tl.take k).filter fun t => IN.contains t).flatMap itms = F at *
          clear hc hat7 hg hkl hmem HK hn7 hxs
          cases hb : IN.contains x with
          | false =>
            have HOX : Hid (OwnStrs wr wd.heap.size u13 (((tl.take (k + 1)).filter fun t => IN.contains t).flatMap itms)) := by
              show OwnStrs _ _ _ _
              rw [HTK.out, List.filter_append, List.filter_cons_of_neg (by rw [hb]; decide), List.filter_nil, List.append_nil, hF]
              exact HO.out
            rw [hb] at hlk
            clear hF HO HTK hb
            go_wp2_with fail
            go_roundg (gk - 1)
            case measure => exact Nat.sub_lt HGK.out.2 Nat.one_pos
            case rel => exact ⟨k + 1, HGK.out.1, by go_num, HOX.out, HW.out⟩
          | true =>
            have HFX : Hid (((tl.take (k + 1)).filter fun t => IN.contains t).flatMap itms = F ++ itms x) := by
              show _ = _
              rw [HTK.out, List.filter_append, List.filter_cons_of_pos hb, List.filter_nil, List.flatMap_append, hF]
              simp
            rw [hb] at hlk
            clear hF HTK hb
            go_wp2_with fail
            refine HBX.out.mono ?_
            rintro e w4 ⟨v4, rfl, hown4, hb4⟩
            obtain ⟨A4, c4, hv4, -, hat4, -⟩ := hown4.at_ strE_ok
            subst hv4
            have HO4 := Lib.hid (HO.out.below_ hb4)
            have HAT4 := Lib.hid hat4
            have HW4 : Hid (Below wd.heap.size wd w4) := HW.out.trans (hb4.mono HW.out.size)
            have hz4 := HW4.out.size
            generalize itms x = Y at *
            clear hown4 hb4 hat4 HO HW HBX hck hlk t0 t1 t2 f0 f1 f2
            go_wp2_with (at_builtin; refine append_elems strE_ok rfl _ _ rfl wd.heap.size u13 F rfl HO4.out A4 Y.length c4 Y rfl HAT4.out (by omega) (by omega) ?_; intro v6 w6 hown6 hgrow6 hv6)
            have HO6 : Hid (OwnStrs w6 wd.heap.size v6 (((tl.take (k + 1)).filter fun t => IN.contains t).flatMap itms)) := by show OwnStrs _ _ _ _; rw [HFX.out]; exact hown6
            have HW6 : Hid (Below wd.heap.size wd w6) := HW4.out.grown hgrow6 HW4.out.size (fun i e => (HO4.out.lt i e).1)
            clear hown6 hgrow6 hv6
            go_wp2_with fail
            go_roundg (gk - 1)
            case measure => exact Nat.sub_lt HGK.out.2 Nat.one_pos
            case rel => exact ⟨k + 1, HGK.out.1, by go_num, HO6.out, HW6.out⟩
        · have hnk : ¬ (k : Int) < (nt : Int) := by omega
          have hta : tl.take k = tl := List.take_of_length_le (by have := HNT.out; omega)
          rw [hta] at HO
          have HFF := Lib.hid (HPOST.out _ wr (HO.out.base_ HBD.out.size) (HBD.out.trans (HW.out.mono HBD.out.size)))
          clear hta
          go_wp2_with fail
          go_ret2
          exact HFF.out
end Go.Proofs.YtfijplllfdmcoaaGreatDoor

namespace Go.Proofs.YtfijplllfdmcoaaGreatDoor
open Go.RowKit

def fn64Step (z : Int) (c : UInt8) : Int := IntKind.u64.wrap (bits .xor .u64 z (c.toNat : Int) * 1099511628211)
def fn64To (L : List UInt8) (k : Nat) : Int := (L.take k).foldl fn64Step 14695981039346656037
theorem fn64To_succ (L : List UInt8) (k : Nat) (h : k < L.length) : fn64To L (k + 1) = fn64Step (fn64To L k) (L.getD k 0) := by
  unfold fn64To
  rw [List.take_succ_eq_append_getElem h, List.foldl_append]
  simp [h]
theorem u64_wrap_range (z : Int) : 0 ≤ IntKind.u64.wrap z ∧ IntKind.u64.wrap z < 18446744073709551616 := by
  have e : IntKind.u64.wrap z = z % 18446744073709551616 := by rfl
  rw [e]
  exact ⟨Int.emod_nonneg _ (by omega), Int.emod_lt_of_pos _ (by omega)⟩
theorem fn64To_range (L : List UInt8) : ∀ k, 0 ≤ fn64To L k ∧ fn64To L k < 18446744073709551616
  | 0 => by simp [fn64To]
  | k + 1 => by
    rcases Nat.lt_or_ge k L.length with h | h
    · rw [fn64To_succ L k h]
      exact u64_wrap_range _
    · have := fn64To_range L k
      have e : fn64To L (k + 1) = fn64To L k := by unfold fn64To; rw [List.take_of_length_le (by omega), List.take_of_length_le (by omega)]
      rw [e]; exact this
theorem u64_byte (c : UInt8) : IntKind.u64.wrap (c.toNat : Int) = (c.toNat : Int) := by
  have e : IntKind.u64.wrap (c.toNat : Int) = (c.toNat : Int) % 18446744073709551616 := by rfl
  have := c.toNat_lt
  rw [e]
  exact Int.emod_eq_of_lt (by omega) (by omega)
theorem hexF_len : ∀ (f n : Nat) (T : List Int), (hexF f n T).length ≤ T.length + f
  | 0, n, T => by simp [hexF]
  | f + 1, n, T => by
    unfold hexF
    split
    · simp
    · have := hexF_len f (n / 16) (dig (n % 16) :: T)
      simp only [List.length_cons] at this
      omega
/-- The digits of a hash in base 16; what Digest returns. -/
def hexS (L : List UInt8) : ByteArray := strOfNums (hexF 16 (fn64To L L.length).toNat [])
def dgB (L : List UInt8) : ByteArray := ⟨(Lib.repeatL [48] (16 - (hexS L).size)).toArray⟩ ++ hexS L
theorem hexS_size (L : List UInt8) : (hexS L).size ≤ 16 := by
  unfold hexS
  rw [strOfNums_size]
  have := hexF_len 16 (fn64To L L.length).toNat []
  simpa using this
theorem dgB_size (L : List UInt8) : (dgB L).size = 16 := by
  have h := hexS_size L
  unfold dgB
  rw [ByteArray.size_append]
  have : (⟨(Lib.repeatL [48] (16 - (hexS L).size)).toArray⟩ : ByteArray).size = 16 - (hexS L).size := by
    show (Lib.repeatL [48] (16 - (hexS L).size)).toArray.size = _
    simp [Lib.repeatL_length]
  omega
set_option maxHeartbeats 1600000 in
set_option maxRecDepth 100000 in
theorem digest_any (s : ByteArray) (w : World) (hS : StandAt w) (hs : s.size ≤ 1000000) :
    Calls Tryz.prog 50 #[.string s] w fun e w' => e = .returned (.string (dgB s.data.toList)) ∧ Below w.heap.size w w' := by
  have hlen : s.data.toList.length = s.size := by simp
  have HLEN := Lib.hid hlen; clear hlen
  have HS := Lib.hid hS; clear hS
  go_enter Tryz.func50, Tryz.ntmps50
  go_wp2_with fail
  go_loopg [3, 8] s.size (fun gk v5 i wr => ∃ (k : Nat), Hid (k + gk = s.size) ∧ i = .int .i64 k ∧ v5 = .int .u64 (fn64To s.data.toList k) ∧ w = wr)
  case atStart => exact ⟨0, show 0 + s.size = _ by omega, rfl, rfl, rfl⟩
  case round =>
    obtain ⟨k, HK, rfl, rfl, rfl⟩ := hrel
    have hkn : k ≤ s.size := by have := HK.out; omega
    have hz := fn64To_range s.data.toList k
    by_cases hlt : k < s.size
    · have hkl : k < s.data.toList.length := by rw [HLEN.out]; exact hlt
      have HST := Lib.hid (fn64To_succ s.data.toList k hkl)
      have hgd : s.data.toList.getD k 0 = s[k]'hlt := by
        rw [List.getD_eq_getElem?_getD, List.getElem?_eq_getElem hkl]; rfl
      rw [hgd] at HST
      generalize fn64To s.data.toList k = z at *
      clear hkl hgd
      go_wp2_with fail
      go_roundg (gk - 1)
      case measure => have := HK.out; omega
      case rel => exact ⟨k + 1, show k + 1 + (gk - 1) = _ by have := HK.out; omega, by go_num, by rw [HST.out]; unfold fn64Step; rw [u64_byte], rfl⟩
    · have hke : fn64To s.data.toList k = fn64To s.data.toList s.data.toList.length := by
        unfold fn64To
        rw [List.take_of_length_le (by rw [HLEN.out]; omega), List.take_of_length_le (Nat.le_refl _)]
      rw [hke] at hz ⊢
      have HXS : Hid (strOfNums (hexF 16 (fn64To s.data.toList s.data.toList.length).toNat []) = hexS s.data.toList) := rfl
      have HDG : Hid (dgB s.data.toList = ⟨(Lib.repeatL [48] (16 - (hexS s.data.toList).size)).toArray⟩ ++ hexS s.data.toList) := rfl
      have hxz := hexS_size s.data.toList
      generalize fn64To s.data.toList s.data.toList.length = F at *
      obtain ⟨f, rfl⟩ : ∃ f : Nat, F = (f : Int) := ⟨F.toNat, by omega⟩
      rw [Int.toNat_natCast] at HXS
      have HFU := Lib.hid (formatUint_any f (by omega) w HS.out)
      rw [HXS.out] at HFU
      generalize hexS s.data.toList = X at *
      clear hke
      go_wp2_with fail
      refine HFU.out.mono ?_
      rintro e w1 ⟨rfl, hb1⟩
      have HRP := Lib.hid (Tryz.strings_Repeat ⟨#[48]⟩ (16 - X.size) w1 (by omega) (by show 1 * _ ≤ _; omega))
      obtain ⟨c, hc⟩ : ∃ c, c = 16 - X.size := ⟨_, rfl⟩
      rw [← hc] at HRP HDG
      have hci : (16 : Int) - (X.size : Int) = (c : Int) := by omega
      have HB1 := Lib.hid hb1
      clear hb1 HFU hc
      go_wp2_with fail
      refine HRP.out.mono ?_
      rintro e w2 ⟨rfl, hb2⟩
      have HF2 : Hid (Below w.heap.size w w2) := HB1.out.trans (hb2.mono HB1.out.size)
      clear hb2 HRP
      have hrl : (Lib.repeatL [48] c).length = c := by simp [Lib.repeatL_length]
      have hrs : ¬ 9223372036854775807 < (Lib.repeatL [48] c).length + X.size := by omega
      go_wp2_with fail
      go_ret
      exact ⟨by rw [HDG.out]; rfl, HF2.out⟩
end Go.Proofs.YtfijplllfdmcoaaGreatDoor

namespace Go.Proofs.YtfijplllfdmcoaaGreatDoor
open Go.RowKit

def kwL (k : Int) : List UInt8 := if k = 1 then [109, 97, 105, 108] else if k = 2 then [102, 105, 108, 101] else if k = 3 then [98, 111, 120] else [110, 111, 116, 101]
theorem kwL_len (k : Int) : (kwL k).length ≤ 4 := by
  unfold kwL
  split
  · decide
  · split
    · decide
    · split <;> decide
set_option maxHeartbeats 400000 in
theorem kindL_any (z : Int) (w : World) (h : 1 ≤ z ∧ z ≤ 4) : Calls Tryz.prog 42 #[.int .i64 z] w fun e w' => e = .returned (.string ⟨(kwL z).toArray⟩) ∧ w' = w := by
  have hz : z = 1 ∨ z = 2 ∨ z = 3 ∨ z = 4 := by omega
  rcases hz with rfl | rfl | rfl | rfl
  all_goals
    go_enter Tryz.func42, Tryz.ntmps42
    go_wp2_with fail
    go_ret
    exact ⟨rfl, rfl⟩
def sumB (x : Itm) : ByteArray := dgB (kwL x.kind ++ 10 :: x.text.data.toList)
set_option maxHeartbeats 1600000 in
set_option maxRecDepth 100000 in
theorem sumI_any (x : Itm) (w : World) (hS : StandAt w) (hk : 1 ≤ x.kind ∧ x.kind ≤ 4) (ht : x.text.size ≤ 500000) :
    Calls Tryz.prog 87 #[x.v] w fun e w' => e = .returned (.string (sumB x)) ∧ Below w.heap.size w w' := by
  have hb1 : Below w.heap.size w (w.alloc (.cells #[.string x.id, .string x.cu, .int .i64 x.kind, .string x.name, .int .i64 x.at_, .string x.par, .string x.text] 60)) := (Below.refl _ _).alloc (Nat.le_refl _) _
  have HI1 : Hid (ItemAt (w.alloc (.cells #[.string x.id, .string x.cu, .int .i64 x.kind, .string x.name, .int .i64 x.at_, .string x.par, .string x.text] 60)) w.heap.size x) := item_new w x
  have HE : Hid (((⟨(kwL x.kind).toArray⟩ : ByteArray) ++ ⟨#[10]⟩ ++ x.text).data.toList = kwL x.kind ++ 10 :: x.text.data.toList) := by show _ = _; simp
  have hkl := kwL_len x.kind
  have HS1 := Lib.hid (hS.below hb1)
  have HB1 := Lib.hid hb1
  obtain ⟨sb, hsb⟩ : ∃ sb, sb = sumB x := ⟨_, rfl⟩
  rw [← hsb]
  have HSB : Hid (sb = dgB (kwL x.kind ++ 10 :: x.text.data.toList)) := hsb
  clear hsb
  clear hS hb1
  unfold Itm.v
  go_enter Tryz.func87, Tryz.ntmps87
  go_upto_region 1 with (fail)
  obtain ⟨P, hP⟩ : ∃ P, P = w.heap.size := ⟨_, rfl⟩
  rw [← hP] at HI1 ⊢
  clear hP
  generalize w.alloc (.cells #[.string x.id, .string x.cu, .int .i64 x.kind, .string x.name, .int .i64 x.at_, .string x.par, .string x.text] 60) = w1 at *
  obtain ⟨c0, c1, c2, c3, c4, c5, c6⟩ := HI1.out.c
  generalize x.kind = kd at *
  generalize x.text = tx at *
  have HKW : Hid (∀ wx : World, Calls Tryz.prog 42 #[.int .i64 kd] wx fun e w' => e = .returned (.string ⟨(kwL kd).toArray⟩) ∧ w' = wx) := fun wx => kindL_any kd wx hk
  have hz : (kwL kd).length = (⟨(kwL kd).toArray⟩ : ByteArray).size := by simp [ByteArray.size]
  generalize (⟨(kwL kd).toArray⟩ : ByteArray) = kb at *
  have hz1 : ¬ 9223372036854775807 < kb.size + 1 := by omega
  have hz2 : ¬ 9223372036854775807 < kb.size + 1 + tx.size := by omega
  refine wp_region_still_tail 7 (by kernel_rfl) (by kernel_rfl) ?_
  simp only [List.take_succ_cons, List.take_zero, List.drop_succ_cons, List.drop_zero]
  repeat still_step
  still_call (HKW.out _)
  repeat still_step
  refine wpStill_nil ?_
  change wpList _ _ _ _ _ w1.drew
  have HSY : Hid (StandAt w1.drew) := HS1.out.below (Below.refl _ _).drew
  have HBY : Hid (Below w.heap.size w w1.drew) := HB1.out.trans (Below.refl _ _).drew
  generalize w1.drew = Y at *
  have HDG := Lib.hid (digest_any (kb ++ ⟨#[10]⟩ ++ tx) Y HSY.out (by simp only [ByteArray.size_append]; show _ + 1 + _ ≤ _; omega))
  rw [HE.out] at HDG
  clear HS1 HB1 HKW c0 c1 c2 c3 c4 c5 c6
  go_wp2_with (go_at_call 50; refine HDG.out.mono ?_; rintro e w' ⟨rfl, hw⟩)
  have HF : Hid (Below w.heap.size w w') := HBY.out.trans (hw.mono HBY.out.size)
  rw [← HSB.out]
  go_ret
  exact ⟨rfl, HF.out⟩
end Go.Proofs.YtfijplllfdmcoaaGreatDoor

namespace Go.Proofs.YtfijplllfdmcoaaGreatDoor
open Go.RowKit

def updB (d : Nat → Bool) (i : Nat) : Nat → Bool := fun j => decide (j = i) || d j
theorem updB_same (d : Nat → Bool) (i : Nat) : updB d i i = true := by simp [updB]
theorem updB_ne {d : Nat → Bool} {i j : Nat} (h : j ≠ i) : updB d i j = d j := by simp [updB, h]
theorem updB_true {d : Nat → Bool} {i j : Nat} (h : d j = true) : updB d i j = true := by simp [updB, h]
/-- How many of some operations came. -/
def cntF (d : Nat → Bool) (l : List Nat) : Nat := (l.filter d).length
theorem cntF_ne {d : Nat → Bool} {i : Nat} : ∀ {l : List Nat}, i ∉ l → cntF (updB d i) l = cntF d l := fun {l} h => by
  unfold cntF
  rw [List.filter_congr (p := updB d i) (q := d) (fun j hj => updB_ne (fun e => h (by rw [← e]; exact hj)))]
theorem cntF_in {d : Nat → Bool} {i : Nat} : ∀ {l : List Nat}, i ∈ l → l.Nodup → d i = false → cntF (updB d i) l = cntF d l + 1
  | [], h, _, _ => by cases h
  | a :: l, h, hn, h0 => by
    have hn2 := List.nodup_cons.1 hn
    by_cases e : a = i
    · subst e
      have := cntF_ne (d := d) hn2.1
      unfold cntF at *
      rw [List.filter_cons, List.filter_cons, updB_same, h0]
      simp [this]
    · have hm : i ∈ l := (List.mem_cons.1 h).resolve_left (fun x => e x.symm)
      have := cntF_in hm hn2.2 h0
      unfold cntF at *
      rw [List.filter_cons, List.filter_cons, updB_ne e]
      cases d a <;> simp [this]
theorem cntF_le (d : Nat → Bool) (l : List Nat) : cntF d l ≤ l.length := List.length_filter_le _ _
/-- Every edge leads to an earlier operation. -/
def edgesB (ops : Array Oper) : Bool := (List.range ops.size).all fun i => ((ops[i]?).map fun o => o.after.all fun e => decide (e.on < i)).getD true
/-- Operation o waits for number j. -/
def waitsB (o : Oper) (j : Nat) : Bool := o.after.any fun e => Region.binds .any e && decide (e.on = j)
theorem waits_all {o : Oper} {n j : Nat} (h : ((List.range n).all fun j => waitsB o j) = true) (hj : j < n) : waitsB o j = true := List.all_eq_true.1 h j (List.mem_range.2 hj)
section
variable {P : Program} {ops : Array Oper} {Q : Exit → Act → World → Prop}
/-- What is asked of one operation. -/
def FreeAt (P : Program) (ops : Array Oper) (Q : Exit → Act → World → Prop) (I : (Nat → Bool) → Act → World → Prop) (i : Nat) (o : Oper) : Prop :=
  ∀ (d : Nat → Bool) (a : Act) (w : World), I d a w → d i = false → (∀ j, waitsB o j = true → d j = true) → ∀ K' : Act → World → Prop, (∀ a w, I (updB d i) a w → K' a w) →
    if Region.wanted o (yielded ops a.tmps) = true then Oper.wp P o a w K' Q else K' (a.put o.dst undef) w
def FreeList (P : Program) (ops : Array Oper) (Q : Exit → Act → World → Prop) (I : (Nat → Bool) → Act → World → Prop) (k : Nat) (l : List Oper) : Prop := ∀ j o, l[j]? = some o → FreeAt P ops Q I (k + j) o
theorem free_nil {I : (Nat → Bool) → Act → World → Prop} {k : Nat} : FreeList P ops Q I k [] := fun j o h => by simp at h
theorem free_cons {I : (Nat → Bool) → Act → World → Prop} {k : Nat} {o : Oper} {l : List Oper} (h : FreeAt P ops Q I k o) (t : FreeList P ops Q I (k + 1) l) : FreeList P ops Q I k (o :: l) := fun j o' hj => by
  cases j with
  | zero =>
    rw [List.getElem?_cons_zero] at hj
    cases hj
    exact h
  | succ j =>
    rw [List.getElem?_cons_succ] at hj
    have := t j o' hj
    rwa [show k + 1 + j = k + (j + 1) by omega] at this
theorem ready_none {listed : Array Bool} (hlow : edgesB ops = true) (hsz : listed.size = ops.size) (h : Region.ready .any ops listed = []) : ∀ j, j < ops.size → listed.getD j false = true := by
  intro j
  induction j using Nat.strongRecOn with
  | _ j ih =>
    intro hj
    cases hd : listed.getD j false with
    | true => rfl
    | false =>
      exfalso
      have hm : j ∈ Region.ready .any ops listed := mem_ready.2 ⟨by
        have h1 : j < listed.size := by omega
        simp [h1] at hd ⊢
        exact hd, ops[j], Array.getElem?_eq_getElem hj, fun e he _ => by
        have hl := List.all_eq_true.1 hlow j (List.mem_range.2 hj)
        rw [Array.getElem?_eq_getElem hj] at hl
        simp only [Option.map_some, Option.getD_some, Array.all_eq_true_iff_forall_mem, decide_eq_true_eq] at hl
        have := hl e he
        exact ih e.on this (by omega)⟩
      rw [h] at hm
      cases hm
theorem wpAny_inv (hlow : edgesB ops = true) (I : (Nat → Bool) → Act → World → Prop) (hs : FreeList P ops Q I 0 ops.toList) (he : ∀ d a w, I d a w → (∀ j, j < ops.size → d j = true) → Q .normal a w) :
    ∀ (fuel : Nat) (listed : Array Bool) (a : Act) (w : World), listed.size = ops.size → listed.toList.count false ≤ fuel → I (fun j => listed.getD j false) a w → wpAny P .any ops Q fuel listed a w := by
  intro fuel
  induction fuel with
  | zero =>
    intro listed a w hsz hc hI
    have hall : ∀ j, j < ops.size → listed.getD j false = true := fun j hj => by
      have h1 : j < listed.size := by omega
      have h0 : listed.toList.count false = 0 := by omega
      have := List.count_eq_zero.1 h0
      cases hd : listed[j] with
      | true => simp [h1, hd]
      | false => exact (this (by rw [← hd, ← Array.getElem_toList h1]; exact List.getElem_mem _)).elim
    refine ⟨?_, he _ a w hI hall⟩
    unfold Region.ready
    rw [List.filter_eq_nil_iff]
    intro j hj
    have h1 : j < listed.size := by have := List.mem_range.1 hj; omega
    have := hall j (List.mem_range.1 hj)
    simp [h1] at this
    simp [h1, this]
  | succ fuel ih =>
    intro listed a w hsz hc hI
    refine ⟨fun hr => he _ a w hI (ready_none hlow hsz hr), fun i hi => ?_⟩
    obtain ⟨hu, o, ho, hdep⟩ := mem_ready.1 hi
    have hio : i < ops.size := (Array.getElem?_eq_some_iff.1 ho).1
    have hil : i < listed.size := by omega
    have hui : listed[i] = false := by simpa [hil] using hu
    refine wpOp_step ho (fun K' hK' => ?_)
    have hf := hs i o (by rw [Array.getElem?_toList]; exact ho)
    rw [Nat.zero_add] at hf
    refine hf _ a w hI (by simp [hil, hui]) (fun j hj => ?_) K' (fun a' w' hI' => hK' a' w' (ih _ a' w' (by simp [hsz]) ?_ ?_))
    · unfold waitsB at hj
      rw [Array.any_eq_true'] at hj
      obtain ⟨e, hem, hb⟩ := hj
      simp only [Bool.and_eq_true, decide_eq_true_eq] at hb
      have := hdep e hem hb.1
      rw [hb.2] at this
      exact this
    · have hcs := List.count_set (a := true) (b := false) (l := listed.toList) (i := i) (by simpa using hil)
      have hlt : (listed.toList)[i]'(by simpa using hil) = false := by rw [Array.getElem_toList]; exact hui
      rw [hlt] at hcs
      have hpos : 0 < listed.toList.count false := List.count_pos_iff.2 (by rw [← hlt]; exact List.getElem_mem _)
      have e1 : (false == false) = true := rfl
      have e2 : (true == false) = false := rfl
      rw [e1, e2] at hcs
      simp only [if_true, Bool.false_eq_true, if_false] at hcs
      rw [Array.toList_setIfInBounds, hcs]
      omega
    · have e : (fun j => (listed.setIfInBounds i true).getD j false) = updB (fun j => listed.getD j false) i := by
        funext j
        unfold updB
        by_cases hji : j = i
        · subst hji; simp [hil]
        · have hij : ¬ i = j := fun x => hji x.symm
          simp [hji, Array.getD_eq_getD_getElem?, hij]
      rw [e]
      exact hI'
/-- A region that draws its order, by an invariant. -/
theorem wp_region_free {id : Nat} {a0 : Act} {w : World} (hm : P.follows .mixedOrders = true) (hlow : edgesB ops = true) (I : Act → (Nat → Bool) → Act → World → Prop) (h0 : I a0 (fun _ => false) a0 w.drew)
    (hs : FreeList P ops Q (I a0) 0 ops.toList) (he : ∀ d a w, I a0 d a w → (∀ j, j < ops.size → d j = true) → Q .normal a w) : (Code.region id ops true).wp P Q a0 w := by
  refine wp_region_any hm (wpAny_inv hlow (I a0) hs he _ _ _ _ (by simp) ?_ ?_)
  · exact Nat.le_trans List.count_le_length (by simp)
  · have e : (fun j => (Array.replicate ops.size false).getD j false) = fun _ => false := by
      funext j
      by_cases h : j < ops.size <;> simp [Array.getD_eq_getD_getElem?, h]
    rw [e]
    exact h0
end
end Go.Proofs.YtfijplllfdmcoaaGreatDoor

namespace Go.Proofs.YtfijplllfdmcoaaGreatDoor
open Go.RowKit

section
variable {α : Type} {E : Elem α}
/-- A table of rows of the call's own. -/
def TabP (E : Elem α) (t : TypeId) (w : World) (B : Nat) (u : Value) (Ls : List (List α)) : Prop :=
  ∃ (G : Nat) (vs : List Value), u = .slice (some ⟨G, 0, none⟩) Ls.length Ls.length ∧ B ≤ G ∧ w.heap[G]? = some (.cells vs.toArray t (0, 0)) ∧ vs.length = Ls.length ∧ ∀ (j : Nat) (v : Value) (l : List α), vs[j]? = some v → Ls[j]? = some l → Owns E w B v l
/-- A pointer to a row's place in a table. -/
def PtrP (E : Elem α) (w : World) (B : Nat) (u : Value) (Ls : List (List α)) : Prop :=
  ∃ (G j : Nat) (v : Value) (l : List α), u = .pointer (some ⟨G, j, none⟩) ∧ B ≤ G ∧ G < w.heap.size ∧ w.cell? ⟨G, j, none⟩ = some v ∧ l ∈ Ls ∧ Owns E w B v l
def LdP (E : Elem α) (w : World) (B : Nat) (u : Value) (Ls : List (List α)) : Prop := ∃ l, l ∈ Ls ∧ Owns E w B u l
def RngP (u : Value) (lo hi : Int) : Prop := ∃ r : Int, u = .int .i64 r ∧ lo ≤ r ∧ r ≤ hi
def NatP (u : Value) (n : Nat) : Prop := ∃ r : Nat, u = .int .i64 (r : Int) ∧ r < n
variable {w w' : World} {g B : Nat}
theorem Owns.free {u : Value} {l : List α} (h : Owns E w B u l) (hg : w.grownBy w' (some g)) (hB : g < B) : Owns E w' B u l := h.kept_ hg (fun i e => by cases e; exact hB)
theorem TabP.free {t : TypeId} {u : Value} {Ls : List (List α)} (h : TabP E t w B u Ls) (hg : w.grownBy w' (some g)) (hB : g < B) : TabP E t w' B u Ls := by
  obtain ⟨G, vs, h1, h2, h3, h4, h5⟩ := h
  exact ⟨G, vs, h1, h2, (hg.block G (Array.getElem?_eq_some_iff.1 h3).1 (fun e => by have := Option.some.inj e; omega)).trans h3, h4, fun j v l hj hl => (h5 j v l hj hl).free hg hB⟩
theorem PtrP.free {u : Value} {Ls : List (List α)} (h : PtrP E w B u Ls) (hg : w.grownBy w' (some g)) (hB : g < B) : PtrP E w' B u Ls := by
  obtain ⟨G, j, v, l, h1, h2, h3, h4, h5, h6⟩ := h
  exact ⟨G, j, v, l, h1, h2, Nat.lt_of_lt_of_le h3 hg.size, (World.cell?_of_block (hg.block G h3 (fun e => by have := Option.some.inj e; omega))).trans h4, h5, h6.free hg hB⟩
theorem LdP.free {u : Value} {Ls : List (List α)} (h : LdP E w B u Ls) (hg : w.grownBy w' (some g)) (hB : g < B) : LdP E w' B u Ls := by
  obtain ⟨l, h1, h2⟩ := h
  exact ⟨l, h1, h2.free hg hB⟩
theorem TabP.alloc {t : TypeId} {vs : List Value} {Ls : List (List α)} (hB : B ≤ w.heap.size) (hl : vs.length = Ls.length) (h : ∀ (j : Nat) (v : Value) (l : List α), vs[j]? = some v → Ls[j]? = some l → Owns E w B v l) :
    TabP E t (w.alloc (.cells vs.toArray t)) B (.slice (some ⟨w.heap.size, 0, none⟩) Ls.length Ls.length) Ls :=
  ⟨w.heap.size, vs, rfl, hB, heap_alloc_new _ _, hl, fun j v l hj hk => (h j v l hj hk).below_ ((Below.refl _ _).alloc (Nat.le_refl _) _)⟩
theorem TabP.at_ {t : TypeId} {u : Value} {Ls : List (List α)} (h : TabP E t w B u Ls) : ∃ G, u = .slice (some ⟨G, 0, none⟩) Ls.length Ls.length ∧ ∀ r, r < Ls.length → PtrP E w B (.pointer (some ⟨G, r, none⟩)) Ls := by
  obtain ⟨G, vs, h1, h2, h3, h4, h5⟩ := h
  refine ⟨G, h1, fun r hr => ?_⟩
  obtain ⟨v, hv⟩ : ∃ v, vs[r]? = some v := ⟨_, List.getElem?_eq_getElem (by omega)⟩
  have hl := List.getElem?_eq_getElem hr
  refine ⟨G, r, v, Ls[r], rfl, h2, (Array.getElem?_eq_some_iff.1 h3).1, ?_, List.getElem_mem _, h5 r v _ hv hl⟩
  rw [cell_of_row w G r _ _ _ h3]
  simpa using hv
end
theorem tab_cons {α : Type} {E : Elem α} {w : World} {B : Nat} {vs : List Value} {Ls : List (List α)} {v : Value} {l : List α} (h0 : Owns E w B v l) (h : ∀ (j : Nat) (v : Value) (l : List α), vs[j]? = some v → Ls[j]? = some l → Owns E w B v l) : ∀ (j : Nat) (v' : Value) (l' : List α), (v :: vs)[j]? = some v' → (l :: Ls)[j]? = some l' → Owns E w B v' l' := fun j v' l' hj hl => by
  cases j with
  | zero =>
    rw [List.getElem?_cons_zero] at hj hl
    cases hj; cases hl; exact h0
  | succ j =>
    rw [List.getElem?_cons_succ] at hj hl
    exact h j v' l' hj hl
theorem tab_nil {α : Type} {E : Elem α} {w : World} {B : Nat} : ∀ (j : Nat) (v : Value) (l : List α), ([] : List Value)[j]? = some v → ([] : List (List α))[j]? = some l → Owns E w B v l := fun j v l h => by simp at h
/-- The elements of a row of the call's own, for a call that reads them. -/
theorem Owns.lits {w : World} {B n c G : Nat} {l : List Int} (h : Owns IntE w B (.slice (some ⟨G, 0, none⟩) n c) l) : ∀ j, j < l.length → w.cell? ⟨G, j, none⟩ = some (.int .i64 (l.getD j 0)) := fun j hj => by
  obtain ⟨G', c', hv, h1, h2, h3⟩ := h.ints (by omega)
  simp only [Value.slice.injEq, Option.some.injEq, Addr.mk.injEq, and_true] at hv
  obtain ⟨rfl, rfl, rfl⟩ := hv
  exact (h3 j hj).1
theorem Owns.litsP {w : World} {B : Nat} {u : Value} {l : List Int} (h : Owns IntE w B u l) (h0 : 0 < l.length) : ∃ G c, u = .slice (some ⟨G, 0, none⟩) l.length c ∧ B ≤ G ∧ ∀ j, j < l.length → w.cell? ⟨G, j, none⟩ = some (.int .i64 (l.getD j 0)) := by
  obtain ⟨G', c', hv, h1, h2, h3⟩ := h.ints h0
  exact ⟨G', c', hv, h1, fun j hj => (h3 j hj).1⟩
section
variable {α : Type} {E : Elem α}
theorem size_alloc (w : World) (o : Obj) : (w.alloc o).heap.size = w.heap.size + 1 := by simp
/-- Tables of literals. -/
theorem tab3 (hE : E.Ok) (w : World) (B : Nat) (hB : B ≤ w.heap.size) (t : TypeId) (l1 l2 l3 : List α) (h1 : l1.length ≤ 1000) (h2 : l2.length ≤ 1000) (h3 : l3.length ≤ 1000) :
    TabP E t ((((w.alloc (.cells (E.cells l1).toArray E.t)).alloc (.cells (E.cells l2).toArray E.t)).alloc (.cells (E.cells l3).toArray E.t)).alloc (.cells #[.slice (some ⟨w.heap.size, 0, none⟩) l1.length l1.length, .slice (some ⟨w.heap.size + 1, 0, none⟩) l2.length l2.length, .slice (some ⟨w.heap.size + 1 + 1, 0, none⟩) l3.length l3.length] t)) B (.slice (some ⟨w.heap.size + 1 + 1 + 1, 0, none⟩) 3 3) [l1, l2, l3] := by
  have al := fun (x : World) (o : Obj) => (Below.refl x.heap.size x).alloc (Nat.le_refl _) o
  have o1 := Owns.lit hE w B l1 hB h1
  have o2 := Owns.lit hE (w.alloc (.cells (E.cells l1).toArray E.t)) B l2 (by rw [size_alloc]; omega) h2
  have o3 := Owns.lit hE ((w.alloc (.cells (E.cells l1).toArray E.t)).alloc (.cells (E.cells l2).toArray E.t)) B l3 (by rw [size_alloc, size_alloc]; omega) h3
  rw [size_alloc] at o2
  rw [size_alloc, size_alloc] at o3
  have h := TabP.alloc (E := E) (t := t) (w := ((w.alloc (.cells (E.cells l1).toArray E.t)).alloc (.cells (E.cells l2).toArray E.t)).alloc (.cells (E.cells l3).toArray E.t)) (B := B) (vs := [.slice (some ⟨w.heap.size, 0, none⟩) l1.length l1.length, .slice (some ⟨w.heap.size + 1, 0, none⟩) l2.length l2.length, .slice (some ⟨w.heap.size + 1 + 1, 0, none⟩) l3.length l3.length]) (Ls := [l1, l2, l3]) (by rw [size_alloc, size_alloc, size_alloc]; omega) rfl
    (tab_cons ((o1.below_ (al _ _)).below_ (al _ _)) (tab_cons (o2.below_ (al _ _)) (tab_cons o3 tab_nil)))
  rw [size_alloc, size_alloc, size_alloc] at h
  exact h
theorem tab4 (hE : E.Ok) (w : World) (B : Nat) (hB : B ≤ w.heap.size) (t : TypeId) (l1 l2 l3 l4 : List α) (h1 : l1.length ≤ 1000) (h2 : l2.length ≤ 1000) (h3 : l3.length ≤ 1000) (h4 : l4.length ≤ 1000) :
    TabP E t (((((w.alloc (.cells (E.cells l1).toArray E.t)).alloc (.cells (E.cells l2).toArray E.t)).alloc (.cells (E.cells l3).toArray E.t)).alloc (.cells (E.cells l4).toArray E.t)).alloc (.cells #[.slice (some ⟨w.heap.size, 0, none⟩) l1.length l1.length, .slice (some ⟨w.heap.size + 1, 0, none⟩) l2.length l2.length, .slice (some ⟨w.heap.size + 1 + 1, 0, none⟩) l3.length l3.length, .slice (some ⟨w.heap.size + 1 + 1 + 1, 0, none⟩) l4.length l4.length] t)) B (.slice (some ⟨w.heap.size + 1 + 1 + 1 + 1, 0, none⟩) 4 4) [l1, l2, l3, l4] := by
  have al := fun (x : World) (o : Obj) => (Below.refl x.heap.size x).alloc (Nat.le_refl _) o
  have o1 := Owns.lit hE w B l1 hB h1
  have o2 := Owns.lit hE (w.alloc (.cells (E.cells l1).toArray E.t)) B l2 (by rw [size_alloc]; omega) h2
  have o3 := Owns.lit hE ((w.alloc (.cells (E.cells l1).toArray E.t)).alloc (.cells (E.cells l2).toArray E.t)) B l3 (by rw [size_alloc, size_alloc]; omega) h3
  have o4 := Owns.lit hE (((w.alloc (.cells (E.cells l1).toArray E.t)).alloc (.cells (E.cells l2).toArray E.t)).alloc (.cells (E.cells l3).toArray E.t)) B l4 (by rw [size_alloc, size_alloc, size_alloc]; omega) h4
  rw [size_alloc] at o2
  rw [size_alloc, size_alloc] at o3
  rw [size_alloc, size_alloc, size_alloc] at o4
  have h := TabP.alloc (E := E) (t := t) (w := (((w.alloc (.cells (E.cells l1).toArray E.t)).alloc (.cells (E.cells l2).toArray E.t)).alloc (.cells (E.cells l3).toArray E.t)).alloc (.cells (E.cells l4).toArray E.t)) (B := B) (vs := [.slice (some ⟨w.heap.size, 0, none⟩) l1.length l1.length, .slice (some ⟨w.heap.size + 1, 0, none⟩) l2.length l2.length, .slice (some ⟨w.heap.size + 1 + 1, 0, none⟩) l3.length l3.length, .slice (some ⟨w.heap.size + 1 + 1 + 1, 0, none⟩) l4.length l4.length]) (Ls := [l1, l2, l3, l4]) (by rw [size_alloc, size_alloc, size_alloc, size_alloc]; omega) rfl
    (tab_cons (((o1.below_ (al _ _)).below_ (al _ _)).below_ (al _ _)) (tab_cons ((o2.below_ (al _ _)).below_ (al _ _)) (tab_cons (o3.below_ (al _ _)) (tab_cons o4 tab_nil))))
  rw [size_alloc, size_alloc, size_alloc, size_alloc] at h
  exact h
/-- What lies at a place of a table. -/
theorem TabP.cell_ {t : TypeId} {w : World} {B G n m r : Nat} {Ls : List (List α)} (h : TabP E t w B (.slice (some ⟨G, 0, none⟩) n m) Ls) (hr : r < Ls.length) : ∃ v l, w.cell? ⟨G, r, none⟩ = some v ∧ l ∈ Ls ∧ Owns E w B v l := by
  obtain ⟨G', hv, hat⟩ := h.at_
  simp only [Value.slice.injEq, Option.some.injEq, Addr.mk.injEq, and_true] at hv
  obtain ⟨rfl, -, -⟩ := hv
  obtain ⟨G2, j, v, l, hp, -, -, hc, hm, ho⟩ := hat r hr
  simp only [Value.pointer.injEq, Option.some.injEq, Addr.mk.injEq, and_true] at hp
  obtain ⟨rfl, rfl⟩ := hp
  exact ⟨v, l, hc, hm, ho⟩
end
end Go.Proofs.YtfijplllfdmcoaaGreatDoor

namespace Go.Proofs.YtfijplllfdmcoaaGreatDoor
open Go.RowKit
attribute [local go_sem ↓] Go.wp_at_zero Go.wp_at_succ

def Str16 (w : World) (e : Ending) (w' : World) : Prop := (∃ r : ByteArray, e = .returned (.string r) ∧ r.size = 16) ∧ w' = w
theorem hex_one (z : Int) (h0 : 0 ≤ z) (h1 : z < 16) : ((⟨#[48, 49, 50, 51, 52, 53, 54, 55, 56, 57, 97, 98, 99, 100, 101, 102]⟩ : ByteArray).extract z.toNat (z + 1).toNat).size = 1 := by
  obtain ⟨k, rfl⟩ := Int.eq_ofNat_of_zero_le h0
  have hk : k < 16 := by omega
  have : ((k : Int) + 1).toNat = k + 1 := by omega
  rw [this, Int.toNat_natCast, ByteArray.size_extract]
  have : (⟨#[48, 49, 50, 51, 52, 53, 54, 55, 56, 57, 97, 98, 99, 100, 101, 102]⟩ : ByteArray).size = 16 := rfl
  omega
set_option maxHeartbeats 1600000 in
set_option maxRecDepth 100000 in
theorem digestOf_any (s : ByteArray) (w : World) (hs : s.size ≤ 1000000) :
    Calls Tryz.prog 74 #[.string s] w (Str16 w) := by
  go_enter Tryz.func74, Tryz.ntmps74
  go_wp2_with fail
  go_loopg [3, 8] s.size (fun gk v3 i wr => ∃ (k : Nat) (z : Int), Hid (k + gk = s.size) ∧ i = .int .i64 k ∧ v3 = .int .u64 z ∧ 0 ≤ z ∧ w = wr)
  case atStart => exact ⟨0, _, show 0 + s.size = _ by omega, rfl, rfl, by omega, rfl⟩
  case round =>
    obtain ⟨k, z, HK, rfl, rfl, hz, rfl⟩ := hrel
    have hkn : k ≤ s.size := by have := HK.out; omega
    by_cases hlt : k < s.size
    · go_wp2_with fail
      go_roundg (gk - 1)
      case measure => have := HK.out; omega
      case rel => exact ⟨k + 1, _, show k + 1 + (gk - 1) = _ by have := HK.out; omega, by go_num, rfl, (u64_wrap_range _).1, rfl⟩
    · have hnk : ¬ (k : Int) < (s.size : Int) := by omega
      go_wp2_with fail
      go_loopg [3, 5, 37] 16 (fun gk v3 v5 i wr => ∃ (j : Nat) (y : Int) (r : ByteArray), Hid (j + gk = 16) ∧ i = .int .i64 j ∧ v3 = .int .u64 y ∧ 0 ≤ y ∧ v5 = .string r ∧ Hid (r.size = j) ∧ w = wr)
      case atStart => exact ⟨0, z, ⟨#[]⟩, show 0 + 16 = 16 by omega, rfl, rfl, hz, rfl, rfl, rfl⟩
      case round =>
        obtain ⟨j, y, r, HJ, rfl, rfl, hy, rfl, HR, rfl⟩ := hrel
        have hjn : j ≤ 16 := by have := HJ.out; omega
        by_cases hlt2 : j < 16
        · have hr := HR.out
          have hm0 : 0 ≤ y.tmod 16 := Int.tmod_nonneg 16 hy
          have hm1 : y.tmod 16 < 16 := Int.tmod_lt_of_pos y (by omega)
          have hw : IntKind.u64.wrap (y.tmod 16 + 1) = y.tmod 16 + 1 := by rw [show IntKind.u64.wrap (y.tmod 16 + 1) = (y.tmod 16 + 1) % 18446744073709551616 by rfl]; omega
          have hq : 0 ≤ y.tdiv 16 := Int.tdiv_nonneg hy (by omega)
          have HX := Lib.hid (hex_one (y % 16) (by omega) (by omega))
          go_wp2_with fail
          go_roundg (gk - 1)
          case measure => have := HJ.out; omega
          case rel => exact ⟨j + 1, _, _, show j + 1 + (gk - 1) = 16 by have := HJ.out; omega, by go_num, rfl, (u64_wrap_range _).1, rfl, (show _ = _ by rw [ByteArray.size_append, HX.out, HR.out]; omega), rfl⟩
        · have hnj : ¬ (j : Int) < 16 := by omega
          have HF : Hid (r.size = 16) := by show _ = _; have := HR.out; omega
          go_wp2_with fail
          go_ret
          exact ⟨⟨r, rfl, HF.out⟩, rfl⟩
def kwB (k : Int) : ByteArray := if k = 1 then ⟨#[109, 97, 105, 108]⟩ else if k = 2 then ⟨#[102, 105, 108, 101]⟩ else if k = 3 then ⟨#[98, 111, 120]⟩ else ⟨#[110, 111, 116, 101]⟩
theorem kwB_size (k : Int) : (kwB k).size ≤ 4 := by
  unfold kwB
  split
  · decide
  · split
    · decide
    · split <;> decide
set_option maxHeartbeats 800000 in
set_option maxRecDepth 100000 in
theorem kindWord_any (k : Int) (w : World) (h0 : 1 ≤ k) (h1 : k ≤ 4) : Calls Tryz.prog 75 #[.int .i64 k] w fun e w' => e = .returned (.string (kwB k)) ∧ w' = w := by
  rcases (by omega : k = 1 ∨ k = 2 ∨ k = 3 ∨ k = 4) with rfl | rfl | rfl | rfl
  · have hix : (Instr.index 194 (.agg #[.string ⟨#[]⟩, .string ⟨#[109, 97, 105, 108]⟩, .string ⟨#[102, 105, 108, 101]⟩, .string ⟨#[98, 111, 120]⟩, .string ⟨#[110, 111, 116, 101]⟩]) (.int .i64 1)).run Tryz.prog w = .ok (.string (kwB 1)) w := by kernel_rfl
    go_enter Tryz.func75, Tryz.ntmps75
    go_wp2_with fail
    go_ret
    exact ⟨rfl, rfl⟩
  · have hix : (Instr.index 194 (.agg #[.string ⟨#[]⟩, .string ⟨#[109, 97, 105, 108]⟩, .string ⟨#[102, 105, 108, 101]⟩, .string ⟨#[98, 111, 120]⟩, .string ⟨#[110, 111, 116, 101]⟩]) (.int .i64 2)).run Tryz.prog w = .ok (.string (kwB 2)) w := by kernel_rfl
    go_enter Tryz.func75, Tryz.ntmps75
    go_wp2_with fail
    go_ret
    exact ⟨rfl, rfl⟩
  · have hix : (Instr.index 194 (.agg #[.string ⟨#[]⟩, .string ⟨#[109, 97, 105, 108]⟩, .string ⟨#[102, 105, 108, 101]⟩, .string ⟨#[98, 111, 120]⟩, .string ⟨#[110, 111, 116, 101]⟩]) (.int .i64 3)).run Tryz.prog w = .ok (.string (kwB 3)) w := by kernel_rfl
    go_enter Tryz.func75, Tryz.ntmps75
    go_wp2_with fail
    go_ret
    exact ⟨rfl, rfl⟩
  · have hix : (Instr.index 194 (.agg #[.string ⟨#[]⟩, .string ⟨#[109, 97, 105, 108]⟩, .string ⟨#[102, 105, 108, 101]⟩, .string ⟨#[98, 111, 120]⟩, .string ⟨#[110, 111, 116, 101]⟩]) (.int .i64 4)).run Tryz.prog w = .ok (.string (kwB 4)) w := by kernel_rfl
    go_enter Tryz.func75, Tryz.ntmps75
    go_wp2_with fail
    go_ret
    exact ⟨rfl, rfl⟩
set_option maxHeartbeats 1600000 in
set_option maxRecDepth 100000 in
theorem sumOf_any (x : Itm) (w : World) (hk : 1 ≤ x.kind ∧ x.kind ≤ 4) (ht : x.text.size ≤ 500000) :
    Calls Tryz.prog 31 #[x.v] w (fun e w' => (∃ r : ByteArray, e = .returned (.string r) ∧ r.size = 16) ∧ Below w.heap.size w w') := by
  have hb1 : Below w.heap.size w (w.alloc (.cells #[.string x.id, .string x.cu, .int .i64 x.kind, .string x.name, .int .i64 x.at_, .string x.par, .string x.text] 60)) := (Below.refl _ _).alloc (Nat.le_refl _) _
  have HI1 : Hid (ItemAt (w.alloc (.cells #[.string x.id, .string x.cu, .int .i64 x.kind, .string x.name, .int .i64 x.at_, .string x.par, .string x.text] 60)) w.heap.size x) := item_new w x
  have HB1 := Lib.hid hb1
  have HKW := Lib.hid (fun wx : World => kindWord_any x.kind wx hk.1 hk.2)
  have hks := kwB_size x.kind
  clear hb1
  unfold Itm.v
  go_enter Tryz.func31, Tryz.ntmps31
  go_upto_region 1 with (fail)
  obtain ⟨P, hP⟩ : ∃ P, P = w.heap.size := ⟨_, rfl⟩
  rw [← hP] at HI1 ⊢
  clear hP
  generalize w.alloc (.cells #[.string x.id, .string x.cu, .int .i64 x.kind, .string x.name, .int .i64 x.at_, .string x.par, .string x.text] 60) = w1 at *
  obtain ⟨c0, c1, c2, c3, c4, c5, c6⟩ := HI1.out.c
  generalize kwB x.kind = kb at *
  generalize x.kind = kd at *
  generalize x.text = tx at *
  have hz1 : ¬ 9223372036854775807 < kb.size + 1 := by omega
  have hz2 : ¬ 9223372036854775807 < kb.size + 1 + tx.size := by omega
  have HDG := Lib.hid (fun wx : World => digestOf_any (kb ++ ⟨#[10]⟩ ++ tx) wx (by simp only [ByteArray.size_append]; show _ + 1 + _ ≤ _; omega))
  refine wp_region_still_tail 7 (by kernel_rfl) (by kernel_rfl) ?_
  simp only [List.take_succ_cons, List.take_zero, List.drop_succ_cons, List.drop_zero]
  repeat still_step
  still_call (HKW.out _)
  repeat still_step
  refine wpStill_nil ?_
  change wpList _ _ _ _ _ w1.drew
  have HBY : Hid (Below w.heap.size w w1.drew) := HB1.out.trans (Below.refl _ _).drew
  clear HB1 HKW c0 c1 c2 c3 c4 c5 c6 HI1
  generalize w1.drew = Y at *
  generalize kb ++ ⟨#[10]⟩ ++ tx = b at *
  go_wp2_with fail
  refine (HDG.out _).mono ?_
  rintro e w' ⟨⟨r, rfl, hr⟩, hw⟩
  have HR : Hid (r.size = 16) := hr
  obtain rfl := hw
  clear hr
  go_wp2_with fail
  go_ret
  exact ⟨⟨r, rfl, HR.out⟩, HBY.out⟩
end Go.Proofs.YtfijplllfdmcoaaGreatDoor

namespace Go.Proofs.YtfijplllfdmcoaaGreatDoor
open Go.RowKit Go.Sort

theorem own_shorterH {w : World} {base : Nat} {A : Option Addr} {c : Nat} {l r : List (List UInt8)} (h : OwnStrs w base (.slice A (l ++ r).length c) (l ++ r)) (hp : A ≠ none ∨ c = 0) : OwnStrs w base (.slice A l.length c) l := by
  refine ⟨by rw [Elem.cells_length strE_ok], ?_⟩
  rcases h.2 with ⟨h0, hn⟩ | ⟨g, cap, cur, he, hbase, hb, h1, h2, h3, h4⟩
  · simp only [Value.slice.injEq] at h0
    obtain ⟨rfl, hl, rfl⟩ := h0
    have : l = [] := by rw [hl] at hn; rw [List.length_append] at hl; exact List.eq_nil_of_length_eq_zero (by omega)
    subst this
    exact .inl ⟨rfl, rfl⟩
  · simp only [Value.slice.injEq] at he
    obtain ⟨rfl, _, rfl⟩ := he
    refine .inr ⟨g, c, cur, rfl, hbase, hb, by rw [List.length_append] at h1; omega, h2, h3, ?_⟩
    rw [Elem.cells_append] at h4
    have h5 := congrArg (List.take (l.length * StrE.size)) h4
    rw [List.take_take, List.take_left' (by rw [Elem.cells_length strE_ok])] at h5
    rw [show min (l.length * StrE.size) ((l ++ r).length * StrE.size) = l.length * StrE.size by rw [List.length_append, Nat.add_mul]; omega] at h5
    exact h5

def CompactHPost (w : World) (base : Nat) (v : Value) (l : List (List UInt8)) (e : Ending) (w' : World) : Prop := ∃ v', e = .returned v' ∧ OwnStrs w' base v' l ∧ w.grownBy w' v.ownBlock ∧ v'.ownBlock = v.ownBlock
theorem compactH_any (base : Nat) (v : Value) (l : List (List UInt8)) (w : World) (h : OwnStrs w base v l) (hl : l.length ≤ 100000) :
    Calls Tryz.prog 32 #[v] w (CompactHPost w base v (Lib.compact l)) := by
  rcases h.2 with ⟨rfl, hn⟩ | ⟨g, cap, cur, rfl, hbase, hb, h1, h2, h3, h4⟩
  · have : l = [] := List.eq_nil_of_length_eq_zero hn
    subst this
    refine (Tryz.slices_Compact_string_empty none 0 w).mono ?_
    rintro e w' ⟨rfl, rfl⟩
    exact ⟨_, rfl, Owns.nil _ _, World.grownBy.refl _ _, rfl⟩
  · have hH : Holds encStr w g 0 l.toArray := holds_of_block hb (by rw [show l.length * StrE.size = l.length from Nat.mul_one _, strE_cellsH] at h4; exact h4)
    have hcl := Lib.compact_length_le l
    refine (Tryz.slices_Compact_string g 0 cap l w hH (by omega) h1).mono ?_
    rintro e w' ⟨rfl, nn, rfl⟩
    have hlen : (Lib.compact l ++ List.replicate (l.length - (Lib.compact l).length) []).length = l.length := by simp; omega
    have hg := ownsRow_sorted (n := nn) (os := #[]) (ss := l) (ts := Lib.compact l ++ List.replicate (l.length - (Lib.compact l).length) []) hlen hbase hb h1 h2 h3
    have hgr := grownBy_sorted (w := w) (g := g) (n := nn) (os := #[]) (Lib.compact l ++ List.replicate (l.length - (Lib.compact l).length) []).toArray
    rw [grow_empty] at hg hgr
    refine ⟨_, rfl, own_shorterH (r := List.replicate (l.length - (Lib.compact l).length) []) ?_ (.inl (by simp)), hgr, rfl⟩
    unfold OwnStrs Owns
    rw [strE_cellsH, hlen]
    exact hg

end Go.Proofs.YtfijplllfdmcoaaGreatDoor
