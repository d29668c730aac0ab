
/-
  How much two rising lists share, and fractions in lowest terms. Plain lists and numbers.
  What the comparison of strings, shared, fraction and like return.
  A world with draws and blocks behind it; hash of a sample's names leaves such a one; the order of names by hash.
  Contains of strings; two rows of the call's own that do not share a block.
  placed accepts an item of right items.
  intake.Check accepts right items.
  The text form of items: lines cut and put together, quoted names, numbers. Plain lists.
  The text form of an item: its rows, and what a reader finds in them. Plain lists.
  A quoted byte.
  strconv.ParseUint at two hexadecimal digits.
  escaped and Unquote at what Quote writes.
  Unquote at what Quote writes.
  Quote.
  Number and Natural at a numeral.
  Bytes that are appended one by one; a builder's writes, which turn nothing but builders and rows of bytes of the call's own.
  The head of an item's rows.
  base.Lines at lines that are ended; strconv.Itoa.
  intake.Text at right items.
  intake.Read at the text of right items.
  A map that holds some of the items of a list, in whatever order they came.
  Which items have come in a range over a map of items; those that are whole; how they are picked.
  slices.Equal at items that are the same.
  An order of numbers; items that are right are a right set.
  ItemsStay returns true.
-/
import Derived.WalkLawsBesides
import Derived.Lib.Hide
import Derived.Test.YtikmjomepnbkcaaGreatDoorStrLib
import Derived.Test.YtikmjomepnbkcaaGreatDoorHash
import Derived.Deep.RegionHeld3
import Derived.Deep.DrawnRows
import Derived.Test.YtikmjomepnbkcaaGreatDoorChkMap
import Derived.Test.YtikmjomepnbkcaaGreatDoorLay
import Derived.Test.YtikmjomepnbkcaaGreatDoorTokPlain
import Derived.Lib.Join
import Derived.Lib.Atoi
import Derived.Lib.ItoaLen
import Derived.Test.YtikmjomepnbkcaaGreatDoorItemFault
import Derived.Test.YtikmjomepnbkcaaGreatDoorElems
import Derived.Deep.QuietTactic
import Derived.BigQuiet
import Derived.RegionTactic
import Derived.Test.YtikmjomepnbkcaaGreatDoorNearWords
import Derived.Deep.CutBlock
import Derived.Test.YtikmjomepnbkcaaGreatDoorTreeFault
import Derived.Test.YtikmjomepnbkcaaGreatDoorPartErr
import Derived.Lib.AtoiErrMem
import Derived.Lib.AppendStr
import Derived.Test.YtikmjomepnbkcaaGreatDoorLines
import Derived.Deep.RegionHeld
import Derived.Sort.KeysCollected
import Derived.Maps.RangeWalk
import Derived.Shelf.SlicesQ.Equal
import Derived.Laws.StructEq
import Derived.Test.YtikmjomepnbkcaaGreatDoorItemId
import Derived.Test.YtikmjomepnbkcaaGreatDoorRightItems
import Derived.Test.YtikmjomepnbkcaaGreatDoorRange
import Derived.Test.YtikmjomepnbkcaaGreatDoorStands
import Derived.Test.YtikmjomepnbkcaaGreatDoorStreamNew

namespace Go.Proofs.YtikmjomepnbkcaaGreatDoor
open Go

/-- The library's comparison of two strings. -/
def cmpS (a b : List UInt8) : Int := if Op.bytesLess a b then -1 else if Op.bytesLess b a then 1 else 0
def sharedL : List (List UInt8) → List (List UInt8) → Nat
  | [], _ => 0
  | _ :: _, [] => 0
  | a :: ax, b :: bs => if cmpS a b < 0 then sharedL ax (b :: bs) else if 0 < cmpS a b then sharedL (a :: ax) bs else sharedL ax bs + 1
termination_by x y => x.length + y.length
theorem sharedL_nil (x : List (List UInt8)) : sharedL x [] = 0 := by cases x <;> simp [sharedL]
theorem sharedL_nil' (x : List (List UInt8)) : sharedL [] x = 0 := by simp [sharedL]
theorem sharedL_drop {x y : List (List UInt8)} {i j : Nat} {s t : List UInt8} (hx : x[i]? = some s) (hy : y[j]? = some t) :
    sharedL (x.drop i) (y.drop j) = if cmpS s t < 0 then sharedL (x.drop (i + 1)) (y.drop j) else if 0 < cmpS s t then sharedL (x.drop i) (y.drop (j + 1)) else sharedL (x.drop (i + 1)) (y.drop (j + 1)) + 1 := by
  obtain ⟨hl, rfl⟩ := List.getElem?_eq_some_iff.1 hx
  obtain ⟨hm, rfl⟩ := List.getElem?_eq_some_iff.1 hy
  rw [List.drop_eq_getElem_cons hl, List.drop_eq_getElem_cons hm, sharedL]
theorem sharedL_le : ∀ (n : Nat) (x y : List (List UInt8)), x.length + y.length ≤ n → sharedL x y ≤ x.length ∧ sharedL x y ≤ y.length := by
  intro n
  induction n with
  | zero => intro x y h; cases x <;> cases y <;> simp_all [sharedL]
  | succ n ih =>
    intro x y h
    cases x with
    | nil => rw [sharedL_nil']; omega
    | cons a ax =>
      cases y with
      | nil => rw [sharedL_nil]; simp
      | cons b bs =>
        simp only [List.length_cons] at h ⊢
        have h1 := ih ax (b :: bs) (by simp only [List.length_cons]; omega)
        have h2 := ih (a :: ax) bs (by simp only [List.length_cons]; omega)
        have h3 := ih ax bs (by omega)
        simp only [List.length_cons] at h1 h2
        rw [sharedL]
        split
        · omega
        · split <;> omega

/-- A fraction in lowest terms; 1, if there is nothing. -/
def fracL (num den : Nat) : Nat × Nat := if den = 0 then (1, 1) else (num / Nat.gcd num den, den / Nat.gcd num den)
theorem gcd_pos (num den : Nat) (h : den ≠ 0) : 0 < Nat.gcd num den := Nat.gcd_pos_of_pos_right _ (Nat.pos_of_ne_zero h)
theorem gcd_le (num den : Nat) (h : den ≠ 0) : Nat.gcd num den ≤ den := Nat.gcd_le_right _ (Nat.pos_of_ne_zero h)
def likeL (x y : List (List UInt8)) : Nat × Nat := fracL (sharedL x y) (x.length + y.length - sharedL x y)

end Go.Proofs.YtikmjomepnbkcaaGreatDoor

namespace Go.Proofs.YtikmjomepnbkcaaGreatDoor
open Go.RowKit

theorem less_not_both : ∀ (a b : List UInt8), Op.bytesLess a b = true → Op.bytesLess b a = false
  | [], [], h => by simp [Op.bytesLess] at h
  | [], _ :: _, _ => by simp [Op.bytesLess]
  | _ :: _, [], h => by simp [Op.bytesLess] at h
  | x :: a, y :: b, h => by
    simp only [Op.bytesLess, Bool.or_eq_true, decide_eq_true_eq, Bool.and_eq_true, beq_iff_eq] at h
    simp only [Op.bytesLess, Bool.or_eq_false_iff, decide_eq_false_iff_not, Bool.and_eq_false_imp, beq_iff_eq]
    rcases h with h | ⟨rfl, h⟩
    · exact ⟨fun h2 => absurd (UInt8.lt_trans h h2) (UInt8.lt_irrefl _), fun e => by subst e; exact absurd h (UInt8.lt_irrefl _)⟩
    · exact ⟨UInt8.lt_irrefl _, fun _ => less_not_both a b h⟩
theorem less_total : ∀ (a b : List UInt8), Op.bytesLess a b = false → Op.bytesLess b a = false → a = b
  | [], [], _, _ => rfl
  | [], _ :: _, h, _ => by simp [Op.bytesLess] at h
  | _ :: _, [], _, h => by simp [Op.bytesLess] at h
  | x :: a, y :: b, h1, h2 => by
    simp only [Op.bytesLess, Bool.or_eq_false_iff, decide_eq_false_iff_not, Bool.and_eq_false_imp, beq_iff_eq] at h1 h2
    have e : x = y := UInt8.le_antisymm (UInt8.not_lt.1 h2.1) (UInt8.not_lt.1 h1.1)
    subst e
    rw [less_total a b (h1.2 rfl) (h2.2 rfl)]

def SharedPost (w : World) (x y : List (List UInt8)) (e : Ending) (w' : World) : Prop := e = .returned (.int .i64 (sharedL x y : Nat)) ∧ Below w.heap.size w w'
def FracPost (w : World) (f : Nat × Nat) (e : Ending) (w' : World) : Prop := e = .returned (.agg #[.int .i64 (f.1 : Int), .int .i64 (f.2 : Int)]) ∧ Below w.heap.size w w'
end Go.Proofs.YtikmjomepnbkcaaGreatDoor

namespace Go.Proofs.YtikmjomepnbkcaaGreatDoor
open Go.RowKit Go.Sort

/-- Draws and blocks behind a world. -/
def Gr (w w' : World) : Prop := ∃ (q : Nat) (os : Array Obj), w' = grow (w.drewN q) os
theorem Gr.refl (w : World) : Gr w w := ⟨0, #[], by simp [grow, World.drewN]⟩
theorem Gr.trans {a b c : World} (h : Gr a b) (k : Gr b c) : Gr a c := by
  obtain ⟨q, os, rfl⟩ := h
  obtain ⟨r, os', rfl⟩ := k
  exact ⟨q + r, os ++ os', by simp [grow, World.drewN, Array.append_assoc, Nat.add_assoc]⟩
theorem Gr.alloc {a b : World} (h : Gr a b) (o : Obj) : Gr a (b.alloc o) := h.trans ⟨0, #[o], by rw [alloc_eq_grow]; rfl⟩
theorem Gr.drew {a b : World} (h : Gr a b) : Gr a b.drew := h.trans ⟨1, #[], by simp [grow]; rfl⟩
theorem Gr.undrew {a b : World} (h : Gr a.drew b) : Gr a b := (Gr.refl a).drew.trans h
theorem Gr.below {a b : World} (h : Gr a b) : Below a.heap.size a b := by
  obtain ⟨q, os, rfl⟩ := h
  refine ⟨rfl, rfl, rfl, by simp [grow, World.drewN], fun k hk => ?_⟩
  show ((a.drewN q).heap ++ os)[k]? = _
  rw [Array.getElem?_append_left (by simpa [World.drewN] using hk)]
  rfl
theorem conv_gr (w : World) (s : ByteArray) : ∃ (N : Nat) (wb : World),
    (convert 9 46 (.string s)).run Tryz.prog w = .ok (.slice (some ⟨w.heap.size, 0, none⟩) s.size N) wb ∧ s.size ≤ N ∧ BytesAt wb w.heap.size N s.data.toList ∧ Gr w wb ∧ wb.heap.size = w.heap.size + 1 := by
  obtain ⟨N, wb, h1, h2, h3, h4, h5⟩ := conv_bytes' w s
  refine ⟨N, wb, h1, h2, h3, ?_, h5⟩
  have hr := run_bytes_of_string (P := Tryz.prog) w 9 46 5 s Tryz.underlying9 Tryz.underlying46 Tryz.underlying5
  rw [hr] at h1
  injection h1 with _ h1
  rw [← h1]
  exact (Gr.refl w).drew.alloc _
set_option maxHeartbeats 1600000 in
set_option maxRecDepth 100000 in
theorem hash_gr (id seed : ByteArray) (w : World) (h1 : id.size ≤ 1000) (h2 : seed.size ≤ 1000) :
    Calls Tryz.prog 66 #[.string id, .string seed] w fun e w' => e = .returned (.int .i64 (hashN (seed.data.toList ++ 32 :: id.data.toList))) ∧ Gr w w' := by
  have HDAT : Hid ((seed ++ ⟨#[32]⟩ ++ id).data.toList = seed.data.toList ++ 32 :: id.data.toList) := by show _ = _; simp
  have hsz : (seed ++ ⟨#[32]⟩ ++ id).size ≤ 2001 := by simp only [ByteArray.size_append]; show _ + 1 + _ ≤ _; omega
  obtain ⟨Nb, wb, hcv, hNb, hby, hbb, hzb⟩ := conv_gr w (seed ++ ⟨#[32]⟩ ++ id)
  have HZ := Lib.hid hzb; clear hzb
  have HSZ : Hid ((seed ++ ⟨#[32]⟩ ++ id).size = seed.size + 1 + id.size) := by show _ = _; simp only [ByteArray.size_append]; rfl
  go_enter Tryz.func66, Tryz.ntmps66
  go_wp2_with fail
  clear hcv
  generalize seed ++ ⟨#[32]⟩ ++ id = s at *
  have hlen : s.data.toList.length = s.size := by simp
  have HLEN := Lib.hid hlen; clear hlen
  go_loopg [5, 14] (seed.size + 1 + id.size) (fun gk v5 i wr => ∃ (k : Nat), Hid (k + gk = seed.size + 1 + id.size) ∧ i = .int .i64 k ∧ v5 = .int .u32 (fnvTo s.data.toList k) ∧ wb = wr)
  case atStart => exact ⟨0, show 0 + (seed.size + 1 + id.size) = _ by omega, rfl, rfl, rfl⟩
  case round =>
    obtain ⟨k, HK, rfl, rfl, rfl⟩ := hrel
    have hkn : k ≤ seed.size + 1 + id.size := by have := HK.out; omega
    have hz := fnvTo_range s.data.toList k
    by_cases hlt : k < seed.size + 1 + id.size
    · have hkl : k < s.data.toList.length := by rw [HLEN.out, HSZ.out]; exact hlt
      have hcell := hby.cell k hkl
      have HST := Lib.hid (fnvTo_succ s.data.toList k hkl)
      generalize s.data.toList.getD k 0 = c at *
      generalize fnvTo s.data.toList k = z at *
      have hcl : c.toNat < 256 := c.toNat_lt
      clear hkl
      go_wp2_with fail
      go_roundg (gk - 1)
      case measure => have := HK.out; omega
      case rel => exact ⟨k + 1, show k + 1 + (gk - 1) = _ by have := HK.out; omega, by go_num, by rw [HST.out]; rfl, rfl⟩
    · have hke : fnvTo s.data.toList k = fnvTo s.data.toList s.size := by
        unfold fnvTo
        rw [List.take_of_length_le (by rw [HLEN.out, HSZ.out]; omega), List.take_of_length_le (by rw [HLEN.out]; omega)]
      rw [hke] at hz ⊢
      have HHN : Hid (hashN s.data.toList = wrap64 (bits .xor .u32 (mixH (mixH (fnvTo s.data.toList s.size))) (mixH (mixH (fnvTo s.data.toList s.size)) / 8192))) := by show _ = _; unfold hashN; rw [HLEN.out]
      generalize hF : fnvTo s.data.toList s.size = F at *
      clear hke hby
      go_wp2_with fail
      refine wp_loop_rounds 3 ?_
      rw [rounds_succ]
      go_wp2_with fail
      rw [rounds_succ]
      go_wp2_with fail
      rw [rounds_succ]
      go_wp2_with fail
      go_ret
      refine ⟨ret_int ?_, hbb⟩
      rw [← HDAT.out, HHN.out]
      rfl
end Go.Proofs.YtikmjomepnbkcaaGreatDoor

namespace Go.Proofs.YtikmjomepnbkcaaGreatDoor
open Go.RowKit

abbrev Str : Type := List UInt8
theorem idxS_neg (x : Str) : ∀ (l : List Str) (i : Nat), decide (0 ≤ Lib.idxFromS (l.map bag) (bag x) i) = l.contains x
  | [], i => by simp [Lib.idxFromS]
  | y :: l, i => by
    by_cases h : y = x
    · subst h
      simp [Lib.idxFromS]
    · have h' : ¬ bag y = bag x := fun e => h (bag_inj.1 e)
      have ih := idxS_neg x l (i + 1)
      have h'' : ¬ x = y := fun e => h e.symm
      simp only [List.map_cons, Lib.idxFromS, h', if_false]
      rw [ih]
      simp [h'']
theorem containsS_bag (x : Str) (l : List Str) : Lib.containsS (l.map bag) (bag x) = l.contains x := by
  have := idxS_neg x l 0
  unfold Lib.containsS
  first | exact this | (unfold Lib.idxOfS; exact this) | (rw [← this]; simp [Lib.idxOfS])
theorem containsS_any (A : Option Addr) (n c : Nat) (l : List Str) (x : Str) (w : World) (h : StrsAt w A n c l) (hn : n ≤ 100000) :
    Calls Tryz.prog 70 #[.slice A n c, .string (bag x)] w fun e w' => e = .returned (.bool (l.contains x)) ∧ w' = w := by
  have hl := h.1
  rcases Nat.eq_zero_or_pos n with h0 | h0
  · subst h0
    have e1 : l = [] := List.eq_nil_of_length_eq_zero hl.symm
    subst e1
    exact Tryz.slices_Contains_string_empty A c (bag x) w
  · obtain ⟨g1, o1, rfl, _, _⟩ := h.str h0
    refine (Tryz.slices_Contains_string g1 o1 n c (l.map bag) (bag x) w (by simp; omega) (by omega) h.bags).mono ?_
    rintro e w' ⟨rfl, rfl⟩
    refine ⟨ret_bool ?_, rfl⟩
    rw [List.take_of_length_le (by simp; omega)]
    exact containsS_bag x l
section
variable {α : Type} {E : Elem α}
/-- Two rows of the call's own that do not share a block. -/
def ApartV (v u : Value) : Prop := ∀ i, v.ownBlock = some i → u.ownBlock ≠ some i
theorem ApartV.symm {v u : Value} (h : ApartV v u) : ApartV u v := fun i e1 e2 => h i e2 e1
theorem apart_nil (u : Value) : ApartV (.slice none 0 0) u := fun i e => by cases e
theorem ApartV.grow {w : World} {base : Nat} {v v' u : Value} {Y : List α} {o : Obj} (h : ApartV v u) (hu : Owns E w base u Y) (hv : v'.ownBlock = v.ownBlock ∨ v'.ownBlock = some (w.alloc o).heap.size) : ApartV v' u := by
  intro i e1 e2
  rcases hv with hv | hv
  · exact h i (hv ▸ e1) e2
  · rw [hv] at e1
    have e3 := Option.some.inj e1
    have := (hu.lt i e2).2
    simp at e3
    omega
theorem Owns.apart {w w' : World} {base : Nat} {v u : Value} {Y : List α} {o : Obj} (h : ApartV v u) (hu : Owns E w base u Y) (hg : (w.alloc o).grownBy w' v.ownBlock) : Owns E w' base u Y := by
  refine World.ownsRow.kept (World.ownsRow.alloc hu o) hg ?_
  cases e : u.ownBlock with
  | none => exact .inl rfl
  | some i => exact .inr (fun e2 => h i e2.symm e)
end
theorem Owns.lit {α : Type} {E : Elem α} (hE : E.Ok) (w : World) (base : Nat) (l : List α) (hb : base ≤ w.heap.size) (hl : l.length ≤ 1000) : Owns E (w.alloc (.cells (E.cells l).toArray E.t)) base (.slice (some ⟨w.heap.size, 0, none⟩) l.length l.length) l := by
  refine ⟨Elem.cells_length hE l, .inr ⟨w.heap.size, l.length, (E.cells l).toArray, rfl, hb, heap_alloc_new _ _, Nat.le_refl _, by unfold maxLen; omega, by simp [Elem.cells_length hE], ?_⟩⟩
  rw [List.take_of_length_le]
  rw [List.toList_toArray, Elem.cells_length hE]
  exact Nat.le_refl _
theorem alloc_strs (w : World) (l : List (List UInt8)) (t : TypeId) : StrsAt (w.alloc (.cells (l.map fun x => Value.string ⟨x.toArray⟩).toArray t)) (some ⟨w.heap.size, 0, none⟩) l.length l.length l := by
  refine ⟨rfl, Nat.le_refl _, (fun e => by cases e), fun _ => ⟨w.heap.size, 0, rfl, by simp, fun k x i v hk hv => ?_⟩⟩
  have hi : i = 0 := by have := (List.getElem?_eq_some_iff.1 hv).1; simp [StrE] at this; exact this
  subst hi
  simp [StrE] at hv
  subst hv
  rw [World.cell?_alloc_at _ _ _ _ rfl]
  simp [StrE, hk]
theorem bags_data (l : List (List UInt8)) : (l.map bag).map (·.data.toList) = l := by
  rw [List.map_map]
  have : ((fun b : ByteArray => b.data.toList) ∘ bag) = id := by funext x; exact bag_data x
  rw [this, List.map_id]
theorem joinC_any (A : Option Addr) (n c : Nat) (l : List Str) (d : UInt8) (w : World) (h : StrsAt w A n c l) (hn : n ≤ 100000) (hl : (Lib.join l [d]).length ≤ 1000000) :
    Calls Tryz.prog 22 #[.slice A n c, .string ⟨#[d]⟩] w fun e w' => e = .returned (.string (bag (Lib.join l [d]))) ∧ Below w.heap.size w w' := by
  have hnl := h.1
  rcases Nat.eq_zero_or_pos n with h0 | h0
  · subst h0
    have hl : l = [] := List.eq_nil_of_length_eq_zero hnl.symm
    subst hl
    refine (Tryz.strings_Join_none A c ⟨#[d]⟩ w).mono ?_
    rintro e w' ⟨rfl, rfl⟩
    exact ⟨rfl, Below.refl _ _⟩
  · obtain ⟨g, off, rfl, hg, hc⟩ := h.str h0
    subst hnl
    have hb := bags_data l
    have hj := Tryz.strings_Join g off c (l.map bag) ⟨#[d]⟩ w (fun j x hx => by
      have hjl : j < (l.map bag).length := (List.getElem?_eq_some_iff.1 hx).1
      rw [h.bags j hjl, List.getD_eq_getElem?_getD, hx]; rfl) hg (by simp; omega) (by simp; exact h.2.1) (by rw [hb]; show (Lib.join l [d]).length ≤ _; omega)
    rw [hb, List.length_map] at hj
    exact hj

end Go.Proofs.YtikmjomepnbkcaaGreatDoor

namespace Go.Proofs.YtikmjomepnbkcaaGreatDoor
open Go.RowKit Go.Maps

set_option maxHeartbeats 3200000 in
set_option maxRecDepth 100000 in
theorem placed_ok (M i : Nat) (x : Itm) (l : List Itm) (w : World) (hM : IMapAt w M l) (hl : SetI l) (hx : l[i]? = some x) :
    Calls Tryz.prog 49 #[.map (some M), x.v] w (OkPost w) := by
  have HL := Lib.hid hl
  have HX := Lib.hid hx
  have HIL : Hid (i < l.length) := (List.getElem?_eq_some_iff.1 hx).1
  have hmem := List.mem_of_getElem? hx
  have hps := ((hl.ok.each x hmem).small).2.2.2.1
  have hb1 : Below w.heap.size w (w.alloc (.cells #[.string x.id, .string x.cu, .int .i64 x.kind, .string x.name, .int .i64 x.at_, .string x.par, .string x.text] 37)) := (Below.refl _ _).alloc (Nat.le_refl _) _
  have HI1 : Hid (ItemAt (w.alloc (.cells #[.string x.id, .string x.cu, .int .i64 x.kind, .string x.name, .int .i64 x.at_, .string x.par, .string x.text] 37)) w.heap.size x) := item_new w x
  have HM1 := Lib.hid (hM.below hb1)
  have HB1 := Lib.hid hb1
  have HAB := Lib.hid (fun wx (hb : Below (w.alloc (.cells #[.string x.id, .string x.cu, .int .i64 x.kind, .string x.name, .int .i64 x.at_, .string x.par, .string x.text] 37)).heap.size (w.alloc (.cells #[.string x.id, .string x.cu, .int .i64 x.kind, .string x.name, .int .i64 x.at_, .string x.par, .string x.text] 37)) wx) => aboveP_any M i x l wx (HM1.out.below hb) hl hx)
  have hdeep := hl.ok.tree.deep i HIL.out
  unfold Itm.v at HAB
  unfold Itm.v
  clear hM hl hx hb1
  go_enter Tryz.func49, Tryz.ntmps49
  go_upto_region 1 with (fail)
  obtain ⟨P, hP⟩ : ∃ P, P = w.heap.size := ⟨_, rfl⟩
  rw [← hP] at HI1 ⊢
  generalize w.alloc (.cells #[.string x.id, .string x.cu, .int .i64 x.kind, .string x.name, .int .i64 x.at_, .string x.par, .string x.text] 37) = w1 at *
  clear hP
  obtain ⟨c0, c1, c2, c3, c4, c5, c6⟩ := HI1.out.c
  generalize (chainI l (l.length + 1) i).length = len at *
  have hli : ¬ (4 : Int) < (len : Int) := by omega
  by_cases hp : x.par.data.toList = []
  · have hlk := HM1.out.miss hps (HL.out.findEmpty hp)
    have hb2 : Below w1.heap.size w1 (w1.alloc (.cells #[.string ⟨#[]⟩, .string ⟨#[]⟩, .int .i64 0, .string ⟨#[]⟩, .int .i64 0, .string ⟨#[]⟩, .string ⟨#[]⟩] 37)) := (Below.refl _ _).alloc (Nat.le_refl _) _
    obtain ⟨q1, q2, q3⟩ := par_emptyL hp
    clear hp hmem hps
    go_upto_region 2 with (fail)
    generalize w1.alloc (.cells #[.string ⟨#[]⟩, .string ⟨#[]⟩, .int .i64 0, .string ⟨#[]⟩, .int .i64 0, .string ⟨#[]⟩, .string ⟨#[]⟩] 37) = w2 at *
    clear hlk c0 c1 c2 c3 c4 c5 c6
    obtain ⟨c0, c1, c2, c3, c4, c5, c6⟩ := (HI1.out.keep hb2).c
    go_upto_region 4 with (fail)
    clear q1 q2 q3
    go_wp2_with fail
    refine (HAB.out _ hb2).mono ?_
    rintro e w3 ⟨rfl, hb3⟩
    have HB3 := Lib.hid (HB1.out.trans ((below_trans' hb2 hb3).mono HB1.out.size))
    clear hb3 hb2 HAB c0 c1 c2 c3 c4 c5 c6
    go_wp2_with fail
    rw [show decide ((4 : Int) < (len : Int)) = false from decide_eq_false (by omega)]
    refine (when_any false 2 _).mono ?_
    rintro e w' ⟨rfl, hw⟩
    obtain rfl := hw
    go_wp2_with fail
    go_ret
    exact ⟨rfl, HB3.out⟩
  · obtain ⟨q, hq⟩ : ∃ q, findI l x.par = some q := by
      rcases HL.out.ok.par x hmem with h | h
      · exact absurd h hp
      · exact Option.isSome_iff_exists.1 h
    obtain ⟨z, hz, -, -⟩ := findI_some hq
    have HKD : Hid (z.kind = 1 ∨ z.kind = 3) := by
      obtain ⟨y, hy, hk⟩ := HL.out.ok.tree.kind i q HIL.out (by rw [parI_of HX.out hp, hq])
      rw [hz] at hy
      cases hy
      exact hk
    have hlk := HM1.out.hit hps hq hz
    have hb2 : Below w1.heap.size w1 (w1.alloc (.cells #[.string z.id, .string z.cu, .int .i64 z.kind, .string z.name, .int .i64 z.at_, .string z.par, .string z.text] 37)) := (Below.refl _ _).alloc (Nat.le_refl _) _
    have HIZ : Hid (ItemAt (w1.alloc (.cells #[.string z.id, .string z.cu, .int .i64 z.kind, .string z.name, .int .i64 z.at_, .string z.par, .string z.text] 37)) w1.heap.size z) := item_new w1 z
    obtain ⟨q1, q2, q3⟩ := par_fullL hp
    clear hp hmem hps hq hz
    go_upto_region 2 with (fail)
    obtain ⟨Q, hQ⟩ : ∃ Q, Q = w1.heap.size := ⟨_, rfl⟩
    rw [← hQ] at HIZ ⊢
    generalize w1.alloc (.cells #[.string z.id, .string z.cu, .int .i64 z.kind, .string z.name, .int .i64 z.at_, .string z.par, .string z.text] 37) = w2 at *
    clear hlk hQ c0 c1 c2 c3 c4 c5 c6
    obtain ⟨c0, c1, c2, c3, c4, c5, c6⟩ := (HI1.out.keep hb2).c
    have d2 := HIZ.out.c.2.2.1
    generalize z.kind = kd at *
    rcases HKD.out with rfl | rfl
    · go_wp2_with fail
      refine (HAB.out _ hb2).mono ?_
      rintro e w3 ⟨rfl, hb3⟩
      have HB3 := Lib.hid (HB1.out.trans ((below_trans' hb2 hb3).mono HB1.out.size))
      clear hb3 hb2 HAB c0 c1 c2 c3 c4 c5 c6
      go_wp2_with fail
      rw [show decide ((4 : Int) < (len : Int)) = false from decide_eq_false (by omega)]
      refine (when_any false 2 _).mono ?_
      rintro e w' ⟨rfl, hw⟩
      obtain rfl := hw
      go_wp2_with fail
      go_ret
      exact ⟨rfl, HB3.out⟩
    · go_wp2_with fail
      refine (HAB.out _ hb2).mono ?_
      rintro e w3 ⟨rfl, hb3⟩
      have HB3 := Lib.hid (HB1.out.trans ((below_trans' hb2 hb3).mono HB1.out.size))
      clear hb3 hb2 HAB c0 c1 c2 c3 c4 c5 c6
      go_wp2_with fail
      rw [show decide ((4 : Int) < (len : Int)) = false from decide_eq_false (by omega)]
      refine (when_any false 2 _).mono ?_
      rintro e w' ⟨rfl, hw⟩
      obtain rfl := hw
      go_wp2_with fail
      go_ret
      exact ⟨rfl, HB3.out⟩
end Go.Proofs.YtikmjomepnbkcaaGreatDoor

namespace Go.Proofs.YtikmjomepnbkcaaGreatDoor
open Go.RowKit Go.Maps

/-- Right items in the order of their ids. -/
structure SetR (l : List Itm) : Prop where
  set : SetI l
  rise : Rising (l.map fun x => x.id.data.toList)
theorem SetR.at_ {l : List Itm} (h : SetR l) {k : Nat} {x y : Itm} (h0 : 0 < k) (hx : l[k]? = some x) (hy : l[k - 1]? = some y) : (Op.bytesLess x.id.data.toList y.id.data.toList || x.id.data.toList == y.id.data.toList) = false := by
  have hk := (List.getElem?_eq_some_iff.1 hx).1
  have := h.rise.at_ h0 (by simpa using hk)
  simpa [List.getD_eq_getElem?_getD, hx, hy] using this
set_option maxHeartbeats 6400000 in
set_option maxRecDepth 100000 in
theorem check_ok (A : Option Addr) (n c : Nat) (l : List Itm) (w : World) (h : ItemsAt w A n c l) (hl : SetR l) (hT : Tabs w) (hM : MaxAt w) :
    Calls Tryz.prog 16 #[.slice A n c] w (OkPost w) := by
  have HN := Lib.hid h.1
  have HH := Lib.hid h
  have HL := Lib.hid hl
  have hn : n ≤ 2000 := by have := hl.set.few; have := h.1; omega
  have HTT : Hid (∀ w', Below w.heap.size w w' → Tabs w' ∧ MaxAt w') := fun w' hb => ⟨Tabs.below hT hb, MaxAt.below hM hb⟩
  have HBY := Lib.hid (fun wx (hb : Below w.heap.size w wx) => byId_any A n c l wx (h.keep hb) hl.set)
  have hni : ¬ (2000 : Int) < (n : Int) := by omega
  clear h hl hT hM
  go_enter Tryz.func16, Tryz.ntmps16
  go_wp2_with fail
  go_loopg [23] n (fun gk v wr => ∃ k : Nat, Hid (k + gk = n) ∧ v = .int .i64 (k : Int) ∧ Hid (Below w.heap.size w wr))
  case atStart => exact ⟨0, show 0 + n = n by omega, rfl, Below.refl _ _⟩
  case round =>
    obtain ⟨k, HK, rfl, HW⟩ := hrel
    have hkn : k ≤ n := by have := HK.out; omega
    by_cases hlt : k < n
    · have HGK := Lib.hid (show k + 1 + (gk - 1) = n ∧ 0 < gk by have := HK.out; omega)
      obtain ⟨g, off, rfl, hg, hc⟩ := (ElemsAt.keep HH.out HW.out).item (by omega)
      have hkl : k < l.length := by have := HN.out; omega
      obtain ⟨x, hx⟩ : ∃ x, l[k]? = some x := ⟨_, List.getElem?_eq_getElem hkl⟩
      obtain ⟨c0, c1, c2, c3, c4, c5, c6⟩ := hc k x hx
      have hmem := List.mem_of_getElem? hx
      have HX := Lib.hid hx
      have HC := Lib.hid hc
      have HGL := Lib.hid hg
      have hb1 : Below wr.heap.size wr (wr.alloc (.cells #[.string x.id, .string x.cu, .int .i64 x.kind, .string x.name, .int .i64 x.at_, .string x.par, .string x.text] 37)) := (Below.refl _ _).alloc (Nat.le_refl _) _
      have HI1 : Hid (ItemAt (wr.alloc (.cells #[.string x.id, .string x.cu, .int .i64 x.kind, .string x.name, .int .i64 x.at_, .string x.par, .string x.text] 37)) wr.heap.size x) := item_new wr x
      have HBE := Lib.hid hb1
      have HW1 := Lib.hid (HW.out.trans (hb1.mono HW.out.size))
      clear hc hx hkl HK hb1 hg
      go_upto_region 6 with (fail)
      obtain ⟨P, hP⟩ : ∃ P, P = wr.heap.size := ⟨_, rfl⟩
      rw [← hP] at HI1 ⊢
      generalize wr.alloc (.cells #[.string x.id, .string x.cu, .int .i64 x.kind, .string x.name, .int .i64 x.at_, .string x.par, .string x.text] 37) = w1 at *
      have HCI := Lib.hid (fun wx (hb : Below w1.heap.size w1 wx) => checkItem_ok x wx (HL.out.set.ok.each x hmem) (HTT.out wx (HW1.out.trans (hb.mono HW1.out.size))).1 (HTT.out wx (HW1.out.trans (hb.mono HW1.out.size))).2)
      clear hP c0 c1 c2 c3 c4 c5 c6 hmem
      obtain ⟨c0, c1, c2, c3, c4, c5, c6⟩ := HI1.out.c
      unfold Itm.v at HCI
      go_cut [5] (fun v wx => v = .int .i64 0 ∧ Below w1.heap.size w1 wx)
      case first =>
        by_cases h0 : k = 0
        · subst h0
          have HHELD : Hid (∀ w', Below w1.heap.size w1 w' → w'.cell? ⟨P, 0, none⟩ = some (.string x.id) ∧ w'.cell? ⟨P, 1, none⟩ = some (.string x.cu) ∧ w'.cell? ⟨P, 2, none⟩ = some (.int .i64 x.kind) ∧ w'.cell? ⟨P, 3, none⟩ = some (.string x.name) ∧ w'.cell? ⟨P, 4, none⟩ = some (.int .i64 x.at_) ∧ w'.cell? ⟨P, 5, none⟩ = some (.string x.par) ∧ w'.cell? ⟨P, 6, none⟩ = some (.string x.text) ∧ Below w1.heap.size w1 w') := fun w' hb => by
            obtain ⟨d0, d1, d2, d3, d4, d5, d6⟩ := (HI1.out.keep hb).c
            exact ⟨d0, d1, d2, d3, d4, d5, d6, hb⟩
          refine wp_region_held_drew (S := fun w' => w'.cell? ⟨P, 0, none⟩ = some (.string x.id) ∧ w'.cell? ⟨P, 1, none⟩ = some (.string x.cu) ∧ w'.cell? ⟨P, 2, none⟩ = some (.int .i64 x.kind) ∧ w'.cell? ⟨P, 3, none⟩ = some (.string x.name) ∧ w'.cell? ⟨P, 4, none⟩ = some (.int .i64 x.at_) ∧ w'.cell? ⟨P, 5, none⟩ = some (.string x.par) ∧ w'.cell? ⟨P, 6, none⟩ = some (.string x.text) ∧ Below w1.heap.size w1 w') (by kernel_rfl) (HHELD.out _ (Below.refl _ _).drew) (fun hHeld => ?_)
          refine wpAnyH_take (i := 0) (oi := ⟨some 28, _, _, _, _, _⟩) (v := .agg #[.string x.id, .string x.cu, .int .i64 x.kind, .string x.name, .int .i64 x.at_, .string x.par, .string x.text]) rfl (by kernel_rfl) (by kernel_rfl) (by kernel_rfl) (fun _ _ _ h => h) (Or.inl ⟨by rfl, ?_⟩) hHeld ?_
          · intro w hSw
            (try dsimp only at hSw)
            go_simp
          simp only [Act.put, List.setIfInBounds_toArray, List.set_cons_zero, List.set_cons_succ]
          refine wpAnyH_take (i := 2) (oi := ⟨some 30, _, _, _, _, _⟩) (v := .int .i64 0) rfl (by kernel_rfl) (by kernel_rfl) (by kernel_rfl) (fun _ _ _ h => h) (Or.inl ⟨by rfl, ?_⟩) hHeld ?_
          · intro w hSw
            (try dsimp only at hSw)
            go_simp
          simp only [Act.put, List.setIfInBounds_toArray, List.set_cons_zero, List.set_cons_succ]
          refine wpAnyH_take (i := 3) (oi := ⟨some 31, _, _, _, _, _⟩) (v := .bool false) rfl (by kernel_rfl) (by kernel_rfl) (by kernel_rfl) (fun _ _ _ h => h) (Or.inl ⟨by rfl, ?_⟩) hHeld ?_
          · intro w hSw
            (try dsimp only at hSw)
            go_simp
          simp only [Act.put, List.setIfInBounds_toArray, List.set_cons_zero, List.set_cons_succ]
          refine wpAnyH_ready (rs := [1]) (by kernel_rfl) (by simp) ?_
          refine AllReadyH.cons (o := ⟨some 29, _, _, _, _, _⟩) rfl (fun K hK => ?_) AllReadyH.nil
          rw [if_pos (by rfl)]
          go_wp2_with fail
          refine Calls.mono (HCI.out _ (Below.refl _ _).drew) ?_
          rintro e w6 ⟨rfl, hb6⟩
          have hx0 : Below w1.heap.size w1 w6 := by first | exact hb6 | exact belowUI hb6 | fail
          clear hHeld hb6
          refine hK.out _ _ (HHELD.out _ hx0) (fun hHeld => ?_)
          clear hK
          (try simp only [Act.put, List.setIfInBounds_toArray, List.set_cons_zero, List.set_cons_succ])
          refine wpAnyH_take (i := 4) (oi := ⟨some 32, _, _, _, _, _⟩) (v := .bool false) rfl (by kernel_rfl) (by kernel_rfl) (by kernel_rfl) (fun _ _ _ h => h) (Or.inl ⟨by rfl, ?_⟩) hHeld ?_
          · intro w hSw
            (try dsimp only at hSw)
            go_simp
          simp only [Act.put, List.setIfInBounds_toArray, List.set_cons_zero, List.set_cons_succ]
          refine wpAnyH_take (i := 5) (oi := ⟨some 33, _, _, _, _, _⟩) (v := undef) rfl (by kernel_rfl) (by kernel_rfl) (by kernel_rfl) (fun _ _ _ h => h) (Or.inr ⟨by rfl, rfl⟩) hHeld ?_
          simp only [Act.put, List.setIfInBounds_toArray, List.set_cons_zero, List.set_cons_succ]
          refine wpAnyH_take (i := 6) (oi := ⟨some 34, _, _, _, _, _⟩) (v := undef) rfl (by kernel_rfl) (by kernel_rfl) (by kernel_rfl) (fun _ _ _ h => h) (Or.inr ⟨by rfl, rfl⟩) hHeld ?_
          simp only [Act.put, List.setIfInBounds_toArray, List.set_cons_zero, List.set_cons_succ]
          refine wpAnyH_take (i := 7) (oi := ⟨some 35, _, _, _, _, _⟩) (v := undef) rfl (by kernel_rfl) (by kernel_rfl) (by kernel_rfl) (fun _ _ _ h => h) (Or.inr ⟨by rfl, rfl⟩) hHeld ?_
          simp only [Act.put, List.setIfInBounds_toArray, List.set_cons_zero, List.set_cons_succ]
          refine wpAnyH_take (i := 8) (oi := ⟨some 36, _, _, _, _, _⟩) (v := undef) rfl (by kernel_rfl) (by kernel_rfl) (by kernel_rfl) (fun _ _ _ h => h) (Or.inr ⟨by rfl, rfl⟩) hHeld ?_
          simp only [Act.put, List.setIfInBounds_toArray, List.set_cons_zero, List.set_cons_succ]
          refine wpAnyH_take (i := 9) (oi := ⟨some 37, _, _, _, _, _⟩) (v := undef) rfl (by kernel_rfl) (by kernel_rfl) (by kernel_rfl) (fun _ _ _ h => h) (Or.inr ⟨by rfl, rfl⟩) hHeld ?_
          simp only [Act.put, List.setIfInBounds_toArray, List.set_cons_zero, List.set_cons_succ]
          refine wpAnyH_take (i := 10) (oi := ⟨some 38, _, _, _, _, _⟩) (v := undef) rfl (by kernel_rfl) (by kernel_rfl) (by kernel_rfl) (fun _ _ _ h => h) (Or.inr ⟨by rfl, rfl⟩) hHeld ?_
          simp only [Act.put, List.setIfInBounds_toArray, List.set_cons_zero, List.set_cons_succ]
          refine wpAnyH_take (i := 11) (oi := ⟨some 39, _, _, _, _, _⟩) (v := undef) rfl (by kernel_rfl) (by kernel_rfl) (by kernel_rfl) (fun _ _ _ h => h) (Or.inr ⟨by rfl, rfl⟩) hHeld ?_
          simp only [Act.put, List.setIfInBounds_toArray, List.set_cons_zero, List.set_cons_succ]
          refine wpAnyH_take (i := 12) (oi := ⟨some 40, _, _, _, _, _⟩) (v := undef) rfl (by kernel_rfl) (by kernel_rfl) (by kernel_rfl) (fun _ _ _ h => h) (Or.inr ⟨by rfl, rfl⟩) hHeld ?_
          simp only [Act.put, List.setIfInBounds_toArray, List.set_cons_zero, List.set_cons_succ]
          refine wpAnyH_take (i := 13) (oi := ⟨some 41, _, _, _, _, _⟩) (v := undef) rfl (by kernel_rfl) (by kernel_rfl) (by kernel_rfl) (fun _ _ _ h => h) (Or.inr ⟨by rfl, rfl⟩) hHeld ?_
          simp only [Act.put, List.setIfInBounds_toArray, List.set_cons_zero, List.set_cons_succ]
          refine wpAnyH_take (i := 14) (oi := ⟨some 42, _, _, _, _, _⟩) (v := undef) rfl (by kernel_rfl) (by kernel_rfl) (by kernel_rfl) (fun _ _ _ h => h) (Or.inr ⟨by rfl, rfl⟩) hHeld ?_
          simp only [Act.put, List.setIfInBounds_toArray, List.set_cons_zero, List.set_cons_succ]
          refine wpAnyH_take (i := 15) (oi := ⟨some 43, _, _, _, _, _⟩) (v := .bool false) rfl (by kernel_rfl) (by kernel_rfl) (by kernel_rfl) (fun _ _ _ h => h) (Or.inl ⟨by rfl, ?_⟩) hHeld ?_
          · intro w hSw
            (try dsimp only at hSw)
            go_simp
          simp only [Act.put, List.setIfInBounds_toArray, List.set_cons_zero, List.set_cons_succ]
          refine wpAnyH_ready (rs := [16]) (by kernel_rfl) (by simp) ?_
          refine AllReadyH.cons (o := ⟨some 44, _, _, _, _, _⟩) rfl (fun K hK => ?_) AllReadyH.nil
          rw [if_pos (by rfl)]
          go_wp2_with fail
          refine Calls.mono (when_any false 7 _) ?_
          rintro e w7 ⟨rfl, hw7⟩
          subst hw7
          clear hHeld
          refine hK.out _ _ (HHELD.out _ hx0) (fun hHeld => ?_)
          clear hK
          (try simp only [Act.put, List.setIfInBounds_toArray, List.set_cons_zero, List.set_cons_succ])
          refine wpAnyH_ready (rs := [17]) (by kernel_rfl) (by simp) ?_
          refine AllReadyH.cons (o := ⟨some 45, _, _, _, _, _⟩) rfl (fun K hK => ?_) AllReadyH.nil
          rw [if_pos (by rfl)]
          go_wp2_with fail
          clear hHeld
          refine hK.out _ _ (HHELD.out _ (hx0.alloc hx0.size _)) (fun hHeld => ?_)
          clear hK
          (try simp only [Act.put, List.setIfInBounds_toArray, List.set_cons_zero, List.set_cons_succ])
          refine wpAnyH_ready (rs := [18]) (by kernel_rfl) (by simp) ?_
          refine AllReadyH.cons (o := ⟨some 46, _, _, _, _, _⟩) rfl (fun K hK => ?_) AllReadyH.nil
          rw [if_pos (by rfl)]
          go_wp2_with fail
          refine Calls.mono (first_2z _ _ rfl _) ?_
          rintro e w8 ⟨rfl, hw8⟩
          have hy0 : Below w1.heap.size w1 w8 := by rw [← hw8]; exact hx0.alloc hx0.size _
          clear hHeld hw8
          refine hK.out _ _ (HHELD.out _ hy0) (fun hHeld => ?_)
          clear hK
          (try simp only [Act.put, List.setIfInBounds_toArray, List.set_cons_zero, List.set_cons_succ])
          refine wpAnyH_take (i := 19) (oi := ⟨some 5, _, _, _, _, _⟩) (v := .int .i64 0) rfl (by kernel_rfl) (by kernel_rfl) (by kernel_rfl) (fun _ _ _ h => h) (Or.inl ⟨by rfl, ?_⟩) hHeld ?_
          · intro w hSw
            (try dsimp only at hSw)
            go_simp
          simp only [Act.put, List.setIfInBounds_toArray, List.set_cons_zero, List.set_cons_succ]
          refine wpAnyH_done (by kernel_rfl) ?_ _
          go_wp2_with fail
          go_meet
          exact ⟨rfl, hy0⟩
        · have hk0 : 0 < k := by omega
          obtain ⟨y, hy⟩ : ∃ y, l[k - 1]? = some y := ⟨_, List.getElem?_eq_getElem (by have := HN.out; omega)⟩
          have hle := HL.out.at_ hk0 HX.out hy
          have HY0 : Hid (∀ w', Below w1.heap.size w1 w' → w'.cell? ⟨g, off + (k - 1) * 7, none⟩ = some (.string y.id)) := fun w' hb => ((HBE.out.trans (hb.mono HBE.out.size)).cell (p := ⟨g, off + (k - 1) * 7, none⟩) HGL.out).trans (HC.out (k - 1) y hy).1
          have hki : (0 : Int) < (k : Int) := by omega
          have hmax : max (k : Int) 1 = (k : Int) := by omega
          have hle2 : (Op.bytesLess x.id.toList y.id.toList || x.id.toList == y.id.toList) = false := by rw [Lib.toList_data, Lib.toList_data]; exact hle
          have HHELD : Hid (∀ w', Below w1.heap.size w1 w' → w'.cell? ⟨P, 0, none⟩ = some (.string x.id) ∧ w'.cell? ⟨P, 1, none⟩ = some (.string x.cu) ∧ w'.cell? ⟨P, 2, none⟩ = some (.int .i64 x.kind) ∧ w'.cell? ⟨P, 3, none⟩ = some (.string x.name) ∧ w'.cell? ⟨P, 4, none⟩ = some (.int .i64 x.at_) ∧ w'.cell? ⟨P, 5, none⟩ = some (.string x.par) ∧ w'.cell? ⟨P, 6, none⟩ = some (.string x.text) ∧ w'.cell? ⟨g, off + (k - 1) * 7, none⟩ = some (.string y.id) ∧ Below w1.heap.size w1 w') := fun w' hb => by
            obtain ⟨d0, d1, d2, d3, d4, d5, d6⟩ := (HI1.out.keep hb).c
            exact ⟨d0, d1, d2, d3, d4, d5, d6, HY0.out w' hb, hb⟩
          have hy0' := HY0.out w1 (Below.refl _ _)
          have hkj0 : (0 : Int) ≤ (k : Int) - 1 := by omega
          have hkj1 : (k : Int) - 1 < (n : Int) := by omega
          clear hle HY0 hy
          generalize y.id = yid at *
          refine wp_region_held_drew (S := fun w' => w'.cell? ⟨P, 0, none⟩ = some (.string x.id) ∧ w'.cell? ⟨P, 1, none⟩ = some (.string x.cu) ∧ w'.cell? ⟨P, 2, none⟩ = some (.int .i64 x.kind) ∧ w'.cell? ⟨P, 3, none⟩ = some (.string x.name) ∧ w'.cell? ⟨P, 4, none⟩ = some (.int .i64 x.at_) ∧ w'.cell? ⟨P, 5, none⟩ = some (.string x.par) ∧ w'.cell? ⟨P, 6, none⟩ = some (.string x.text) ∧ w'.cell? ⟨g, off + (k - 1) * 7, none⟩ = some (.string yid) ∧ Below w1.heap.size w1 w') (by kernel_rfl) (HHELD.out _ (Below.refl _ _).drew) (fun hHeld => ?_)
          refine wpAnyH_take (i := 0) (oi := ⟨some 28, _, _, _, _, _⟩) (v := .agg #[.string x.id, .string x.cu, .int .i64 x.kind, .string x.name, .int .i64 x.at_, .string x.par, .string x.text]) rfl (by kernel_rfl) (by kernel_rfl) (by kernel_rfl) (fun _ _ _ h => h) (Or.inl ⟨by rfl, ?_⟩) hHeld ?_
          · intro w hSw
            (try dsimp only at hSw)
            go_simp
          simp only [Act.put, List.setIfInBounds_toArray, List.set_cons_zero, List.set_cons_succ]
          refine wpAnyH_take (i := 2) (oi := ⟨some 30, _, _, _, _, _⟩) (v := .int .i64 (k : Int)) rfl (by kernel_rfl) (by kernel_rfl) (by kernel_rfl) (fun _ _ _ h => h) (Or.inl ⟨by rfl, ?_⟩) hHeld ?_
          · intro w hSw
            (try dsimp only at hSw)
            go_simp
          simp only [Act.put, List.setIfInBounds_toArray, List.set_cons_zero, List.set_cons_succ]
          refine wpAnyH_take (i := 3) (oi := ⟨some 31, _, _, _, _, _⟩) (v := .bool true) rfl (by kernel_rfl) (by kernel_rfl) (by kernel_rfl) (fun _ _ _ h => h) (Or.inl ⟨by rfl, ?_⟩) hHeld ?_
          · intro w hSw
            (try dsimp only at hSw)
            go_simp
          simp only [Act.put, List.setIfInBounds_toArray, List.set_cons_zero, List.set_cons_succ]
          refine wpAnyH_ready (rs := [1]) (by kernel_rfl) (by simp) ?_
          refine AllReadyH.cons (o := ⟨some 29, _, _, _, _, _⟩) rfl (fun K hK => ?_) AllReadyH.nil
          rw [if_pos (by rfl)]
          go_wp2_with fail
          refine Calls.mono (HCI.out _ (Below.refl _ _).drew) ?_
          rintro e w6 ⟨rfl, hb6⟩
          have hx0 : Below w1.heap.size w1 w6 := by first | exact hb6 | exact belowUI hb6 | fail
          clear hHeld hb6
          refine hK.out _ _ (HHELD.out _ hx0) (fun hHeld => ?_)
          clear hK
          (try simp only [Act.put, List.setIfInBounds_toArray, List.set_cons_zero, List.set_cons_succ])
          refine wpAnyH_take (i := 4) (oi := ⟨some 32, _, _, _, _, _⟩) (v := .bool true) rfl (by kernel_rfl) (by kernel_rfl) (by kernel_rfl) (fun _ _ _ h => h) (Or.inl ⟨by rfl, ?_⟩) hHeld ?_
          · intro w hSw
            (try dsimp only at hSw)
            go_simp
          simp only [Act.put, List.setIfInBounds_toArray, List.set_cons_zero, List.set_cons_succ]
          refine wpAnyH_take (i := 5) (oi := ⟨some 33, _, _, _, _, _⟩) (v := .pointer (some ⟨P, 0, none⟩)) rfl (by kernel_rfl) (by kernel_rfl) (by kernel_rfl) (fun _ _ _ h => h) (Or.inl ⟨by rfl, ?_⟩) hHeld ?_
          · intro w hSw
            (try dsimp only at hSw)
            go_simp
          simp only [Act.put, List.setIfInBounds_toArray, List.set_cons_zero, List.set_cons_succ]
          refine wpAnyH_take (i := 6) (oi := ⟨some 34, _, _, _, _, _⟩) (v := .string x.id) rfl (by kernel_rfl) (by kernel_rfl) (by kernel_rfl) (fun _ _ _ h => h) (Or.inl ⟨by rfl, ?_⟩) hHeld ?_
          · intro w hSw
            (try dsimp only at hSw)
            go_simp
          simp only [Act.put, List.setIfInBounds_toArray, List.set_cons_zero, List.set_cons_succ]
          refine wpAnyH_take (i := 7) (oi := ⟨some 35, _, _, _, _, _⟩) (v := .slice (some ⟨g, off, none⟩) n c) rfl (by kernel_rfl) (by kernel_rfl) (by kernel_rfl) (fun _ _ _ h => h) (Or.inl ⟨by rfl, ?_⟩) hHeld ?_
          · intro w hSw
            (try dsimp only at hSw)
            go_simp
          simp only [Act.put, List.setIfInBounds_toArray, List.set_cons_zero, List.set_cons_succ]
          refine wpAnyH_take (i := 8) (oi := ⟨some 36, _, _, _, _, _⟩) (v := .int .i64 (k : Int)) rfl (by kernel_rfl) (by kernel_rfl) (by kernel_rfl) (fun _ _ _ h => h) (Or.inl ⟨by rfl, ?_⟩) hHeld ?_
          · intro w hSw
            (try dsimp only at hSw)
            go_simp
          simp only [Act.put, List.setIfInBounds_toArray, List.set_cons_zero, List.set_cons_succ]
          refine wpAnyH_take (i := 9) (oi := ⟨some 37, _, _, _, _, _⟩) (v := .int .i64 (k : Int)) rfl (by kernel_rfl) (by kernel_rfl) (by kernel_rfl) (fun _ _ _ h => h) (Or.inl ⟨by rfl, ?_⟩) hHeld ?_
          · intro w hSw
            (try dsimp only at hSw)
            go_simp
          simp only [Act.put, List.setIfInBounds_toArray, List.set_cons_zero, List.set_cons_succ]
          refine wpAnyH_take (i := 10) (oi := ⟨some 38, _, _, _, _, _⟩) (v := .int .i64 ((k : Int) - 1)) rfl (by kernel_rfl) (by kernel_rfl) (by kernel_rfl) (fun _ _ _ h => h) (Or.inl ⟨by rfl, ?_⟩) hHeld ?_
          · intro w hSw
            (try dsimp only at hSw)
            go_simp
            exact IntWalk.i64_in _ (by omega)
          simp only [Act.put, List.setIfInBounds_toArray, List.set_cons_zero, List.set_cons_succ]
          refine wpAnyH_take (i := 11) (oi := ⟨some 39, _, _, _, _, _⟩) (v := .pointer (some ⟨g, off + (k - 1) * 7, none⟩)) rfl (by kernel_rfl) (by kernel_rfl) (by kernel_rfl) (fun _ _ _ h => h) (Or.inl ⟨by rfl, ?_⟩) hHeld ?_
          · intro w hSw
            (try dsimp only at hSw)
            go_simp
            intro hcon
            exfalso
            omega
          simp only [Act.put, List.setIfInBounds_toArray, List.set_cons_zero, List.set_cons_succ]
          refine wpAnyH_take (i := 12) (oi := ⟨some 40, _, _, _, _, _⟩) (v := .pointer (some ⟨g, off + (k - 1) * 7, none⟩)) rfl (by kernel_rfl) (by kernel_rfl) (by kernel_rfl) (fun _ _ _ h => h) (Or.inl ⟨by rfl, ?_⟩) hHeld ?_
          · intro w hSw
            (try dsimp only at hSw)
            go_simp
          simp only [Act.put, List.setIfInBounds_toArray, List.set_cons_zero, List.set_cons_succ]
          refine wpAnyH_take (i := 13) (oi := ⟨some 41, _, _, _, _, _⟩) (v := .string yid) rfl (by kernel_rfl) (by kernel_rfl) (by kernel_rfl) (fun _ _ _ h => h) (Or.inl ⟨by rfl, ?_⟩) hHeld ?_
          · intro w hSw
            (try dsimp only at hSw)
            go_simp
          simp only [Act.put, List.setIfInBounds_toArray, List.set_cons_zero, List.set_cons_succ]
          refine wpAnyH_take (i := 14) (oi := ⟨some 42, _, _, _, _, _⟩) (v := .bool false) rfl (by kernel_rfl) (by kernel_rfl) (by kernel_rfl) (fun _ _ _ h => h) (Or.inl ⟨by rfl, ?_⟩) hHeld ?_
          · intro w hSw
            (try dsimp only at hSw)
            go_simp
          simp only [Act.put, List.setIfInBounds_toArray, List.set_cons_zero, List.set_cons_succ]
          refine wpAnyH_take (i := 15) (oi := ⟨some 43, _, _, _, _, _⟩) (v := .bool false) rfl (by kernel_rfl) (by kernel_rfl) (by kernel_rfl) (fun _ _ _ h => h) (Or.inl ⟨by rfl, ?_⟩) hHeld ?_
          · intro w hSw
            (try dsimp only at hSw)
            go_simp
          simp only [Act.put, List.setIfInBounds_toArray, List.set_cons_zero, List.set_cons_succ]
          refine wpAnyH_ready (rs := [16]) (by kernel_rfl) (by simp) ?_
          refine AllReadyH.cons (o := ⟨some 44, _, _, _, _, _⟩) rfl (fun K hK => ?_) AllReadyH.nil
          rw [if_pos (by rfl)]
          go_wp2_with fail
          refine Calls.mono (when_any false 7 _) ?_
          rintro e w7 ⟨rfl, hw7⟩
          subst hw7
          clear hHeld
          refine hK.out _ _ (HHELD.out _ hx0) (fun hHeld => ?_)
          clear hK
          (try simp only [Act.put, List.setIfInBounds_toArray, List.set_cons_zero, List.set_cons_succ])
          refine wpAnyH_ready (rs := [17]) (by kernel_rfl) (by simp) ?_
          refine AllReadyH.cons (o := ⟨some 45, _, _, _, _, _⟩) rfl (fun K hK => ?_) AllReadyH.nil
          rw [if_pos (by rfl)]
          go_wp2_with fail
          clear hHeld
          refine hK.out _ _ (HHELD.out _ (hx0.alloc hx0.size _)) (fun hHeld => ?_)
          clear hK
          (try simp only [Act.put, List.setIfInBounds_toArray, List.set_cons_zero, List.set_cons_succ])
          refine wpAnyH_ready (rs := [18]) (by kernel_rfl) (by simp) ?_
          refine AllReadyH.cons (o := ⟨some 46, _, _, _, _, _⟩) rfl (fun K hK => ?_) AllReadyH.nil
          rw [if_pos (by rfl)]
          go_wp2_with fail
          refine Calls.mono (first_2z _ _ rfl _) ?_
          rintro e w8 ⟨rfl, hw8⟩
          have hy0 : Below w1.heap.size w1 w8 := by rw [← hw8]; exact hx0.alloc hx0.size _
          clear hHeld hw8
          refine hK.out _ _ (HHELD.out _ hy0) (fun hHeld => ?_)
          clear hK
          (try simp only [Act.put, List.setIfInBounds_toArray, List.set_cons_zero, List.set_cons_succ])
          refine wpAnyH_take (i := 19) (oi := ⟨some 5, _, _, _, _, _⟩) (v := .int .i64 0) rfl (by kernel_rfl) (by kernel_rfl) (by kernel_rfl) (fun _ _ _ h => h) (Or.inl ⟨by rfl, ?_⟩) hHeld ?_
          · intro w hSw
            (try dsimp only at hSw)
            go_simp
          simp only [Act.put, List.setIfInBounds_toArray, List.set_cons_zero, List.set_cons_succ]
          refine wpAnyH_done (by kernel_rfl) ?_ _
          go_wp2_with fail
          go_meet
          exact ⟨rfl, hy0⟩
      case rest =>
        obtain ⟨rfl, hbc⟩ := hcut
        have HW2 := Lib.hid (HW1.out.trans (hbc.mono HW1.out.size))
        clear hbc c0 c1 c2 c3 c4 c5 c6 HCI
        go_wp2_with fail
        go_roundg (gk - 1)
        case measure => exact Nat.sub_lt HGK.out.2 Nat.one_pos
        case rel => exact ⟨k + 1, HGK.out.1, by go_num, HW2.out⟩
    · have hnk : ¬ (k : Int) < (n : Int) := by omega
      have HB0 := Lib.hid (HBY.out wr HW.out)
      have HW0 := Lib.hid HW.out
      clear HK HW hkn hlt HBY
      obtain ⟨ko, rfl⟩ : ∃ ko : Nat, ko = k := ⟨_, rfl⟩
      go_wp2_with fail
      refine HB0.out.mono ?_
      rintro e w0 ⟨M, rfl, -, hm0, hb0⟩
      have HWE := Lib.hid (HW0.out.trans (hb0.mono HW0.out.size))
      have HME := Lib.hid hm0
      clear hb0 hm0 HB0 HW0 hnk
      go_wp2_with fail
      go_loopg [55] n (fun gk v wr => ∃ k : Nat, Hid (k + gk = n) ∧ v = .int .i64 (k : Int) ∧ Hid (Below w.heap.size w wr) ∧ Hid (IMapAt wr M l))
      case atStart => exact ⟨0, show 0 + n = n by omega, rfl, HWE.out, HME.out⟩
      case round =>
        clear HWE HME
        obtain ⟨k, HK, rfl, HW, HMP⟩ := hrel
        have hkn : k ≤ n := by have := HK.out; omega
        by_cases hlt : k < n
        · have HGK := Lib.hid (show k + 1 + (gk - 1) = n ∧ 0 < gk by have := HK.out; omega)
          obtain ⟨g, off, rfl, hg, hc⟩ := (ElemsAt.keep HH.out HW.out).item (by omega)
          have hkl : k < l.length := by have := HN.out; omega
          obtain ⟨x, hx⟩ : ∃ x, l[k]? = some x := ⟨_, List.getElem?_eq_getElem hkl⟩
          obtain ⟨c0, c1, c2, c3, c4, c5, c6⟩ := hc k x hx
          have hmem := List.mem_of_getElem? hx
          have HX := Lib.hid hx
          have hb1 : Below wr.heap.size wr (wr.alloc (.cells #[.string x.id, .string x.cu, .int .i64 x.kind, .string x.name, .int .i64 x.at_, .string x.par, .string x.text] 37)) := (Below.refl _ _).alloc (Nat.le_refl _) _
          have HI1 : Hid (ItemAt (wr.alloc (.cells #[.string x.id, .string x.cu, .int .i64 x.kind, .string x.name, .int .i64 x.at_, .string x.par, .string x.text] 37)) wr.heap.size x) := item_new wr x
          have HW1 := Lib.hid (HW.out.trans (hb1.mono HW.out.size))
          have HM1 := Lib.hid (HMP.out.below hb1)
          clear hc hx hkl HK hb1 hg HMP HW
          go_upto_region 14 with (fail)
          obtain ⟨P, hP⟩ : ∃ P, P = wr.heap.size := ⟨_, rfl⟩
          rw [← hP] at HI1 ⊢
          generalize wr.alloc (.cells #[.string x.id, .string x.cu, .int .i64 x.kind, .string x.name, .int .i64 x.at_, .string x.par, .string x.text] 37) = w1 at *
          clear hP c0 c1 c2 c3 c4 c5 c6
          obtain ⟨c0, c1, c2, c3, c4, c5, c6⟩ := HI1.out.c
          have hps := ((HL.out.set.ok.each x hmem).small).2.2.2.1
          by_cases hp : x.par.data.toList = []
          · have hlk := HM1.out.miss hps (HL.out.set.findEmpty hp)
            have hb2 : Below w1.heap.size w1 (w1.alloc (.cells #[.string ⟨#[]⟩, .string ⟨#[]⟩, .int .i64 0, .string ⟨#[]⟩, .int .i64 0, .string ⟨#[]⟩, .string ⟨#[]⟩] 37)) := (Below.refl _ _).alloc (Nat.le_refl _) _
            have HW2 := Lib.hid (HW1.out.trans (hb2.mono HW1.out.size))
            have HM2 := Lib.hid (HM1.out.below hb2)
            have HI2 := Lib.hid (HI1.out.keep hb2)
            obtain ⟨q1, q2, q3⟩ := par_emptyL hp
            clear hp hmem hps hb2
            go_upto_region 15 with (fail)
            generalize w1.alloc (.cells #[.string ⟨#[]⟩, .string ⟨#[]⟩, .int .i64 0, .string ⟨#[]⟩, .int .i64 0, .string ⟨#[]⟩, .string ⟨#[]⟩] 37) = w2 at *
            clear hlk c0 c1 c2 c3 c4 c5 c6
            obtain ⟨c0, c1, c2, c3, c4, c5, c6⟩ := HI2.out.c
            go_wp2_with fail
            go_roundg (gk - 1)
            case measure => exact Nat.sub_lt HGK.out.2 Nat.one_pos
            case rel => exact ⟨k + 1, HGK.out.1, by go_num, HW2.out, HM2.out⟩
          · obtain ⟨q, hq⟩ : ∃ q, findI l x.par = some q := by
              rcases HL.out.set.ok.par x hmem with h | h
              · exact absurd h hp
              · exact Option.isSome_iff_exists.1 h
            obtain ⟨z, hz, -, -⟩ := findI_some hq
            have hlk := HM1.out.hit hps hq hz
            have hb2 : Below w1.heap.size w1 (w1.alloc (.cells #[.string z.id, .string z.cu, .int .i64 z.kind, .string z.name, .int .i64 z.at_, .string z.par, .string z.text] 37)) := (Below.refl _ _).alloc (Nat.le_refl _) _
            have HW2 := Lib.hid (HW1.out.trans (hb2.mono HW1.out.size))
            have HM2 := Lib.hid (HM1.out.below hb2)
            have HI2 := Lib.hid (HI1.out.keep hb2)
            obtain ⟨q1, q2, q3⟩ := par_fullL hp
            clear hp hmem hps hq hz hb2
            go_upto_region 15 with (fail)
            generalize w1.alloc (.cells #[.string z.id, .string z.cu, .int .i64 z.kind, .string z.name, .int .i64 z.at_, .string z.par, .string z.text] 37) = w2 at *
            clear hlk c0 c1 c2 c3 c4 c5 c6
            obtain ⟨c0, c1, c2, c3, c4, c5, c6⟩ := HI2.out.c
            go_wp2_with fail
            go_roundg (gk - 1)
            case measure => exact Nat.sub_lt HGK.out.2 Nat.one_pos
            case rel => exact ⟨k + 1, HGK.out.1, by go_num, HW2.out, HM2.out⟩
        · have hnk : ¬ (k : Int) < (n : Int) := by omega
          have HWE := Lib.hid HW.out
          have HME := Lib.hid HMP.out
          clear HK HW HMP hkn
          obtain ⟨ko, rfl⟩ : ∃ ko : Nat, ko = k := ⟨_, rfl⟩
          go_wp2_with fail
          go_loopg [76] n (fun gk v wr => ∃ k : Nat, Hid (k + gk = n) ∧ v = .int .i64 (k : Int) ∧ Hid (Below w.heap.size w wr) ∧ Hid (IMapAt wr M l))
          case atStart => exact ⟨0, show 0 + n = n by omega, rfl, HWE.out, HME.out⟩
          case round =>
            clear HWE HME hnk hlt
            obtain ⟨k, HK, rfl, HW, HMP⟩ := hrel
            have hkn : k ≤ n := by have := HK.out; omega
            by_cases hlt : k < n
            · have HGK := Lib.hid (show k + 1 + (gk - 1) = n ∧ 0 < gk by have := HK.out; omega)
              obtain ⟨g, off, rfl, hg, hc⟩ := (ElemsAt.keep HH.out HW.out).item (by omega)
              have hkl : k < l.length := by have := HN.out; omega
              obtain ⟨x, hx⟩ : ∃ x, l[k]? = some x := ⟨_, List.getElem?_eq_getElem hkl⟩
              obtain ⟨c0, c1, c2, c3, c4, c5, c6⟩ := hc k x hx
              have hmem := List.mem_of_getElem? hx
              have HX := Lib.hid hx
              have hb1 : Below wr.heap.size wr (wr.alloc (.cells #[.string x.id, .string x.cu, .int .i64 x.kind, .string x.name, .int .i64 x.at_, .string x.par, .string x.text] 37)) := (Below.refl _ _).alloc (Nat.le_refl _) _
              have HI1 : Hid (ItemAt (wr.alloc (.cells #[.string x.id, .string x.cu, .int .i64 x.kind, .string x.name, .int .i64 x.at_, .string x.par, .string x.text] 37)) wr.heap.size x) := item_new wr x
              have HW1 := Lib.hid (HW.out.trans (hb1.mono HW.out.size))
              have HM1 := Lib.hid (HMP.out.below hb1)
              clear hc hx hkl HK hb1 hg HMP HW
              go_upto_region 21 with (fail)
              obtain ⟨P, hP⟩ : ∃ P, P = wr.heap.size := ⟨_, rfl⟩
              rw [← hP] at HI1 ⊢
              generalize wr.alloc (.cells #[.string x.id, .string x.cu, .int .i64 x.kind, .string x.name, .int .i64 x.at_, .string x.par, .string x.text] 37) = w1 at *
              clear hP c0 c1 c2 c3 c4 c5 c6
              obtain ⟨c0, c1, c2, c3, c4, c5, c6⟩ := HI1.out.c
              have HAB := Lib.hid (aboveP_any M k x l w1 HM1.out HL.out.set HX.out)
              unfold Itm.v at HAB
              clear hmem
              go_wp2_with fail
              refine HAB.out.mono ?_
              rintro e w2 ⟨rfl, hb2⟩
              have HW2 := Lib.hid (HW1.out.trans (hb2.mono HW1.out.size))
              have HM2 := Lib.hid (HM1.out.below hb2)
              clear hb2 HAB c0 c1 c2 c3 c4 c5 c6
              generalize (chainI l (l.length + 1) k).length = len at *
              go_wp2_with fail
              go_roundg (gk - 1)
              case measure => exact Nat.sub_lt HGK.out.2 Nat.one_pos
              case rel => exact ⟨k + 1, HGK.out.1, by go_num, HW2.out, HM2.out⟩
            · have hnk : ¬ (k : Int) < (n : Int) := by omega
              have HWE := Lib.hid HW.out
              have HME := Lib.hid HMP.out
              clear HK HW HMP hkn
              obtain ⟨ko, rfl⟩ : ∃ ko : Nat, ko = k := ⟨_, rfl⟩
              go_wp2_with fail
              go_loopg [90] n (fun gk v wr => ∃ k : Nat, Hid (k + gk = n) ∧ v = .int .i64 (k : Int) ∧ Hid (Below w.heap.size w wr) ∧ Hid (IMapAt wr M l))
              case atStart => exact ⟨0, show 0 + n = n by omega, rfl, HWE.out, HME.out⟩
              case round =>
                clear HWE HME hnk hlt
                obtain ⟨k, HK, rfl, HW, HMP⟩ := hrel
                have hkn : k ≤ n := by have := HK.out; omega
                by_cases hlt : k < n
                · have HGK := Lib.hid (show k + 1 + (gk - 1) = n ∧ 0 < gk by have := HK.out; omega)
                  obtain ⟨g, off, rfl, hg, hc⟩ := (ElemsAt.keep HH.out HW.out).item (by omega)
                  have hkl : k < l.length := by have := HN.out; omega
                  obtain ⟨x, hx⟩ : ∃ x, l[k]? = some x := ⟨_, List.getElem?_eq_getElem hkl⟩
                  obtain ⟨c0, c1, c2, c3, c4, c5, c6⟩ := hc k x hx
                  have hmem := List.mem_of_getElem? hx
                  have HX := Lib.hid hx
                  have hb1 : Below wr.heap.size wr (wr.alloc (.cells #[.string x.id, .string x.cu, .int .i64 x.kind, .string x.name, .int .i64 x.at_, .string x.par, .string x.text] 37)) := (Below.refl _ _).alloc (Nat.le_refl _) _
                  have HI1 : Hid (ItemAt (wr.alloc (.cells #[.string x.id, .string x.cu, .int .i64 x.kind, .string x.name, .int .i64 x.at_, .string x.par, .string x.text] 37)) wr.heap.size x) := item_new wr x
                  have HW1 := Lib.hid (HW.out.trans (hb1.mono HW.out.size))
                  have HM1 := Lib.hid (HMP.out.below hb1)
                  clear hc hx hkl HK hb1 hg HMP HW
                  go_upto_region 28 with (fail)
                  obtain ⟨P, hP⟩ : ∃ P, P = wr.heap.size := ⟨_, rfl⟩
                  rw [← hP] at HI1 ⊢
                  generalize wr.alloc (.cells #[.string x.id, .string x.cu, .int .i64 x.kind, .string x.name, .int .i64 x.at_, .string x.par, .string x.text] 37) = w1 at *
                  clear hP c0 c1 c2 c3 c4 c5 c6
                  obtain ⟨c0, c1, c2, c3, c4, c5, c6⟩ := HI1.out.c
                  have HPL := Lib.hid (placed_ok M k x l w1 HM1.out HL.out.set HX.out)
                  unfold Itm.v at HPL
                  clear hmem
                  go_wp2_with fail
                  refine HPL.out.mono ?_
                  rintro e w2 ⟨rfl, hb2⟩
                  have HW2 := Lib.hid (HW1.out.trans (hb2.mono HW1.out.size))
                  have HM2 := Lib.hid (HM1.out.below hb2)
                  clear hb2 HPL c0 c1 c2 c3 c4 c5 c6
                  go_wp2_with fail
                  go_roundg (gk - 1)
                  case measure => exact Nat.sub_lt HGK.out.2 Nat.one_pos
                  case rel => exact ⟨k + 1, HGK.out.1, by go_num, HW2.out, HM2.out⟩
                · have hnk : ¬ (k : Int) < (n : Int) := by omega
                  go_wp2_with fail
                  go_ret
                  exact ⟨rfl, HW.out⟩
end Go.Proofs.YtikmjomepnbkcaaGreatDoor

namespace Go.Proofs.YtikmjomepnbkcaaGreatDoor
open Go

theorem splitC_none {c : UInt8} {a : List UInt8} (h : c ∉ a) : splitC c a = [a] := by
  have := splitC_word (c := c) (s := []) (t := []) (ts := []) rfl a h
  simpa using this
theorem splitC_app {c : UInt8} {a r : List UInt8} (h : c ∉ a) : splitC c (a ++ c :: r) = a :: splitC c r := by
  have := splitC_word (splitC_eq c r) a h
  simpa using this
/-- Lines, each ended. -/
def flatN (L : List (List UInt8)) : List UInt8 := L.flatMap fun a => a ++ [10]
theorem flatN_cons (a : List UInt8) (L : List (List UInt8)) : flatN (a :: L) = a ++ 10 :: flatN L := by simp [flatN]
theorem flatN_append (L M : List (List UInt8)) : flatN (L ++ M) = flatN L ++ flatN M := by simp [flatN]
theorem split_flat : ∀ L : List (List UInt8), L ≠ [] → (∀ a ∈ L, (10 : UInt8) ∉ a) → ∃ t, flatN L = t ++ [10] ∧ splitC 10 t = L
  | [], h, _ => absurd rfl h
  | [a], _, h => ⟨a, by simp [flatN], splitC_none (h a (by simp))⟩
  | a :: b :: L, _, h => by
    obtain ⟨t, h1, h2⟩ := split_flat (b :: L) (by simp) (fun x hx => h x (by simp [hx]))
    refine ⟨a ++ 10 :: t, by rw [flatN_cons, h1]; simp, ?_⟩
    rw [splitC_app (h a (by simp)), h2]
theorem flat_split : ∀ t : List UInt8, flatN (splitC 10 t) = t ++ [10]
  | [] => rfl
  | b :: t => by
    have ih := flat_split t
    by_cases e : b = 10
    · subst e
      rw [splitC_eq, flatN_cons, ih]
      rfl
    · obtain ⟨u, us, hu⟩ := splitC_ne 10 t
      rw [splitC_cons e hu]
      rw [hu, flatN_cons] at ih
      rw [flatN_cons, List.cons_append, ih]
      rfl
theorem splitC_not (c : UInt8) : ∀ t : List UInt8, ∀ a ∈ splitC c t, c ∉ a
  | [], a, ha => by simp [splitC] at ha; subst ha; simp
  | b :: t, a, ha => by
    have ih := splitC_not c t
    by_cases e : b = c
    · subst e
      rw [splitC_eq] at ha
      rcases List.mem_cons.1 ha with rfl | ha
      · simp
      · exact ih a ha
    · obtain ⟨u, us, hu⟩ := splitC_ne c t
      rw [splitC_cons e hu] at ha
      rw [hu] at ih
      rcases List.mem_cons.1 ha with rfl | ha
      · have := ih u (by simp)
        simp only [List.mem_cons, not_or]
        exact ⟨fun e2 => e e2.symm, this⟩
      · exact ih a (by simp [ha])
theorem splitC_len (c : UInt8) : ∀ t : List UInt8, (splitC c t).length ≤ t.length + 1
  | [] => by simp [splitC]
  | b :: t => by
    have ih := splitC_len c t
    by_cases e : b = c
    · subst e; rw [splitC_eq]; simp; omega
    · obtain ⟨u, us, hu⟩ := splitC_ne c t
      rw [splitC_cons e hu]
      rw [hu] at ih
      simp at ih ⊢
      omega
theorem splitC_each (c : UInt8) : ∀ t : List UInt8, ∀ a ∈ splitC c t, a.length ≤ t.length
  | [], a, ha => by simp [splitC] at ha; subst ha; simp
  | b :: t, a, ha => by
    have ih := splitC_each c t
    by_cases e : b = c
    · subst e
      rw [splitC_eq] at ha
      rcases List.mem_cons.1 ha with rfl | ha
      · simp
      · have := ih a ha; simp; omega
    · obtain ⟨u, us, hu⟩ := splitC_ne c t
      rw [splitC_cons e hu] at ha
      rw [hu] at ih
      rcases List.mem_cons.1 ha with rfl | ha
      · have := ih u (by simp); simp; omega
      · have := ih a (by simp [ha]); simp; omega
theorem splitC_join {c : UInt8} : ∀ L : List (List UInt8), L ≠ [] → (∀ a ∈ L, c ∉ a) → splitC c (Lib.join L [c]) = L
  | [], h, _ => absurd rfl h
  | [a], _, h => by
    have e : Lib.join [a] [c] = a := by simp [Lib.join, List.intercalate, List.intersperse]
    rw [e]
    exact splitC_none (h a (by simp))
  | a :: b :: L, _, h => by
    have e : Lib.join (a :: b :: L) [c] = a ++ c :: Lib.join (b :: L) [c] := by simp [Lib.join, List.intercalate, List.intersperse]
    rw [e, splitC_app (h a (by simp)), splitC_join (b :: L) (by simp) (fun x hx => h x (by simp [hx]))]
theorem join_not {c d : UInt8} (hcd : c ≠ d) : ∀ L : List (List UInt8), (∀ a ∈ L, c ∉ a) → c ∉ Lib.join L [d]
  | [], _ => by simp [Lib.join, List.intercalate, List.intersperse]
  | [a], h => by
    have e : Lib.join [a] [d] = a := by simp [Lib.join, List.intercalate, List.intersperse]
    rw [e]
    exact h a (by simp)
  | a :: b :: L, h => by
    have e : Lib.join (a :: b :: L) [d] = a ++ d :: Lib.join (b :: L) [d] := by simp [Lib.join, List.intercalate, List.intersperse]
    have ih := join_not hcd (b :: L) (fun x hx => h x (by simp [hx]))
    rw [e]
    simp only [List.mem_append, List.mem_cons, not_or]
    exact ⟨h a (by simp), hcd, ih⟩
/-- A hexadecimal digit. -/
def hexT : List UInt8 := [48, 49, 50, 51, 52, 53, 54, 55, 56, 57, 97, 98, 99, 100, 101, 102]
def hexD (i : Nat) : UInt8 := hexT.getD i 48
/-- A byte within quotes. -/
def quoB (c : UInt8) : List UInt8 := if c = 34 ∨ c = 92 then [92, c] else if c = 10 then [92, 110] else if c < 33 ∨ 126 < c then [92, 120, hexD (c.toNat / 16), hexD (c.toNat % 16)] else [c]
def quoS (s : List UInt8) : List UInt8 := 34 :: (s.flatMap quoB ++ [34])
theorem hexD_ok : ∀ i : Fin 16, (hexD i.val ≠ 32 ∧ hexD i.val ≠ 10) := by decide
theorem quoB_facts (c : UInt8) : quoB c ≠ [] ∧ (quoB c).length ≤ 4 ∧ (∀ b ∈ quoB c, b ≠ 32 ∧ b ≠ 10) ∧ (quoB c).head? ≠ some 34 := by
  unfold quoB
  have h16 : c.toNat / 16 < 16 := by have := c.toNat_lt; omega
  have hm : c.toNat % 16 < 16 := Nat.mod_lt _ (by decide)
  have a1 := hexD_ok ⟨_, h16⟩
  have a2 := hexD_ok ⟨_, hm⟩
  simp only at a1 a2
  split
  · rename_i h
    refine ⟨by simp, by simp, fun b hb => ?_, by simp⟩
    simp only [List.mem_cons, List.not_mem_nil, or_false] at hb
    rcases hb with rfl | rfl
    · decide
    · rcases h with rfl | rfl <;> decide
  · rename_i h
    split
    · exact ⟨by simp, by simp, fun b hb => by
        simp only [List.mem_cons, List.not_mem_nil, or_false] at hb
        rcases hb with rfl | rfl <;> decide, by simp⟩
    · rename_i h2
      split
      · refine ⟨by simp, by simp, fun b hb => ?_, by simp⟩
        simp only [List.mem_cons, List.not_mem_nil, or_false] at hb
        rcases hb with rfl | rfl | rfl | rfl
        · decide
        · decide
        · exact a1
        · exact a2
      · rename_i h3
        refine ⟨by simp, by simp, fun b hb => ?_, fun e => h (.inl (by simpa using e))⟩
        rw [List.mem_singleton] at hb
        subst hb
        exact ⟨fun e => h3 (.inl (by rw [e]; decide)), h2⟩
theorem quoS_not (s : List UInt8) : (32 : UInt8) ∉ quoS s ∧ (10 : UInt8) ∉ quoS s := by
  have h : ∀ b ∈ quoS s, b ≠ 32 ∧ b ≠ 10 := fun b hb => by
    unfold quoS at hb
    simp only [List.mem_cons, List.mem_append, List.mem_flatMap, List.not_mem_nil, or_false] at hb
    rcases hb with rfl | ⟨c, _, hc⟩ | rfl
    · decide
    · exact (quoB_facts c).2.2.1 b hc
    · decide
  exact ⟨fun e => (h 32 e).1 rfl, fun e => (h 10 e).2 rfl⟩
theorem quo_len : ∀ s : List UInt8, (s.flatMap quoB).length ≤ 4 * s.length
  | [] => by simp
  | c :: s => by
    have := quo_len s
    have := (quoB_facts c).2.1
    rw [List.flatMap_cons, List.length_append, List.length_cons]
    omega
/-- Digits. -/
theorem digit_of (u : Nat) (h : u < 10) : (UInt8.ofNat (48 + u)).toNat = 48 + u := by
  simp; omega
theorem dec_digits (u : Nat) : (∀ b ∈ Lib.decDigits u, 48 ≤ b.toNat ∧ b.toNat ≤ 57) ∧ Lib.decDigits u ≠ [] := by
  induction u using Nat.strongRecOn with
  | _ u ih =>
    rw [Lib.decDigits]
    split
    · rename_i h
      refine ⟨fun b hb => ?_, by simp⟩
      rw [List.mem_singleton] at hb
      subst hb
      rw [digit_of u h]
      omega
    · rename_i h
      obtain ⟨h1, h2⟩ := ih (u / 10) (by omega)
      refine ⟨fun b hb => ?_, by simp⟩
      rw [List.mem_append, List.mem_singleton] at hb
      rcases hb with hb | rfl
      · exact h1 b hb
      · rw [digit_of (u % 10) (by omega)]
        omega
theorem decFrom_append : ∀ (l m : List UInt8) (a : Nat), Lib.decFrom a (l ++ m) = (Lib.decFrom a l).bind fun x => Lib.decFrom x m
  | [], m, a => rfl
  | b :: l, m, a => by
    simp only [List.cons_append, Lib.decFrom]
    cases Lib.digitVal b with
    | none => rfl
    | some d => exact decFrom_append l m _
theorem digitVal_of (u : Nat) (h : u < 10) : Lib.digitVal (UInt8.ofNat (48 + u)) = some u := by
  unfold Lib.digitVal
  rw [digit_of u h, if_pos (by omega)]
  congr 1
  omega
theorem dec_from (u : Nat) : Lib.decFrom 0 (Lib.decDigits u) = some u := by
  induction u using Nat.strongRecOn with
  | _ u ih =>
    rw [Lib.decDigits]
    split
    · rename_i h
      simp only [Lib.decFrom, digitVal_of u h]
      simp
    · rename_i h
      rw [decFrom_append, ih (u / 10) (by omega)]
      simp only [Option.bind_some, Lib.decFrom, digitVal_of (u % 10) (by omega)]
      congr 1
      omega
theorem dec_lead (u : Nat) : (Lib.decDigits u).head? = some 48 → u = 0 := by
  induction u using Nat.strongRecOn with
  | _ u ih =>
    rw [Lib.decDigits]
    split
    · rename_i h
      intro e
      simp only [List.head?_cons, Option.some.injEq] at e
      have := congrArg UInt8.toNat e
      rw [digit_of u h] at this
      simp at this
      omega
    · rename_i h
      intro e
      have hne := (dec_digits (u / 10)).2
      obtain ⟨b, r, hb⟩ := List.exists_cons_of_ne_nil hne
      have h1 : (Lib.decDigits (u / 10)).head? = some 48 := by
        rw [hb] at e ⊢
        simpa using e
      have := ih (u / 10) (by omega) h1
      omega
theorem dec_len {u : Nat} (h : u < 1000000000) : 1 ≤ (Lib.decDigits u).length ∧ (Lib.decDigits u).length ≤ 9 := by
  rw [Lib.decDigits_length]
  refine ⟨Lib.nDigits_pos u, ?_⟩
  have key : ∀ (k v : Nat), v < 10 ^ (k + 1) → Lib.nDigits v ≤ k + 1 := by
    intro k
    induction k with
    | zero => intro v hv; rw [Lib.nDigits_small (by simpa using hv)]; omega
    | succ k ih =>
      intro v hv
      by_cases h10 : v < 10
      · rw [Lib.nDigits_small h10]; omega
      · rw [Lib.nDigits_big h10]
        have := ih (v / 10) (by rw [Nat.pow_succ] at hv; omega)
        omega
  exact key 8 u h
theorem dec_not (u : Nat) : (32 : UInt8) ∉ Lib.decDigits u ∧ (10 : UInt8) ∉ Lib.decDigits u ∧ (45 : UInt8) ∉ Lib.decDigits u := by
  have h := (dec_digits u).1
  refine ⟨fun e => ?_, fun e => ?_, fun e => ?_⟩ <;> (have := h _ e; revert this; decide)
theorem atoi_dec (u : Nat) : Lib.atoi (Lib.decDigits u) = some (u : Int) := by
  have h1 := dec_from u
  obtain ⟨hd, hne⟩ := dec_digits u
  obtain ⟨b, r, hb⟩ := List.exists_cons_of_ne_nil hne
  rw [hb] at h1 hd ⊢
  have hb1 := hd b (by simp)
  unfold Lib.atoi
  have e1 : (b == 45) = false := by
    rw [beq_eq_false_iff_ne]
    intro e
    subst e
    revert hb1
    decide
  have e2 : (b == 43) = false := by
    rw [beq_eq_false_iff_ne]
    intro e
    subst e
    revert hb1
    decide
  simp only [e1, e2]
  unfold Lib.decNat
  simp [h1]
end Go.Proofs.YtikmjomepnbkcaaGreatDoor

namespace Go.Proofs.YtikmjomepnbkcaaGreatDoor
open Go.RowKit

def wordI (k : Int) : List UInt8 := if k = 1 then [109, 97, 105, 108] else if k = 2 then [102, 105, 108, 101] else if k = 3 then [98, 111, 120] else [110, 111, 116, 101]
def parW (x : Itm) : List UInt8 := if x.par.data.toList = [] then [45] else x.par.data.toList
def linesI (t : List UInt8) : List (List UInt8) := if t = [] then [] else splitC 10 t.dropLast
def fieldsI (x : Itm) (n : Nat) : List (List UInt8) := [[105, 116, 101, 109], x.id.data.toList, x.cu.data.toList, wordI x.kind, Lib.decDigits x.at_.toNat, parW x, quoS x.name.data.toList, Lib.decDigits n]
def headI (x : Itm) : List UInt8 := Lib.join (fieldsI x (linesI x.text.data.toList).length) [32]
def rowsI (x : Itm) : List (List UInt8) := headI x :: (linesI x.text.data.toList).map fun s => 124 :: s
def textI (l : List Itm) : List UInt8 := flatN (l.flatMap rowsI)
theorem keyC_not (b : UInt8) (h : keyC b = true) : b ≠ 32 ∧ b ≠ 10 := by
  refine ⟨fun e => ?_, fun e => ?_⟩ <;> (subst e; revert h; decide)
theorem key_facts {l : List UInt8} (h : keyL l = true) : (32 : UInt8) ∉ l ∧ (10 : UInt8) ∉ l ∧ l ≠ [] ∧ l ≠ [45] ∧ l.length ≤ 40 := by
  simp only [keyL, Bool.and_eq_true, decide_eq_true_eq, List.all_eq_true] at h
  obtain ⟨⟨⟨h1, h2⟩, h3⟩, h4⟩ := h
  refine ⟨fun e => (keyC_not _ (h3 _ e)).1 rfl, fun e => (keyC_not _ (h3 _ e)).2 rfl, fun e => ?_, fun e => ?_, h2⟩
  · subst e
    simp at h1
  · subst e
    have := h4 45 (by simp)
    revert this
    decide
theorem word_facts (k : Int) : (32 : UInt8) ∉ wordI k ∧ (10 : UInt8) ∉ wordI k ∧ wordI k ≠ [] ∧ (wordI k).length ≤ 4 := by
  unfold wordI
  split
  · decide
  · split
    · decide
    · split <;> decide
theorem fields_facts {x : Itm} (h : ItemOk x) (n : Nat) : ∀ a ∈ fieldsI x n, (32 : UInt8) ∉ a ∧ (10 : UInt8) ∉ a ∧ a ≠ [] := by
  intro a ha
  simp only [fieldsI, List.mem_cons, List.not_mem_nil, or_false] at ha
  rcases ha with rfl | rfl | rfl | rfl | rfl | rfl | rfl | rfl
  · decide
  · have := key_facts h.id; exact ⟨this.1, this.2.1, this.2.2.1⟩
  · have := key_facts h.cu; exact ⟨this.1, this.2.1, this.2.2.1⟩
  · have := word_facts x.kind; exact ⟨this.1, this.2.1, this.2.2.1⟩
  · exact ⟨(dec_not _).1, (dec_not _).2.1, (dec_digits _).2⟩
  · unfold parW
    split
    · decide
    · rename_i hp
      rcases h.par with e | e
      · exact absurd e hp
      · have := key_facts e; exact ⟨this.1, this.2.1, this.2.2.1⟩
  · exact ⟨(quoS_not _).1, (quoS_not _).2, by simp [quoS]⟩
  · exact ⟨(dec_not _).1, (dec_not _).2.1, (dec_digits _).2⟩
theorem head_split {x : Itm} (h : ItemOk x) : splitC 32 (headI x) = fieldsI x (linesI x.text.data.toList).length :=
  splitC_join _ (by simp [fieldsI]) (fun a ha => (fields_facts h _ a ha).1)
theorem head_not {x : Itm} (h : ItemOk x) : (10 : UInt8) ∉ headI x := join_not (by decide) _ (fun a ha => (fields_facts h _ a ha).2.1)
theorem linesI_not (t : List UInt8) : ∀ a ∈ linesI t, (10 : UInt8) ∉ a := by
  unfold linesI
  split
  · intro a ha; cases ha
  · exact splitC_not 10 _
theorem rows_not {x : Itm} (h : ItemOk x) : ∀ a ∈ rowsI x, (10 : UInt8) ∉ a := by
  intro a ha
  rcases List.mem_cons.1 ha with rfl | ha
  · exact head_not h
  · obtain ⟨s, hs, rfl⟩ := List.mem_map.1 ha
    simp only [List.mem_cons, not_or]
    exact ⟨by decide, linesI_not _ s hs⟩
theorem text_last {t : List UInt8} (h : textB t = true) (h0 : t ≠ []) : t.dropLast ++ [10] = t := by
  unfold textB at h
  rw [Bool.and_eq_true, Bool.or_eq_true] at h
  rcases h.2 with h1 | h1
  · rw [List.isEmpty_iff] at h1
    exact absurd h1 h0
  · rw [List.isSuffixOf_iff_suffix] at h1
    obtain ⟨r, hr⟩ := h1
    rw [← hr, List.dropLast_concat]
theorem linesI_flat {t : List UInt8} (h : textB t = true) : flatN (linesI t) = t := by
  unfold linesI
  split
  · rename_i e; subst e; rfl
  · rename_i e
    rw [flat_split]
    exact text_last h e
theorem linesI_len (t : List UInt8) : (linesI t).length ≤ t.length := by
  unfold linesI
  split
  · simp
  · rename_i e
    have := splitC_len 10 t.dropLast
    have h1 : t.dropLast.length = t.length - 1 := List.length_dropLast
    have h2 : 0 < t.length := List.length_pos_iff.2 e
    omega
theorem linesI_each (t : List UInt8) : ∀ a ∈ linesI t, a.length ≤ t.length := by
  unfold linesI
  split
  · intro a ha; cases ha
  · intro a ha
    have := splitC_each 10 _ a ha
    have h1 : t.dropLast.length = t.length - 1 := List.length_dropLast
    omega
theorem join_len (d : UInt8) : ∀ L : List (List UInt8), (Lib.join L [d]).length ≤ (L.map fun a => a.length + 1).sum
  | [] => by simp [Lib.join, List.intercalate, List.intersperse]
  | [a] => by
    have e : Lib.join [a] [d] = a := by simp [Lib.join, List.intercalate, List.intersperse]
    rw [e]; simp
  | a :: b :: L => by
    have e : Lib.join (a :: b :: L) [d] = a ++ d :: Lib.join (b :: L) [d] := by simp [Lib.join, List.intercalate, List.intersperse]
    have ih := join_len d (b :: L)
    rw [e, List.length_append, List.length_cons, List.map_cons, List.sum_cons]
    omega
theorem head_len {x : Itm} (h : ItemOk x) : (headI x).length ≤ 700 := by
  have h1 := (key_facts h.id).2.2.2.2
  have h2 := (key_facts h.cu).2.2.2.2
  have h3 := (word_facts x.kind).2.2.2
  have h4 := (dec_len (u := x.at_.toNat) (by have := h.at_; omega)).2
  have hn := linesI_len x.text.data.toList
  have hs : x.text.data.toList.length ≤ 20000 := h.size
  have h8 := (dec_len (u := (linesI x.text.data.toList).length) (by omega)).2
  have h5 : (parW x).length ≤ 40 := by
    unfold parW
    split
    · decide
    · rename_i hp
      rcases h.par with e | e
      · exact absurd e hp
      · exact (key_facts e).2.2.2.2
  have h6 := quo_len x.name.data.toList
  have hn2 : x.name.data.toList.length ≤ 120 := h.short
  have h7 : (quoS x.name.data.toList).length = (x.name.data.toList.flatMap quoB).length + 2 := by simp [quoS]
  have := join_len 32 (fieldsI x (linesI x.text.data.toList).length)
  simp only [fieldsI, List.map_cons, List.map_nil, List.sum_cons, List.sum_nil, List.length_cons, List.length_nil] at this
  unfold headI fieldsI
  omega
theorem flatN_length (L : List (List UInt8)) : (flatN L).length = (L.map fun a => a.length + 1).sum := by
  induction L with
  | nil => rfl
  | cons a L ih => rw [flatN_cons, List.length_append, List.length_cons, ih, List.map_cons, List.sum_cons]; omega
theorem bars_len : ∀ L : List (List UInt8), (flatN (L.map fun s => 124 :: s)).length = (flatN L).length + L.length
  | [] => rfl
  | a :: L => by
    have ih := bars_len L
    rw [List.map_cons, flatN_cons, flatN_cons]
    simp only [List.length_append, List.length_cons, ih]
    omega
theorem rows_len {x : Itm} (h : ItemOk x) : (flatN (rowsI x)).length ≤ 60000 := by
  have h1 := head_len h
  have h2 := linesI_len x.text.data.toList
  have h3 : x.text.data.toList.length ≤ 20000 := h.size
  have h4 := bars_len (linesI x.text.data.toList)
  rw [linesI_flat h.text] at h4
  unfold rowsI
  rw [flatN_cons, List.length_append, List.length_cons, h4]
  omega
/-- An item whose text is still to come in part. -/
def Itm.addT (x : Itm) (t : List UInt8) : Itm := { x with text := ⟨(x.text.data.toList ++ t).toArray⟩ }
theorem addT_nil (x : Itm) : x.addT [] = x := by
  unfold Itm.addT
  rw [List.append_nil]
theorem addT_two (x : Itm) (a b : List UInt8) : (x.addT a).addT b = x.addT (a ++ b) := by
  unfold Itm.addT
  simp
def Itm.bare (x : Itm) : Itm := { x with text := ⟨#[]⟩ }
theorem bare_addT (x : Itm) : x.bare.addT x.text.data.toList = x := by
  unfold Itm.bare Itm.addT
  simp
/-- What a reader has, and what is still to come: the last one's lines, and whole items. -/
def ReadAt (items L : List Itm) (rest : List (List UInt8)) (tl : List Itm) : Prop :=
  (L = [] ∧ rest = [] ∧ tl = items) ∨ ∃ L0 x, L = L0 ++ [x] ∧ L0 ++ (x.addT (flatN rest) :: tl) = items
theorem ReadAt.start (items : List Itm) : ReadAt items [] [] items := .inl ⟨rfl, rfl, rfl⟩
theorem ReadAt.done {items L : List Itm} (h : ReadAt items L [] []) : L = items := by
  rcases h with ⟨rfl, _, h⟩ | ⟨L0, x, rfl, h⟩
  · exact h
  · rw [← h, show flatN [] = [] from rfl, addT_nil]
theorem ReadAt.line {items L : List Itm} {s : List UInt8} {rest : List (List UInt8)} {tl : List Itm} (h : ReadAt items L (s :: rest) tl) : ∃ L0 x, L = L0 ++ [x] ∧ ReadAt items (L0 ++ [x.addT (s ++ [10])]) rest tl := by
  rcases h with ⟨_, h, _⟩ | ⟨L0, x, rfl, h⟩
  · cases h
  · refine ⟨L0, x, rfl, .inr ⟨L0, _, rfl, ?_⟩⟩
    rw [addT_two, ← h, flatN_cons]
    simp
theorem ReadAt.head {items L : List Itm} {x : Itm} {tl : List Itm} (ht : textB x.text.data.toList = true) (h : ReadAt items L [] (x :: tl)) : ReadAt items (L ++ [x.bare]) (linesI x.text.data.toList) tl := by
  refine .inr ⟨L, x.bare, rfl, ?_⟩
  rw [linesI_flat ht, bare_addT]
  rcases h with ⟨rfl, _, h⟩ | ⟨L0, y, rfl, h⟩
  · exact h
  · rw [← h, show flatN [] = [] from rfl, addT_nil]
    simp
end Go.Proofs.YtikmjomepnbkcaaGreatDoor

namespace Go.Proofs.YtikmjomepnbkcaaGreatDoor
open Go.RowKit

def hexS : ByteArray := ⟨#[48, 49, 50, 51, 52, 53, 54, 55, 56, 57, 97, 98, 99, 100, 101, 102]⟩
theorem hex_fin : ∀ i : Fin 16, hexS.extract i.val (i.val + 1) = (⟨[hexD i.val].toArray⟩ : ByteArray) := by decide +kernel
theorem hex_cut (i : Nat) (h : i < 16) (z : Int) (hz : z = i + 1) (w : World) : (Instr.slice 9 (.string hexS) (some (.int .u8 (i : Int))) (some (.int .u8 z)) none).run Tryz.prog w = .ok (.string ⟨[hexD i].toArray⟩) w := by
  subst hz
  have h1 : hexS.size = 16 := rfl
  have h2 := hex_fin ⟨i, h⟩
  simp only at h2
  have h3 : ((i : Int) + 1).toNat = i + 1 := by omega
  have h4 : (i : Int) + 1 ≤ 16 := by omega
  simp [Instr.slice, Instr.sliceBounds, Instr.sliceBound, asIntOf, run_underlying Tryz.underlying9, h1, h3, h4, h2]
  omega
theorem enc_fin : ∀ i : Fin 127, Utf8.encode (i.val : Int) = ⟨#[UInt8.ofNat i.val]⟩ := by decide +kernel
set_option maxHeartbeats 800000 in
set_option maxRecDepth 100000 in
theorem quoted_any (c : UInt8) (w : World) : Calls Tryz.prog 54 #[.int .u8 (c.toNat : Int)] w fun e w' => e = .returned (.string ⟨(quoB c).toArray⟩) ∧ ∃ q, w' = w.drewN q := by
  by_cases h34 : c = 34
  · subst h34
    go_enter Tryz.func54, Tryz.ntmps54
    go_wp2_with fail
    go_ret
    exact ⟨rfl, 0, rfl⟩
  by_cases h92 : c = 92
  · subst h92
    go_enter Tryz.func54, Tryz.ntmps54
    go_wp2_with fail
    go_ret
    exact ⟨rfl, 0, rfl⟩
  by_cases h10 : c = 10
  · subst h10
    go_enter Tryz.func54, Tryz.ntmps54
    go_wp2_with fail
    go_ret
    exact ⟨rfl, 0, rfl⟩
  obtain ⟨n, hn⟩ : ∃ n, n = c.toNat := ⟨_, rfl⟩
  have hn256 : n < 256 := by rw [hn]; exact c.toNat_lt
  have hne : ∀ k : Nat, k < 256 → c ≠ UInt8.ofNat k → n ≠ k := fun k hk h e => h (by rw [← e, hn]; simp)
  have e34 : ((n : Int) == 34) = false := by have := hne 34 (by decide) h34; simp; omega
  have e92 : ((n : Int) == 92) = false := by have := hne 92 (by decide) h92; simp; omega
  have e10 : ((n : Int) == 10) = false := by have := hne 10 (by decide) h10; simp; omega
  clear hne
  rw [← hn]
  by_cases hvis : c < 33 ∨ 126 < c
  · have hq : quoB c = [92, 120, hexD (n / 16), hexD (n % 16)] := by
      unfold quoB
      rw [if_neg (by simp [h34, h92]), if_neg h10, if_pos hvis, hn]
    rw [hq]
    clear hq
    have hv : n < 33 ∨ 126 < n := by
      rcases hvis with h | h
      · left; rw [hn]; exact h
      · right; rw [hn]; exact h
    clear hn h34 h92 h10 hvis
    have HE : Hid ((⟨#[92, 120]⟩ : ByteArray) ++ hexS.extract (n / 16) (n / 16 + 1) ++ hexS.extract (n % 16) (n % 16 + 1) = ⟨[92, 120, hexD (n / 16), hexD (n % 16)].toArray⟩) := by
      show _ = _
      have h1 := hex_fin ⟨n / 16, by omega⟩
      have h2 := hex_fin ⟨n % 16, by omega⟩
      simp only at h1 h2
      rw [h1, h2]
      rfl
    rcases hv with hv | hv
    · have a1 : (n : Int) < 33 := by omega
      go_enter Tryz.func54, Tryz.ntmps54
      go_upto_region 6 with (fail)
      go_quiet (fail)
      go_wp2_with fail
      go_ret
      exact ⟨congrArg (fun x : ByteArray => Ending.returned (.string x)) HE.out, _, rfl⟩
    · have a1 : ¬ (n : Int) < 33 := by omega
      have a2 : (126 : Int) < (n : Int) := by omega
      go_enter Tryz.func54, Tryz.ntmps54
      go_upto_region 6 with (fail)
      go_quiet (fail)
      go_wp2_with fail
      go_ret
      exact ⟨congrArg (fun x : ByteArray => Ending.returned (.string x)) HE.out, _, rfl⟩
  · have hq : quoB c = [c] := by
      unfold quoB
      rw [if_neg (by simp [h34, h92]), if_neg h10, if_neg hvis]
    rw [hq]
    have a1 : ¬ (n : Int) < 33 := by
      have : ¬ n < 33 := fun e => hvis (.inl (by show c.toNat < 33; omega))
      omega
    have a2 : ¬ (126 : Int) < (n : Int) := by
      have : ¬ 126 < n := fun e => hvis (.inr (by show 126 < c.toNat; omega))
      omega
    have HC : Hid (c = UInt8.ofNat n) := by show _ = _; rw [hn]; simp
    clear hq hn h34 h92 h10 hvis
    go_enter Tryz.func54, Tryz.ntmps54
    have HE : Hid (Utf8.encode (n : Int) = ⟨[c].toArray⟩) := by
      show _ = _
      have h1 := enc_fin ⟨n, by omega⟩
      simp only at h1
      rw [h1, HC.out]
    go_wp2_with fail
    go_ret
    exact ⟨congrArg (fun x : ByteArray => Ending.returned (.string x)) HE.out, 0, rfl⟩
end Go.Proofs.YtikmjomepnbkcaaGreatDoor

namespace Go.Proofs.YtikmjomepnbkcaaGreatDoor
open Go.RowKit Go.Shelf

theorem hex_or : ∀ i : Fin 16, 10 ≤ i.val → bits .or .u8 ((87 + i.val : Nat) : Int) 32 = ((87 + i.val : Nat) : Int) := by decide +kernel
theorem hexD_val : ∀ i : Fin 16, (hexD i.val).toNat = if i.val < 10 then 48 + i.val else 87 + i.val := by decide +kernel
/-- The number behind so many digits. -/
def hexV (i j : Nat) : Nat → Nat
  | 0 => 0
  | 1 => i
  | _ => i * 16 + j
theorem hexV_step (i j k : Nat) (hi : i < 16) (hj : j < 16) (hk : k < 2) : ∃ d, d < 16 ∧ [hexD i, hexD j].getD k 0 = hexD d ∧ hexV i j (k + 1) = hexV i j k * 16 + d := by
  match k, hk with
  | 0, _ => exact ⟨i, hi, rfl, by simp [hexV]⟩
  | 1, _ => exact ⟨j, hj, rfl, rfl⟩
theorem hexV_small (i j k : Nat) (hi : i < 16) (_hj : j < 16) (hk : k < 2) : hexV i j k < 16 := by
  match k, hk with
  | 0, _ => exact (by decide : 0 < 16)
  | 1, _ => exact hi
set_option maxHeartbeats 1600000 in
set_option maxRecDepth 100000 in
theorem pu_inner (i j : Nat) (hi : i < 16) (hj : j < 16) (w : World) :
    Calls Tryz.prog 183 #[.string ⟨[hexD i, hexD j].toArray⟩, .int .i64 16, .int .i64 8] w fun e w' => e = .returned (.tuple #[.int .u64 ((i * 16 + j : Nat) : Int), .nilIface]) ∧ Below w.heap.size w w' := by
  have HI := Lib.hid hi
  have HJ := Lib.hid hj
  have HDAT : Hid ((⟨[hexD i, hexD j].toArray⟩ : ByteArray).data.toList = [hexD i, hexD j]) := rfl
  have HSZ : Hid ((⟨[hexD i, hexD j].toArray⟩ : ByteArray).size = 2) := rfl
  have hemp : (⟨[hexD i, hexD j].toArray⟩ : ByteArray).toList.isEmpty = false := by rw [Lib.toList_data]; rfl
  generalize (⟨[hexD i, hexD j].toArray⟩ : ByteArray) = s at *
  obtain ⟨N, wb, hrun, hN, hby, hbb, hszb⟩ := conv_bytes' w s
  rw [HSZ.out] at hrun
  have HBY := Lib.hid hby
  have HBB := Lib.hid hbb
  clear hi hj hN hby hbb hszb
  go_enter Tryz.func183, Tryz.ntmps183
  go_wp2_with fail
  clear hrun hemp
  rw [HDAT.out] at HBY
  go_loopg [12, 13, 101] 2 (fun gk v12 v13 v wr => ∃ k : Nat, Hid (k + gk = 2) ∧ v12 = .bool false ∧ v13 = .int .u64 ((hexV i j k : Nat) : Int) ∧ v = .int .i64 (k : Int) ∧ wb = wr)
  case atStart => exact ⟨0, show 0 + 2 = 2 by omega, rfl, rfl, rfl, rfl⟩
  case round =>
    obtain ⟨k, HK, rfl, rfl, rfl, rfl⟩ := hrel
    have hk2 : k ≤ 2 := by have := HK.out; omega
    by_cases hlt : k < 2
    · have HGK := Lib.hid (show k + 1 + (gk - 1) = 2 ∧ 0 < gk by have := HK.out; omega)
      obtain ⟨d, hd, hdd, hv⟩ := hexV_step i j k HI.out HJ.out hlt
      have hcell := HBY.out.cell k hlt
      rw [hdd] at hcell
      have hVb := hexV_small i j k HI.out HJ.out hlt
      obtain ⟨V, hV⟩ : ∃ V, V = hexV i j k := ⟨_, rfl⟩
      rw [← hV] at hVb hv ⊢
      have HV := Lib.hid hv
      clear hV hdd hv HK
      have hnv := hexD_val ⟨d, hd⟩
      simp only at hnv
      obtain ⟨n, hn⟩ : ∃ n, n = (hexD d).toNat := ⟨_, rfl⟩
      rw [← hn] at hcell hnv
      have HNV := Lib.hid hnv
      have HD := Lib.hid hd
      have HVB := Lib.hid hVb
      clear hnv hn hd hVb
      go_upto_block 5 with fail
      go_cut [12, 16] from 102 to 133 (fun v12 v16 wx => v12 = .bool false ∧ v16 = .int .u8 (d : Int) ∧ wx = wb)
      case first =>
        have hd := HD.out
        by_cases h10 : d < 10
        · have hn : n = 48 + d := by have h := HNV.out; rw [if_pos h10] at h; exact h
          have e95 : ((n : Int) == 95) = false := by simp; omega
          have a1 : (48 : Int) ≤ (n : Int) := by omega
          have a2 : (n : Int) ≤ 57 := by omega
          have w0 : IntKind.u8.wrap ((n : Int) - 48) = (d : Int) := by rw [IntKind.wrap_u8]; omega
          clear hn hd h10
          go_wp2_with fail
          go_meet
          exact ⟨rfl, rfl, rfl⟩
        · have hn : n = 87 + d := by have h := HNV.out; rw [if_neg h10] at h; exact h
          have HOR := hex_or ⟨d, hd⟩ (show 10 ≤ d by omega)
          simp only at HOR
          rw [← hn] at HOR
          have e95 : ((n : Int) == 95) = false := by simp; omega
          have a1 : (48 : Int) ≤ (n : Int) := by omega
          have a2 : ¬ (n : Int) ≤ 57 := by omega
          have a5 : (97 : Int) ≤ (n : Int) := by omega
          have a6 : (n : Int) ≤ 122 := by omega
          obtain ⟨o, ho⟩ : ∃ o : Nat, n = 97 + o := ⟨n - 97, by omega⟩
          have w0 : IntKind.u8.wrap ((n : Int) - 97) = (o : Int) := by rw [IntKind.wrap_u8]; omega
          have w3 : IntKind.u8.wrap ((o : Int) + 10) = (d : Int) := by rw [IntKind.wrap_u8]; omega
          have HLO := Lib.hid (fun W => Tryz.internal_strconv_lower (n : Int) W)
          rw [HOR] at HLO
          clear HOR ho hn hd h10
          go_wp2_with fail
          refine (HLO.out _).mono ?_
          rintro e w' ⟨rfl, hw⟩
          rw [hw]
          clear hw w'
          go_wp2_with fail
          refine (HLO.out _).mono ?_
          rintro e w' ⟨rfl, hw⟩
          rw [hw]
          clear hw w'
          go_wp2_with fail
          refine (HLO.out _).mono ?_
          rintro e w' ⟨rfl, hw⟩
          rw [hw]
          clear hw w'
          go_wp2_with fail
          go_meet
          exact ⟨rfl, rfl, rfl⟩
      case rest =>
        obtain ⟨rfl, rfl, rfl⟩ := hcut
        have a3 : ¬ (16 : Int) ≤ (d : Int) := by have := HD.out; omega
        have a4 : ¬ (1152921504606846976 : Int) ≤ (V : Int) := by have := HVB.out; omega
        obtain ⟨m, hm⟩ : ∃ m, m = V * 16 := ⟨_, rfl⟩
        obtain ⟨t, ht⟩ : ∃ t, t = m + d := ⟨_, rfl⟩
        have w1 : IntKind.u64.wrap ((V : Int) * 16) = (m : Int) := by have := HVB.out; rw [IntKind.wrap_u64]; omega
        have w2 : IntKind.u64.wrap ((m : Int) + (d : Int)) = (t : Int) := by have := HVB.out; have := HD.out; rw [IntKind.wrap_u64]; omega
        have b1 : ¬ (t : Int) < (m : Int) := by omega
        have b2 : ¬ (255 : Int) < (t : Int) := by have := HVB.out; have := HD.out; omega
        have HT : Hid (hexV i j (k + 1) = t) := by show _ = _; rw [HV.out]; omega
        clear hm ht
        go_wp2_with fail
        go_roundg (gk - 1)
        case measure => exact Nat.sub_lt HGK.out.2 Nat.one_pos
        case rel => exact ⟨k + 1, HGK.out.1, rfl, by rw [HT.out], by go_num, rfl⟩
    · have hke : k = 2 := by omega
      subst hke
      have HF : Hid (hexV i j 2 = i * 16 + j) := rfl
      rw [HF.out]
      go_wp2_with fail
      go_ret2
      exact ⟨rfl, HBB.out⟩
end Go.Proofs.YtikmjomepnbkcaaGreatDoor

namespace Go.Proofs.YtikmjomepnbkcaaGreatDoor
open Go.RowKit
def ByteE : Elem UInt8 := ⟨5, 46, 1, 1, .int .u8 0, fun x => [.int .u8 (x.toNat : Int)]⟩
theorem byteE_ok : ByteE.Ok := ⟨fun _ => rfl, fun x u hu => by simp [ByteE] at hu; subst hu; rfl, by decide, by decide, by kernel_rfl, by kernel_rfl, Tryz.underlying46⟩
theorem byteE_cells (l : List UInt8) : ByteE.cells l = Lib.byteCells l := by
  induction l with
  | nil => rfl
  | cons b l ih => simp only [Elem.cells, List.flatMap_cons] at ih ⊢; rw [ih]; rfl
theorem own_back {w : World} {B : Nat} {v : Value} {l : List UInt8} (h : Owns ByteE w B v l) : (convert 46 9 v).run Tryz.prog w = .ok (.string (bag l)) w := by
  rcases h.2 with ⟨rfl, h0⟩ | ⟨g, cap, cur, rfl, _, hh, hc1, hc2, hc3, hc4⟩
  · have : l = [] := List.eq_nil_of_length_eq_zero h0
    subst this
    rw [run_convert_bytes_string w 46 9 5 none 0 0 Tryz.underlying46 Tryz.underlying5 Tryz.underlying9]
    rfl
  · refine run_convert_bytes_back w 46 9 5 ⟨g, 0, none⟩ cap l Tryz.underlying46 Tryz.underlying5 Tryz.underlying9 (fun j hj => ?_)
    have hadd : (⟨g, 0, none⟩ : Addr).add j = ⟨g, j, none⟩ := by unfold Addr.add; split <;> simp_all
    rw [hadd, cell_of_row w g j _ _ _ hh]
    have e1 : (ByteE.cells l)[j]? = some (.int .u8 (l[j].toNat : Int)) := by rw [byteE_cells]; simp [Lib.byteCells, hj]
    rw [← hc4, List.getElem?_take] at e1
    split at e1
    · rw [← Array.getElem?_toList]; exact e1
    · cases e1
theorem own_back' {w : World} {B : Nat} {v : Value} {l : List UInt8} (h : Owns ByteE w B v l) : ∀ n, (convert 46 9 v).run Tryz.prog (w.drewN n) = .ok (.string (bag l)) (w.drewN n) := fun n => own_back (w := w.drewN n) h
theorem index_at {s : ByteArray} {k : Nat} {b : UInt8} (h : s.data.toList[k]? = some b) (z : Int) (hz : z = k) (w : World) : (Instr.index 9 (.string s) (.int .i64 z)).run Tryz.prog w = .ok (.int .u8 (b.toNat : Int)) w := by
  subst hz
  obtain ⟨h1, h2⟩ := List.getElem?_eq_some_iff.1 h
  have hk : k < s.size := by simpa using h1
  rw [run_index_string w 9 s .i64 (k : Int) Tryz.underlying9, dif_pos ⟨by omega, by omega⟩]
  have : s[((k : Int)).toNat]'(by simpa using hk) = b := by
    rw [← h2]
    rfl
  rw [← this]
theorem slice_midU (t : ByteArray) (i j : Nat) (zi zj : Int) (hi : zi = i) (hj : zj = j) (h1 : i ≤ j) (h2 : j ≤ t.size) (w : World) : (Instr.slice 9 (.string t) (some (.int .i64 zi)) (some (.int .i64 zj)) none).run Tryz.prog w = .ok (.string (t.extract i j)) w := by
  subst hi; subst hj
  simp [Instr.slice, Instr.sliceBounds, Instr.sliceBound, asIntOf, run_underlying Tryz.underlying9, h1, h2]
set_option maxHeartbeats 800000 in
theorem pu_any (i j : Nat) (hi : i < 16) (hj : j < 16) (w : World) :
    Calls Tryz.prog 155 #[.string ⟨[hexD i, hexD j].toArray⟩, .int .i64 16, .int .i64 8] w fun e w' => e = .returned (.tuple #[.int .u64 ((i * 16 + j : Nat) : Int), .nilIface]) ∧ Below w.heap.size w w' := by
  have HP := Lib.hid (pu_inner i j hi hj w)
  generalize (⟨[hexD i, hexD j].toArray⟩ : ByteArray) = s at *
  generalize i * 16 + j = v at *
  go_enter Tryz.func155, Tryz.ntmps155
  go_wp2_with fail
  refine HP.out.mono ?_
  rintro e w' ⟨rfl, hb⟩
  go_wp2_with fail
  go_ret2
  exact ⟨rfl, hb⟩
theorem hasPrefix_two (a b c d : UInt8) (l : List UInt8) : Lib.hasPrefix (a :: b :: l) [c, d] = (a == c && b == d) := by
  simp [Lib.hasPrefix, List.isPrefixOf, Bool.beq_comm]
def EscPost (w : World) (c : UInt8) (e : Ending) (w' : World) : Prop := e = .returned (.tuple #[.int .u8 (c.toNat : Int), .int .i64 ((quoB c).length : Int)]) ∧ Below w.heap.size w w'
set_option maxHeartbeats 1600000 in
set_option maxRecDepth 100000 in
theorem escaped_any (c : UInt8) (u : List UInt8) (s : ByteArray) (w : World) (hs : s.data.toList = quoB c ++ u) (_hsz : s.size ≤ 1000000) :
    Calls Tryz.prog 113 #[.string s] w (EscPost w c) := by
  have hne : ¬ s.data.toList = [] := by
    rw [hs]
    intro e
    exact (quoB_facts c).1 (List.append_eq_nil_iff.1 e).1
  obtain ⟨q1, q2, q3⟩ := par_fullL hne
  have HSZ : Hid (s.size = s.data.toList.length) := by show _ = _; simp
  have HP := Lib.hid (fun (p : ByteArray) (W : World) => Tryz.strings_HasPrefix s p W)
  clear hne
  unfold EscPost
  by_cases hA : c = 34 ∨ c = 92
  · have hq : quoB c = [92, c] := by unfold quoB; rw [if_pos hA]
    rw [hq] at hs ⊢
    have h0 := fun W => index_at (s := s) (k := 0) (b := 92) (by rw [hs]; rfl) 0 rfl W
    have h1 := fun W => index_at (s := s) (k := 1) (b := c) (by rw [hs]; rfl) 1 rfl W
    have HP1 : Hid (Lib.hasPrefix s.data.toList [92, 110] = false) := by show _ = _; rw [hs, List.cons_append, List.cons_append, hasPrefix_two]; rcases hA with rfl | rfl <;> rfl
    have HP2 : Hid (Lib.hasPrefix s.data.toList [92, 34] = (c == 34)) := by show _ = _; rw [hs, List.cons_append, List.cons_append, hasPrefix_two]; rfl
    have HP3 : Hid (Lib.hasPrefix s.data.toList [92, 92] = (c == 92)) := by show _ = _; rw [hs, List.cons_append, List.cons_append, hasPrefix_two]; rfl
    clear hs hq HSZ
    rcases hA with rfl | rfl
    · go_enter Tryz.func113, Tryz.ntmps113
      go_wp2_with fail
      refine (HP.out _ _).mono ?_
      rintro e w1 ⟨rfl, hw⟩
      rw [hw, show (⟨#[92, 110]⟩ : ByteArray).data.toList = [92, 110] from rfl, HP1.out]
      clear hw w1
      go_wp2_with fail
      refine (HP.out _ _).mono ?_
      rintro e w1 ⟨rfl, hw⟩
      rw [hw, show (⟨#[92, 34]⟩ : ByteArray).data.toList = [92, 34] from rfl, HP2.out, show ((34 : UInt8) == 34) = true from rfl]
      clear hw w1
      go_wp2_with fail
      go_ret2
      exact ⟨rfl, Below.refl _ _⟩
    · go_enter Tryz.func113, Tryz.ntmps113
      go_wp2_with fail
      refine (HP.out _ _).mono ?_
      rintro e w1 ⟨rfl, hw⟩
      rw [hw, show (⟨#[92, 110]⟩ : ByteArray).data.toList = [92, 110] from rfl, HP1.out]
      clear hw w1
      go_wp2_with fail
      refine (HP.out _ _).mono ?_
      rintro e w1 ⟨rfl, hw⟩
      rw [hw, show (⟨#[92, 34]⟩ : ByteArray).data.toList = [92, 34] from rfl, HP2.out, show ((92 : UInt8) == 34) = false from rfl]
      clear hw w1
      go_wp2_with fail
      refine (HP.out _ _).mono ?_
      rintro e w1 ⟨rfl, hw⟩
      rw [hw, show (⟨#[92, 92]⟩ : ByteArray).data.toList = [92, 92] from rfl, HP3.out, show ((92 : UInt8) == 92) = true from rfl]
      clear hw w1
      go_wp2_with fail
      go_ret2
      exact ⟨rfl, Below.refl _ _⟩
  · by_cases hB : c = 10
    · subst hB
      have hq : quoB 10 = [92, 110] := rfl
      rw [hq] at hs ⊢
      have h0 := fun W => index_at (s := s) (k := 0) (b := 92) (by rw [hs]; rfl) 0 rfl W
      have HP1 : Hid (Lib.hasPrefix s.data.toList [92, 110] = true) := by show _ = _; rw [hs, List.cons_append, List.cons_append, hasPrefix_two]; rfl
      clear hs hq HSZ hA
      go_enter Tryz.func113, Tryz.ntmps113
      go_wp2_with fail
      refine (HP.out _ _).mono ?_
      rintro e w1 ⟨rfl, hw⟩
      rw [hw, show (⟨#[92, 110]⟩ : ByteArray).data.toList = [92, 110] from rfl, HP1.out]
      clear hw w1
      go_wp2_with fail
      go_ret2
      exact ⟨rfl, Below.refl _ _⟩
    · by_cases hC : c < 33 ∨ 126 < c
      · have hq : quoB c = [92, 120, hexD (c.toNat / 16), hexD (c.toNat % 16)] := by unfold quoB; rw [if_neg hA, if_neg hB, if_pos hC]
        have hc := c.toNat_lt
        rw [hq] at hs ⊢
        have h0 := fun W => index_at (s := s) (k := 0) (b := 92) (by rw [hs]; rfl) 0 rfl W
        have h1 := fun W => index_at (s := s) (k := 1) (b := 120) (by rw [hs]; rfl) 1 rfl W
        have HP1 : Hid (Lib.hasPrefix s.data.toList [92, 110] = false) := by show _ = _; rw [hs, List.cons_append, List.cons_append, hasPrefix_two]; rfl
        have HP2 : Hid (Lib.hasPrefix s.data.toList [92, 34] = false) := by show _ = _; rw [hs, List.cons_append, List.cons_append, hasPrefix_two]; rfl
        have HP3 : Hid (Lib.hasPrefix s.data.toList [92, 92] = false) := by show _ = _; rw [hs, List.cons_append, List.cons_append, hasPrefix_two]; rfl
        have hs4 : 4 ≤ s.size := by rw [HSZ.out, hs]; simp
        have hex : s.extract 2 4 = ⟨[hexD (c.toNat / 16), hexD (c.toNat % 16)].toArray⟩ := by
          apply ByteArray.ext
          rw [ByteArray.data_extract, ← Array.toList_inj, Array.toList_extract, hs]
          rfl
        have hsl := fun W => slice_midU s 2 4 2 4 rfl rfl (by omega) hs4 W
        rw [hex] at hsl
        have HPU := Lib.hid (fun W => pu_any (c.toNat / 16) (c.toNat % 16) (by omega) (by omega) W)
        have hval : c.toNat / 16 * 16 + c.toNat % 16 = c.toNat := by omega
        rw [hval] at HPU
        generalize (⟨[hexD (c.toNat / 16), hexD (c.toNat % 16)].toArray⟩ : ByteArray) = t at *
        obtain ⟨n, hn⟩ : ∃ n, n = c.toNat := ⟨_, rfl⟩
        rw [← hn] at HPU hc ⊢
        have hw8 : IntKind.u8.wrap (n : Int) = (n : Int) := by rw [IntKind.wrap_u8]; omega
        clear hs hq HSZ hA hB hC hex hval hn
        go_enter Tryz.func113, Tryz.ntmps113
        go_wp2_with fail
        refine (HP.out _ _).mono ?_
        rintro e w1 ⟨rfl, hw⟩
        rw [hw, show (⟨#[92, 110]⟩ : ByteArray).data.toList = [92, 110] from rfl, HP1.out]
        clear hw w1
        go_wp2_with fail
        refine (HP.out _ _).mono ?_
        rintro e w1 ⟨rfl, hw⟩
        rw [hw, show (⟨#[92, 34]⟩ : ByteArray).data.toList = [92, 34] from rfl, HP2.out]
        clear hw w1
        go_wp2_with fail
        refine (HP.out _ _).mono ?_
        rintro e w1 ⟨rfl, hw⟩
        rw [hw, show (⟨#[92, 92]⟩ : ByteArray).data.toList = [92, 92] from rfl, HP3.out]
        clear hw w1
        go_wp2_with fail
        refine (HPU.out _).mono ?_
        rintro e w1 ⟨rfl, hb⟩
        go_wp2_with fail
        go_ret2
        exact ⟨rfl, hb⟩
      · have hq : quoB c = [c] := by unfold quoB; rw [if_neg hA, if_neg hB, if_neg hC]
        rw [hq] at hs ⊢
        have h0 := fun W => index_at (s := s) (k := 0) (b := c) (by rw [hs]; rfl) 0 rfl W
        obtain ⟨n, hn⟩ : ∃ n, n = c.toNat := ⟨_, rfl⟩
        have hn92 : ¬ n = 92 := fun e => hA (.inr (UInt8.toNat_inj.1 (by rw [← hn, e]; rfl)))
        rw [← hn] at h0 ⊢
        have e92 : ((n : Int) == 92) = false := by simp; omega
        clear hs hq HSZ hA hB hC hn hn92
        go_enter Tryz.func113, Tryz.ntmps113
        go_wp2_with fail
        go_ret2
        exact ⟨rfl, Below.refl _ _⟩
end Go.Proofs.YtikmjomepnbkcaaGreatDoor

namespace Go.Proofs.YtikmjomepnbkcaaGreatDoor
open Go.RowKit

theorem cut_list (s : ByteArray) (i j : Nat) : (s.extract i j).data.toList = (s.data.toList.drop i).take (j - i) := by
  rw [ByteArray.data_extract, Array.toList_extract, List.extract_eq_take_drop]
theorem drop_quo (dn r : List UInt8) : ((34 : UInt8) :: (dn ++ r)).drop (1 + dn.length) = r := by
  rw [Nat.add_comm, List.drop_succ_cons, List.drop_left]
def UnqPost (w : World) (nm : List UInt8) (n : Nat) (e : Ending) (w' : World) : Prop := e = .returned (.tuple #[.string (bag nm), .int .i64 (n : Int), .int .i64 0]) ∧ Below w.heap.size w w'
set_option maxHeartbeats 3200000 in
set_option maxRecDepth 100000 in
theorem unquote_any (nm : List UInt8) (s : ByteArray) (w : World) (hs : s.data.toList = quoS nm) (hn : nm.length ≤ 10000) :
    Calls Tryz.prog 72 #[.string s] w (UnqPost w nm s.size) := by
  have HSZ : Hid (s.size = (nm.flatMap quoB).length + 2) := by
    show _ = _
    have : s.size = s.data.toList.length := by simp
    rw [this, hs]
    simp [quoS]
  have HQL := Lib.hid (quo_len nm)
  have hsz : s.size ≤ 50000 := by have := HSZ.out; have := HQL.out; omega
  have HS := Lib.hid hs
  have HP := Lib.hid (fun (p : ByteArray) (W : World) => Tryz.strings_HasPrefix s p W)
  have HP1 : Hid (Lib.hasPrefix s.data.toList [34] = true) := by show _ = _; rw [hs]; simp [quoS, Lib.hasPrefix, List.isPrefixOf]
  have HN := Lib.hid hn
  clear hs hn
  go_enter Tryz.func72, Tryz.ntmps72
  go_wp2_with fail
  refine (HP.out _ _).mono ?_
  rintro e w1 ⟨rfl, hw⟩
  rw [hw, show (⟨#[34]⟩ : ByteArray).data.toList = [34] from rfl, HP1.out]
  clear hw w1 HP HP1
  go_wp2_with fail
  go_loopg [5, 6] (nm.length + 1) (fun gk v5 v6 wr => ∃ dn r : List UInt8, Hid (dn ++ r = nm) ∧ Hid (dn.length + gk = nm.length + 1) ∧ v6 = .int .i64 ((1 + (dn.flatMap quoB).length : Nat) : Int) ∧ Hid (Owns ByteE wr w.heap.size v5 dn) ∧ Hid (Below w.heap.size w wr))
  case atStart => exact ⟨[], nm, show [] ++ nm = nm from rfl, show 0 + _ = _ by omega, rfl, Owns.nil _ _, Below.refl _ _⟩
  case round =>
    obtain ⟨dn, r, HDR, HK, rfl, HO, HB⟩ := hrel
    have HL : Hid (s.data.toList = 34 :: (dn.flatMap quoB ++ (r.flatMap quoB ++ [34]))) := by
      show _ = _
      rw [HS.out, ← HDR.out]
      simp [quoS]
    have hlen : s.size = (dn.flatMap quoB).length + (r.flatMap quoB).length + 2 := by rw [HSZ.out, ← HDR.out, List.flatMap_append, List.length_append]
    obtain ⟨a, ha⟩ : ∃ a, a = 1 + (dn.flatMap quoB).length := ⟨_, rfl⟩
    have HDROP : Hid (s.data.toList.drop a = r.flatMap quoB ++ [34]) := by show _ = _; rw [HL.out, ha, drop_quo]
    rw [← ha]
    have hal : a < s.size := by omega
    have HA := Lib.hid ha
    have HLEN := Lib.hid hlen
    clear ha hlen
    cases r with
    | nil =>
      have h34 : s.data.toList[a]? = some 34 := by
        have h := congrArg (fun l : List UInt8 => l[0]?) HDROP.out
        simpa [List.getElem?_drop] using h
      have hix := fun W => index_at h34 (a : Int) rfl W
      have HNM : Hid (dn = nm) := by have := HDR.out; rw [List.append_nil] at this; exact this
      have hback := own_back HO.out
      have HEND : Hid (a + 1 = s.size) := by have h1 := HA.out; have h2 := HLEN.out; rw [List.flatMap_nil, List.length_nil] at h2; show _ = _; omega
      have HF : Hid (UnqPost w nm s.size (.returned (.tuple #[.string (bag dn), .int .i64 ((a : Int) + 1), .int .i64 0])) wr) := by
        refine ⟨?_, HB.out⟩
        rw [HNM.out, ← HEND.out]
        rfl
      clear h34
      go_wp2_with fail
      refine bodyPost_ret (v := .tuple #[.string (bag dn), .int .i64 ((a : Int) + 1), .int .i64 0]) (by simp [results, Tryz.results72, go_sem]) rfl ?_
      exact HF.out
    | cons c r =>
      have HGK : Hid (dn.length + 1 + (gk - 1) = nm.length + 1 ∧ 0 < gk) := by
        have h1 := HK.out
        have h2 := congrArg List.length HDR.out
        simp at h2
        show _ ∧ _
        omega
      obtain ⟨hq1, hq2, hq3, hq4⟩ := quoB_facts c
      obtain ⟨b0, br, hb0⟩ := List.exists_cons_of_ne_nil hq1
      have HDR2 : Hid (s.data.toList.drop a = quoB c ++ (r.flatMap quoB ++ [34])) := by show _ = _; rw [HDROP.out, List.flatMap_cons, List.append_assoc]
      have hix0 : s.data.toList[a]? = some b0 := by
        have h := congrArg (fun l : List UInt8 => l[0]?) HDR2.out
        simpa [List.getElem?_drop, hb0] using h
      have hix := fun W => index_at hix0 (a : Int) rfl W
      have e34 : ((b0.toNat : Int) == 34) = false := by
        rw [hb0] at hq4
        have h1 : b0 ≠ 34 := fun e => hq4 (by rw [e]; rfl)
        have h2 : b0.toNat ≠ 34 := fun e => h1 (UInt8.toNat_inj.1 (by rw [e]; rfl))
        simp; omega
      have hsl := fun W => slice_from s a (a : Int) rfl (by omega) W
      have HT : Hid ((s.extract a s.size).data.toList = quoB c ++ (r.flatMap quoB ++ [34])) := by
        show _ = _
        rw [cut_list, HDR2.out]
        refine List.take_of_length_le ?_
        have h := congrArg List.length HDR2.out
        rw [List.length_drop] at h
        rw [← h]
        have : s.data.toList.length = s.size := by simp
        omega
      obtain ⟨L, hL⟩ : ∃ L, L = (quoB c).length := ⟨_, rfl⟩
      have hLs : a + L ≤ s.size := by
        have h := congrArg List.length HDR2.out
        rw [List.length_drop] at h
        simp only [List.length_append, List.length_cons, List.length_nil] at h
        have : s.data.toList.length = s.size := by simp
        omega
      have hL0 : 1 ≤ L := by rw [hL, hb0]; simp
      have hL4 : L ≤ 4 := by rw [hL]; exact hq2
      have HX : Hid (s.extract a (a + L) = ⟨(quoB c).toArray⟩) := by
        show _ = _
        apply ByteArray.ext
        rw [← Array.toList_inj, cut_list, HDR2.out, hL]
        simp
      have hsl2 := fun W => slice_midU s a (a + L) (a : Int) ((a : Int) + (L : Int)) rfl (by omega) (by omega) hLs W
      rw [HX.out] at hsl2
      have hes := escaped_any c (r.flatMap quoB ++ [34]) (s.extract a s.size) wr HT.out (by
        have h1 : (s.extract a s.size).size ≤ s.size := by simp [ByteArray.size_extract]
        omega)
      unfold EscPost at hes
      rw [← hL] at hes
      have HES := Lib.hid hes
      generalize s.extract a s.size = t at *
      have eL : ((L : Int) == 0) = false := by simp; omega
      have HLL := Lib.hid hL
      clear hes hq1 hq2 hq3 hq4 hb0 hix0 hL HX HT
      go_wp2_with fail
      refine HES.out.mono ?_
      rintro e w1 ⟨rfl, hb1⟩
      have HO1 := Lib.hid (HO.out.below_ hb1)
      have HB1 := Lib.hid (HB.out.trans (hb1.mono HB.out.size))
      clear hb1 HES HO HB
      go_upto_region 9 with (fail)
      go_quiet ((go_at_call 54; with_reducible exact Calls.quiet_of (quoted_any c _)))
      have HO2 : Hid (Owns ByteE (w1.drewN nq) w.heap.size u5 dn) := HO1.out
      have HB2 : Hid (Below w.heap.size w (w1.drewN nq)) := below_drewN HB1.out nq
      generalize w1.drewN nq = w2 at *
      have hdl : dn.length ≤ 10000 := by
        have h1 := congrArg List.length HDR.out
        have := HN.out
        simp at h1
        omega
      have HWZ : Hid (w.heap.size ≤ w2.heap.size) := HB2.out.size
      clear HO1 HB1 hix hsl hsl2
      go_wp2_with (at_builtin; refine append_elems byteE_ok rfl _ _ rfl w.heap.size _ dn rfl (World.ownsRow.alloc HO2.out _) (some ⟨w2.heap.size, 0, none⟩) 1 1 [c] rfl (one_elem (E := ByteE) w2 c) (by simp; omega) (by have := HWZ.out; simp; omega) ?_; intro v10 w10 hown10 hgrow10 _)
      have HB10 : Hid (Below w.heap.size w w10) := (HB2.out.alloc HB2.out.size _).grown hgrow10 (by have := HB2.out.size; simp; omega) (fun i hi => (HO2.out.lt i hi).1)
      have HO10 : Hid (Owns ByteE w10 w.heap.size v10 (dn ++ [c])) := hown10
      have HAN : Hid (a + L = 1 + ((dn ++ [c]).flatMap quoB).length) := by
        show _ = _
        rw [HA.out, HLL.out, List.flatMap_append, List.length_append]
        simp
        omega
      clear hown10 hgrow10 HO2 HB2
      go_wp2_with fail
      go_roundg (gk - 1)
      case measure => exact Nat.sub_lt HGK.out.2 Nat.one_pos
      case rel => exact ⟨dn ++ [c], r, by have := HDR.out; show _ = _; rw [List.append_assoc]; exact this, by have := HGK.out.1; show _ = _; rw [List.length_append]; exact this, by rw [← HAN.out]; go_num, HO10.out, HB10.out⟩
end Go.Proofs.YtikmjomepnbkcaaGreatDoor

namespace Go.Proofs.YtikmjomepnbkcaaGreatDoor
open Go.RowKit

theorem BuildAt.new (w : World) : BuildAt w.heap.size w.heap.size [] (w.alloc (.cells #[.pointer none, .slice none 0 0] 48)) :=
  .inl ⟨Nat.le_refl _, .slice none 0 0, heap_alloc_new _ _, ⟨rfl, .inl ⟨rfl, rfl⟩⟩, by simp [Value.ownBlock]⟩
theorem BuildAt.below {w w' : World} {B b : Nat} {l : List UInt8} (h : BuildAt B b l w) (hb : Below w.heap.size w w') : BuildAt B b l w' := by
  have key : ∀ p, Lib.BuilderAt 48 5 B b p (Lib.byteCells l) w → Lib.BuilderAt 48 5 B b p (Lib.byteCells l) w' := by
    rintro p ⟨hB, v, hk, hown, hne⟩
    have hv : v.ownBlock = none ∨ v.ownBlock ≠ none := by cases v.ownBlock <;> simp
    exact ⟨hB, v, (hb.block b (Array.getElem?_eq_some_iff.1 hk).1).trans hk, World.ownsRow.kept hown (below_grown hb none) hv, hne⟩
  rcases h with h | h
  · exact .inl (key _ h)
  · exact .inr (key _ h)
theorem bag_size' (l : List UInt8) : (bag l).size = l.length := by simp [bag, ByteArray.size]
def QuotePost (w : World) (l : List UInt8) (e : Ending) (w' : World) : Prop := e = .returned (.string (bag l)) ∧ Below w.heap.size w w'
set_option maxHeartbeats 1600000 in
set_option maxRecDepth 100000 in
theorem quote_any (s : ByteArray) (w : World) (hs : s.size ≤ 10000) :
    Calls Tryz.prog 20 #[.string s] w (QuotePost w (quoS s.data.toList)) := by
  have HSL : Hid (s.data.toList.length = s.size) := by show _ = _; simp
  have HQL := Lib.hid (fun k => quo_len (s.data.toList.take k))
  have hb1 : Below w.heap.size w (w.alloc (.cells #[.pointer none, .slice none 0 0] 48)) := (Below.refl _ _).alloc (Nat.le_refl _) _
  have HBU := Lib.hid (BuildAt.new w)
  have HB1 := Lib.hid hb1
  have hz1 : w.heap.size < (w.alloc (.cells #[.pointer none, .slice none 0 0] 48)).heap.size := by simp
  have HZ1 := Lib.hid hz1
  clear hb1 hz1
  go_enter Tryz.func20, Tryz.ntmps20
  go_upto_region 2 with (fail)
  generalize w.alloc (.cells #[.pointer none, .slice none 0 0] 48) = w1 at *
  go_wp2_with fail
  refine (writeByte_any w.heap.size w.heap.size [] 34 w1 HBU.out (by simp) (Nat.le_of_lt HZ1.out)).mono ?_
  rintro e w2 ⟨rfl, hbu2, hb2⟩
  have HU2 : Hid (BuildAt w.heap.size w.heap.size ([34] ++ (s.data.toList.take 0).flatMap quoB) w2) := by
    show BuildAt _ _ _ _
    simpa using hbu2
  have HB2 := Lib.hid (HB1.out.trans hb2)
  have HZ2 : Hid (w.heap.size < w2.heap.size) := Nat.lt_of_lt_of_le HZ1.out hb2.size
  clear hbu2 hb2 HBU HB1 HZ1
  go_wp2_with fail
  go_loopg [8] s.size (fun gk v wr => ∃ k : Nat, Hid (k + gk = s.size) ∧ v = .int .i64 (k : Int) ∧ Hid (BuildAt w.heap.size w.heap.size ([34] ++ (s.data.toList.take k).flatMap quoB) wr) ∧ Hid (Below w.heap.size w wr) ∧ Hid (w.heap.size < wr.heap.size))
  case atStart => exact ⟨0, show 0 + s.size = _ by omega, rfl, HU2.out, HB2.out, HZ2.out⟩
  case round =>
    obtain ⟨k, HK, rfl, HU, HB, HZ⟩ := hrel
    clear HU2 HB2 HZ2
    have hkn : k ≤ s.size := by have := HK.out; omega
    have hll : ([34] ++ (s.data.toList.take k).flatMap quoB).length ≤ 50000 := by
      have h1 := HQL.out k
      rw [List.length_take] at h1
      rw [List.length_append]
      have : ([34] : List UInt8).length = 1 := rfl
      have := Nat.min_le_left k s.data.toList.length
      omega
    by_cases hlt : k < s.size
    · have HGK := Lib.hid (show k + 1 + (gk - 1) = s.size ∧ 0 < gk by have := HK.out; omega)
      obtain ⟨c, hc⟩ : ∃ c, s.data.toList[k]? = some c := ⟨_, List.getElem?_eq_getElem (by have := HSL.out; omega)⟩
      have hix := fun W => index_at hc (k : Int) rfl W
      have HTK : Hid ((s.data.toList.take (k + 1)).flatMap quoB = (s.data.toList.take k).flatMap quoB ++ quoB c) := by
        show _ = _
        obtain ⟨h1, h2⟩ := List.getElem?_eq_some_iff.1 hc
        rw [List.take_succ_eq_append_getElem h1, h2, List.flatMap_append]
        simp
      have hq4 := (quoB_facts c).2.1
      have HQ := Lib.hid (fun W => quoted_any c W)
      clear hc HK
      go_wp2_with fail
      refine (HQ.out _).mono ?_
      rintro e w3 ⟨rfl, q, rfl⟩
      have HU3 : Hid (BuildAt w.heap.size w.heap.size ([34] ++ (s.data.toList.take k).flatMap quoB) (wr.drewN q)) := HU.out
      have HB3 : Hid (Below w.heap.size w (wr.drewN q)) := below_drewN HB.out q
      have HZ3 : Hid (w.heap.size < (wr.drewN q).heap.size) := HZ.out
      generalize wr.drewN q = w3 at *
      have HWS := Lib.hid (writeString_any w.heap.size w.heap.size ([34] ++ (s.data.toList.take k).flatMap quoB) ⟨(quoB c).toArray⟩ w3 HU3.out (by
        have : (⟨(quoB c).toArray⟩ : ByteArray).size = (quoB c).length := by simp [ByteArray.size]
        omega) (Nat.le_of_lt HZ3.out))
      clear hix HU HB HZ HQ
      go_wp2_with fail
      refine HWS.out.mono ?_
      rintro e w4 ⟨rfl, hbu4, hb4⟩
      have HU4 : Hid (BuildAt w.heap.size w.heap.size ([34] ++ (s.data.toList.take (k + 1)).flatMap quoB) w4) := by
        show BuildAt _ _ _ _
        rw [HTK.out, ← List.append_assoc]
        exact hbu4
      have HB4 := Lib.hid (HB3.out.trans hb4)
      have HZ4 : Hid (w.heap.size < w4.heap.size) := Nat.lt_of_lt_of_le HZ3.out hb4.size
      clear hbu4 hb4 HWS HU3 HB3 HZ3
      go_wp2_with fail
      go_roundg (gk - 1)
      case measure => exact Nat.sub_lt HGK.out.2 Nat.one_pos
      case rel => exact ⟨k + 1, HGK.out.1, by go_num, HU4.out, HB4.out, HZ4.out⟩
    · have hnk : ¬ (k : Int) < (s.size : Int) := by omega
      have HALL : Hid (s.data.toList.take k = s.data.toList) := List.take_of_length_le (by have := HSL.out; omega)
      have HWB := Lib.hid (writeByte_any w.heap.size w.heap.size ([34] ++ (s.data.toList.take k).flatMap quoB) 34 wr HU.out (by omega) (Nat.le_of_lt HZ.out))
      clear HK hlt
      go_wp2_with fail
      refine HWB.out.mono ?_
      rintro e w3 ⟨rfl, hbu3, hb3⟩
      have HB3 := Lib.hid (HB.out.trans hb3)
      have HZ3 : Hid (w.heap.size < w3.heap.size) := Nat.lt_of_lt_of_le HZ.out hb3.size
      have HST := Lib.hid (string_any w.heap.size w.heap.size _ w3 hbu3 (Nat.le_of_lt HZ3.out))
      have HE : Hid ([34] ++ (s.data.toList.take k).flatMap quoB ++ [34] = quoS s.data.toList) := by show _ = _; rw [HALL.out]; simp [quoS]
      rw [HE.out] at HST
      clear hbu3 hb3 HWB
      go_wp2_with fail
      refine HST.out.mono ?_
      rintro e w4 ⟨rfl, hb4⟩
      have HB4 := Lib.hid (HB3.out.trans hb4)
      clear hb4 HST
      go_wp2_with fail
      go_ret
      exact ⟨rfl, HB4.out⟩
end Go.Proofs.YtikmjomepnbkcaaGreatDoor

namespace Go.Proofs.YtikmjomepnbkcaaGreatDoor
open Go.RowKit

def NumPost (w : World) (z : Int) (e : Ending) (w' : World) : Prop := e = .returned (.tuple #[.int .i64 z, .bool true]) ∧ Below w.heap.size w w'
theorem hasPrefix_no (c : UInt8) (l : List UInt8) (h : c ∉ l) : Lib.hasPrefix l [c] = false := by
  cases l with
  | nil => rfl
  | cons b r =>
    have : ¬ c = b := fun e => h (by simp [e])
    simp [Lib.hasPrefix, List.isPrefixOf, this]
theorem trimPrefix_no (c : UInt8) (l : List UInt8) (h : c ∉ l) : Lib.trimPrefix l [c] = l := by
  simp [Lib.trimPrefix, hasPrefix_no c l h]
theorem Below_bytes (w : World) (t : ByteArray) : Below w.heap.size w (Lib.bytesWorld w 5 t) := Lib.bytesWorld_below w 5 t
set_option maxHeartbeats 1600000 in
set_option maxRecDepth 100000 in
theorem number_any (u : Nat) (s : ByteArray) (w : World) (hs : s.data.toList = Lib.decDigits u) (hu : u < 1000000000) :
    Calls Tryz.prog 71 #[.string s, .int .i64 9] w (NumPost w u) := by
  obtain ⟨hl1, hl9⟩ := dec_len hu
  obtain ⟨hd, hne⟩ := dec_digits u
  have HSL : Hid (s.data.toList.length = s.size) := by show _ = _; simp
  have hsz : 1 ≤ s.size ∧ s.size ≤ 9 := by rw [← HSL.out, hs]; exact ⟨hl1, hl9⟩
  have hCP := fun W => Tryz.strings_CutPrefix s ⟨#[45]⟩ W
  have e1 : (⟨(Lib.trimPrefix s.data.toList (⟨#[45]⟩ : ByteArray).data.toList).toArray⟩ : ByteArray) = s := by
    rw [show (⟨#[45]⟩ : ByteArray).data.toList = [45] from rfl, trimPrefix_no 45 _ (by rw [hs]; exact (dec_not u).2.2)]
  have e2 : Lib.hasPrefix s.data.toList (⟨#[45]⟩ : ByteArray).data.toList = false := by
    rw [show (⟨#[45]⟩ : ByteArray).data.toList = [45] from rfl, hasPrefix_no 45 _ (by rw [hs]; exact (dec_not u).2.2)]
  rw [e1, e2] at hCP
  have HCP := Lib.hid hCP
  have HIN := Lib.hid (fun W => in_any (s.size : Int) 1 9 W)
  rw [inB_in _ _ _ (by omega) (by omega)] at HIN
  have HAT := Lib.hid (fun W => Tryz.strconv_Atoi s (u : Int) (by omega) (by rw [hs]; exact atoi_dec u) W)
  have HD : Hid (∀ (k : Nat) (b : UInt8), s.data.toList[k]? = some b → 48 ≤ b.toNat ∧ b.toNat ≤ 57) := fun k b h => hd b (by rw [← hs]; exact List.mem_of_getElem? h)
  obtain ⟨b0, hb0⟩ : ∃ b, s.data.toList[0]? = some b := ⟨_, List.getElem?_eq_getElem (by have := HSL.out; omega)⟩
  have hix0 := fun W => index_at hb0 0 rfl W
  have HLEAD : Hid (1 < s.size → b0.toNat ≠ 48) := fun h e => by
    have h0 : (Lib.decDigits u).head? = some 48 := by
      rw [← hs]
      rw [List.head?_eq_getElem?, hb0]
      congr 1
      exact UInt8.toNat_inj.1 (by rw [e]; rfl)
    have := dec_lead u h0
    subst this
    have h2 := HSL.out
    rw [hs, show Lib.decDigits 0 = [48] from by rw [Lib.decDigits]; rfl] at h2
    simp at h2
    omega
  clear hs hu hd hne hl1 hl9 hCP e1 e2 hb0
  have HFIN : Hid (∀ w2, Below w.heap.size w w2 → NumPost w u (.returned (.tuple #[.int .i64 (u : Int), .bool true])) w2) := fun w2 hb => ⟨rfl, hb⟩
  go_enter Tryz.func71, Tryz.ntmps71
  go_wp2_with fail
  refine (HCP.out _).mono ?_
  rintro e w1 ⟨rfl, hw⟩
  rw [hw]
  clear hw w1 HCP
  go_wp2_with fail
  refine (HIN.out _).mono ?_
  rintro e w1 ⟨rfl, hw⟩
  rw [← hw]
  clear hw w1 HIN
  by_cases h1 : s.size = 1
  · have hs1 : ¬ (1 : Int) < (s.size : Int) := by omega
    clear hix0 HLEAD
    go_wp2_with fail
    go_loopg [40] s.size (fun gk v wr => ∃ k : Nat, Hid (k + gk = s.size) ∧ v = .int .i64 (k : Int) ∧ w = wr)
    case atStart => exact ⟨0, show 0 + s.size = _ by omega, rfl, rfl⟩
    case round =>
      obtain ⟨k, HK, rfl, rfl⟩ := hrel
      have hkn : k ≤ s.size := by have := HK.out; omega
      by_cases hlt : k < s.size
      · have HGK := Lib.hid (show k + 1 + (gk - 1) = s.size ∧ 0 < gk by have := HK.out; omega)
        obtain ⟨c, hc⟩ : ∃ c, s.data.toList[k]? = some c := ⟨_, List.getElem?_eq_getElem (by have := HSL.out; omega)⟩
        have hcell := HD.out k c hc
        have hix := fun W => index_at hc (k : Int) rfl W
        have HDG := Lib.hid (fun W => digit_any (c.toNat : Int) W)
        rw [show digB (c.toNat : Int) = true by unfold digB; simp; omega] at HDG
        clear hc hcell HK
        go_wp2_with fail
        refine (HDG.out _).mono ?_
        rintro e w' ⟨rfl, hw⟩
        rw [← hw]
        clear hw w'
        go_wp2_with fail
        go_roundg (gk - 1)
        case measure => exact Nat.sub_lt HGK.out.2 Nat.one_pos
        case rel => exact ⟨k + 1, HGK.out.1, by go_num, rfl⟩
      · have hnk : ¬ (k : Int) < (s.size : Int) := by omega
        clear HK hlt
        go_wp2_with fail
        refine (HAT.out _).mono ?_
        rintro e w1 ⟨rfl, t, rfl⟩
        have HF := Lib.hid (HFIN.out _ (Below_bytes w t))
        generalize Lib.bytesWorld w _ t = w1 at *
        go_upto_region 11 with (fail)
        go_quiet (fail)
        go_wp2_with fail
        go_ret2
        exact ⟨rfl, below_drewN HF.out.2 _⟩
  · have hs1 : (1 : Int) < (s.size : Int) := by omega
    have hs2 : 0 < s.size := by omega
    have e48 : ((b0.toNat : Int) == 48) = false := by have := HLEAD.out (by omega); simp; omega
    go_wp2_with fail
    go_loopg [40] s.size (fun gk v wr => ∃ k : Nat, Hid (k + gk = s.size) ∧ v = .int .i64 (k : Int) ∧ w = wr)
    case atStart => exact ⟨0, show 0 + s.size = _ by omega, rfl, rfl⟩
    case round =>
      obtain ⟨k, HK, rfl, rfl⟩ := hrel
      have hkn : k ≤ s.size := by have := HK.out; omega
      by_cases hlt : k < s.size
      · have HGK := Lib.hid (show k + 1 + (gk - 1) = s.size ∧ 0 < gk by have := HK.out; omega)
        obtain ⟨c, hc⟩ : ∃ c, s.data.toList[k]? = some c := ⟨_, List.getElem?_eq_getElem (by have := HSL.out; omega)⟩
        have hcell := HD.out k c hc
        have hix := fun W => index_at hc (k : Int) rfl W
        have HDG := Lib.hid (fun W => digit_any (c.toNat : Int) W)
        rw [show digB (c.toNat : Int) = true by unfold digB; simp; omega] at HDG
        clear hc hcell HK
        go_wp2_with fail
        refine (HDG.out _).mono ?_
        rintro e w' ⟨rfl, hw⟩
        rw [← hw]
        clear hw w'
        go_wp2_with fail
        go_roundg (gk - 1)
        case measure => exact Nat.sub_lt HGK.out.2 Nat.one_pos
        case rel => exact ⟨k + 1, HGK.out.1, by go_num, rfl⟩
      · have hnk : ¬ (k : Int) < (s.size : Int) := by omega
        clear HK hlt
        go_wp2_with fail
        refine (HAT.out _).mono ?_
        rintro e w1 ⟨rfl, t, rfl⟩
        have HF := Lib.hid (HFIN.out _ (Below_bytes w t))
        generalize Lib.bytesWorld w _ t = w1 at *
        go_upto_region 11 with (fail)
        go_quiet (fail)
        go_wp2_with fail
        go_ret2
        exact ⟨rfl, below_drewN HF.out.2 _⟩
set_option maxHeartbeats 400000 in
theorem natural_any (u : Nat) (s : ByteArray) (w : World) (hs : s.data.toList = Lib.decDigits u) (hu : u < 1000000000) :
    Calls Tryz.prog 73 #[.string s, .int .i64 9] w (NumPost w u) := by
  have HN := Lib.hid (number_any u s w hs hu)
  clear hs hu
  go_enter Tryz.func73, Tryz.ntmps73
  go_wp2_with fail
  refine HN.out.mono ?_
  rintro e w1 ⟨rfl, hb⟩
  have h0 : (0 : Int) ≤ (u : Int) := by omega
  go_wp2_with fail
  go_ret2
  exact ⟨rfl, hb⟩
end Go.Proofs.YtikmjomepnbkcaaGreatDoor

namespace Go.Proofs.YtikmjomepnbkcaaGreatDoor
open Go.RowKit

/-- Nothing is turned but builders and rows of bytes of the call's own. -/
def OnlyBuf (w w' : World) : Prop := ∀ (k : Nat) (o : Obj), w.heap[k]? = some o → (∀ c, o ≠ .cells c 48 (0, 0)) → (∀ c, o ≠ .cells c 5 (0, 0)) → w'.heap[k]? = some o
theorem OnlyBuf.refl (w : World) : OnlyBuf w w := fun _ _ h _ _ => h
theorem OnlyBuf.trans {a b c : World} (h : OnlyBuf a b) (k : OnlyBuf b c) : OnlyBuf a c := fun i o hi h1 h2 => k i o (h i o hi h1 h2) h1 h2
theorem OnlyBuf.alloc {a b : World} (h : OnlyBuf a b) (o : Obj) : OnlyBuf a (b.alloc o) := fun i x hi h1 h2 => by
  have h3 := h i x hi h1 h2
  exact (Below.heap_alloc b o i (Array.getElem?_eq_some_iff.1 h3).1).trans h3
theorem OnlyBuf.drewN {a b : World} (h : OnlyBuf a b) (n : Nat) : OnlyBuf a (b.drewN n) := h
theorem OnlyBuf.row {a b c : World} {row : Option Nat} (h : OnlyBuf a b) (hg : b.grownBy c row) (hr : ∀ g, row = some g → ∃ cs, b.heap[g]? = some (.cells cs 5 (0, 0)) ∨ b.heap[g]? = some (.cells cs 48 (0, 0))) : OnlyBuf a c := fun i x hi h1 h2 => by
  have h3 := h i x hi h1 h2
  rw [hg.block i (Array.getElem?_eq_some_iff.1 h3).1 (fun e => ?_)]
  · exact h3
  · obtain ⟨cs, hc | hc⟩ := hr i e.symm
    · rw [h3] at hc; exact h2 cs (Option.some.inj hc)
    · rw [h3] at hc; exact h1 cs (Option.some.inj hc)
theorem OnlyBuf.belows {w w' : World} (h : Below w.heap.size w w') : OnlyBuf w w' := fun i _ hi _ _ => (h.block i (Array.getElem?_eq_some_iff.1 hi).1).trans hi
theorem own_kind {w : World} {B : Nat} {v : Value} {n : Nat} {xs : List Value} (h : w.ownsRow B 5 1 v n xs) : ∀ g, v.ownBlock = some g → ∃ cs, w.heap[g]? = some (.cells cs 5 (0, 0)) ∨ w.heap[g]? = some (.cells cs 48 (0, 0)) := by
  intro g hg
  rcases h.2 with ⟨rfl, _⟩ | ⟨g', cap, cur, rfl, _, hh, _⟩
  · cases hg
  · cases hg
    exact ⟨cur, .inl hh⟩

def CheckPost (B b : Nat) (l : List UInt8) (w : World) (e : Ending) (w' : World) : Prop := e = .returned (.tuple #[]) ∧ Lib.BuilderAt 48 5 B b (.pointer (some ⟨b, 0, none⟩)) (Lib.byteCells l) w' ∧ Below B w w' ∧ OnlyBuf w w'
theorem copyCheck_any (B b : Nat) (l : List UInt8) (w : World) (h : BuildAt B b l w) (hB : B ≤ w.heap.size) :
    Calls Tryz.prog 55 #[.pointer (some ⟨b, 0, none⟩)] w (CheckPost B b l w) := by
  rcases h with h | h
  · have h0 := h.cell0
    have hs := h.shape
    have hz := h.frozen0
    refine (Any.Builder_copyCheck_fresh (L := { lays166' with }) (X := buildExtra.toX72) b w h0 hs hz).mono ?_
    rintro e w' ⟨rfl, rfl⟩
    obtain ⟨hBb, v, hb, hown, hne⟩ := h
    refine ⟨rfl, ?_, (Below.refl B w).setCell (p := ⟨b, 0, none⟩) hBb _, ?_⟩
    · refine ⟨hBb, v, by simp [World.setCell, Array.getElem?_modify, hb], World.ownsRow.kept hown (grown_setCell w b 0 _) (.inr hne), hne⟩
    · exact (OnlyBuf.refl w).row (grown_setCell w b 0 _) (fun g e => by cases e; exact ⟨_, .inr hb⟩)
  · refine (Any.Builder_copyCheck_used (L := { lays166' with }) (X := buildExtra.toX72) b w h.cell0).mono ?_
    rintro e w' ⟨rfl, rfl⟩
    exact ⟨rfl, h, Below.refl _ _, OnlyBuf.refl _⟩

def WroteB (B b : Nat) (r : Value) (l : List UInt8) (w : World) (e : Ending) (w' : World) : Prop := e = .returned r ∧ BuildAt B b l w' ∧ Below B w w' ∧ OnlyBuf w w'
theorem put_build {w1 w2 : World} {B b n : Nat} {v : Value} {A : Option Addr} {c : Nat} {l : List UInt8} (hB : B ≤ b) (hb : w1.heap[b]? = some (.cells #[.pointer (some ⟨b, 0, none⟩), v] 48 (0, 0))) (hv : v.ownBlock ≠ some b) (hg : w1.grownBy w2 v.ownBlock)
    (hown : Owns ByteE w2 B (.slice A n c) l) (_hn : n = l.length) : BuildAt B b l (w2.setCell ⟨b, 1, none⟩ (.slice A n c)) := by
  have hb2 : w2.heap[b]? = some (.cells #[.pointer (some ⟨b, 0, none⟩), v] 48 (0, 0)) := (hg.block b (Array.getElem?_eq_some_iff.1 hb).1 (fun e => hv e.symm)).trans hb
  have hne : (Value.slice A n c).ownBlock ≠ some b := hown.ne_block hb2 (by decide)
  refine .inr ⟨hB, .slice A n c, by simp [World.setCell, Array.getElem?_modify, hb2], ?_, hne⟩
  have h : w2.ownsRow B 5 1 (.slice A n c) (Lib.byteCells l).length (Lib.byteCells l) := by
    have := hown
    unfold Owns at this
    rw [byteE_cells] at this
    rw [show (Lib.byteCells l).length = l.length by simp [Lib.byteCells]]
    exact this
  exact World.ownsRow.kept h (grown_setCell w2 b 1 _) (.inr hne)
theorem BuilderAt.parts {B b : Nat} {p : Value} {l : List UInt8} {w : World} (h : Lib.BuilderAt 48 5 B b p (Lib.byteCells l) w) : B ≤ b ∧ b < w.heap.size ∧ ∃ v, w.heap[b]? = some (.cells #[p, v] 48 (0, 0)) ∧ Owns ByteE w B v l ∧ v.ownBlock ≠ some b := by
  obtain ⟨hB, v, hb, hown, hne⟩ := h
  refine ⟨hB, (Array.getElem?_eq_some_iff.1 hb).1, v, hb, ?_, hne⟩
  unfold Owns
  rw [byteE_cells]
  rw [show (Lib.byteCells l).length = l.length by simp [Lib.byteCells]] at hown
  exact hown

set_option maxHeartbeats 1600000 in
set_option maxRecDepth 100000 in
theorem writeByte_buf (B b : Nat) (l : List UInt8) (c : UInt8) (w : World) (h : BuildAt B b l w) (hl : l.length ≤ 90000) (hB : B ≤ w.heap.size) :
    Calls Tryz.prog 53 #[.pointer (some ⟨b, 0, none⟩), .int .u8 (c.toNat : Int)] w (WroteB B b .nilIface (l ++ [c]) w) := by
  go_enter Tryz.func53, Tryz.ntmps53
  go_wp2_with fail
  refine (copyCheck_any B b l w h hB).mono ?_
  rintro e w1 ⟨rfl, hb1, hbel, honly⟩
  obtain ⟨hBb, hblt, v, hbk, hown, hne⟩ := BuilderAt.parts hb1
  have c1 : w1.cell? ⟨b, 1, none⟩ = some v := by rw [cell_of_row w1 b 1 _ _ _ hbk]; rfl
  have hone := one_elem (E := ByteE) w1 c
  have HO := Lib.hid (World.ownsRow.alloc hown (.cells #[.int .u8 (c.toNat : Int)] 5))
  have HONE := Lib.hid hone
  have HK := Lib.hid hbk
  have HB1 := Lib.hid hbel
  have HON := Lib.hid honly
  have HNE := Lib.hid hne
  have hsz := hbel.size
  have hbs : B ≤ (w1.alloc (.cells #[.int .u8 (c.toNat : Int)] 5)).heap.size := by simp; omega
  have HOW := Lib.hid hown
  clear hb1 hone hbk hbel honly hne hown
  go_wp2_with (refine append_elems byteE_ok rfl _ _ rfl B v l rfl HO.out (some ⟨w1.heap.size, 0, none⟩) 1 1 [c] rfl HONE.out (by simp; omega) hbs ?_; intro v' w3 hown3 hgr hrow; have hk3 := (hgr.block b (by simp; omega) (fun e => HNE.out e.symm)).trans ((Below.heap_alloc _ _ _ hblt).trans HK.out); have q1 : w3.cell? ⟨b, 1, none⟩ = some v := (by rw [cell_of_row w3 b 1 _ _ _ hk3]; rfl); have f1 : w3.frozen? ⟨b, 1, none⟩ = false := (by simp [World.frozen?, hk3]); have l3 := (Array.getElem?_eq_some_iff.1 hk3).1; obtain ⟨A5, c5, rfl, hc5, hat5, hG5⟩ := hown3.at_ byteE_ok; have HO3 := Lib.hid hown3; have HG3 := Lib.hid hgr; have HK3 := Lib.hid hk3; clear hown3 hgr hk3 hat5 hG5 hc5 hrow; generalize hl5 : (l ++ [c]).length = n5 at *; have HL5 := Lib.hid hl5; clear hl5)
  go_ret
  have hkA : (w1.alloc (.cells #[.int .u8 (c.toNat : Int)] 5)).heap[b]? = some (.cells #[.pointer (some ⟨b, 0, none⟩), v] 48 (0, 0)) := (Below.heap_alloc _ _ _ hblt).trans HK.out
  refine ⟨rfl, put_build hBb hkA HNE.out HG3.out HO3.out HL5.out.symm, ?_, ?_⟩
  · exact (((HB1.out.alloc (by omega) _).grown HG3.out hbs (fun k hk => (HOW.out.lt k hk).1))).setCell (p := ⟨b, 1, none⟩) hBb _
  · have ho := (HON.out.alloc (.cells #[.int .u8 (c.toNat : Int)] 5)).row HG3.out (own_kind HO.out)
    have hb3 : w3.heap[b]? = _ := HK3.out
    exact ho.row (grown_setCell w3 b 1 _) (fun g e => by cases e; exact ⟨_, .inr hb3⟩)
theorem strCells_byteE (s : ByteArray) : Lib.strCells s = ByteE.cells s.data.toList := by rw [byteE_cells]; rfl
set_option maxHeartbeats 1600000 in
set_option maxRecDepth 100000 in
theorem writeString_buf (B b : Nat) (l : List UInt8) (s : ByteArray) (w : World) (h : BuildAt B b l w) (hl : l.length + s.size ≤ 1000000) (hB : B ≤ w.heap.size) :
    Calls Tryz.prog 21 #[.pointer (some ⟨b, 0, none⟩), .string s] w (WroteB B b (.tuple #[.int .i64 s.size, .nilIface]) (l ++ s.data.toList) w) := by
  obtain ⟨i0, hi, hz0, hz1, hz2⟩ := info_parts byteE_ok.info
  have hsl : s.data.toList.length = s.size := by simp
  go_enter Tryz.func21, Tryz.ntmps21
  go_wp2_with fail
  refine (copyCheck_any B b l w h hB).mono ?_
  rintro e w1 ⟨rfl, hb1, hbel, honly⟩
  obtain ⟨hBb, hblt, v, hbk, hown, hne⟩ := BuilderAt.parts hb1
  have c1 : w1.cell? ⟨b, 1, none⟩ = some v := by rw [cell_of_row w1 b 1 _ _ _ hbk]; rfl
  have HO := Lib.hid hown
  have HK := Lib.hid hbk
  have HB1 := Lib.hid hbel
  have HON := Lib.hid honly
  have HNE := Lib.hid hne
  have hsz := hbel.size
  have HSL := Lib.hid hsl
  clear hb1 hbk hbel honly hne hown hsl
  go_wp2_with (at_builtin; go_loud (refine Lib.wpList_append_own_string (P := Tryz.prog) w1 rfl _ _ 46 9 rfl B 5 i0 Tryz.underlying46 Tryz.underlying9 hi hz0 hz1 hz2 v l.length (ByteE.cells l) rfl HO.out s rfl (by simp only [maxLen]; omega) (by omega) (by omega) ?_); intro v' w3 hown3 hgr hrow; have hown4 : Owns ByteE w3 B v' (l ++ s.data.toList) := (by unfold Owns; rw [Elem.cells_append, List.length_append, HSL.out, ← strCells_byteE]; exact hown3); clear hown3; have hk3 := (hgr.block b hblt (fun e => HNE.out e.symm)).trans HK.out; have q1 : w3.cell? ⟨b, 1, none⟩ = some v := (by rw [cell_of_row w3 b 1 _ _ _ hk3]; rfl); have f1 : w3.frozen? ⟨b, 1, none⟩ = false := (by simp [World.frozen?, hk3]); have l3 := (Array.getElem?_eq_some_iff.1 hk3).1; obtain ⟨A5, c5, rfl, hc5, hat5, hG5⟩ := hown4.at_ byteE_ok; have HO3 := Lib.hid hown4; have HG3 := Lib.hid hgr; have HK3 := Lib.hid hk3; clear hown4 hgr hk3 hat5 hG5 hc5 hrow; generalize hl5 : (l ++ s.data.toList).length = n5 at *; have HL5 := Lib.hid hl5; clear hl5)
  refine bodyPost_ret (v := .tuple #[.int .i64 s.size, .nilIface]) (by simp [results, Tryz.results21, go_sem]) rfl ?_
  refine ⟨rfl, put_build hBb HK.out HNE.out HG3.out HO3.out HL5.out.symm, ?_, ?_⟩
  · exact ((HB1.out.grown HG3.out (by omega) (fun k hk => (HO.out.lt k hk).1))).setCell (p := ⟨b, 1, none⟩) hBb _
  · have ho := HON.out.row HG3.out (own_kind HO.out)
    have hb3 : w3.heap[b]? = _ := HK3.out
    exact ho.row (grown_setCell w3 b 1 _) (fun g e => by cases e; exact ⟨_, .inr hb3⟩)
end Go.Proofs.YtikmjomepnbkcaaGreatDoor

namespace Go.Proofs.YtikmjomepnbkcaaGreatDoor
open Go.RowKit

set_option maxHeartbeats 400000 in
theorem kindWord_v (z : Int) (w : World) (h : 1 ≤ z ∧ z ≤ 4) : Calls Tryz.prog 18 #[.int .i64 z] w fun e w' => e = .returned (.string (bag (wordI z))) ∧ w' = w := by
  have hz : z = 1 ∨ z = 2 ∨ z = 3 ∨ z = 4 := by omega
  rcases hz with rfl | rfl | rfl | rfl
  all_goals
    go_enter Tryz.func18, Tryz.ntmps18
    go_wp2_with fail
    go_ret
    exact ⟨rfl, rfl⟩
theorem word_inj (a b : Int) (ha : 1 ≤ a ∧ a ≤ 4) (hb : 1 ≤ b ∧ b ≤ 4) : ((bag (wordI a)).toList == (bag (wordI b)).toList) = decide (a = b) := by
  rw [bytes_eq]
  have h1 : a = 1 ∨ a = 2 ∨ a = 3 ∨ a = 4 := by omega
  have h2 : b = 1 ∨ b = 2 ∨ b = 3 ∨ b = 4 := by omega
  rcases h1 with rfl | rfl | rfl | rfl <;> rcases h2 with rfl | rfl | rfl | rfl <;> decide
theorem field_at {w : World} {g off c : Nat} {F : List (List UInt8)} (h : StrsAt w (some ⟨g, off, none⟩) 8 c F) (k : Nat) (hk : k < 8) : w.cell? ⟨g, off + k, none⟩ = some (.string (bag (F.getD k []))) := by
  obtain ⟨g', off', he, _, hc⟩ := h.str (by omega)
  simp only [Option.some.injEq, Addr.mk.injEq] at he
  obtain ⟨rfl, rfl, _⟩ := he
  exact hc k hk
theorem cell_below {w w' : World} (h : Below w.heap.size w w') {g : Nat} (hg : g < w.heap.size) (k : Nat) : w'.cell? ⟨g, k, none⟩ = w.cell? ⟨g, k, none⟩ := World.cell?_of_block (h.block g hg)
theorem ItemAt.drew_ {w : World} {P : Nat} {x : Itm} (h : ItemAt w P x) : ItemAt w.drew P x := h
theorem all_item {w : World} {P : Nat} {y : Itm} (h : ItemAt w P y) (a0 a1 : ByteArray) (a2 : Int) (a3 : ByteArray) (a4 : Int) (a5 a6 : ByteArray) : ItemAt (((((((w.setCell ⟨P, 0, none⟩ (.string a0)).setCell ⟨P, 1, none⟩ (.string a1)).setCell ⟨P, 2, none⟩ (.int .i64 a2)).setCell ⟨P, 3, none⟩ (.string a3)).setCell ⟨P, 4, none⟩ (.int .i64 a4)).setCell ⟨P, 5, none⟩ (.string a5)).setCell ⟨P, 6, none⟩ (.string a6)).drew P ⟨a0, a1, a2, a3, a4, a5, a6⟩ :=
  ItemAt.drew_ (ItemAt.setAll (z := ⟨a0, a1, a2, a3, a4, a5, a6⟩) h)
theorem all_below {a w : World} {B P : Nat} (h : Below B a w) (hP : B ≤ P) (hB : B ≤ a.heap.size) (a0 a1 : ByteArray) (a2 : Int) (a3 : ByteArray) (a4 : Int) (a5 a6 : ByteArray) : Below B a (((((((w.setCell ⟨P, 0, none⟩ (.string a0)).setCell ⟨P, 1, none⟩ (.string a1)).setCell ⟨P, 2, none⟩ (.int .i64 a2)).setCell ⟨P, 3, none⟩ (.string a3)).setCell ⟨P, 4, none⟩ (.int .i64 a4)).setCell ⟨P, 5, none⟩ (.string a5)).setCell ⟨P, 6, none⟩ (.string a6)).drew :=
  below_drewN (h.grown (grown_setAll w P ⟨a0, a1, a2, a3, a4, a5, a6⟩) (Nat.le_trans hB h.size) (fun i e => by have := Option.some.inj e; omega)) 1
/-- What head has of an item so far. -/
def hdI (id cu : ByteArray) (kind : Int) (name : ByteArray) (at_ : Int) (par : ByteArray) : Itm := ⟨id, cu, kind, name, at_, par, ⟨#[]⟩⟩
def HeadPost (w : World) (x : Itm) (n : Nat) (e : Ending) (w' : World) : Prop := e = .returned (.tuple #[x.bare.v, .int .i64 (n : Int), .bool true]) ∧ Below w.heap.size w w'
set_option maxHeartbeats 6400000 in
set_option maxRecDepth 100000 in
theorem head_any (x : Itm) (s : ByteArray) (w : World) (hs : s.data.toList = headI x) (hx : ItemOk x) (hM : MaxAt w) :
    Calls Tryz.prog 31 #[.string s] w (HeadPost w x (linesI x.text.data.toList).length) := by
  have HX := Lib.hid hx
  obtain ⟨N, hN⟩ : ∃ N, N = (linesI x.text.data.toList).length := ⟨_, rfl⟩
  have HN20 : Hid (N ≤ 20000) := by
    have h1 := linesI_len x.text.data.toList
    have h2 : x.text.data.toList.length ≤ 20000 := hx.size
    show _ ≤ _
    omega
  have hsz : s.size ≤ 1000000 := by
    have h1 := head_len hx
    rw [← hs] at h1
    have : s.data.toList.length = s.size := by simp
    omega
  have HSP : Hid (splitC 32 s.data.toList = fieldsI x N) := by show _ = _; rw [hs, head_split hx, hN]
  have HFF := Lib.hid (fields_facts hx N)
  have hz0 := item_new w ⟨⟨#[]⟩, ⟨#[]⟩, 0, ⟨#[]⟩, 0, ⟨#[]⟩, ⟨#[]⟩⟩
  have hb1 : Below w.heap.size w (w.alloc (.cells #[.string ⟨#[]⟩, .string ⟨#[]⟩, .int .i64 0, .string ⟨#[]⟩, .int .i64 0, .string ⟨#[]⟩, .string ⟨#[]⟩] 37)) := (Below.refl _ _).alloc (Nat.le_refl _) _
  have HI1 : Hid (ItemAt (w.alloc (.cells #[.string ⟨#[]⟩, .string ⟨#[]⟩, .int .i64 0, .string ⟨#[]⟩, .int .i64 0, .string ⟨#[]⟩, .string ⟨#[]⟩] 37)) w.heap.size (hdI ⟨#[]⟩ ⟨#[]⟩ 0 ⟨#[]⟩ 0 ⟨#[]⟩)) := hz0
  have HB1 := Lib.hid hb1
  have HM1 := Lib.hid (MaxAt.below hM hb1)
  rw [← hN]
  have HNN := Lib.hid hN
  clear hx hs hM hb1 hz0 hN
  go_enter Tryz.func31, Tryz.ntmps31
  go_upto_region 1 with (fail)
  obtain ⟨P, hP⟩ : ∃ P, P = w.heap.size := ⟨_, rfl⟩
  rw [← hP] at HI1 ⊢
  have HPW := Lib.hid hP
  generalize w.alloc (.cells #[.string ⟨#[]⟩, .string ⟨#[]⟩, .int .i64 0, .string ⟨#[]⟩, .int .i64 0, .string ⟨#[]⟩, .string ⟨#[]⟩] 37) = w1 at *
  clear hP
  have HSPL := Lib.hid (split_any s 32 w1 hsz HM1.out)
  go_wp2_with fail
  refine HSPL.out.mono ?_
  rintro e w2 ⟨A, n, cap, rfl, hat, hb2, hnew⟩
  rw [HSP.out] at hat
  have hn8 : n = 8 := hat.1
  subst hn8
  obtain ⟨g, off, rfl, hg, -⟩ := hat.str (by omega)
  have HGP : Hid (P < g) := by
    have h1 := hnew g off rfl
    have h2 := HI1.out.lt
    show _ < _
    omega
  have HA2 := Lib.hid hat
  have HI2 := Lib.hid (HI1.out.keep hb2)
  have HB2 := Lib.hid (HB1.out.trans (hb2.mono HB1.out.size))
  clear hat hb2 hnew HSPL HI1 HB1 HM1 hg
  have f0 := field_at HA2.out 0 (by omega)
  rw [Nat.add_zero] at f0
  have hitem : bag ((fieldsI x N).getD 0 []) = ⟨#[105, 116, 101, 109]⟩ := rfl
  rw [hitem] at f0
  have HCON := Lib.hid (containsS_any (some ⟨g, off, none⟩) 8 cap (fieldsI x N) [] w2 HA2.out (by omega))
  go_wp2_with fail
  have hnc : (fieldsI x N).contains [] = false := by
    cases hc : (fieldsI x N).contains [] with
    | false => rfl
    | true => exact absurd rfl (HFF.out [] (by simpa using hc)).2.2
  have HNC := Lib.hid hnc
  clear hnc f0 hitem
  refine HCON.out.mono ?_
  rintro e w3 ⟨rfl, hw⟩
  rw [hw, HNC.out]
  clear hw w3 HCON
  have f1 := field_at HA2.out 1 (by omega)
  have f2 := field_at HA2.out 2 (by omega)
  rw [show bag ((fieldsI x N).getD 1 []) = x.id from bag_of x.id] at f1
  rw [show bag ((fieldsI x N).getD 2 []) = x.cu from bag_of x.cu] at f2
  obtain ⟨c0, c1, c2, c3, c4, c5, c6⟩ := HI2.out.c
  have r0 := HI2.out.fr 0
  have r1 := HI2.out.fr 1
  have hpg : ¬ g = P := by have := HGP.out; omega
  have hpg2 : ¬ P = g := by have := HGP.out; omega
  go_wp2_with fail
  go_region
  have HI4 : Hid (ItemAt ((w2.setCell ⟨P, 0, none⟩ (.string x.id)).setCell ⟨P, 1, none⟩ (.string x.cu)).drew P (hdI x.id x.cu 0 ⟨#[]⟩ 0 ⟨#[]⟩)) := (HI2.out.setId x.id).setCu x.cu
  have hgr : w2.grownBy ((w2.setCell ⟨P, 0, none⟩ (.string x.id)).setCell ⟨P, 1, none⟩ (.string x.cu)) (some P) := grown_trans (grown_setCell _ _ _ _) (grown_setCell _ _ _ _)
  have HA4 : Hid (StrsAt ((w2.setCell ⟨P, 0, none⟩ (.string x.id)).setCell ⟨P, 1, none⟩ (.string x.cu)).drew (some ⟨g, off, none⟩) 8 cap (fieldsI x N)) := (HA2.out.grown hgr (fun g' off' e e2 => by
    have h1 := Option.some.inj e2
    simp only [Option.some.injEq, Addr.mk.injEq] at e
    omega)).drewN 1
  have HB4 : Hid (Below w.heap.size w ((w2.setCell ⟨P, 0, none⟩ (.string x.id)).setCell ⟨P, 1, none⟩ (.string x.cu)).drew) := below_drewN (HB2.out.grown hgr HB2.out.size (fun i e => by have := Option.some.inj e; have := HPW.out; omega)) 1
  generalize ((w2.setCell ⟨P, 0, none⟩ (.string x.id)).setCell ⟨P, 1, none⟩ (.string x.cu)).drew = w4 at *
  clear f1 f2 c0 c1 c2 c3 c4 c5 c6 r0 r1 hgr HI2 HA2 HB2
  go_wp2_with fail
  go_loopg [6] 4 (fun gk v wr => ∃ k : Nat, Hid (k + gk = 5) ∧ v = .int .i64 (k : Int) ∧ Hid (1 ≤ k) ∧ Hid (ItemAt wr P (hdI x.id x.cu (if x.kind < (k : Int) then x.kind else 0) ⟨#[]⟩ 0 ⟨#[]⟩)) ∧ Hid (StrsAt wr (some ⟨g, off, none⟩) 8 cap (fieldsI x N)) ∧ Hid (Below w.heap.size w wr))
  case atStart => exact ⟨1, show 1 + 4 = 5 from rfl, rfl, Nat.le_refl _, by rw [if_neg (by have := HX.out.kind; omega)]; exact HI4.out, HA4.out, HB4.out⟩
  case round =>
    obtain ⟨k, HK, rfl, HK1, HI, HA, HB⟩ := hrel
    clear HI4 HA4 HB4
    have hk5 : k ≤ 5 := by have := HK.out; omega
    by_cases hlt : k ≤ 4
    · have HGK := Lib.hid (show k + 1 + (gk - 1) = 5 ∧ 0 < gk by have := HK.out; omega)
      have hk4 : (k : Int) ≤ 4 := by omega
      have f3 := field_at HA.out 3 (by omega)
      rw [show (fieldsI x N).getD 3 [] = wordI x.kind from rfl] at f3
      have hkr : 1 ≤ (k : Int) ∧ (k : Int) ≤ 4 := ⟨by have := HK1.out; omega, hk4⟩
      have hwi := word_inj (k : Int) x.kind hkr HX.out.kind
      clear HK
      by_cases hkk : (k : Int) = x.kind
      · have HE : Hid ((k : Int) = x.kind) := hkk
        rw [← hkk] at f3
        clear hwi hkk
        go_upto_region 8 with (fail)
        go_quiet ((go_at_call 18; with_reducible exact Calls.quiet_of_same (kindWord_v (k : Int) _ hkr)))
        have HI4 : Hid (ItemAt (wr.drewN nq) P (hdI x.id x.cu (if x.kind < (k : Int) then x.kind else 0) ⟨#[]⟩ 0 ⟨#[]⟩)) := HI.out
        have HA4 : Hid (StrsAt (wr.drewN nq) (some ⟨g, off, none⟩) 8 cap (fieldsI x N)) := HA.out.drewN nq
        have HB4 : Hid (Below w.heap.size w (wr.drewN nq)) := below_drewN HB.out nq
        generalize wr.drewN nq = w5 at *
        clear HI HA HB f3
        obtain ⟨c0, c1, c2, c3, c4, c5, c6⟩ := HI4.out.c
        have r2 := HI4.out.fr 2
        have HI5 : Hid (ItemAt (w5.setCell ⟨P, 2, none⟩ (.int .i64 (k : Int))) P (hdI x.id x.cu (if x.kind < ((k + 1 : Nat) : Int) then x.kind else 0) ⟨#[]⟩ 0 ⟨#[]⟩)) := by
          have h := HI4.out.setKind (k : Int)
          have hE := HE.out
          rw [if_pos (by omega)]
          have e : ({ hdI x.id x.cu (if x.kind < (k : Int) then x.kind else 0) ⟨#[]⟩ 0 ⟨#[]⟩ with kind := (k : Int) } : Itm) = hdI x.id x.cu x.kind ⟨#[]⟩ 0 ⟨#[]⟩ := by simp [hdI, hE]
          rw [e] at h
          exact h
        have HA5 := Lib.hid (HA4.out.grown (grown_setCell w5 P 2 (.int .i64 (k : Int))) (fun g' off' e e2 => by
          have h1 := Option.some.inj e2
          simp only [Option.some.injEq, Addr.mk.injEq] at e
          omega))
        have HB5 : Hid (Below w.heap.size w (w5.setCell ⟨P, 2, none⟩ (.int .i64 (k : Int)))) := HB4.out.grown (grown_setCell w5 P 2 (.int .i64 (k : Int))) HB4.out.size (fun i e => by have := Option.some.inj e; have := HPW.out; omega)
        go_wp2_with fail
        go_roundg (gk - 1)
        case measure => exact Nat.sub_lt HGK.out.2 Nat.one_pos
        case rel => exact ⟨k + 1, HGK.out.1, by go_num, Nat.le_add_left 1 k, HI5.out, HA5.out, HB5.out⟩
      · rw [decide_eq_false hkk] at hwi
        have HE : Hid (¬ (k : Int) = x.kind) := hkk
        have hw1 : ¬ (bag (wordI (k : Int))).toList = (bag (wordI x.kind)).toList := by simpa using hwi
        have hw2 : ¬ bag (wordI (k : Int)) = bag (wordI x.kind) := fun e => hw1 (by rw [e])
        clear hkk
        go_upto_region 8 with (fail)
        go_quiet ((go_at_call 18; with_reducible exact Calls.quiet_of_same (kindWord_v (k : Int) _ hkr)))
        have HI4 : Hid (ItemAt (wr.drewN nq) P (hdI x.id x.cu (if x.kind < ((k + 1 : Nat) : Int) then x.kind else 0) ⟨#[]⟩ 0 ⟨#[]⟩)) := by
          show ItemAt _ _ _
          have hE := HE.out
          have e : (if x.kind < ((k + 1 : Nat) : Int) then x.kind else 0) = if x.kind < (k : Int) then x.kind else 0 := by
            by_cases h : x.kind < (k : Int)
            · rw [if_pos h, if_pos (by omega)]
            · rw [if_neg h, if_neg (by omega)]
          rw [e]
          exact HI.out
        have HA4 : Hid (StrsAt (wr.drewN nq) (some ⟨g, off, none⟩) 8 cap (fieldsI x N)) := HA.out.drewN nq
        have HB4 : Hid (Below w.heap.size w (wr.drewN nq)) := below_drewN HB.out nq
        generalize wr.drewN nq = w5 at *
        clear HI HA HB f3
        go_wp2_with fail
        go_roundg (gk - 1)
        case measure => exact Nat.sub_lt HGK.out.2 Nat.one_pos
        case rel => exact ⟨k + 1, HGK.out.1, by go_num, Nat.le_add_left 1 k, HI4.out, HA4.out, HB4.out⟩
    · have hk55 : k = 5 := by omega
      have hnk : ¬ (k : Int) ≤ 4 := by omega
      have HI6 : Hid (ItemAt wr P (hdI x.id x.cu x.kind ⟨#[]⟩ 0 ⟨#[]⟩)) := by
        have h := HI.out
        rw [if_pos (by have := HX.out.kind; omega)] at h
        exact h
      clear hk55 hlt HK HK1 HI
      have f4 := field_at HA.out 4 (by omega)
      have f6 := field_at HA.out 6 (by omega)
      have f7 := field_at HA.out 7 (by omega)
      rw [show (fieldsI x N).getD 4 [] = Lib.decDigits x.at_.toNat from rfl] at f4
      rw [show (fieldsI x N).getD 6 [] = quoS x.name.data.toList from rfl] at f6
      rw [show (fieldsI x N).getD 7 [] = Lib.decDigits N from rfl] at f7
      have HNU := Lib.hid (fun W => number_any x.at_.toNat (bag (Lib.decDigits x.at_.toNat)) W rfl (by have := HX.out.at_; omega))
      rw [show ((x.at_.toNat : Nat) : Int) = x.at_ from Int.toNat_of_nonneg HX.out.at_.1] at HNU
      have HUQ := Lib.hid (fun W => unquote_any x.name.data.toList (bag (quoS x.name.data.toList)) W rfl (by have h : x.name.data.toList.length ≤ 120 := HX.out.short; omega))
      have HNT := Lib.hid (fun W => natural_any N (bag (Lib.decDigits N)) W rfl (by have := HN20.out; omega))
      unfold UnqPost at HUQ
      rw [show bag x.name.data.toList = x.name from bag_of x.name] at HUQ
      generalize bag (Lib.decDigits x.at_.toNat) = b4 at *
      generalize hb6' : bag (quoS x.name.data.toList) = b6 at *
      have HB6 := Lib.hid hb6'
      clear hb6'
      generalize bag (Lib.decDigits N) = b7 at *
      have HF6 := Lib.hid f6
      have HF7 := Lib.hid f7
      have hgl : g < wr.heap.size := by
        have h := f4
        rcases Nat.lt_or_ge g wr.heap.size with hh | hh
        · exact hh
        · simp [World.cell?, Array.getElem?_eq_none hh] at h
      have HGL := Lib.hid hgl
      clear f6 f7 hgl
      go_wp2_with fail
      refine (HNU.out _).mono ?_
      rintro e w5 ⟨rfl, hb5⟩
      have HI7 := Lib.hid (HI6.out.keep hb5)
      have HA7 := Lib.hid (ElemsAt.keep HA.out hb5)
      have HB7 := Lib.hid (HB.out.trans (hb5.mono HB.out.size))
      have f6 := (cell_below hb5 HGL.out (off + 6)).trans HF6.out
      have HF7' := Lib.hid ((cell_below hb5 HGL.out (off + 7)).trans HF7.out)
      have HGL5 : Hid (g < w5.heap.size) := Nat.lt_of_lt_of_le HGL.out hb5.size
      clear f4 hb5 HNU HI6 HA HB HF6 HF7 HGL
      go_wp2_with fail
      refine (HUQ.out _).mono ?_
      rintro e w6 ⟨rfl, hb6⟩
      have HI8 := Lib.hid (HI7.out.keep hb6)
      have HA8 := Lib.hid (ElemsAt.keep HA7.out hb6)
      have HB8 := Lib.hid (HB7.out.trans (hb6.mono HB7.out.size))
      have f7 := (cell_below hb6 HGL5.out (off + 7)).trans HF7'.out
      clear f6 hb6 HUQ HI7 HA7 HB7 HF7' HGL5
      go_wp2_with fail
      refine (HNT.out _).mono ?_
      rintro e w7 ⟨rfl, hb7⟩
      have HI9 := Lib.hid (HI8.out.keep hb7)
      have HA9 := Lib.hid (ElemsAt.keep HA8.out hb7)
      have HB9 := Lib.hid (HB8.out.trans (hb7.mono HB8.out.size))
      clear f7 hb7 HNT HI8 HA8 HB8
      obtain ⟨c0, c1, c2, c3, c4, c5, c6⟩ := HI9.out.c
      have r3 := HI9.out.fr 3
      have r4 := HI9.out.fr 4
      have HI10 : Hid (ItemAt ((w7.setCell ⟨P, 4, none⟩ (.int .i64 x.at_)).setCell ⟨P, 3, none⟩ (.string x.name)) P (hdI x.id x.cu x.kind x.name x.at_ ⟨#[]⟩)) := (HI9.out.setAt x.at_).setName x.name
      have hgr : w7.grownBy ((w7.setCell ⟨P, 4, none⟩ (.int .i64 x.at_)).setCell ⟨P, 3, none⟩ (.string x.name)) (some P) := grown_trans (grown_setCell _ _ _ _) (grown_setCell _ _ _ _)
      have HA10 := Lib.hid (HA9.out.grown hgr (fun g' off' e e2 => by
        have h1 := Option.some.inj e2
        simp only [Option.some.injEq, Addr.mk.injEq] at e
        omega))
      have HB10 : Hid (Below w.heap.size w ((w7.setCell ⟨P, 4, none⟩ (.int .i64 x.at_)).setCell ⟨P, 3, none⟩ (.string x.name))) := HB9.out.grown hgr HB9.out.size (fun i e => by have := Option.some.inj e; have := HPW.out; omega)
      clear hgr HI9 HA9 HB9
      go_upto_region 14 with (fail)
      clear c0 c1 c2 c3 c4 c5 c6 r3 r4
      generalize (w7.setCell ⟨P, 4, none⟩ (.int .i64 x.at_)).setCell ⟨P, 3, none⟩ (.string x.name) = w8 at *
      have f5 := field_at HA10.out 5 (by omega)
      rw [show (fieldsI x N).getD 5 [] = parW x from rfl] at f5
      by_cases hpar : x.par.data.toList = []
      · rw [show parW x = [45] by unfold parW; rw [if_pos hpar]] at f5
        have hxp : x.par = ⟨#[]⟩ := ByteArray.ext (Array.toList_inj.1 hpar)
        rw [← hxp] at HI10
        have hb45 : bag [45] = ⟨#[45]⟩ := rfl
        rw [hb45] at f5
        clear hxp hb45 hpar
        go_upto_region 16 with (fail)
        clear f5
        have f6 := field_at HA10.out 6 (by omega)
        rw [show (fieldsI x N).getD 6 [] = quoS x.name.data.toList from rfl, HB6.out] at f6
        obtain ⟨c0, c1, c2, c3, c4, c5, c6⟩ := HI10.out.c
        have r0 := HI10.out.fr 0
        have r1 := HI10.out.fr 1
        have r2 := HI10.out.fr 2
        have r3 := HI10.out.fr 3
        have r4 := HI10.out.fr 4
        have r5 := HI10.out.fr 5
        have r6 := HI10.out.fr 6
        have hk0 : (0 : Int) < x.kind := by have := HX.out.kind; omega
        simp only [hdI] at c0 c1 c2 c3 c4 c5 c6
        go_region
        have HI12 : Hid (ItemAt (((((((w8.setCell ⟨P, 0, none⟩ (.string x.id)).setCell ⟨P, 1, none⟩ (.string x.cu)).setCell ⟨P, 2, none⟩ (.int .i64 x.kind)).setCell ⟨P, 3, none⟩ (.string x.name)).setCell ⟨P, 4, none⟩ (.int .i64 x.at_)).setCell ⟨P, 5, none⟩ (.string x.par)).setCell ⟨P, 6, none⟩ (.string ⟨#[]⟩)).drew P (hdI x.id x.cu x.kind x.name x.at_ x.par)) := all_item HI10.out x.id x.cu x.kind x.name x.at_ x.par ⟨#[]⟩
        have HB12 : Hid (Below w.heap.size w (((((((w8.setCell ⟨P, 0, none⟩ (.string x.id)).setCell ⟨P, 1, none⟩ (.string x.cu)).setCell ⟨P, 2, none⟩ (.int .i64 x.kind)).setCell ⟨P, 3, none⟩ (.string x.name)).setCell ⟨P, 4, none⟩ (.int .i64 x.at_)).setCell ⟨P, 5, none⟩ (.string x.par)).setCell ⟨P, 6, none⟩ (.string ⟨#[]⟩)).drew) := all_below HB10.out (Nat.le_of_eq HPW.out.symm) (Nat.le_refl _) x.id x.cu x.kind x.name x.at_ x.par ⟨#[]⟩
        generalize (((((((w8.setCell ⟨P, 0, none⟩ (.string x.id)).setCell ⟨P, 1, none⟩ (.string x.cu)).setCell ⟨P, 2, none⟩ (.int .i64 x.kind)).setCell ⟨P, 3, none⟩ (.string x.name)).setCell ⟨P, 4, none⟩ (.int .i64 x.at_)).setCell ⟨P, 5, none⟩ (.string x.par)).setCell ⟨P, 6, none⟩ (.string ⟨#[]⟩)).drew = w10 at *
        clear f6 c0 c1 c2 c3 c4 c5 c6 r0 r1 r2 r3 r4 r5 r6
        obtain ⟨c0, c1, c2, c3, c4, c5, c6⟩ := HI12.out.c
        simp only [hdI] at c0 c1 c2 c3 c4 c5 c6
        go_wp2_with fail
        refine bodyPost_ret (v := .tuple #[.agg #[.string x.id, .string x.cu, .int .i64 x.kind, .string x.name, .int .i64 x.at_, .string x.par, .string ⟨#[]⟩], .int .i64 (N : Int), .bool true]) (by simp [results, Tryz.results31, go_sem, c0, c1, c2, c3, c4, c5, c6]) rfl ?_
        exact ⟨rfl, HB12.out⟩
      · rw [show parW x = x.par.data.toList by unfold parW; rw [if_neg hpar], show bag x.par.data.toList = x.par from bag_of x.par] at f5
        have hne : ¬ x.par.data.toList = [45] := by
          rcases HX.out.par with e | e
          · exact absurd e hpar
          · exact (key_facts e).2.2.2.1
        have q1 : ¬ x.par.toList = [45] := by rw [Lib.toList_data]; exact hne
        have q2 : (x.par.toList == [45]) = false := by simpa using q1
        have q3 : ¬ x.par = ⟨#[45]⟩ := fun e => hne (by rw [e])
        obtain ⟨c0, c1, c2, c3, c4, c5, c6⟩ := HI10.out.c
        have r5 := HI10.out.fr 5
        have HI11 : Hid (ItemAt (w8.setCell ⟨P, 5, none⟩ (.string x.par)) P (hdI x.id x.cu x.kind x.name x.at_ x.par)) := HI10.out.setPar x.par
        have HA11 := Lib.hid (HA10.out.grown (grown_setCell w8 P 5 (.string x.par)) (fun g' off' e e2 => by
          have h1 := Option.some.inj e2
          simp only [Option.some.injEq, Addr.mk.injEq] at e
          omega))
        have HB11 : Hid (Below w.heap.size w (w8.setCell ⟨P, 5, none⟩ (.string x.par))) := HB10.out.grown (grown_setCell w8 P 5 (.string x.par)) HB10.out.size (fun i e => by have := Option.some.inj e; have := HPW.out; omega)
        clear hne hpar HI10 HA10 HB10
        go_upto_region 16 with (fail)
        clear f5 c0 c1 c2 c3 c4 c5 c6 r5 q1 q2 q3
        generalize w8.setCell ⟨P, 5, none⟩ (.string x.par) = w9 at *
        have HI10 := HI11
        have HA10 := HA11
        have HB10 := HB11
        clear HI11 HA11 HB11
        have f6 := field_at HA10.out 6 (by omega)
        rw [show (fieldsI x N).getD 6 [] = quoS x.name.data.toList from rfl, HB6.out] at f6
        obtain ⟨c0, c1, c2, c3, c4, c5, c6⟩ := HI10.out.c
        have r0 := HI10.out.fr 0
        have r1 := HI10.out.fr 1
        have r2 := HI10.out.fr 2
        have r3 := HI10.out.fr 3
        have r4 := HI10.out.fr 4
        have r5 := HI10.out.fr 5
        have r6 := HI10.out.fr 6
        have hk0 : (0 : Int) < x.kind := by have := HX.out.kind; omega
        simp only [hdI] at c0 c1 c2 c3 c4 c5 c6
        go_region
        have HI12 : Hid (ItemAt (((((((w9.setCell ⟨P, 0, none⟩ (.string x.id)).setCell ⟨P, 1, none⟩ (.string x.cu)).setCell ⟨P, 2, none⟩ (.int .i64 x.kind)).setCell ⟨P, 3, none⟩ (.string x.name)).setCell ⟨P, 4, none⟩ (.int .i64 x.at_)).setCell ⟨P, 5, none⟩ (.string x.par)).setCell ⟨P, 6, none⟩ (.string ⟨#[]⟩)).drew P (hdI x.id x.cu x.kind x.name x.at_ x.par)) := all_item HI10.out x.id x.cu x.kind x.name x.at_ x.par ⟨#[]⟩
        have HB12 : Hid (Below w.heap.size w (((((((w9.setCell ⟨P, 0, none⟩ (.string x.id)).setCell ⟨P, 1, none⟩ (.string x.cu)).setCell ⟨P, 2, none⟩ (.int .i64 x.kind)).setCell ⟨P, 3, none⟩ (.string x.name)).setCell ⟨P, 4, none⟩ (.int .i64 x.at_)).setCell ⟨P, 5, none⟩ (.string x.par)).setCell ⟨P, 6, none⟩ (.string ⟨#[]⟩)).drew) := all_below HB10.out (Nat.le_of_eq HPW.out.symm) (Nat.le_refl _) x.id x.cu x.kind x.name x.at_ x.par ⟨#[]⟩
        generalize (((((((w9.setCell ⟨P, 0, none⟩ (.string x.id)).setCell ⟨P, 1, none⟩ (.string x.cu)).setCell ⟨P, 2, none⟩ (.int .i64 x.kind)).setCell ⟨P, 3, none⟩ (.string x.name)).setCell ⟨P, 4, none⟩ (.int .i64 x.at_)).setCell ⟨P, 5, none⟩ (.string x.par)).setCell ⟨P, 6, none⟩ (.string ⟨#[]⟩)).drew = w10 at *
        clear f6 c0 c1 c2 c3 c4 c5 c6 r0 r1 r2 r3 r4 r5 r6
        obtain ⟨c0, c1, c2, c3, c4, c5, c6⟩ := HI12.out.c
        simp only [hdI] at c0 c1 c2 c3 c4 c5 c6
        go_wp2_with fail
        refine bodyPost_ret (v := .tuple #[.agg #[.string x.id, .string x.cu, .int .i64 x.kind, .string x.name, .int .i64 x.at_, .string x.par, .string ⟨#[]⟩], .int .i64 (N : Int), .bool true]) (by simp [results, Tryz.results31, go_sem, c0, c1, c2, c3, c4, c5, c6]) rfl ?_
        exact ⟨rfl, HB12.out⟩
end Go.Proofs.YtikmjomepnbkcaaGreatDoor

namespace Go.Proofs.YtikmjomepnbkcaaGreatDoor
open Go.RowKit

/-- A row of strings' own block. -/
def TypS (w : World) (A : Option Addr) : Prop := ∀ g off, A = some ⟨g, off, none⟩ → ∃ cs, w.heap[g]? = some (.cells cs 9 (0, 0))
theorem TypS.below {w w' : World} {A : Option Addr} (h : TypS w A) (hb : Below w.heap.size w w') : TypS w' A := fun g off e => by
  obtain ⟨cs, h1⟩ := h g off e
  exact ⟨cs, (hb.block g (Array.getElem?_eq_some_iff.1 h1).1).trans h1⟩
def Lines2 (w : World) (L : List (List UInt8)) (e : Ending) (w' : World) : Prop :=
  ∃ A c, e = .returned (.tuple #[.slice A L.length c, .bool true]) ∧ StrsAt w' A L.length c L ∧ Below w.heap.size w w' ∧ TypS w' A
def Split2 (w : World) (c : UInt8) (L : List UInt8) (e : Ending) (w' : World) : Prop :=
  ∃ A n cap, e = .returned (.slice A n cap) ∧ StrsAt w' A n cap (splitC c L) ∧ Below w.heap.size w w' ∧ TypS w' A
theorem split2_any (s : ByteArray) (c : UInt8) (w : World) (hs : s.size ≤ 1000000) (hM : MaxAt w) :
    Calls Tryz.prog 51 #[.string s, .string ⟨#[c]⟩] w (Split2 w c s.data.toList) := by
  obtain ⟨m, hm⟩ := hM
  have hall := Lib.splitB_all (⟨#[c]⟩ : ByteArray) (Nat.le_refl 1) 0 (Lib.countB s ⟨#[c]⟩) s rfl
  have hdat : (Lib.splitB ⟨#[c]⟩ 0 (Lib.countB s ⟨#[c]⟩) s).map (·.data.toList) = splitC c s.data.toList := by
    rw [Lib.splitB_data]
    exact split_splitC c s.data.toList
  refine (Tryz.strings_Split s ⟨#[c]⟩ m w (by omega) hm (Nat.le_refl 1)).mono ?_
  rintro e w' ⟨rfl, rfl⟩
  generalize Lib.splitB ⟨#[c]⟩ 0 (Lib.countB s ⟨#[c]⟩) s = B at hall hdat ⊢
  rw [← hall]
  refine ⟨_, _, _, rfl, ⟨?_, by omega, (fun h => by cases h), fun _ => ⟨w.heap.size, 0, rfl, by simp, fun k x i v hk hv => ?_⟩⟩, (Below.refl _ _).alloc (Nat.le_refl _) _, fun g off h => by
    simp only [Option.some.injEq, Addr.mk.injEq] at h
    obtain ⟨rfl, _, _⟩ := h
    exact ⟨_, heap_alloc_new w _⟩⟩
  · rw [← hdat]; simp
  · have hi : i = 0 := by have := (List.getElem?_eq_some_iff.1 hv).1; simp [StrE] at this; exact this
    subst hi
    simp [StrE] at hv
    subst hv
    rw [World.cell?_alloc_at _ _ _ _ rfl]
    rw [← hdat, List.getElem?_map] at hk
    obtain ⟨b, hb, rfl⟩ := Option.map_eq_some_iff.1 hk
    have : (⟨b.data.toList.toArray⟩ : ByteArray) = b := bag_of b
    simp [StrE, hb, this]
set_option maxHeartbeats 800000 in
theorem lines2_nl (t : ByteArray) (w : World) (ht : t.size ≤ 1000000) (hM : MaxAt w) :
    Calls Tryz.prog 17 #[.string (t ++ ⟨#[10]⟩)] w (fun e w' => ∃ A n c, e = .returned (.tuple #[.slice A n c, .bool true]) ∧ StrsAt w' A n c (splitC 10 t.data.toList) ∧ Below w.heap.size w w' ∧ TypS w' A) := by
  have hne : (t ++ ⟨#[10]⟩ : ByteArray).toList = [] ↔ False := by
    rw [Lib.toList_data]; simp
  have hn2 : (t ++ ⟨#[10]⟩ : ByteArray).toList.isEmpty = false := by rw [Lib.toList_data]; simp
  have HC := Lib.hid (cutSuffix_nl t w ht)
  generalize (t ++ ⟨#[10]⟩ : ByteArray) = s at *
  go_enter Tryz.func17, Tryz.ntmps17
  go_wp2_with fail
  refine HC.out.mono ?_
  rintro e w' ⟨rfl, rfl⟩
  go_wp2_with fail
  refine (split2_any t 10 w ht hM).mono ?_
  rintro e w2 ⟨A, n, c, rfl, hs, hb, hn⟩
  go_wp2_with fail
  go_ret2
  exact ⟨A, n, c, rfl, hs, hb, hn⟩
set_option maxHeartbeats 400000 in
theorem lines_empty (w : World) : Calls Tryz.prog 17 #[.string ⟨#[]⟩] w (Lines2 w []) := by
  have HN : Hid (StrsAt w none 0 0 []) := ⟨rfl, Nat.le_refl _, fun _ => rfl, fun h => absurd h (by omega)⟩
  go_enter Tryz.func17, Tryz.ntmps17
  go_wp2_with fail
  go_ret2
  exact ⟨none, 0, rfl, HN.out, Below.refl _ _, fun g off e => (by cases e)⟩
theorem lines_any (s : ByteArray) (L : List (List UInt8)) (w : World) (hs : s.data.toList = flatN L) (hL : ∀ a ∈ L, (10 : UInt8) ∉ a) (hsz : s.size ≤ 1000000) (hM : MaxAt w) :
    Calls Tryz.prog 17 #[.string s] w (Lines2 w L) := by
  by_cases h0 : L = []
  · subst h0
    have e : s = ⟨#[]⟩ := ByteArray.ext (Array.toList_inj.1 (by rw [hs]; rfl))
    rw [e]
    exact lines_empty w
  · obtain ⟨t, h1, h2⟩ := split_flat L h0 hL
    have e : s = (⟨t.toArray⟩ : ByteArray) ++ ⟨#[10]⟩ := by
      apply ByteArray.ext
      rw [← Array.toList_inj, hs, h1]
      simp
    have h3 : s.size = t.length + 1 := by
      have h5 : s.data.toList.length = s.size := by simp
      rw [← h5, hs, h1]
      simp
    have h4 : (⟨t.toArray⟩ : ByteArray).size = t.length := by simp [ByteArray.size]
    have ht : (⟨t.toArray⟩ : ByteArray).size ≤ 1000000 := by omega
    rw [e]
    refine (lines2_nl ⟨t.toArray⟩ w ht hM).mono ?_
    rintro e w' ⟨A, n, c, rfl, hat, hb, hty⟩
    have hd : splitC 10 (⟨t.toArray⟩ : ByteArray).data.toList = L := h2
    rw [hd] at hat
    have hn := hat.1
    subst hn
    exact ⟨A, c, rfl, hat, hb, hty⟩
def PowAt (w : World) : Prop := Lib.TabIs Tryz.prog w "internal/strconv.uint64pow10" .u64 Lib.pow10Tab
theorem PowAt.below {w w' : World} (h : PowAt w) (hb : Below w.heap.size w w') : PowAt w' := tabIs_keep (g := 2) (by kernel_rfl) h hb
theorem itoa_any (u : Nat) (w : World) (hu : u ≤ 1000000000) (h : PowAt w) :
    Calls Tryz.prog 19 #[.int .i64 (u : Int)] w fun e w' => e = .returned (.string (bag (Lib.decDigits u))) ∧ Below w.heap.size w w' := by
  refine (Tryz.strconv_Itoa (u : Int) (by omega) (by omega) w h).mono ?_
  rintro e w' ⟨rfl, k, os, rfl⟩
  rw [Lib.itoa_nonneg]
  exact ⟨rfl, (show Gr w _ from ⟨k, os, rfl⟩).below⟩
end Go.Proofs.YtikmjomepnbkcaaGreatDoor

namespace Go.Proofs.YtikmjomepnbkcaaGreatDoor
open Go.RowKit

theorem below_undI {w w' : World} (h : Below w.drew.heap.size w.drew w') : Below w.heap.size w w' := ⟨h.os, h.tape, h.output, h.size, h.block⟩
theorem TypS.buf {w w' : World} {A : Option Addr} (h : TypS w A) (hb : OnlyBuf w w') : TypS w' A := fun g off e => by
  obtain ⟨cs, h1⟩ := h g off e
  exact ⟨cs, hb g _ h1 (fun c e => by cases e) (fun c e => by cases e)⟩
theorem strs_buf {w w' : World} {A : Option Addr} {n c : Nat} {l : List (List UInt8)} (ht : TypS w A) (hb : OnlyBuf w w') (hz : w.heap.size ≤ w'.heap.size) (h : StrsAt w A n c l) : StrsAt w' A n c l := by
  refine ⟨h.1, h.2.1, h.2.2.1, fun h0 => ?_⟩
  obtain ⟨g, off, rfl, hg, hc⟩ := h.2.2.2 h0
  obtain ⟨cs, h1⟩ := ht g off rfl
  have h2 := hb g _ h1 (fun c e => by cases e) (fun c e => by cases e)
  exact ⟨g, off, rfl, Nat.lt_of_lt_of_le hg hz, fun k x i v hk hv => (World.cell?_of_block (h2.trans h1.symm)).trans (hc k x i v hk hv)⟩
theorem strs8 (w : World) (b0 b1 b2 b3 b4 b5 b6 b7 : ByteArray) (F : List (List UInt8)) (hF : F.map bag = [b0, b1, b2, b3, b4, b5, b6, b7]) : StrsAt (w.alloc (.cells #[.string b0, .string b1, .string b2, .string b3, .string b4, .string b5, .string b6, .string b7] 9)) (some ⟨w.heap.size, 0, none⟩) 8 8 F := by
  have hl : F.length = 8 := by
    have := congrArg List.length hF
    simpa using this
  have e : (#[.string b0, .string b1, .string b2, .string b3, .string b4, .string b5, .string b6, .string b7] : Array Value) = ((F.map bag).map Value.string).toArray := by rw [hF]; rfl
  rw [e]
  refine ⟨hl.symm, Nat.le_refl _, (fun h => by cases h), fun _ => ⟨w.heap.size, 0, rfl, by simp, fun k x i v hk hv => ?_⟩⟩
  have hi : i = 0 := by have := (List.getElem?_eq_some_iff.1 hv).1; simp [StrE] at this; exact this
  subst hi
  simp [StrE] at hv
  subst hv
  rw [World.cell?_alloc_at _ _ _ _ rfl]
  simp [StrE, hk, bag]
theorem part_len {x : Itm} (h : ItemOk x) (i : Nat) : (flatN (headI x :: ((linesI x.text.data.toList).take i).map fun s => 124 :: s)).length ≤ 60000 := by
  have h1 := rows_len h
  have h2 : flatN (rowsI x) = flatN (headI x :: ((linesI x.text.data.toList).take i).map fun s => 124 :: s) ++ flatN (((linesI x.text.data.toList).drop i).map fun s => 124 :: s) := by
    rw [← flatN_append, List.cons_append, ← List.map_append, List.take_append_drop]
    rfl
  rw [h2, List.length_append] at h1
  omega
def TextIPost (w : World) (l : List Itm) (e : Ending) (w' : World) : Prop :=
  ∃ (t : ByteArray) (z : Int), e = .returned (.tuple #[.string t, .int .i64 z]) ∧ Below w.heap.size w w' ∧ (z = 2 ∨ (z = 0 ∧ t = bag (textI l) ∧ (textI l).length ≤ 200000))
theorem textI_take {l : List Itm} {j : Nat} {x : Itm} (hx : l[j]? = some x) : textI (l.take (j + 1)) = textI (l.take j) ++ flatN (rowsI x) := by
  obtain ⟨h1, h2⟩ := List.getElem?_eq_some_iff.1 hx
  unfold textI
  rw [List.take_succ_eq_append_getElem h1, h2, List.flatMap_append, flatN_append]
  simp
set_option maxHeartbeats 12800000 in
set_option maxRecDepth 100000 in
theorem textI_any (A : Option Addr) (n c : Nat) (l : List Itm) (w : World) (h : ItemsAt w A n c l) (hl : SetR l) (hT : Tabs w) (hM : MaxAt w) (hP : PowAt w) :
    Calls Tryz.prog 6 #[.slice A n c] w (TextIPost w l) := by
  have HN : Hid (n = l.length) := h.1
  have HL := Lib.hid hl
  have HIT := Lib.hid h
  have HCK := Lib.hid (check_ok A n c l w h hl hT hM)
  have HMP : Hid (∀ w', Below w.heap.size w w' → MaxAt w' ∧ PowAt w') := fun w' hb => ⟨MaxAt.below hM hb, PowAt.below hP hb⟩
  have HFEW : Hid (n ≤ 2000) := by have := hl.set.few; have := HN.out; show _ ≤ _; omega
  clear h hl hT hM hP
  go_enter Tryz.func6, Tryz.ntmps6
  go_wp2_with fail
  refine HCK.out.mono ?_
  rintro e w1 ⟨rfl, hb1⟩
  have HB1 := Lib.hid hb1
  have hba : Below w1.heap.size w1 (w1.alloc (.cells #[.pointer none, .slice none 0 0] 48)) := (Below.refl _ _).alloc (Nat.le_refl _) _
  have HBU := Lib.hid (BuildAt.new w1)
  have HB2 := Lib.hid (HB1.out.trans (hba.mono HB1.out.size))
  have hz2 : w1.heap.size < (w1.alloc (.cells #[.pointer none, .slice none 0 0] 48)).heap.size := by simp
  have HZ2 := Lib.hid hz2
  have HWB : Hid (w.heap.size ≤ w1.heap.size) := HB1.out.size
  clear hb1 hba hz2 HCK HB1
  go_upto_region 5 with (fail)
  obtain ⟨b, hb⟩ : ∃ b, b = w1.heap.size := ⟨_, rfl⟩
  rw [← hb] at HBU HZ2 HWB ⊢
  generalize w1.alloc (.cells #[.pointer none, .slice none 0 0] 48) = w2 at *
  clear hb
  go_wp2_with fail
  go_loopg [21] n (fun gk v wr => ∃ j : Nat, Hid (j + gk = n) ∧ v = .int .i64 (j : Int) ∧ Hid (BuildAt b b (textI (l.take j)) wr) ∧ Hid ((textI (l.take j)).length ≤ 200000) ∧ Hid (Below w.heap.size w wr) ∧ Hid (b < wr.heap.size))
  case atStart => exact ⟨0, show 0 + n = n by omega, rfl, HBU.out, Nat.zero_le _, HB2.out, HZ2.out⟩
  case round =>
    obtain ⟨j, HK, rfl, HU, HLE, HB, HZ⟩ := hrel
    clear HBU HB2 HZ2
    have hjn : j ≤ n := by have := HK.out; omega
    have hj2 : j ≤ 2000 := by have := HFEW.out; omega
    by_cases hlt : j < n
    · have HGK := Lib.hid (show j + 1 + (gk - 1) = n ∧ 0 < gk by have := HK.out; omega)
      obtain ⟨x, hx⟩ : ∃ x, l[j]? = some x := ⟨_, List.getElem?_eq_getElem (by have := HN.out; omega)⟩
      have HOK := Lib.hid (HL.out.set.ok.each x (List.mem_of_getElem? hx))
      have HTT := Lib.hid (textI_take hx)
      obtain ⟨ga, off, hA, hga, hcc⟩ := (ElemsAt.keep HIT.out HB.out).item (by omega)
      obtain ⟨c0, c1, c2, c3, c4, c5, c6⟩ := hcc j x hx
      subst hA
      have hb3 : Below wr.heap.size wr (wr.alloc (.cells #[.string x.id, .string x.cu, .int .i64 x.kind, .string x.name, .int .i64 x.at_, .string x.par, .string x.text] 37)) := (Below.refl _ _).alloc (Nat.le_refl _) _
      have HI3 : Hid (ItemAt (wr.alloc (.cells #[.string x.id, .string x.cu, .int .i64 x.kind, .string x.name, .int .i64 x.at_, .string x.par, .string x.text] 37)) wr.heap.size x) := item_new wr x
      have HU3 := Lib.hid (HU.out.below hb3)
      have HB3 := Lib.hid (HB.out.trans (hb3.mono HB.out.size))
      have HZ3 : Hid (b < (wr.alloc (.cells #[.string x.id, .string x.cu, .int .i64 x.kind, .string x.name, .int .i64 x.at_, .string x.par, .string x.text] 37)).heap.size) := Nat.lt_of_lt_of_le HZ.out hb3.size
      clear hcc hx hb3 HU HB HZ hga HK
      go_upto_region 8 with (fail)
      obtain ⟨P, hPe⟩ : ∃ P, P = wr.heap.size := ⟨_, rfl⟩
      rw [← hPe] at HI3 ⊢
      generalize wr.alloc (.cells #[.string x.id, .string x.cu, .int .i64 x.kind, .string x.name, .int .i64 x.at_, .string x.par, .string x.text] 37) = w3 at *
      clear hPe c0 c1 c2 c3 c4 c5 c6
      obtain ⟨c0, c1, c2, c3, c4, c5, c6⟩ := HI3.out.c
      have HTL := Lib.hid (linesI_flat HOK.out.text)
      have HLI := Lib.hid (lines_any x.text (linesI x.text.data.toList) w3 HTL.out.symm (linesI_not _) (by have := HOK.out.size; omega) (HMP.out w3 HB3.out).1)
      obtain ⟨pw, hpw⟩ : ∃ pw, pw = bag (parW x) := ⟨_, rfl⟩
      have HPW := Lib.hid hpw
      clear hpw
      by_cases hp : x.par.data.toList = []
      case' pos =>
        have HPV : Hid ((⟨#[45]⟩ : ByteArray) = pw) := by show _ = _; rw [HPW.out]; unfold parW; rw [if_pos hp]; rfl
        obtain ⟨q1, q2, q3⟩ := par_emptyL hp
        clear hp
        go_upto_region 11 with (fail)
        rw [HPV.out]
      case' neg =>
        have HPV : Hid (x.par = pw) := by show _ = _; rw [HPW.out]; unfold parW; rw [if_neg hp]; exact (bag_of x.par).symm
        obtain ⟨q1, q2, q3⟩ := par_fullL hp
        clear hp
        go_upto_region 11 with (fail)
        rw [HPV.out] at c5 ⊢
      all_goals
        clear c5 q1 q2 q3 HPV
        go_wp2_with fail
        refine HLI.out.mono ?_
        rintro e w4 ⟨A3, c3', rfl, hat4, hb4, hty4⟩
        have HI4 := Lib.hid (HI3.out.keep hb4)
        have HU4 := Lib.hid (HU3.out.below hb4)
        have HB4 := Lib.hid (HB3.out.trans (hb4.mono HB3.out.size))
        have HZ4 : Hid (b < w4.heap.size) := Nat.lt_of_lt_of_le HZ3.out hb4.size
        obtain ⟨nl, hnl⟩ : ∃ nl, nl = (linesI x.text.data.toList).length := ⟨_, rfl⟩
        rw [← hnl] at hat4 ⊢
        have HNL := Lib.hid hnl
        have HA4 := Lib.hid hat4
        have HY4 := Lib.hid hty4
        have hnl2 : nl ≤ 20000 := by
          have h1 := linesI_len x.text.data.toList
          have h2 : x.text.data.toList.length ≤ 20000 := HOK.out.size
          omega
        clear hat4 hb4 hty4 hnl HLI c0 c1 c2 c3 c4 c6 HI3 HU3 HB3 HZ3
        obtain ⟨c0, c1, c2, c3, c4, c5, c6⟩ := HI4.out.c
        have HPOW : Hid (∀ w', Below w4.heap.size w4 w' → PowAt w') := fun w' hb => (HMP.out w' (HB4.out.trans (hb.mono HB4.out.size))).2
        have HI1 : Hid (∀ W, Below w4.heap.size w4 W → Calls Tryz.prog 19 #[.int .i64 x.at_] W fun e w' => e = .returned (.string (bag (Lib.decDigits x.at_.toNat))) ∧ Below W.heap.size W w') := fun W hb => by
          have h := itoa_any x.at_.toNat W (by have := HOK.out.at_; omega) (HPOW.out W hb)
          rw [show ((x.at_.toNat : Nat) : Int) = x.at_ from Int.toNat_of_nonneg HOK.out.at_.1] at h
          exact h
        have HI2 : Hid (∀ W, Below w4.heap.size w4 W → Calls Tryz.prog 19 #[.int .i64 (nl : Int)] W fun e w' => e = .returned (.string (bag (Lib.decDigits nl))) ∧ Below W.heap.size W w') := fun W hb => itoa_any nl W (by omega) (HPOW.out W hb)
        have HKW := Lib.hid (fun W => kindWord_v x.kind W HOK.out.kind)
        have HQU := Lib.hid (fun W => quote_any x.name W (by have := HOK.out.short; omega))
        unfold QuotePost at HQU
        have HHELD : Hid (∀ w', Below w4.heap.size w4 w' → w'.cell? ⟨P, 0, none⟩ = some (.string x.id) ∧ w'.cell? ⟨P, 1, none⟩ = some (.string x.cu) ∧ w'.cell? ⟨P, 2, none⟩ = some (.int .i64 x.kind) ∧ w'.cell? ⟨P, 3, none⟩ = some (.string x.name) ∧ w'.cell? ⟨P, 4, none⟩ = some (.int .i64 x.at_)) := fun w' hw => by
          obtain ⟨x0, x1, x2, x3, x4, _, _⟩ := (HI4.out.keep hw).c
          exact ⟨x0, x1, x2, x3, x4⟩
        go_upto_region 12 with (fail)
        go_cut [11] (fun v wx => ∃ A5 c5', v = .slice A5 8 c5' ∧ Hid (StrsAt wx A5 8 c5' (fieldsI x nl)) ∧ Hid (Below w4.heap.size w4 wx))
        case first =>
          obtain ⟨a0, a1, a2, a3, a4⟩ := HHELD.out w4 (Below.refl _ _)
          go_region_held3 (fun w' => w'.cell? ⟨P, 0, none⟩ = some (.string x.id) ∧ w'.cell? ⟨P, 1, none⟩ = some (.string x.cu) ∧ w'.cell? ⟨P, 2, none⟩ = some (.int .i64 x.kind) ∧ w'.cell? ⟨P, 3, none⟩ = some (.string x.name) ∧ w'.cell? ⟨P, 4, none⟩ = some (.int .i64 x.at_))
            (first | assumption | exact HHELD.out _ ((Below.refl _ _).drew) | exact HHELD.out _ hx0 | exact HHELD.out _ hy0 | exact HHELD.out _ hz0 | exact HHELD.out _ (hz0.alloc hz0.size _))
            (first
              | (go_at_call 18; (with_reducible refine Calls.mono (HKW.out _) ?_); rintro e wk ⟨rfl, hwk⟩; obtain rfl := hwk)
              | (go_at_call 20; (with_reducible refine Calls.mono (HQU.out _) ?_); rintro e wy ⟨rfl, hby⟩; have hy0 : Below w4.heap.size w4 wy := below_trans' hx0 hby; clear hby)
              | (go_at_call 19; (with_reducible refine Calls.mono (HI1.out _ ((Below.refl _ _).drew)) ?_); rintro e wx ⟨rfl, hbx⟩; have hx0 : Below w4.heap.size w4 wx := below_undI hbx; clear hbx)
              | (go_at_call 19; (with_reducible refine Calls.mono (HI2.out _ hy0) ?_); rintro e wz ⟨rfl, hbz⟩; have hz0 : Below w4.heap.size w4 wz := below_trans' hy0 hbz; clear hbz))
          all_goals
            go_wp2_with fail
            go_meet
            have hF : (fieldsI x nl).map bag = [⟨#[105, 116, 101, 109]⟩, x.id, x.cu, bag (wordI x.kind), bag (Lib.decDigits x.at_.toNat), pw, bag (quoS x.name.data.toList), bag (Lib.decDigits nl)] := by
              rw [HPW.out]
              simp only [fieldsI, List.map_cons, List.map_nil]
              rw [show bag x.id.data.toList = x.id from bag_of _, show bag x.cu.data.toList = x.cu from bag_of _]
              rfl
            exact ⟨_, _, rfl, strs8 wz _ _ _ _ _ _ _ _ _ hF, hz0.alloc hz0.size _⟩
        case rest =>
          obtain ⟨A5, c5', rfl, HS5, HB5⟩ := hcut
          have HI5 := Lib.hid (HI4.out.keep HB5.out)
          have HU5 := Lib.hid (HU4.out.below HB5.out)
          have HBW5 := Lib.hid (HB4.out.trans (HB5.out.mono HB4.out.size))
          have HZ5 : Hid (b < wc.heap.size) := Nat.lt_of_lt_of_le HZ4.out HB5.out.size
          have HA5 := Lib.hid (ElemsAt.keep HA4.out HB5.out)
          have HY5 := Lib.hid (HY4.out.below HB5.out)
          have HHD : Hid (Lib.join (fieldsI x nl) [32] = headI x) := by show _ = _; unfold headI; rw [← HNL.out]
          have HJN := Lib.hid (joinC_any A5 8 c5' (fieldsI x nl) 32 wc HS5.out (by omega) (by rw [HHD.out]; have := head_len HOK.out; omega))
          rw [HHD.out] at HJN
          clear HI4 HU4 HB4 HZ4 HA4 HY4 HPOW HI1 HI2 HKW HQU HHELD c0 c1 c2 c3 c4 c5 c6
          go_wp2_with fail
          refine HJN.out.mono ?_
          rintro e w6 ⟨rfl, hb6⟩
          have HU6 := Lib.hid (HU5.out.below hb6)
          have HB6 := Lib.hid (HBW5.out.trans (hb6.mono HBW5.out.size))
          have HZ6 : Hid (b < w6.heap.size) := Nat.lt_of_lt_of_le HZ5.out hb6.size
          have HA6 := Lib.hid (ElemsAt.keep HA5.out hb6)
          have HY6 := Lib.hid (HY5.out.below hb6)
          have hhl := head_len HOK.out
          have HWS := Lib.hid (writeString_buf b b (textI (l.take j)) (bag (headI x) ++ ⟨#[10]⟩) w6 HU6.out (by have := HLE.out; rw [ByteArray.size_append, bag_size']; show _ + (_ + 1) ≤ _; omega) (Nat.le_of_lt HZ6.out))
          have HDT : Hid ((bag (headI x) ++ ⟨#[10]⟩ : ByteArray).data.toList = flatN [headI x]) := by show _ = _; simp [flatN, bag]
          rw [HDT.out] at HWS
          have hbs : (bag (headI x)).size ≤ 700 := by rw [bag_size']; exact hhl
          clear hb6 HI5 HU5 HBW5 HZ5 HA5 HY5 HJN HB5 HS5 HDT
          generalize bag (headI x) = hd at *
          go_wp2_with fail
          refine HWS.out.mono ?_
          rintro e w7 ⟨rfl, hu7, hb7, ho7⟩
          have HU7 : Hid (BuildAt b b (textI (l.take j) ++ flatN (headI x :: ((linesI x.text.data.toList).take 0).map fun s => 124 :: s)) w7) := hu7
          have HB7 := Lib.hid (HB6.out.trans (hb7.mono HWB.out))
          have HZ7 : Hid (b < w7.heap.size) := Nat.lt_of_lt_of_le HZ6.out hb7.size
          have HA7 := Lib.hid (strs_buf HY6.out ho7 hb7.size HA6.out)
          have HY7 := Lib.hid (HY6.out.buf ho7)
          obtain ⟨gko, rfl⟩ : ∃ gko : Nat, gko = gk := ⟨_, rfl⟩
          clear hu7 hb7 ho7 HWS HU6 HB6 HZ6 HA6 HY6
          go_wp2_with fail
          go_loopg [59] nl (fun gk v wr => ∃ i : Nat, Hid (i + gk = nl) ∧ v = .int .i64 (i : Int) ∧ Hid (BuildAt b b (textI (l.take j) ++ flatN (headI x :: ((linesI x.text.data.toList).take i).map fun s => 124 :: s)) wr) ∧ Hid (StrsAt wr A3 nl c3' (linesI x.text.data.toList)) ∧ Hid (TypS wr A3) ∧ Hid (Below w.heap.size w wr) ∧ Hid (b < wr.heap.size))
          case atStart => exact ⟨0, show 0 + nl = nl by omega, rfl, HU7.out, HA7.out, HY7.out, HB7.out, HZ7.out⟩
          case round =>
            obtain ⟨i, HK, rfl, HU, HA, HY, HB, HZ⟩ := hrel
            clear HU7 HA7 HY7 HB7 HZ7
            have hin : i ≤ nl := by have := HK.out; omega
            have hpl := part_len HOK.out i
            by_cases hlt2 : i < nl
            · have HGK2 := Lib.hid (show i + 1 + (gk - 1) = nl ∧ 0 < gk by have := HK.out; omega)
              obtain ⟨g3, o3, hA3, hg3, hc3⟩ := HA.out.str (by omega)
              have hci := hc3 i hlt2
              obtain ⟨s, hs⟩ : ∃ s, (linesI x.text.data.toList)[i]? = some s := ⟨_, List.getElem?_eq_getElem (by have := HNL.out; omega)⟩
              have hse : (linesI x.text.data.toList).getD i [] = s := by rw [List.getD_eq_getElem?_getD, hs]; rfl
              rw [hse] at hci
              have hsl : s.length ≤ 20000 := by
                have h1 := linesI_each x.text.data.toList s (List.mem_of_getElem? hs)
                have h2 : x.text.data.toList.length ≤ 20000 := HOK.out.size
                omega
              have HPT : Hid (flatN (headI x :: ((linesI x.text.data.toList).take (i + 1)).map fun s => 124 :: s) = flatN (headI x :: ((linesI x.text.data.toList).take i).map fun s => 124 :: s) ++ (124 :: s ++ [10])) := by
                show _ = _
                obtain ⟨h1, h2⟩ := List.getElem?_eq_some_iff.1 hs
                rw [List.take_succ_eq_append_getElem h1, h2, List.map_append, ← List.cons_append, flatN_append]
                simp [flatN]
              have HWS := Lib.hid (writeString_buf b b _ ((⟨#[124]⟩ : ByteArray) ++ ⟨s.toArray⟩ ++ ⟨#[10]⟩) wr HU.out (by
                have h1 : ((⟨#[124]⟩ : ByteArray) ++ ⟨s.toArray⟩ ++ ⟨#[10]⟩).size = s.length + 2 := by
                  rw [ByteArray.size_append, ByteArray.size_append]
                  have h3 : (⟨s.toArray⟩ : ByteArray).size = s.length := by simp [ByteArray.size]
                  rw [h3]
                  show 1 + s.length + 1 = _
                  omega
                have := HLE.out
                rw [h1, List.length_append]
                omega) (Nat.le_of_lt HZ.out))
              have HDT : Hid (((⟨#[124]⟩ : ByteArray) ++ ⟨s.toArray⟩ ++ ⟨#[10]⟩).data.toList = 124 :: s ++ [10]) := by show _ = _; simp
              rw [HDT.out] at HWS
              subst hA3
              have hss : (⟨s.toArray⟩ : ByteArray).size ≤ 20000 := by
                have h3 : (⟨s.toArray⟩ : ByteArray).size = s.length := by simp [ByteArray.size]
                omega
              clear hc3 hs hse HK hg3 HDT hpl
              generalize (⟨s.toArray⟩ : ByteArray) = sb at *
              go_wp2_with fail
              refine HWS.out.mono ?_
              rintro e w8 ⟨rfl, hu8, hb8, ho8⟩
              have HU8 : Hid (BuildAt b b (textI (l.take j) ++ flatN (headI x :: ((linesI x.text.data.toList).take (i + 1)).map fun s => 124 :: s)) w8) := by
                show BuildAt _ _ _ _
                rw [HPT.out, ← List.append_assoc]
                exact hu8
              have HB8 := Lib.hid (HB.out.trans (hb8.mono HWB.out))
              have HZ8 : Hid (b < w8.heap.size) := Nat.lt_of_lt_of_le HZ.out hb8.size
              have HA8 := Lib.hid (strs_buf HY.out ho8 hb8.size HA.out)
              have HY8 := Lib.hid (HY.out.buf ho8)
              clear hu8 hb8 ho8 HWS HU HB HZ HA HY hci
              go_wp2_with fail
              go_roundg (gk - 1)
              case measure => exact Nat.sub_lt HGK2.out.2 Nat.one_pos
              case rel => exact ⟨i + 1, HGK2.out.1, by go_num, HU8.out, HA8.out, HY8.out, HB8.out, HZ8.out⟩
            · have hnk : ¬ (i : Int) < (nl : Int) := by omega
              have HU9 : Hid (BuildAt b b (textI (l.take (j + 1))) wr) := by
                have h := HU.out
                rw [show (linesI x.text.data.toList).take i = linesI x.text.data.toList from List.take_of_length_le (by have := HNL.out; omega)] at h
                show BuildAt _ _ _ _
                rw [HTT.out]
                exact h
              have HLN := Lib.hid (Tryz.Builder_Len b b _ wr HU9.out)
              have HBL : Hid ((Lib.byteCells (textI (l.take (j + 1)))).length = (textI (l.take (j + 1))).length) := by show _ = _; simp [Lib.byteCells]
              rw [HBL.out] at HLN
              obtain ⟨tl, htl⟩ : ∃ tl, tl = (textI (l.take (j + 1))).length := ⟨_, rfl⟩
              rw [← htl] at HLN
              have HTLN := Lib.hid htl
              clear htl HK hlt2 hpl HU HA HY
              go_wp2_with fail
              refine HLN.out.mono ?_
              rintro e w8 ⟨rfl, hw⟩
              rw [hw]
              clear hw w8 HLN
              by_cases hbig : tl ≤ 200000
              · have hnb : ¬ (200000 : Int) < (tl : Int) := by omega
                have HLE2 : Hid ((textI (l.take (j + 1))).length ≤ 200000) := by have := HTLN.out; show _ ≤ _; omega
                clear hbig
                go_wp2_with fail
                go_roundg (gko - 1)
                case measure => exact Nat.sub_lt HGK.out.2 Nat.one_pos
                case rel => exact ⟨j + 1, HGK.out.1, by go_num, HU9.out, HLE2.out, HB.out, HZ.out⟩
              · have hnb : (200000 : Int) < (tl : Int) := by omega
                clear hbig
                go_wp2_with fail
                go_ret2
                exact ⟨⟨#[]⟩, 2, rfl, HB.out, .inl rfl⟩
    · have hnk : ¬ (j : Int) < (n : Int) := by omega
      have HALL : Hid (l.take j = l) := List.take_of_length_le (by have := HN.out; omega)
      have HST := Lib.hid (string_any b b _ wr HU.out (Nat.le_of_lt HZ.out))
      clear HK hlt
      go_wp2_with fail
      refine HST.out.mono ?_
      rintro e w8 ⟨rfl, hb8⟩
      have HB8 := Lib.hid (HB.out.trans (hb8.mono HWB.out))
      have HF : Hid (TextIPost w l (.returned (.tuple #[.string (bag (textI (l.take j))), .int .i64 0])) w8) := by
        have h := HLE.out
        rw [HALL.out] at h ⊢
        exact ⟨_, 0, rfl, HB8.out, .inr ⟨rfl, rfl, h⟩⟩
      clear hb8 HST
      go_wp2_with fail
      go_ret2
      exact HF.out
end Go.Proofs.YtikmjomepnbkcaaGreatDoor

namespace Go.Proofs.YtikmjomepnbkcaaGreatDoor
open Go.RowKit

/-- What one further row of the text is. -/
theorem rows_drop {l : List Itm} (_h : ∀ x ∈ l, ItemOk x) {i : Nat} {r : List UInt8} {rest : List (List UInt8)} {tl : List Itm} (hd : (l.flatMap rowsI).drop i = rest.map (fun s => 124 :: s) ++ tl.flatMap rowsI) (hr : (l.flatMap rowsI)[i]? = some r) (htl : ∀ x ∈ tl, ItemOk x) :
    (∃ s rest', rest = s :: rest' ∧ r = 124 :: s ∧ (l.flatMap rowsI).drop (i + 1) = rest'.map (fun s => 124 :: s) ++ tl.flatMap rowsI) ∨
    (∃ x tl', rest = [] ∧ tl = x :: tl' ∧ r = headI x ∧ (l.flatMap rowsI).drop (i + 1) = (linesI x.text.data.toList).map (fun s => 124 :: s) ++ tl'.flatMap rowsI) := by
  have h0 : ((l.flatMap rowsI).drop i)[0]? = some r := by rw [List.getElem?_drop, Nat.add_zero]; exact hr
  have h1 : (l.flatMap rowsI).drop (i + 1) = ((l.flatMap rowsI).drop i).tail := by rw [List.tail_drop]
  rw [hd] at h0 h1
  cases rest with
  | cons s rest' =>
    left
    refine ⟨s, rest', rfl, ?_, ?_⟩
    · simpa using h0.symm
    · rw [h1]; rfl
  | nil =>
    right
    cases tl with
    | nil => simp at h0
    | cons x tl' =>
      refine ⟨x, tl', rfl, rfl, ?_, ?_⟩
      · simp [rowsI] at h0
        exact h0.symm
      · rw [h1]
        simp [rowsI]
theorem head_first {x : Itm} : ∃ r, headI x = 105 :: r := by
  unfold headI fieldsI
  exact ⟨_, by simp [Lib.join, List.intercalate, List.intersperse]; rfl⟩
theorem flat_mem {a : List UInt8} : ∀ {L : List (List UInt8)}, a ∈ L → a.length + 1 ≤ (flatN L).length
  | [], h => by cases h
  | b :: L, h => by
    rw [flatN_cons, List.length_append, List.length_cons]
    rcases List.mem_cons.1 h with rfl | h
    · omega
    · have := flat_mem h
      omega
theorem flat_ge : ∀ L : List (List UInt8), L.length ≤ (flatN L).length
  | [] => Nat.zero_le _
  | b :: L => by
    have := flat_ge L
    rw [flatN_cons, List.length_append, List.length_cons, List.length_cons]
    omega
theorem addT_size (x : Itm) (t : List UInt8) : (x.addT t).text.size = x.text.data.toList.length + t.length := by
  have h : ∀ l : List UInt8, (⟨l.toArray⟩ : ByteArray).size = l.length := fun l => by simp [ByteArray.size]
  unfold Itm.addT
  rw [h, List.length_append]
theorem hasPrefix_yes (c : UInt8) (l : List UInt8) : Lib.hasPrefix (c :: l) [c] = true := by simp [Lib.hasPrefix, List.isPrefixOf]
theorem trimPrefix_yes (c : UInt8) (l : List UInt8) : Lib.trimPrefix (c :: l) [c] = l := by simp [Lib.trimPrefix, hasPrefix_yes]
def ReadIPost (w : World) (l : List Itm) (e : Ending) (w' : World) : Prop :=
  ∃ A c, e = .returned (.tuple #[.slice A l.length c, .int .i64 0, .int .i64 0]) ∧ ItemsAt w' A l.length c l ∧ Below w.heap.size w w'
theorem readAt_len {items L : List Itm} {rest : List (List UInt8)} {tl : List Itm} (h : ReadAt items L rest tl) : L.length + tl.length = items.length := by
  rcases h with ⟨rfl, _, rfl⟩ | ⟨L0, x, rfl, rfl⟩
  · simp
  · simp
    omega
set_option maxHeartbeats 6400000 in
set_option maxRecDepth 100000 in
theorem read_any (s : ByteArray) (l : List Itm) (w : World) (hs : s.data.toList = textI l) (hsz : s.size ≤ 200000) (hl : SetR l) (hT : Tabs w) (hM : MaxAt w) :
    Calls Tryz.prog 8 #[.string s] w (ReadIPost w l) := by
  have HL := Lib.hid hl
  have HTM : Hid (∀ w', Below w.heap.size w w' → Tabs w' ∧ MaxAt w') := fun w' hb => ⟨Tabs.below hT hb, MaxAt.below hM hb⟩
  have HEA : Hid (∀ x ∈ l, ItemOk x) := hl.set.ok.each
  have HRN : Hid (∀ a ∈ l.flatMap rowsI, (10 : UInt8) ∉ a) := fun a ha => by
    obtain ⟨x, hx, hax⟩ := List.mem_flatMap.1 ha
    exact rows_not (HEA.out x hx) a hax
  have HLI := Lib.hid (lines_any s (l.flatMap rowsI) w hs HRN.out (by omega) hM)
  obtain ⟨LL, hLL⟩ : ∃ LL, LL = l.flatMap rowsI := ⟨_, rfl⟩
  have HROW : Hid (∀ a ∈ LL, a.length ≤ 200000) := fun a ha => by
    have h1 := flat_mem ha
    have h2 : (flatN LL).length = s.size := by
      rw [hLL, show flatN (l.flatMap rowsI) = textI l from rfl, ← hs]
      simp
    omega
  have HLLN : Hid (LL.length ≤ 200000) := by
    have h1 := flat_ge LL
    have h2 : (flatN LL).length = s.size := by
      rw [hLL, show flatN (l.flatMap rowsI) = textI l from rfl, ← hs]
      simp
    show _ ≤ _
    omega
  rw [← hLL] at HLI
  have HLL := Lib.hid hLL
  clear hs hl hT hM hLL
  have hns : ¬ (200000 : Int) < (s.size : Int) := by omega
  go_enter Tryz.func8, Tryz.ntmps8
  go_wp2_with fail
  refine HLI.out.mono ?_
  rintro e w1 ⟨A3, c3, rfl, hat, hb1, -⟩
  obtain ⟨nr, hnr⟩ : ∃ nr, nr = LL.length := ⟨_, rfl⟩
  rw [← hnr] at hat ⊢
  have HNR := Lib.hid hnr
  have HA1 := Lib.hid hat
  have HB1 := Lib.hid hb1
  have hnr2 : nr ≤ 200000 := by have := HLLN.out; omega
  have HD0 : Hid (LL.drop 0 = ([] : List (List UInt8)).map (fun s => 124 :: s) ++ l.flatMap rowsI) := by show _ = _; rw [HLL.out]; rfl
  clear hat hb1 hnr HLI hns
  go_wp2_with fail
  go_loopg [7, 8, 27] nr (fun gk v7 v8 v wr => ∃ (i : Nat) (rest : List (List UInt8)) (tl L : List Itm), Hid (i + gk = nr) ∧ v = .int .i64 (i : Int) ∧ v8 = .int .i64 (rest.length : Int) ∧ Hid (Owns ItemE wr w1.heap.size v7 L) ∧ Hid (LL.drop i = rest.map (fun s => 124 :: s) ++ tl.flatMap rowsI) ∧ Hid (ReadAt l L rest tl) ∧ Hid (∀ x ∈ tl, ItemOk x) ∧ Hid (Below w1.heap.size w1 wr))
  case atStart => exact ⟨0, [], l, [], show 0 + nr = nr by omega, rfl, rfl, Owns.nil _ _, HD0.out, ReadAt.start l, HEA.out, Below.refl _ _⟩
  case round =>
    obtain ⟨i, rest, tl, L, HK, rfl, rfl, HO, HD, HR, HTO, HB⟩ := hrel
    clear HD0
    have hin : i ≤ nr := by have := HK.out; omega
    have HLN := Lib.hid (readAt_len HR.out)
    have hl2 := HL.out.set.few
    have hLL2 : L.length ≤ 2000 := by have := HLN.out; omega
    by_cases hlt : i < nr
    · have HGK := Lib.hid (show i + 1 + (gk - 1) = nr ∧ 0 < gk by have := HK.out; omega)
      obtain ⟨r, hr⟩ : ∃ r, LL[i]? = some r := ⟨_, List.getElem?_eq_getElem (by have := HNR.out; omega)⟩
      have hrl : r.length ≤ 200000 := HROW.out r (List.mem_of_getElem? hr)
      obtain ⟨g3, o3, hA3, hg3, hc3⟩ := (ElemsAt.keep HA1.out HB.out).str (by omega)
      have hci := hc3 i hlt
      have hre : LL.getD i [] = r := by rw [List.getD_eq_getElem?_getD, hr]; rfl
      rw [hre] at hci
      have hrd := rows_drop HEA.out (by rw [← HLL.out]; exact HD.out) (by rw [← HLL.out]; exact hr) HTO.out
      rw [← HLL.out] at hrd
      subst hA3
      clear hc3 hr hre HK hg3
      rcases hrd with ⟨s', rest', rfl, rfl, hd'⟩ | ⟨x, tl', rfl, rfl, rfl, hd'⟩
      · have HD' := Lib.hid hd'
        have hCP := fun W => Tryz.strings_CutPrefix (bag (124 :: s')) ⟨#[124]⟩ W
        have e1 : (⟨(Lib.trimPrefix (bag (124 :: s')).data.toList (⟨#[124]⟩ : ByteArray).data.toList).toArray⟩ : ByteArray) = bag s' := by
          show bag (Lib.trimPrefix (124 :: s') [124]) = _
          rw [trimPrefix_yes]
        have e2 : Lib.hasPrefix (bag (124 :: s')).data.toList (⟨#[124]⟩ : ByteArray).data.toList = true := hasPrefix_yes 124 s'
        rw [e1, e2] at hCP
        have HCP := Lib.hid hCP
        obtain ⟨L0, x, hLe, hR'⟩ := HR.out.line
        subst hLe
        have HR' := Lib.hid hR'
        have hx0 : (L0 ++ [x])[L0.length]? = some x := by simp
        obtain ⟨G, c7, hv7, hG, hGl, hcell⟩ := HO.out.where_ itemE_ok (by simp)
        obtain ⟨d6, f6⟩ := hcell L0.length x 6 (.string x.text) hx0 rfl
        rw [show ItemE.size = 7 from rfl] at d6 f6
        have hln : (L0 ++ [x]).length = L0.length + 1 := by simp
        rw [hln] at hv7
        have HV7 := Lib.hid hv7
        have ho' := HO.out
        rw [hv7] at ho'
        have HO' : Hid (Owns ItemE (wr.setCell ⟨G, L0.length * 7 + 6, none⟩ (.string (x.text ++ (bag s' ++ ⟨#[10]⟩)))) w1.heap.size (.slice (some ⟨G, 0, none⟩) (L0.length + 1) c7) (L0 ++ [x.addT (s' ++ [10])])) := by
          have h := Owns.set_ itemE_ok ho' L0.length x (x.addT (s' ++ [10])) 6 (.string (x.text ++ (bag s' ++ ⟨#[10]⟩))) hx0 (by decide) (by
            have e : (⟨(x.text.data.toList ++ (s' ++ [10])).toArray⟩ : ByteArray) = x.text ++ (bag s' ++ ⟨#[10]⟩) := by
              apply ByteArray.ext
              rw [← Array.toList_inj]
              simp [bag]
            show (x.addT (s' ++ [10])).cells = _
            unfold Itm.addT Itm.cells
            rw [e]
            rfl)
          have e2 : (L0 ++ [x]).set L0.length (x.addT (s' ++ [10])) = L0 ++ [x.addT (s' ++ [10])] := by simp
          rw [e2] at h
          exact h
        have HB' : Hid (Below w1.heap.size w1 (wr.setCell ⟨G, L0.length * 7 + 6, none⟩ (.string (x.text ++ (bag s' ++ ⟨#[10]⟩))))) := HB.out.grown (grown_setCell _ _ _ _) HB.out.size (fun i e => by have := Option.some.inj e; omega)
        have hts : x.text.size ≤ 1000000 := by
          have hR2 := hR'
          have hxm : x.text.data.toList.length ≤ 20000 := by
            rcases HR.out with ⟨h, _⟩ | ⟨L1, y, h1, h2⟩
            · simp at h
            · have h3 := List.append_inj' h1 (by simp)
              have h4 : x = y := by simpa using h3.2
              subst h4
              have h5 := (HEA.out _ (by rw [← h2]; simp : x.addT (flatN (s' :: rest')) ∈ l)).size
              have h6 := addT_size x (flatN (s' :: rest'))
              omega
          have : x.text.data.toList.length = x.text.size := by simp
          omega
        have hbs : (bag s').size ≤ 200000 := by rw [bag_size']; simp at hrl; omega
        generalize bag s' = bs at *
        obtain ⟨m, hm⟩ : ∃ m, m = rest'.length := ⟨_, rfl⟩
        have hm2 : m ≤ 200000 := by
          have h := congrArg List.length HD'.out
          rw [List.length_drop, List.length_append, List.length_map] at h
          have := HLLN.out
          omega
        have HM := Lib.hid hm
        have hm1 : ((s' :: rest').length : Int) = (m : Int) + 1 := by rw [List.length_cons, hm]; omega
        have hm0 : (0 : Int) < (m : Int) + 1 := by omega
        have hl0 : L0.length ≤ 2000 := by rw [List.length_append] at hLL2; omega
        clear hCP e1 e2 hd' hR' HR hx0 hcell hv7 ho' HO HD hln HLN hm hrl hLL2
        rw [hm1, HV7.out]
        clear hm1 HV7
        have hci' : wr.cell? ⟨g3, o3 + i, none⟩ = some (.string (bag (124 :: s'))) := hci
        clear hci
        generalize (bag (124 :: s') : ByteArray) = bl at *
        go_wp2_with fail
        refine (HCP.out _).mono ?_
        rintro e w2 ⟨rfl, hw⟩
        rw [hw]
        clear hw w2 HCP
        go_wp2_with fail
        go_roundg (gk - 1)
        case measure => exact Nat.sub_lt HGK.out.2 Nat.one_pos
        case rel => exact ⟨i + 1, rest', tl, L0 ++ [x.addT (s' ++ [10])], HGK.out.1, by go_num, by rw [← HM.out], HO'.out, HD'.out, HR'.out, HTO.out, HB'.out⟩
      · have HD' := Lib.hid hd'
        have HXO := Lib.hid (HTO.out x (by simp))
        have HTO' : Hid (∀ y ∈ tl', ItemOk y) := fun y hy => HTO.out y (by simp [hy])
        have HR' := Lib.hid (HR.out.head HXO.out.text)
        obtain ⟨hr, hhr⟩ := head_first (x := x)
        have hCP := fun W => Tryz.strings_CutPrefix (bag (headI x)) ⟨#[124]⟩ W
        have e2 : Lib.hasPrefix (headI x) [124] = false := by rw [hhr]; simp [Lib.hasPrefix, List.isPrefixOf]
        have e1 : (⟨(Lib.trimPrefix (bag (headI x)).data.toList (⟨#[124]⟩ : ByteArray).data.toList).toArray⟩ : ByteArray) = bag (headI x) := by
          show bag (Lib.trimPrefix (headI x) [124]) = _
          simp [Lib.trimPrefix, e2]
        have e3 : Lib.hasPrefix (bag (headI x)).data.toList (⟨#[124]⟩ : ByteArray).data.toList = false := e2
        rw [e1, e3] at hCP
        have HCP := Lib.hid hCP
        have HHD := Lib.hid (head_any x (bag (headI x)) wr rfl HXO.out (HTM.out wr (HB1.out.trans (HB.out.mono HB1.out.size))).2)
        unfold HeadPost Itm.bare Itm.v at HHD
        have hci' : wr.cell? ⟨g3, o3 + i, none⟩ = some (.string (bag (headI x))) := hci
        have HL1 : Hid (L.length ≤ 2000) := hLL2
        clear hci hhr e1 e2 e3 hCP hd' HR HD HLN hrl hLL2 HTO
        rw [List.length_nil]
        generalize (bag (headI x) : ByteArray) = bl at *
        go_wp2_with fail
        refine (HCP.out _).mono ?_
        rintro e w2 ⟨rfl, hw⟩
        rw [hw]
        clear hw w2 HCP
        go_wp2_with fail
        refine HHD.out.mono ?_
        rintro e w2 ⟨rfl, hb2⟩
        have HO2 := Lib.hid (HO.out.below_ hb2)
        have HB2 := Lib.hid (HB.out.trans (hb2.mono HB.out.size))
        have hb3 : Below w2.heap.size w2 (w2.alloc (.cells #[.string x.id, .string x.cu, .int .i64 x.kind, .string x.name, .int .i64 x.at_, .string x.par, .string ⟨#[]⟩] 37)) := (Below.refl _ _).alloc (Nat.le_refl _) _
        have HI3 : Hid (ItemAt (w2.alloc (.cells #[.string x.id, .string x.cu, .int .i64 x.kind, .string x.name, .int .i64 x.at_, .string x.par, .string ⟨#[]⟩] 37)) w2.heap.size x.bare) := item_new w2 x.bare
        have HO3 := Lib.hid (HO2.out.below_ hb3)
        have HB3 := Lib.hid (HB2.out.trans (hb3.mono HB2.out.size))
        clear hb2 hb3 HHD HO HB HO2 HB2
        go_upto_region 16 with (fail)
        obtain ⟨P, hPe⟩ : ∃ P, P = w2.heap.size := ⟨_, rfl⟩
        rw [← hPe] at HI3 ⊢
        generalize w2.alloc (.cells #[.string x.id, .string x.cu, .int .i64 x.kind, .string x.name, .int .i64 x.at_, .string x.par, .string ⟨#[]⟩] 37) = w3 at *
        clear hPe
        obtain ⟨c0, c1, c2, c3', c4, c5, c6⟩ := HI3.out.c
        unfold Itm.bare at c0 c1 c2 c3' c4 c5 c6
        simp only at c0 c1 c2 c3' c4 c5 c6
        have hl1 := HL1.out
        have HWZ : Hid (w1.heap.size ≤ w3.heap.size) := HB3.out.size
        go_wp2_with (at_builtin; refine append_elems itemE_ok rfl _ _ rfl w1.heap.size _ L rfl (World.ownsRow.alloc HO3.out _) (some ⟨w3.heap.size, 0, none⟩) 1 1 [x.bare] rfl (one_elem (E := ItemE) w3 x.bare) (by simp; omega) (by have := HWZ.out; simp; omega) ?_; intro v10 w10 hown10 hgrow10 _)
        have HB10 : Hid (Below w1.heap.size w1 w10) := (HB3.out.alloc HB3.out.size _).grown hgrow10 (by have := HB3.out.size; simp; omega) (fun i hi => (HO3.out.lt i hi).1)
        have HO10 : Hid (Owns ItemE w10 w1.heap.size v10 (L ++ [x.bare])) := hown10
        clear hown10 hgrow10 HO3 HB3 HI3 c0 c1 c2 c3' c4 c5 c6
        go_wp2_with fail
        go_roundg (gk - 1)
        case measure => exact Nat.sub_lt HGK.out.2 Nat.one_pos
        case rel => exact ⟨i + 1, linesI x.text.data.toList, tl', L ++ [x.bare], HGK.out.1, by go_num, rfl, HO10.out, HD'.out, HR'.out, HTO'.out, HB10.out⟩
    · have hnk : ¬ (i : Int) < (nr : Int) := by omega
      have hdn : rest.map (fun s => 124 :: s) ++ tl.flatMap rowsI = [] := by
        rw [← HD.out]
        exact List.drop_eq_nil_of_le (by have := HNR.out; omega)
      obtain ⟨h1, h2⟩ := List.append_eq_nil_iff.1 hdn
      have hr0 : rest = [] := by simpa using h1
      have ht0 : tl = [] := by
        cases tl with
        | nil => rfl
        | cons y tl' => simp [rowsI] at h2
      subst hr0
      subst ht0
      have hLe := HR.out.done
      subst hLe
      obtain ⟨A9, c9, hv9, -, hat9, -⟩ := HO.out.at_ itemE_ok
      subst hv9
      have HWB := Lib.hid (HB1.out.trans (HB.out.mono HB1.out.size))
      have HCK := Lib.hid (check_ok A9 L.length c9 L wr hat9 HL.out (HTM.out wr HWB.out).1 (HTM.out wr HWB.out).2)
      have HAT9 := Lib.hid hat9
      clear hdn h1 h2 HD HR HTO hat9 HLN
      rw [List.length_nil]
      obtain ⟨nL, hnL⟩ : ∃ nL, nL = L.length := ⟨_, rfl⟩
      rw [← hnL] at HCK HAT9 ⊢
      have HNL := Lib.hid hnL
      clear hnL hlt HK
      go_wp2_with fail
      refine HCK.out.mono ?_
      rintro e w9 ⟨rfl, hb9⟩
      have HF : Hid (ReadIPost w L (.returned (.tuple #[.slice A9 nL c9, .int .i64 0, .int .i64 0])) w9) := by
        show ReadIPost _ _ _ _
        have h1 := ElemsAt.keep HAT9.out hb9
        rw [HNL.out] at h1 ⊢
        exact ⟨A9, c9, rfl, h1, HWB.out.trans (hb9.mono HWB.out.size)⟩
      clear hb9 HCK
      go_wp2_with fail
      refine bodyPost_ret (v := .tuple #[.slice A9 nL c9, .int .i64 0, .int .i64 0]) (by simp [results, Tryz.results8, go_sem]) rfl ?_
      exact HF.out
end Go.Proofs.YtikmjomepnbkcaaGreatDoor

namespace Go.Proofs.YtikmjomepnbkcaaGreatDoor
open Go.RowKit Go.Maps

/-- Is an id there, when p says which items are. -/
def hasS (l : List Itm) (p : Nat → Bool) (id : ByteArray) : Bool := match findI l id with
  | some k => p k
  | none => false
def valS (l : List Itm) (p : Nat → Bool) (id : ByteArray) : Value := match findI l id with
  | some k => if p k = true then (match l[k]? with | some x => x.v | none => itemZ) else itemZ
  | none => itemZ
theorem hasS_of {l : List Itm} {p : Nat → Bool} {id : ByteArray} {k : Nat} (h : findI l id = some k) : hasS l p id = p k := by
  unfold hasS; rw [h]
theorem hasS_none {l : List Itm} {p : Nat → Bool} {id : ByteArray} (h : findI l id = none) : hasS l p id = false := by
  unfold hasS; rw [h]
theorem valS_of {l : List Itm} {p : Nat → Bool} {id : ByteArray} {k : Nat} {x : Itm} (h : findI l id = some k) (hp : p k = true) (hx : l[k]? = some x) : valS l p id = x.v := by
  unfold valS; rw [h]; simp only [hp, if_true, hx]
theorem valS_not {l : List Itm} {p : Nat → Bool} {id : ByteArray} (h : hasS l p id = false) : valS l p id = itemZ := by
  unfold hasS at h
  unfold valS
  cases hf : findI l id with
  | none => rfl
  | some k =>
    rw [hf] at h
    simp only at h ⊢
    rw [h]
    simp
/-- Block M holds the items of l that p names; m stores were made. -/
structure SMapAt (w : World) (M m : Nat) (l : List Itm) (p : Nat → Bool) : Prop where
  ex : ∃ D : DataW Value, w.ownsMap Tryz.prog 9 heldE M m D ∧ (∀ id : List UInt8, D.atKey (.string id) (.held itemZ) = .held (valS l p ⟨id.toArray⟩)) ∧ ∀ id : List UInt8, has D (.string id) = hasS l p ⟨id.toArray⟩
theorem hasS_empty (l : List Itm) (id : ByteArray) : hasS l (fun _ => false) id = false := by
  unfold hasS; split <;> rfl
theorem SMapAt.start (w : World) (l : List Itm) : SMapAt (w.alloc (.map #[] 0)) w.heap.size 0 l (fun _ => false) :=
  ⟨⟨.map [], World.ownsMap_made w _ _ _, fun id => by rw [valS_not (hasS_empty l _)]; rfl, fun id => by rw [hasS_empty]; rfl⟩⟩
theorem SMapAt.kept {w w' : World} {M m : Nat} {l : List Itm} {p : Nat → Bool} {row : Option Nat} (h : SMapAt w M m l p) (hg : w.grownBy w' row) (hr : row ≠ some M) : SMapAt w' M m l p := by
  obtain ⟨D, h1, h2⟩ := h.ex
  exact ⟨⟨D, h1.kept hg hr.symm, h2⟩⟩
theorem SMapAt.below {w w' : World} {M m : Nat} {l : List Itm} {p : Nat → Bool} (h : SMapAt w M m l p) (hb : Below w.heap.size w w') : SMapAt w' M m l p := h.kept (below_grown hb none) (by simp)
theorem SMapAt.lt {w : World} {M m : Nat} {l : List Itm} {p : Nat → Bool} (h : SMapAt w M m l p) : M < w.heap.size := by
  obtain ⟨D, h1, _⟩ := h.ex
  exact h1.lt
theorem SMapAt.congr {w : World} {M m : Nat} {l : List Itm} {p q : Nat → Bool} (h : SMapAt w M m l p) (e : ∀ k, k < l.length → q k = p k) : SMapAt w M m l q := by
  have h1 : ∀ id, hasS l q id = hasS l p id := fun id => by
    cases hf : findI l id with
    | none => rw [hasS_none hf, hasS_none hf]
    | some k => rw [hasS_of hf, hasS_of hf, e k (findI_lt hf)]
  have h2 : ∀ id, valS l q id = valS l p id := fun id => by
    cases hf : findI l id with
    | none => rw [valS_not (hasS_none hf), valS_not (hasS_none hf)]
    | some k => unfold valS; rw [hf]; simp only [e k (findI_lt hf)]
  obtain ⟨D, a, b, c⟩ := h.ex
  exact ⟨⟨D, a, fun id => by rw [h2]; exact b id, fun id => by rw [h1]; exact c id⟩⟩
theorem SMapAt.look2 {w : World} {M m : Nat} {l : List Itm} {p : Nat → Bool} (h : SMapAt w M m l p) (id : ByteArray) (hid : id.size ≤ 1000000) (q : Nat) :
    (Instr.lookup 86 (.map (some M)) (.string id) true).run Tryz.prog (w.drewN q) = .ok (.tuple #[valS l p id, .bool (hasS l p id)]) (w.drewN q) := by
  obtain ⟨D, h1, h2, h3⟩ := h.ex
  have hd : (w.drewN q).ownsMap Tryz.prog 9 heldE M m D := h1
  obtain ⟨v, ps, hrun, hv⟩ := hd.look_ok keyS Tryz.underlying86 (z := itemZ) (by kernel_rfl) (zd := .held itemZ) (zp := []) rfl (keyS_mk id hid)
  rw [h2, mk_data] at hv
  rw [h3, mk_data] at hrun
  simp only [heldE, Option.some.injEq, Prod.mk.injEq, DataW.held.injEq] at hv
  rw [hv.1] at hrun
  exact hrun
theorem SMapAt.hit {w : World} {M m q : Nat} {l : List Itm} {p : Nat → Bool} {z : Itm} {id : ByteArray} (h : SMapAt w M m l p) (hid : id.size ≤ 1000000) (hf : findI l id = some q) (hp : p q = true) (hz : l[q]? = some z) :
    (Instr.lookup 86 (.map (some M)) (.string id) true).run Tryz.prog w = .ok (.tuple #[.agg #[.string z.id, .string z.cu, .int .i64 z.kind, .string z.name, .int .i64 z.at_, .string z.par, .string z.text], .bool true]) w := by
  have := h.look2 id hid 0
  rw [valS_of hf hp hz, hasS_of hf, hp] at this
  exact this
theorem SMapAt.miss {w : World} {M m : Nat} {l : List Itm} {p : Nat → Bool} {id : ByteArray} (h : SMapAt w M m l p) (hid : id.size ≤ 1000000) (hf : hasS l p id = false) :
    (Instr.lookup 86 (.map (some M)) (.string id) true).run Tryz.prog w = .ok (.tuple #[.agg #[.string ⟨#[]⟩, .string ⟨#[]⟩, .int .i64 0, .string ⟨#[]⟩, .int .i64 0, .string ⟨#[]⟩, .string ⟨#[]⟩], .bool false]) w := by
  have := h.look2 id hid 0
  rw [valS_not hf, hf] at this
  exact this
/-- How many items are there: no more than were stored. -/
theorem SMapAt.len {w : World} {M m : Nat} {l : List Itm} {p : Nat → Bool} (h : SMapAt w M m l p) : ∃ s, s ≤ m ∧ ∀ ty, (Builtin.len_ #[86] ty #[.map (some M)]).run Tryz.prog w = .ok (.int .i64 (s : Int)) w := by
  obtain ⟨D, h1, _, _⟩ := h.ex
  exact ⟨_, h1.size_le, fun ty => h1.len Tryz.underlying86 ty⟩
/-- Behind a further item. -/
theorem SMapAt.put {w w' : World} {M m k : Nat} {l : List Itm} {p : Nat → Bool} {x : Itm} {D : DataW Value} (hl : SetI l) (hx : l[k]? = some x) (h1 : w.ownsMap Tryz.prog 9 heldE M m D) (h2 : ∀ id : List UInt8, D.atKey (.string id) (.held itemZ) = .held (valS l p ⟨id.toArray⟩)) (h3 : ∀ id : List UInt8, has D (.string id) = hasS l p ⟨id.toArray⟩)
    (hm : w'.ownsMap Tryz.prog 9 heldE M (m + 1) (D.put (.string x.id.data.toList) (.held x.v))) : SMapAt w' M (m + 1) l (fun i => decide (i = k) || p i) := by
  have hself : findI l x.id = some k := by
    cases hf : findI l x.id with
    | none =>
      unfold findI at hf
      rw [List.findIdx?_eq_none_iff] at hf
      have := hf x (List.mem_of_getElem? hx)
      simp at this
    | some j =>
      obtain ⟨z, hz, hze, _⟩ := findI_some hf
      rw [hl.find hz hx hze]
  have hoth : ∀ id : List UInt8, id ≠ x.id.data.toList → ∀ j, findI l ⟨id.toArray⟩ = some j → j ≠ k := fun id hne j hf e => by
    subst e
    obtain ⟨z, hz, hze, _⟩ := findI_some hf
    rw [hx] at hz
    have e2 := Option.some.inj hz
    subst e2
    exact hne (by rw [hze])
  refine ⟨⟨_, hm, fun id => ?_, fun id => ?_⟩⟩
  · by_cases e : id = x.id.data.toList
    · subst e
      rw [atKey_put_same h1.isMap (str_key _), mk_data, valS_of hself (by simp) hx]
    · rw [atKey_put_other (str_neI e), h2]
      congr 1
      cases hf : findI l (⟨id.toArray⟩ : ByteArray) with
      | none => rw [valS_not (hasS_none hf), valS_not (hasS_none hf)]
      | some j =>
        have hj := hoth id e j hf
        unfold valS
        rw [hf]
        simp [hj]
  · by_cases e : id = x.id.data.toList
    · subst e
      rw [has_put_same h1.isMap (str_key _), mk_data, hasS_of hself]
      simp
    · rw [has_put_other (str_neI e), h3]
      cases hf : findI l (⟨id.toArray⟩ : ByteArray) with
      | none => rw [hasS_none hf, hasS_none hf]
      | some j =>
        have hj := hoth id e j hf
        rw [hasS_of hf, hasS_of hf]
        simp [hj]
end Go.Proofs.YtikmjomepnbkcaaGreatDoor

namespace Go.Proofs.YtikmjomepnbkcaaGreatDoor
open Go.RowKit Go.Maps

instance : Inhabited Itm := ⟨⟨⟨#[]⟩, ⟨#[]⟩, 0, ⟨#[]⟩, 0, ⟨#[]⟩, ⟨#[]⟩⟩⟩
theorem SetI.self {l : List Itm} (hl : SetI l) {k : Nat} {x : Itm} (hx : l[k]? = some x) : findI l x.id = some k := by
  cases hf : findI l x.id with
  | none => exact absurd rfl (findI_none hf x (List.mem_of_getElem? hx))
  | some j =>
    obtain ⟨z, hz, hze, _⟩ := findI_some hf
    rw [hl.find hz hx hze]
theorem invK_strS : ∀ key kl, keyOf Tryz.prog 9 key = some kl → ∃ x : List UInt8, key = .string (bag x) := fun key kl h => by
  obtain ⟨x, hx, _⟩ := Maps.keyOf_str Tryz.underlying9 h
  exact ⟨x, hx⟩
theorem key_bagS {x : List UInt8} {kl : Lit} (h : keyOf Tryz.prog 9 (.string (bag x)) = some kl) : kl = .string x := by
  obtain ⟨y, hy, hk, _⟩ := Maps.keyOf_str Tryz.underlying9 h
  have : bag x = bag y := by simpa [encStr, bag] using hy
  rw [hk, bag_inj.1 this]
theorem sameS (x y : List UInt8) : (Lit.string x).sameKey (.string y) = decide (x = y) := by simp [Lit.sameKey, Bool.beq_eq_decide_eq]

def litI (l : List Itm) (k : Nat) : Lit := match l[k]? with
  | some x => .string x.id.data.toList
  | none => .string []
theorem litI_of {l : List Itm} {k : Nat} {x : Itm} (h : l[k]? = some x) : litI l k = .string x.id.data.toList := by unfold litI; rw [h]
/-- The items of a map that have come. -/
def comeS (l : List Itm) (p : Nat → Bool) (left : Lit → Bool) : Nat → Bool := fun k => p k && !left (litI l k)
/-- A key of the map is an item's. -/
theorem key_item {l : List Itm} {p : Nat → Bool} {x : List UInt8} (h : hasS l p ⟨x.toArray⟩ = true) : ∃ k z, l[k]? = some z ∧ p k = true ∧ z.id = ⟨x.toArray⟩ ∧ findI l ⟨x.toArray⟩ = some k := by
  cases hf : findI l (⟨x.toArray⟩ : ByteArray) with
  | none => rw [hasS_none hf] at h; cases h
  | some k =>
    rw [hasS_of hf] at h
    obtain ⟨z, hz, hze, _⟩ := findI_some hf
    exact ⟨k, z, hz, h, hze, rfl⟩
theorem comeS_start {l : List Itm} (hl : SetI l) {p : Nat → Bool} {D : DataW Value} (h3 : ∀ id : List UInt8, has D (.string id) = hasS l p ⟨id.toArray⟩) (k : Nat) (hk : k < l.length) : comeS l p (has D) k = false := by
  unfold comeS
  obtain ⟨x, hx⟩ : ∃ x, l[k]? = some x := ⟨_, List.getElem?_eq_getElem hk⟩
  rw [litI_of hx, h3, mk_data, hasS_of (hl.self hx)]
  cases p k <;> rfl
theorem comeS_end {l : List Itm} {p : Nat → Bool} {left : Lit → Bool} (h : ∀ k, left k = false) : comeS l p left = p := by
  funext k
  unfold comeS
  rw [h]
  simp
theorem comeS_step {l : List Itm} (hl : SetI l) {p : Nat → Bool} {left : Lit → Bool} {j : Nat} {z : Itm} {x : List UInt8} (hz : l[j]? = some z) (hp : p j = true) (hx : z.id = ⟨x.toArray⟩) (k : Nat) (hk : k < l.length) : comeS l p (fun y => left y && !y.sameKey (.string x)) k = (decide (k = j) || comeS l p left k) := by
  unfold comeS
  obtain ⟨y, hy⟩ : ∃ y, l[k]? = some y := ⟨_, List.getElem?_eq_getElem hk⟩
  rw [litI_of hy]
  show (p k && !(left (Lit.string y.id.data.toList) && !(Lit.string y.id.data.toList).sameKey (Lit.string x))) = _
  rw [sameS]
  by_cases e : k = j
  · subst e
    rw [hz] at hy
    have e2 := Option.some.inj hy
    subst e2
    have e3 : z.id.data.toList = x := by rw [hx]
    simp [e3, hp]
  · have e3 : ¬ y.id.data.toList = x := fun h => e (hl.find hy hz (by rw [hx, ← h]))
    simp [e, e3]
theorem comeS_old {l : List Itm} {p : Nat → Bool} {left : Lit → Bool} {j : Nat} {z : Itm} {x : List UInt8} (hz : l[j]? = some z) (hx : z.id = ⟨x.toArray⟩) (hlk : left (.string x) = true) : comeS l p left j = false := by
  unfold comeS
  rw [litI_of hz, hx]
  have : (⟨x.toArray⟩ : ByteArray).data.toList = x := rfl
  rw [this, hlk]
  simp
/-- More items. -/
def addS (p : Nat → Bool) (ks : List Nat) : Nat → Bool := fun i => p i || decide (i ∈ ks)
theorem addS_nil (p : Nat → Bool) : addS p [] = p := by funext i; simp [addS]
theorem addS_snoc (p : Nat → Bool) (ks : List Nat) (k : Nat) : addS p (ks ++ [k]) = fun i => decide (i = k) || addS p ks i := by
  funext i
  simp only [addS, List.mem_append, List.mem_singleton, Bool.decide_or]
  cases p i <;> cases decide (i ∈ ks) <;> cases decide (i = k) <;> rfl
theorem addS_in {p : Nat → Bool} {ks : List Nat} {k : Nat} (h : addS p ks k = true) : addS p (ks ++ [k]) = addS p ks := by
  rw [addS_snoc]
  funext i
  by_cases e : i = k
  · rw [e, h]; simp
  · simp [e]
/-- All items above one are there. -/
def wholeS (l : List Itm) (p : Nat → Bool) (i : Nat) : Bool := (chainI l (l.length + 1) i).all p
theorem wholeS_all {l : List Itm} {p : Nat → Bool} (h : ∀ k, k < l.length → p k = true) (i : Nat) : wholeS l p i = true := by
  unfold wholeS
  rw [List.all_eq_true]
  intro k hk
  exact h k (chainI_lt l _ i k hk)
theorem wholeS_end {l : List Itm} {p : Nat → Bool} {i m : Nat} (hm : (chainI l (l.length + 1) i).length = m) (h : ∀ j q, j < m → upI l (j + 1) i = some q → p q = true) : wholeS l p i = true := by
  unfold wholeS
  rw [List.all_eq_true]
  intro k hk
  obtain ⟨j, hj, e⟩ := List.getElem_of_mem hk
  have h1 := chainI_len l (l.length + 1) i
  have h2 := chain_get (l := l) (l.length + 1) j i (by omega)
  rw [List.getElem?_eq_getElem hj, e] at h2
  exact h j k (by omega) h2.symm
theorem wholeS_not {l : List Itm} {p : Nat → Bool} {i m q : Nat} (hm : m < l.length + 1) (hu : upI l (m + 1) i = some q) (hp : p q = false) : wholeS l p i = false := by
  unfold wholeS
  rw [List.all_eq_false]
  refine ⟨q, ?_, by simp [hp]⟩
  have h2 := chain_get (l := l) (l.length + 1) m i hm
  rw [hu] at h2
  exact List.mem_of_getElem? h2
/-- The items whose places q names, in their order. -/
def pickS (l : List Itm) (q : Nat → Bool) : List Itm := ((List.range l.length).filter q).filterMap fun k => l[k]?
theorem pickS_all {l : List Itm} {q : Nat → Bool} (h : ∀ k, k < l.length → q k = true) : pickS l q = l := by
  unfold pickS
  have e : (List.range l.length).filter q = List.range l.length := List.filter_eq_self.2 (fun k hk => h k (List.mem_range.1 hk))
  rw [e]
  refine List.ext_getElem? fun k => ?_
  have e2 : ((List.range l.length).filterMap fun k => l[k]?) = l := by
    have : ∀ n, n ≤ l.length → ((List.range n).filterMap fun k => l[k]?) = l.take n := by
      intro n
      induction n with
      | zero => intro _; simp
      | succ n ih =>
        intro hn
        rw [List.range_succ, List.filterMap_append, ih (by omega), List.take_add_one]
        have h1 : l[n]? = some l[n] := List.getElem?_eq_getElem (by omega)
        simp [h1]
    rw [this _ (Nat.le_refl _), List.take_length]
  rw [e2]
theorem pickS_congr {l : List Itm} {q q' : Nat → Bool} (h : ∀ k, k < l.length → q k = q' k) : pickS l q = pickS l q' := by
  unfold pickS
  congr 1
  exact List.filter_congr (fun k hk => h k (List.mem_range.1 hk))
theorem pickS_mem {l : List Itm} {q : Nat → Bool} {x : Itm} (h : x ∈ pickS l q) : x ∈ l := by
  unfold pickS at h
  obtain ⟨k, _, hk⟩ := List.mem_filterMap.1 h
  exact List.mem_of_getElem? hk
theorem pickS_len (l : List Itm) (q : Nat → Bool) : (pickS l q).length ≤ l.length := by
  unfold pickS
  have h1 := List.length_filterMap_le (fun k => l[k]?) ((List.range l.length).filter q)
  have h2 := List.length_filter_le q (List.range l.length)
  rw [List.length_range] at h2
  omega
/-- What was taken, in whatever order: the items of ks. -/
def itemsOf (l : List Itm) (ks : List Nat) : List Itm := ks.filterMap fun k => l[k]?
theorem itemsOf_snoc {l : List Itm} {ks : List Nat} {k : Nat} {x : Itm} (hx : l[k]? = some x) : itemsOf l (ks ++ [k]) = itemsOf l ks ++ [x] := by
  unfold itemsOf
  rw [List.filterMap_append]
  simp [hx]
/-- A range has taken these. -/
structure TakenS (l : List Itm) (q : Nat → Bool) (ks : List Nat) : Prop where
  nodup : ks.Nodup
  mem : ∀ k, k ∈ ks ↔ k < l.length ∧ q k = true
theorem TakenS.nil {l : List Itm} {q : Nat → Bool} (h : ∀ k, k < l.length → q k = false) : TakenS l q [] :=
  ⟨List.Pairwise.nil, fun k => ⟨fun hk => (by cases hk), fun ⟨h1, h2⟩ => by rw [h k h1] at h2; cases h2⟩⟩
theorem TakenS.skip {l : List Itm} {q q' : Nat → Bool} {ks : List Nat} (h : TakenS l q ks) (e : ∀ k, k < l.length → q' k = q k) : TakenS l q' ks :=
  ⟨h.nodup, fun k => by
    rw [h.mem]
    constructor
    · rintro ⟨h1, h2⟩
      exact ⟨h1, by rw [e k h1]; exact h2⟩
    · rintro ⟨h1, h2⟩
      exact ⟨h1, by rw [← e k h1]; exact h2⟩⟩
theorem TakenS.snoc {l : List Itm} {q q' : Nat → Bool} {ks : List Nat} {j : Nat} (h : TakenS l q ks) (hj : j < l.length) (hq : q j = false) (e : ∀ k, k < l.length → q' k = (decide (k = j) || q k)) : TakenS l q' (ks ++ [j]) := by
  refine ⟨?_, fun k => ?_⟩
  · rw [List.nodup_append]
    refine ⟨h.nodup, by simp, fun a ha b hb => ?_⟩
    rw [List.mem_singleton] at hb
    subst hb
    intro e2
    subst e2
    have := ((h.mem a).1 ha).2
    rw [hq] at this
    cases this
  · rw [List.mem_append, List.mem_singleton, h.mem]
    constructor
    · rintro (⟨h1, h2⟩ | rfl)
      · exact ⟨h1, by rw [e k h1, h2]; simp⟩
      · exact ⟨hj, by rw [e k hj]; simp⟩
    · rintro ⟨h1, h2⟩
      rw [e k h1] at h2
      by_cases hk : k = j
      · exact .inr hk
      · simp [hk] at h2
        exact .inl ⟨h1, h2⟩
theorem TakenS.perm {l : List Itm} {q : Nat → Bool} {ks : List Nat} (h : TakenS l q ks) : (itemsOf l ks).Perm (pickS l q) := by
  have hp : ks.Perm ((List.range l.length).filter q) := by
    rw [List.perm_ext_iff_of_nodup h.nodup (List.nodup_range.filter _)]
    intro k
    rw [h.mem, List.mem_filter, List.mem_range]
  exact hp.filterMap _
theorem TakenS.len {l : List Itm} {q : Nat → Bool} {ks : List Nat} (h : TakenS l q ks) : (itemsOf l ks).length ≤ l.length := by
  rw [h.perm.length_eq]
  exact pickS_len l q
theorem owns_ne_range {α : Type} {E : Elem α} {w : World} {base M r n cnt : Nat} {v : Value} {l : List α} {D : DataW Value} {left : Lit → Bool} (h : Owns E w base v l) (hr : w.ranges Tryz.prog 9 heldE M r n D left cnt) : v.ownBlock ≠ some M ∧ v.ownBlock ≠ some r := by
  obtain ⟨es, clock, since, seen, c0, hb, _, _, _, hi, _⟩ := hr
  rcases h.2 with ⟨rfl, _⟩ | ⟨g, cap, cur, rfl, _, hh, _⟩
  · exact ⟨fun e => (by cases e), fun e => (by cases e)⟩
  · refine ⟨fun e => ?_, fun e => ?_⟩
    · have e2 : g = M := Option.some.inj e
      subst e2
      rw [hb] at hh
      cases hh
    · have e2 : g = r := Option.some.inj e
      subst e2
      rw [hi] at hh
      cases hh
end Go.Proofs.YtikmjomepnbkcaaGreatDoor

namespace Go.Proofs.YtikmjomepnbkcaaGreatDoor
open Go.RowKit Go.Maps Go.Shelf

instance : DecidableEq Itm := fun x y => by
  cases x; cases y
  simp only [Itm.mk.injEq]
  exact inferInstance
theorem neqI : NeqAt Tryz.prog 37 (fun x : Itm => .agg (Itm.cells x).toArray) (fun x y => decide (x = y)) := by
  refine ⟨fun x y w => ?_, GuardAt.agg _ (by kernel_rfl)⟩
  have u3 := Tryz.underlying3
  have a3 := Tryz.isAgg3
  have z3 := Tryz.sizeOf3
  have u9 := Tryz.underlying9
  have a9 := Tryz.isAgg9
  have z9 := Tryz.sizeOf9
  have hS : Tryz.prog.underlying 37 = some (.struct (Tryz.prog.fieldsOf 37)) := by kernel_rfl
  have hp : Tryz.prog.stoodInHeld 37 = false := by kernel_rfl
  obtain ⟨x1, x2, x3, x4, x5, x6, x7⟩ := x
  obtain ⟨y1, y2, y3, y4, y5, y6, y7⟩ := y
  have e : decide ((⟨x1, x2, x3, x4, x5, x6, x7⟩ : Itm) = ⟨y1, y2, y3, y4, y5, y6, y7⟩) = (decide (x1 = y1) && (decide (x2 = y2) && (decide (x3 = y3) && (decide (x4 = y4) && (decide (x5 = y5) && (decide (x6 = y6) && decide (x7 = y7))))))) := by
    simp only [Itm.mk.injEq, Bool.decide_and]
  simp only [Itm.cells]
  rw [e]
  rw [run_neq_struct, show (10000 : Nat) = 9998 + 1 + 1 from rfl, run_equalIn_agg w (9998 + 1) 37 _ _ hS hp]
  simp only [Program.fieldsOf, Tryz.underlying37]
  go_simp
  have hb : ∀ x y : ByteArray, (x.toList = y.toList) = (x = y) := fun x y => propext ⟨fun h => by
    have h1 := bytes_eq x y
    rw [h] at h1
    simpa using h1.symm, fun h => by rw [h]⟩
  by_cases h1 : x1 = y1
  · by_cases h2 : x2 = y2
    · by_cases h3 : x3 = y3
      · by_cases h4 : x4 = y4
        · by_cases h5 : x5 = y5
          · by_cases h6 : x6 = y6
            · by_cases h7 : x7 = y7 <;> simp [hb, h1, h2, h3, h4, h5, h6, h7]
            · simp [hb, h1, h2, h3, h4, h5, h6]
          · simp [h1, h2, h3, h4, h5]
        · simp [hb, h1, h2, h3, h4]
      · simp [h1, h2, h3]
    · simp [hb, h1, h2]
  · simp [hb, h1]
theorem allEqI (l : List Itm) : Lib.allEq (fun x y => decide (x = y)) l l = true := by
  induction l with
  | nil => rfl
  | cons x l ih => simp [Lib.allEq, ih]
theorem ItemsAt.cellsQ {w : World} {g o n c : Nat} {l : List Itm} (h : ItemsAt w (some ⟨g, o, none⟩) n c l) : ∀ j, j < l.length → ∀ i v, (Itm.cells l[j]!)[i]? = some v → w.cell? ⟨g, o + j * 7 + i, none⟩ = some v := by
  intro j hj i v hi
  obtain ⟨g', o', he, _, hc⟩ := h.2.2.2 (by rw [h.1]; omega)
  simp only [Option.some.injEq, Addr.mk.injEq] at he
  obtain ⟨rfl, rfl, _⟩ := he
  have hx : l[j]? = some l[j]! := by simp [hj]
  exact hc j _ i v hx hi
set_option maxHeartbeats 400000 in
theorem equalI_any (A B : Option Addr) (n c m d : Nat) (l : List Itm) (w : World) (hA : ItemsAt w A n c l) (hB : ItemsAt w B m d l) (hn : n ≤ 10000) :
    Calls Tryz.prog 9 #[.slice A n c, .slice B m d] w fun e w' => e = .returned (.bool true) ∧ Below w.heap.size w w' := by
  have hl := hA.1
  have hl2 := hB.1
  obtain rfl : n = m := by omega
  rcases Nat.eq_zero_or_pos n with h0 | h0
  · subst h0
    clear hA hB hl hl2
    go_enter Tryz.func9, Tryz.ntmps9
    go_wp2_with fail
    refine wp_loop_rounds 1 ?_
    rw [rounds_succ]
    go_wp2_with fail
    go_ret
    exact ⟨rfl, Below.refl _ _⟩
  · obtain ⟨g1, o1, rfl, hg1, hc1⟩ := hA.2.2.2 h0
    obtain ⟨g2, o2, rfl, hg2, hc2⟩ := hB.2.2.2 h0
    refine (AnyQ.slices_Equal Tryz.eqQ9 7 Tryz.isAgg37 Tryz.sizeOf37 Itm.cells (fun _ => rfl) _ neqI g1 o1 n c g2 o2 n d l l w (by omega) (by omega) (by omega) (by omega) hA.cellsQ hB.cellsQ).mono ?_
    rintro e w' ⟨rfl, q, rfl⟩
    refine ⟨ret_bool ?_, below_drewN (Below.refl _ _) q⟩
    rw [List.take_of_length_le (by omega)]
    exact allEqI l
end Go.Proofs.YtikmjomepnbkcaaGreatDoor

namespace Go.Proofs.YtikmjomepnbkcaaGreatDoor
open Go.RowKit

theorem order_nat {ol : List Int} {m : Nat} (h : ol.Perm ((List.range m).map Int.ofNat)) : ∃ ks : List Nat, ol = ks.map Int.ofNat ∧ ks.Perm (List.range m) := by
  refine ⟨ol.map Int.toNat, ?_, ?_⟩
  · rw [List.map_map]
    have : ∀ x ∈ ol, (Int.ofNat ∘ Int.toNat) x = id x := fun x hx => by
      obtain ⟨k, _, rfl⟩ := List.mem_map.1 (h.subset hx)
      rfl
    rw [List.map_congr_left this, List.map_id]
  · have h1 := h.map Int.toNat
    rw [List.map_map] at h1
    have e : (Int.toNat ∘ Int.ofNat) = id := by funext k; rfl
    rw [e, List.map_id] at h1
    exact h1
theorem GoodI.setRS {l : List Itm} (h : GoodI l) : SetR l := by
  refine ⟨⟨h.ok, ?_, by have := h.short; omega⟩, h.rise⟩
  have hr : (l.map fun x => x.id.data.toList).Pairwise fun a b => a ≠ b := h.rise.imp (fun {a b} hab e => by
    subst e
    rw [Bool.or_eq_false_iff] at hab
    simp at hab)
  have : (l.map Itm.id).Pairwise fun a b => a ≠ b := by
    rw [List.pairwise_map] at hr ⊢
    exact hr.imp (fun {a b} hab e => hab (by rw [e]))
  exact this
end Go.Proofs.YtikmjomepnbkcaaGreatDoor

namespace Go.Proofs.YtikmjomepnbkcaaGreatDoor
open Go.RowKit Go.Maps

set_option maxHeartbeats 3200000 in
set_option maxRecDepth 100000 in
theorem itxLaw_any (A : Option Addr) (n c : Nat) (w : World) (hA : RowAt w A n) (hbig : n ≤ 1000000000000000) (hS : StandAt w) (hT : Tabs w) (hM : MaxAt w) (hP : PowAt w) :
    Calls Tryz.prog 3 #[.slice A n c] w (LawPost w) := by
  have hst := stream_new w A n c hA hbig
  have hB : Below w.heap.size w (w.alloc (.cells #[.slice A n c, .int .i64 0] 25)) := (Below.refl _ _).alloc (Nat.le_refl _) _
  have HS := Lib.hid hS
  have HTM : Hid (∀ w', Below w.heap.size w w' → Tabs w' ∧ MaxAt w') := fun w' hb => ⟨Tabs.below hT hb, MaxAt.below hM hb⟩
  have HPO : Hid (∀ w', Below w.heap.size w w' → PowAt w') := fun w' hb => hP.below hb
  clear hS hT hM hP
  go_enter Tryz.func3, Tryz.ntmps3
  go_upto_region 2 with (fail)
  generalize w.alloc (.cells #[.slice A n c, .int .i64 0] 25) = w1 at *
  go_wp2_with fail
  refine (rangeR_any w.heap.size A n c 0 0 9 _ hst (by omega) (by omega) (by omega) (by omega)).mono ?_
  rintro e w2 ⟨r, rfl, hr0, hr1, hs2, hg2⟩
  obtain ⟨m, rfl⟩ := Int.eq_ofNat_of_zero_le hr0
  have hm : m ≤ 12 := by omega
  have HM9 : Hid (m ≤ 9) := by show _ ≤ _; omega
  have HB2 : Hid (Below w.heap.size w w2) := hB.grown hg2 hB.size (fun i e => Nat.le_of_eq (Option.some.inj e))
  have HRI := Lib.hid (rightItems_any w.heap.size A n c 1 m w2 hs2 (by omega) hm (fun w' hg => HTM.out w' (HB2.out.grown hg HB2.out.size (fun i e => Nat.le_of_eq (Option.some.inj e)))))
  clear hst hB hr0 hr1 hs2 hg2 hm
  go_wp2_with fail
  refine HRI.out.mono ?_
  rintro e w3 ⟨v3, l, rfl, hown3, hgd, hlm, -, hg3⟩
  have HB3 : Hid (Below w.heap.size w w3) := HB2.out.grown hg3 HB2.out.size (fun i e => Nat.le_of_eq (Option.some.inj e))
  obtain ⟨A2, c2, hv3, -, hat3, -⟩ := hown3.at_ itemE_ok
  subst hv3
  have HL := Lib.hid hgd.setRS
  obtain ⟨nl, hnl⟩ : ∃ nl, nl = l.length := ⟨_, rfl⟩
  rw [← hnl] at hat3 ⊢
  have HNL := Lib.hid hnl
  have hnl9 : nl ≤ 9 := by have := HM9.out; omega
  have HAT3 := Lib.hid hat3
  have HTX := Lib.hid (textI_any A2 nl c2 l w3 hat3 HL.out (HTM.out w3 HB3.out).1 (HTM.out w3 HB3.out).2 (HPO.out w3 HB3.out))
  clear hown3 hgd hlm hg3 hat3 hnl HRI HB2
  go_wp2_with fail
  refine HTX.out.mono ?_
  rintro e w4 ⟨t, z, rfl, hb4, hz⟩
  have HAT4 := Lib.hid (ElemsAt.keep HAT3.out hb4)
  have HB4 := Lib.hid (HB3.out.trans (hb4.mono HB3.out.size))
  clear hb4 HTX HAT3 HB3
  rcases hz with rfl | ⟨rfl, rfl, hlen⟩
  · have HSD := Lib.hid (stands_any w4 (HS.out.below HB4.out))
    go_wp2_with fail
    refine HSD.out.mono ?_
    rintro e w5 ⟨rfl, hb5⟩
    have HB5 := Lib.hid (HB4.out.trans (hb5.mono HB4.out.size))
    clear hb5 HSD
    go_wp2_with fail
    go_ret
    exact ⟨rfl, HB5.out⟩
  · have HRD := Lib.hid (read_any (bag (textI l)) l w4 rfl (by rw [bag_size']; exact hlen) HL.out (HTM.out w4 HB4.out).1 (HTM.out w4 HB4.out).2)
    clear hlen
    generalize bag (textI l) = t at *
    go_wp2_with fail
    refine HRD.out.mono ?_
    rintro e w5 ⟨A5, c5, rfl, hat5, hb5⟩
    rw [← HNL.out] at hat5 ⊢
    have HEQ := Lib.hid (equalI_any A5 A2 nl c5 nl c2 l w5 hat5 (ElemsAt.keep HAT4.out hb5) (by omega))
    have HB5 := Lib.hid (HB4.out.trans (hb5.mono HB4.out.size))
    clear hat5 hb5 HRD HAT4 HB4
    go_wp2_with fail
    refine HEQ.out.mono ?_
    rintro e w6 ⟨rfl, hb6⟩
    have HB6 := Lib.hid (HB5.out.trans (hb6.mono HB5.out.size))
    have HSD := Lib.hid (stands_any w6 (HS.out.below HB6.out))
    clear hb6 HEQ
    go_wp2_with fail
    refine HSD.out.mono ?_
    rintro e w7 ⟨rfl, hb7⟩
    have HB7 := Lib.hid (HB6.out.trans (hb7.mono HB6.out.size))
    clear hb7 HSD
    go_wp2_with fail
    go_ret
    exact ⟨rfl, HB7.out⟩
end Go.Proofs.YtikmjomepnbkcaaGreatDoor
