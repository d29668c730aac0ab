
/-
  (*Stream).Filter: what it makes (its region 1 is printed by wip/fltgen.py).
-/
import Derived.Test.YtfijplllfdmcoaaGreatDoorFltA
import Derived.Test.YtfijplllfdmcoaaGreatDoorMkItem
import Derived.Test.YtfijplllfdmcoaaGreatDoorStreamNew
import Derived.Deep.RegionLaw

namespace Go.Proofs.YtfijplllfdmcoaaGreatDoor
open Go.RowKit

/-- A filter's cells. -/
abbrev FiltB (w : World) (T : Nat) (k q x y v : Value) : Prop := w.heap[T]? = some (.cells #[k, q, x, y, v] 33 (0, 0))
theorem FiltB.lt {w : World} {T : Nat} {k q x y v : Value} (h : FiltB w T k q x y v) : T < w.heap.size := (Array.getElem?_eq_some_iff.1 h).1
theorem FiltB.free {w w' : World} {T g : Nat} {k q x y v : Value} (h : FiltB w T k q x y v) (hg : w.grownBy w' (some g)) (hT : g < T) : FiltB w' T k q x y v := (hg.block T h.lt (fun e => by have := Option.some.inj e; omega)).trans h
theorem FiltB.c {w : World} {T : Nat} {k q x y v : Value} (h : FiltB w T k q x y v) : w.cell? ⟨T, 0, none⟩ = some k ∧ w.cell? ⟨T, 1, none⟩ = some q ∧ w.cell? ⟨T, 2, none⟩ = some x ∧ w.cell? ⟨T, 3, none⟩ = some y ∧ w.cell? ⟨T, 4, none⟩ = some v ∧ w.frozen? ⟨T, 0, none⟩ = false ∧ w.frozen? ⟨T, 1, none⟩ = false ∧ w.frozen? ⟨T, 2, none⟩ = false ∧ w.frozen? ⟨T, 3, none⟩ = false ∧ w.frozen? ⟨T, 4, none⟩ = false := by
  refine ⟨?_, ?_, ?_, ?_, ?_, by unfold FiltB at h; simp [World.frozen?, h], by unfold FiltB at h; simp [World.frozen?, h], by unfold FiltB at h; simp [World.frozen?, h], by unfold FiltB at h; simp [World.frozen?, h], by unfold FiltB at h; simp [World.frozen?, h]⟩ <;> (rw [cell_of_row w T _ _ _ _ h]; rfl)
theorem int_ne_str : StrE.t ≠ IntE.t := by decide
theorem filt_ne_int : (33 : TypeId) ≠ IntE.t := by decide
theorem filt_ne_str : (33 : TypeId) ≠ StrE.t := by decide
theorem filt_stored {w : World} {T : Nat} {k q x y v : Value} (h : FiltB w T k q x y v) (k' q' x' y' v' : Value) :
    FiltB (((((w.setCell ⟨T, 0, none⟩ k').setCell ⟨T, 1, none⟩ q').setCell ⟨T, 2, none⟩ x').setCell ⟨T, 3, none⟩ y').setCell ⟨T, 4, none⟩ v') T k' q' x' y' v' ∧ w.grownBy (((((w.setCell ⟨T, 0, none⟩ k').setCell ⟨T, 1, none⟩ q').setCell ⟨T, 2, none⟩ x').setCell ⟨T, 3, none⟩ y').setCell ⟨T, 4, none⟩ v') (some T) :=
  ⟨by unfold FiltB at *; simp [World.setCell, Array.getElem?_modify, h], grown_trans (grown_trans (grown_trans (grown_trans (grown_setCell _ _ _ _) (grown_setCell _ _ _ _)) (grown_setCell _ _ _ _)) (grown_setCell _ _ _ _)) (grown_setCell _ _ _ _)⟩
theorem Owns.filt {α : Type} {E : Elem α} (hne : (33 : TypeId) ≠ E.t) {w w' : World} {B T : Nat} {v k q x y u : Value} {l : List α} (ho : Owns E w B v l) (hT : FiltB w T k q x y u) (hg : w.grownBy w' (some T)) : Owns E w' B v l := by
  refine World.ownsRow.kept ho hg ?_
  cases e : v.ownBlock with
  | none => exact .inl rfl
  | some i => exact .inr (fun e2 => Owns.ne_block ho hT hne (by rw [e, e2]))
/-- A filter as it lies: its kinds, custodians and known sums. -/
structure FilS (w : World) (B T : Nat) (k q : Value) (x y : Int) (v : Value) (lk : List Int) (lq kn : List Str) : Prop where
  row : FiltB w T k q (.int .i64 x) (.int .i64 y) v
  ok : Owns IntE w B k lk
  oq : OwnStrs w B q lq
  ov : OwnStrs w B v kn
  ap : ApartV v q
theorem FilS.free {w w' : World} {B T g : Nat} {k q v : Value} {x y : Int} {lk : List Int} {lq kn : List Str} (h : FilS w B T k q x y v lk lq kn) (hg : w.grownBy w' (some g)) (hB : g < B) (hT : B ≤ T) : FilS w' B T k q x y v lk lq kn :=
  ⟨h.row.free hg (by omega), h.ok.free hg hB, h.oq.free hg hB, h.ov.free hg hB, h.ap⟩
/-- A further known sum: the row grows, and is stored. -/
theorem FilS.app {w w5 : World} {B T : Nat} {k q v v5 : Value} {x y : Int} {lk : List Int} {lq kn : List Str} {s : Str} {o : Obj} (h : FilS w B T k q x y v lk lq kn) (hown5 : OwnStrs w5 B v5 (kn ++ [s])) (hg : (w.alloc o).grownBy w5 v.ownBlock) (hv : v5.ownBlock = v.ownBlock ∨ v5.ownBlock = some (w.alloc o).heap.size) :
    FilS (w5.setCell ⟨T, 4, none⟩ v5) B T k q x y v5 lk lq (kn ++ [s]) := by
  have hrow5 : FiltB w5 T k q (.int .i64 x) (.int .i64 y) v := (hg.block T (by simp; have := h.row.lt; omega) (fun e => Owns.ne_block h.ov h.row filt_ne_str e.symm)).trans ((Below.heap_alloc w o T h.row.lt).trans h.row)
  have hgs := grown_setCell w5 T 4 v5
  have hk5 : Owns IntE w5 B k lk := Owns.beside (World.ownsRow.alloc h.ok o) (World.ownsRow.alloc h.ov o) int_ne_str hg
  have hq5 : OwnStrs w5 B q lq := Owns.apart h.ap h.oq hg
  exact ⟨by unfold FiltB at *; simp [World.setCell, Array.getElem?_modify, hrow5], Owns.filt filt_ne_int hk5 hrow5 hgs, Owns.filt filt_ne_str hq5 hrow5 hgs, Owns.filt filt_ne_str hown5 hrow5 hgs, ApartV.grow h.ap h.oq hv⟩
theorem FilS.turn {w w' : World} {B T : Nat} {k q v : Value} {x y : Int} {lk : List Int} {lq kn kn' : List Str} (h : FilS w B T k q x y v lk lq kn) (hown : OwnStrs w' B v kn') (hg : w.grownBy w' v.ownBlock) : FilS w' B T k q x y v lk lq kn' := by
  refine ⟨(hg.block T h.row.lt (fun e => Owns.ne_block h.ov h.row filt_ne_str e.symm)).trans h.row, Owns.beside h.ok h.ov int_ne_str hg, ?_, hown, h.ap⟩
  refine World.ownsRow.kept h.oq hg ?_
  cases e : q.ownBlock with
  | none => exact .inl rfl
  | some i => exact .inr (fun e2 => h.ap i e2.symm e)
theorem FilS.row_turn {w w' : World} {B T : Nat} {k q v : Value} {x y : Int} {lk : List Int} {lq kn : List Str} (h : FilS w B T k q x y v lk lq kn) (hg : w.grownBy w' v.ownBlock) : FiltB w' T k q (.int .i64 x) (.int .i64 y) v := (hg.block T h.row.lt (fun e => Owns.ne_block h.ov h.row filt_ne_str e.symm)).trans h.row
theorem FilS.comp {w w5 : World} {B T : Nat} {k q v v' : Value} {x y : Int} {lk : List Int} {lq kn kn' : List Str} (h : FilS w B T k q x y v lk lq kn) (hown : OwnStrs w5 B v' kn') (hg : w.grownBy w5 v.ownBlock) (hv : v'.ownBlock = v.ownBlock) : FilS (w5.setCell ⟨T, 4, none⟩ v') B T k q x y v' lk lq kn' := by
  have hgs := grown_setCell w5 T 4 v'
  have hr := h.row_turn hg
  have hk := Owns.beside h.ok h.ov int_ne_str hg
  have hq : OwnStrs w5 B q lq := by
    refine World.ownsRow.kept h.oq hg ?_
    cases e : q.ownBlock with
    | none => exact .inl rfl
    | some i => exact .inr (fun e2 => h.ap i e2.symm e)
  exact ⟨by unfold FiltB at *; simp [World.setCell, Array.getElem?_modify, hr], Owns.filt filt_ne_int hk hr hgs, Owns.filt filt_ne_str hq hr hgs, Owns.filt filt_ne_str hown hr hgs, fun i e => h.ap i (hv ▸ e)⟩
theorem compact_sub {l : List Str} {s : Str} (h : s ∈ Lib.compact l) : s ∈ l := by
  unfold Lib.compact Lib.compactUpTo at h
  obtain ⟨j, hj, rfl⟩ := List.mem_map.1 h
  have hj2 := List.mem_range.1 (List.mem_filter.1 hj).1
  rw [getElem!_pos l.toArray j (by simpa using hj2)]
  simp
theorem cell_of_app {w w5 : World} {B T : Nat} {k q x y v : Value} {kn : List Str} {o : Obj} (h : FiltB w T k q x y v) (ho : OwnStrs w B v kn) (hg : (w.alloc o).grownBy w5 v.ownBlock) : w5.cell? ⟨T, 4, none⟩ = some v := by
  have hrow5 : FiltB w5 T k q x y v := (hg.block T (by simp; have := h.lt; omega) (fun e => Owns.ne_block ho h filt_ne_str e.symm)).trans ((Below.heap_alloc w o T h.lt).trans h)
  exact hrow5.c.2.2.2.2.1
theorem frozen_of_app {w w5 : World} {B T : Nat} {k q x y v : Value} {kn : List Str} {o : Obj} (h : FiltB w T k q x y v) (ho : OwnStrs w B v kn) (hg : (w.alloc o).grownBy w5 v.ownBlock) : w5.frozen? ⟨T, 4, none⟩ = false := by
  have hrow5 : FiltB w5 T k q x y v := (hg.block T (by simp; have := h.lt; omega) (fun e => Owns.ne_block ho h filt_ne_str e.symm)).trans ((Below.heap_alloc w o T h.lt).trans h)
  exact hrow5.c.2.2.2.2.2.2.2.2.2
def FilterPost (w : World) (g : Nat) (A : Option Addr) (n c K : Nat) (e : Ending) (w' : World) : Prop :=
  ∃ (k q v : Value) (x y : Int) (lk : List Int) (lq kn : List Str), e = .returned (.agg #[k, q, .int .i64 x, .int .i64 y, v]) ∧ Owns IntE w' w.heap.size k lk ∧ OwnStrs w' w.heap.size q lq ∧ OwnStrs w' w.heap.size v kn ∧
    lk.length ≤ 10 ∧ (lq.length ≤ 10 ∧ ∀ s ∈ lq, s.length ≤ 100) ∧ (kn.length ≤ 10 ∧ ∀ s ∈ kn, s.length ≤ 100) ∧ StreamAt w' g A n c (K + 30) ∧ w.grownBy w' (some g)
theorem FilS.post {w w1 w2 w' : World} {B T R g n c K K' : Nat} {A : Option Addr} {k q v : Value} {x y : Int} {lk : List Int} {lq kn : List Str} (h : FilS w2 B T k q x y v lk lq kn) (hR : FiltB w2 R (.slice none 0 0) (.slice none 0 0) (.int .i64 0) (.int .i64 0) (.slice none 0 0)) (hg : w2.grownBy w' (some R)) (hs : StreamAt w2 g A n c K') (hK : K' ≤ K + 30) (hb1 : Below w.heap.size w w1) (hg1 : w1.grownBy w2 (some g)) (hgw : g < w.heap.size) (hRw : w.heap.size ≤ R) (hB : w.heap.size ≤ B)
    (h1 : lk.length ≤ 10) (h2 : lq.length ≤ 10 ∧ ∀ s ∈ lq, s.length ≤ 100) (h3 : kn.length ≤ 10 ∧ ∀ s ∈ kn, s.length ≤ 100) : FilterPost w g A n c K (.returned (.agg #[k, q, .int .i64 x, .int .i64 y, v])) w' :=
  ⟨k, q, v, x, y, lk, lq, kn, rfl, (Owns.filt filt_ne_int h.ok hR hg).base_ hB, (Owns.filt filt_ne_str h.oq hR hg).base_ hB, (Owns.filt filt_ne_str h.ov hR hg).base_ hB, h1, h2, h3, (hs.row_ hg (fun i e => by cases e; omega)).more hK,
    grown_row (grown_trans (below_grown hb1 _) hg1) hg (fun i e => by cases e; exact hRw)⟩
theorem FilS.set0 {w : World} {B T : Nat} {k q v k' : Value} {x y : Int} {lk lk' : List Int} {lq kn : List Str} (h : FilS w B T k q x y v lk lq kn) (ho : Owns IntE w B k' lk') : FilS (w.setCell ⟨T, 0, none⟩ k') B T k' q x y v lk' lq kn := by
  have hr := h.row
  have hgs := grown_setCell w T 0 k'
  exact ⟨by unfold FiltB at *; simp [World.setCell, Array.getElem?_modify, hr], Owns.filt filt_ne_int ho hr hgs, Owns.filt filt_ne_str h.oq hr hgs, Owns.filt filt_ne_str h.ov hr hgs, h.ap⟩
theorem FilS.set1 {w : World} {B T : Nat} {k q v q' : Value} {x y : Int} {lk : List Int} {lq lq' kn : List Str} (h : FilS w B T k q x y v lk lq kn) (ho : OwnStrs w B q' lq') (ha : ApartV v q') : FilS (w.setCell ⟨T, 1, none⟩ q') B T k q' x y v lk lq' kn := by
  have hr := h.row
  have hgs := grown_setCell w T 1 q'
  exact ⟨by unfold FiltB at *; simp [World.setCell, Array.getElem?_modify, hr], Owns.filt filt_ne_int h.ok hr hgs, Owns.filt filt_ne_str ho hr hgs, Owns.filt filt_ne_str h.ov hr hgs, ha⟩
theorem FilS.set2 {w : World} {B T : Nat} {k q v : Value} {x y : Int} {lk : List Int} {lq kn : List Str} (h : FilS w B T k q x y v lk lq kn) (x' y' : Int) : FilS ((w.setCell ⟨T, 2, none⟩ (.int .i64 x')).setCell ⟨T, 3, none⟩ (.int .i64 y')) B T k q x' y' v lk lq kn := by
  have hr := h.row
  have hgs := grown_trans (grown_setCell w T 2 (.int .i64 x')) (grown_setCell (w.setCell ⟨T, 2, none⟩ (.int .i64 x')) T 3 (.int .i64 y'))
  exact ⟨by unfold FiltB at *; simp [World.setCell, Array.getElem?_modify, hr], Owns.filt filt_ne_int h.ok hr hgs, Owns.filt filt_ne_str h.oq hr hgs, Owns.filt filt_ne_str h.ov hr hgs, h.ap⟩
theorem pick_lo3 : ∀ j, j < 3 → (5 : Int) ≤ ([5, 5761440, 5761441] : List Int).getD j 0 ∧ ([5, 5761440, 5761441] : List Int).getD j 0 ≤ 5761441 := by decide
theorem cus_odd {l : List Str} (h : l ∈ [[[98], [97]], [[]], [[65]]]) : l.length ≤ 10 ∧ ∀ s ∈ l, s.length ≤ 100 := by
  simp only [List.mem_cons, List.not_mem_nil, or_false] at h
  rcases h with rfl | rfl | rfl <;> decide
theorem rep_sizeF (u : List UInt8) (z : Nat) : (⟨(Lib.repeatL u z).toArray⟩ : ByteArray).size = z * u.length := by
  have h := Lib.repeatL_length u z
  simp only [ByteArray.size, List.size_toArray]
  rw [h]
theorem three_le {a b : ByteArray} (ha : a.size ≤ 16) (hb : b.size ≤ 16) : ∀ j, j < ([⟨#[48]⟩, a, b] : List ByteArray).length → (([⟨#[48]⟩, a, b] : List ByteArray).getD j ByteArray.empty).size ≤ 16 := fun j hj => by
  match j, hj with
  | 0, _ => exact (by decide : (⟨#[48]⟩ : ByteArray).size ≤ 16)
  | 1, _ => exact ha
  | 2, _ => exact hb
theorem kinds_odd {l : List Int} (h : l ∈ [[2, 1], [0], [5], [1, 1]]) : l.length ≤ 10 := by
  simp only [List.mem_cons, List.not_mem_nil, or_false] at h
  rcases h with rfl | rfl | rfl | rfl <;> decide
theorem kinds_small {l : List Int} (h : l ∈ [[], [1], [1, 2], [3], [2, 4]]) : l.length ≤ 10 := by
  simp only [List.mem_cons, List.not_mem_nil, or_false] at h
  rcases h with rfl | rfl | rfl | rfl | rfl <;> decide
theorem cus_small {l : List Str} (h : l ∈ [[], [[97, 110, 110]], [[97, 110, 110], [99, 105, 100]]]) : l.length ≤ 10 ∧ ∀ s ∈ l, s.length ≤ 100 := by
  simp only [List.mem_cons, List.not_mem_nil, or_false] at h
  rcases h with rfl | rfl | rfl <;> decide
theorem pick_lo24 : ∀ j, j < 4 → (0 : Int) ≤ ([0, 0, 50, 1440] : List Int).getD j 0 ∧ ([0, 0, 50, 1440] : List Int).getD j 0 ≤ 1440 := by decide
theorem pick_lo27 : ∀ j, j < 3 → (5000 : Int) ≤ ([5761440, 5761440, 5000] : List Int).getD j 0 ∧ ([5761440, 5761440, 5000] : List Int).getD j 0 ≤ 5761440 := by decide
structure FI (g : Nat) (A : Option Addr) (n c K B : Nat) (w0 : World) (d : Nat → Bool) (u6 u7 u8 u9 u10 u11 u12 u13 u14 u15 u16 u17 u18 u19 u20 u21 u22 u23 u24 u25 u26 u27 u28 u29 u5 : Value) (w : World) : Prop where
  gr : w0.grownBy w (some g)
  ord : d 25 = true → ∀ j, j < 25 → d j = true
  p0 : d 0 = true → d 25 = false → Owns IntE w B u6 [1]
  p1 : d 1 = true → d 25 = false → Owns IntE w B u7 [1, 2]
  p2 : d 2 = true → d 25 = false → Owns IntE w B u8 [3]
  p3 : d 3 = true → d 25 = false → Owns IntE w B u9 [2, 4]
  p4 : d 4 = true → d 25 = false → TabP IntE 22 w B u10 [[], [1], [1, 2], [3], [2, 4]]
  p5 : d 5 = true → d 25 = false → u11 = .pointer (some ⟨g, 0, none⟩)
  p6 : d 6 = true → d 25 = false → NatP u12 5
  p7 : d 7 = true → d 25 = false → PtrP IntE w B u13 [[], [1], [1, 2], [3], [2, 4]]
  p8 : d 8 = true → d 25 = false → LdP IntE w B u14 [[], [1], [1, 2], [3], [2, 4]]
  p9 : d 9 = true → d 25 = false → OwnStrs w B u15 [[97, 110, 110]]
  p10 : d 10 = true → d 25 = false → OwnStrs w B u16 [[97, 110, 110], [99, 105, 100]]
  p11 : d 11 = true → d 25 = false → TabP StrE 29 w B u17 [[], [[97, 110, 110]], [[97, 110, 110], [99, 105, 100]]]
  p12 : d 12 = true → d 25 = false → u18 = .pointer (some ⟨g, 0, none⟩)
  p13 : d 13 = true → d 25 = false → NatP u19 3
  p14 : d 14 = true → d 25 = false → PtrP StrE w B u20 [[], [[97, 110, 110]], [[97, 110, 110], [99, 105, 100]]]
  p15 : d 15 = true → d 25 = false → LdP StrE w B u21 [[], [[97, 110, 110]], [[97, 110, 110], [99, 105, 100]]]
  p16 : d 16 = true → d 25 = false → u22 = .pointer (some ⟨g, 0, none⟩)
  p17 : d 17 = true → d 25 = false → Owns IntE w B u23 [0, 0, 50, 1440]
  p18 : d 18 = true → d 25 = false → RngP u24 0 1440
  p19 : d 19 = true → d 25 = false → u25 = .pointer (some ⟨g, 0, none⟩)
  p20 : d 20 = true → d 25 = false → Owns IntE w B u26 [5761440, 5761440, 5000]
  p21 : d 21 = true → d 25 = false → RngP u27 5000 5761440
  p22 : d 22 = true → d 25 = false → ∃ x y : Int, u28 = .agg #[.int .i64 x, .int .i64 y]
  p23 : d 23 = true → d 25 = false → ∃ (k q : Value) (x y : Int), u29 = .agg #[k, q, .int .i64 x, .int .i64 y, .slice none 0 0] ∧ LdP IntE w B k [[], [1], [1, 2], [3], [2, 4]] ∧ LdP StrE w B q [[], [[97, 110, 110]], [[97, 110, 110], [99, 105, 100]]]
  p24 : d 24 = true → d 25 = false → ∃ T : Nat, u5 = .pointer (some ⟨T, 0, none⟩) ∧ B ≤ T ∧ FiltB w T (.slice none 0 0) (.slice none 0 0) (.int .i64 0) (.int .i64 0) (.slice none 0 0)
  p25 : d 25 = true → ∃ (T : Nat) (k q : Value) (x y : Int), u5 = .pointer (some ⟨T, 0, none⟩) ∧ B ≤ T ∧ FiltB w T k q (.int .i64 x) (.int .i64 y) (.slice none 0 0) ∧ LdP IntE w B k [[], [1], [1, 2], [3], [2, 4]] ∧ LdP StrE w B q [[], [[97, 110, 110]], [[97, 110, 110], [99, 105, 100]]]
theorem FI.grow {g : Nat} {A : Option Addr} {n c K B : Nat} {w0 : World} {d : Nat → Bool} {u6 u7 u8 u9 u10 u11 u12 u13 u14 u15 u16 u17 u18 u19 u20 u21 u22 u23 u24 u25 u26 u27 u28 u29 u5 : Value} {w w' : World} (h : FI g A n c K B w0 d u6 u7 u8 u9 u10 u11 u12 u13 u14 u15 u16 u17 u18 u19 u20 u21 u22 u23 u24 u25 u26 u27 u28 u29 u5 w) (hg : w.grownBy w' (some g)) (hB : g < B) (hl : d 25 = false) : FI g A n c K B w0 d u6 u7 u8 u9 u10 u11 u12 u13 u14 u15 u16 u17 u18 u19 u20 u21 u22 u23 u24 u25 u26 u27 u28 u29 u5 w' :=
  ⟨grown_trans h.gr hg,
   h.ord,
   fun e e2 => (h.p0 e e2).free hg hB,
   fun e e2 => (h.p1 e e2).free hg hB,
   fun e e2 => (h.p2 e e2).free hg hB,
   fun e e2 => (h.p3 e e2).free hg hB,
   fun e e2 => (h.p4 e e2).free hg hB,
   fun e e2 => (h.p5 e e2),
   fun e e2 => (h.p6 e e2),
   fun e e2 => (h.p7 e e2).free hg hB,
   fun e e2 => (h.p8 e e2).free hg hB,
   fun e e2 => (h.p9 e e2).free hg hB,
   fun e e2 => (h.p10 e e2).free hg hB,
   fun e e2 => (h.p11 e e2).free hg hB,
   fun e e2 => (h.p12 e e2),
   fun e e2 => (h.p13 e e2),
   fun e e2 => (h.p14 e e2).free hg hB,
   fun e e2 => (h.p15 e e2).free hg hB,
   fun e e2 => (h.p16 e e2),
   fun e e2 => (h.p17 e e2).free hg hB,
   fun e e2 => (h.p18 e e2),
   fun e e2 => (h.p19 e e2),
   fun e e2 => (h.p20 e e2).free hg hB,
   fun e e2 => (h.p21 e e2),
   fun e e2 => (h.p22 e e2),
   fun e e2 => (let ⟨k, q, x, y, h1, h2, h3⟩ := (h.p23 e e2); ⟨k, q, x, y, h1, h2.free hg hB, h3.free hg hB⟩),
   fun e e2 => (let ⟨T, h1, h2, h3⟩ := (h.p24 e e2); ⟨T, h1, h2, h3.free hg (by omega)⟩),
   fun e => (by rw [hl] at e; cases e)⟩
theorem FI.up0 {g : Nat} {A : Option Addr} {n c K B : Nat} {w0 : World} {d : Nat → Bool} {u6 u7 u8 u9 u10 u11 u12 u13 u14 u15 u16 u17 u18 u19 u20 u21 u22 u23 u24 u25 u26 u27 u28 u29 u5 v : Value} {w : World} (h : FI g A n c K B w0 d u6 u7 u8 u9 u10 u11 u12 u13 u14 u15 u16 u17 u18 u19 u20 u21 u22 u23 u24 u25 u26 u27 u28 u29 u5 w) (hl : d 25 = false) (hp : Owns IntE w B v [1]) : FI g A n c K B w0 (updB d 0) v u7 u8 u9 u10 u11 u12 u13 u14 u15 u16 u17 u18 u19 u20 u21 u22 u23 u24 u25 u26 u27 u28 u29 u5 w :=
  ⟨h.gr,
   fun e j hj => updB_true (h.ord (by rw [updB_ne (by decide)] at e; exact e) j hj),
   fun _ _ => hp,
   fun e e2 => h.p1 (by rw [updB_ne (by decide)] at e; exact e) (by rw [updB_ne (by decide)] at e2; exact e2),
   fun e e2 => h.p2 (by rw [updB_ne (by decide)] at e; exact e) (by rw [updB_ne (by decide)] at e2; exact e2),
   fun e e2 => h.p3 (by rw [updB_ne (by decide)] at e; exact e) (by rw [updB_ne (by decide)] at e2; exact e2),
   fun e e2 => h.p4 (by rw [updB_ne (by decide)] at e; exact e) (by rw [updB_ne (by decide)] at e2; exact e2),
   fun e e2 => h.p5 (by rw [updB_ne (by decide)] at e; exact e) (by rw [updB_ne (by decide)] at e2; exact e2),
   fun e e2 => h.p6 (by rw [updB_ne (by decide)] at e; exact e) (by rw [updB_ne (by decide)] at e2; exact e2),
   fun e e2 => h.p7 (by rw [updB_ne (by decide)] at e; exact e) (by rw [updB_ne (by decide)] at e2; exact e2),
   fun e e2 => h.p8 (by rw [updB_ne (by decide)] at e; exact e) (by rw [updB_ne (by decide)] at e2; exact e2),
   fun e e2 => h.p9 (by rw [updB_ne (by decide)] at e; exact e) (by rw [updB_ne (by decide)] at e2; exact e2),
   fun e e2 => h.p10 (by rw [updB_ne (by decide)] at e; exact e) (by rw [updB_ne (by decide)] at e2; exact e2),
   fun e e2 => h.p11 (by rw [updB_ne (by decide)] at e; exact e) (by rw [updB_ne (by decide)] at e2; exact e2),
   fun e e2 => h.p12 (by rw [updB_ne (by decide)] at e; exact e) (by rw [updB_ne (by decide)] at e2; exact e2),
   fun e e2 => h.p13 (by rw [updB_ne (by decide)] at e; exact e) (by rw [updB_ne (by decide)] at e2; exact e2),
   fun e e2 => h.p14 (by rw [updB_ne (by decide)] at e; exact e) (by rw [updB_ne (by decide)] at e2; exact e2),
   fun e e2 => h.p15 (by rw [updB_ne (by decide)] at e; exact e) (by rw [updB_ne (by decide)] at e2; exact e2),
   fun e e2 => h.p16 (by rw [updB_ne (by decide)] at e; exact e) (by rw [updB_ne (by decide)] at e2; exact e2),
   fun e e2 => h.p17 (by rw [updB_ne (by decide)] at e; exact e) (by rw [updB_ne (by decide)] at e2; exact e2),
   fun e e2 => h.p18 (by rw [updB_ne (by decide)] at e; exact e) (by rw [updB_ne (by decide)] at e2; exact e2),
   fun e e2 => h.p19 (by rw [updB_ne (by decide)] at e; exact e) (by rw [updB_ne (by decide)] at e2; exact e2),
   fun e e2 => h.p20 (by rw [updB_ne (by decide)] at e; exact e) (by rw [updB_ne (by decide)] at e2; exact e2),
   fun e e2 => h.p21 (by rw [updB_ne (by decide)] at e; exact e) (by rw [updB_ne (by decide)] at e2; exact e2),
   fun e e2 => h.p22 (by rw [updB_ne (by decide)] at e; exact e) (by rw [updB_ne (by decide)] at e2; exact e2),
   fun e e2 => h.p23 (by rw [updB_ne (by decide)] at e; exact e) (by rw [updB_ne (by decide)] at e2; exact e2),
   fun e e2 => h.p24 (by rw [updB_ne (by decide)] at e; exact e) (by rw [updB_ne (by decide)] at e2; exact e2),
   fun e => (by rw [updB_ne (by decide), hl] at e; cases e)⟩
theorem FI.up1 {g : Nat} {A : Option Addr} {n c K B : Nat} {w0 : World} {d : Nat → Bool} {u6 u7 u8 u9 u10 u11 u12 u13 u14 u15 u16 u17 u18 u19 u20 u21 u22 u23 u24 u25 u26 u27 u28 u29 u5 v : Value} {w : World} (h : FI g A n c K B w0 d u6 u7 u8 u9 u10 u11 u12 u13 u14 u15 u16 u17 u18 u19 u20 u21 u22 u23 u24 u25 u26 u27 u28 u29 u5 w) (hl : d 25 = false) (hp : Owns IntE w B v [1, 2]) : FI g A n c K B w0 (updB d 1) u6 v u8 u9 u10 u11 u12 u13 u14 u15 u16 u17 u18 u19 u20 u21 u22 u23 u24 u25 u26 u27 u28 u29 u5 w :=
  ⟨h.gr,
   fun e j hj => updB_true (h.ord (by rw [updB_ne (by decide)] at e; exact e) j hj),
   fun e e2 => h.p0 (by rw [updB_ne (by decide)] at e; exact e) (by rw [updB_ne (by decide)] at e2; exact e2),
   fun _ _ => hp,
   fun e e2 => h.p2 (by rw [updB_ne (by decide)] at e; exact e) (by rw [updB_ne (by decide)] at e2; exact e2),
   fun e e2 => h.p3 (by rw [updB_ne (by decide)] at e; exact e) (by rw [updB_ne (by decide)] at e2; exact e2),
   fun e e2 => h.p4 (by rw [updB_ne (by decide)] at e; exact e) (by rw [updB_ne (by decide)] at e2; exact e2),
   fun e e2 => h.p5 (by rw [updB_ne (by decide)] at e; exact e) (by rw [updB_ne (by decide)] at e2; exact e2),
   fun e e2 => h.p6 (by rw [updB_ne (by decide)] at e; exact e) (by rw [updB_ne (by decide)] at e2; exact e2),
   fun e e2 => h.p7 (by rw [updB_ne (by decide)] at e; exact e) (by rw [updB_ne (by decide)] at e2; exact e2),
   fun e e2 => h.p8 (by rw [updB_ne (by decide)] at e; exact e) (by rw [updB_ne (by decide)] at e2; exact e2),
   fun e e2 => h.p9 (by rw [updB_ne (by decide)] at e; exact e) (by rw [updB_ne (by decide)] at e2; exact e2),
   fun e e2 => h.p10 (by rw [updB_ne (by decide)] at e; exact e) (by rw [updB_ne (by decide)] at e2; exact e2),
   fun e e2 => h.p11 (by rw [updB_ne (by decide)] at e; exact e) (by rw [updB_ne (by decide)] at e2; exact e2),
   fun e e2 => h.p12 (by rw [updB_ne (by decide)] at e; exact e) (by rw [updB_ne (by decide)] at e2; exact e2),
   fun e e2 => h.p13 (by rw [updB_ne (by decide)] at e; exact e) (by rw [updB_ne (by decide)] at e2; exact e2),
   fun e e2 => h.p14 (by rw [updB_ne (by decide)] at e; exact e) (by rw [updB_ne (by decide)] at e2; exact e2),
   fun e e2 => h.p15 (by rw [updB_ne (by decide)] at e; exact e) (by rw [updB_ne (by decide)] at e2; exact e2),
   fun e e2 => h.p16 (by rw [updB_ne (by decide)] at e; exact e) (by rw [updB_ne (by decide)] at e2; exact e2),
   fun e e2 => h.p17 (by rw [updB_ne (by decide)] at e; exact e) (by rw [updB_ne (by decide)] at e2; exact e2),
   fun e e2 => h.p18 (by rw [updB_ne (by decide)] at e; exact e) (by rw [updB_ne (by decide)] at e2; exact e2),
   fun e e2 => h.p19 (by rw [updB_ne (by decide)] at e; exact e) (by rw [updB_ne (by decide)] at e2; exact e2),
   fun e e2 => h.p20 (by rw [updB_ne (by decide)] at e; exact e) (by rw [updB_ne (by decide)] at e2; exact e2),
   fun e e2 => h.p21 (by rw [updB_ne (by decide)] at e; exact e) (by rw [updB_ne (by decide)] at e2; exact e2),
   fun e e2 => h.p22 (by rw [updB_ne (by decide)] at e; exact e) (by rw [updB_ne (by decide)] at e2; exact e2),
   fun e e2 => h.p23 (by rw [updB_ne (by decide)] at e; exact e) (by rw [updB_ne (by decide)] at e2; exact e2),
   fun e e2 => h.p24 (by rw [updB_ne (by decide)] at e; exact e) (by rw [updB_ne (by decide)] at e2; exact e2),
   fun e => (by rw [updB_ne (by decide), hl] at e; cases e)⟩
theorem FI.up2 {g : Nat} {A : Option Addr} {n c K B : Nat} {w0 : World} {d : Nat → Bool} {u6 u7 u8 u9 u10 u11 u12 u13 u14 u15 u16 u17 u18 u19 u20 u21 u22 u23 u24 u25 u26 u27 u28 u29 u5 v : Value} {w : World} (h : FI g A n c K B w0 d u6 u7 u8 u9 u10 u11 u12 u13 u14 u15 u16 u17 u18 u19 u20 u21 u22 u23 u24 u25 u26 u27 u28 u29 u5 w) (hl : d 25 = false) (hp : Owns IntE w B v [3]) : FI g A n c K B w0 (updB d 2) u6 u7 v u9 u10 u11 u12 u13 u14 u15 u16 u17 u18 u19 u20 u21 u22 u23 u24 u25 u26 u27 u28 u29 u5 w :=
  ⟨h.gr,
   fun e j hj => updB_true (h.ord (by rw [updB_ne (by decide)] at e; exact e) j hj),
   fun e e2 => h.p0 (by rw [updB_ne (by decide)] at e; exact e) (by rw [updB_ne (by decide)] at e2; exact e2),
   fun e e2 => h.p1 (by rw [updB_ne (by decide)] at e; exact e) (by rw [updB_ne (by decide)] at e2; exact e2),
   fun _ _ => hp,
   fun e e2 => h.p3 (by rw [updB_ne (by decide)] at e; exact e) (by rw [updB_ne (by decide)] at e2; exact e2),
   fun e e2 => h.p4 (by rw [updB_ne (by decide)] at e; exact e) (by rw [updB_ne (by decide)] at e2; exact e2),
   fun e e2 => h.p5 (by rw [updB_ne (by decide)] at e; exact e) (by rw [updB_ne (by decide)] at e2; exact e2),
   fun e e2 => h.p6 (by rw [updB_ne (by decide)] at e; exact e) (by rw [updB_ne (by decide)] at e2; exact e2),
   fun e e2 => h.p7 (by rw [updB_ne (by decide)] at e; exact e) (by rw [updB_ne (by decide)] at e2; exact e2),
   fun e e2 => h.p8 (by rw [updB_ne (by decide)] at e; exact e) (by rw [updB_ne (by decide)] at e2; exact e2),
   fun e e2 => h.p9 (by rw [updB_ne (by decide)] at e; exact e) (by rw [updB_ne (by decide)] at e2; exact e2),
   fun e e2 => h.p10 (by rw [updB_ne (by decide)] at e; exact e) (by rw [updB_ne (by decide)] at e2; exact e2),
   fun e e2 => h.p11 (by rw [updB_ne (by decide)] at e; exact e) (by rw [updB_ne (by decide)] at e2; exact e2),
   fun e e2 => h.p12 (by rw [updB_ne (by decide)] at e; exact e) (by rw [updB_ne (by decide)] at e2; exact e2),
   fun e e2 => h.p13 (by rw [updB_ne (by decide)] at e; exact e) (by rw [updB_ne (by decide)] at e2; exact e2),
   fun e e2 => h.p14 (by rw [updB_ne (by decide)] at e; exact e) (by rw [updB_ne (by decide)] at e2; exact e2),
   fun e e2 => h.p15 (by rw [updB_ne (by decide)] at e; exact e) (by rw [updB_ne (by decide)] at e2; exact e2),
   fun e e2 => h.p16 (by rw [updB_ne (by decide)] at e; exact e) (by rw [updB_ne (by decide)] at e2; exact e2),
   fun e e2 => h.p17 (by rw [updB_ne (by decide)] at e; exact e) (by rw [updB_ne (by decide)] at e2; exact e2),
   fun e e2 => h.p18 (by rw [updB_ne (by decide)] at e; exact e) (by rw [updB_ne (by decide)] at e2; exact e2),
   fun e e2 => h.p19 (by rw [updB_ne (by decide)] at e; exact e) (by rw [updB_ne (by decide)] at e2; exact e2),
   fun e e2 => h.p20 (by rw [updB_ne (by decide)] at e; exact e) (by rw [updB_ne (by decide)] at e2; exact e2),
   fun e e2 => h.p21 (by rw [updB_ne (by decide)] at e; exact e) (by rw [updB_ne (by decide)] at e2; exact e2),
   fun e e2 => h.p22 (by rw [updB_ne (by decide)] at e; exact e) (by rw [updB_ne (by decide)] at e2; exact e2),
   fun e e2 => h.p23 (by rw [updB_ne (by decide)] at e; exact e) (by rw [updB_ne (by decide)] at e2; exact e2),
   fun e e2 => h.p24 (by rw [updB_ne (by decide)] at e; exact e) (by rw [updB_ne (by decide)] at e2; exact e2),
   fun e => (by rw [updB_ne (by decide), hl] at e; cases e)⟩
theorem FI.up3 {g : Nat} {A : Option Addr} {n c K B : Nat} {w0 : World} {d : Nat → Bool} {u6 u7 u8 u9 u10 u11 u12 u13 u14 u15 u16 u17 u18 u19 u20 u21 u22 u23 u24 u25 u26 u27 u28 u29 u5 v : Value} {w : World} (h : FI g A n c K B w0 d u6 u7 u8 u9 u10 u11 u12 u13 u14 u15 u16 u17 u18 u19 u20 u21 u22 u23 u24 u25 u26 u27 u28 u29 u5 w) (hl : d 25 = false) (hp : Owns IntE w B v [2, 4]) : FI g A n c K B w0 (updB d 3) u6 u7 u8 v u10 u11 u12 u13 u14 u15 u16 u17 u18 u19 u20 u21 u22 u23 u24 u25 u26 u27 u28 u29 u5 w :=
  ⟨h.gr,
   fun e j hj => updB_true (h.ord (by rw [updB_ne (by decide)] at e; exact e) j hj),
   fun e e2 => h.p0 (by rw [updB_ne (by decide)] at e; exact e) (by rw [updB_ne (by decide)] at e2; exact e2),
   fun e e2 => h.p1 (by rw [updB_ne (by decide)] at e; exact e) (by rw [updB_ne (by decide)] at e2; exact e2),
   fun e e2 => h.p2 (by rw [updB_ne (by decide)] at e; exact e) (by rw [updB_ne (by decide)] at e2; exact e2),
   fun _ _ => hp,
   fun e e2 => h.p4 (by rw [updB_ne (by decide)] at e; exact e) (by rw [updB_ne (by decide)] at e2; exact e2),
   fun e e2 => h.p5 (by rw [updB_ne (by decide)] at e; exact e) (by rw [updB_ne (by decide)] at e2; exact e2),
   fun e e2 => h.p6 (by rw [updB_ne (by decide)] at e; exact e) (by rw [updB_ne (by decide)] at e2; exact e2),
   fun e e2 => h.p7 (by rw [updB_ne (by decide)] at e; exact e) (by rw [updB_ne (by decide)] at e2; exact e2),
   fun e e2 => h.p8 (by rw [updB_ne (by decide)] at e; exact e) (by rw [updB_ne (by decide)] at e2; exact e2),
   fun e e2 => h.p9 (by rw [updB_ne (by decide)] at e; exact e) (by rw [updB_ne (by decide)] at e2; exact e2),
   fun e e2 => h.p10 (by rw [updB_ne (by decide)] at e; exact e) (by rw [updB_ne (by decide)] at e2; exact e2),
   fun e e2 => h.p11 (by rw [updB_ne (by decide)] at e; exact e) (by rw [updB_ne (by decide)] at e2; exact e2),
   fun e e2 => h.p12 (by rw [updB_ne (by decide)] at e; exact e) (by rw [updB_ne (by decide)] at e2; exact e2),
   fun e e2 => h.p13 (by rw [updB_ne (by decide)] at e; exact e) (by rw [updB_ne (by decide)] at e2; exact e2),
   fun e e2 => h.p14 (by rw [updB_ne (by decide)] at e; exact e) (by rw [updB_ne (by decide)] at e2; exact e2),
   fun e e2 => h.p15 (by rw [updB_ne (by decide)] at e; exact e) (by rw [updB_ne (by decide)] at e2; exact e2),
   fun e e2 => h.p16 (by rw [updB_ne (by decide)] at e; exact e) (by rw [updB_ne (by decide)] at e2; exact e2),
   fun e e2 => h.p17 (by rw [updB_ne (by decide)] at e; exact e) (by rw [updB_ne (by decide)] at e2; exact e2),
   fun e e2 => h.p18 (by rw [updB_ne (by decide)] at e; exact e) (by rw [updB_ne (by decide)] at e2; exact e2),
   fun e e2 => h.p19 (by rw [updB_ne (by decide)] at e; exact e) (by rw [updB_ne (by decide)] at e2; exact e2),
   fun e e2 => h.p20 (by rw [updB_ne (by decide)] at e; exact e) (by rw [updB_ne (by decide)] at e2; exact e2),
   fun e e2 => h.p21 (by rw [updB_ne (by decide)] at e; exact e) (by rw [updB_ne (by decide)] at e2; exact e2),
   fun e e2 => h.p22 (by rw [updB_ne (by decide)] at e; exact e) (by rw [updB_ne (by decide)] at e2; exact e2),
   fun e e2 => h.p23 (by rw [updB_ne (by decide)] at e; exact e) (by rw [updB_ne (by decide)] at e2; exact e2),
   fun e e2 => h.p24 (by rw [updB_ne (by decide)] at e; exact e) (by rw [updB_ne (by decide)] at e2; exact e2),
   fun e => (by rw [updB_ne (by decide), hl] at e; cases e)⟩
theorem FI.up4 {g : Nat} {A : Option Addr} {n c K B : Nat} {w0 : World} {d : Nat → Bool} {u6 u7 u8 u9 u10 u11 u12 u13 u14 u15 u16 u17 u18 u19 u20 u21 u22 u23 u24 u25 u26 u27 u28 u29 u5 v : Value} {w : World} (h : FI g A n c K B w0 d u6 u7 u8 u9 u10 u11 u12 u13 u14 u15 u16 u17 u18 u19 u20 u21 u22 u23 u24 u25 u26 u27 u28 u29 u5 w) (hl : d 25 = false) (hp : TabP IntE 22 w B v [[], [1], [1, 2], [3], [2, 4]]) : FI g A n c K B w0 (updB d 4) u6 u7 u8 u9 v u11 u12 u13 u14 u15 u16 u17 u18 u19 u20 u21 u22 u23 u24 u25 u26 u27 u28 u29 u5 w :=
  ⟨h.gr,
   fun e j hj => updB_true (h.ord (by rw [updB_ne (by decide)] at e; exact e) j hj),
   fun e e2 => h.p0 (by rw [updB_ne (by decide)] at e; exact e) (by rw [updB_ne (by decide)] at e2; exact e2),
   fun e e2 => h.p1 (by rw [updB_ne (by decide)] at e; exact e) (by rw [updB_ne (by decide)] at e2; exact e2),
   fun e e2 => h.p2 (by rw [updB_ne (by decide)] at e; exact e) (by rw [updB_ne (by decide)] at e2; exact e2),
   fun e e2 => h.p3 (by rw [updB_ne (by decide)] at e; exact e) (by rw [updB_ne (by decide)] at e2; exact e2),
   fun _ _ => hp,
   fun e e2 => h.p5 (by rw [updB_ne (by decide)] at e; exact e) (by rw [updB_ne (by decide)] at e2; exact e2),
   fun e e2 => h.p6 (by rw [updB_ne (by decide)] at e; exact e) (by rw [updB_ne (by decide)] at e2; exact e2),
   fun e e2 => h.p7 (by rw [updB_ne (by decide)] at e; exact e) (by rw [updB_ne (by decide)] at e2; exact e2),
   fun e e2 => h.p8 (by rw [updB_ne (by decide)] at e; exact e) (by rw [updB_ne (by decide)] at e2; exact e2),
   fun e e2 => h.p9 (by rw [updB_ne (by decide)] at e; exact e) (by rw [updB_ne (by decide)] at e2; exact e2),
   fun e e2 => h.p10 (by rw [updB_ne (by decide)] at e; exact e) (by rw [updB_ne (by decide)] at e2; exact e2),
   fun e e2 => h.p11 (by rw [updB_ne (by decide)] at e; exact e) (by rw [updB_ne (by decide)] at e2; exact e2),
   fun e e2 => h.p12 (by rw [updB_ne (by decide)] at e; exact e) (by rw [updB_ne (by decide)] at e2; exact e2),
   fun e e2 => h.p13 (by rw [updB_ne (by decide)] at e; exact e) (by rw [updB_ne (by decide)] at e2; exact e2),
   fun e e2 => h.p14 (by rw [updB_ne (by decide)] at e; exact e) (by rw [updB_ne (by decide)] at e2; exact e2),
   fun e e2 => h.p15 (by rw [updB_ne (by decide)] at e; exact e) (by rw [updB_ne (by decide)] at e2; exact e2),
   fun e e2 => h.p16 (by rw [updB_ne (by decide)] at e; exact e) (by rw [updB_ne (by decide)] at e2; exact e2),
   fun e e2 => h.p17 (by rw [updB_ne (by decide)] at e; exact e) (by rw [updB_ne (by decide)] at e2; exact e2),
   fun e e2 => h.p18 (by rw [updB_ne (by decide)] at e; exact e) (by rw [updB_ne (by decide)] at e2; exact e2),
   fun e e2 => h.p19 (by rw [updB_ne (by decide)] at e; exact e) (by rw [updB_ne (by decide)] at e2; exact e2),
   fun e e2 => h.p20 (by rw [updB_ne (by decide)] at e; exact e) (by rw [updB_ne (by decide)] at e2; exact e2),
   fun e e2 => h.p21 (by rw [updB_ne (by decide)] at e; exact e) (by rw [updB_ne (by decide)] at e2; exact e2),
   fun e e2 => h.p22 (by rw [updB_ne (by decide)] at e; exact e) (by rw [updB_ne (by decide)] at e2; exact e2),
   fun e e2 => h.p23 (by rw [updB_ne (by decide)] at e; exact e) (by rw [updB_ne (by decide)] at e2; exact e2),
   fun e e2 => h.p24 (by rw [updB_ne (by decide)] at e; exact e) (by rw [updB_ne (by decide)] at e2; exact e2),
   fun e => (by rw [updB_ne (by decide), hl] at e; cases e)⟩
theorem FI.up5 {g : Nat} {A : Option Addr} {n c K B : Nat} {w0 : World} {d : Nat → Bool} {u6 u7 u8 u9 u10 u11 u12 u13 u14 u15 u16 u17 u18 u19 u20 u21 u22 u23 u24 u25 u26 u27 u28 u29 u5 v : Value} {w : World} (h : FI g A n c K B w0 d u6 u7 u8 u9 u10 u11 u12 u13 u14 u15 u16 u17 u18 u19 u20 u21 u22 u23 u24 u25 u26 u27 u28 u29 u5 w) (hl : d 25 = false) (hp : v = .pointer (some ⟨g, 0, none⟩)) : FI g A n c K B w0 (updB d 5) u6 u7 u8 u9 u10 v u12 u13 u14 u15 u16 u17 u18 u19 u20 u21 u22 u23 u24 u25 u26 u27 u28 u29 u5 w :=
  ⟨h.gr,
   fun e j hj => updB_true (h.ord (by rw [updB_ne (by decide)] at e; exact e) j hj),
   fun e e2 => h.p0 (by rw [updB_ne (by decide)] at e; exact e) (by rw [updB_ne (by decide)] at e2; exact e2),
   fun e e2 => h.p1 (by rw [updB_ne (by decide)] at e; exact e) (by rw [updB_ne (by decide)] at e2; exact e2),
   fun e e2 => h.p2 (by rw [updB_ne (by decide)] at e; exact e) (by rw [updB_ne (by decide)] at e2; exact e2),
   fun e e2 => h.p3 (by rw [updB_ne (by decide)] at e; exact e) (by rw [updB_ne (by decide)] at e2; exact e2),
   fun e e2 => h.p4 (by rw [updB_ne (by decide)] at e; exact e) (by rw [updB_ne (by decide)] at e2; exact e2),
   fun _ _ => hp,
   fun e e2 => h.p6 (by rw [updB_ne (by decide)] at e; exact e) (by rw [updB_ne (by decide)] at e2; exact e2),
   fun e e2 => h.p7 (by rw [updB_ne (by decide)] at e; exact e) (by rw [updB_ne (by decide)] at e2; exact e2),
   fun e e2 => h.p8 (by rw [updB_ne (by decide)] at e; exact e) (by rw [updB_ne (by decide)] at e2; exact e2),
   fun e e2 => h.p9 (by rw [updB_ne (by decide)] at e; exact e) (by rw [updB_ne (by decide)] at e2; exact e2),
   fun e e2 => h.p10 (by rw [updB_ne (by decide)] at e; exact e) (by rw [updB_ne (by decide)] at e2; exact e2),
   fun e e2 => h.p11 (by rw [updB_ne (by decide)] at e; exact e) (by rw [updB_ne (by decide)] at e2; exact e2),
   fun e e2 => h.p12 (by rw [updB_ne (by decide)] at e; exact e) (by rw [updB_ne (by decide)] at e2; exact e2),
   fun e e2 => h.p13 (by rw [updB_ne (by decide)] at e; exact e) (by rw [updB_ne (by decide)] at e2; exact e2),
   fun e e2 => h.p14 (by rw [updB_ne (by decide)] at e; exact e) (by rw [updB_ne (by decide)] at e2; exact e2),
   fun e e2 => h.p15 (by rw [updB_ne (by decide)] at e; exact e) (by rw [updB_ne (by decide)] at e2; exact e2),
   fun e e2 => h.p16 (by rw [updB_ne (by decide)] at e; exact e) (by rw [updB_ne (by decide)] at e2; exact e2),
   fun e e2 => h.p17 (by rw [updB_ne (by decide)] at e; exact e) (by rw [updB_ne (by decide)] at e2; exact e2),
   fun e e2 => h.p18 (by rw [updB_ne (by decide)] at e; exact e) (by rw [updB_ne (by decide)] at e2; exact e2),
   fun e e2 => h.p19 (by rw [updB_ne (by decide)] at e; exact e) (by rw [updB_ne (by decide)] at e2; exact e2),
   fun e e2 => h.p20 (by rw [updB_ne (by decide)] at e; exact e) (by rw [updB_ne (by decide)] at e2; exact e2),
   fun e e2 => h.p21 (by rw [updB_ne (by decide)] at e; exact e) (by rw [updB_ne (by decide)] at e2; exact e2),
   fun e e2 => h.p22 (by rw [updB_ne (by decide)] at e; exact e) (by rw [updB_ne (by decide)] at e2; exact e2),
   fun e e2 => h.p23 (by rw [updB_ne (by decide)] at e; exact e) (by rw [updB_ne (by decide)] at e2; exact e2),
   fun e e2 => h.p24 (by rw [updB_ne (by decide)] at e; exact e) (by rw [updB_ne (by decide)] at e2; exact e2),
   fun e => (by rw [updB_ne (by decide), hl] at e; cases e)⟩
theorem FI.up6 {g : Nat} {A : Option Addr} {n c K B : Nat} {w0 : World} {d : Nat → Bool} {u6 u7 u8 u9 u10 u11 u12 u13 u14 u15 u16 u17 u18 u19 u20 u21 u22 u23 u24 u25 u26 u27 u28 u29 u5 v : Value} {w : World} (h : FI g A n c K B w0 d u6 u7 u8 u9 u10 u11 u12 u13 u14 u15 u16 u17 u18 u19 u20 u21 u22 u23 u24 u25 u26 u27 u28 u29 u5 w) (hl : d 25 = false) (hp : NatP v 5) : FI g A n c K B w0 (updB d 6) u6 u7 u8 u9 u10 u11 v u13 u14 u15 u16 u17 u18 u19 u20 u21 u22 u23 u24 u25 u26 u27 u28 u29 u5 w :=
  ⟨h.gr,
   fun e j hj => updB_true (h.ord (by rw [updB_ne (by decide)] at e; exact e) j hj),
   fun e e2 => h.p0 (by rw [updB_ne (by decide)] at e; exact e) (by rw [updB_ne (by decide)] at e2; exact e2),
   fun e e2 => h.p1 (by rw [updB_ne (by decide)] at e; exact e) (by rw [updB_ne (by decide)] at e2; exact e2),
   fun e e2 => h.p2 (by rw [updB_ne (by decide)] at e; exact e) (by rw [updB_ne (by decide)] at e2; exact e2),
   fun e e2 => h.p3 (by rw [updB_ne (by decide)] at e; exact e) (by rw [updB_ne (by decide)] at e2; exact e2),
   fun e e2 => h.p4 (by rw [updB_ne (by decide)] at e; exact e) (by rw [updB_ne (by decide)] at e2; exact e2),
   fun e e2 => h.p5 (by rw [updB_ne (by decide)] at e; exact e) (by rw [updB_ne (by decide)] at e2; exact e2),
   fun _ _ => hp,
   fun e e2 => h.p7 (by rw [updB_ne (by decide)] at e; exact e) (by rw [updB_ne (by decide)] at e2; exact e2),
   fun e e2 => h.p8 (by rw [updB_ne (by decide)] at e; exact e) (by rw [updB_ne (by decide)] at e2; exact e2),
   fun e e2 => h.p9 (by rw [updB_ne (by decide)] at e; exact e) (by rw [updB_ne (by decide)] at e2; exact e2),
   fun e e2 => h.p10 (by rw [updB_ne (by decide)] at e; exact e) (by rw [updB_ne (by decide)] at e2; exact e2),
   fun e e2 => h.p11 (by rw [updB_ne (by decide)] at e; exact e) (by rw [updB_ne (by decide)] at e2; exact e2),
   fun e e2 => h.p12 (by rw [updB_ne (by decide)] at e; exact e) (by rw [updB_ne (by decide)] at e2; exact e2),
   fun e e2 => h.p13 (by rw [updB_ne (by decide)] at e; exact e) (by rw [updB_ne (by decide)] at e2; exact e2),
   fun e e2 => h.p14 (by rw [updB_ne (by decide)] at e; exact e) (by rw [updB_ne (by decide)] at e2; exact e2),
   fun e e2 => h.p15 (by rw [updB_ne (by decide)] at e; exact e) (by rw [updB_ne (by decide)] at e2; exact e2),
   fun e e2 => h.p16 (by rw [updB_ne (by decide)] at e; exact e) (by rw [updB_ne (by decide)] at e2; exact e2),
   fun e e2 => h.p17 (by rw [updB_ne (by decide)] at e; exact e) (by rw [updB_ne (by decide)] at e2; exact e2),
   fun e e2 => h.p18 (by rw [updB_ne (by decide)] at e; exact e) (by rw [updB_ne (by decide)] at e2; exact e2),
   fun e e2 => h.p19 (by rw [updB_ne (by decide)] at e; exact e) (by rw [updB_ne (by decide)] at e2; exact e2),
   fun e e2 => h.p20 (by rw [updB_ne (by decide)] at e; exact e) (by rw [updB_ne (by decide)] at e2; exact e2),
   fun e e2 => h.p21 (by rw [updB_ne (by decide)] at e; exact e) (by rw [updB_ne (by decide)] at e2; exact e2),
   fun e e2 => h.p22 (by rw [updB_ne (by decide)] at e; exact e) (by rw [updB_ne (by decide)] at e2; exact e2),
   fun e e2 => h.p23 (by rw [updB_ne (by decide)] at e; exact e) (by rw [updB_ne (by decide)] at e2; exact e2),
   fun e e2 => h.p24 (by rw [updB_ne (by decide)] at e; exact e) (by rw [updB_ne (by decide)] at e2; exact e2),
   fun e => (by rw [updB_ne (by decide), hl] at e; cases e)⟩
theorem FI.up7 {g : Nat} {A : Option Addr} {n c K B : Nat} {w0 : World} {d : Nat → Bool} {u6 u7 u8 u9 u10 u11 u12 u13 u14 u15 u16 u17 u18 u19 u20 u21 u22 u23 u24 u25 u26 u27 u28 u29 u5 v : Value} {w : World} (h : FI g A n c K B w0 d u6 u7 u8 u9 u10 u11 u12 u13 u14 u15 u16 u17 u18 u19 u20 u21 u22 u23 u24 u25 u26 u27 u28 u29 u5 w) (hl : d 25 = false) (hp : PtrP IntE w B v [[], [1], [1, 2], [3], [2, 4]]) : FI g A n c K B w0 (updB d 7) u6 u7 u8 u9 u10 u11 u12 v u14 u15 u16 u17 u18 u19 u20 u21 u22 u23 u24 u25 u26 u27 u28 u29 u5 w :=
  ⟨h.gr,
   fun e j hj => updB_true (h.ord (by rw [updB_ne (by decide)] at e; exact e) j hj),
   fun e e2 => h.p0 (by rw [updB_ne (by decide)] at e; exact e) (by rw [updB_ne (by decide)] at e2; exact e2),
   fun e e2 => h.p1 (by rw [updB_ne (by decide)] at e; exact e) (by rw [updB_ne (by decide)] at e2; exact e2),
   fun e e2 => h.p2 (by rw [updB_ne (by decide)] at e; exact e) (by rw [updB_ne (by decide)] at e2; exact e2),
   fun e e2 => h.p3 (by rw [updB_ne (by decide)] at e; exact e) (by rw [updB_ne (by decide)] at e2; exact e2),
   fun e e2 => h.p4 (by rw [updB_ne (by decide)] at e; exact e) (by rw [updB_ne (by decide)] at e2; exact e2),
   fun e e2 => h.p5 (by rw [updB_ne (by decide)] at e; exact e) (by rw [updB_ne (by decide)] at e2; exact e2),
   fun e e2 => h.p6 (by rw [updB_ne (by decide)] at e; exact e) (by rw [updB_ne (by decide)] at e2; exact e2),
   fun _ _ => hp,
   fun e e2 => h.p8 (by rw [updB_ne (by decide)] at e; exact e) (by rw [updB_ne (by decide)] at e2; exact e2),
   fun e e2 => h.p9 (by rw [updB_ne (by decide)] at e; exact e) (by rw [updB_ne (by decide)] at e2; exact e2),
   fun e e2 => h.p10 (by rw [updB_ne (by decide)] at e; exact e) (by rw [updB_ne (by decide)] at e2; exact e2),
   fun e e2 => h.p11 (by rw [updB_ne (by decide)] at e; exact e) (by rw [updB_ne (by decide)] at e2; exact e2),
   fun e e2 => h.p12 (by rw [updB_ne (by decide)] at e; exact e) (by rw [updB_ne (by decide)] at e2; exact e2),
   fun e e2 => h.p13 (by rw [updB_ne (by decide)] at e; exact e) (by rw [updB_ne (by decide)] at e2; exact e2),
   fun e e2 => h.p14 (by rw [updB_ne (by decide)] at e; exact e) (by rw [updB_ne (by decide)] at e2; exact e2),
   fun e e2 => h.p15 (by rw [updB_ne (by decide)] at e; exact e) (by rw [updB_ne (by decide)] at e2; exact e2),
   fun e e2 => h.p16 (by rw [updB_ne (by decide)] at e; exact e) (by rw [updB_ne (by decide)] at e2; exact e2),
   fun e e2 => h.p17 (by rw [updB_ne (by decide)] at e; exact e) (by rw [updB_ne (by decide)] at e2; exact e2),
   fun e e2 => h.p18 (by rw [updB_ne (by decide)] at e; exact e) (by rw [updB_ne (by decide)] at e2; exact e2),
   fun e e2 => h.p19 (by rw [updB_ne (by decide)] at e; exact e) (by rw [updB_ne (by decide)] at e2; exact e2),
   fun e e2 => h.p20 (by rw [updB_ne (by decide)] at e; exact e) (by rw [updB_ne (by decide)] at e2; exact e2),
   fun e e2 => h.p21 (by rw [updB_ne (by decide)] at e; exact e) (by rw [updB_ne (by decide)] at e2; exact e2),
   fun e e2 => h.p22 (by rw [updB_ne (by decide)] at e; exact e) (by rw [updB_ne (by decide)] at e2; exact e2),
   fun e e2 => h.p23 (by rw [updB_ne (by decide)] at e; exact e) (by rw [updB_ne (by decide)] at e2; exact e2),
   fun e e2 => h.p24 (by rw [updB_ne (by decide)] at e; exact e) (by rw [updB_ne (by decide)] at e2; exact e2),
   fun e => (by rw [updB_ne (by decide), hl] at e; cases e)⟩
theorem FI.up8 {g : Nat} {A : Option Addr} {n c K B : Nat} {w0 : World} {d : Nat → Bool} {u6 u7 u8 u9 u10 u11 u12 u13 u14 u15 u16 u17 u18 u19 u20 u21 u22 u23 u24 u25 u26 u27 u28 u29 u5 v : Value} {w : World} (h : FI g A n c K B w0 d u6 u7 u8 u9 u10 u11 u12 u13 u14 u15 u16 u17 u18 u19 u20 u21 u22 u23 u24 u25 u26 u27 u28 u29 u5 w) (hl : d 25 = false) (hp : LdP IntE w B v [[], [1], [1, 2], [3], [2, 4]]) : FI g A n c K B w0 (updB d 8) u6 u7 u8 u9 u10 u11 u12 u13 v u15 u16 u17 u18 u19 u20 u21 u22 u23 u24 u25 u26 u27 u28 u29 u5 w :=
  ⟨h.gr,
   fun e j hj => updB_true (h.ord (by rw [updB_ne (by decide)] at e; exact e) j hj),
   fun e e2 => h.p0 (by rw [updB_ne (by decide)] at e; exact e) (by rw [updB_ne (by decide)] at e2; exact e2),
   fun e e2 => h.p1 (by rw [updB_ne (by decide)] at e; exact e) (by rw [updB_ne (by decide)] at e2; exact e2),
   fun e e2 => h.p2 (by rw [updB_ne (by decide)] at e; exact e) (by rw [updB_ne (by decide)] at e2; exact e2),
   fun e e2 => h.p3 (by rw [updB_ne (by decide)] at e; exact e) (by rw [updB_ne (by decide)] at e2; exact e2),
   fun e e2 => h.p4 (by rw [updB_ne (by decide)] at e; exact e) (by rw [updB_ne (by decide)] at e2; exact e2),
   fun e e2 => h.p5 (by rw [updB_ne (by decide)] at e; exact e) (by rw [updB_ne (by decide)] at e2; exact e2),
   fun e e2 => h.p6 (by rw [updB_ne (by decide)] at e; exact e) (by rw [updB_ne (by decide)] at e2; exact e2),
   fun e e2 => h.p7 (by rw [updB_ne (by decide)] at e; exact e) (by rw [updB_ne (by decide)] at e2; exact e2),
   fun _ _ => hp,
   fun e e2 => h.p9 (by rw [updB_ne (by decide)] at e; exact e) (by rw [updB_ne (by decide)] at e2; exact e2),
   fun e e2 => h.p10 (by rw [updB_ne (by decide)] at e; exact e) (by rw [updB_ne (by decide)] at e2; exact e2),
   fun e e2 => h.p11 (by rw [updB_ne (by decide)] at e; exact e) (by rw [updB_ne (by decide)] at e2; exact e2),
   fun e e2 => h.p12 (by rw [updB_ne (by decide)] at e; exact e) (by rw [updB_ne (by decide)] at e2; exact e2),
   fun e e2 => h.p13 (by rw [updB_ne (by decide)] at e; exact e) (by rw [updB_ne (by decide)] at e2; exact e2),
   fun e e2 => h.p14 (by rw [updB_ne (by decide)] at e; exact e) (by rw [updB_ne (by decide)] at e2; exact e2),
   fun e e2 => h.p15 (by rw [updB_ne (by decide)] at e; exact e) (by rw [updB_ne (by decide)] at e2; exact e2),
   fun e e2 => h.p16 (by rw [updB_ne (by decide)] at e; exact e) (by rw [updB_ne (by decide)] at e2; exact e2),
   fun e e2 => h.p17 (by rw [updB_ne (by decide)] at e; exact e) (by rw [updB_ne (by decide)] at e2; exact e2),
   fun e e2 => h.p18 (by rw [updB_ne (by decide)] at e; exact e) (by rw [updB_ne (by decide)] at e2; exact e2),
   fun e e2 => h.p19 (by rw [updB_ne (by decide)] at e; exact e) (by rw [updB_ne (by decide)] at e2; exact e2),
   fun e e2 => h.p20 (by rw [updB_ne (by decide)] at e; exact e) (by rw [updB_ne (by decide)] at e2; exact e2),
   fun e e2 => h.p21 (by rw [updB_ne (by decide)] at e; exact e) (by rw [updB_ne (by decide)] at e2; exact e2),
   fun e e2 => h.p22 (by rw [updB_ne (by decide)] at e; exact e) (by rw [updB_ne (by decide)] at e2; exact e2),
   fun e e2 => h.p23 (by rw [updB_ne (by decide)] at e; exact e) (by rw [updB_ne (by decide)] at e2; exact e2),
   fun e e2 => h.p24 (by rw [updB_ne (by decide)] at e; exact e) (by rw [updB_ne (by decide)] at e2; exact e2),
   fun e => (by rw [updB_ne (by decide), hl] at e; cases e)⟩
theorem FI.up9 {g : Nat} {A : Option Addr} {n c K B : Nat} {w0 : World} {d : Nat → Bool} {u6 u7 u8 u9 u10 u11 u12 u13 u14 u15 u16 u17 u18 u19 u20 u21 u22 u23 u24 u25 u26 u27 u28 u29 u5 v : Value} {w : World} (h : FI g A n c K B w0 d u6 u7 u8 u9 u10 u11 u12 u13 u14 u15 u16 u17 u18 u19 u20 u21 u22 u23 u24 u25 u26 u27 u28 u29 u5 w) (hl : d 25 = false) (hp : OwnStrs w B v [[97, 110, 110]]) : FI g A n c K B w0 (updB d 9) u6 u7 u8 u9 u10 u11 u12 u13 u14 v u16 u17 u18 u19 u20 u21 u22 u23 u24 u25 u26 u27 u28 u29 u5 w :=
  ⟨h.gr,
   fun e j hj => updB_true (h.ord (by rw [updB_ne (by decide)] at e; exact e) j hj),
   fun e e2 => h.p0 (by rw [updB_ne (by decide)] at e; exact e) (by rw [updB_ne (by decide)] at e2; exact e2),
   fun e e2 => h.p1 (by rw [updB_ne (by decide)] at e; exact e) (by rw [updB_ne (by decide)] at e2; exact e2),
   fun e e2 => h.p2 (by rw [updB_ne (by decide)] at e; exact e) (by rw [updB_ne (by decide)] at e2; exact e2),
   fun e e2 => h.p3 (by rw [updB_ne (by decide)] at e; exact e) (by rw [updB_ne (by decide)] at e2; exact e2),
   fun e e2 => h.p4 (by rw [updB_ne (by decide)] at e; exact e) (by rw [updB_ne (by decide)] at e2; exact e2),
   fun e e2 => h.p5 (by rw [updB_ne (by decide)] at e; exact e) (by rw [updB_ne (by decide)] at e2; exact e2),
   fun e e2 => h.p6 (by rw [updB_ne (by decide)] at e; exact e) (by rw [updB_ne (by decide)] at e2; exact e2),
   fun e e2 => h.p7 (by rw [updB_ne (by decide)] at e; exact e) (by rw [updB_ne (by decide)] at e2; exact e2),
   fun e e2 => h.p8 (by rw [updB_ne (by decide)] at e; exact e) (by rw [updB_ne (by decide)] at e2; exact e2),
   fun _ _ => hp,
   fun e e2 => h.p10 (by rw [updB_ne (by decide)] at e; exact e) (by rw [updB_ne (by decide)] at e2; exact e2),
   fun e e2 => h.p11 (by rw [updB_ne (by decide)] at e; exact e) (by rw [updB_ne (by decide)] at e2; exact e2),
   fun e e2 => h.p12 (by rw [updB_ne (by decide)] at e; exact e) (by rw [updB_ne (by decide)] at e2; exact e2),
   fun e e2 => h.p13 (by rw [updB_ne (by decide)] at e; exact e) (by rw [updB_ne (by decide)] at e2; exact e2),
   fun e e2 => h.p14 (by rw [updB_ne (by decide)] at e; exact e) (by rw [updB_ne (by decide)] at e2; exact e2),
   fun e e2 => h.p15 (by rw [updB_ne (by decide)] at e; exact e) (by rw [updB_ne (by decide)] at e2; exact e2),
   fun e e2 => h.p16 (by rw [updB_ne (by decide)] at e; exact e) (by rw [updB_ne (by decide)] at e2; exact e2),
   fun e e2 => h.p17 (by rw [updB_ne (by decide)] at e; exact e) (by rw [updB_ne (by decide)] at e2; exact e2),
   fun e e2 => h.p18 (by rw [updB_ne (by decide)] at e; exact e) (by rw [updB_ne (by decide)] at e2; exact e2),
   fun e e2 => h.p19 (by rw [updB_ne (by decide)] at e; exact e) (by rw [updB_ne (by decide)] at e2; exact e2),
   fun e e2 => h.p20 (by rw [updB_ne (by decide)] at e; exact e) (by rw [updB_ne (by decide)] at e2; exact e2),
   fun e e2 => h.p21 (by rw [updB_ne (by decide)] at e; exact e) (by rw [updB_ne (by decide)] at e2; exact e2),
   fun e e2 => h.p22 (by rw [updB_ne (by decide)] at e; exact e) (by rw [updB_ne (by decide)] at e2; exact e2),
   fun e e2 => h.p23 (by rw [updB_ne (by decide)] at e; exact e) (by rw [updB_ne (by decide)] at e2; exact e2),
   fun e e2 => h.p24 (by rw [updB_ne (by decide)] at e; exact e) (by rw [updB_ne (by decide)] at e2; exact e2),
   fun e => (by rw [updB_ne (by decide), hl] at e; cases e)⟩
theorem FI.up10 {g : Nat} {A : Option Addr} {n c K B : Nat} {w0 : World} {d : Nat → Bool} {u6 u7 u8 u9 u10 u11 u12 u13 u14 u15 u16 u17 u18 u19 u20 u21 u22 u23 u24 u25 u26 u27 u28 u29 u5 v : Value} {w : World} (h : FI g A n c K B w0 d u6 u7 u8 u9 u10 u11 u12 u13 u14 u15 u16 u17 u18 u19 u20 u21 u22 u23 u24 u25 u26 u27 u28 u29 u5 w) (hl : d 25 = false) (hp : OwnStrs w B v [[97, 110, 110], [99, 105, 100]]) : FI g A n c K B w0 (updB d 10) u6 u7 u8 u9 u10 u11 u12 u13 u14 u15 v u17 u18 u19 u20 u21 u22 u23 u24 u25 u26 u27 u28 u29 u5 w :=
  ⟨h.gr,
   fun e j hj => updB_true (h.ord (by rw [updB_ne (by decide)] at e; exact e) j hj),
   fun e e2 => h.p0 (by rw [updB_ne (by decide)] at e; exact e) (by rw [updB_ne (by decide)] at e2; exact e2),
   fun e e2 => h.p1 (by rw [updB_ne (by decide)] at e; exact e) (by rw [updB_ne (by decide)] at e2; exact e2),
   fun e e2 => h.p2 (by rw [updB_ne (by decide)] at e; exact e) (by rw [updB_ne (by decide)] at e2; exact e2),
   fun e e2 => h.p3 (by rw [updB_ne (by decide)] at e; exact e) (by rw [updB_ne (by decide)] at e2; exact e2),
   fun e e2 => h.p4 (by rw [updB_ne (by decide)] at e; exact e) (by rw [updB_ne (by decide)] at e2; exact e2),
   fun e e2 => h.p5 (by rw [updB_ne (by decide)] at e; exact e) (by rw [updB_ne (by decide)] at e2; exact e2),
   fun e e2 => h.p6 (by rw [updB_ne (by decide)] at e; exact e) (by rw [updB_ne (by decide)] at e2; exact e2),
   fun e e2 => h.p7 (by rw [updB_ne (by decide)] at e; exact e) (by rw [updB_ne (by decide)] at e2; exact e2),
   fun e e2 => h.p8 (by rw [updB_ne (by decide)] at e; exact e) (by rw [updB_ne (by decide)] at e2; exact e2),
   fun e e2 => h.p9 (by rw [updB_ne (by decide)] at e; exact e) (by rw [updB_ne (by decide)] at e2; exact e2),
   fun _ _ => hp,
   fun e e2 => h.p11 (by rw [updB_ne (by decide)] at e; exact e) (by rw [updB_ne (by decide)] at e2; exact e2),
   fun e e2 => h.p12 (by rw [updB_ne (by decide)] at e; exact e) (by rw [updB_ne (by decide)] at e2; exact e2),
   fun e e2 => h.p13 (by rw [updB_ne (by decide)] at e; exact e) (by rw [updB_ne (by decide)] at e2; exact e2),
   fun e e2 => h.p14 (by rw [updB_ne (by decide)] at e; exact e) (by rw [updB_ne (by decide)] at e2; exact e2),
   fun e e2 => h.p15 (by rw [updB_ne (by decide)] at e; exact e) (by rw [updB_ne (by decide)] at e2; exact e2),
   fun e e2 => h.p16 (by rw [updB_ne (by decide)] at e; exact e) (by rw [updB_ne (by decide)] at e2; exact e2),
   fun e e2 => h.p17 (by rw [updB_ne (by decide)] at e; exact e) (by rw [updB_ne (by decide)] at e2; exact e2),
   fun e e2 => h.p18 (by rw [updB_ne (by decide)] at e; exact e) (by rw [updB_ne (by decide)] at e2; exact e2),
   fun e e2 => h.p19 (by rw [updB_ne (by decide)] at e; exact e) (by rw [updB_ne (by decide)] at e2; exact e2),
   fun e e2 => h.p20 (by rw [updB_ne (by decide)] at e; exact e) (by rw [updB_ne (by decide)] at e2; exact e2),
   fun e e2 => h.p21 (by rw [updB_ne (by decide)] at e; exact e) (by rw [updB_ne (by decide)] at e2; exact e2),
   fun e e2 => h.p22 (by rw [updB_ne (by decide)] at e; exact e) (by rw [updB_ne (by decide)] at e2; exact e2),
   fun e e2 => h.p23 (by rw [updB_ne (by decide)] at e; exact e) (by rw [updB_ne (by decide)] at e2; exact e2),
   fun e e2 => h.p24 (by rw [updB_ne (by decide)] at e; exact e) (by rw [updB_ne (by decide)] at e2; exact e2),
   fun e => (by rw [updB_ne (by decide), hl] at e; cases e)⟩
theorem FI.up11 {g : Nat} {A : Option Addr} {n c K B : Nat} {w0 : World} {d : Nat → Bool} {u6 u7 u8 u9 u10 u11 u12 u13 u14 u15 u16 u17 u18 u19 u20 u21 u22 u23 u24 u25 u26 u27 u28 u29 u5 v : Value} {w : World} (h : FI g A n c K B w0 d u6 u7 u8 u9 u10 u11 u12 u13 u14 u15 u16 u17 u18 u19 u20 u21 u22 u23 u24 u25 u26 u27 u28 u29 u5 w) (hl : d 25 = false) (hp : TabP StrE 29 w B v [[], [[97, 110, 110]], [[97, 110, 110], [99, 105, 100]]]) : FI g A n c K B w0 (updB d 11) u6 u7 u8 u9 u10 u11 u12 u13 u14 u15 u16 v u18 u19 u20 u21 u22 u23 u24 u25 u26 u27 u28 u29 u5 w :=
  ⟨h.gr,
   fun e j hj => updB_true (h.ord (by rw [updB_ne (by decide)] at e; exact e) j hj),
   fun e e2 => h.p0 (by rw [updB_ne (by decide)] at e; exact e) (by rw [updB_ne (by decide)] at e2; exact e2),
   fun e e2 => h.p1 (by rw [updB_ne (by decide)] at e; exact e) (by rw [updB_ne (by decide)] at e2; exact e2),
   fun e e2 => h.p2 (by rw [updB_ne (by decide)] at e; exact e) (by rw [updB_ne (by decide)] at e2; exact e2),
   fun e e2 => h.p3 (by rw [updB_ne (by decide)] at e; exact e) (by rw [updB_ne (by decide)] at e2; exact e2),
   fun e e2 => h.p4 (by rw [updB_ne (by decide)] at e; exact e) (by rw [updB_ne (by decide)] at e2; exact e2),
   fun e e2 => h.p5 (by rw [updB_ne (by decide)] at e; exact e) (by rw [updB_ne (by decide)] at e2; exact e2),
   fun e e2 => h.p6 (by rw [updB_ne (by decide)] at e; exact e) (by rw [updB_ne (by decide)] at e2; exact e2),
   fun e e2 => h.p7 (by rw [updB_ne (by decide)] at e; exact e) (by rw [updB_ne (by decide)] at e2; exact e2),
   fun e e2 => h.p8 (by rw [updB_ne (by decide)] at e; exact e) (by rw [updB_ne (by decide)] at e2; exact e2),
   fun e e2 => h.p9 (by rw [updB_ne (by decide)] at e; exact e) (by rw [updB_ne (by decide)] at e2; exact e2),
   fun e e2 => h.p10 (by rw [updB_ne (by decide)] at e; exact e) (by rw [updB_ne (by decide)] at e2; exact e2),
   fun _ _ => hp,
   fun e e2 => h.p12 (by rw [updB_ne (by decide)] at e; exact e) (by rw [updB_ne (by decide)] at e2; exact e2),
   fun e e2 => h.p13 (by rw [updB_ne (by decide)] at e; exact e) (by rw [updB_ne (by decide)] at e2; exact e2),
   fun e e2 => h.p14 (by rw [updB_ne (by decide)] at e; exact e) (by rw [updB_ne (by decide)] at e2; exact e2),
   fun e e2 => h.p15 (by rw [updB_ne (by decide)] at e; exact e) (by rw [updB_ne (by decide)] at e2; exact e2),
   fun e e2 => h.p16 (by rw [updB_ne (by decide)] at e; exact e) (by rw [updB_ne (by decide)] at e2; exact e2),
   fun e e2 => h.p17 (by rw [updB_ne (by decide)] at e; exact e) (by rw [updB_ne (by decide)] at e2; exact e2),
   fun e e2 => h.p18 (by rw [updB_ne (by decide)] at e; exact e) (by rw [updB_ne (by decide)] at e2; exact e2),
   fun e e2 => h.p19 (by rw [updB_ne (by decide)] at e; exact e) (by rw [updB_ne (by decide)] at e2; exact e2),
   fun e e2 => h.p20 (by rw [updB_ne (by decide)] at e; exact e) (by rw [updB_ne (by decide)] at e2; exact e2),
   fun e e2 => h.p21 (by rw [updB_ne (by decide)] at e; exact e) (by rw [updB_ne (by decide)] at e2; exact e2),
   fun e e2 => h.p22 (by rw [updB_ne (by decide)] at e; exact e) (by rw [updB_ne (by decide)] at e2; exact e2),
   fun e e2 => h.p23 (by rw [updB_ne (by decide)] at e; exact e) (by rw [updB_ne (by decide)] at e2; exact e2),
   fun e e2 => h.p24 (by rw [updB_ne (by decide)] at e; exact e) (by rw [updB_ne (by decide)] at e2; exact e2),
   fun e => (by rw [updB_ne (by decide), hl] at e; cases e)⟩
theorem FI.up12 {g : Nat} {A : Option Addr} {n c K B : Nat} {w0 : World} {d : Nat → Bool} {u6 u7 u8 u9 u10 u11 u12 u13 u14 u15 u16 u17 u18 u19 u20 u21 u22 u23 u24 u25 u26 u27 u28 u29 u5 v : Value} {w : World} (h : FI g A n c K B w0 d u6 u7 u8 u9 u10 u11 u12 u13 u14 u15 u16 u17 u18 u19 u20 u21 u22 u23 u24 u25 u26 u27 u28 u29 u5 w) (hl : d 25 = false) (hp : v = .pointer (some ⟨g, 0, none⟩)) : FI g A n c K B w0 (updB d 12) u6 u7 u8 u9 u10 u11 u12 u13 u14 u15 u16 u17 v u19 u20 u21 u22 u23 u24 u25 u26 u27 u28 u29 u5 w :=
  ⟨h.gr,
   fun e j hj => updB_true (h.ord (by rw [updB_ne (by decide)] at e; exact e) j hj),
   fun e e2 => h.p0 (by rw [updB_ne (by decide)] at e; exact e) (by rw [updB_ne (by decide)] at e2; exact e2),
   fun e e2 => h.p1 (by rw [updB_ne (by decide)] at e; exact e) (by rw [updB_ne (by decide)] at e2; exact e2),
   fun e e2 => h.p2 (by rw [updB_ne (by decide)] at e; exact e) (by rw [updB_ne (by decide)] at e2; exact e2),
   fun e e2 => h.p3 (by rw [updB_ne (by decide)] at e; exact e) (by rw [updB_ne (by decide)] at e2; exact e2),
   fun e e2 => h.p4 (by rw [updB_ne (by decide)] at e; exact e) (by rw [updB_ne (by decide)] at e2; exact e2),
   fun e e2 => h.p5 (by rw [updB_ne (by decide)] at e; exact e) (by rw [updB_ne (by decide)] at e2; exact e2),
   fun e e2 => h.p6 (by rw [updB_ne (by decide)] at e; exact e) (by rw [updB_ne (by decide)] at e2; exact e2),
   fun e e2 => h.p7 (by rw [updB_ne (by decide)] at e; exact e) (by rw [updB_ne (by decide)] at e2; exact e2),
   fun e e2 => h.p8 (by rw [updB_ne (by decide)] at e; exact e) (by rw [updB_ne (by decide)] at e2; exact e2),
   fun e e2 => h.p9 (by rw [updB_ne (by decide)] at e; exact e) (by rw [updB_ne (by decide)] at e2; exact e2),
   fun e e2 => h.p10 (by rw [updB_ne (by decide)] at e; exact e) (by rw [updB_ne (by decide)] at e2; exact e2),
   fun e e2 => h.p11 (by rw [updB_ne (by decide)] at e; exact e) (by rw [updB_ne (by decide)] at e2; exact e2),
   fun _ _ => hp,
   fun e e2 => h.p13 (by rw [updB_ne (by decide)] at e; exact e) (by rw [updB_ne (by decide)] at e2; exact e2),
   fun e e2 => h.p14 (by rw [updB_ne (by decide)] at e; exact e) (by rw [updB_ne (by decide)] at e2; exact e2),
   fun e e2 => h.p15 (by rw [updB_ne (by decide)] at e; exact e) (by rw [updB_ne (by decide)] at e2; exact e2),
   fun e e2 => h.p16 (by rw [updB_ne (by decide)] at e; exact e) (by rw [updB_ne (by decide)] at e2; exact e2),
   fun e e2 => h.p17 (by rw [updB_ne (by decide)] at e; exact e) (by rw [updB_ne (by decide)] at e2; exact e2),
   fun e e2 => h.p18 (by rw [updB_ne (by decide)] at e; exact e) (by rw [updB_ne (by decide)] at e2; exact e2),
   fun e e2 => h.p19 (by rw [updB_ne (by decide)] at e; exact e) (by rw [updB_ne (by decide)] at e2; exact e2),
   fun e e2 => h.p20 (by rw [updB_ne (by decide)] at e; exact e) (by rw [updB_ne (by decide)] at e2; exact e2),
   fun e e2 => h.p21 (by rw [updB_ne (by decide)] at e; exact e) (by rw [updB_ne (by decide)] at e2; exact e2),
   fun e e2 => h.p22 (by rw [updB_ne (by decide)] at e; exact e) (by rw [updB_ne (by decide)] at e2; exact e2),
   fun e e2 => h.p23 (by rw [updB_ne (by decide)] at e; exact e) (by rw [updB_ne (by decide)] at e2; exact e2),
   fun e e2 => h.p24 (by rw [updB_ne (by decide)] at e; exact e) (by rw [updB_ne (by decide)] at e2; exact e2),
   fun e => (by rw [updB_ne (by decide), hl] at e; cases e)⟩
theorem FI.up13 {g : Nat} {A : Option Addr} {n c K B : Nat} {w0 : World} {d : Nat → Bool} {u6 u7 u8 u9 u10 u11 u12 u13 u14 u15 u16 u17 u18 u19 u20 u21 u22 u23 u24 u25 u26 u27 u28 u29 u5 v : Value} {w : World} (h : FI g A n c K B w0 d u6 u7 u8 u9 u10 u11 u12 u13 u14 u15 u16 u17 u18 u19 u20 u21 u22 u23 u24 u25 u26 u27 u28 u29 u5 w) (hl : d 25 = false) (hp : NatP v 3) : FI g A n c K B w0 (updB d 13) u6 u7 u8 u9 u10 u11 u12 u13 u14 u15 u16 u17 u18 v u20 u21 u22 u23 u24 u25 u26 u27 u28 u29 u5 w :=
  ⟨h.gr,
   fun e j hj => updB_true (h.ord (by rw [updB_ne (by decide)] at e; exact e) j hj),
   fun e e2 => h.p0 (by rw [updB_ne (by decide)] at e; exact e) (by rw [updB_ne (by decide)] at e2; exact e2),
   fun e e2 => h.p1 (by rw [updB_ne (by decide)] at e; exact e) (by rw [updB_ne (by decide)] at e2; exact e2),
   fun e e2 => h.p2 (by rw [updB_ne (by decide)] at e; exact e) (by rw [updB_ne (by decide)] at e2; exact e2),
   fun e e2 => h.p3 (by rw [updB_ne (by decide)] at e; exact e) (by rw [updB_ne (by decide)] at e2; exact e2),
   fun e e2 => h.p4 (by rw [updB_ne (by decide)] at e; exact e) (by rw [updB_ne (by decide)] at e2; exact e2),
   fun e e2 => h.p5 (by rw [updB_ne (by decide)] at e; exact e) (by rw [updB_ne (by decide)] at e2; exact e2),
   fun e e2 => h.p6 (by rw [updB_ne (by decide)] at e; exact e) (by rw [updB_ne (by decide)] at e2; exact e2),
   fun e e2 => h.p7 (by rw [updB_ne (by decide)] at e; exact e) (by rw [updB_ne (by decide)] at e2; exact e2),
   fun e e2 => h.p8 (by rw [updB_ne (by decide)] at e; exact e) (by rw [updB_ne (by decide)] at e2; exact e2),
   fun e e2 => h.p9 (by rw [updB_ne (by decide)] at e; exact e) (by rw [updB_ne (by decide)] at e2; exact e2),
   fun e e2 => h.p10 (by rw [updB_ne (by decide)] at e; exact e) (by rw [updB_ne (by decide)] at e2; exact e2),
   fun e e2 => h.p11 (by rw [updB_ne (by decide)] at e; exact e) (by rw [updB_ne (by decide)] at e2; exact e2),
   fun e e2 => h.p12 (by rw [updB_ne (by decide)] at e; exact e) (by rw [updB_ne (by decide)] at e2; exact e2),
   fun _ _ => hp,
   fun e e2 => h.p14 (by rw [updB_ne (by decide)] at e; exact e) (by rw [updB_ne (by decide)] at e2; exact e2),
   fun e e2 => h.p15 (by rw [updB_ne (by decide)] at e; exact e) (by rw [updB_ne (by decide)] at e2; exact e2),
   fun e e2 => h.p16 (by rw [updB_ne (by decide)] at e; exact e) (by rw [updB_ne (by decide)] at e2; exact e2),
   fun e e2 => h.p17 (by rw [updB_ne (by decide)] at e; exact e) (by rw [updB_ne (by decide)] at e2; exact e2),
   fun e e2 => h.p18 (by rw [updB_ne (by decide)] at e; exact e) (by rw [updB_ne (by decide)] at e2; exact e2),
   fun e e2 => h.p19 (by rw [updB_ne (by decide)] at e; exact e) (by rw [updB_ne (by decide)] at e2; exact e2),
   fun e e2 => h.p20 (by rw [updB_ne (by decide)] at e; exact e) (by rw [updB_ne (by decide)] at e2; exact e2),
   fun e e2 => h.p21 (by rw [updB_ne (by decide)] at e; exact e) (by rw [updB_ne (by decide)] at e2; exact e2),
   fun e e2 => h.p22 (by rw [updB_ne (by decide)] at e; exact e) (by rw [updB_ne (by decide)] at e2; exact e2),
   fun e e2 => h.p23 (by rw [updB_ne (by decide)] at e; exact e) (by rw [updB_ne (by decide)] at e2; exact e2),
   fun e e2 => h.p24 (by rw [updB_ne (by decide)] at e; exact e) (by rw [updB_ne (by decide)] at e2; exact e2),
   fun e => (by rw [updB_ne (by decide), hl] at e; cases e)⟩
theorem FI.up14 {g : Nat} {A : Option Addr} {n c K B : Nat} {w0 : World} {d : Nat → Bool} {u6 u7 u8 u9 u10 u11 u12 u13 u14 u15 u16 u17 u18 u19 u20 u21 u22 u23 u24 u25 u26 u27 u28 u29 u5 v : Value} {w : World} (h : FI g A n c K B w0 d u6 u7 u8 u9 u10 u11 u12 u13 u14 u15 u16 u17 u18 u19 u20 u21 u22 u23 u24 u25 u26 u27 u28 u29 u5 w) (hl : d 25 = false) (hp : PtrP StrE w B v [[], [[97, 110, 110]], [[97, 110, 110], [99, 105, 100]]]) : FI g A n c K B w0 (updB d 14) u6 u7 u8 u9 u10 u11 u12 u13 u14 u15 u16 u17 u18 u19 v u21 u22 u23 u24 u25 u26 u27 u28 u29 u5 w :=
  ⟨h.gr,
   fun e j hj => updB_true (h.ord (by rw [updB_ne (by decide)] at e; exact e) j hj),
   fun e e2 => h.p0 (by rw [updB_ne (by decide)] at e; exact e) (by rw [updB_ne (by decide)] at e2; exact e2),
   fun e e2 => h.p1 (by rw [updB_ne (by decide)] at e; exact e) (by rw [updB_ne (by decide)] at e2; exact e2),
   fun e e2 => h.p2 (by rw [updB_ne (by decide)] at e; exact e) (by rw [updB_ne (by decide)] at e2; exact e2),
   fun e e2 => h.p3 (by rw [updB_ne (by decide)] at e; exact e) (by rw [updB_ne (by decide)] at e2; exact e2),
   fun e e2 => h.p4 (by rw [updB_ne (by decide)] at e; exact e) (by rw [updB_ne (by decide)] at e2; exact e2),
   fun e e2 => h.p5 (by rw [updB_ne (by decide)] at e; exact e) (by rw [updB_ne (by decide)] at e2; exact e2),
   fun e e2 => h.p6 (by rw [updB_ne (by decide)] at e; exact e) (by rw [updB_ne (by decide)] at e2; exact e2),
   fun e e2 => h.p7 (by rw [updB_ne (by decide)] at e; exact e) (by rw [updB_ne (by decide)] at e2; exact e2),
   fun e e2 => h.p8 (by rw [updB_ne (by decide)] at e; exact e) (by rw [updB_ne (by decide)] at e2; exact e2),
   fun e e2 => h.p9 (by rw [updB_ne (by decide)] at e; exact e) (by rw [updB_ne (by decide)] at e2; exact e2),
   fun e e2 => h.p10 (by rw [updB_ne (by decide)] at e; exact e) (by rw [updB_ne (by decide)] at e2; exact e2),
   fun e e2 => h.p11 (by rw [updB_ne (by decide)] at e; exact e) (by rw [updB_ne (by decide)] at e2; exact e2),
   fun e e2 => h.p12 (by rw [updB_ne (by decide)] at e; exact e) (by rw [updB_ne (by decide)] at e2; exact e2),
   fun e e2 => h.p13 (by rw [updB_ne (by decide)] at e; exact e) (by rw [updB_ne (by decide)] at e2; exact e2),
   fun _ _ => hp,
   fun e e2 => h.p15 (by rw [updB_ne (by decide)] at e; exact e) (by rw [updB_ne (by decide)] at e2; exact e2),
   fun e e2 => h.p16 (by rw [updB_ne (by decide)] at e; exact e) (by rw [updB_ne (by decide)] at e2; exact e2),
   fun e e2 => h.p17 (by rw [updB_ne (by decide)] at e; exact e) (by rw [updB_ne (by decide)] at e2; exact e2),
   fun e e2 => h.p18 (by rw [updB_ne (by decide)] at e; exact e) (by rw [updB_ne (by decide)] at e2; exact e2),
   fun e e2 => h.p19 (by rw [updB_ne (by decide)] at e; exact e) (by rw [updB_ne (by decide)] at e2; exact e2),
   fun e e2 => h.p20 (by rw [updB_ne (by decide)] at e; exact e) (by rw [updB_ne (by decide)] at e2; exact e2),
   fun e e2 => h.p21 (by rw [updB_ne (by decide)] at e; exact e) (by rw [updB_ne (by decide)] at e2; exact e2),
   fun e e2 => h.p22 (by rw [updB_ne (by decide)] at e; exact e) (by rw [updB_ne (by decide)] at e2; exact e2),
   fun e e2 => h.p23 (by rw [updB_ne (by decide)] at e; exact e) (by rw [updB_ne (by decide)] at e2; exact e2),
   fun e e2 => h.p24 (by rw [updB_ne (by decide)] at e; exact e) (by rw [updB_ne (by decide)] at e2; exact e2),
   fun e => (by rw [updB_ne (by decide), hl] at e; cases e)⟩
theorem FI.up15 {g : Nat} {A : Option Addr} {n c K B : Nat} {w0 : World} {d : Nat → Bool} {u6 u7 u8 u9 u10 u11 u12 u13 u14 u15 u16 u17 u18 u19 u20 u21 u22 u23 u24 u25 u26 u27 u28 u29 u5 v : Value} {w : World} (h : FI g A n c K B w0 d u6 u7 u8 u9 u10 u11 u12 u13 u14 u15 u16 u17 u18 u19 u20 u21 u22 u23 u24 u25 u26 u27 u28 u29 u5 w) (hl : d 25 = false) (hp : LdP StrE w B v [[], [[97, 110, 110]], [[97, 110, 110], [99, 105, 100]]]) : FI g A n c K B w0 (updB d 15) u6 u7 u8 u9 u10 u11 u12 u13 u14 u15 u16 u17 u18 u19 u20 v u22 u23 u24 u25 u26 u27 u28 u29 u5 w :=
  ⟨h.gr,
   fun e j hj => updB_true (h.ord (by rw [updB_ne (by decide)] at e; exact e) j hj),
   fun e e2 => h.p0 (by rw [updB_ne (by decide)] at e; exact e) (by rw [updB_ne (by decide)] at e2; exact e2),
   fun e e2 => h.p1 (by rw [updB_ne (by decide)] at e; exact e) (by rw [updB_ne (by decide)] at e2; exact e2),
   fun e e2 => h.p2 (by rw [updB_ne (by decide)] at e; exact e) (by rw [updB_ne (by decide)] at e2; exact e2),
   fun e e2 => h.p3 (by rw [updB_ne (by decide)] at e; exact e) (by rw [updB_ne (by decide)] at e2; exact e2),
   fun e e2 => h.p4 (by rw [updB_ne (by decide)] at e; exact e) (by rw [updB_ne (by decide)] at e2; exact e2),
   fun e e2 => h.p5 (by rw [updB_ne (by decide)] at e; exact e) (by rw [updB_ne (by decide)] at e2; exact e2),
   fun e e2 => h.p6 (by rw [updB_ne (by decide)] at e; exact e) (by rw [updB_ne (by decide)] at e2; exact e2),
   fun e e2 => h.p7 (by rw [updB_ne (by decide)] at e; exact e) (by rw [updB_ne (by decide)] at e2; exact e2),
   fun e e2 => h.p8 (by rw [updB_ne (by decide)] at e; exact e) (by rw [updB_ne (by decide)] at e2; exact e2),
   fun e e2 => h.p9 (by rw [updB_ne (by decide)] at e; exact e) (by rw [updB_ne (by decide)] at e2; exact e2),
   fun e e2 => h.p10 (by rw [updB_ne (by decide)] at e; exact e) (by rw [updB_ne (by decide)] at e2; exact e2),
   fun e e2 => h.p11 (by rw [updB_ne (by decide)] at e; exact e) (by rw [updB_ne (by decide)] at e2; exact e2),
   fun e e2 => h.p12 (by rw [updB_ne (by decide)] at e; exact e) (by rw [updB_ne (by decide)] at e2; exact e2),
   fun e e2 => h.p13 (by rw [updB_ne (by decide)] at e; exact e) (by rw [updB_ne (by decide)] at e2; exact e2),
   fun e e2 => h.p14 (by rw [updB_ne (by decide)] at e; exact e) (by rw [updB_ne (by decide)] at e2; exact e2),
   fun _ _ => hp,
   fun e e2 => h.p16 (by rw [updB_ne (by decide)] at e; exact e) (by rw [updB_ne (by decide)] at e2; exact e2),
   fun e e2 => h.p17 (by rw [updB_ne (by decide)] at e; exact e) (by rw [updB_ne (by decide)] at e2; exact e2),
   fun e e2 => h.p18 (by rw [updB_ne (by decide)] at e; exact e) (by rw [updB_ne (by decide)] at e2; exact e2),
   fun e e2 => h.p19 (by rw [updB_ne (by decide)] at e; exact e) (by rw [updB_ne (by decide)] at e2; exact e2),
   fun e e2 => h.p20 (by rw [updB_ne (by decide)] at e; exact e) (by rw [updB_ne (by decide)] at e2; exact e2),
   fun e e2 => h.p21 (by rw [updB_ne (by decide)] at e; exact e) (by rw [updB_ne (by decide)] at e2; exact e2),
   fun e e2 => h.p22 (by rw [updB_ne (by decide)] at e; exact e) (by rw [updB_ne (by decide)] at e2; exact e2),
   fun e e2 => h.p23 (by rw [updB_ne (by decide)] at e; exact e) (by rw [updB_ne (by decide)] at e2; exact e2),
   fun e e2 => h.p24 (by rw [updB_ne (by decide)] at e; exact e) (by rw [updB_ne (by decide)] at e2; exact e2),
   fun e => (by rw [updB_ne (by decide), hl] at e; cases e)⟩
theorem FI.up16 {g : Nat} {A : Option Addr} {n c K B : Nat} {w0 : World} {d : Nat → Bool} {u6 u7 u8 u9 u10 u11 u12 u13 u14 u15 u16 u17 u18 u19 u20 u21 u22 u23 u24 u25 u26 u27 u28 u29 u5 v : Value} {w : World} (h : FI g A n c K B w0 d u6 u7 u8 u9 u10 u11 u12 u13 u14 u15 u16 u17 u18 u19 u20 u21 u22 u23 u24 u25 u26 u27 u28 u29 u5 w) (hl : d 25 = false) (hp : v = .pointer (some ⟨g, 0, none⟩)) : FI g A n c K B w0 (updB d 16) u6 u7 u8 u9 u10 u11 u12 u13 u14 u15 u16 u17 u18 u19 u20 u21 v u23 u24 u25 u26 u27 u28 u29 u5 w :=
  ⟨h.gr,
   fun e j hj => updB_true (h.ord (by rw [updB_ne (by decide)] at e; exact e) j hj),
   fun e e2 => h.p0 (by rw [updB_ne (by decide)] at e; exact e) (by rw [updB_ne (by decide)] at e2; exact e2),
   fun e e2 => h.p1 (by rw [updB_ne (by decide)] at e; exact e) (by rw [updB_ne (by decide)] at e2; exact e2),
   fun e e2 => h.p2 (by rw [updB_ne (by decide)] at e; exact e) (by rw [updB_ne (by decide)] at e2; exact e2),
   fun e e2 => h.p3 (by rw [updB_ne (by decide)] at e; exact e) (by rw [updB_ne (by decide)] at e2; exact e2),
   fun e e2 => h.p4 (by rw [updB_ne (by decide)] at e; exact e) (by rw [updB_ne (by decide)] at e2; exact e2),
   fun e e2 => h.p5 (by rw [updB_ne (by decide)] at e; exact e) (by rw [updB_ne (by decide)] at e2; exact e2),
   fun e e2 => h.p6 (by rw [updB_ne (by decide)] at e; exact e) (by rw [updB_ne (by decide)] at e2; exact e2),
   fun e e2 => h.p7 (by rw [updB_ne (by decide)] at e; exact e) (by rw [updB_ne (by decide)] at e2; exact e2),
   fun e e2 => h.p8 (by rw [updB_ne (by decide)] at e; exact e) (by rw [updB_ne (by decide)] at e2; exact e2),
   fun e e2 => h.p9 (by rw [updB_ne (by decide)] at e; exact e) (by rw [updB_ne (by decide)] at e2; exact e2),
   fun e e2 => h.p10 (by rw [updB_ne (by decide)] at e; exact e) (by rw [updB_ne (by decide)] at e2; exact e2),
   fun e e2 => h.p11 (by rw [updB_ne (by decide)] at e; exact e) (by rw [updB_ne (by decide)] at e2; exact e2),
   fun e e2 => h.p12 (by rw [updB_ne (by decide)] at e; exact e) (by rw [updB_ne (by decide)] at e2; exact e2),
   fun e e2 => h.p13 (by rw [updB_ne (by decide)] at e; exact e) (by rw [updB_ne (by decide)] at e2; exact e2),
   fun e e2 => h.p14 (by rw [updB_ne (by decide)] at e; exact e) (by rw [updB_ne (by decide)] at e2; exact e2),
   fun e e2 => h.p15 (by rw [updB_ne (by decide)] at e; exact e) (by rw [updB_ne (by decide)] at e2; exact e2),
   fun _ _ => hp,
   fun e e2 => h.p17 (by rw [updB_ne (by decide)] at e; exact e) (by rw [updB_ne (by decide)] at e2; exact e2),
   fun e e2 => h.p18 (by rw [updB_ne (by decide)] at e; exact e) (by rw [updB_ne (by decide)] at e2; exact e2),
   fun e e2 => h.p19 (by rw [updB_ne (by decide)] at e; exact e) (by rw [updB_ne (by decide)] at e2; exact e2),
   fun e e2 => h.p20 (by rw [updB_ne (by decide)] at e; exact e) (by rw [updB_ne (by decide)] at e2; exact e2),
   fun e e2 => h.p21 (by rw [updB_ne (by decide)] at e; exact e) (by rw [updB_ne (by decide)] at e2; exact e2),
   fun e e2 => h.p22 (by rw [updB_ne (by decide)] at e; exact e) (by rw [updB_ne (by decide)] at e2; exact e2),
   fun e e2 => h.p23 (by rw [updB_ne (by decide)] at e; exact e) (by rw [updB_ne (by decide)] at e2; exact e2),
   fun e e2 => h.p24 (by rw [updB_ne (by decide)] at e; exact e) (by rw [updB_ne (by decide)] at e2; exact e2),
   fun e => (by rw [updB_ne (by decide), hl] at e; cases e)⟩
theorem FI.up17 {g : Nat} {A : Option Addr} {n c K B : Nat} {w0 : World} {d : Nat → Bool} {u6 u7 u8 u9 u10 u11 u12 u13 u14 u15 u16 u17 u18 u19 u20 u21 u22 u23 u24 u25 u26 u27 u28 u29 u5 v : Value} {w : World} (h : FI g A n c K B w0 d u6 u7 u8 u9 u10 u11 u12 u13 u14 u15 u16 u17 u18 u19 u20 u21 u22 u23 u24 u25 u26 u27 u28 u29 u5 w) (hl : d 25 = false) (hp : Owns IntE w B v [0, 0, 50, 1440]) : FI g A n c K B w0 (updB d 17) u6 u7 u8 u9 u10 u11 u12 u13 u14 u15 u16 u17 u18 u19 u20 u21 u22 v u24 u25 u26 u27 u28 u29 u5 w :=
  ⟨h.gr,
   fun e j hj => updB_true (h.ord (by rw [updB_ne (by decide)] at e; exact e) j hj),
   fun e e2 => h.p0 (by rw [updB_ne (by decide)] at e; exact e) (by rw [updB_ne (by decide)] at e2; exact e2),
   fun e e2 => h.p1 (by rw [updB_ne (by decide)] at e; exact e) (by rw [updB_ne (by decide)] at e2; exact e2),
   fun e e2 => h.p2 (by rw [updB_ne (by decide)] at e; exact e) (by rw [updB_ne (by decide)] at e2; exact e2),
   fun e e2 => h.p3 (by rw [updB_ne (by decide)] at e; exact e) (by rw [updB_ne (by decide)] at e2; exact e2),
   fun e e2 => h.p4 (by rw [updB_ne (by decide)] at e; exact e) (by rw [updB_ne (by decide)] at e2; exact e2),
   fun e e2 => h.p5 (by rw [updB_ne (by decide)] at e; exact e) (by rw [updB_ne (by decide)] at e2; exact e2),
   fun e e2 => h.p6 (by rw [updB_ne (by decide)] at e; exact e) (by rw [updB_ne (by decide)] at e2; exact e2),
   fun e e2 => h.p7 (by rw [updB_ne (by decide)] at e; exact e) (by rw [updB_ne (by decide)] at e2; exact e2),
   fun e e2 => h.p8 (by rw [updB_ne (by decide)] at e; exact e) (by rw [updB_ne (by decide)] at e2; exact e2),
   fun e e2 => h.p9 (by rw [updB_ne (by decide)] at e; exact e) (by rw [updB_ne (by decide)] at e2; exact e2),
   fun e e2 => h.p10 (by rw [updB_ne (by decide)] at e; exact e) (by rw [updB_ne (by decide)] at e2; exact e2),
   fun e e2 => h.p11 (by rw [updB_ne (by decide)] at e; exact e) (by rw [updB_ne (by decide)] at e2; exact e2),
   fun e e2 => h.p12 (by rw [updB_ne (by decide)] at e; exact e) (by rw [updB_ne (by decide)] at e2; exact e2),
   fun e e2 => h.p13 (by rw [updB_ne (by decide)] at e; exact e) (by rw [updB_ne (by decide)] at e2; exact e2),
   fun e e2 => h.p14 (by rw [updB_ne (by decide)] at e; exact e) (by rw [updB_ne (by decide)] at e2; exact e2),
   fun e e2 => h.p15 (by rw [updB_ne (by decide)] at e; exact e) (by rw [updB_ne (by decide)] at e2; exact e2),
   fun e e2 => h.p16 (by rw [updB_ne (by decide)] at e; exact e) (by rw [updB_ne (by decide)] at e2; exact e2),
   fun _ _ => hp,
   fun e e2 => h.p18 (by rw [updB_ne (by decide)] at e; exact e) (by rw [updB_ne (by decide)] at e2; exact e2),
   fun e e2 => h.p19 (by rw [updB_ne (by decide)] at e; exact e) (by rw [updB_ne (by decide)] at e2; exact e2),
   fun e e2 => h.p20 (by rw [updB_ne (by decide)] at e; exact e) (by rw [updB_ne (by decide)] at e2; exact e2),
   fun e e2 => h.p21 (by rw [updB_ne (by decide)] at e; exact e) (by rw [updB_ne (by decide)] at e2; exact e2),
   fun e e2 => h.p22 (by rw [updB_ne (by decide)] at e; exact e) (by rw [updB_ne (by decide)] at e2; exact e2),
   fun e e2 => h.p23 (by rw [updB_ne (by decide)] at e; exact e) (by rw [updB_ne (by decide)] at e2; exact e2),
   fun e e2 => h.p24 (by rw [updB_ne (by decide)] at e; exact e) (by rw [updB_ne (by decide)] at e2; exact e2),
   fun e => (by rw [updB_ne (by decide), hl] at e; cases e)⟩
theorem FI.up18 {g : Nat} {A : Option Addr} {n c K B : Nat} {w0 : World} {d : Nat → Bool} {u6 u7 u8 u9 u10 u11 u12 u13 u14 u15 u16 u17 u18 u19 u20 u21 u22 u23 u24 u25 u26 u27 u28 u29 u5 v : Value} {w : World} (h : FI g A n c K B w0 d u6 u7 u8 u9 u10 u11 u12 u13 u14 u15 u16 u17 u18 u19 u20 u21 u22 u23 u24 u25 u26 u27 u28 u29 u5 w) (hl : d 25 = false) (hp : RngP v 0 1440) : FI g A n c K B w0 (updB d 18) u6 u7 u8 u9 u10 u11 u12 u13 u14 u15 u16 u17 u18 u19 u20 u21 u22 u23 v u25 u26 u27 u28 u29 u5 w :=
  ⟨h.gr,
   fun e j hj => updB_true (h.ord (by rw [updB_ne (by decide)] at e; exact e) j hj),
   fun e e2 => h.p0 (by rw [updB_ne (by decide)] at e; exact e) (by rw [updB_ne (by decide)] at e2; exact e2),
   fun e e2 => h.p1 (by rw [updB_ne (by decide)] at e; exact e) (by rw [updB_ne (by decide)] at e2; exact e2),
   fun e e2 => h.p2 (by rw [updB_ne (by decide)] at e; exact e) (by rw [updB_ne (by decide)] at e2; exact e2),
   fun e e2 => h.p3 (by rw [updB_ne (by decide)] at e; exact e) (by rw [updB_ne (by decide)] at e2; exact e2),
   fun e e2 => h.p4 (by rw [updB_ne (by decide)] at e; exact e) (by rw [updB_ne (by decide)] at e2; exact e2),
   fun e e2 => h.p5 (by rw [updB_ne (by decide)] at e; exact e) (by rw [updB_ne (by decide)] at e2; exact e2),
   fun e e2 => h.p6 (by rw [updB_ne (by decide)] at e; exact e) (by rw [updB_ne (by decide)] at e2; exact e2),
   fun e e2 => h.p7 (by rw [updB_ne (by decide)] at e; exact e) (by rw [updB_ne (by decide)] at e2; exact e2),
   fun e e2 => h.p8 (by rw [updB_ne (by decide)] at e; exact e) (by rw [updB_ne (by decide)] at e2; exact e2),
   fun e e2 => h.p9 (by rw [updB_ne (by decide)] at e; exact e) (by rw [updB_ne (by decide)] at e2; exact e2),
   fun e e2 => h.p10 (by rw [updB_ne (by decide)] at e; exact e) (by rw [updB_ne (by decide)] at e2; exact e2),
   fun e e2 => h.p11 (by rw [updB_ne (by decide)] at e; exact e) (by rw [updB_ne (by decide)] at e2; exact e2),
   fun e e2 => h.p12 (by rw [updB_ne (by decide)] at e; exact e) (by rw [updB_ne (by decide)] at e2; exact e2),
   fun e e2 => h.p13 (by rw [updB_ne (by decide)] at e; exact e) (by rw [updB_ne (by decide)] at e2; exact e2),
   fun e e2 => h.p14 (by rw [updB_ne (by decide)] at e; exact e) (by rw [updB_ne (by decide)] at e2; exact e2),
   fun e e2 => h.p15 (by rw [updB_ne (by decide)] at e; exact e) (by rw [updB_ne (by decide)] at e2; exact e2),
   fun e e2 => h.p16 (by rw [updB_ne (by decide)] at e; exact e) (by rw [updB_ne (by decide)] at e2; exact e2),
   fun e e2 => h.p17 (by rw [updB_ne (by decide)] at e; exact e) (by rw [updB_ne (by decide)] at e2; exact e2),
   fun _ _ => hp,
   fun e e2 => h.p19 (by rw [updB_ne (by decide)] at e; exact e) (by rw [updB_ne (by decide)] at e2; exact e2),
   fun e e2 => h.p20 (by rw [updB_ne (by decide)] at e; exact e) (by rw [updB_ne (by decide)] at e2; exact e2),
   fun e e2 => h.p21 (by rw [updB_ne (by decide)] at e; exact e) (by rw [updB_ne (by decide)] at e2; exact e2),
   fun e e2 => h.p22 (by rw [updB_ne (by decide)] at e; exact e) (by rw [updB_ne (by decide)] at e2; exact e2),
   fun e e2 => h.p23 (by rw [updB_ne (by decide)] at e; exact e) (by rw [updB_ne (by decide)] at e2; exact e2),
   fun e e2 => h.p24 (by rw [updB_ne (by decide)] at e; exact e) (by rw [updB_ne (by decide)] at e2; exact e2),
   fun e => (by rw [updB_ne (by decide), hl] at e; cases e)⟩
theorem FI.up19 {g : Nat} {A : Option Addr} {n c K B : Nat} {w0 : World} {d : Nat → Bool} {u6 u7 u8 u9 u10 u11 u12 u13 u14 u15 u16 u17 u18 u19 u20 u21 u22 u23 u24 u25 u26 u27 u28 u29 u5 v : Value} {w : World} (h : FI g A n c K B w0 d u6 u7 u8 u9 u10 u11 u12 u13 u14 u15 u16 u17 u18 u19 u20 u21 u22 u23 u24 u25 u26 u27 u28 u29 u5 w) (hl : d 25 = false) (hp : v = .pointer (some ⟨g, 0, none⟩)) : FI g A n c K B w0 (updB d 19) u6 u7 u8 u9 u10 u11 u12 u13 u14 u15 u16 u17 u18 u19 u20 u21 u22 u23 u24 v u26 u27 u28 u29 u5 w :=
  ⟨h.gr,
   fun e j hj => updB_true (h.ord (by rw [updB_ne (by decide)] at e; exact e) j hj),
   fun e e2 => h.p0 (by rw [updB_ne (by decide)] at e; exact e) (by rw [updB_ne (by decide)] at e2; exact e2),
   fun e e2 => h.p1 (by rw [updB_ne (by decide)] at e; exact e) (by rw [updB_ne (by decide)] at e2; exact e2),
   fun e e2 => h.p2 (by rw [updB_ne (by decide)] at e; exact e) (by rw [updB_ne (by decide)] at e2; exact e2),
   fun e e2 => h.p3 (by rw [updB_ne (by decide)] at e; exact e) (by rw [updB_ne (by decide)] at e2; exact e2),
   fun e e2 => h.p4 (by rw [updB_ne (by decide)] at e; exact e) (by rw [updB_ne (by decide)] at e2; exact e2),
   fun e e2 => h.p5 (by rw [updB_ne (by decide)] at e; exact e) (by rw [updB_ne (by decide)] at e2; exact e2),
   fun e e2 => h.p6 (by rw [updB_ne (by decide)] at e; exact e) (by rw [updB_ne (by decide)] at e2; exact e2),
   fun e e2 => h.p7 (by rw [updB_ne (by decide)] at e; exact e) (by rw [updB_ne (by decide)] at e2; exact e2),
   fun e e2 => h.p8 (by rw [updB_ne (by decide)] at e; exact e) (by rw [updB_ne (by decide)] at e2; exact e2),
   fun e e2 => h.p9 (by rw [updB_ne (by decide)] at e; exact e) (by rw [updB_ne (by decide)] at e2; exact e2),
   fun e e2 => h.p10 (by rw [updB_ne (by decide)] at e; exact e) (by rw [updB_ne (by decide)] at e2; exact e2),
   fun e e2 => h.p11 (by rw [updB_ne (by decide)] at e; exact e) (by rw [updB_ne (by decide)] at e2; exact e2),
   fun e e2 => h.p12 (by rw [updB_ne (by decide)] at e; exact e) (by rw [updB_ne (by decide)] at e2; exact e2),
   fun e e2 => h.p13 (by rw [updB_ne (by decide)] at e; exact e) (by rw [updB_ne (by decide)] at e2; exact e2),
   fun e e2 => h.p14 (by rw [updB_ne (by decide)] at e; exact e) (by rw [updB_ne (by decide)] at e2; exact e2),
   fun e e2 => h.p15 (by rw [updB_ne (by decide)] at e; exact e) (by rw [updB_ne (by decide)] at e2; exact e2),
   fun e e2 => h.p16 (by rw [updB_ne (by decide)] at e; exact e) (by rw [updB_ne (by decide)] at e2; exact e2),
   fun e e2 => h.p17 (by rw [updB_ne (by decide)] at e; exact e) (by rw [updB_ne (by decide)] at e2; exact e2),
   fun e e2 => h.p18 (by rw [updB_ne (by decide)] at e; exact e) (by rw [updB_ne (by decide)] at e2; exact e2),
   fun _ _ => hp,
   fun e e2 => h.p20 (by rw [updB_ne (by decide)] at e; exact e) (by rw [updB_ne (by decide)] at e2; exact e2),
   fun e e2 => h.p21 (by rw [updB_ne (by decide)] at e; exact e) (by rw [updB_ne (by decide)] at e2; exact e2),
   fun e e2 => h.p22 (by rw [updB_ne (by decide)] at e; exact e) (by rw [updB_ne (by decide)] at e2; exact e2),
   fun e e2 => h.p23 (by rw [updB_ne (by decide)] at e; exact e) (by rw [updB_ne (by decide)] at e2; exact e2),
   fun e e2 => h.p24 (by rw [updB_ne (by decide)] at e; exact e) (by rw [updB_ne (by decide)] at e2; exact e2),
   fun e => (by rw [updB_ne (by decide), hl] at e; cases e)⟩
theorem FI.up20 {g : Nat} {A : Option Addr} {n c K B : Nat} {w0 : World} {d : Nat → Bool} {u6 u7 u8 u9 u10 u11 u12 u13 u14 u15 u16 u17 u18 u19 u20 u21 u22 u23 u24 u25 u26 u27 u28 u29 u5 v : Value} {w : World} (h : FI g A n c K B w0 d u6 u7 u8 u9 u10 u11 u12 u13 u14 u15 u16 u17 u18 u19 u20 u21 u22 u23 u24 u25 u26 u27 u28 u29 u5 w) (hl : d 25 = false) (hp : Owns IntE w B v [5761440, 5761440, 5000]) : FI g A n c K B w0 (updB d 20) u6 u7 u8 u9 u10 u11 u12 u13 u14 u15 u16 u17 u18 u19 u20 u21 u22 u23 u24 u25 v u27 u28 u29 u5 w :=
  ⟨h.gr,
   fun e j hj => updB_true (h.ord (by rw [updB_ne (by decide)] at e; exact e) j hj),
   fun e e2 => h.p0 (by rw [updB_ne (by decide)] at e; exact e) (by rw [updB_ne (by decide)] at e2; exact e2),
   fun e e2 => h.p1 (by rw [updB_ne (by decide)] at e; exact e) (by rw [updB_ne (by decide)] at e2; exact e2),
   fun e e2 => h.p2 (by rw [updB_ne (by decide)] at e; exact e) (by rw [updB_ne (by decide)] at e2; exact e2),
   fun e e2 => h.p3 (by rw [updB_ne (by decide)] at e; exact e) (by rw [updB_ne (by decide)] at e2; exact e2),
   fun e e2 => h.p4 (by rw [updB_ne (by decide)] at e; exact e) (by rw [updB_ne (by decide)] at e2; exact e2),
   fun e e2 => h.p5 (by rw [updB_ne (by decide)] at e; exact e) (by rw [updB_ne (by decide)] at e2; exact e2),
   fun e e2 => h.p6 (by rw [updB_ne (by decide)] at e; exact e) (by rw [updB_ne (by decide)] at e2; exact e2),
   fun e e2 => h.p7 (by rw [updB_ne (by decide)] at e; exact e) (by rw [updB_ne (by decide)] at e2; exact e2),
   fun e e2 => h.p8 (by rw [updB_ne (by decide)] at e; exact e) (by rw [updB_ne (by decide)] at e2; exact e2),
   fun e e2 => h.p9 (by rw [updB_ne (by decide)] at e; exact e) (by rw [updB_ne (by decide)] at e2; exact e2),
   fun e e2 => h.p10 (by rw [updB_ne (by decide)] at e; exact e) (by rw [updB_ne (by decide)] at e2; exact e2),
   fun e e2 => h.p11 (by rw [updB_ne (by decide)] at e; exact e) (by rw [updB_ne (by decide)] at e2; exact e2),
   fun e e2 => h.p12 (by rw [updB_ne (by decide)] at e; exact e) (by rw [updB_ne (by decide)] at e2; exact e2),
   fun e e2 => h.p13 (by rw [updB_ne (by decide)] at e; exact e) (by rw [updB_ne (by decide)] at e2; exact e2),
   fun e e2 => h.p14 (by rw [updB_ne (by decide)] at e; exact e) (by rw [updB_ne (by decide)] at e2; exact e2),
   fun e e2 => h.p15 (by rw [updB_ne (by decide)] at e; exact e) (by rw [updB_ne (by decide)] at e2; exact e2),
   fun e e2 => h.p16 (by rw [updB_ne (by decide)] at e; exact e) (by rw [updB_ne (by decide)] at e2; exact e2),
   fun e e2 => h.p17 (by rw [updB_ne (by decide)] at e; exact e) (by rw [updB_ne (by decide)] at e2; exact e2),
   fun e e2 => h.p18 (by rw [updB_ne (by decide)] at e; exact e) (by rw [updB_ne (by decide)] at e2; exact e2),
   fun e e2 => h.p19 (by rw [updB_ne (by decide)] at e; exact e) (by rw [updB_ne (by decide)] at e2; exact e2),
   fun _ _ => hp,
   fun e e2 => h.p21 (by rw [updB_ne (by decide)] at e; exact e) (by rw [updB_ne (by decide)] at e2; exact e2),
   fun e e2 => h.p22 (by rw [updB_ne (by decide)] at e; exact e) (by rw [updB_ne (by decide)] at e2; exact e2),
   fun e e2 => h.p23 (by rw [updB_ne (by decide)] at e; exact e) (by rw [updB_ne (by decide)] at e2; exact e2),
   fun e e2 => h.p24 (by rw [updB_ne (by decide)] at e; exact e) (by rw [updB_ne (by decide)] at e2; exact e2),
   fun e => (by rw [updB_ne (by decide), hl] at e; cases e)⟩
theorem FI.up21 {g : Nat} {A : Option Addr} {n c K B : Nat} {w0 : World} {d : Nat → Bool} {u6 u7 u8 u9 u10 u11 u12 u13 u14 u15 u16 u17 u18 u19 u20 u21 u22 u23 u24 u25 u26 u27 u28 u29 u5 v : Value} {w : World} (h : FI g A n c K B w0 d u6 u7 u8 u9 u10 u11 u12 u13 u14 u15 u16 u17 u18 u19 u20 u21 u22 u23 u24 u25 u26 u27 u28 u29 u5 w) (hl : d 25 = false) (hp : RngP v 5000 5761440) : FI g A n c K B w0 (updB d 21) u6 u7 u8 u9 u10 u11 u12 u13 u14 u15 u16 u17 u18 u19 u20 u21 u22 u23 u24 u25 u26 v u28 u29 u5 w :=
  ⟨h.gr,
   fun e j hj => updB_true (h.ord (by rw [updB_ne (by decide)] at e; exact e) j hj),
   fun e e2 => h.p0 (by rw [updB_ne (by decide)] at e; exact e) (by rw [updB_ne (by decide)] at e2; exact e2),
   fun e e2 => h.p1 (by rw [updB_ne (by decide)] at e; exact e) (by rw [updB_ne (by decide)] at e2; exact e2),
   fun e e2 => h.p2 (by rw [updB_ne (by decide)] at e; exact e) (by rw [updB_ne (by decide)] at e2; exact e2),
   fun e e2 => h.p3 (by rw [updB_ne (by decide)] at e; exact e) (by rw [updB_ne (by decide)] at e2; exact e2),
   fun e e2 => h.p4 (by rw [updB_ne (by decide)] at e; exact e) (by rw [updB_ne (by decide)] at e2; exact e2),
   fun e e2 => h.p5 (by rw [updB_ne (by decide)] at e; exact e) (by rw [updB_ne (by decide)] at e2; exact e2),
   fun e e2 => h.p6 (by rw [updB_ne (by decide)] at e; exact e) (by rw [updB_ne (by decide)] at e2; exact e2),
   fun e e2 => h.p7 (by rw [updB_ne (by decide)] at e; exact e) (by rw [updB_ne (by decide)] at e2; exact e2),
   fun e e2 => h.p8 (by rw [updB_ne (by decide)] at e; exact e) (by rw [updB_ne (by decide)] at e2; exact e2),
   fun e e2 => h.p9 (by rw [updB_ne (by decide)] at e; exact e) (by rw [updB_ne (by decide)] at e2; exact e2),
   fun e e2 => h.p10 (by rw [updB_ne (by decide)] at e; exact e) (by rw [updB_ne (by decide)] at e2; exact e2),
   fun e e2 => h.p11 (by rw [updB_ne (by decide)] at e; exact e) (by rw [updB_ne (by decide)] at e2; exact e2),
   fun e e2 => h.p12 (by rw [updB_ne (by decide)] at e; exact e) (by rw [updB_ne (by decide)] at e2; exact e2),
   fun e e2 => h.p13 (by rw [updB_ne (by decide)] at e; exact e) (by rw [updB_ne (by decide)] at e2; exact e2),
   fun e e2 => h.p14 (by rw [updB_ne (by decide)] at e; exact e) (by rw [updB_ne (by decide)] at e2; exact e2),
   fun e e2 => h.p15 (by rw [updB_ne (by decide)] at e; exact e) (by rw [updB_ne (by decide)] at e2; exact e2),
   fun e e2 => h.p16 (by rw [updB_ne (by decide)] at e; exact e) (by rw [updB_ne (by decide)] at e2; exact e2),
   fun e e2 => h.p17 (by rw [updB_ne (by decide)] at e; exact e) (by rw [updB_ne (by decide)] at e2; exact e2),
   fun e e2 => h.p18 (by rw [updB_ne (by decide)] at e; exact e) (by rw [updB_ne (by decide)] at e2; exact e2),
   fun e e2 => h.p19 (by rw [updB_ne (by decide)] at e; exact e) (by rw [updB_ne (by decide)] at e2; exact e2),
   fun e e2 => h.p20 (by rw [updB_ne (by decide)] at e; exact e) (by rw [updB_ne (by decide)] at e2; exact e2),
   fun _ _ => hp,
   fun e e2 => h.p22 (by rw [updB_ne (by decide)] at e; exact e) (by rw [updB_ne (by decide)] at e2; exact e2),
   fun e e2 => h.p23 (by rw [updB_ne (by decide)] at e; exact e) (by rw [updB_ne (by decide)] at e2; exact e2),
   fun e e2 => h.p24 (by rw [updB_ne (by decide)] at e; exact e) (by rw [updB_ne (by decide)] at e2; exact e2),
   fun e => (by rw [updB_ne (by decide), hl] at e; cases e)⟩
theorem FI.up22 {g : Nat} {A : Option Addr} {n c K B : Nat} {w0 : World} {d : Nat → Bool} {u6 u7 u8 u9 u10 u11 u12 u13 u14 u15 u16 u17 u18 u19 u20 u21 u22 u23 u24 u25 u26 u27 u28 u29 u5 v : Value} {w : World} (h : FI g A n c K B w0 d u6 u7 u8 u9 u10 u11 u12 u13 u14 u15 u16 u17 u18 u19 u20 u21 u22 u23 u24 u25 u26 u27 u28 u29 u5 w) (hl : d 25 = false) (hp : ∃ x y : Int, v = .agg #[.int .i64 x, .int .i64 y]) : FI g A n c K B w0 (updB d 22) u6 u7 u8 u9 u10 u11 u12 u13 u14 u15 u16 u17 u18 u19 u20 u21 u22 u23 u24 u25 u26 u27 v u29 u5 w :=
  ⟨h.gr,
   fun e j hj => updB_true (h.ord (by rw [updB_ne (by decide)] at e; exact e) j hj),
   fun e e2 => h.p0 (by rw [updB_ne (by decide)] at e; exact e) (by rw [updB_ne (by decide)] at e2; exact e2),
   fun e e2 => h.p1 (by rw [updB_ne (by decide)] at e; exact e) (by rw [updB_ne (by decide)] at e2; exact e2),
   fun e e2 => h.p2 (by rw [updB_ne (by decide)] at e; exact e) (by rw [updB_ne (by decide)] at e2; exact e2),
   fun e e2 => h.p3 (by rw [updB_ne (by decide)] at e; exact e) (by rw [updB_ne (by decide)] at e2; exact e2),
   fun e e2 => h.p4 (by rw [updB_ne (by decide)] at e; exact e) (by rw [updB_ne (by decide)] at e2; exact e2),
   fun e e2 => h.p5 (by rw [updB_ne (by decide)] at e; exact e) (by rw [updB_ne (by decide)] at e2; exact e2),
   fun e e2 => h.p6 (by rw [updB_ne (by decide)] at e; exact e) (by rw [updB_ne (by decide)] at e2; exact e2),
   fun e e2 => h.p7 (by rw [updB_ne (by decide)] at e; exact e) (by rw [updB_ne (by decide)] at e2; exact e2),
   fun e e2 => h.p8 (by rw [updB_ne (by decide)] at e; exact e) (by rw [updB_ne (by decide)] at e2; exact e2),
   fun e e2 => h.p9 (by rw [updB_ne (by decide)] at e; exact e) (by rw [updB_ne (by decide)] at e2; exact e2),
   fun e e2 => h.p10 (by rw [updB_ne (by decide)] at e; exact e) (by rw [updB_ne (by decide)] at e2; exact e2),
   fun e e2 => h.p11 (by rw [updB_ne (by decide)] at e; exact e) (by rw [updB_ne (by decide)] at e2; exact e2),
   fun e e2 => h.p12 (by rw [updB_ne (by decide)] at e; exact e) (by rw [updB_ne (by decide)] at e2; exact e2),
   fun e e2 => h.p13 (by rw [updB_ne (by decide)] at e; exact e) (by rw [updB_ne (by decide)] at e2; exact e2),
   fun e e2 => h.p14 (by rw [updB_ne (by decide)] at e; exact e) (by rw [updB_ne (by decide)] at e2; exact e2),
   fun e e2 => h.p15 (by rw [updB_ne (by decide)] at e; exact e) (by rw [updB_ne (by decide)] at e2; exact e2),
   fun e e2 => h.p16 (by rw [updB_ne (by decide)] at e; exact e) (by rw [updB_ne (by decide)] at e2; exact e2),
   fun e e2 => h.p17 (by rw [updB_ne (by decide)] at e; exact e) (by rw [updB_ne (by decide)] at e2; exact e2),
   fun e e2 => h.p18 (by rw [updB_ne (by decide)] at e; exact e) (by rw [updB_ne (by decide)] at e2; exact e2),
   fun e e2 => h.p19 (by rw [updB_ne (by decide)] at e; exact e) (by rw [updB_ne (by decide)] at e2; exact e2),
   fun e e2 => h.p20 (by rw [updB_ne (by decide)] at e; exact e) (by rw [updB_ne (by decide)] at e2; exact e2),
   fun e e2 => h.p21 (by rw [updB_ne (by decide)] at e; exact e) (by rw [updB_ne (by decide)] at e2; exact e2),
   fun _ _ => hp,
   fun e e2 => h.p23 (by rw [updB_ne (by decide)] at e; exact e) (by rw [updB_ne (by decide)] at e2; exact e2),
   fun e e2 => h.p24 (by rw [updB_ne (by decide)] at e; exact e) (by rw [updB_ne (by decide)] at e2; exact e2),
   fun e => (by rw [updB_ne (by decide), hl] at e; cases e)⟩
theorem FI.up23 {g : Nat} {A : Option Addr} {n c K B : Nat} {w0 : World} {d : Nat → Bool} {u6 u7 u8 u9 u10 u11 u12 u13 u14 u15 u16 u17 u18 u19 u20 u21 u22 u23 u24 u25 u26 u27 u28 u29 u5 v : Value} {w : World} (h : FI g A n c K B w0 d u6 u7 u8 u9 u10 u11 u12 u13 u14 u15 u16 u17 u18 u19 u20 u21 u22 u23 u24 u25 u26 u27 u28 u29 u5 w) (hl : d 25 = false) (hp : ∃ (k q : Value) (x y : Int), v = .agg #[k, q, .int .i64 x, .int .i64 y, .slice none 0 0] ∧ LdP IntE w B k [[], [1], [1, 2], [3], [2, 4]] ∧ LdP StrE w B q [[], [[97, 110, 110]], [[97, 110, 110], [99, 105, 100]]]) : FI g A n c K B w0 (updB d 23) u6 u7 u8 u9 u10 u11 u12 u13 u14 u15 u16 u17 u18 u19 u20 u21 u22 u23 u24 u25 u26 u27 u28 v u5 w :=
  ⟨h.gr,
   fun e j hj => updB_true (h.ord (by rw [updB_ne (by decide)] at e; exact e) j hj),
   fun e e2 => h.p0 (by rw [updB_ne (by decide)] at e; exact e) (by rw [updB_ne (by decide)] at e2; exact e2),
   fun e e2 => h.p1 (by rw [updB_ne (by decide)] at e; exact e) (by rw [updB_ne (by decide)] at e2; exact e2),
   fun e e2 => h.p2 (by rw [updB_ne (by decide)] at e; exact e) (by rw [updB_ne (by decide)] at e2; exact e2),
   fun e e2 => h.p3 (by rw [updB_ne (by decide)] at e; exact e) (by rw [updB_ne (by decide)] at e2; exact e2),
   fun e e2 => h.p4 (by rw [updB_ne (by decide)] at e; exact e) (by rw [updB_ne (by decide)] at e2; exact e2),
   fun e e2 => h.p5 (by rw [updB_ne (by decide)] at e; exact e) (by rw [updB_ne (by decide)] at e2; exact e2),
   fun e e2 => h.p6 (by rw [updB_ne (by decide)] at e; exact e) (by rw [updB_ne (by decide)] at e2; exact e2),
   fun e e2 => h.p7 (by rw [updB_ne (by decide)] at e; exact e) (by rw [updB_ne (by decide)] at e2; exact e2),
   fun e e2 => h.p8 (by rw [updB_ne (by decide)] at e; exact e) (by rw [updB_ne (by decide)] at e2; exact e2),
   fun e e2 => h.p9 (by rw [updB_ne (by decide)] at e; exact e) (by rw [updB_ne (by decide)] at e2; exact e2),
   fun e e2 => h.p10 (by rw [updB_ne (by decide)] at e; exact e) (by rw [updB_ne (by decide)] at e2; exact e2),
   fun e e2 => h.p11 (by rw [updB_ne (by decide)] at e; exact e) (by rw [updB_ne (by decide)] at e2; exact e2),
   fun e e2 => h.p12 (by rw [updB_ne (by decide)] at e; exact e) (by rw [updB_ne (by decide)] at e2; exact e2),
   fun e e2 => h.p13 (by rw [updB_ne (by decide)] at e; exact e) (by rw [updB_ne (by decide)] at e2; exact e2),
   fun e e2 => h.p14 (by rw [updB_ne (by decide)] at e; exact e) (by rw [updB_ne (by decide)] at e2; exact e2),
   fun e e2 => h.p15 (by rw [updB_ne (by decide)] at e; exact e) (by rw [updB_ne (by decide)] at e2; exact e2),
   fun e e2 => h.p16 (by rw [updB_ne (by decide)] at e; exact e) (by rw [updB_ne (by decide)] at e2; exact e2),
   fun e e2 => h.p17 (by rw [updB_ne (by decide)] at e; exact e) (by rw [updB_ne (by decide)] at e2; exact e2),
   fun e e2 => h.p18 (by rw [updB_ne (by decide)] at e; exact e) (by rw [updB_ne (by decide)] at e2; exact e2),
   fun e e2 => h.p19 (by rw [updB_ne (by decide)] at e; exact e) (by rw [updB_ne (by decide)] at e2; exact e2),
   fun e e2 => h.p20 (by rw [updB_ne (by decide)] at e; exact e) (by rw [updB_ne (by decide)] at e2; exact e2),
   fun e e2 => h.p21 (by rw [updB_ne (by decide)] at e; exact e) (by rw [updB_ne (by decide)] at e2; exact e2),
   fun e e2 => h.p22 (by rw [updB_ne (by decide)] at e; exact e) (by rw [updB_ne (by decide)] at e2; exact e2),
   fun _ _ => hp,
   fun e e2 => h.p24 (by rw [updB_ne (by decide)] at e; exact e) (by rw [updB_ne (by decide)] at e2; exact e2),
   fun e => (by rw [updB_ne (by decide), hl] at e; cases e)⟩
theorem FI.up24 {g : Nat} {A : Option Addr} {n c K B : Nat} {w0 : World} {d : Nat → Bool} {u6 u7 u8 u9 u10 u11 u12 u13 u14 u15 u16 u17 u18 u19 u20 u21 u22 u23 u24 u25 u26 u27 u28 u29 u5 v : Value} {w : World} (h : FI g A n c K B w0 d u6 u7 u8 u9 u10 u11 u12 u13 u14 u15 u16 u17 u18 u19 u20 u21 u22 u23 u24 u25 u26 u27 u28 u29 u5 w) (hl : d 25 = false) (hp : ∃ T : Nat, v = .pointer (some ⟨T, 0, none⟩) ∧ B ≤ T ∧ FiltB w T (.slice none 0 0) (.slice none 0 0) (.int .i64 0) (.int .i64 0) (.slice none 0 0)) : FI g A n c K B w0 (updB d 24) u6 u7 u8 u9 u10 u11 u12 u13 u14 u15 u16 u17 u18 u19 u20 u21 u22 u23 u24 u25 u26 u27 u28 u29 v w :=
  ⟨h.gr,
   fun e j hj => updB_true (h.ord (by rw [updB_ne (by decide)] at e; exact e) j hj),
   fun e e2 => h.p0 (by rw [updB_ne (by decide)] at e; exact e) (by rw [updB_ne (by decide)] at e2; exact e2),
   fun e e2 => h.p1 (by rw [updB_ne (by decide)] at e; exact e) (by rw [updB_ne (by decide)] at e2; exact e2),
   fun e e2 => h.p2 (by rw [updB_ne (by decide)] at e; exact e) (by rw [updB_ne (by decide)] at e2; exact e2),
   fun e e2 => h.p3 (by rw [updB_ne (by decide)] at e; exact e) (by rw [updB_ne (by decide)] at e2; exact e2),
   fun e e2 => h.p4 (by rw [updB_ne (by decide)] at e; exact e) (by rw [updB_ne (by decide)] at e2; exact e2),
   fun e e2 => h.p5 (by rw [updB_ne (by decide)] at e; exact e) (by rw [updB_ne (by decide)] at e2; exact e2),
   fun e e2 => h.p6 (by rw [updB_ne (by decide)] at e; exact e) (by rw [updB_ne (by decide)] at e2; exact e2),
   fun e e2 => h.p7 (by rw [updB_ne (by decide)] at e; exact e) (by rw [updB_ne (by decide)] at e2; exact e2),
   fun e e2 => h.p8 (by rw [updB_ne (by decide)] at e; exact e) (by rw [updB_ne (by decide)] at e2; exact e2),
   fun e e2 => h.p9 (by rw [updB_ne (by decide)] at e; exact e) (by rw [updB_ne (by decide)] at e2; exact e2),
   fun e e2 => h.p10 (by rw [updB_ne (by decide)] at e; exact e) (by rw [updB_ne (by decide)] at e2; exact e2),
   fun e e2 => h.p11 (by rw [updB_ne (by decide)] at e; exact e) (by rw [updB_ne (by decide)] at e2; exact e2),
   fun e e2 => h.p12 (by rw [updB_ne (by decide)] at e; exact e) (by rw [updB_ne (by decide)] at e2; exact e2),
   fun e e2 => h.p13 (by rw [updB_ne (by decide)] at e; exact e) (by rw [updB_ne (by decide)] at e2; exact e2),
   fun e e2 => h.p14 (by rw [updB_ne (by decide)] at e; exact e) (by rw [updB_ne (by decide)] at e2; exact e2),
   fun e e2 => h.p15 (by rw [updB_ne (by decide)] at e; exact e) (by rw [updB_ne (by decide)] at e2; exact e2),
   fun e e2 => h.p16 (by rw [updB_ne (by decide)] at e; exact e) (by rw [updB_ne (by decide)] at e2; exact e2),
   fun e e2 => h.p17 (by rw [updB_ne (by decide)] at e; exact e) (by rw [updB_ne (by decide)] at e2; exact e2),
   fun e e2 => h.p18 (by rw [updB_ne (by decide)] at e; exact e) (by rw [updB_ne (by decide)] at e2; exact e2),
   fun e e2 => h.p19 (by rw [updB_ne (by decide)] at e; exact e) (by rw [updB_ne (by decide)] at e2; exact e2),
   fun e e2 => h.p20 (by rw [updB_ne (by decide)] at e; exact e) (by rw [updB_ne (by decide)] at e2; exact e2),
   fun e e2 => h.p21 (by rw [updB_ne (by decide)] at e; exact e) (by rw [updB_ne (by decide)] at e2; exact e2),
   fun e e2 => h.p22 (by rw [updB_ne (by decide)] at e; exact e) (by rw [updB_ne (by decide)] at e2; exact e2),
   fun e e2 => h.p23 (by rw [updB_ne (by decide)] at e; exact e) (by rw [updB_ne (by decide)] at e2; exact e2),
   fun _ _ => hp,
   fun e => (by rw [updB_ne (by decide), hl] at e; cases e)⟩
theorem FI.done {g : Nat} {A : Option Addr} {n c K B : Nat} {w0 : World} {d : Nat → Bool} {u6 u7 u8 u9 u10 u11 u12 u13 u14 u15 u16 u17 u18 u19 u20 u21 u22 u23 u24 u25 u26 u27 u28 u29 u5 : Value} {w w' : World} (_h : FI g A n c K B w0 d u6 u7 u8 u9 u10 u11 u12 u13 u14 u15 u16 u17 u18 u19 u20 u21 u22 u23 u24 u25 u26 u27 u28 u29 u5 w) (hg : w0.grownBy w' (some g)) (ho : ∀ j, j < 25 → d j = true) (hp : ∃ (T : Nat) (k q : Value) (x y : Int), u5 = .pointer (some ⟨T, 0, none⟩) ∧ B ≤ T ∧ FiltB w' T k q (.int .i64 x) (.int .i64 y) (.slice none 0 0) ∧ LdP IntE w' B k [[], [1], [1, 2], [3], [2, 4]] ∧ LdP StrE w' B q [[], [[97, 110, 110]], [[97, 110, 110], [99, 105, 100]]]) : FI g A n c K B w0 (updB d 25) u6 u7 u8 u9 u10 u11 u12 u13 u14 u15 u16 u17 u18 u19 u20 u21 u22 u23 u24 u25 u26 u27 u28 u29 u5 w' :=
  ⟨hg,
   fun _ j hj => updB_true (ho j hj),
   fun _ e2 => (by rw [updB_same] at e2; cases e2),
   fun _ e2 => (by rw [updB_same] at e2; cases e2),
   fun _ e2 => (by rw [updB_same] at e2; cases e2),
   fun _ e2 => (by rw [updB_same] at e2; cases e2),
   fun _ e2 => (by rw [updB_same] at e2; cases e2),
   fun _ e2 => (by rw [updB_same] at e2; cases e2),
   fun _ e2 => (by rw [updB_same] at e2; cases e2),
   fun _ e2 => (by rw [updB_same] at e2; cases e2),
   fun _ e2 => (by rw [updB_same] at e2; cases e2),
   fun _ e2 => (by rw [updB_same] at e2; cases e2),
   fun _ e2 => (by rw [updB_same] at e2; cases e2),
   fun _ e2 => (by rw [updB_same] at e2; cases e2),
   fun _ e2 => (by rw [updB_same] at e2; cases e2),
   fun _ e2 => (by rw [updB_same] at e2; cases e2),
   fun _ e2 => (by rw [updB_same] at e2; cases e2),
   fun _ e2 => (by rw [updB_same] at e2; cases e2),
   fun _ e2 => (by rw [updB_same] at e2; cases e2),
   fun _ e2 => (by rw [updB_same] at e2; cases e2),
   fun _ e2 => (by rw [updB_same] at e2; cases e2),
   fun _ e2 => (by rw [updB_same] at e2; cases e2),
   fun _ e2 => (by rw [updB_same] at e2; cases e2),
   fun _ e2 => (by rw [updB_same] at e2; cases e2),
   fun _ e2 => (by rw [updB_same] at e2; cases e2),
   fun _ e2 => (by rw [updB_same] at e2; cases e2),
   fun _ e2 => (by rw [updB_same] at e2; cases e2),
   fun _ => hp⟩
set_option maxHeartbeats 6400000 in
set_option maxRecDepth 100000 in
theorem filter_any (g : Nat) (A : Option Addr) (n c K : Nat) (A1 : Option Addr) (n1 c1 : Nat) (w : World) (hs : StreamAt w g A n c K) (hK : K ≤ 50000) (l : List Itm) (hit : ItemsAt w A1 n1 c1 l) (hne : ∀ g' off, A1 = some ⟨g', off, none⟩ → g' ≠ g) (hsm : ∀ x ∈ l, (1 ≤ x.kind ∧ x.kind ≤ 4) ∧ x.text.size ≤ 500000) (hn1 : n1 ≤ 1000) :
    Calls Tryz.prog 7 #[.pointer (some ⟨g, 0, none⟩), .slice A1 n1 c1] w (FilterPost w g A n c K) := by
  have hal : Below w.heap.size w (w.alloc (.cells #[.slice none 0 0, .slice none 0 0, .int .i64 0, .int .i64 0, .slice none 0 0] 33)) := (Below.refl _ _).alloc (Nat.le_refl _) _
  have HR1 : Hid (FiltB (w.alloc (.cells #[.slice none 0 0, .slice none 0 0, .int .i64 0, .int .i64 0, .slice none 0 0] 33)) w.heap.size (.slice none 0 0) (.slice none 0 0) (.int .i64 0) (.int .i64 0) (.slice none 0 0)) := heap_alloc_new w _
  have hs1 := StreamAt.alloc hs (.cells #[.slice none 0 0, .slice none 0 0, .int .i64 0, .int .i64 0, .slice none 0 0] 33)
  have hgw := hs.lt
  have HIT := Lib.hid (hit.keep hal)
  have HALW := Lib.hid hal
  have HNE := Lib.hid hne
  have HSM := Lib.hid hsm
  clear hit hne hsm hs
  go_enter Tryz.func7, Tryz.ntmps7
  go_upto_region 1 with (fail)
  obtain ⟨R, hR⟩ : ∃ R, R = w.heap.size := ⟨_, rfl⟩
  rw [← hR] at HR1 ⊢
  have HRW : Hid (w.heap.size ≤ R) := Nat.le_of_eq hR.symm
  generalize w.alloc (.cells #[.slice none 0 0, .slice none 0 0, .int .i64 0, .int .i64 0, .slice none 0 0] 33) = w1 at *
  clear hR
  obtain ⟨B, hB1⟩ : ∃ B, B = w1.heap.size := ⟨_, rfl⟩
  have hB : g < B := by have := hal.size; omega
  have hB0 : B ≤ w1.heap.size := Nat.le_of_eq hB1
  have hB2 : w1.heap.size ≤ B := Nat.le_of_eq hB1.symm
  clear hB1
  refine wp_region_free (by kernel_rfl) (by kernel_rfl) (fun a0 d a w => ∃ u6 u7 u8 u9 u10 u11 u12 u13 u14 u15 u16 u17 u18 u19 u20 u21 u22 u23 u24 u25 u26 u27 u28 u29 u5 : Value, a = (((((((((((((((((((((((((a0.put (some 6) u6).put (some 7) u7).put (some 8) u8).put (some 9) u9).put (some 10) u10).put (some 11) u11).put (some 12) u12).put (some 13) u13).put (some 14) u14).put (some 15) u15).put (some 16) u16).put (some 17) u17).put (some 18) u18).put (some 19) u19).put (some 20) u20).put (some 21) u21).put (some 22) u22).put (some 23) u23).put (some 24) u24).put (some 25) u25).put (some 26) u26).put (some 27) u27).put (some 28) u28).put (some 29) u29).put (some 5) u5) ∧ FI g A n c K B w1 d u6 u7 u8 u9 u10 u11 u12 u13 u14 u15 u16 u17 u18 u19 u20 u21 u22 u23 u24 u25 u26 u27 u28 u29 u5 w ∧ StreamAt w g A n c (K + cntF d [6, 13, 18, 21])) ?_ ?_ ?_
  · refine ⟨undef, undef, undef, undef, undef, undef, undef, undef, undef, undef, undef, undef, undef, undef, undef, undef, undef, undef, undef, undef, undef, undef, undef, undef, undef, ?_, ⟨⟨rfl, rfl, rfl, Nat.le_refl _, fun i _ _ => rfl⟩, fun e => (by cases e), fun e => (by cases e), fun e => (by cases e), fun e => (by cases e), fun e => (by cases e), fun e => (by cases e), fun e => (by cases e), fun e => (by cases e), fun e => (by cases e), fun e => (by cases e), fun e => (by cases e), fun e => (by cases e), fun e => (by cases e), fun e => (by cases e), fun e => (by cases e), fun e => (by cases e), fun e => (by cases e), fun e => (by cases e), fun e => (by cases e), fun e => (by cases e), fun e => (by cases e), fun e => (by cases e), fun e => (by cases e), fun e => (by cases e), fun e => (by cases e), fun e => (by cases e), fun e => (by cases e)⟩, (by rw [show cntF (fun _ => false) [6, 13, 18, 21] = 0 from rfl]; exact hs1.keep fun _ _ => rfl)⟩
    simp only [Act.put, List.setIfInBounds_toArray, List.set_cons_zero, List.set_cons_succ]
  · refine free_cons ?_ (free_cons ?_ (free_cons ?_ (free_cons ?_ (free_cons ?_ (free_cons ?_ (free_cons ?_ (free_cons ?_ (free_cons ?_ (free_cons ?_ (free_cons ?_ (free_cons ?_ (free_cons ?_ (free_cons ?_ (free_cons ?_ (free_cons ?_ (free_cons ?_ (free_cons ?_ (free_cons ?_ (free_cons ?_ (free_cons ?_ (free_cons ?_ (free_cons ?_ (free_cons ?_ (free_cons ?_ (free_cons ?_ free_nil)))))))))))))))))))))))))
    · intro d a w hI hd hdep K' hKK
      have HKK := Lib.hid hKK
      clear hKK
      obtain ⟨u6, u7, u8, u9, u10, u11, u12, u13, u14, u15, u16, u17, u18, u19, u20, u21, u22, u23, u24, u25, u26, u27, u28, u29, u5, ha, h, hs⟩ := hI
      subst ha
      have hl : d 25 = false := by
        cases hx : d 25 with
        | false => rfl
        | true => rw [h.ord hx 0 (by decide)] at hd; cases hd
      rw [if_pos (by rfl)]
      simp only [Act.put, List.setIfInBounds_toArray, List.set_cons_zero, List.set_cons_succ]
      go_wp2_with fail
      refine HKK.out _ _ ⟨.slice (some ⟨w.heap.size, 0, none⟩) 1 1, u7, u8, u9, u10, u11, u12, u13, u14, u15, u16, u17, u18, u19, u20, u21, u22, u23, u24, u25, u26, u27, u28, u29, u5, ?_, (h.grow (grown_alloc (World.grownBy.refl _ _) _) hB hl).up0 hl (Owns.lit intE_ok w B [1] (Nat.le_trans hB0 h.gr.size) (by decide)), by rw [cntF_ne (by decide)]; exact (StreamAt.alloc hs _)⟩
      simp only [Act.put, List.setIfInBounds_toArray, List.set_cons_zero, List.set_cons_succ]
    · intro d a w hI hd hdep K' hKK
      have HKK := Lib.hid hKK
      clear hKK
      obtain ⟨u6, u7, u8, u9, u10, u11, u12, u13, u14, u15, u16, u17, u18, u19, u20, u21, u22, u23, u24, u25, u26, u27, u28, u29, u5, ha, h, hs⟩ := hI
      subst ha
      have hl : d 25 = false := by
        cases hx : d 25 with
        | false => rfl
        | true => rw [h.ord hx 1 (by decide)] at hd; cases hd
      rw [if_pos (by rfl)]
      simp only [Act.put, List.setIfInBounds_toArray, List.set_cons_zero, List.set_cons_succ]
      go_wp2_with fail
      refine HKK.out _ _ ⟨u6, .slice (some ⟨w.heap.size, 0, none⟩) 2 2, u8, u9, u10, u11, u12, u13, u14, u15, u16, u17, u18, u19, u20, u21, u22, u23, u24, u25, u26, u27, u28, u29, u5, ?_, (h.grow (grown_alloc (World.grownBy.refl _ _) _) hB hl).up1 hl (Owns.lit intE_ok w B [1, 2] (Nat.le_trans hB0 h.gr.size) (by decide)), by rw [cntF_ne (by decide)]; exact (StreamAt.alloc hs _)⟩
      simp only [Act.put, List.setIfInBounds_toArray, List.set_cons_zero, List.set_cons_succ]
    · intro d a w hI hd hdep K' hKK
      have HKK := Lib.hid hKK
      clear hKK
      obtain ⟨u6, u7, u8, u9, u10, u11, u12, u13, u14, u15, u16, u17, u18, u19, u20, u21, u22, u23, u24, u25, u26, u27, u28, u29, u5, ha, h, hs⟩ := hI
      subst ha
      have hl : d 25 = false := by
        cases hx : d 25 with
        | false => rfl
        | true => rw [h.ord hx 2 (by decide)] at hd; cases hd
      rw [if_pos (by rfl)]
      simp only [Act.put, List.setIfInBounds_toArray, List.set_cons_zero, List.set_cons_succ]
      go_wp2_with fail
      refine HKK.out _ _ ⟨u6, u7, .slice (some ⟨w.heap.size, 0, none⟩) 1 1, u9, u10, u11, u12, u13, u14, u15, u16, u17, u18, u19, u20, u21, u22, u23, u24, u25, u26, u27, u28, u29, u5, ?_, (h.grow (grown_alloc (World.grownBy.refl _ _) _) hB hl).up2 hl (Owns.lit intE_ok w B [3] (Nat.le_trans hB0 h.gr.size) (by decide)), by rw [cntF_ne (by decide)]; exact (StreamAt.alloc hs _)⟩
      simp only [Act.put, List.setIfInBounds_toArray, List.set_cons_zero, List.set_cons_succ]
    · intro d a w hI hd hdep K' hKK
      have HKK := Lib.hid hKK
      clear hKK
      obtain ⟨u6, u7, u8, u9, u10, u11, u12, u13, u14, u15, u16, u17, u18, u19, u20, u21, u22, u23, u24, u25, u26, u27, u28, u29, u5, ha, h, hs⟩ := hI
      subst ha
      have hl : d 25 = false := by
        cases hx : d 25 with
        | false => rfl
        | true => rw [h.ord hx 3 (by decide)] at hd; cases hd
      rw [if_pos (by rfl)]
      simp only [Act.put, List.setIfInBounds_toArray, List.set_cons_zero, List.set_cons_succ]
      go_wp2_with fail
      refine HKK.out _ _ ⟨u6, u7, u8, .slice (some ⟨w.heap.size, 0, none⟩) 2 2, u10, u11, u12, u13, u14, u15, u16, u17, u18, u19, u20, u21, u22, u23, u24, u25, u26, u27, u28, u29, u5, ?_, (h.grow (grown_alloc (World.grownBy.refl _ _) _) hB hl).up3 hl (Owns.lit intE_ok w B [2, 4] (Nat.le_trans hB0 h.gr.size) (by decide)), by rw [cntF_ne (by decide)]; exact (StreamAt.alloc hs _)⟩
      simp only [Act.put, List.setIfInBounds_toArray, List.set_cons_zero, List.set_cons_succ]
    · intro d a w hI hd hdep K' hKK
      have HKK := Lib.hid hKK
      clear hKK
      obtain ⟨u6, u7, u8, u9, u10, u11, u12, u13, u14, u15, u16, u17, u18, u19, u20, u21, u22, u23, u24, u25, u26, u27, u28, u29, u5, ha, h, hs⟩ := hI
      subst ha
      have e0 : d 0 = true := hdep 0 (by kernel_rfl)
      have e1 : d 1 = true := hdep 1 (by kernel_rfl)
      have e2 : d 2 = true := hdep 2 (by kernel_rfl)
      have e3 : d 3 = true := hdep 3 (by kernel_rfl)
      have hl : d 25 = false := by
        cases hx : d 25 with
        | false => rfl
        | true => rw [h.ord hx 4 (by decide)] at hd; cases hd
      rw [if_pos (by rfl)]
      simp only [Act.put, List.setIfInBounds_toArray, List.set_cons_zero, List.set_cons_succ]
      obtain ⟨A0, c0, hv0, -, -, -⟩ := (h.p0 e0 hl).at_ intE_ok
      dsimp only [List.length_cons, List.length_nil, Nat.reduceAdd] at hv0
      subst hv0
      obtain ⟨A1, c1, hv1, -, -, -⟩ := (h.p1 e1 hl).at_ intE_ok
      dsimp only [List.length_cons, List.length_nil, Nat.reduceAdd] at hv1
      subst hv1
      obtain ⟨A2, c2, hv2, -, -, -⟩ := (h.p2 e2 hl).at_ intE_ok
      dsimp only [List.length_cons, List.length_nil, Nat.reduceAdd] at hv2
      subst hv2
      obtain ⟨A3, c3, hv3, -, -, -⟩ := (h.p3 e3 hl).at_ intE_ok
      dsimp only [List.length_cons, List.length_nil, Nat.reduceAdd] at hv3
      subst hv3
      go_wp2_with fail
      refine HKK.out _ _ ⟨(.slice A0 _ c0), (.slice A1 _ c1), (.slice A2 _ c2), (.slice A3 _ c3), .slice (some ⟨w.heap.size, 0, none⟩) 5 5, u11, u12, u13, u14, u15, u16, u17, u18, u19, u20, u21, u22, u23, u24, u25, u26, u27, u28, u29, u5, ?_, (h.grow (grown_alloc (World.grownBy.refl _ _) _) hB hl).up4 hl (TabP.alloc (vs := [.slice none 0 0, .slice A0 _ c0, .slice A1 _ c1, .slice A2 _ c2, .slice A3 _ c3]) (Ls := [[], [1], [1, 2], [3], [2, 4]]) (Nat.le_trans hB0 h.gr.size) rfl (tab_cons (Owns.nil _ _) (tab_cons (h.p0 e0 hl) (tab_cons (h.p1 e1 hl) (tab_cons (h.p2 e2 hl) (tab_cons (h.p3 e3 hl) tab_nil)))))), by rw [cntF_ne (by decide)]; exact (StreamAt.alloc hs _)⟩
      simp only [Act.put, List.setIfInBounds_toArray, List.set_cons_zero, List.set_cons_succ]
    · intro d a w hI hd hdep K' hKK
      have HKK := Lib.hid hKK
      clear hKK
      obtain ⟨u6, u7, u8, u9, u10, u11, u12, u13, u14, u15, u16, u17, u18, u19, u20, u21, u22, u23, u24, u25, u26, u27, u28, u29, u5, ha, h, hs⟩ := hI
      subst ha
      have hl : d 25 = false := by
        cases hx : d 25 with
        | false => rfl
        | true => rw [h.ord hx 5 (by decide)] at hd; cases hd
      rw [if_pos (by rfl)]
      simp only [Act.put, List.setIfInBounds_toArray, List.set_cons_zero, List.set_cons_succ]
      go_wp2_with fail
      refine HKK.out _ _ ⟨u6, u7, u8, u9, u10, .pointer (some ⟨g, 0, none⟩), u12, u13, u14, u15, u16, u17, u18, u19, u20, u21, u22, u23, u24, u25, u26, u27, u28, u29, u5, ?_, h.up5 hl rfl, by rw [cntF_ne (by decide)]; exact hs⟩
      simp only [Act.put, List.setIfInBounds_toArray, List.set_cons_zero, List.set_cons_succ]
    · intro d a w hI hd hdep K' hKK
      have HKK := Lib.hid hKK
      clear hKK
      obtain ⟨u6, u7, u8, u9, u10, u11, u12, u13, u14, u15, u16, u17, u18, u19, u20, u21, u22, u23, u24, u25, u26, u27, u28, u29, u5, ha, h, hs⟩ := hI
      subst ha
      have e5 : d 5 = true := hdep 5 (by kernel_rfl)
      have hl : d 25 = false := by
        cases hx : d 25 with
        | false => rfl
        | true => rw [h.ord hx 6 (by decide)] at hd; cases hd
      have hcn := cntF_le d [6, 13, 18, 21]
      simp only [List.length_cons, List.length_nil] at hcn
      rw [if_pos (by rfl)]
      simp only [Act.put, List.setIfInBounds_toArray, List.set_cons_zero, List.set_cons_succ]
      have hp := h.p5 e5 hl
      subst hp
      go_wp2_with fail
      refine (next_any g A n c _ 5 w hs (by omega) (by omega)).mono ?_
      rintro e w' ⟨r, rfl, hr0, hr1, hs', hg'⟩
      obtain ⟨q, rfl⟩ := Int.eq_ofNat_of_zero_le hr0
      have hq := hr1 (by omega)
      go_wp2_with fail
      refine HKK.out _ _ ⟨u6, u7, u8, u9, u10, (.pointer (some ⟨g, 0, none⟩)), .int .i64 (q : Int), u13, u14, u15, u16, u17, u18, u19, u20, u21, u22, u23, u24, u25, u26, u27, u28, u29, u5, ?_, (h.grow hg' hB hl).up6 hl ⟨q, rfl, by omega⟩, by rw [cntF_in (by decide) (by decide) hd]; exact hs'⟩
      simp only [Act.put, List.setIfInBounds_toArray, List.set_cons_zero, List.set_cons_succ]
    · intro d a w hI hd hdep K' hKK
      have HKK := Lib.hid hKK
      clear hKK
      obtain ⟨u6, u7, u8, u9, u10, u11, u12, u13, u14, u15, u16, u17, u18, u19, u20, u21, u22, u23, u24, u25, u26, u27, u28, u29, u5, ha, h, hs⟩ := hI
      subst ha
      have e4 : d 4 = true := hdep 4 (by kernel_rfl)
      have e6 : d 6 = true := hdep 6 (by kernel_rfl)
      have hl : d 25 = false := by
        cases hx : d 25 with
        | false => rfl
        | true => rw [h.ord hx 7 (by decide)] at hd; cases hd
      rw [if_pos (by rfl)]
      simp only [Act.put, List.setIfInBounds_toArray, List.set_cons_zero, List.set_cons_succ]
      obtain ⟨G, hv, hat⟩ := (h.p4 e4 hl).at_
      dsimp only [List.length_cons, List.length_nil, Nat.reduceAdd] at hv hat
      subst hv
      obtain ⟨q, rfl, hq⟩ := h.p6 e6 hl
      go_wp2_with fail
      refine HKK.out _ _ ⟨u6, u7, u8, u9, (.slice (some ⟨G, 0, none⟩) _ _), u11, (.int .i64 (q : Int)), .pointer (some ⟨G, q, none⟩), u14, u15, u16, u17, u18, u19, u20, u21, u22, u23, u24, u25, u26, u27, u28, u29, u5, ?_, h.up7 hl (hat q hq), by rw [cntF_ne (by decide)]; exact hs⟩
      simp only [Act.put, List.setIfInBounds_toArray, List.set_cons_zero, List.set_cons_succ]
    · intro d a w hI hd hdep K' hKK
      have HKK := Lib.hid hKK
      clear hKK
      obtain ⟨u6, u7, u8, u9, u10, u11, u12, u13, u14, u15, u16, u17, u18, u19, u20, u21, u22, u23, u24, u25, u26, u27, u28, u29, u5, ha, h, hs⟩ := hI
      subst ha
      have e7 : d 7 = true := hdep 7 (by kernel_rfl)
      have hl : d 25 = false := by
        cases hx : d 25 with
        | false => rfl
        | true => rw [h.ord hx 8 (by decide)] at hd; cases hd
      rw [if_pos (by rfl)]
      simp only [Act.put, List.setIfInBounds_toArray, List.set_cons_zero, List.set_cons_succ]
      obtain ⟨G, q, v, l, rfl, hGB, hGw, hcl, hm, ho⟩ := h.p7 e7 hl
      go_wp2_with fail
      refine HKK.out _ _ ⟨u6, u7, u8, u9, u10, u11, u12, (.pointer (some ⟨G, q, none⟩)), v, u15, u16, u17, u18, u19, u20, u21, u22, u23, u24, u25, u26, u27, u28, u29, u5, ?_, h.up8 hl ⟨l, hm, ho⟩, by rw [cntF_ne (by decide)]; exact hs⟩
      simp only [Act.put, List.setIfInBounds_toArray, List.set_cons_zero, List.set_cons_succ]
    · intro d a w hI hd hdep K' hKK
      have HKK := Lib.hid hKK
      clear hKK
      obtain ⟨u6, u7, u8, u9, u10, u11, u12, u13, u14, u15, u16, u17, u18, u19, u20, u21, u22, u23, u24, u25, u26, u27, u28, u29, u5, ha, h, hs⟩ := hI
      subst ha
      have hl : d 25 = false := by
        cases hx : d 25 with
        | false => rfl
        | true => rw [h.ord hx 9 (by decide)] at hd; cases hd
      rw [if_pos (by rfl)]
      simp only [Act.put, List.setIfInBounds_toArray, List.set_cons_zero, List.set_cons_succ]
      go_wp2_with fail
      refine HKK.out _ _ ⟨u6, u7, u8, u9, u10, u11, u12, u13, u14, .slice (some ⟨w.heap.size, 0, none⟩) 1 1, u16, u17, u18, u19, u20, u21, u22, u23, u24, u25, u26, u27, u28, u29, u5, ?_, (h.grow (grown_alloc (World.grownBy.refl _ _) _) hB hl).up9 hl (Owns.lit strE_ok w B [[97, 110, 110]] (Nat.le_trans hB0 h.gr.size) (by decide)), by rw [cntF_ne (by decide)]; exact (StreamAt.alloc hs _)⟩
      simp only [Act.put, List.setIfInBounds_toArray, List.set_cons_zero, List.set_cons_succ]
    · intro d a w hI hd hdep K' hKK
      have HKK := Lib.hid hKK
      clear hKK
      obtain ⟨u6, u7, u8, u9, u10, u11, u12, u13, u14, u15, u16, u17, u18, u19, u20, u21, u22, u23, u24, u25, u26, u27, u28, u29, u5, ha, h, hs⟩ := hI
      subst ha
      have hl : d 25 = false := by
        cases hx : d 25 with
        | false => rfl
        | true => rw [h.ord hx 10 (by decide)] at hd; cases hd
      rw [if_pos (by rfl)]
      simp only [Act.put, List.setIfInBounds_toArray, List.set_cons_zero, List.set_cons_succ]
      go_wp2_with fail
      refine HKK.out _ _ ⟨u6, u7, u8, u9, u10, u11, u12, u13, u14, u15, .slice (some ⟨w.heap.size, 0, none⟩) 2 2, u17, u18, u19, u20, u21, u22, u23, u24, u25, u26, u27, u28, u29, u5, ?_, (h.grow (grown_alloc (World.grownBy.refl _ _) _) hB hl).up10 hl (Owns.lit strE_ok w B [[97, 110, 110], [99, 105, 100]] (Nat.le_trans hB0 h.gr.size) (by decide)), by rw [cntF_ne (by decide)]; exact (StreamAt.alloc hs _)⟩
      simp only [Act.put, List.setIfInBounds_toArray, List.set_cons_zero, List.set_cons_succ]
    · intro d a w hI hd hdep K' hKK
      have HKK := Lib.hid hKK
      clear hKK
      obtain ⟨u6, u7, u8, u9, u10, u11, u12, u13, u14, u15, u16, u17, u18, u19, u20, u21, u22, u23, u24, u25, u26, u27, u28, u29, u5, ha, h, hs⟩ := hI
      subst ha
      have e9 : d 9 = true := hdep 9 (by kernel_rfl)
      have e10 : d 10 = true := hdep 10 (by kernel_rfl)
      have hl : d 25 = false := by
        cases hx : d 25 with
        | false => rfl
        | true => rw [h.ord hx 11 (by decide)] at hd; cases hd
      rw [if_pos (by rfl)]
      simp only [Act.put, List.setIfInBounds_toArray, List.set_cons_zero, List.set_cons_succ]
      obtain ⟨A9, c9, hv9, -, -, -⟩ := (h.p9 e9 hl).at_ strE_ok
      dsimp only [List.length_cons, List.length_nil, Nat.reduceAdd] at hv9
      subst hv9
      obtain ⟨A10, c10, hv10, -, -, -⟩ := (h.p10 e10 hl).at_ strE_ok
      dsimp only [List.length_cons, List.length_nil, Nat.reduceAdd] at hv10
      subst hv10
      go_wp2_with fail
      refine HKK.out _ _ ⟨u6, u7, u8, u9, u10, u11, u12, u13, u14, (.slice A9 _ c9), (.slice A10 _ c10), .slice (some ⟨w.heap.size, 0, none⟩) 3 3, u18, u19, u20, u21, u22, u23, u24, u25, u26, u27, u28, u29, u5, ?_, (h.grow (grown_alloc (World.grownBy.refl _ _) _) hB hl).up11 hl (TabP.alloc (vs := [.slice none 0 0, .slice A9 _ c9, .slice A10 _ c10]) (Ls := [[], [[97, 110, 110]], [[97, 110, 110], [99, 105, 100]]]) (Nat.le_trans hB0 h.gr.size) rfl (tab_cons (Owns.nil _ _) (tab_cons (h.p9 e9 hl) (tab_cons (h.p10 e10 hl) tab_nil)))), by rw [cntF_ne (by decide)]; exact (StreamAt.alloc hs _)⟩
      simp only [Act.put, List.setIfInBounds_toArray, List.set_cons_zero, List.set_cons_succ]
    · intro d a w hI hd hdep K' hKK
      have HKK := Lib.hid hKK
      clear hKK
      obtain ⟨u6, u7, u8, u9, u10, u11, u12, u13, u14, u15, u16, u17, u18, u19, u20, u21, u22, u23, u24, u25, u26, u27, u28, u29, u5, ha, h, hs⟩ := hI
      subst ha
      have hl : d 25 = false := by
        cases hx : d 25 with
        | false => rfl
        | true => rw [h.ord hx 12 (by decide)] at hd; cases hd
      rw [if_pos (by rfl)]
      simp only [Act.put, List.setIfInBounds_toArray, List.set_cons_zero, List.set_cons_succ]
      go_wp2_with fail
      refine HKK.out _ _ ⟨u6, u7, u8, u9, u10, u11, u12, u13, u14, u15, u16, u17, .pointer (some ⟨g, 0, none⟩), u19, u20, u21, u22, u23, u24, u25, u26, u27, u28, u29, u5, ?_, h.up12 hl rfl, by rw [cntF_ne (by decide)]; exact hs⟩
      simp only [Act.put, List.setIfInBounds_toArray, List.set_cons_zero, List.set_cons_succ]
    · intro d a w hI hd hdep K' hKK
      have HKK := Lib.hid hKK
      clear hKK
      obtain ⟨u6, u7, u8, u9, u10, u11, u12, u13, u14, u15, u16, u17, u18, u19, u20, u21, u22, u23, u24, u25, u26, u27, u28, u29, u5, ha, h, hs⟩ := hI
      subst ha
      have e12 : d 12 = true := hdep 12 (by kernel_rfl)
      have hl : d 25 = false := by
        cases hx : d 25 with
        | false => rfl
        | true => rw [h.ord hx 13 (by decide)] at hd; cases hd
      have hcn := cntF_le d [6, 13, 18, 21]
      simp only [List.length_cons, List.length_nil] at hcn
      rw [if_pos (by rfl)]
      simp only [Act.put, List.setIfInBounds_toArray, List.set_cons_zero, List.set_cons_succ]
      have hp := h.p12 e12 hl
      subst hp
      go_wp2_with fail
      refine (next_any g A n c _ 3 w hs (by omega) (by omega)).mono ?_
      rintro e w' ⟨r, rfl, hr0, hr1, hs', hg'⟩
      obtain ⟨q, rfl⟩ := Int.eq_ofNat_of_zero_le hr0
      have hq := hr1 (by omega)
      go_wp2_with fail
      refine HKK.out _ _ ⟨u6, u7, u8, u9, u10, u11, u12, u13, u14, u15, u16, u17, (.pointer (some ⟨g, 0, none⟩)), .int .i64 (q : Int), u20, u21, u22, u23, u24, u25, u26, u27, u28, u29, u5, ?_, (h.grow hg' hB hl).up13 hl ⟨q, rfl, by omega⟩, by rw [cntF_in (by decide) (by decide) hd]; exact hs'⟩
      simp only [Act.put, List.setIfInBounds_toArray, List.set_cons_zero, List.set_cons_succ]
    · intro d a w hI hd hdep K' hKK
      have HKK := Lib.hid hKK
      clear hKK
      obtain ⟨u6, u7, u8, u9, u10, u11, u12, u13, u14, u15, u16, u17, u18, u19, u20, u21, u22, u23, u24, u25, u26, u27, u28, u29, u5, ha, h, hs⟩ := hI
      subst ha
      have e11 : d 11 = true := hdep 11 (by kernel_rfl)
      have e13 : d 13 = true := hdep 13 (by kernel_rfl)
      have hl : d 25 = false := by
        cases hx : d 25 with
        | false => rfl
        | true => rw [h.ord hx 14 (by decide)] at hd; cases hd
      rw [if_pos (by rfl)]
      simp only [Act.put, List.setIfInBounds_toArray, List.set_cons_zero, List.set_cons_succ]
      obtain ⟨G, hv, hat⟩ := (h.p11 e11 hl).at_
      dsimp only [List.length_cons, List.length_nil, Nat.reduceAdd] at hv hat
      subst hv
      obtain ⟨q, rfl, hq⟩ := h.p13 e13 hl
      go_wp2_with fail
      refine HKK.out _ _ ⟨u6, u7, u8, u9, u10, u11, u12, u13, u14, u15, u16, (.slice (some ⟨G, 0, none⟩) _ _), u18, (.int .i64 (q : Int)), .pointer (some ⟨G, q, none⟩), u21, u22, u23, u24, u25, u26, u27, u28, u29, u5, ?_, h.up14 hl (hat q hq), by rw [cntF_ne (by decide)]; exact hs⟩
      simp only [Act.put, List.setIfInBounds_toArray, List.set_cons_zero, List.set_cons_succ]
    · intro d a w hI hd hdep K' hKK
      have HKK := Lib.hid hKK
      clear hKK
      obtain ⟨u6, u7, u8, u9, u10, u11, u12, u13, u14, u15, u16, u17, u18, u19, u20, u21, u22, u23, u24, u25, u26, u27, u28, u29, u5, ha, h, hs⟩ := hI
      subst ha
      have e14 : d 14 = true := hdep 14 (by kernel_rfl)
      have hl : d 25 = false := by
        cases hx : d 25 with
        | false => rfl
        | true => rw [h.ord hx 15 (by decide)] at hd; cases hd
      rw [if_pos (by rfl)]
      simp only [Act.put, List.setIfInBounds_toArray, List.set_cons_zero, List.set_cons_succ]
      obtain ⟨G, q, v, l, rfl, hGB, hGw, hcl, hm, ho⟩ := h.p14 e14 hl
      go_wp2_with fail
      refine HKK.out _ _ ⟨u6, u7, u8, u9, u10, u11, u12, u13, u14, u15, u16, u17, u18, u19, (.pointer (some ⟨G, q, none⟩)), v, u22, u23, u24, u25, u26, u27, u28, u29, u5, ?_, h.up15 hl ⟨l, hm, ho⟩, by rw [cntF_ne (by decide)]; exact hs⟩
      simp only [Act.put, List.setIfInBounds_toArray, List.set_cons_zero, List.set_cons_succ]
    · intro d a w hI hd hdep K' hKK
      have HKK := Lib.hid hKK
      clear hKK
      obtain ⟨u6, u7, u8, u9, u10, u11, u12, u13, u14, u15, u16, u17, u18, u19, u20, u21, u22, u23, u24, u25, u26, u27, u28, u29, u5, ha, h, hs⟩ := hI
      subst ha
      have hl : d 25 = false := by
        cases hx : d 25 with
        | false => rfl
        | true => rw [h.ord hx 16 (by decide)] at hd; cases hd
      rw [if_pos (by rfl)]
      simp only [Act.put, List.setIfInBounds_toArray, List.set_cons_zero, List.set_cons_succ]
      go_wp2_with fail
      refine HKK.out _ _ ⟨u6, u7, u8, u9, u10, u11, u12, u13, u14, u15, u16, u17, u18, u19, u20, u21, .pointer (some ⟨g, 0, none⟩), u23, u24, u25, u26, u27, u28, u29, u5, ?_, h.up16 hl rfl, by rw [cntF_ne (by decide)]; exact hs⟩
      simp only [Act.put, List.setIfInBounds_toArray, List.set_cons_zero, List.set_cons_succ]
    · intro d a w hI hd hdep K' hKK
      have HKK := Lib.hid hKK
      clear hKK
      obtain ⟨u6, u7, u8, u9, u10, u11, u12, u13, u14, u15, u16, u17, u18, u19, u20, u21, u22, u23, u24, u25, u26, u27, u28, u29, u5, ha, h, hs⟩ := hI
      subst ha
      have hl : d 25 = false := by
        cases hx : d 25 with
        | false => rfl
        | true => rw [h.ord hx 17 (by decide)] at hd; cases hd
      rw [if_pos (by rfl)]
      simp only [Act.put, List.setIfInBounds_toArray, List.set_cons_zero, List.set_cons_succ]
      go_wp2_with fail
      refine HKK.out _ _ ⟨u6, u7, u8, u9, u10, u11, u12, u13, u14, u15, u16, u17, u18, u19, u20, u21, u22, .slice (some ⟨w.heap.size, 0, none⟩) 4 4, u24, u25, u26, u27, u28, u29, u5, ?_, (h.grow (grown_alloc (World.grownBy.refl _ _) _) hB hl).up17 hl (Owns.lit intE_ok w B [0, 0, 50, 1440] (Nat.le_trans hB0 h.gr.size) (by decide)), by rw [cntF_ne (by decide)]; exact (StreamAt.alloc hs _)⟩
      simp only [Act.put, List.setIfInBounds_toArray, List.set_cons_zero, List.set_cons_succ]
    · intro d a w hI hd hdep K' hKK
      have HKK := Lib.hid hKK
      clear hKK
      obtain ⟨u6, u7, u8, u9, u10, u11, u12, u13, u14, u15, u16, u17, u18, u19, u20, u21, u22, u23, u24, u25, u26, u27, u28, u29, u5, ha, h, hs⟩ := hI
      subst ha
      have e16 : d 16 = true := hdep 16 (by kernel_rfl)
      have e17 : d 17 = true := hdep 17 (by kernel_rfl)
      have hl : d 25 = false := by
        cases hx : d 25 with
        | false => rfl
        | true => rw [h.ord hx 18 (by decide)] at hd; cases hd
      have hcn := cntF_le d [6, 13, 18, 21]
      simp only [List.length_cons, List.length_nil] at hcn
      rw [if_pos (by rfl)]
      simp only [Act.put, List.setIfInBounds_toArray, List.set_cons_zero, List.set_cons_succ]
      have hp := h.p16 e16 hl
      subst hp
      obtain ⟨G, cc, hv, hGB, hcl⟩ := (h.p17 e17 hl).litsP (by decide)
      dsimp only [List.length_cons, List.length_nil, Nat.reduceAdd] at hv
      subst hv
      go_wp2_with fail
      refine (pickI_any g A n c _ 0 1440 G 4 _ w hs (by omega) (by omega) (by omega) (by omega) (fun j hj => ⟨_, hcl j hj, pick_lo24 j hj⟩)).mono ?_
      rintro e w' ⟨r, rfl, hr0, hr1, hs', hg'⟩
      go_wp2_with fail
      refine HKK.out _ _ ⟨u6, u7, u8, u9, u10, u11, u12, u13, u14, u15, u16, u17, u18, u19, u20, u21, (.pointer (some ⟨g, 0, none⟩)), (.slice (some ⟨G, 0, none⟩) _ cc), .int .i64 r, u25, u26, u27, u28, u29, u5, ?_, (h.grow hg' hB hl).up18 hl ⟨r, rfl, hr0, hr1⟩, by rw [cntF_in (by decide) (by decide) hd]; exact hs'⟩
      simp only [Act.put, List.setIfInBounds_toArray, List.set_cons_zero, List.set_cons_succ]
    · intro d a w hI hd hdep K' hKK
      have HKK := Lib.hid hKK
      clear hKK
      obtain ⟨u6, u7, u8, u9, u10, u11, u12, u13, u14, u15, u16, u17, u18, u19, u20, u21, u22, u23, u24, u25, u26, u27, u28, u29, u5, ha, h, hs⟩ := hI
      subst ha
      have hl : d 25 = false := by
        cases hx : d 25 with
        | false => rfl
        | true => rw [h.ord hx 19 (by decide)] at hd; cases hd
      rw [if_pos (by rfl)]
      simp only [Act.put, List.setIfInBounds_toArray, List.set_cons_zero, List.set_cons_succ]
      go_wp2_with fail
      refine HKK.out _ _ ⟨u6, u7, u8, u9, u10, u11, u12, u13, u14, u15, u16, u17, u18, u19, u20, u21, u22, u23, u24, .pointer (some ⟨g, 0, none⟩), u26, u27, u28, u29, u5, ?_, h.up19 hl rfl, by rw [cntF_ne (by decide)]; exact hs⟩
      simp only [Act.put, List.setIfInBounds_toArray, List.set_cons_zero, List.set_cons_succ]
    · intro d a w hI hd hdep K' hKK
      have HKK := Lib.hid hKK
      clear hKK
      obtain ⟨u6, u7, u8, u9, u10, u11, u12, u13, u14, u15, u16, u17, u18, u19, u20, u21, u22, u23, u24, u25, u26, u27, u28, u29, u5, ha, h, hs⟩ := hI
      subst ha
      have hl : d 25 = false := by
        cases hx : d 25 with
        | false => rfl
        | true => rw [h.ord hx 20 (by decide)] at hd; cases hd
      rw [if_pos (by rfl)]
      simp only [Act.put, List.setIfInBounds_toArray, List.set_cons_zero, List.set_cons_succ]
      go_wp2_with fail
      refine HKK.out _ _ ⟨u6, u7, u8, u9, u10, u11, u12, u13, u14, u15, u16, u17, u18, u19, u20, u21, u22, u23, u24, u25, .slice (some ⟨w.heap.size, 0, none⟩) 3 3, u27, u28, u29, u5, ?_, (h.grow (grown_alloc (World.grownBy.refl _ _) _) hB hl).up20 hl (Owns.lit intE_ok w B [5761440, 5761440, 5000] (Nat.le_trans hB0 h.gr.size) (by decide)), by rw [cntF_ne (by decide)]; exact (StreamAt.alloc hs _)⟩
      simp only [Act.put, List.setIfInBounds_toArray, List.set_cons_zero, List.set_cons_succ]
    · intro d a w hI hd hdep K' hKK
      have HKK := Lib.hid hKK
      clear hKK
      obtain ⟨u6, u7, u8, u9, u10, u11, u12, u13, u14, u15, u16, u17, u18, u19, u20, u21, u22, u23, u24, u25, u26, u27, u28, u29, u5, ha, h, hs⟩ := hI
      subst ha
      have e19 : d 19 = true := hdep 19 (by kernel_rfl)
      have e20 : d 20 = true := hdep 20 (by kernel_rfl)
      have hl : d 25 = false := by
        cases hx : d 25 with
        | false => rfl
        | true => rw [h.ord hx 21 (by decide)] at hd; cases hd
      have hcn := cntF_le d [6, 13, 18, 21]
      simp only [List.length_cons, List.length_nil] at hcn
      rw [if_pos (by rfl)]
      simp only [Act.put, List.setIfInBounds_toArray, List.set_cons_zero, List.set_cons_succ]
      have hp := h.p19 e19 hl
      subst hp
      obtain ⟨G, cc, hv, hGB, hcl⟩ := (h.p20 e20 hl).litsP (by decide)
      dsimp only [List.length_cons, List.length_nil, Nat.reduceAdd] at hv
      subst hv
      go_wp2_with fail
      refine (pickI_any g A n c _ 5000 5761440 G 3 _ w hs (by omega) (by omega) (by omega) (by omega) (fun j hj => ⟨_, hcl j hj, pick_lo27 j hj⟩)).mono ?_
      rintro e w' ⟨r, rfl, hr0, hr1, hs', hg'⟩
      go_wp2_with fail
      refine HKK.out _ _ ⟨u6, u7, u8, u9, u10, u11, u12, u13, u14, u15, u16, u17, u18, u19, u20, u21, u22, u23, u24, (.pointer (some ⟨g, 0, none⟩)), (.slice (some ⟨G, 0, none⟩) _ cc), .int .i64 r, u28, u29, u5, ?_, (h.grow hg' hB hl).up21 hl ⟨r, rfl, hr0, hr1⟩, by rw [cntF_in (by decide) (by decide) hd]; exact hs'⟩
      simp only [Act.put, List.setIfInBounds_toArray, List.set_cons_zero, List.set_cons_succ]
    · intro d a w hI hd hdep K' hKK
      have HKK := Lib.hid hKK
      clear hKK
      obtain ⟨u6, u7, u8, u9, u10, u11, u12, u13, u14, u15, u16, u17, u18, u19, u20, u21, u22, u23, u24, u25, u26, u27, u28, u29, u5, ha, h, hs⟩ := hI
      subst ha
      have e18 : d 18 = true := hdep 18 (by kernel_rfl)
      have e21 : d 21 = true := hdep 21 (by kernel_rfl)
      have hl : d 25 = false := by
        cases hx : d 25 with
        | false => rfl
        | true => rw [h.ord hx 22 (by decide)] at hd; cases hd
      rw [if_pos (by rfl)]
      simp only [Act.put, List.setIfInBounds_toArray, List.set_cons_zero, List.set_cons_succ]
      obtain ⟨x, rfl, hx0, hx1⟩ := h.p18 e18 hl
      obtain ⟨y, rfl, hy0, hy1⟩ := h.p21 e21 hl
      go_wp2_with fail
      refine HKK.out _ _ ⟨u6, u7, u8, u9, u10, u11, u12, u13, u14, u15, u16, u17, u18, u19, u20, u21, u22, u23, (.int .i64 x), u25, u26, (.int .i64 y), .agg #[.int .i64 x, .int .i64 y], u29, u5, ?_, h.up22 hl ⟨x, y, rfl⟩, by rw [cntF_ne (by decide)]; exact hs⟩
      simp only [Act.put, List.setIfInBounds_toArray, List.set_cons_zero, List.set_cons_succ]
    · intro d a w hI hd hdep K' hKK
      have HKK := Lib.hid hKK
      clear hKK
      obtain ⟨u6, u7, u8, u9, u10, u11, u12, u13, u14, u15, u16, u17, u18, u19, u20, u21, u22, u23, u24, u25, u26, u27, u28, u29, u5, ha, h, hs⟩ := hI
      subst ha
      have e8 : d 8 = true := hdep 8 (by kernel_rfl)
      have e15 : d 15 = true := hdep 15 (by kernel_rfl)
      have e22 : d 22 = true := hdep 22 (by kernel_rfl)
      have hl : d 25 = false := by
        cases hx : d 25 with
        | false => rfl
        | true => rw [h.ord hx 23 (by decide)] at hd; cases hd
      rw [if_pos (by rfl)]
      simp only [Act.put, List.setIfInBounds_toArray, List.set_cons_zero, List.set_cons_succ]
      obtain ⟨l1, hm1, ho1⟩ := h.p8 e8 hl
      obtain ⟨l2, hm2, ho2⟩ := h.p15 e15 hl
      obtain ⟨x, y, rfl⟩ := h.p22 e22 hl
      obtain ⟨A1, c1, rfl, -, -, -⟩ := ho1.at_ intE_ok
      obtain ⟨A2, c2, rfl, -, -, -⟩ := ho2.at_ strE_ok
      go_wp2_with fail
      refine HKK.out _ _ ⟨u6, u7, u8, u9, u10, u11, u12, u13, (.slice A1 l1.length c1), u15, u16, u17, u18, u19, u20, (.slice A2 l2.length c2), u22, u23, u24, u25, u26, u27, (.agg #[.int .i64 x, .int .i64 y]), .agg #[.slice A1 l1.length c1, .slice A2 l2.length c2, .int .i64 x, .int .i64 y, .slice none 0 0], u5, ?_, h.up23 hl ⟨_, _, x, y, rfl, ⟨l1, hm1, ho1⟩, ⟨l2, hm2, ho2⟩⟩, by rw [cntF_ne (by decide)]; exact hs⟩
      simp only [Act.put, List.setIfInBounds_toArray, List.set_cons_zero, List.set_cons_succ]
    · intro d a w hI hd hdep K' hKK
      have HKK := Lib.hid hKK
      clear hKK
      obtain ⟨u6, u7, u8, u9, u10, u11, u12, u13, u14, u15, u16, u17, u18, u19, u20, u21, u22, u23, u24, u25, u26, u27, u28, u29, u5, ha, h, hs⟩ := hI
      subst ha
      have hl : d 25 = false := by
        cases hx : d 25 with
        | false => rfl
        | true => rw [h.ord hx 24 (by decide)] at hd; cases hd
      rw [if_pos (by rfl)]
      simp only [Act.put, List.setIfInBounds_toArray, List.set_cons_zero, List.set_cons_succ]
      go_wp2_with fail
      refine HKK.out _ _ ⟨u6, u7, u8, u9, u10, u11, u12, u13, u14, u15, u16, u17, u18, u19, u20, u21, u22, u23, u24, u25, u26, u27, u28, u29, .pointer (some ⟨w.heap.size, 0, none⟩), ?_, (h.grow (grown_alloc (World.grownBy.refl _ _) _) hB hl).up24 hl ⟨_, rfl, Nat.le_trans hB0 h.gr.size, heap_alloc_new _ _⟩, by rw [cntF_ne (by decide)]; exact (StreamAt.alloc hs _)⟩
      simp only [Act.put, List.setIfInBounds_toArray, List.set_cons_zero, List.set_cons_succ]
    · intro d a w hI hd hdep K' hKK
      have HKK := Lib.hid hKK
      clear hKK
      obtain ⟨u6, u7, u8, u9, u10, u11, u12, u13, u14, u15, u16, u17, u18, u19, u20, u21, u22, u23, u24, u25, u26, u27, u28, u29, u5, ha, h, hs⟩ := hI
      subst ha
      have e23 : d 23 = true := hdep 23 (by kernel_rfl)
      have e24 : d 24 = true := hdep 24 (by kernel_rfl)
      rw [if_pos (by rfl)]
      simp only [Act.put, List.setIfInBounds_toArray, List.set_cons_zero, List.set_cons_succ]
      obtain ⟨k, q, x, y, hv, hk, hq⟩ := h.p23 e23 hd
      obtain ⟨T, hv2, hTB, hT⟩ := h.p24 e24 hd
      obtain ⟨l1, hm1, ho1⟩ := hk
      obtain ⟨l2, hm2, ho2⟩ := hq
      obtain ⟨A1, c1, hv3, -, -, -⟩ := ho1.at_ intE_ok
      obtain ⟨A2, c2, hv4, -, -, -⟩ := ho2.at_ strE_ok
      subst hv2 hv3 hv4
      subst hv
      obtain ⟨t0, t1, t2, t3, t4, f0, f1, f2, f3, f4⟩ := hT.c
      have hFS := filt_stored hT (.slice A1 l1.length c1) (.slice A2 l2.length c2) (.int .i64 x) (.int .i64 y) (.slice none 0 0)
      have hTg := h.gr.size
      go_wp2_with fail
      refine HKK.out _ _ ⟨u6, u7, u8, u9, u10, u11, u12, u13, u14, u15, u16, u17, u18, u19, u20, u21, u22, u23, u24, u25, u26, u27, u28, (.agg #[.slice A1 l1.length c1, .slice A2 l2.length c2, .int .i64 x, .int .i64 y, .slice none 0 0]), (.pointer (some ⟨T, 0, none⟩)), ?_, h.done (grown_row h.gr hFS.2 (fun i e => by cases e; omega)) (fun j hj => hdep j (waits_all (by kernel_rfl) hj)) ⟨T, _, _, x, y, rfl, hTB, hFS.1, ⟨l1, hm1, Owns.filt filt_ne_int ho1 hT hFS.2⟩, ⟨l2, hm2, Owns.filt filt_ne_str ho2 hT hFS.2⟩⟩, by rw [cntF_ne (by decide)]; exact (hs.row_ hFS.2 (fun i e => by cases e; omega))⟩
      simp only [Act.put, List.setIfInBounds_toArray, List.set_cons_zero, List.set_cons_succ]
  · intro d a w2 hI hall
    obtain ⟨u6, u7, u8, u9, u10, u11, u12, u13, u14, u15, u16, u17, u18, u19, u20, u21, u22, u23, u24, u25, u26, u27, u28, u29, u5, ha, h, hs2⟩ := hI
    have hgr := h.gr
    have hp := h.p25 (hall 25 (by decide))
    have hpl := hp
    subst ha
    clear h hall hp
    simp only [Act.put, List.setIfInBounds_toArray, List.set_cons_zero, List.set_cons_succ]
    obtain ⟨T, k, q, x, y, hv5, hTB, hT, hk, hq⟩ := hpl
    subst hv5
    obtain ⟨lk, hmk, hok⟩ := hk
    obtain ⟨lq, hmq, hoq⟩ := hq
    have HF2 : Hid (FilS w2 B T k q x y (.slice none 0 0) lk lq []) := ⟨hT, hok, hoq, Owns.nil _ _, apart_nil _⟩
    have HMK := Lib.hid hmk
    have HMQ := Lib.hid hmq
    have HS2 : Hid (StreamAt w2 g A n c (K + 4)) := by have := cntF_le d [6, 13, 18, 21]; simp only [List.length_cons, List.length_nil] at this; exact hs2.more (by omega)
    have HG2 := Lib.hid hgr
    have HTB := Lib.hid hTB
    clear hT hok hoq hmk hmq hs2 hgr hs1 hTB
    go_upto_region 2 with (fail)
    go_wp2_with fail
    refine (rangeR_any g A n c (K + 4) 0 3 w2 HS2.out (by omega) (by omega) (by omega) (by omega)).mono ?_
    rintro e w3 ⟨r, rfl, hr0, hr1, hs3, hg3⟩
    obtain ⟨m, rfl⟩ := Int.eq_ofNat_of_zero_le hr0
    have hm3 : m ≤ 3 := by omega
    have HS3 : Hid (StreamAt w3 g A n c (K + 5 + 0)) := hs3
    have HF3 := Lib.hid (HF2.out.free hg3 hB HTB.out)
    have HG3 := Lib.hid (grown_trans HG2.out hg3)
    clear hs3 hg3 HF2 HS2 HG2 hr0 hr1
    have HBW := HG3.out.size
    go_wp2_with fail
    go_loopg [32] m (fun gk v wr => ∃ (i : Nat) (kv : Value) (kn : List Str), Hid (i + gk = m) ∧ v = .int .i64 (i : Int) ∧ Hid (FilS wr B T k q x y kv lk lq kn) ∧ Hid (kn.length ≤ i ∧ ∀ s ∈ kn, s.length ≤ 16) ∧ Hid (StreamAt wr g A n c (K + 5 + i)) ∧ Hid (w1.grownBy wr (some g)))
    case atStart => exact ⟨0, _, [], show 0 + m = m by omega, rfl, HF3.out, ⟨Nat.le_refl _, fun s hs => by cases hs⟩, HS3.out, HG3.out⟩
    case round =>
      obtain ⟨i, kv, kn, HI, rfl, HF, HKN, HS, HG⟩ := hrel
      clear HF3 HS3 HG3 HBW
      have him : i ≤ m := by have := HI.out; omega
      by_cases hlt : i < m
      · have HGK := Lib.hid (show i + 1 + (gk - 1) = m ∧ 0 < gk by have := HI.out; omega)
        by_cases hn0 : 0 < n1
        · have hn0i : (0 : Int) < (n1 : Int) := by omega
          obtain ⟨gi, oi, rfl, hgi, hci⟩ := (ElemsAt.grown HIT.out HG.out (fun g' off e e2 => HNE.out g' off e (Option.some.inj e2).symm)).item hn0
          have hgg : gi ≠ g := HNE.out gi oi rfl
          have HNL := Lib.hid HIT.out.1
          have HCI : Hid (∀ w', wr.grownBy w' (some g) → ∀ (z : Nat) (xx : Itm), l[z]? = some xx → w'.cell? ⟨gi, oi + z * 7, none⟩ = some (.string xx.id) ∧ w'.cell? ⟨gi, oi + z * 7 + 1, none⟩ = some (.string xx.cu) ∧ w'.cell? ⟨gi, oi + z * 7 + 2, none⟩ = some (.int .i64 xx.kind) ∧ w'.cell? ⟨gi, oi + z * 7 + 3, none⟩ = some (.string xx.name) ∧ w'.cell? ⟨gi, oi + z * 7 + 4, none⟩ = some (.int .i64 xx.at_) ∧ w'.cell? ⟨gi, oi + z * 7 + 5, none⟩ = some (.string xx.par) ∧ w'.cell? ⟨gi, oi + z * 7 + 6, none⟩ = some (.string xx.text)) := fun w' hw z xx hz => by
            obtain ⟨c0, c1, c2, c3, c4, c5, c6⟩ := hci z xx hz
            have hk := fun j => World.cell?_of_block (a := ⟨gi, j, none⟩) (hw.block gi hgi (fun e => hgg (Option.some.inj e)))
            exact ⟨(hk _).trans c0, (hk _).trans c1, (hk _).trans c2, (hk _).trans c3, (hk _).trans c4, (hk _).trans c5, (hk _).trans c6⟩
          have HFW : Hid (∀ w', wr.grownBy w' (some g) → FilS w' B T k q x y kv lk lq kn) := fun w' hw => HF.out.free hw hB HTB.out
          have HCT : Hid (∀ w', wr.grownBy w' (some g) → w'.cell? ⟨T, 4, none⟩ = some kv) := fun w' hw => (HFW.out w' hw).row.c.2.2.2.2.1
          have hct0 := HCT.out wr (World.grownBy.refl _ _)
          have hct1 : wr.drew.cell? ⟨T, 4, none⟩ = some kv := hct0
          have hgd : wr.grownBy wr.drew (some g) := ⟨rfl, rfl, rfl, Nat.le_refl _, fun _ _ _ => rfl⟩
          have HSD : Hid (StreamAt wr.drew g A n c (K + 5 + i)) := HS.out.keep fun _ _ => rfl
          have HKL := Lib.hid HKN.out
          have hknl := HKN.out.1
          have hBr := Nat.le_trans hB0 HG.out.size
          have HSO : Hid (∀ (xx : Itm) (wx : World), (1 ≤ xx.kind ∧ xx.kind ≤ 4) → xx.text.size ≤ 500000 → Calls Tryz.prog 31 #[.agg #[.string xx.id, .string xx.cu, .int .i64 xx.kind, .string xx.name, .int .i64 xx.at_, .string xx.par, .string xx.text]] wx (fun e w' => (∃ r : ByteArray, e = .returned (.string r) ∧ r.size = 16) ∧ Below wx.heap.size wx w')) := fun xx wx h1 h2 => sumOf_any xx wx h1 h2
          clear hgi hgg hci HI
          go_upto_region 5 with (fail)
          go_region_law (first
            | (refine step_elems strE_ok (by rfl) _ _ (by rfl) B kv kn (by rfl) ?_ _ 1 1 [rs] (by rfl) ?_ (by omega) ?_ ?_ ?_; (exact World.ownsRow.alloc (HFW.out _ hgS).ov _); (exact one_elem (E := StrE) wS rs); (simp only [List.length_singleton]; omega); (have := hgS.size; simp; omega); intro v5 w5 hown5 hgrow5 hv5; obtain ⟨A8, c8, hvv8, -, -, -⟩ := hown5.at_ strE_ok; simp only [List.length_append, List.length_cons, List.length_nil, Nat.zero_add] at hvv8; subst hvv8; have HFA := Lib.hid ((HFW.out _ hgS).app hown5 hgrow5 hv5); have hf4 : w5.frozen? ⟨T, 4, none⟩ = false := frozen_of_app (HFW.out _ hgS).row (HFW.out _ hgS).ov hgrow5; have hcc4 : w5.cell? ⟨T, 4, none⟩ = some kv := cell_of_app (HFW.out _ hgS).row (HFW.out _ hgS).ov hgrow5; have HGA := Lib.hid hgrow5; clear hown5 hgrow5 hv5)
            | (go_simp; go_at_call 28; (with_reducible refine Calls.mono (next_any g A n c (K + 5 + i) n1 _ ?_ (by omega) (by omega)) ?_); (first | exact HSD.out | exact HS.out | fail); rintro e wN ⟨r, rfl, hr0, hr1, hsN, hgN0⟩; obtain ⟨z, rfl⟩ := Int.eq_ofNat_of_zero_le hr0; have hz := hr1 (by omega); clear hr0 hr1; have hgN : wr.grownBy wN (some g) := (by first | exact grown_trans hgd hgN0 | exact hgN0); clear hgN0; have hzn : z < n1 := (by omega); have hzl : z < l.length := (by have := HNL.out; omega); obtain ⟨xx, hxx⟩ : ∃ xx, l[z]? = some xx := ⟨_, List.getElem?_eq_getElem hzl⟩; have hcN := HCI.out wN hgN z xx hxx; obtain ⟨c0, c1, c2, c3, c4, c5, c6⟩ := hcN; have HXX := Lib.hid (HSM.out xx (List.mem_of_getElem? hxx)); clear hxx hzl; have hctN := HCT.out wN hgN)
            | (go_simp; go_at_call 31; (with_reducible refine Calls.mono (HSO.out xx _ HXX.out.1 HXX.out.2) ?_); rintro e wS ⟨⟨rb, rfl, hrb⟩, hbS⟩; obtain ⟨rs, rfl⟩ : ∃ rs : List UInt8, rb = ⟨rs.toArray⟩ := ⟨rb.data.toList, by simp⟩; have hgS : wr.grownBy wS (some g) := grown_trans hgN (below_grown hbS _); have hctS := HCT.out wS hgS; have hctSA := fun (o : Obj) => HCT.out (wS.alloc o) (grown_alloc hgS o); have HRS : Hid (rs.length = 16) := (by show _ = _; simpa [ByteArray.size] using hrb); have hsS := hsN.below hbS; clear hrb hbS))
          all_goals
            have hov := (HFW.out _ hgS).ov.lt
            have HGX : Hid (w1.grownBy (w5.setCell ⟨T, 4, none⟩ (.slice A8 (kn.length + 1) c8)) (some g)) := grown_row (grown_row (grown_alloc (grown_trans HG.out hgS) _) HGA.out (fun j e => by have := (hov j e).1; omega)) (grown_setCell w5 T 4 _) (fun j e => by cases e; have := HTB.out; omega)
            have HSX : Hid (StreamAt (w5.setCell ⟨T, 4, none⟩ (.slice A8 (kn.length + 1) c8)) g A n c (K + 5 + (i + 1))) := ((StreamAt.row_ (StreamAt.alloc hsS _) HGA.out (fun j e => by have := (hov j e).1; omega)).row_ (grown_setCell w5 T 4 _) (fun j e => by cases e; have := HTB.out; omega)).more (by omega)
            have HKX : Hid ((kn ++ [rs]).length ≤ i + 1 ∧ ∀ s ∈ kn ++ [rs], s.length ≤ 16) := ⟨by rw [List.length_append, List.length_singleton]; omega, fun s hs => by
              rcases List.mem_append.1 hs with hs | hs
              · exact HKL.out.2 s hs
              · rw [List.mem_singleton.1 hs, HRS.out]; omega⟩
            clear hov
            go_wp2_with fail
            go_roundg (gk - 1)
            case measure => have := HGK.out; omega
            case rel => exact ⟨i + 1, _, kn ++ [rs], HGK.out.1, by go_num, HFA.out, HKX.out, HSX.out, HGX.out⟩
        · have hn0i : ¬ (0 : Int) < (n1 : Int) := by omega
          go_wp2_with fail
          go_roundg (gk - 1)
          case measure => have := HGK.out; omega
          case rel => exact ⟨i + 1, kv, kn, HGK.out.1, by go_num, HF.out, ⟨by have := HKN.out.1; omega, HKN.out.2⟩, HS.out.more (by omega), HG.out⟩
      · have hni : ¬ (i : Int) < (m : Int) := by omega
        obtain ⟨A8, c8, hv8, -, -, -⟩ := HF.out.ov.at_ strE_ok
        subst hv8
        have hkn3 : kn.length ≤ 3 := by have := HKN.out.1; omega
        have t4 := HF.out.row.c.2.2.2.2.1
        have HSORT := Lib.hid (sortH_any B _ kn wr HF.out.ov (by omega))
        have HIM : Hid (i ≤ 3) := by show _ ≤ _; omega
        clear HI
        go_wp2_with fail
        refine HSORT.out.mono ?_
        rintro e w4 ⟨rfl, hown4, hg4⟩
        have hov := HF.out.ov.lt
        have HF4 := Lib.hid (HF.out.turn hown4 hg4)
        have HS4 : Hid (StreamAt w4 g A n c (K + 8)) := (HS.out.row_ hg4 (fun j e => by have := (hov j e).1; omega)).more (by have := HIM.out; omega)
        have HG4 : Hid (w1.grownBy w4 (some g)) := grown_row HG.out hg4 (fun j e => by have := (hov j e).1; omega)
        clear hown4 hg4 hov HF HS HG HSORT t4
        have t4 := HF4.out.row.c.2.2.2.2.1
        have HCO := Lib.hid (compactH_any B _ (sortH kn) w4 HF4.out.ov (by rw [sortH_length]; omega))
        go_wp2_with (go_at_call 32; refine HCO.out.mono ?_; rintro e w5 ⟨v5, rfl, hown5, hg5, hvb⟩; obtain ⟨A9, c9, hv9, -, -, -⟩ := hown5.at_ strE_ok; subst hv9; have HT5 := Lib.hid (HF4.out.row_turn hg5); have hf5 : w5.frozen? ⟨T, 4, none⟩ = false := HT5.out.c.2.2.2.2.2.2.2.2.2; have ht5 := HT5.out.c.2.2.2.2.1; have HOW5 := Lib.hid hown5; have HGW5 := Lib.hid hg5; have HVB5 := Lib.hid hvb; clear hown5 hg5 hvb)
        have hov := HF4.out.ov.lt
        have HF6 := Lib.hid (HF4.out.comp HOW5.out HGW5.out HVB5.out)
        have HS6 : Hid (StreamAt (w5.setCell ⟨T, 4, none⟩ (.slice A9 (Lib.compact (sortH kn)).length c9)) g A n c (K + 8)) := (HS4.out.row_ HGW5.out (fun j e => by have := (hov j e).1; omega)).row_ (grown_setCell w5 T 4 _) (fun j e => by cases e; have := HTB.out; omega)
        have HG6 : Hid (w1.grownBy (w5.setCell ⟨T, 4, none⟩ (.slice A9 (Lib.compact (sortH kn)).length c9)) (some g)) := grown_row (grown_row HG4.out HGW5.out (fun j e => by have := (hov j e).1; omega)) (grown_setCell w5 T 4 _) (fun j e => by cases e; have := HTB.out; omega)
        have HK6 : Hid ((Lib.compact (sortH kn)).length ≤ 3 ∧ ∀ s ∈ Lib.compact (sortH kn), s.length ≤ 16) := ⟨by have h1 := Lib.compact_length_le (sortH kn); rw [sortH_length] at h1; omega, fun s hs => HKN.out.2 s ((List.mergeSort_perm kn fun x y => decide (x ≤ y)).mem_iff.1 (compact_sub hs))⟩
        generalize w5.setCell ⟨T, 4, none⟩ (.slice A9 (Lib.compact (sortH kn)).length c9) = w6 at *
        generalize Lib.compact (sortH kn) = kc at *
        clear hov HF4 HS4 HG4 HOW5 HGW5 HVB5 HT5 hf5 ht5 t4 HCO HKN hkn3
        go_wp2_with fail
        refine (flip_any g A n c (K + 8) 15 w6 HS6.out (by omega) (by omega)).mono ?_
        rintro e w7 ⟨b7, rfl, hs7, hg7⟩
        have HF7 := Lib.hid (HF6.out.free hg7 hB HTB.out)
        have HS7 : Hid (StreamAt w7 g A n c (K + 9)) := hs7
        have HG7 := Lib.hid (grown_trans HG6.out hg7)
        clear hs7 hg7 HF6 HS6 HG6
        obtain ⟨A2, c2, hv2, -, -, -⟩ := HF7.out.ok.at_ intE_ok
        obtain ⟨A3, c3, hv3, -, -, -⟩ := HF7.out.oq.at_ strE_ok
        subst hv2 hv3
        cases b7 with
        | false =>
          have hRE : FiltB w7 R (.slice none 0 0) (.slice none 0 0) (.int .i64 0) (.int .i64 0) (.slice none 0 0) := (HG7.out.block R HR1.out.lt (fun e => by have := Option.some.inj e; have := HRW.out; omega)).trans HR1.out
          obtain ⟨t0, t1, t2, t3, t4, f0, f1, f2, f3, f4⟩ := HF7.out.row.c
          obtain ⟨r0, r1, r2, r3, r4, rf0, rf1, rf2, rf3, rf4⟩ := hRE.c
          have hst := filt_stored hRE (.slice A2 lk.length c2) (.slice A3 lq.length c3) (.int .i64 x) (.int .i64 y) (.slice A9 kc.length c9)
          have HPOST := Lib.hid (HF7.out.post (K := K) hRE hst.2 HS7.out (by omega) HALW.out HG7.out hgw HRW.out (Nat.le_trans HALW.out.size hB2) (kinds_small HMK.out) (cus_small HMQ.out) ⟨by have := HK6.out.1; omega, fun s hs => by have := HK6.out.2 s hs; omega⟩)
          obtain ⟨z0, z1, z2, z3, z4, -, -, -, -, -⟩ := hst.1.c
          go_wp2_with fail
          exact bodyPost_ret (v := .agg #[(.slice A2 lk.length c2), (.slice A3 lq.length c3), .int .i64 x, .int .i64 y, (.slice A9 kc.length c9)]) (by simp [results, Tryz.results7, go_sem, z0, z1, z2, z3, z4]) rfl HPOST.out
        | true =>
          go_wp2_with fail
          refine (next_any g A n c (K + 9) 4 w7 HS7.out (by omega) (by omega)).mono ?_
          rintro e w8 ⟨r, rfl, hr0, hr1, hs8, hg8⟩
          obtain ⟨z, rfl⟩ := Int.eq_ofNat_of_zero_le hr0
          have hz4 := hr1 (by omega)
          have HF8 := Lib.hid (HF7.out.free hg8 hB HTB.out)
          have HS8 : Hid (StreamAt w8 g A n c (K + 10)) := hs8
          have HG8 := Lib.hid (grown_trans HG7.out hg8)
          have hB8 : B ≤ w8.heap.size := Nat.le_trans hB0 HG8.out.size
          clear hs8 hg8 HF7 HS7 HG7 hr0 hr1
          have hz5 : z = 0 ∨ z = 1 ∨ z = 2 ∨ z = 3 := by omega
          clear hz4
          rcases hz5 with rfl | rfl | rfl | rfl
          · have HT8 := Lib.hid (tab4 intE_ok w8 B hB8 22 [2, 1] [0] [5] [1, 1] (by decide) (by decide) (by decide) (by decide))
            have HW8 : Hid (w8.grownBy (((((w8.alloc (.cells (IntE.cells [2, 1]).toArray IntE.t)).alloc (.cells (IntE.cells [0]).toArray IntE.t)).alloc (.cells (IntE.cells [5]).toArray IntE.t)).alloc (.cells (IntE.cells [1, 1]).toArray IntE.t)).alloc (.cells #[.slice (some ⟨w8.heap.size, 0, none⟩) 2 2, .slice (some ⟨w8.heap.size + 1, 0, none⟩) 1 1, .slice (some ⟨w8.heap.size + 1 + 1, 0, none⟩) 1 1, .slice (some ⟨w8.heap.size + 1 + 1 + 1, 0, none⟩) 2 2] 22)) (some g)) := grown_alloc (grown_alloc (grown_alloc (grown_alloc (grown_alloc (World.grownBy.refl _ _) _) _) _) _) _
            have HSW : Hid (StreamAt (((((w8.alloc (.cells (IntE.cells [2, 1]).toArray IntE.t)).alloc (.cells (IntE.cells [0]).toArray IntE.t)).alloc (.cells (IntE.cells [5]).toArray IntE.t)).alloc (.cells (IntE.cells [1, 1]).toArray IntE.t)).alloc (.cells #[.slice (some ⟨w8.heap.size, 0, none⟩) 2 2, .slice (some ⟨w8.heap.size + 1, 0, none⟩) 1 1, .slice (some ⟨w8.heap.size + 1 + 1, 0, none⟩) 1 1, .slice (some ⟨w8.heap.size + 1 + 1 + 1, 0, none⟩) 2 2] 22)) g A n c (K + 10)) := ((((HS8.out.alloc _).alloc _).alloc _).alloc _).alloc _
            go_wp2_with fail
            refine (next_any g A n c (K + 10) 4 _ HSW.out (by omega) (by omega)).mono ?_
            rintro e w9 ⟨r, rfl, hr0, hr1, hs9, hg9⟩
            obtain ⟨z, rfl⟩ := Int.eq_ofNat_of_zero_le hr0
            have hz4 := hr1 (by omega)
            have hzn : z < 4 := by omega
            obtain ⟨v9, l9, hc9, hm9, ho9⟩ := (HT8.out.free hg9 hB).cell_ (r := z) hzn
            obtain ⟨A5, c5, hv9, -, -, -⟩ := ho9.at_ intE_ok
            subst hv9
            have hg89 := grown_trans HW8.out hg9
            have HF9 := Lib.hid (HF8.out.free hg89 hB HTB.out)
            have HG9 := Lib.hid (grown_trans HG8.out hg89)
            have HS9 : Hid (StreamAt w9 g A n c (K + 11)) := hs9
            have HO9 := Lib.hid ho9
            have HM9 := Lib.hid hm9
            obtain ⟨t0, t1, t2, t3, t4, f0, f1, f2, f3, f4⟩ := HF9.out.row.c
            clear hr0 hr1 hs9 hg9 ho9 hm9 hg89 HF8 HG8 HS8 HT8 HW8 HSW hz4
            go_upto_region 18 with (fail)
            have HFA := Lib.hid (HF9.out.set0 HO9.out)
            have HSA : Hid (StreamAt (w9.setCell ⟨T, 0, none⟩ (.slice A5 l9.length c5)) g A n c (K + 11)) := HS9.out.row_ (grown_setCell w9 T 0 _) (fun j e => by cases e; have := HTB.out; omega)
            have HGA : Hid (w1.grownBy (w9.setCell ⟨T, 0, none⟩ (.slice A5 l9.length c5)) (some g)) := grown_row HG9.out (grown_setCell w9 T 0 _) (fun j e => by cases e; have := HTB.out; omega)
            generalize w9.setCell ⟨T, 0, none⟩ (.slice A5 l9.length c5) = wA at *
            clear t0 t1 t2 t3 t4 f0 f1 f2 f3 f4 HF9 HG9 HS9 hc9
            have hRE : FiltB wA R (.slice none 0 0) (.slice none 0 0) (.int .i64 0) (.int .i64 0) (.slice none 0 0) := (HGA.out.block R HR1.out.lt (fun e => by have := Option.some.inj e; have := HRW.out; omega)).trans HR1.out
            obtain ⟨t0, t1, t2, t3, t4, f0, f1, f2, f3, f4⟩ := HFA.out.row.c
            obtain ⟨r0, r1, r2, r3, r4, rf0, rf1, rf2, rf3, rf4⟩ := hRE.c
            have hst := filt_stored hRE (.slice A5 l9.length c5) (.slice A3 lq.length c3) (.int .i64 x) (.int .i64 y) (.slice A9 kc.length c9)
            have HPOST := Lib.hid (HFA.out.post (K := K) hRE hst.2 HSA.out (by omega) HALW.out HGA.out hgw HRW.out (Nat.le_trans HALW.out.size hB2) (kinds_odd HM9.out) (cus_small HMQ.out) ⟨by have := HK6.out.1; omega, fun s hs => by have := HK6.out.2 s hs; omega⟩)
            obtain ⟨z0, z1, z2, z3, z4, -, -, -, -, -⟩ := hst.1.c
            go_wp2_with fail
            exact bodyPost_ret (v := .agg #[(.slice A5 l9.length c5), (.slice A3 lq.length c3), .int .i64 x, .int .i64 y, (.slice A9 kc.length c9)]) (by simp [results, Tryz.results7, go_sem, z0, z1, z2, z3, z4]) rfl HPOST.out
          · have hB88 : w8.heap.size ≤ w8.heap.size := Nat.le_refl _
            have hgB8 : g < w8.heap.size := by omega
            have HT8 := Lib.hid (tab3 strE_ok w8 w8.heap.size hB88 29 [[98], [97]] [[]] [[65]] (by decide) (by decide) (by decide))
            have HW8 : Hid (w8.grownBy ((((w8.alloc (.cells (StrE.cells [[98], [97]]).toArray StrE.t)).alloc (.cells (StrE.cells [[]]).toArray StrE.t)).alloc (.cells (StrE.cells [[65]]).toArray StrE.t)).alloc (.cells #[.slice (some ⟨w8.heap.size, 0, none⟩) 2 2, .slice (some ⟨w8.heap.size + 1, 0, none⟩) 1 1, .slice (some ⟨w8.heap.size + 1 + 1, 0, none⟩) 1 1] 29)) (some g)) := grown_alloc (grown_alloc (grown_alloc (grown_alloc (World.grownBy.refl _ _) _) _) _) _
            have HSW : Hid (StreamAt ((((w8.alloc (.cells (StrE.cells [[98], [97]]).toArray StrE.t)).alloc (.cells (StrE.cells [[]]).toArray StrE.t)).alloc (.cells (StrE.cells [[65]]).toArray StrE.t)).alloc (.cells #[.slice (some ⟨w8.heap.size, 0, none⟩) 2 2, .slice (some ⟨w8.heap.size + 1, 0, none⟩) 1 1, .slice (some ⟨w8.heap.size + 1 + 1, 0, none⟩) 1 1] 29)) g A n c (K + 10)) := (((HS8.out.alloc _).alloc _).alloc _).alloc _
            have HOV := Lib.hid (fun j e => (HF8.out.ov.lt j e).2)
            go_wp2_with fail
            refine (next_any g A n c (K + 10) 3 _ HSW.out (by omega) (by omega)).mono ?_
            rintro e w9 ⟨r, rfl, hr0, hr1, hs9, hg9⟩
            obtain ⟨z, rfl⟩ := Int.eq_ofNat_of_zero_le hr0
            have hz4 := hr1 (by omega)
            have hzn : z < 3 := by omega
            obtain ⟨v9, l9, hc9, hm9, ho9⟩ := (HT8.out.free hg9 hgB8).cell_ (r := z) hzn
            obtain ⟨A5, c5, hv9, -, -, -⟩ := ho9.at_ strE_ok
            subst hv9
            have hg89 := grown_trans HW8.out hg9
            have HF9 := Lib.hid (HF8.out.free hg89 hB HTB.out)
            have HG9 := Lib.hid (grown_trans HG8.out hg89)
            have HS9 : Hid (StreamAt w9 g A n c (K + 11)) := hs9
            have HO9 := Lib.hid (ho9.base_ hB8)
            have HM9 := Lib.hid hm9
            have HAP : Hid (ApartV (.slice A9 kc.length c9) (.slice A5 l9.length c5)) := fun j e1 e2 => by
              have h1 := HOV.out j e1
              have h2 := (ho9.lt j e2).1
              omega
            obtain ⟨t0, t1, t2, t3, t4, f0, f1, f2, f3, f4⟩ := HF9.out.row.c
            clear hr0 hr1 hs9 hg9 ho9 hm9 hg89 HF8 HG8 HS8 HT8 HW8 HSW hz4 HOV hB88 hgB8
            go_upto_region 18 with (fail)
            have HFA := Lib.hid (HF9.out.set1 HO9.out HAP.out)
            have HSA : Hid (StreamAt (w9.setCell ⟨T, 1, none⟩ (.slice A5 l9.length c5)) g A n c (K + 11)) := HS9.out.row_ (grown_setCell w9 T 1 _) (fun j e => by cases e; have := HTB.out; omega)
            have HGA : Hid (w1.grownBy (w9.setCell ⟨T, 1, none⟩ (.slice A5 l9.length c5)) (some g)) := grown_row HG9.out (grown_setCell w9 T 1 _) (fun j e => by cases e; have := HTB.out; omega)
            generalize w9.setCell ⟨T, 1, none⟩ (.slice A5 l9.length c5) = wA at *
            clear t0 t1 t2 t3 t4 f0 f1 f2 f3 f4 HF9 HG9 HS9 hc9 HAP
            have hRE : FiltB wA R (.slice none 0 0) (.slice none 0 0) (.int .i64 0) (.int .i64 0) (.slice none 0 0) := (HGA.out.block R HR1.out.lt (fun e => by have := Option.some.inj e; have := HRW.out; omega)).trans HR1.out
            obtain ⟨t0, t1, t2, t3, t4, f0, f1, f2, f3, f4⟩ := HFA.out.row.c
            obtain ⟨r0, r1, r2, r3, r4, rf0, rf1, rf2, rf3, rf4⟩ := hRE.c
            have hst := filt_stored hRE (.slice A2 lk.length c2) (.slice A5 l9.length c5) (.int .i64 x) (.int .i64 y) (.slice A9 kc.length c9)
            have HPOST := Lib.hid (HFA.out.post (K := K) hRE hst.2 HSA.out (by omega) HALW.out HGA.out hgw HRW.out (Nat.le_trans HALW.out.size hB2) (kinds_small HMK.out) (cus_odd HM9.out) ⟨by have := HK6.out.1; omega, fun s hs => by have := HK6.out.2 s hs; omega⟩)
            obtain ⟨z0, z1, z2, z3, z4, -, -, -, -, -⟩ := hst.1.c
            go_wp2_with fail
            exact bodyPost_ret (v := .agg #[(.slice A2 lk.length c2), (.slice A5 l9.length c5), .int .i64 x, .int .i64 y, (.slice A9 kc.length c9)]) (by simp [results, Tryz.results7, go_sem, z0, z1, z2, z3, z4]) rfl HPOST.out
          · go_wp2_with fail
            refine (odd10_any g A n c (K + 10) 0 10 w8 HS8.out (by omega) (by omega) (by omega) (by omega)).mono ?_
            rintro e w9 ⟨x9, rfl, hs9, hg9⟩
            have HF9 := Lib.hid (HF8.out.free hg9 hB HTB.out)
            have HG9 := Lib.hid (grown_trans HG8.out hg9)
            have HS9 : Hid (StreamAt w9 g A n c (K + 12)) := hs9
            have hB9 : B ≤ w9.heap.size := Nat.le_trans hB0 HG9.out.size
            have HL9 := Lib.hid (Owns.lit intE_ok w9 B [5, 5761440, 5761441] hB9 (by decide))
            have HSL : Hid (StreamAt (w9.alloc (.cells (IntE.cells [5, 5761440, 5761441]).toArray IntE.t)) g A n c (K + 12)) := HS9.out.alloc _
            have hne : g ≠ w9.heap.size := by omega
            have HCL := Lib.hid HL9.out.lits
            clear hs9 hg9 HF8 HG8 HS8
            go_wp2_with fail
            refine (pickI_any g A n c (K + 12) 5 5761441 w9.heap.size 3 3 _ HSL.out (by omega) (by omega) (by omega) hne (fun j hj => ⟨_, HCL.out j hj, pick_lo3 j hj⟩)).mono ?_
            rintro e wB ⟨y9, rfl, -, -, hsB, hgB2⟩
            have hg9B : w9.grownBy wB (some g) := grown_trans (grown_alloc (World.grownBy.refl _ _) _) hgB2
            have HFB := Lib.hid (HF9.out.free hg9B hB HTB.out)
            have HGB := Lib.hid (grown_trans HG9.out hg9B)
            have HSB : Hid (StreamAt wB g A n c (K + 13)) := hsB
            obtain ⟨t0, t1, t2, t3, t4, f0, f1, f2, f3, f4⟩ := HFB.out.row.c
            clear hsB hgB2 hg9B HF9 HG9 HS9 HL9 HSL hne HCL
            go_upto_region 18 with (fail)
            have HFA := Lib.hid (HFB.out.set2 x9 y9)
            have hgs := grown_trans (grown_setCell wB T 2 (.int .i64 x9)) (grown_setCell (wB.setCell ⟨T, 2, none⟩ (.int .i64 x9)) T 3 (.int .i64 y9))
            have HSA : Hid (StreamAt ((wB.setCell ⟨T, 2, none⟩ (.int .i64 x9)).setCell ⟨T, 3, none⟩ (.int .i64 y9)) g A n c (K + 13)) := HSB.out.row_ hgs (fun j e => by cases e; have := HTB.out; omega)
            have HGA : Hid (w1.grownBy ((wB.setCell ⟨T, 2, none⟩ (.int .i64 x9)).setCell ⟨T, 3, none⟩ (.int .i64 y9)) (some g)) := grown_row HGB.out hgs (fun j e => by cases e; have := HTB.out; omega)
            clear hgs
            generalize (wB.setCell ⟨T, 2, none⟩ (.int .i64 x9)).setCell ⟨T, 3, none⟩ (.int .i64 y9) = wA at *
            clear t0 t1 t2 t3 t4 f0 f1 f2 f3 f4 HFB HGB HSB
            have hRE : FiltB wA R (.slice none 0 0) (.slice none 0 0) (.int .i64 0) (.int .i64 0) (.slice none 0 0) := (HGA.out.block R HR1.out.lt (fun e => by have := Option.some.inj e; have := HRW.out; omega)).trans HR1.out
            obtain ⟨t0, t1, t2, t3, t4, f0, f1, f2, f3, f4⟩ := HFA.out.row.c
            obtain ⟨r0, r1, r2, r3, r4, rf0, rf1, rf2, rf3, rf4⟩ := hRE.c
            have hst := filt_stored hRE (.slice A2 lk.length c2) (.slice A3 lq.length c3) (.int .i64 x9) (.int .i64 y9) (.slice A9 kc.length c9)
            have HPOST := Lib.hid (HFA.out.post (K := K) hRE hst.2 HSA.out (by omega) HALW.out HGA.out hgw HRW.out (Nat.le_trans HALW.out.size hB2) (kinds_small HMK.out) (cus_small HMQ.out) ⟨by have := HK6.out.1; omega, fun s hs => by have := HK6.out.2 s hs; omega⟩)
            obtain ⟨z0, z1, z2, z3, z4, -, -, -, -, -⟩ := hst.1.c
            go_wp2_with fail
            exact bodyPost_ret (v := .agg #[(.slice A2 lk.length c2), (.slice A3 lq.length c3), .int .i64 x9, .int .i64 y9, (.slice A9 kc.length c9)]) (by simp [results, Tryz.results7, go_sem, z0, z1, z2, z3, z4]) rfl HPOST.out
          · have HRG : Hid (∀ W, Calls Tryz.prog 35 #[.string ⟨#[103]⟩, .int .i64 16] W fun e w' => (∃ r : ByteArray, e = .returned (.string r) ∧ r.size ≤ 16) ∧ Below W.heap.size W w') := fun W => (Tryz.strings_Repeat ⟨#[103]⟩ 16 W (by omega) (by decide)).mono fun e w' h => ⟨⟨_, h.1, by rw [rep_sizeF]; simp⟩, h.2⟩
            have HR0 : Hid (∀ W, Calls Tryz.prog 35 #[.string ⟨#[48]⟩, .int .i64 16] W fun e w' => (∃ r : ByteArray, e = .returned (.string r) ∧ r.size ≤ 16) ∧ Below W.heap.size W w') := fun W => (Tryz.strings_Repeat ⟨#[48]⟩ 16 W (by omega) (by decide)).mono fun e w' h => ⟨⟨_, h.1, by rw [rep_sizeF]; simp⟩, h.2⟩
            have HFW : Hid (∀ w', w8.grownBy w' (some g) → FilS w' B T (.slice A2 lk.length c2) (.slice A3 lq.length c3) x y (.slice A9 kc.length c9) lk lq kc) := fun w' hw => HF8.out.free hw hB HTB.out
            have HCT : Hid (∀ w', w8.grownBy w' (some g) → w'.cell? ⟨T, 4, none⟩ = some (.slice A9 kc.length c9)) := fun w' hw => (HFW.out w' hw).row.c.2.2.2.2.1
            have hct0 := HCT.out w8 (World.grownBy.refl _ _)
            have hct1 : w8.drew.cell? ⟨T, 4, none⟩ = some (.slice A9 kc.length c9) := hct0
            have hgd : w8.grownBy w8.drew (some g) := ⟨rfl, rfl, rfl, Nat.le_refl _, fun _ _ _ => rfl⟩
            have hs8d : StreamAt w8.drew g A n c (K + 10) := HS8.out.keep fun _ _ => rfl
            have hkcl := HK6.out.1
            have HKC := Lib.hid HK6.out
            have hS8lt := HS8.out.lt
            go_upto_region 11 with (fail)
            go_region_law (first
              | (refine step_elems strE_ok (by rfl) _ _ (by rfl) B (.slice A9 kc.length c9) kc (by rfl) ?_ _ 1 1 [rs] (by rfl) ?_ (by omega) ?_ ?_ ?_; (exact World.ownsRow.alloc (HFW.out _ hgo).ov _); (exact one_elem (E := StrE) wo rs); (simp only [List.length_singleton]; omega); (have := hgo.size; simp; omega); intro v5 w5 hown5 hgrow5 hv5; obtain ⟨A8, c8, hvv8, -, -, -⟩ := hown5.at_ strE_ok; simp only [List.length_append, List.length_cons, List.length_nil, Nat.zero_add] at hvv8; subst hvv8; have HFA := Lib.hid ((HFW.out _ hgo).app hown5 hgrow5 hv5); have hf4 : w5.frozen? ⟨T, 4, none⟩ = false := frozen_of_app (HFW.out _ hgo).row (HFW.out _ hgo).ov hgrow5; have hcc4 : w5.cell? ⟨T, 4, none⟩ = some (.slice A9 kc.length c9) := cell_of_app (HFW.out _ hgo).row (HFW.out _ hgo).ov hgrow5; have HGA := Lib.hid hgrow5; clear hown5 hgrow5 hv5)
              | (go_simp; go_at_call 35; (with_reducible refine Calls.mono (HRG.out _) ?_); rintro e wp ⟨⟨rg, rfl, hrg⟩, hbp⟩; have hgp : w8.grownBy wp (some g) := (by first | exact grown_trans hgd (below_grown hbp _) | exact below_grown hbp _); have hctp := HCT.out wp hgp; have hs8p : StreamAt wp g A n c (K + 10) := (by first | exact hs8d.below hbp | exact HS8.out.below hbp); clear hbp)
              | (go_simp; go_at_call 35; (with_reducible refine Calls.mono (HR0.out _) ?_); rintro e wq ⟨⟨rz, rfl, hrz⟩, hbq⟩; have hgq : w8.grownBy wq (some g) := grown_trans hgp (below_grown hbq _); have hctq := HCT.out wq hgq; have hctqA := fun (o : Obj) => HCT.out (wq.alloc o) (grown_alloc hgq o); have hsq : StreamAt wq g A n c (K + 10) := hs8p.below hbq; clear hbq)
              | (go_simp; go_at_call 34; (with_reducible refine Calls.mono (some10_any g A n c (K + 10) 16 _ 3 3 _ ?_ (by omega) (by omega) (by omega) ?_ ?_) ?_); (exact hsq.alloc _); (have := hgq.size; omega); (exact fun j hj => ⟨_, cells_strings _ [⟨#[48]⟩, rg, rz] _ j hj, three_le hrg hrz j hj⟩); rintro e wo ⟨rb, rfl, hrb, hso, hgo0⟩; obtain ⟨rs, rfl⟩ : ∃ rs : List UInt8, rb = ⟨rs.toArray⟩ := ⟨rb.data.toList, by simp⟩; have hgo : w8.grownBy wo (some g) := grown_trans (grown_alloc hgq _) hgo0; have hcto := HCT.out wo hgo; have hctoA := fun (o : Obj) => HCT.out (wo.alloc o) (grown_alloc hgo o); have HRS : Hid (rs.length ≤ 16) := (by show _ ≤ _; simpa [ByteArray.size] using hrb); clear hrb hgo0))
            all_goals
              have hov := (HFW.out _ hgo).ov.lt
              have HGX : Hid (w1.grownBy (w5.setCell ⟨T, 4, none⟩ (.slice A8 (kc.length + 1) c8)) (some g)) := grown_row (grown_row (grown_alloc (grown_trans HG8.out hgo) _) HGA.out (fun j e => by have := (hov j e).1; omega)) (grown_setCell w5 T 4 _) (fun j e => by cases e; have := HTB.out; omega)
              have HSX : Hid (StreamAt (w5.setCell ⟨T, 4, none⟩ (.slice A8 (kc.length + 1) c8)) g A n c (K + 11)) := (StreamAt.row_ (StreamAt.alloc hso _) HGA.out (fun j e => by have := (hov j e).1; omega)).row_ (grown_setCell w5 T 4 _) (fun j e => by cases e; have := HTB.out; omega)
              have HKX : Hid ((kc ++ [rs]).length ≤ 10 ∧ ∀ s ∈ kc ++ [rs], s.length ≤ 100) := ⟨by rw [List.length_append, List.length_singleton]; omega, fun s hs => by
                rcases List.mem_append.1 hs with hs | hs
                · have := HKC.out.2 s hs; omega
                · rw [List.mem_singleton.1 hs]; have := HRS.out; omega⟩
              clear hov hct0 hct1 HGA
              have hlen : (kc ++ [rs]).length = kc.length + 1 := by simp
              go_upto_region 18 with (fail)
              generalize w5.setCell ⟨T, 4, none⟩ (.slice A8 (kc.length + 1) c8) = wA at *
              have hRE : FiltB wA R (.slice none 0 0) (.slice none 0 0) (.int .i64 0) (.int .i64 0) (.slice none 0 0) := (HGX.out.block R HR1.out.lt (fun e => by have := Option.some.inj e; have := HRW.out; omega)).trans HR1.out
              obtain ⟨t0, t1, t2, t3, t4, f0, f1, f2, f3, f4⟩ := HFA.out.row.c
              obtain ⟨r0, r1, r2, r3, r4, rf0, rf1, rf2, rf3, rf4⟩ := hRE.c
              have hst := filt_stored hRE (.slice A2 lk.length c2) (.slice A3 lq.length c3) (.int .i64 x) (.int .i64 y) (.slice A8 (kc.length + 1) c8)
              have HPOST := Lib.hid (HFA.out.post (K := K) hRE hst.2 HSX.out (by omega) HALW.out HGX.out hgw HRW.out (Nat.le_trans HALW.out.size hB2) (kinds_small HMK.out) (cus_small HMQ.out) HKX.out)
              obtain ⟨z0, z1, z2, z3, z4, -, -, -, -, -⟩ := hst.1.c
              go_wp2_with fail
              exact bodyPost_ret (v := .agg #[(.slice A2 lk.length c2), (.slice A3 lq.length c3), .int .i64 x, .int .i64 y, (.slice A8 (kc.length + 1) c8)]) (by simp [results, Tryz.results7, go_sem, z0, z1, z2, z3, z4]) rfl HPOST.out
end Go.Proofs.YtfijplllfdmcoaaGreatDoor
