
/-
  The library's functions on slices of strings, in one word for how such slices lie: Split at one byte, Clone, Equal, Index, Builder.
-/
import Derived.Test.YthogkcgklakibaaGreatDoorElems
import Derived.Test.YthogkcgklakibaaGreatDoorShelf
import Derived.Test.YthogkcgklakibaaGreatDoorTokPlain
namespace Go.Proofs.YthogkcgklakibaaGreatDoor
open Go.RowKit

def bag (x : List UInt8) : ByteArray := ⟨x.toArray⟩
theorem bag_data (x : List UInt8) : (bag x).data.toList = x := by simp [bag]
theorem bag_inj {x y : List UInt8} : bag x = bag y ↔ x = y := ⟨fun h => by rw [← bag_data x, h, bag_data], fun h => by rw [h]⟩
theorem bag_of (s : ByteArray) : bag s.data.toList = s := by apply ByteArray.ext; simp [bag]
theorem bag_size (x : List UInt8) : (bag x).size = x.length := by simp [bag, ByteArray.size]

/-- The library's greatest length of a search by hand: whatever it is. -/
def MaxAt (w : World) : Prop := ∃ m : Int, w.cell? ⟨0, 0, none⟩ = some (.int .i64 m)
theorem MaxAt.below {w w' : World} (h : MaxAt w) (hb : Below w.heap.size w w') : MaxAt w' := by
  obtain ⟨m, hm⟩ := h
  exact ⟨m, (hb.cell (p := ⟨_, 0, none⟩) (World.block_lt_of_cell? w _ hm)).trans hm⟩
theorem MaxAt.keep {w w' : World} (h : MaxAt w) {g : Nat} (hg : 0 < g) (hb : w.grownBy w' (some g)) : MaxAt w' := by
  obtain ⟨m, hm⟩ := h
  exact ⟨m, (World.cell?_of_block (hb.block _ (World.block_lt_of_cell? w _ hm) (by simp; omega))).trans hm⟩

theorem StrsAt.bags {w : World} {g off n c : Nat} {l : List (List UInt8)} (h : StrsAt w (some ⟨g, off, none⟩) n c l) : ∀ j, j < (l.map bag).length → w.cell? ⟨g, off + j, none⟩ = some (.string ((l.map bag).getD j ByteArray.empty)) := by
  intro j hj
  have hl : j < l.length := by simpa using hj
  have hn := h.1
  obtain ⟨g', off', hA, _, hc⟩ := h.str (by omega)
  cases hA
  rw [hc j (by omega)]
  simp [hl, bag]

def NewAt (A : Option Addr) (b : Nat) : Prop := ∀ g off, A = some ⟨g, off, none⟩ → b ≤ g
def ApartOf (A : Option Addr) (v : Value) : Prop := ∀ g off, A = some ⟨g, off, none⟩ → v.ownBlock ≠ some g
theorem elem_strs : Tryz.prog.elem 72 = 9 := by kernel_rfl
theorem und_strs : Tryz.prog.underlying 72 = some (.slice (Tryz.prog.elem 72)) := by rw [elem_strs]; exact Tryz.underlying72
theorem sl_from (B : Option Addr) (m d j : Nat) (hj : j ≤ m) (V : Value) (h : sliced B j m d StrE.size = V) (wx : World) : (Instr.slice 72 (.slice B m d) (some (.int .i64 (j : Int))) none none).run Tryz.prog wx = .ok V wx := by
  rw [run_slice_l (P := Tryz.prog) (w := wx) (t := 72) (a := B) (len := m) (cap := d) (ht := und_strs) (kl := .i64) (l := (j : Int)) (h0 := by omega) (h1 := by omega), elem_strs, Tryz.sizeOf9]
  show Result.ok (sliced B ((j : Int)).toNat m d 1) wx = _
  rw [Int.toNat_natCast, ← h]; rfl
theorem sl_mid (B : Option Addr) (m d i j : Nat) (hij : i ≤ j) (hj : j ≤ d) (V : Value) (h : sliced B i j d StrE.size = V) (wx : World) : (Instr.slice 72 (.slice B m d) (some (.int .i64 (i : Int))) (some (.int .i64 (j : Int))) none).run Tryz.prog wx = .ok V wx := by
  rw [run_slice_lh (P := Tryz.prog) (w := wx) (t := 72) (a := B) (len := m) (cap := d) (ht := und_strs) (kl := .i64) (kh := .i64) (l := (i : Int)) (h := (j : Int)) (h0 := by omega) (h1 := by omega) (h2 := by omega), elem_strs, Tryz.sizeOf9]
  show Result.ok (sliced B ((i : Int)).toNat ((j : Int)).toNat d 1) wx = _
  rw [Int.toNat_natCast, Int.toNat_natCast, ← h]; rfl
def SplitPost (w : World) (c : UInt8) (L : List UInt8) (e : Ending) (w' : World) : Prop :=
  ∃ A n cap, e = .returned (.slice A n cap) ∧ StrsAt w' A n cap (splitC c L) ∧ Below w.heap.size w w' ∧ NewAt A w.heap.size
def ClonePost (w : World) (l : List (List UInt8)) (e : Ending) (w' : World) : Prop := ∃ v, e = .returned v ∧ OwnStrs w' w.heap.size v l ∧ Below w.heap.size w w'
theorem strE_cells (l : List (List UInt8)) : StrE.cells l = (l.map bag).map Value.string := by
  induction l with
  | nil => rfl
  | cons x l ih => simp only [Elem.cells, List.flatMap_cons, List.map_cons] at *; rw [ih]; rfl
def DrawPost (w : World) (v : Value) (e : Ending) (w' : World) : Prop := e = .returned v ∧ ∃ q, w' = w.drewN q
theorem bags_eq (l m : List (List UInt8)) : (l.map bag = m.map bag) ↔ l = m := by
  constructor
  · intro h
    have := congrArg (List.map (fun b : ByteArray => b.data.toList)) h
    simp only [List.map_map] at this
    have hid : ((fun b : ByteArray => b.data.toList) ∘ bag) = id := by funext x; exact bag_data x
    rw [hid, List.map_id, List.map_id] at this
    exact this
  · intro h; rw [h]
theorem equal_any (A B : Option Addr) (n c m d : Nat) (l k : List (List UInt8)) (w : World) (h : StrsAt w A n c l) (h' : StrsAt w B m d k) (hn : n ≤ 100000) (hm : m ≤ 100000) :
    Calls Tryz.prog 34 #[.slice A n c, .slice B m d] w (DrawPost w (.bool (decide (l = k)))) := by
  have hl := h.1
  have hk := h'.1
  by_cases hnm : n = m
  · subst hnm
    rcases Nat.eq_zero_or_pos n with h0 | h0
    · subst h0
      have e1 : l = [] := List.eq_nil_of_length_eq_zero hl.symm
      have e2 : k = [] := List.eq_nil_of_length_eq_zero hk.symm
      subst e1 e2
      refine (Tryz.slices_Equal_string_empty A B c 0 d w (by omega)).mono ?_
      rintro e w' ⟨rfl, rfl⟩
      exact ⟨rfl, 0, rfl⟩
    · obtain ⟨g1, o1, rfl, _, _⟩ := h.str h0
      obtain ⟨g2, o2, rfl, _, _⟩ := h'.str h0
      refine (Tryz.slices_Equal_string g1 o1 n c g2 o2 n d (l.map bag) (k.map bag) w (by simp; omega) (by simp; omega) (by omega) (by omega) h.bags h'.bags).mono ?_
      rintro e w' ⟨rfl, q, rfl⟩
      refine ⟨ret_bool ?_, q, rfl⟩
      rw [List.take_of_length_le (by simp; omega), List.take_of_length_le (by simp; omega)]
      exact decide_eq_decide.2 (bags_eq l k)
  · refine (Tryz.slices_Equal_string_lens A B n c m d w hnm).mono ?_
    rintro e w' ⟨rfl, rfl⟩
    refine ⟨ret_bool ?_, 0, rfl⟩
    symm
    simp only [decide_eq_false_iff_not]
    intro e; subst e; omega

/-- Where an element is for the first time. -/
def FirstAt (l : List (List UInt8)) (x : List UInt8) (r : Int) : Prop := (r = -1 ∧ x ∉ l) ∨ ∃ k : Nat, r = k ∧ l[k]? = some x ∧ ∀ j, j < k → l[j]? ≠ some x
theorem firstAt_idx (x : ByteArray) : ∀ (l : List (List UInt8)) (i : Nat), (Lib.idxFromS (l.map bag) x i = -1 ∧ x.data.toList ∉ l) ∨ ∃ k : Nat, Lib.idxFromS (l.map bag) x i = ((i + k : Nat) : Int) ∧ l[k]? = some x.data.toList ∧ ∀ j, j < k → l[j]? ≠ some x.data.toList
  | [], i => .inl ⟨rfl, by simp⟩
  | y :: l, i => by
    by_cases hy : bag y = x
    · refine .inr ⟨0, ?_, ?_, fun j hj => by omega⟩
      · simp [Lib.idxFromS, hy]
      · rw [← hy, bag_data]; rfl
    · have hy' : y ≠ x.data.toList := by intro e; apply hy; rw [e]; exact bag_of x
      have hstep : Lib.idxFromS ((y :: l).map bag) x i = Lib.idxFromS (l.map bag) x (i + 1) := by simp [Lib.idxFromS, hy]
      rw [hstep]
      rcases firstAt_idx x l (i + 1) with ⟨h1, h2⟩ | ⟨k, h1, h2, h3⟩
      · exact .inl ⟨h1, by simp only [List.mem_cons, not_or]; exact ⟨fun e => hy' e.symm, h2⟩⟩
      · refine .inr ⟨k + 1, by rw [h1]; congr 1; omega, by simpa using h2, fun j hj => ?_⟩
        cases j with
        | zero => simpa using hy'
        | succ j => simpa using h3 j (by omega)
def IndexPost (w : World) (l : List (List UInt8)) (x : List UInt8) (e : Ending) (w' : World) : Prop := ∃ r : Int, e = .returned (.int .i64 r) ∧ FirstAt l x r ∧ w' = w
def buildRen : Go.Shelf.Ren := ⟨fun | 167 => 165 | n => Tryz.lays156_ren.f n, Tryz.lays156_ren.t, Tryz.lays156_ren.g⟩
theorem lays167' : Go.Proofs.Lays.n167 Tryz.prog buildRen := { Tryz.lays156 with
  f167 := Tryz.func165.trans (congrArg some (by kernel_rfl))
  f240 := Tryz.func151.trans (congrArg some (by kernel_rfl))
  f276 := Tryz.func187.trans (congrArg some (by kernel_rfl))
  t5 := Tryz.underlying5
  a5 := Tryz.isAgg5
  z5 := Tryz.sizeOf5
  v5 := Tryz.zeroValue5 }
theorem lays166' : Go.Proofs.Lays.n166 Tryz.prog buildRen := { Tryz.lays156 with
  f166 := Tryz.func107.trans (congrArg some (by kernel_rfl))
  f240 := Tryz.func151.trans (congrArg some (by kernel_rfl))
  f276 := Tryz.func187.trans (congrArg some (by kernel_rfl)) }
theorem buildExtra : Builder.Extra Tryz.prog buildRen := {
  sizeBuilder := by kernel_rfl
  liesBuilder := by kernel_rfl
  t5 := Tryz.underlying5
  a5 := Tryz.isAgg5
  z5 := Tryz.sizeOf5
  v5 := Tryz.zeroValue5
  infoByte := by kernel_rfl
  cellsByte := by kernel_rfl
  sizeByte := by kernel_rfl
  neB5 := by decide }
/-- Block b holds a builder with these bytes. -/
def BuildAt (B b : Nat) (l : List UInt8) (w : World) : Prop := Lib.IsBuilder 154 5 B b (Lib.byteCells l) w
theorem byteCells_append (a b : List UInt8) : Lib.byteCells (a ++ b) = Lib.byteCells a ++ Lib.byteCells b := by simp [Lib.byteCells]
def WroteByte (B b : Nat) (l : List UInt8) (w : World) (e : Ending) (w' : World) : Prop := e = .returned .nilIface ∧ BuildAt B b l w' ∧ Below B w w'
def WroteString (B b : Nat) (n : Nat) (l : List UInt8) (w : World) (e : Ending) (w' : World) : Prop := e = .returned (.tuple #[.int .i64 n, .nilIface]) ∧ BuildAt B b l w' ∧ Below B w w'
theorem writeByte_any (B b : Nat) (l : List UInt8) (c : UInt8) (w : World) (h : BuildAt B b l w) (hl : l.length ≤ 1000000) (hB : B ≤ w.heap.size) :
    Calls Tryz.prog 165 #[.pointer (some ⟨b, 0, none⟩), .int .u8 (c.toNat : Int)] w (WroteByte B b (l ++ [c]) w) := by
  refine (Any.Builder_WriteByte lays167' buildExtra B b (Lib.byteCells l) (c.toNat : Int) w h (by simp [Lib.byteCells]; omega) hB).mono ?_
  rintro e w' ⟨rfl, h1, hb⟩
  refine ⟨rfl, .inr ?_, hb⟩
  rw [byteCells_append]
  exact h1
theorem writeString_any (B b : Nat) (l : List UInt8) (s : ByteArray) (w : World) (h : BuildAt B b l w) (hl : l.length + s.size ≤ 1000000) (hB : B ≤ w.heap.size) :
    Calls Tryz.prog 107 #[.pointer (some ⟨b, 0, none⟩), .string s] w (WroteString B b s.size (l ++ s.data.toList) w) := by
  refine (Any.Builder_WriteString lays166' buildExtra B b (Lib.byteCells l) s w h (by simp [Lib.byteCells]; omega) hB).mono ?_
  rintro e w' ⟨rfl, h1, hb⟩
  refine ⟨rfl, .inr ?_, hb⟩
  rw [byteCells_append]
  exact h1
def StringPost (B : Nat) (l : List UInt8) (w : World) (e : Ending) (w' : World) : Prop := e = .returned (.string (bag l)) ∧ Below B w w'
theorem string_any (B b : Nat) (l : List UInt8) (w : World) (h : BuildAt B b l w) (hB : B ≤ w.heap.size) :
    Calls Tryz.prog 109 #[.pointer (some ⟨b, 0, none⟩)] w (StringPost B l w) := Tryz.Builder_String_any B b l w h hB

end Go.Proofs.YthogkcgklakibaaGreatDoor
