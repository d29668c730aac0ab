
/-
  Items: how they lie; where one is, and those above it, in plain lists.
-/
import Derived.Test.YtfijplllfdmcoaaGreatDoorElems
import Derived.Lib.Hide
namespace Go.Proofs.YtfijplllfdmcoaaGreatDoor
open Go.RowKit

/-- An item. -/
structure Itm where
  id : ByteArray
  cu : ByteArray
  kind : Int
  name : ByteArray
  at_ : Int
  par : ByteArray
  text : ByteArray
def Itm.cells (x : Itm) : List Value := [.string x.id, .string x.cu, .int .i64 x.kind, .string x.name, .int .i64 x.at_, .string x.par, .string x.text]
def Itm.v (x : Itm) : Value := .agg #[.string x.id, .string x.cu, .int .i64 x.kind, .string x.name, .int .i64 x.at_, .string x.par, .string x.text]
def ItemE : Elem Itm := ⟨60, 26, 7, 96, .agg #[.string ⟨#[]⟩, .string ⟨#[]⟩, .int .i64 0, .string ⟨#[]⟩, .int .i64 0, .string ⟨#[]⟩, .string ⟨#[]⟩], Itm.cells⟩
theorem itemE_ok : ItemE.Ok := ⟨fun _ => rfl, fun x u hu => by
  have hm : u ∈ [Value.string x.id, .string x.cu, .int .i64 x.kind, .string x.name, .int .i64 x.at_, .string x.par, .string x.text] := hu
  simp only [List.mem_cons, List.not_mem_nil, or_false] at hm
  rcases hm with h | h | h | h | h | h | h <;> (subst h; rfl), by decide, by decide, by kernel_rfl, by kernel_rfl, Tryz.underlying26⟩
abbrev ItemsAt (w : World) (A : Option Addr) (n c : Nat) (l : List Itm) : Prop := ElemsAt ItemE w A n c l
theorem ElemsAt.item {w : World} {A : Option Addr} {n c : Nat} {l : List Itm} (h : ItemsAt w A n c l) (h0 : 0 < n) : ∃ g off, A = some ⟨g, off, none⟩ ∧ g < w.heap.size ∧ ∀ k x, l[k]? = some x →
    w.cell? ⟨g, off + k * 7, none⟩ = some (.string x.id) ∧ w.cell? ⟨g, off + k * 7 + 1, none⟩ = some (.string x.cu) ∧ w.cell? ⟨g, off + k * 7 + 2, none⟩ = some (.int .i64 x.kind) ∧ w.cell? ⟨g, off + k * 7 + 3, none⟩ = some (.string x.name) ∧ w.cell? ⟨g, off + k * 7 + 4, none⟩ = some (.int .i64 x.at_) ∧ w.cell? ⟨g, off + k * 7 + 5, none⟩ = some (.string x.par) ∧ w.cell? ⟨g, off + k * 7 + 6, none⟩ = some (.string x.text) := by
  obtain ⟨g, off, hA, hg, hc⟩ := h.2.2.2 h0
  exact ⟨g, off, hA, hg, fun k x hx => ⟨hc k x 0 _ hx rfl, hc k x 1 _ hx rfl, hc k x 2 _ hx rfl, hc k x 3 _ hx rfl, hc k x 4 _ hx rfl, hc k x 5 _ hx rfl, hc k x 6 _ hx rfl⟩⟩
/-- Seven cells of a block of their own. -/
theorem item_new (w : World) (x : Itm) : (w.alloc (.cells x.cells.toArray 60)).heap[w.heap.size]? = some (.cells x.cells.toArray 60 (0, 0)) := heap_alloc_new w _
def ItemAt (w : World) (P : Nat) (x : Itm) : Prop := w.heap[P]? = some (.cells x.cells.toArray 60 (0, 0))
theorem ItemAt.lt {w : World} {P : Nat} {x : Itm} (h : ItemAt w P x) : P < w.heap.size := (Array.getElem?_eq_some_iff.1 h).1
theorem ItemAt.keep {w w' : World} {P : Nat} {x : Itm} (h : ItemAt w P x) (hb : Below w.heap.size w w') : ItemAt w' P x := (hb.block P h.lt).trans h
theorem ItemAt.c {w : World} {P : Nat} {x : Itm} (h : ItemAt w P x) : w.cell? ⟨P, 0, none⟩ = some (.string x.id) ∧ w.cell? ⟨P, 1, none⟩ = some (.string x.cu) ∧ w.cell? ⟨P, 2, none⟩ = some (.int .i64 x.kind) ∧ w.cell? ⟨P, 3, none⟩ = some (.string x.name) ∧ w.cell? ⟨P, 4, none⟩ = some (.int .i64 x.at_) ∧ w.cell? ⟨P, 5, none⟩ = some (.string x.par) ∧ w.cell? ⟨P, 6, none⟩ = some (.string x.text) := by
  refine ⟨?_, ?_, ?_, ?_, ?_, ?_, ?_⟩ <;> (rw [cell_of_row w P _ _ _ _ h]; rfl)

/-- Where the item with an id is. -/
def findI (l : List Itm) (id : ByteArray) : Option Nat := l.findIdx? fun x => decide (x.id = id)
theorem findI_some {l : List Itm} {id : ByteArray} {k : Nat} (h : findI l id = some k) : ∃ x, l[k]? = some x ∧ x.id = id ∧ ∀ j y, j < k → l[j]? = some y → y.id ≠ id := by
  unfold findI at h
  rw [List.findIdx?_eq_some_iff_getElem] at h
  obtain ⟨hk, h1, h2⟩ := h
  refine ⟨l[k], List.getElem?_eq_getElem hk, by simpa using h1, fun j y hj hy => ?_⟩
  obtain ⟨hjl, rfl⟩ := List.getElem?_eq_some_iff.1 hy
  have := h2 j hj
  simpa using this
theorem findI_none {l : List Itm} {id : ByteArray} (h : findI l id = none) : ∀ x ∈ l, x.id ≠ id := by
  unfold findI at h
  rw [List.findIdx?_eq_none_iff] at h
  intro x hx
  simpa using h x hx
theorem findI_lt {l : List Itm} {id : ByteArray} {k : Nat} (h : findI l id = some k) : k < l.length := by
  obtain ⟨x, hx, _⟩ := findI_some h
  exact (List.getElem?_eq_some_iff.1 hx).1
def placeI (l : List Itm) (id : ByteArray) : Int := match findI l id with
  | some k => (k : Int)
  | none => -1
/-- The item above one. -/
def parI (l : List Itm) (i : Nat) : Option Nat := match l[i]? with
  | some x => if x.par.data.toList = [] then none else findI l x.par
  | none => none
theorem parI_lt {l : List Itm} {i k : Nat} (h : parI l i = some k) : k < l.length := by
  unfold parI at h
  split at h
  · split at h
    · cases h
    · exact findI_lt h
  · cases h
/-- The items above one, the nearest first, so many at most. -/
def chainI (l : List Itm) : Nat → Nat → List Nat
  | 0, _ => []
  | f + 1, i => match parI l i with
    | none => []
    | some k => k :: chainI l f k
theorem chainI_none {l : List Itm} {i : Nat} (h : parI l i = none) : ∀ f, chainI l f i = []
  | 0 => rfl
  | f + 1 => by simp [chainI, h]
theorem chainI_some {l : List Itm} {i k : Nat} (h : parI l i = some k) (f : Nat) : chainI l (f + 1) i = k :: chainI l f k := by simp [chainI, h]
theorem chainI_len (l : List Itm) : ∀ f i, (chainI l f i).length ≤ f
  | 0, _ => Nat.le_refl _
  | f + 1, i => by
    cases h : parI l i with
    | none => rw [chainI_none h]; simp
    | some k => rw [chainI_some h]; have := chainI_len l f k; simp; omega
theorem chainI_lt (l : List Itm) : ∀ f i, ∀ k ∈ chainI l f i, k < l.length
  | 0, _ => fun k hk => by cases hk
  | f + 1, i => fun k hk => by
    cases h : parI l i with
    | none => rw [chainI_none h] at hk; cases hk
    | some j =>
      rw [chainI_some h] at hk
      rcases List.mem_cons.1 hk with rfl | hk
      · exact parI_lt h
      · exact chainI_lt l f j k hk
/-- A part of a chain: where it goes on. -/
theorem chainI_step {l : List Itm} : ∀ (f i : Nat) (m : Nat) (k : Nat), (chainI l f i)[m]? = some k → m + 1 < f → (chainI l f i)[m + 1]? = parI l k
  | 0, _, _, _, h, _ => by simp [chainI] at h
  | f + 1, i, m, k, h, hm => by
    cases hp : parI l i with
    | none => rw [chainI_none hp] at h; simp at h
    | some j =>
      rw [chainI_some hp] at h ⊢
      cases m with
      | zero =>
        simp at h
        subst h
        rw [List.getElem?_cons_succ]
        obtain ⟨f', rfl⟩ : ∃ f', f = f' + 1 := ⟨f - 1, by omega⟩
        cases hq : parI l j with
        | none => rw [chainI_none hq]; simp
        | some q => rw [chainI_some hq]; simp
      | succ m =>
        rw [List.getElem?_cons_succ] at h ⊢
        exact chainI_step f j m k h (by omega)
/-- No item comes back to itself; what others are in is a letter or a box; not too many are above one. -/
def KindAt (l : List Itm) (k : Nat) : Prop := ∃ y, l[k]? = some y ∧ (y.kind = 1 ∨ y.kind = 3)
structure TreeOk (l : List Itm) : Prop where
  loop : ∀ i, i < l.length → i ∉ chainI l (l.length + 1) i
  kind : ∀ i k, i < l.length → parI l i = some k → KindAt l k
  deep : ∀ i, i < l.length → (chainI l (l.length + 1) i).length ≤ 4
end Go.Proofs.YtfijplllfdmcoaaGreatDoor
