
/-
  Slices of elements of whatever type, laid cell by cell: ones that the call owns, and ones that are read.
-/
import Derived.Test.YthogkcgklakibaaGreatDoorStream
import Derived.OwnWalk
import Derived.Deep.LoopGhost
import Derived.Maps.AppendAt
import Derived.Laws.AppendOwnNone
import Derived.Deep.DeepCutAuto
import Derived.Deep.RegionHeld3
import Derived.Deep.AppendLies
namespace Go.Proofs.YthogkcgklakibaaGreatDoor
open Go.RowKit

theorem StreamAt.alloc {w : World} {g : Nat} {A : Option Addr} {n c K : Nat} (h : StreamAt w g A n c K) (o : Obj) : StreamAt (w.alloc o) g A n c K :=
  h.below ((Below.refl _ _).alloc (Nat.le_refl _) o)
theorem grown_alloc {a w : World} {row : Option Nat} (h : a.grownBy w row) (o : Obj) : a.grownBy (w.alloc o) row :=
  ⟨h.os, h.tape, h.output, Nat.le_trans h.size (by simp), fun i hi hne => (Below.heap_alloc w o i (Nat.lt_of_lt_of_le hi h.size)).trans (h.block i hi hne)⟩
theorem grown_trans {a b c : World} {row : Option Nat} (h : a.grownBy b row) (k : b.grownBy c row) : a.grownBy c row :=
  ⟨k.os.trans h.os, k.tape.trans h.tape, k.output.trans h.output, Nat.le_trans h.size k.size, fun i hi hne => (k.block i (Nat.lt_of_lt_of_le hi h.size) hne).trans (h.block i hi hne)⟩
theorem grown_below {a b c : World} {row : Option Nat} (h : a.grownBy b row) (k : Below b.heap.size b c) : a.grownBy c row :=
  grown_trans h ⟨k.os, k.tape, k.output, k.size, fun i hi _ => k.block i hi⟩
theorem below_grown {w w' : World} (k : Below w.heap.size w w') (row : Option Nat) : w.grownBy w' row := ⟨k.os, k.tape, k.output, k.size, fun i hi _ => k.block i hi⟩
theorem grown_row {a b c : World} {g : Nat} {row : Option Nat} (h : a.grownBy b (some g)) (k : b.grownBy c row) (hr : ∀ i, row = some i → a.heap.size ≤ i) : a.grownBy c (some g) :=
  ⟨k.os.trans h.os, k.tape.trans h.tape, k.output.trans h.output, Nat.le_trans h.size k.size, fun i hi hne => (k.block i (Nat.lt_of_lt_of_le hi h.size) (fun e => by have := hr i e.symm; omega)).trans (h.block i hi hne)⟩
theorem StreamAt.row_ {b d : World} {g : Nat} {A : Option Addr} {n c K : Nat} {row : Option Nat} (h : StreamAt b g A n c K) (k : b.grownBy d row) (hr : ∀ i, row = some i → g < i) : StreamAt d g A n c K :=
  h.keep fun i hi => k.block i (by have := h.lt; omega) (fun e => by have := hr i e.symm; omega)
theorem below_drewN {B : Nat} {a w : World} (h : Below B a w) (n : Nat) : Below B a (w.drewN n) := ⟨h.os, h.tape, h.output, h.size, h.block⟩
theorem below_trans' {w w1 w2 : World} (h1 : Below w.heap.size w w1) (h2 : Below w1.heap.size w1 w2) : Below w.heap.size w w2 := h1.trans (h2.mono h1.size)
theorem addr_add (g o j : Nat) : (⟨g, o, none⟩ : Addr).add j = ⟨g, o + j, none⟩ := by unfold Addr.add; split <;> simp_all

/-- How an element type lies: its number, its slice's, its cells and bytes, and how a value is laid. -/
structure Elem (α : Type) where
  t : TypeId
  ts : TypeId
  size : Nat
  bytes : Nat
  zero : Value
  enc : α → List Value
structure Elem.Ok {α : Type} (E : Elem α) : Prop where
  len : ∀ x, (E.enc x).length = E.size
  one : ∀ x, ∀ u ∈ E.enc x, u.oneCell' = true
  pos : 0 < E.size
  few : E.bytes ≤ 1000
  info : (Tryz.prog.info? E.t).map (fun i => (i.zero, i.size, i.bytes)) = some (some E.zero, E.size, E.bytes)
  zcells : E.zero.cells.size = E.size
  und : Tryz.prog.underlying E.ts = some (.slice E.t)

section
variable {α : Type} {E : Elem α}

def Elem.cells (E : Elem α) (l : List α) : List Value := l.flatMap E.enc
theorem Elem.cells_append (l m : List α) : E.cells (l ++ m) = E.cells l ++ E.cells m := by simp [Elem.cells]
theorem Elem.cells_length (hE : E.Ok) : ∀ l : List α, (E.cells l).length = l.length * E.size
  | [] => by simp [Elem.cells]
  | x :: l => by
    have := Elem.cells_length hE l
    have := hE.len x
    simp only [Elem.cells, List.flatMap_cons, List.length_append, List.length_cons, Nat.add_mul, Nat.one_mul] at *
    omega
theorem Elem.cells_one (hE : E.Ok) (l : List α) : ∀ u ∈ E.cells l, u.oneCell' = true := by
  intro u hu
  simp only [Elem.cells, List.mem_flatMap] at hu
  obtain ⟨x, _, hx⟩ := hu
  exact hE.one x u hx
theorem Elem.cells_at (hE : E.Ok) : ∀ (l : List α) (k : Nat) (x : α) (i : Nat), l[k]? = some x → i < E.size → (E.cells l)[k * E.size + i]? = (E.enc x)[i]?
  | [], k, x, i, h, _ => by simp at h
  | y :: l, 0, x, i, h, hi => by
    simp at h; subst h
    have := hE.len y
    simp only [Elem.cells, List.flatMap_cons, Nat.zero_mul, Nat.zero_add]
    rw [List.getElem?_append_left (by omega)]
  | y :: l, k + 1, x, i, h, hi => by
    have ih := Elem.cells_at hE l k x i (by simpa using h) hi
    have hl := hE.len y
    simp only [Elem.cells, List.flatMap_cons]
    rw [List.getElem?_append_right (by rw [hl, Nat.add_mul]; omega), hl]
    have e : (k + 1) * E.size + i - E.size = k * E.size + i := by rw [Nat.add_mul]; omega
    rw [e]; exact ih

/-- A slice of the call's own. -/
def Owns (E : Elem α) (w : World) (base : Nat) (v : Value) (l : List α) : Prop := w.ownsRow base E.t E.size v l.length (E.cells l)
/-- A slice that reads as a list. -/
def ElemsAt (E : Elem α) (w : World) (A : Option Addr) (n c : Nat) (l : List α) : Prop :=
  n = l.length ∧ n ≤ c ∧ (A = none → c = 0) ∧ (0 < n → ∃ g off, A = some ⟨g, off, none⟩ ∧ g < w.heap.size ∧ ∀ (k : Nat) (x : α) (i : Nat) (v : Value), l[k]? = some x → (E.enc x)[i]? = some v → w.cell? ⟨g, off + k * E.size + i, none⟩ = some v)

theorem Owns.nil (w : World) (base : Nat) : Owns E w base (.slice none 0 0) [] := World.ownsRow_nil _ _ _ _
theorem Owns.at_ (hE : E.Ok) {w : World} {base : Nat} {v : Value} {l : List α} (h : Owns E w base v l) : ∃ A c, v = .slice A l.length c ∧ c ≤ maxLen ∧ ElemsAt E w A l.length c l ∧ (∀ g off, A = some ⟨g, off, none⟩ → off = 0 ∧ base ≤ g) := by
  rcases h.2 with ⟨rfl, hn⟩ | ⟨g, cap, cur, rfl, hb, hh, h1, h2, h3, h4⟩
  · exact ⟨none, 0, by rw [hn], Nat.zero_le _, ⟨rfl, by omega, fun _ => rfl, fun h => by omega⟩, fun _ _ e => by cases e⟩
  · refine ⟨_, cap, rfl, h2, ⟨rfl, h1, (fun e => by cases e), fun _ => ⟨g, 0, rfl, (Array.getElem?_eq_some_iff.1 hh).1, fun k x i v hk hv => ?_⟩⟩, fun g' off e => by cases e; exact ⟨rfl, hb⟩⟩
    have hi : i < E.size := by have := (List.getElem?_eq_some_iff.1 hv).1; rw [hE.len] at this; exact this
    have hc := h.cells (g := g) rfl (k * E.size + i) v (by rw [Elem.cells_at hE l k x i hk hi]; exact hv)
    rw [addr_add] at hc
    rw [Nat.zero_add] at hc ⊢
    exact hc
theorem ElemsAt.keep {w w' : World} {A : Option Addr} {n c : Nat} {l : List α} (h : ElemsAt E w A n c l) (hb : Below w.heap.size w w') : ElemsAt E w' A n c l := by
  refine ⟨h.1, h.2.1, h.2.2.1, fun h0 => ?_⟩
  obtain ⟨g, off, rfl, hg, hc⟩ := h.2.2.2 h0
  exact ⟨g, off, rfl, Nat.lt_of_lt_of_le hg hb.size, fun k x i v hk hv => (hb.cell (p := ⟨g, _, none⟩) hg).trans (hc k x i v hk hv)⟩
theorem ElemsAt.grown {w w' : World} {A : Option Addr} {n c : Nat} {l : List α} {row : Option Nat} (h : ElemsAt E w A n c l) (hb : w.grownBy w' row) (hr : ∀ g off, A = some ⟨g, off, none⟩ → row ≠ some g) : ElemsAt E w' A n c l := by
  refine ⟨h.1, h.2.1, h.2.2.1, fun h0 => ?_⟩
  obtain ⟨g, off, rfl, hg, hc⟩ := h.2.2.2 h0
  exact ⟨g, off, rfl, Nat.lt_of_lt_of_le hg hb.size, fun k x i v hk hv => (World.cell?_of_block (hb.block g hg (fun e => hr g off rfl e.symm))).trans (hc k x i v hk hv)⟩
theorem ElemsAt.drewN {w : World} {A : Option Addr} {n c : Nat} {l : List α} (h : ElemsAt E w A n c l) (q : Nat) : ElemsAt E (w.drewN q) A n c l := h
theorem ElemsAt.cells_ {w : World} {A : Option Addr} {n c : Nat} {l : List α} (hE : E.Ok) (h : ElemsAt E w A n c l) (a : Addr) (ha : A = some a) : ∀ j u, (E.cells l)[j]? = some u → w.cell? (a.add j) = some u := by
  intro j u hu
  have hj := (List.getElem?_eq_some_iff.1 hu).1
  rw [Elem.cells_length hE] at hj
  have hp := hE.pos
  have hn : 0 < n := by
    rw [h.1]
    rcases Nat.eq_zero_or_pos l.length with h0 | h0
    · rw [h0] at hj; omega
    · exact h0
  obtain ⟨g, off, hA, hg, hc⟩ := h.2.2.2 hn
  rw [ha] at hA
  cases hA
  rw [addr_add]
  have hk : j / E.size < l.length := (Nat.div_lt_iff_lt_mul hp).2 hj
  have hm : j % E.size < E.size := Nat.mod_lt _ hp
  have e : j / E.size * E.size + j % E.size = j := by rw [Nat.mul_comm]; exact Nat.div_add_mod _ _
  have hx := List.getElem?_eq_getElem hk
  have h1 := Elem.cells_at hE l (j / E.size) _ (j % E.size) hx hm
  rw [e, hu] at h1
  have h2 := hc (j / E.size) _ (j % E.size) u hx h1.symm
  rw [Nat.add_assoc, e] at h2
  exact h2
theorem Owns.kept_ {w w' : World} {base : Nat} {v : Value} {l : List α} {row : Option Nat} (h : Owns E w base v l) (hb : w.grownBy w' row) (hr : ∀ i, row = some i → i < base) : Owns E w' base v l := by
  refine h.kept hb ?_
  cases hv : v.ownBlock with
  | none => exact .inl rfl
  | some k => exact .inr (fun he => by have := (h.lt k hv).1; have := hr k he.symm; omega)
theorem Owns.below_ {w w' : World} {base : Nat} {v : Value} {l : List α} (h : Owns E w base v l) (hb : Below w.heap.size w w') : Owns E w' base v l := h.kept_ (below_grown hb none) (fun _ e => by cases e)
theorem Owns.base_ {w : World} {base base' : Nat} {v : Value} {l : List α} (h : Owns E w base v l) (hb : base' ≤ base) : Owns E w base' v l := by
  refine ⟨h.1, ?_⟩
  rcases h.2 with h | ⟨g, cap, cur, h1, h2, h3⟩
  · exact .inl h
  · exact .inr ⟨g, cap, cur, h1, by omega, h3⟩

theorem append_elems (hE : E.Ok) {ops : Array Oper} {rest : List Oper} {o : Oper} {a : Act} {Q : Exit → Act → World → Prop} {w : World} (hgd : o.guard = none) (s x : Operand)
    (ho : o.op = .call { callee := .builtin .append, args := #[s, x], argTypes := #[E.ts, E.ts] })
    (base : Nat) (v : Value) (l : List α) (hs : a.eval s = v) (hown : Owns E w base v l)
    (A : Option Addr) (m c : Nat) (l2 : List α) (hx : a.eval x = .slice A m c) (hr : ElemsAt E w A m c l2) (hsz : l.length + l2.length ≤ 100000) (hbase : base ≤ w.heap.size)
    (h : ∀ v' w', Owns E w' base v' (l ++ l2) → w.grownBy w' v.ownBlock → (v'.ownBlock = v.ownBlock ∨ v'.ownBlock = some w.heap.size) → wpList Tryz.prog ops Q rest (a.put o.dst v') w') : wpList Tryz.prog ops Q (o :: rest) a w := by
  obtain ⟨i0, hi, hz0, hz1, hz2⟩ := info_parts hE.info
  have hm := hr.1
  cases A with
  | none =>
    have hc0 := hr.2.2.1 rfl
    subst hc0
    have hm0 : m = 0 := by have := hr.2.1; omega
    subst hm0
    have hl2 : l2 = [] := List.eq_nil_of_length_eq_zero hm.symm
    subst hl2
    refine wpList_append_own_none hgd s x E.ts ho base E.t i0 E.size hE.und hi v l.length (E.cells l) hs hown hx ?_
    exact h v w (by rw [List.append_nil]; exact hown) (World.grownBy.refl _ _) (.inl rfl)
  | some ad =>
    have hf := hE.few
    have hb : (l.length + m) * E.bytes ≤ 140737488355328 := Nat.le_trans (Nat.mul_le_mul (show l.length + m ≤ 100000 by omega) hf) (by omega)
    refine wpList_append_own_at w hgd s x E.ts ho base E.t i0 _ E.size E.bytes hE.und hi hz0 hz1 hz2 hE.zcells hE.pos v l.length (E.cells l) hs hown ad m c (E.cells l2) hx (by rw [Elem.cells_length hE, hm]) (hr.cells_ hE ad rfl) (Elem.cells_one hE l2) (by simp only [maxLen]; omega) hb hbase ?_
    intro v' w' h1 h2 _ h3
    refine h v' w' ?_ h2 h3
    unfold Owns
    rw [Elem.cells_append, List.length_append, ← hm]
    exact h1

theorem Owns.ne_block {w : World} {base : Nat} {v : Value} {l : List α} (h : Owns E w base v l) {b : Nat} {cs : Array Value} {t : TypeId} {fr : Nat × Nat} (hb : w.heap[b]? = some (.cells cs t fr)) (ht : t ≠ E.t) : v.ownBlock ≠ some b := by
  intro e
  rcases h.2 with ⟨rfl, _⟩ | ⟨g, cap, cur, rfl, _, hh, _⟩
  · cases e
  · obtain rfl : g = b := Option.some.inj e
    rw [hb] at hh
    cases hh
    exact ht rfl
theorem Owns.ne_own {β : Type} {F : Elem β} {w : World} {base base' : Nat} {v u : Value} {l : List α} {m : List β} (h : Owns E w base v l) (k : Owns F w base' u m) (ht : F.t ≠ E.t) : v.ownBlock = none ∨ u.ownBlock ≠ v.ownBlock := by
  rcases k.2 with ⟨rfl, _⟩ | ⟨g, cap, cur, rfl, _, hh, _⟩
  · cases hv : v.ownBlock with
    | none => exact .inl rfl
    | some b => exact .inr (fun e => by cases e)
  · have := h.ne_block hh ht
    cases hv : v.ownBlock with
    | none => exact .inl rfl
    | some b => exact .inr (fun e => by rw [hv] at this; exact this e.symm)
/-- Rows of another type stay while one grows. -/
theorem Owns.beside {β : Type} {F : Elem β} {w w' : World} {base base' : Nat} {v u : Value} {l : List α} {m : List β} (h : Owns E w base v l) (k : Owns F w base' u m) (ht : F.t ≠ E.t) (hg : w.grownBy w' u.ownBlock) : Owns E w' base v l :=
  h.kept hg ((h.ne_own k ht).imp id Ne.symm)
theorem step_elems (hE : E.Ok) {ops : Array Oper} {o : Oper} {a : Act} {K : Act → World → Prop} {Q : Exit → Act → World → Prop} {X : Prop} {w : World} (hgd : o.guard = none) (s x : Operand)
    (ho : o.op = .call { callee := .builtin .append, args := #[s, x], argTypes := #[E.ts, E.ts] })
    (base : Nat) (v : Value) (l : List α) (hs : a.eval s = v) (hown : Owns E w base v l)
    (ad : Addr) (m c : Nat) (l2 : List α) (hx : a.eval x = .slice (some ad) m c) (hr : ElemsAt E w (some ad) m c l2) (hm0 : 0 < m) (hsz : l.length + l2.length ≤ 100000) (hbase : base ≤ w.heap.size)
    (h : ∀ v' w', Owns E w' base v' (l ++ l2) → w.grownBy w' v.ownBlock → (v'.ownBlock = v.ownBlock ∨ v'.ownBlock = some w.heap.size) → K (a.put o.dst v') w') : if Region.wanted o (yielded ops a.tmps) = true then Oper.wp Tryz.prog o a w K Q else X := by
  obtain ⟨i0, hi, hz0, hz1, hz2⟩ := info_parts hE.info
  have hm := hr.1
  have hf := hE.few
  have hb : (l.length + m) * E.bytes ≤ 140737488355328 := Nat.le_trans (Nat.mul_le_mul (show l.length + m ≤ 100000 by omega) hf) (by omega)
  refine step_append_lies w hgd s x E.ts ho base E.t i0 _ E.size E.bytes hE.und hi hz0 hz1 hz2 hE.zcells hE.pos v l.length (E.cells l) hs hown ad m c (E.cells l2) hx (by rw [Elem.cells_length hE, hm]) (hr.cells_ hE ad rfl) (Elem.cells_one hE l2) hm0 (by simp only [maxLen]; omega) hb hbase w.heap.size rfl ?_
  intro g cap w' h1 h2 h3 _
  have hown' : Owns E w' base (.slice (some ⟨g, 0, none⟩) (l.length + m) cap) (l ++ l2) := by
    unfold Owns
    rw [Elem.cells_append, List.length_append, ← hm]
    exact h1
  refine h _ w' hown' h2 ?_
  rcases h3 with h3 | h3
  · exact .inl h3.symm
  · exact .inr (by rw [h3]; rfl)

/-- One element, laid into a new block as a variadic argument. -/
theorem one_elem (w : World) (x : α) : ElemsAt E (w.alloc (.cells (E.enc x).toArray E.t)) (some ⟨w.heap.size, 0, none⟩) 1 1 [x] := by
  refine ⟨rfl, by omega, (fun e => by cases e), fun _ => ⟨w.heap.size, 0, rfl, by simp, fun k y i v hk hv => ?_⟩⟩
  have hk0 : k = 0 := by have := (List.getElem?_eq_some_iff.1 hk).1; simp at this; exact this
  subst hk0
  simp at hk; subst hk
  rw [World.cell?_alloc_at _ _ _ _ rfl]
  simpa using hv

/-- A piece of a slice. -/
theorem ElemsAt.piece {w : World} {A : Option Addr} {n c : Nat} {l : List α} (h : ElemsAt E w A n c l) (i j : Nat) (hij : i ≤ j) (hj : j ≤ n) :
    ∃ A', sliced A i j c E.size = .slice A' (j - i) (c - i) ∧ ElemsAt E w A' (j - i) (c - i) ((l.drop i).take (j - i)) := by
  have hn := h.1
  have hnc := h.2.1
  refine ⟨if c = i then A else A.map (·.add (i * E.size)), rfl, ?_, by omega, ?_, ?_⟩
  · simp; omega
  · intro hA
    by_cases hc : c = i
    · omega
    · rw [if_neg hc] at hA
      cases A with
      | none => have := h.2.2.1 rfl; omega
      | some a => cases hA
  · intro h0
    obtain ⟨g, off, rfl, hg, hc⟩ := h.2.2.2 (by omega)
    have hne : ¬ c = i := by omega
    rw [if_neg hne]
    refine ⟨g, off + i * E.size, by simp [addr_add], hg, fun k x m v hk hv => ?_⟩
    have hk' : l[i + k]? = some x := by
      rw [List.getElem?_take] at hk
      split at hk
      · rw [List.getElem?_drop] at hk; exact hk
      · cases hk
    have := hc (i + k) x m v hk' hv
    have e : off + (i + k) * E.size + m = off + i * E.size + k * E.size + m := by rw [Nat.add_mul]; omega
    rw [e] at this
    exact this
end

/-- Strings. -/
def StrE : Elem (List UInt8) := ⟨9, 72, 1, 16, .string ⟨#[]⟩, fun x => [.string ⟨x.toArray⟩]⟩
theorem strE_ok : StrE.Ok := ⟨fun _ => rfl, fun x u hu => by simp [StrE] at hu; subst hu; rfl, by decide, by decide, by kernel_rfl, by kernel_rfl, Tryz.underlying72⟩
abbrev OwnStrs (w : World) (base : Nat) (v : Value) (l : List (List UInt8)) : Prop := Owns StrE w base v l
abbrev StrsAt (w : World) (A : Option Addr) (n c : Nat) (l : List (List UInt8)) : Prop := ElemsAt StrE w A n c l
theorem ElemsAt.str {w : World} {A : Option Addr} {n c : Nat} {l : List (List UInt8)} (h : StrsAt w A n c l) (h0 : 0 < n) : ∃ g off, A = some ⟨g, off, none⟩ ∧ g < w.heap.size ∧ ∀ k, k < n → w.cell? ⟨g, off + k, none⟩ = some (.string ⟨(l.getD k []).toArray⟩) := by
  obtain ⟨g, off, hA, hg, hc⟩ := h.2.2.2 h0
  refine ⟨g, off, hA, hg, fun k hk => ?_⟩
  have hl : k < l.length := by rw [← h.1]; exact hk
  have := hc k _ 0 (.string ⟨(l.getD k []).toArray⟩) (List.getElem?_eq_getElem hl) (by simp [StrE, hl])
  simpa [StrE] using this
theorem cells_strings (w : World) (ss : List ByteArray) (t : TypeId) (j : Nat) (hj : j < ss.length) :
    (w.alloc (.cells (ss.map Value.string).toArray t)).cell? ⟨w.heap.size, j, none⟩ = some (.string (ss.getD j ByteArray.empty)) := by
  rw [World.cell?_alloc_at _ _ _ _ rfl]
  simp [hj]

theorem slice_to (t : ByteArray) (i : Nat) (h : i ≤ t.size) (w : World) : (Instr.slice 9 (.string t) none (some (.int .i64 (i : Int))) none).run Tryz.prog w = .ok (.string (t.extract 0 i)) w := by
  have h1 : (0 : Int) ≤ (i : Int) ∧ (i : Int) ≤ (t.size : Int) := ⟨by omega, by omega⟩
  simp [Instr.slice, Instr.sliceBounds, Instr.sliceBound, asIntOf, run_underlying Tryz.underlying9, h]
theorem slice_from (t : ByteArray) (i : Nat) (z : Int) (hz : z = i) (h : i ≤ t.size) (w : World) : (Instr.slice 9 (.string t) (some (.int .i64 z)) none none).run Tryz.prog w = .ok (.string (t.extract i t.size)) w := by
  subst hz
  simp [Instr.slice, Instr.sliceBounds, Instr.sliceBound, asIntOf, run_underlying Tryz.underlying9, h]

end Go.Proofs.YthogkcgklakibaaGreatDoor
