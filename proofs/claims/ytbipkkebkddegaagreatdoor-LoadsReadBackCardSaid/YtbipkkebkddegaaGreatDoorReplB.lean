
/-
  What a Replacer of single bytes is built to.
-/
import Derived.Test.YtbipkkebkddegaaGreatDoorOnce
import Derived.Test.YtbipkkebkddegaaGreatDoorConv
import Derived.Test.YtbipkkebkddegaaGreatDoorReplPlain
import Derived.Deep.WholeRow
import Derived.Lib.SliceRun
namespace Go.Proofs.YtbipkkebkddegaaGreatDoor
open Go.RowKit

theorem zero_rep : Tryz.zeroCells214 = Array.replicate 257 (Value.slice none 0 0) := by kernel_rfl
/-- The cells of the struct that is built: 256 empty slices, the slice of what is replaced. -/
def bsr (v : Value) : Array Value := (Array.replicate 257 (Value.slice none 0 0)).setIfInBounds 256 v
theorem bsr_store (w : World) (A : Option Addr) (n c : Nat) :
    (storeCells ⟨w.heap.size, 0, none⟩ (Tryz.zeroCells214.toList.set 256 (.slice A n c)) 0).run Tryz.prog (w.alloc (.cells Tryz.zeroCells214 214)) = .ok () (w.alloc (.cells (bsr (.slice A n c)) 214)) := by
  have h := run_storeCells_new (P := Tryz.prog) w 214 Tryz.zeroCells214 (bsr (.slice A n c)) (by kernel_rfl) (by kernel_rfl) (by kernel_rfl)
  rw [zero_rep] at h ⊢
  unfold bsr at h ⊢
  rw [Array.toList_setIfInBounds] at h
  exact h
theorem bsr_size (v : Value) : (bsr v).size = 257 := by simp [bsr]
theorem bsr_nil (v : Value) (i : Nat) (h : i < 256) : (bsr v)[i]? = some (.slice none 0 0) := by
  unfold bsr
  rw [Array.getElem?_setIfInBounds_ne (by omega), Array.getElem?_replicate, if_pos (by omega)]
theorem bsr_last (v : Value) : (bsr v)[256]? = some v := by simp [bsr]

theorem one_back (w : World) (x : UInt8) : (convert 71 9 (.slice (some ⟨w.heap.size, 0, none⟩) 1 1)).run Tryz.prog (w.alloc (.cells #[.int .u8 (x.toNat : Int)] 5)) = .ok (.string ⟨#[x]⟩) (w.alloc (.cells #[.int .u8 (x.toNat : Int)] 5)) := by
  refine run_convert_bytes_back _ 71 9 5 ⟨w.heap.size, 0, none⟩ 1 [x] Tryz.underlying71 Tryz.underlying5 Tryz.underlying9 (fun j hj => ?_)
  have hj0 : j = 0 := by simpa using hj
  subst hj0
  have hadd : (⟨w.heap.size, 0, none⟩ : Addr).add 0 = ⟨w.heap.size, 0, none⟩ := by unfold Addr.add; split <;> simp_all
  rw [hadd, World.cell?_alloc_at _ _ _ _ rfl]
  rfl

/-- What a cell of the table holds. -/
def SlotAt (w : World) (base R : Nat) (u : Option Value) : Option (List UInt8) → Prop
  | none => u = some (.slice none 0 0)
  | some l => ∃ g N, u = some (.slice (some ⟨g, 0, none⟩) l.length N) ∧ base ≤ g ∧ g ≠ R ∧ BytesAt w g N l
theorem SlotAt.keep {w w' : World} {base R : Nat} {u : Option Value} {t : Option (List UInt8)} (h : SlotAt w base R u t) (hk : ∀ g, base ≤ g → g < w.heap.size → g ≠ R → (∃ C N, w.heap[g]? = some (.cells C 5 (N, N + 1))) → w'.heap[g]? = w.heap[g]?) : SlotAt w' base R u t := by
  cases t with
  | none => exact h
  | some l =>
    obtain ⟨g, N, h1, h2, h3, h4⟩ := h
    refine ⟨g, N, h1, h2, h3, h4.keep (hk g h2 h4.lt h3 ?_)⟩
    obtain ⟨C, hC, _⟩ := h4
    exact ⟨C, N, hC⟩
/-- The struct that is built: the table, and the bytes that it replaces. -/
def ReplAt (w : World) (base R : Nat) (tab : RTab) (tl : List UInt8) (A : Array Value) (V : Value) : Prop :=
  w.heap[R]? = some (.cells A 214 (0, 0)) ∧ A.size = 257 ∧ A[256]? = some V ∧ OwnStrs w base V (tl.map fun b => [b]) ∧ base ≤ R ∧ ∀ b : UInt8, SlotAt w base R A[b.toNat]? (tab b)
theorem ReplAt.lt {w : World} {base R : Nat} {tab : RTab} {tl : List UInt8} {A : Array Value} {V : Value} (h : ReplAt w base R tab tl A V) : R < w.heap.size := (Array.getElem?_eq_some_iff.1 h.1).1
theorem ReplAt.cell {w : World} {base R : Nat} {tab : RTab} {tl : List UInt8} {A : Array Value} {V : Value} (h : ReplAt w base R tab tl A V) (i : Nat) : w.cell? ⟨R, i, none⟩ = A[i]? := by rw [cell_of_row w R i _ _ _ h.1]
theorem ReplAt.frozen {w : World} {base R : Nat} {tab : RTab} {tl : List UInt8} {A : Array Value} {V : Value} (h : ReplAt w base R tab tl A V) (i : Nat) : w.frozen? ⟨R, i, none⟩ = false := by simp [World.frozen?, h.1]
theorem rep_ne_str : 214 ≠ StrE.t := by decide
theorem byte_ne_str : 5 ≠ StrE.t := by decide
theorem ReplAt.below {w w' : World} {base R : Nat} {tab : RTab} {tl : List UInt8} {A : Array Value} {V : Value} (h : ReplAt w base R tab tl A V) (hb : Below w.heap.size w w') : ReplAt w' base R tab tl A V :=
  ⟨(hb.block R h.lt).trans h.1, h.2.1, h.2.2.1, h.2.2.2.1.below_ hb, h.2.2.2.2.1, fun b => (h.2.2.2.2.2 b).keep fun g _ hg _ _ => hb.block g hg⟩
/-- Another row may grow that is neither of the struct's. -/
theorem ReplAt.row_ {w w' : World} {base R b : Nat} {tab : RTab} {tl : List UInt8} {A : Array Value} {V : Value} (h : ReplAt w base R tab tl A V) (hg : w.grownBy w' (some b)) (hb : b < base) : ReplAt w' base R tab tl A V :=
  ⟨(hg.block R h.lt (fun e => by cases e; have := h.2.2.2.2.1; omega)).trans h.1, h.2.1, h.2.2.1, h.2.2.2.1.kept_ hg (fun i e => by cases e; exact hb), h.2.2.2.2.1, fun x => (h.2.2.2.2.2 x).keep fun g hbg hlt _ _ => hg.block g hlt (fun e => by cases e; omega)⟩
theorem u8_ne {x b : UInt8} (h : b ≠ x) : b.toNat ≠ x.toNat := fun e => h (UInt8.toNat_inj.1 e)
/-- One more pair. -/
theorem ReplAt.step {w w1 wb : World} {base R N : Nat} {tab : RTab} {tl : List UInt8} {A : Array Value} {V V' : Value} {x : UInt8} {y : List UInt8} (h : ReplAt w base R tab tl A V) (hg : w.grownBy w1 V.ownBlock) (ho : OwnStrs w1 base V' ((tl ++ [x]).map fun b => [b]))
    (hbel : Below w1.heap.size (w1.setCell ⟨R, 256, none⟩ V') wb) (hy : BytesAt wb w1.heap.size N y) :
    ReplAt (wb.setCell ⟨R, x.toNat, none⟩ (.slice (some ⟨w1.heap.size, 0, none⟩) y.length N)) base R (fun b => if b = x then some y else tab b) (tl ++ [x]) ((A.setIfInBounds 256 V').setIfInBounds x.toNat (.slice (some ⟨w1.heap.size, 0, none⟩) y.length N)) V' := by
  obtain ⟨hR, hsz, hV, hO, hbR, hS⟩ := h
  have hx : x.toNat < 256 := x.toNat_lt
  have hRV : V.ownBlock ≠ some R := hO.ne_block hR rep_ne_str
  have hRlt : R < w.heap.size := (Array.getElem?_eq_some_iff.1 hR).1
  have hR1 : w1.heap[R]? = some (.cells A 214 (0, 0)) := (hg.block R hRlt (fun e => hRV e.symm)).trans hR
  have hs1 := hg.size
  have hR2 : (w1.setCell ⟨R, 256, none⟩ V').heap[R]? = some (.cells (A.setIfInBounds 256 V') 214 (0, 0)) := by simp [World.setCell, Array.getElem?_modify, hR1]
  have hsz2 : (w1.setCell ⟨R, 256, none⟩ V').heap.size = w1.heap.size := by simp [World.setCell]
  have hRb : wb.heap[R]? = some (.cells (A.setIfInBounds 256 V') 214 (0, 0)) := (hbel.block R (by omega)).trans hR2
  have hgs1 := grown_setCell w1 R 256 V'
  have hgs2 := grown_setCell wb R x.toNat (.slice (some ⟨w1.heap.size, 0, none⟩) y.length N)
  have hO2 : OwnStrs (w1.setCell ⟨R, 256, none⟩ V') base V' ((tl ++ [x]).map fun b => [b]) := World.ownsRow.kept ho hgs1 (.inr (fun e => (ho.ne_block hR1 rep_ne_str) (by first | exact e | exact e.symm)))
  have hOb : OwnStrs wb base V' ((tl ++ [x]).map fun b => [b]) := hO2.below_ (by rw [hsz2]; exact hbel)
  refine ⟨by simp [World.setCell, Array.getElem?_modify, hRb], by simp [hsz], ?_, World.ownsRow.kept hOb hgs2 (.inr (fun e => (hOb.ne_block hRb rep_ne_str) (by first | exact e | exact e.symm))), hbR, fun b => ?_⟩
  · rw [Array.getElem?_setIfInBounds_ne (by omega)]
    simp [hsz]
  · by_cases hb : b = x
    · subst hb
      simp only [if_true]
      refine ⟨w1.heap.size, N, ?_, by omega, by omega, hy.keep ?_⟩
      · have h257 : b.toNat < ((A.setIfInBounds 256 V').setIfInBounds b.toNat (Value.slice (some ⟨w1.heap.size, 0, none⟩) y.length N)).size := by simp [hsz]; omega
        rw [Array.getElem?_eq_getElem h257, Array.getElem_setIfInBounds_self]
      exact hgs2.block _ hy.lt (fun e => by have := Option.some.inj e; omega)
    · simp only [hb, if_false]
      rw [Array.getElem?_setIfInBounds_ne (fun e => u8_ne hb e.symm), Array.getElem?_setIfInBounds_ne (by have : b.toNat < 256 := b.toNat_lt; omega)]
      refine (hS b).keep fun g hbg hlt hne hC => ?_
      obtain ⟨C, M, hC⟩ := hC
      have hgV : V.ownBlock ≠ some g := hO.ne_block hC byte_ne_str
      have hlb : g < wb.heap.size := Nat.lt_of_lt_of_le (show g < w1.heap.size by omega) (by have := hbel.size; omega)
      rw [hgs2.block g hlb (fun e => hne (Option.some.inj e)), hbel.block g (by omega), hgs1.block g (by omega) (fun e => hne (Option.some.inj e)), hg.block g hlt (fun e => hgV e.symm)]
theorem ReplAt.grownV {w w' : World} {base R : Nat} {tab : RTab} {tl : List UInt8} {A : Array Value} {V : Value} (h : ReplAt w base R tab tl A V) (hg : w.grownBy w' V.ownBlock) : (∀ i, w'.cell? ⟨R, i, none⟩ = A[i]?) ∧ (∀ i, w'.frozen? ⟨R, i, none⟩ = false) ∧ R < w'.heap.size := by
  have hRV : V.ownBlock ≠ some R := h.2.2.2.1.ne_block h.1 rep_ne_str
  have hR1 : w'.heap[R]? = some (.cells A 214 (0, 0)) := (hg.block R h.lt (fun e => hRV e.symm)).trans h.1
  exact ⟨fun i => by rw [cell_of_row w' R i _ _ _ hR1], fun i => by simp [World.frozen?, hR1], (Array.getElem?_eq_some_iff.1 hR1).1⟩
/-- The pairs as they are handed in. -/
def flatP (ps : List (UInt8 × List UInt8)) : List (List UInt8) := ps.flatMap fun p => [[p.1], p.2]
theorem flatP_len (ps : List (UInt8 × List UInt8)) : (flatP ps).length = 2 * ps.length := by
  induction ps with
  | nil => rfl
  | cons p ps ih => simp [flatP] at ih ⊢; omega
theorem flatP_at : ∀ (ps : List (UInt8 × List UInt8)) (k : Nat) (p : UInt8 × List UInt8), ps[k]? = some p → (flatP ps).getD (2 * k) [] = [p.1] ∧ (flatP ps).getD (2 * k + 1) [] = p.2
  | [], k, p, h => by simp at h
  | q :: ps, 0, p, h => by simp at h; subst h; exact ⟨rfl, rfl⟩
  | q :: ps, k + 1, p, h => by
    have ih := flatP_at ps k p (by simpa using h)
    rw [show 2 * (k + 1) = 2 * k + 1 + 1 by omega]
    exact ih
theorem tabOf_fun (p : UInt8 × List UInt8) (ps : List (UInt8 × List UInt8)) : tabOf (p :: ps) = fun b => if b = p.1 then some p.2 else tabOf ps b := rfl
def BuiltPost (w : World) (ps : List (UInt8 × List UInt8)) (e : Ending) (w' : World) : Prop := ∃ R A V, e = .returned (.iface 215 (.pointer (some ⟨R, 0, none⟩))) ∧ ReplAt w' w.heap.size R (tabOf ps) (ps.reverse.map (·.1)) A V ∧ Below w.heap.size w w'
end Go.Proofs.YtbipkkebkddegaaGreatDoor
