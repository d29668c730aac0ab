/-
  SpanList makes right spans.
-/
import Derived.Test.YtldngebikgendaaDoorMemo
import Derived.Test.YtldngebikgendaaDoorSpanPlain
import Derived.OwnWalk
import Derived.Deep.LoopGhost
namespace Go.Proofs.YtldngebikgendaaDoor
open Go.RowKit

theorem span_info : (Tryd.prog.info? 38).map (fun i => (i.zero, i.size, i.bytes)) = some (some (.agg #[.int .i64 0, .int .i64 0]), 2, 16) := by kernel_rfl

theorem grown_row {a b c : World} {g : Nat} {row : Option Nat} (h : a.grownBy b (some g)) (k : b.grownBy c row) (hr : ∀ i, row = some i → a.heap.size ≤ i) : a.grownBy c (some g) :=
  ⟨k.os.trans h.os, k.tape.trans h.tape, k.output.trans h.output, Nat.le_trans h.size k.size, fun i hi hne => (k.block i (Nat.lt_of_lt_of_le hi h.size) (fun e => by have := hr i e.symm; omega)).trans (h.block i hi hne)⟩
theorem StreamAt.row_ {b d : World} {g : Nat} {A : Option Addr} {n c K : Nat} {row : Option Nat} (h : StreamAt b g A n c K) (k : b.grownBy d row) (hr : ∀ i, row = some i → g < i) : StreamAt d g A n c K :=
  h.keep fun i hi => k.block i (by have := h.lt; omega) (fun e => by have := hr i e.symm; omega)

theorem cells_ints (w : World) (zs : List Int) (t : TypeId) (j : Nat) (hj : j < zs.length) :
    (w.alloc (.cells (zs.map (Value.int .i64)).toArray t)).cell? ⟨w.heap.size, j, none⟩ = some (.int .i64 (zs.getD j 0)) := by
  rw [World.cell?_alloc_at _ _ _ _ rfl]
  simp [hj]

theorem cells_span (w : World) (x : Int × Int) (t : TypeId) (j : Nat) (u : Value) (h : (spanCells [x])[j]? = some u) :
    (w.alloc (.cells #[.int .i64 x.1, .int .i64 x.2] t)).cell? ((⟨w.heap.size, 0, none⟩ : Addr).add j) = some u := by
  have hadd : (⟨w.heap.size, 0, none⟩ : Addr).add j = ⟨w.heap.size, j, none⟩ := by unfold Addr.add; split <;> simp_all
  rw [hadd, World.cell?_alloc_at _ _ _ _ rfl]
  simpa [spanCells] using h

theorem own_stream {w b : World} {base e size n : Nat} {v : Value} {xs : List Value} {g : Nat} (h : w.ownsRow base e size v n xs) (hg : g < base) (hw : w.grownBy b (some g)) : b.ownsRow base e size v n xs := by
  refine h.kept hw ?_
  cases hv : v.ownBlock with
  | none => exact .inl rfl
  | some k => exact .inr (fun he => by have := (h.lt k hv).1; injection he with he; omega)

/-- A slice of spans of the call's own. -/
def OwnSpans (w : World) (base : Nat) (v : Value) (l : List (Int × Int)) : Prop := w.ownsRow base 38 2 v l.length (spanCells l)

def SpanListPost (w : World) (g : Nat) (A : Option Addr) (n c K : Nat) (size : Int) (e : Ending) (w' : World) : Prop :=
  ∃ (v : Value) (l : List (Int × Int)), e = .returned v ∧ l.length ≤ 4 ∧ Right size (-1) l ∧ OwnSpans w' w.heap.size v l ∧ StreamAt w' g A n c (K + 10) ∧ w.grownBy w' (some g)

set_option maxHeartbeats 1600000 in
set_option maxRecDepth 100000 in
theorem spanList_any (g : Nat) (A : Option Addr) (n c K : Nat) (size : Int) (w : World) (hs : StreamAt w g A n c K) (hK : K ≤ 100000) :
    Calls Tryd.prog 8 #[.pointer (some ⟨g, 0, none⟩), .int .i64 size] w (SpanListPost w g A n c K size) := by
  obtain ⟨i0, hi, hz0, hz1, hz2⟩ := info_parts span_info
  have hgw := hs.lt
  go_enter Tryd.func8, Tryd.ntmps8
  go_wp2_with fail
  refine (next_any g A n c K 5 w hs (by omega) (by omega)).mono ?_
  rintro e w1 ⟨N, rfl, h0, h1, hs1, hg1⟩
  have h1 := h1 (by omega)
  obtain ⟨N, rfl⟩ := Int.eq_ofNat_of_zero_le h0
  clear hs
  go_wp2_with fail
  go_loopw [5, 6, 11] (fun v a i wr => ∃ (k : Nat) (l : List (Int × Int)) (z : Int), k ≤ N ∧ i = .int .i64 k ∧ l.length ≤ k ∧ a = .int .i64 z ∧ 0 ≤ z ∧ z ≤ 20 * k ∧ lastTo (-1) l < z ∧ Right size (-1) l ∧ OwnSpans wr w.heap.size v l ∧ StreamAt wr g A n c (K + 1 + 2 * k) ∧ w.grownBy wr (some g)) (fun _ _ i _ => N - (intOf i).toNat)
  case atStart => exact ⟨0, [], 0, Nat.zero_le _, rfl, by simp, rfl, by omega, by omega, by decide, trivial, World.ownsRow_nil _ _ _ _, hs1, hg1⟩
  case round =>
    obtain ⟨k, l, z, hk, rfl, hlk, rfl, hz3, hz4, hlz, hR, hown, hsr, hgr⟩ := hrel
    by_cases hlt : k < N
    · have hgl := hsr.lt
      go_wp2_with fail
      refine (pick_any g A n c (K + 1 + 2 * k) [0, 1, 2, 5] wr.heap.size 4 4 _ (hsr.alloc _) (by omega) rfl (by omega) (by omega) (by omega) (fun j hj => cells_ints wr [0, 1, 2, 5] _ j hj)).mono ?_
      rintro e w2 ⟨r1, rfl, hr1, hs2, hg2⟩
      have hr1b : 0 ≤ r1 ∧ r1 ≤ 5 := by simp at hr1; omega
      clear hr1
      have hgl2 := hs2.lt
      go_wp2_with fail
      refine (pick_any g A n c (K + 1 + 2 * k + 1) [1, 1, 2, 4, 9] w2.heap.size 5 5 _ (hs2.alloc _) (by omega) rfl (by omega) (by omega) (by omega) (fun j hj => cells_ints w2 [1, 1, 2, 4, 9] _ j hj)).mono ?_
      rintro e w3 ⟨r2, rfl, hr2, hs3, hg3⟩
      have hr2b : 1 ≤ r2 ∧ r2 ≤ 9 := by simp at hr2; omega
      clear hr2
      have hgf : w.grownBy w3 (some g) := grown_trans (grown_alloc (grown_trans (grown_alloc hgr _) hg2) _) hg3
      have hown3 : w3.ownsRow w.heap.size 38 2 u5 l.length (spanCells l) :=
        own_stream (own_stream hown hgw (grown_trans (World.grownBy_alloc _ _ _) hg2)) hgw (grown_trans (World.grownBy_alloc _ _ _) hg3)
      by_cases hout : size < z + r1 + r2
      · go_wp2_with fail
        go_ret
        exact ⟨u5, l, rfl, by omega, hR, hown3, hs3.more (by omega), hgf⟩
      · have hgl3 := hgf.size
        have HO := Lib.hid hown3; clear hown3
        have HOW := Lib.hid hown; clear hown
        go_wp2_with (at_builtin; refine wpList_append_own _ rfl _ _ 30 rfl w.heap.size 38 i0 _ 2 16 Tryd.underlying30 hi hz0 hz1 hz2 rfl (by decide) _ _ _ rfl (HO.out.alloc _) ⟨w3.heap.size, 0, none⟩ 1 1 (spanCells [(z + r1, z + r1 + r2)]) rfl rfl ?c1 ?c2 ?c3 ?c4 ?c5 ?_)
        case c1 => exact cells_span w3 _ _
        case c2 => exact spanCells_one _
        case c3 => simp only [maxLen]; omega
        case c4 => omega
        case c5 => simp; omega
        intro v' w4 hown4 hgrow4 _
        have hrow : ∀ i, u5.ownBlock = some i → w.heap.size ≤ i := fun i hi => (HO.out.lt i hi).1
        have hs4 : StreamAt w4 g A n c (K + 1 + 2 * k + 1 + 1) := (hs3.alloc _).row_ hgrow4 (fun i hi => by have := hrow i hi; omega)
        have hg4 : w.grownBy w4 (some g) := grown_row (grown_alloc hgf _) hgrow4 hrow
        rw [← spanCells_append] at hown4
        go_wp2_with fail
        go_roundw
        case rel => exact ⟨k + 1, l ++ [(z + r1, z + r1 + r2)], z + r1 + r2 + 1, by omega, by go_num, by simp; omega, rfl, by omega, by omega, by rw [lastTo_snoc]; omega, hR.snoc (by simp; omega) (by simp; omega) (by simp; omega), by unfold OwnSpans; rw [List.length_append]; exact hown4, hs4, hg4⟩
        case measure => simp [intOf]; omega
    · go_wp2_with fail
      go_ret
      exact ⟨u5, l, rfl, by omega, hR, hown, hsr.more (by omega), hgr⟩

end Go.Proofs.YtldngebikgendaaDoor
