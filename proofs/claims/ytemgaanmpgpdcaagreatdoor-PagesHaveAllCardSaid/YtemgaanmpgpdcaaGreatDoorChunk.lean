
/-
  slices.Chunk over a slice of strings, by fifty: what its iterator hands to a loop's body.
-/
import Derived.RangeFuncNested
import Derived.RangeFuncBound
import Derived.RangeFuncCalls
import Derived.RangeFuncLeaves
import Derived.Shelf.Abstract
import Derived.Shelf.RegionOpen
import Derived.WalkKit
import Derived.OwnWalkIn
import Derived.TacticsInMore
import Derived.LoopNIn
import Derived.LoopIn
import Derived.Sort.CutIn
import Derived.Sort.QuietIn
import Derived.Test.YtemgaanmpgpdcaaGreatDoorTab
namespace Go.Proofs.YtemgaanmpgpdcaaGreatDoor
open Go.RowKit Go.Shelf

attribute [local go_sem] Oper.semAt_some

theorem sl_three (B : Option Addr) (m d i j : Nat) (hij : i ≤ j) (hj : j ≤ d) (V : Value) (h : sliced B i j j StrE.size = V) (wx : World) : (Instr.slice 41 (.slice B m d) (some (.int .i64 (i : Int))) (some (.int .i64 (j : Int))) (some (.int .i64 (j : Int)))).run Tryz.prog wx = .ok V wx := by
  rw [run_slice_lhm (P := Tryz.prog) (w := wx) (t := 41) (a := B) (len := m) (cap := d) (ht := und_strs) (kl := .i64) (kh := .i64) (km := .i64) (l := (i : Int)) (h := (j : Int)) (m := (j : Int)) (h0 := by omega) (h1 := by omega) (h2 := by omega) (h3 := by omega), elem_strs, Tryz.sizeOf9]
  show Result.ok (sliced B ((i : Int)).toNat ((j : Int)).toNat ((j : Int)).toNat 1) wx = _
  rw [Int.toNat_natCast, Int.toNat_natCast, ← h]; rfl
/-- A sub-slice whose room ends where it ends. -/
theorem ElemsAt.piece3 {α : Type} {E : Elem α} {w : World} {A : Option Addr} {n c : Nat} {l : List α} (h : ElemsAt E w A n c l) (i j : Nat) (hij : i < j) (hj : j ≤ n) :
    ∃ A', sliced A i j j E.size = .slice A' (j - i) (j - i) ∧ ElemsAt E w A' (j - i) (j - i) ((l.drop i).take (j - i)) := by
  obtain ⟨A', e, h1, h2, h3, h4⟩ := h.piece i j (by omega) hj
  have hnc := h.2.1
  refine ⟨A', ?_, h1, Nat.le_refl _, ?_, h4⟩
  · unfold sliced at e ⊢
    simp only [Value.slice.injEq] at e ⊢
    have hne : ¬ c = i := by omega
    have hne2 : ¬ j = i := by omega
    rw [if_neg hne] at e
    rw [if_neg hne2]
    exact ⟨e.1, by trivial, by trivial⟩
  · intro hA
    obtain ⟨g, off, hg, _⟩ := h4 (by omega)
    rw [hA] at hg
    cases hg
/-- What a round is handed: a header, and what it reads as where the loop begins. -/
abbrev Chk (w0 : World) : Type := { x : HdS × List Str // StrsAt w0 x.1.1 x.1.2.1 x.1.2.2 x.2 ∧ x.2.length ≤ 50 ∧ 0 < x.2.length }
def chkAll {w0 : World} (pre : List (Chk w0)) : List (List Str) := pre.map (·.1.2)
def chkV {w0 : World} (x : Chk w0) : Value := .slice x.1.1.1 x.1.1.2.1 x.1.1.2.2
/-- What lay below n₀ lies as it lay, but for block B. -/
def KeepBut (n₀ B : Nat) (W W' : World) : Prop := W.heap.size ≤ W'.heap.size ∧ ∀ i, i < n₀ → i ≠ B → W'.heap[i]? = W.heap[i]?
theorem KeepBut.refl (n₀ B : Nat) (W : World) : KeepBut n₀ B W W := ⟨Nat.le_refl _, fun _ _ _ => rfl⟩
theorem KeepBut.trans {n₀ B : Nat} {U V W : World} (h : KeepBut n₀ B U V) (k : KeepBut n₀ B V W) : KeepBut n₀ B U W := ⟨Nat.le_trans h.1 k.1, fun i hi hne => (k.2 i hi hne).trans (h.2 i hi hne)⟩
theorem KeepBut.cell {n₀ B : Nat} {U V : World} (h : KeepBut n₀ B U V) {b o : Nat} (hb : b < n₀) (hne : b ≠ B) : V.cell? ⟨b, o, none⟩ = U.cell? ⟨b, o, none⟩ := World.cell?_of_block (h.2 b hb hne)
theorem KeepBut.drewN {n₀ B : Nat} {U V : World} (h : KeepBut n₀ B U V) (q : Nat) : KeepBut n₀ B U (V.drewN q) := h
theorem chkAll_snoc {w0 : World} (pre : List (Chk w0)) (x : Chk w0) : chkAll (pre ++ [x]) = chkAll pre ++ [x.1.2] := by simp [chkAll]
set_option maxHeartbeats 1600000 in
theorem chunk_any (A : Option Addr) (n c : Nat) (w : World) :
    Calls Tryz.prog 49 #[.slice A n c, .int .i64 50] w fun e w' => e = .returned (.func (.func 76) #[] #[.pointer (some ⟨w.heap.size, 0, none⟩), .pointer (some ⟨w.heap.size + 1, 0, none⟩)]) ∧ w' = (w.alloc (.cells #[.slice A n c] 41)).alloc (.cells #[.int .i64 50] 3) := by
  go_enter Tryz.func49, Tryz.ntmps49
  go_wp2_with fail
  go_ret
  exact ⟨by simp, rfl⟩
set_option maxRecDepth 100000 in
set_option maxHeartbeats 2000000 in
theorem chunk1_in (n : Nat) (hn : 1 ≤ n) (l Bs Bn n₀ B : Nat) (hsB : Bs ≠ B) (hbB : Bn ≠ B) (A : Option Addr) (m c : Nat) (L : List Str) (w0 : World) (hm : m ≤ 100000) (hL : StrsAt w0 A m c L) (J Jx : List (Chk w0) → World → Prop)
    (hY : ∀ pre x W, J pre W → pre.length < m → YieldAt Fence.wide (n - 1) Tryz.prog l #[chkV x] W fun e W' =>
      (e = .returned (.bool true) ∧ J (pre ++ [x]) W' ∧ KeepBut n₀ B W W') ∨ (e = .returned (.bool false) ∧ Jx (pre ++ [x]) W'))
    (hAb : ∀ pre W q, J pre W → J pre (W.drewN q)) (W : World) (hs : Bs < n₀) (hb : Bn < n₀) (hBs : W.cell? ⟨Bs, 0, none⟩ = some (.slice A m c)) (hBn : W.cell? ⟨Bn, 0, none⟩ = some (.int .i64 50)) (h0 : J [] W) :
    CallsIn Fence.wide n Tryz.prog 76 #[.func (.yield l) #[] #[], .pointer (some ⟨Bs, 0, none⟩), .pointer (some ⟨Bn, 0, none⟩)] W fun e W' => (∃ v, e = .returned v) ∧
      ((∃ ys, (chkAll ys).flatten = L ∧ J ys W') ∨ (∃ pre, True ∧ Jx pre W')) := by
  have HLN : Hid (m = L.length) := hL.1
  refine callsIn_of_wp Tryz.func76 rfl trivial ?_ rfl
  simp only [Tryz.ntmps76, List.size_toArray, List.length_cons, List.length_nil, Nat.reduceAdd, Nat.reduceSub, Array.replicate_succ, Array.replicate_zero, List.push_toArray, List.append_toArray, List.nil_append, List.cons_append]
  gi_wp2
  gi_loopw [4] (fun i wr => ∃ (k : Nat) (pre : List (Chk w0)), i = .int .i64 (k : Int) ∧ Hid ((chkAll pre).flatten = L.take k) ∧ Hid (pre.length ≤ k) ∧ k ≤ 200000 ∧ J pre wr ∧ KeepBut n₀ B W wr)
    (fun i _ => m - (intOf i).toNat)
  case atStart => exact ⟨0, [], rfl, show _ = _ from rfl, Nat.le_refl _, by omega, h0, KeepBut.refl _ _ _⟩
  case round =>
    obtain ⟨k, pre, rfl, HFL, HPL, hk2, hJ, hB⟩ := hrel
    have c0 : wr.cell? ⟨Bs, 0, none⟩ = some (.slice A m c) := (hB.cell hs hsB).trans hBs
    have c1 : wr.cell? ⟨Bn, 0, none⟩ = some (.int .i64 50) := (hB.cell hb hbB).trans hBn
    by_cases hlt : k < m
    · have hki : (k : Int) < (m : Int) := by omega
      obtain ⟨z, hz⟩ : ∃ z, z = min 50 (m - k) := ⟨_, rfl⟩
      have hz1 : 0 < z ∧ z ≤ 50 ∧ k + z ≤ m := by omega
      have hz2 : min (50 : Int) ((m - k : Nat) : Int) = (z : Int) := by omega
      have hcm := hL.2.1
      obtain ⟨A1, ha1, -⟩ := hL.piece k m (by omega) (Nat.le_refl _)
      have s1 := sl_from A m c k (by omega) _ ha1
      obtain ⟨A', ha, hat⟩ := hL.piece3 k (k + z) (by omega) (by omega)
      rw [Nat.add_sub_cancel_left] at ha hat
      have s3 : ∀ wx, (Instr.slice 41 (.slice A m c) (some (.int .i64 (k : Int))) (some (.int .i64 ((k : Int) + (z : Int)))) (some (.int .i64 ((k : Int) + (z : Int))))).run Tryz.prog wx = .ok (.slice A' z z) wx := fun wx => by
        have := sl_three A m c k (k + z) (by omega) (by omega) _ ha wx
        rw [Int.natCast_add] at this
        exact this
      have e1 : IntKind.i64.wrap ((k : Int) + (z : Int)) = (k : Int) + (z : Int) := IntWalk.i64_in _ (by omega)
      have e2 : IntKind.i64.wrap ((k : Int) + 50) = (k : Int) + 50 := IntWalk.i64_in _ (by omega)
      have hlen : ((L.drop k).take z).length = z := by rw [List.length_take, List.length_drop]; have := HLN.out; omega
      have HZ := Lib.hid hz
      obtain ⟨xk, hx1, hx2⟩ : ∃ xk : Chk w0, chkV xk = .slice A' z z ∧ xk.1.2 = (L.drop k).take z := ⟨⟨((A', z, z), (L.drop k).take z), hat, by show ((L.drop k).take z).length ≤ 50; omega, by show 0 < ((L.drop k).take z).length; omega⟩, rfl, rfl⟩
      have HFL2 : Hid ((chkAll (pre ++ [xk])).flatten = L.take (k + 50)) := by
        show _ = _
        rw [chkAll_snoc, List.flatten_append, HFL.out, hx2]
        simp only [List.flatten_cons, List.flatten_nil, List.append_nil]
        rw [show (L.drop k).take z = (L.drop k).take 50 by
          rcases Nat.lt_or_ge (m - k) 50 with h | h
          · rw [List.take_of_length_le (show (L.drop k).length ≤ z by rw [List.length_drop]; have := HLN.out; omega), List.take_of_length_le (by rw [List.length_drop]; have := HLN.out; omega)]
          · rw [show z = 50 by omega]]
        rw [List.take_add]
      have HX1 := Lib.hid hx1
      clear ha ha1 hat hlen hz hx1 hx2
      gi_upto_region 3 with (fail)
      gi_quiet (fail)
      obtain ⟨fn, tmps, assign, body, hy, hR⟩ := hY pre xk (wr.drewN nq) (hAb _ _ _ hJ) (by have := HPL.out; omega)
      rw [HX1.out] at hy
      gi_wp2
      refine hR.mono ?_
      have hBd : KeepBut n₀ B W (wr.drewN nq) := hB.drewN nq
      rintro e W3 (⟨rfl, hJ3, hk3⟩ | ⟨rfl, hJx3⟩)
      · have hB3 := hBd.trans hk3
        have d1 : W3.cell? ⟨Bn, 0, none⟩ = some (.int .i64 50) := (hB3.cell hb hbB).trans hBn
        clear c0 c1 hR hy
        gi_wp2
        go_roundw
        case rel => exact ⟨k + 50, pre ++ [xk], by simp, HFL2.out, (show _ ≤ _ by rw [List.length_append]; have := HPL.out; simp; omega), by omega, hJ3, hB3⟩
        case measure => simp [intOf]; omega
      · clear c0 c1 hR hy
        gi_wp2
        refine bodyPost_ret (results_none rfl _ _ _) rfl ?_
        exact ⟨⟨_, rfl⟩, .inr ⟨_, trivial, hJx3⟩⟩
    · have hki : ¬ (k : Int) < (m : Int) := by omega
      gi_wp2
      go_end0
      exact ⟨⟨_, rfl⟩, .inl ⟨pre, by rw [HFL.out]; exact List.take_of_length_le (by have := HLN.out; omega), hJ⟩⟩
theorem chunk_stops (n : Nat) (hn : 1 ≤ n) (Bs Bn n₀ B : Nat) (hsB : Bs ≠ B) (hbB : Bn ≠ B) (A : Option Addr) (m c : Nat) (L : List Str) (w0 w : World) (hm : m ≤ 100000) (hL : StrsAt w0 A m c L) (hn0 : n₀ ≤ w.heap.size) (hs : Bs < n₀) (hb : Bn < n₀) (hBs : w.cell? ⟨Bs, 0, none⟩ = some (.slice A m c)) (hBn : w.cell? ⟨Bn, 0, none⟩ = some (.int .i64 50)) :
    SeqStopsK Fence.wide n Tryz.prog 76 #[.pointer (some ⟨Bs, 0, none⟩), .pointer (some ⟨Bn, 0, none⟩)] (fun x : Chk w0 => #[chkV x]) (KeepBut n₀ B) (fun ys => (chkAll ys).flatten = L) (fun _ => True) m w := fun l J Jx W hW hJ _ hY h0 =>
  chunk1_in n hn l Bs Bn n₀ B hsB hbB A m c L w0 hm hL J Jx hY (fun pre W q h => hJ pre W (W.drewN q) none h (grown_drewN (World.grownBy.refl _ _) q) (fun r e => by cases e)) W hs hb ((hW.cell (p := ⟨Bs, 0, none⟩) (Nat.lt_of_lt_of_le hs hn0)).trans hBs) ((hW.cell (p := ⟨Bn, 0, none⟩) (Nat.lt_of_lt_of_le hb hn0)).trans hBn) h0
end Go.Proofs.YtemgaanmpgpdcaaGreatDoor
