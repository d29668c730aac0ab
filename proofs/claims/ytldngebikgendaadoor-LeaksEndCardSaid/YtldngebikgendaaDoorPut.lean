/-
  What put returns.
-/
import Derived.Test.YtldngebikgendaaDoorSort
import Derived.Test.YtldngebikgendaaDoorPutPlain
import Derived.RegionTactic
namespace Go.Proofs.YtldngebikgendaaDoor
open Go.RowKit

theorem below_drewN {B : Nat} {a w : World} (h : Below B a w) (n : Nat) : Below B a (w.drewN n) := ⟨h.os, h.tape, h.output, h.size, h.block⟩
theorem span_one (w : World) (fr tu : Int) (t : TypeId) : SpansAt (w.alloc (.cells #[.int .i64 fr, .int .i64 tu] t)) (some ⟨w.heap.size, 0, none⟩) 1 [(fr, tu)] := by
  refine ⟨rfl, fun _ => ⟨w.heap.size, rfl, by simp, fun k hk => ?_⟩⟩
  obtain rfl : k = 0 := by omega
  rw [World.cell?_alloc_at _ _ _ _ rfl, World.cell?_alloc_at _ _ _ _ rfl]
  exact ⟨rfl, rfl⟩

theorem own_free {w : World} {base g n c : Nat} {l : List (Int × Int)} (h : OwnSpans w base (.slice (some ⟨g, 0, none⟩) n c) l) (i : Nat) : w.frozen? ⟨g, i, none⟩ = false := by
  rcases h.2 with ⟨hv, _⟩ | ⟨g', cap, cur, hv, _, hh, _⟩
  · cases hv
  · injection hv with e1
    injection e1 with e1
    injection e1 with e1 _
    subst e1
    simp [World.frozen?, hh]

def PutPost (w : World) (v : Value) (l : List (Int × Int)) (e : Ending) (w' : World) : Prop :=
  ∃ v' l', e = .returned v' ∧ l'.Perm l ∧ Sorted l' ∧ OwnSpans w' w.heap.size v' (putL l') ∧ w.grownBy w' v.ownBlock

theorem OwnSpans.stored {w : World} {base g c : Nat} {l : List (Int × Int)} {m : Nat} (h : OwnSpans w base (.slice (some ⟨g, 0, none⟩) l.length c) l) (hm : l.length = m + 1) (z : Int) :
    OwnSpans (w.setCell ⟨g, m * 2 + 1, none⟩ (.int .i64 z)) base (.slice (some ⟨g, 0, none⟩) l.length c) (l.take m ++ [((l.getD m (0, 0)).1, z)]) := by
  rcases h.2 with ⟨hv, _⟩ | ⟨g', cap, cur, hv, hb, hh, h1, h2, h3, h4⟩
  · cases hv
  · injection hv with e1 e2 e3
    injection e1 with e1
    injection e1 with e1 _
    subst e1 e3
    have hlen : (l.take m ++ [((l.getD m (0, 0)).1, z)]).length = l.length := by simp; omega
    refine ⟨by rw [spanCells_length], .inr ⟨g, c, cur.setIfInBounds (m * 2 + 1) (.int .i64 z), by rw [hlen], hb, ?_, by rw [hlen]; exact h1, h2, by simpa using h3, ?_⟩⟩
    · simp [World.setCell, Array.getElem?_modify, hh]
    · rw [hlen]
      have hsz : m * 2 + 1 < cur.toList.length := by simp; omega
      rw [Array.toList_setIfInBounds, List.take_set, h4]
      have e := last_split l m hm
      have e2 : spanCells l = spanCells (l.take m) ++ [.int .i64 (l.getD m (0, 0)).1, .int .i64 (l.getD m (0, 0)).2] := by
        conv => lhs; rw [e, spanCells_append]
        rfl
      rw [e2, spanCells_append, List.set_append_right _ _ (by rw [spanCells_length]; simp; omega), spanCells_length]
      have e3 : m * 2 + 1 - (l.take m).length * 2 = 1 := by simp; omega
      rw [e3]
      rfl

set_option maxHeartbeats 1600000 in
set_option maxRecDepth 100000 in
theorem put_any (base n c : Nat) (A : Option Addr) (l : List (Int × Int)) (w : World) (hl : ∀ x ∈ l, 0 ≤ x.1 ∧ x.1 ≤ 1000000) (hn : n = l.length) (hn2 : n ≤ 5000) (h : OwnSpans w base (.slice A n c) l) :
    Calls Tryd.prog 28 #[.slice A n c] w (PutPost w (.slice A n c) l) := by
  obtain ⟨i0, hi, hz0, hz1, hz2⟩ := info_parts span_info
  have HN := Lib.hid hn; clear hn
  have H0 := Lib.hid h; clear h
  have HAL : Hid (∀ k, (Value.slice A n c).ownBlock = some k → k < w.heap.size) := fun k hk => (H0.out.lt k hk).2
  go_enter Tryd.func28, Tryd.ntmps28
  go_wp2_with fail
  refine (sort_any base n c A l w hl HN.out (by omega) H0.out).mono ?_
  rintro e ws ⟨rfl, l', hperm, hsort, hsp, hgs⟩
  have HL : Hid (n = l'.length) := by show _ = _; rw [hperm.length_eq]; exact HN.out
  rw [← HN.out] at hsp
  clear hl
  have HP := Lib.hid hperm; clear hperm
  have HS := Lib.hid hsort; clear hsort
  have hzs := hgs.size
  go_wp2_with fail
  go_loopg [3, 11] n (fun gk v i wr => ∃ k : Nat, k + gk = n ∧ i = .int .i64 k ∧ OwnSpans wr w.heap.size v (putL (l'.take k)) ∧ Below w.heap.size ws wr)
  case atStart => exact ⟨0, by omega, rfl, World.ownsRow_nil _ _ _ _, Below.refl _ _⟩
  case round =>
    obtain ⟨k, hk, rfl, hown, hb⟩ := hrel
    have HK := Lib.hid hk; clear hk
    have hkn : k ≤ n := by have := HK.out; omega
    by_cases hlt : k < n
    · obtain ⟨g, rfl, hg, hcs⟩ := hsp.2 (by omega)
      have hg0 : g < w.heap.size := HAL.out g rfl
      have c1 := (hb.cell (p := ⟨g, k * 2, none⟩) hg0).trans (hcs k hlt).1
      have c2 := (hb.cell (p := ⟨g, k * 2 + 1, none⟩) hg0).trans (hcs k hlt).2
      have HT := Lib.hid (take_snoc_getD l' (0, 0) k (by have := HL.out; omega))
      have HSP := Lib.hid hsp; clear hsp hcs
      have hlo : (putL (l'.take k)).length ≤ k := Nat.le_trans (putL_length _) (by simp; omega)
      generalize l'.getD k (0, 0) = x at *
      obtain ⟨fr, tu⟩ := x
      simp only at c1 c2
      generalize hout : putL (l'.take k) = out at *
      have HPL : Hid (putL (l'.take (k + 1)) = putStep out (fr, tu)) := by show _ = _; rw [HT.out, putL_snoc, hout]
      clear hout HT
      obtain ⟨ko, rfl⟩ : ∃ ko : Nat, ko = gk := ⟨_, rfl⟩
      obtain ⟨B, cb, rfl, hbc, hcb, hspo⟩ := hown.atc
      generalize hm : out.length = len at *
      cases len with
      | zero =>
        have hnil : out = [] := List.eq_nil_of_length_eq_zero hm
        subst hnil
        clear hm
        go_wp2_with fail
        generalize hw1 : wr.alloc (Obj.cells #[.int .i64 fr, .int .i64 tu] 38) = w1
        have hb1 : Below w.heap.size ws w1 := by rw [← hw1]; exact hb.alloc (Nat.le_trans hzs hb.size) _
        have d1 : w1.cell? ⟨wr.heap.size, 0, none⟩ = some (.int .i64 fr) := by rw [← hw1, World.cell?_alloc_at _ _ _ _ rfl]; rfl
        have d2 : w1.cell? ⟨wr.heap.size, 1, none⟩ = some (.int .i64 tu) := by rw [← hw1, World.cell?_alloc_at _ _ _ _ rfl]; rfl
        have hown1 : OwnSpans w1 w.heap.size (.slice B 0 cb) [] := by rw [← hw1]; exact hown.alloc _
        have hz1w : w.heap.size ≤ w1.heap.size := Nat.le_trans hzs hb1.size
        clear hw1 c1 c2 hown hspo
        have HO := Lib.hid hown1; clear hown1
        go_quiet (fail)
        have d1' : (w1.drewN nq).cell? ⟨wr.heap.size, 0, none⟩ = some (.int .i64 fr) := d1
        have d2' : (w1.drewN nq).cell? ⟨wr.heap.size, 1, none⟩ = some (.int .i64 tu) := d2
        have hb1' : Below w.heap.size ws (w1.drewN nq) := below_drewN hb1 nq
        have HO' : Hid (OwnSpans (w1.drewN nq) w.heap.size (.slice B 0 cb) []) := HO.out
        have hz1' : w.heap.size ≤ (w1.drewN nq).heap.size := hz1w
        clear d1 d2 hb1 HO hz1w
        generalize w1.drewN nq = w1 at *
        go_wp2_with (at_builtin; refine append_spans rfl _ _ rfl w.heap.size _ _ rfl (HO'.out.alloc _) (some ⟨w1.heap.size, 0, none⟩) 1 1 [(fr, tu)] rfl (span_one w1 fr tu _) (fun h => by cases h) (by simp) (by simp; omega) ?_; intro v4 w4 hown4 hgrow4 _)
        have hb4 : Below w.heap.size ws w4 := (hb1'.alloc hz1' _).grown hgrow4 (by simp; omega) (fun i hi => (HO'.out.lt i hi).1)
        go_wp2_with fail
        go_roundg (ko - 1)
        case measure => have := HK.out; omega
        case rel => exact ⟨k + 1, by have := HK.out; omega, by go_num, by rw [HPL.out, putStep_nil]; exact hown4, hb4⟩
      | succ m =>
        have HM := Lib.hid hm; clear hm
        obtain ⟨gr, rfl, hgr, hcr⟩ := hspo.2 (by omega)
        have hgb : w.heap.size ≤ gr := (hown.lt gr rfl).1
        have cr := (hcr m (by omega)).2
        go_wp2_with fail
        generalize hw1 : wr.alloc (Obj.cells #[.int .i64 fr, .int .i64 tu] 38) = w1
        have hb1 : Below w.heap.size ws w1 := by rw [← hw1]; exact hb.alloc (Nat.le_trans hzs hb.size) _
        have d1 : w1.cell? ⟨wr.heap.size, 0, none⟩ = some (.int .i64 fr) := by rw [← hw1, World.cell?_alloc_at _ _ _ _ rfl]; rfl
        have d2 : w1.cell? ⟨wr.heap.size, 1, none⟩ = some (.int .i64 tu) := by rw [← hw1, World.cell?_alloc_at _ _ _ _ rfl]; rfl
        have hown1 : OwnSpans w1 w.heap.size (.slice (some ⟨gr, 0, none⟩) (m + 1) cb) out := by rw [← hw1]; exact hown.alloc _
        have hz1w : w.heap.size ≤ w1.heap.size := Nat.le_trans hzs hb1.size
        have d3 : w1.cell? ⟨gr, m * 2 + 1, none⟩ = some (.int .i64 (out.getD m (0, 0)).2) := by rw [← hw1, World.cell?_alloc_lt _ _ _ hgr]; exact cr
        have hgw1 : gr < w1.heap.size := by rw [← hw1]; simp; omega
        have hne : gr ≠ wr.heap.size := by omega
        clear hw1 c1 c2 hown hspo cr hcr
        have HO := Lib.hid hown1; clear hown1
        have HJ := Lib.hid (putStep_join out m HM.out (fr, tu))
        have HW := Lib.hid (putStep_new out m HM.out (fr, tu))
        generalize hpr : (out.getD m (0, 0)).2 = pr at *
        have HPR := Lib.hid hpr; clear hpr
        have hm1 : (m : Int) < ((m + 1 : Nat) : Int) := by omega
        by_cases hc : fr ≤ pr
        · have hd : decide (fr ≤ pr) = true := by simpa using hc
          go_quiet (fail)
          have e1 : (w1.drewN nq).cell? ⟨wr.heap.size, 0, none⟩ = some (.int .i64 fr) := d1
          have e2 : (w1.drewN nq).cell? ⟨wr.heap.size, 1, none⟩ = some (.int .i64 tu) := d2
          have e3 : (w1.drewN nq).cell? ⟨gr, m * 2 + 1, none⟩ = some (.int .i64 pr) := d3
          have hb1' : Below w.heap.size ws (w1.drewN nq) := below_drewN hb1 nq
          have HO' : Hid (OwnSpans (w1.drewN nq) w.heap.size (.slice (some ⟨gr, 0, none⟩) (m + 1) cb) out) := HO.out
          have hz1' : w.heap.size ≤ (w1.drewN nq).heap.size := hz1w
          clear d1 d2 d3 hb1 HO hz1w hgw1
          generalize w1.drewN nq = w1 at *
          have hfz : w1.frozen? ⟨gr, m * 2 + 1, none⟩ = false := own_free HO'.out _
          go_wp2_with fail
          go_region
          go_wp2_with fail
          have HJ2 := Lib.hid (HJ.out hc)
          have hst : OwnSpans (w1.setCell ⟨gr, m * 2 + 1, none⟩ (.int .i64 (max pr tu))) w.heap.size (.slice (some ⟨gr, 0, none⟩) (m + 1) cb) (out.take m ++ [((out.getD m (0, 0)).1, max pr tu)]) := by
            have := OwnSpans.stored (g := gr) (c := cb) (w := w1) (base := w.heap.size) (l := out) (m := m) (by rw [HM.out]; exact HO'.out) HM.out (max pr tu)
            rwa [HM.out] at this
          go_roundg (ko - 1)
          case measure => have := HK.out; omega
          case rel => exact ⟨k + 1, by have := HK.out; omega, by go_num, by rw [HPL.out, HJ2.out]; exact hst, (hb1'.setCell hgb _).drew⟩
        · have hd : decide (fr ≤ pr) = false := by simpa using hc
          have HW2 : Hid (putStep out (fr, tu) = out ++ [(fr, tu)]) := HW.out hc
          clear HW HJ
          go_quiet (fail)
          have e1 : (w1.drewN nq).cell? ⟨wr.heap.size, 0, none⟩ = some (.int .i64 fr) := d1
          have e2 : (w1.drewN nq).cell? ⟨wr.heap.size, 1, none⟩ = some (.int .i64 tu) := d2
          have e3 : (w1.drewN nq).cell? ⟨gr, m * 2 + 1, none⟩ = some (.int .i64 pr) := d3
          have hb1' : Below w.heap.size ws (w1.drewN nq) := below_drewN hb1 nq
          have HO' : Hid (OwnSpans (w1.drewN nq) w.heap.size (.slice (some ⟨gr, 0, none⟩) (m + 1) cb) out) := HO.out
          have hz1' : w.heap.size ≤ (w1.drewN nq).heap.size := hz1w
          clear d1 d2 d3 hb1 HO hz1w hgw1
          generalize w1.drewN nq = w1 at *
          go_wp2_with (at_builtin; refine append_spans rfl _ _ rfl w.heap.size _ _ rfl (HO'.out.alloc _) (some ⟨w1.heap.size, 0, none⟩) 1 1 [(fr, tu)] rfl (span_one w1 fr tu _) (fun h => by cases h) (by have := HM.out; simp; omega) (by simp; omega) ?_; intro v4 w4 hown4 hgrow4 _)
          have hb4 : Below w.heap.size ws w4 := (hb1'.alloc hz1' _).grown hgrow4 (by simp; omega) (fun i hi => (HO'.out.lt i hi).1)
          have HO4 := Lib.hid hown4; clear hown4
          go_wp2_with fail
          go_roundg (ko - 1)
          case measure => have := HK.out; omega
          case rel => exact ⟨k + 1, by have := HK.out; omega, by go_num, by rw [HPL.out, HW2.out]; exact HO4.out, hb4⟩
    · go_wp2_with fail
      go_ret
      obtain rfl : k = n := by omega
      have := HL.out
      rw [List.take_of_length_le (by omega)] at hown
      exact ⟨_, l', rfl, HP.out, HS.out, hown, ⟨hb.os.trans hgs.os, hb.tape.trans hgs.tape, hb.output.trans hgs.output, Nat.le_trans hgs.size hb.size, fun i hi hne => (hb.block i hi).trans (hgs.block i hi hne)⟩⟩

end Go.Proofs.YtldngebikgendaaDoor
