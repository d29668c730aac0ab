/-
  What textError, inside and points return.
-/
import Derived.Test.YtldngebikgendaaDoorCheck
import Derived.Test.YtldngebikgendaaDoorPointsPlain
import Derived.Test.YtldngebikgendaaDoorSpanList
namespace Go.Proofs.YtldngebikgendaaDoor
open Go.RowKit

set_option maxHeartbeats 800000 in
theorem textError_any (s : ByteArray) (A : Option Addr) (n c : Nat) (l : List (Int × Int)) (w : World) (h : SpansAt w A n l) (hR : Right s.size (-1) l) (hn : n ≤ 1000) (hs : s.size ≤ 20000) (ht : textB s.data.toList = true) (hT : Tabs w) :
    Calls Tryd.prog 23 #[.string s, .slice A n c] w fun e w' => e = .returned (.int .i64 0) ∧ Below w.heap.size w w' := by
  have hl : whenE (decide (20000 < s.size)) 2 = 0 := by simp [whenE]; omega
  go_enter Tryd.func23, Tryd.ntmps23
  go_wp2_with fail
  refine (large_any s w (by omega)).mono ?_
  rintro e w' ⟨rfl, rfl⟩
  rw [hl]
  clear hl
  go_wp2_with fail
  refine (text_any s w (by omega) hT).mono ?_
  rintro e w1 ⟨rfl, hb1⟩
  rw [ht]
  clear ht
  go_wp2_with fail
  refine (when_no _ _).mono ?_
  rintro e w' ⟨rfl, rfl⟩
  go_wp2_with fail
  refine (checkSpans_any A n c l s.size w1 (h.keep hb1) hR hn (by omega) (by omega)).mono ?_
  rintro e w2 ⟨rfl, hb2⟩
  go_wp2_with fail
  refine (first_three _ _ rfl _).mono ?_
  rintro e w' ⟨rfl, rfl⟩
  go_wp2_with fail
  go_ret
  exact ⟨rfl, (hb1.trans (hb2.mono hb1.size)).alloc (Nat.le_trans hb1.size hb2.size) _⟩

theorem getD_byte (s : ByteArray) (i : Nat) (h : i < s.size) : s.data.toList.getD i 0 = s[i] := by
  have hd : i < s.data.toList.length := by simpa using h
  rw [List.getD_eq_getElem?_getD, List.getElem?_eq_getElem hd]
  rfl

set_option maxHeartbeats 800000 in
theorem inside_any (s : ByteArray) (i : Nat) (w : World) :
    Calls Tryd.prog 32 #[.string s, .int .i64 i] w fun e w' => e = .returned (.bool (insB s.data.toList i)) ∧ w = w' := by
  by_cases hlt : i < s.size
  · have HB : Hid (insB s.data.toList i = decide (s[i].toNat / 64 = 2)) := by
      show insB s.data.toList i = _
      have hl : i < s.data.toList.length := by simpa using hlt
      unfold insB
      rw [getD_byte s i hlt]
      rw [decide_eq_true hl, Bool.true_and]
    go_enter Tryd.func32, Tryd.ntmps32
    go_wp2
    go_ret
    exact ⟨ret_bool (by rw [HB.out, Bool.eq_iff_iff]; simp; omega), rfl⟩
  · have HB : Hid (insB s.data.toList i = false) := by
      show insB s.data.toList i = _
      simp [insB]; intro h; exact absurd h hlt
    go_enter Tryd.func32, Tryd.ntmps32
    go_wp2
    go_ret
    exact ⟨ret_bool (by rw [HB.out]), rfl⟩


theorem OwnSpans.at_ {w : World} {base : Nat} {v : Value} {l : List (Int × Int)} (h : OwnSpans w base v l) : ∃ A c, v = .slice A l.length c ∧ SpansAt w A l.length l := by
  rcases h.2 with ⟨rfl, hn⟩ | ⟨g, cap, cur, rfl, hb, hh, h1, h2, h3, h4⟩
  · exact ⟨none, 0, by rw [hn], rfl, fun h => by omega⟩
  · refine ⟨_, cap, rfl, rfl, fun _ => ⟨g, rfl, (Array.getElem?_eq_some_iff.1 hh).1, fun k hk => ?_⟩⟩
    have hc := h.cells (g := g) rfl
    have hadd : ∀ j, (⟨g, 0, none⟩ : Addr).add j = ⟨g, j, none⟩ := fun j => by unfold Addr.add; split <;> simp_all
    have := spanCells_at l k hk
    exact ⟨by rw [← hadd]; exact hc _ _ this.1, by rw [← hadd]; exact hc _ _ this.2⟩

theorem Right.nat {size : Int} {l : List (Int × Int)} (h : Right size (-1) l) (k : Nat) (hk : k < l.length) : ∃ f t : Nat, l.getD k (0, 0) = ((f : Int), (t : Int)) ∧ f < t ∧ (t : Int) ≤ size := by
  obtain ⟨h1, h2, h3, _⟩ := h.at_ k hk
  generalize l.getD k (0, 0) = x at *
  obtain ⟨a, b⟩ := x
  simp only at h1 h2 h3
  exact ⟨a.toNat, b.toNat, by rw [Int.toNat_of_nonneg (by omega), Int.toNat_of_nonneg (by omega)], by omega, by omega⟩

theorem take_snoc_getD {α : Type} (l : List α) (d : α) (k : Nat) (h : k < l.length) : l.take (k + 1) = l.take k ++ [l.getD k d] := by
  rw [List.take_succ_eq_append_getElem h]; simp [h]

def PointsPost (w : World) (L : List UInt8) (l : List (Int × Int)) (e : Ending) (w' : World) : Prop := ∃ v, e = .returned v ∧ OwnSpans w' w.heap.size v (pointsL L l) ∧ Below w.heap.size w w'

set_option maxHeartbeats 1600000 in
set_option maxRecDepth 100000 in
theorem points_any (s : ByteArray) (A : Option Addr) (n c : Nat) (l : List (Int × Int)) (w : World) (h : SpansAt w A n l) (hR : Right s.size (-1) l) (hn : n ≤ 1000) (hs : s.size ≤ 20000) :
    Calls Tryd.prog 24 #[.string s, .slice A n c] w (PointsPost w s.data.toList l) := by
  obtain ⟨i0, hi, hz0, hz1, hz2⟩ := info_parts span_info
  have HN := Lib.hid h.1
  go_enter Tryd.func24, Tryd.ntmps24
  go_wp2_with fail
  go_loopg [5, 10] n (fun gk v i wr => ∃ k : Nat, k + gk = n ∧ i = .int .i64 k ∧ OwnSpans wr w.heap.size v (pointsL s.data.toList (l.take k)) ∧ Below w.heap.size w wr)
  case atStart => exact ⟨0, by omega, rfl, World.ownsRow_nil _ _ _ _, Below.refl _ _⟩
  case round =>
    obtain ⟨k, hk, rfl, hown, hb⟩ := hrel
    have HK := Lib.hid hk; clear hk
    have hkn : k ≤ n := by have := HK.out; omega
    by_cases hlt : k < n
    · obtain ⟨g, rfl, hg, hcs⟩ := h.2 (by omega)
      obtain ⟨f, t, hft, hf1, hf2⟩ := hR.nat k (by have := HN.out; omega)
      have c1 := (hb.cell (p := ⟨g, k * 2, none⟩) hg).trans (hcs k hlt).1
      have c2 := (hb.cell (p := ⟨g, k * 2 + 1, none⟩) hg).trans (hcs k hlt).2
      rw [hft] at c1 c2
      have HFT := Lib.hid hft; clear hft hcs
      have H := Lib.hid h; clear h
      have HO := Lib.hid hown; clear hown
      obtain ⟨wo, rfl⟩ : ∃ wo : World, wo = wr := ⟨_, rfl⟩
      obtain ⟨ko, rfl⟩ : ∃ ko : Nat, ko = gk := ⟨_, rfl⟩
      go_wp2_with fail
      clear c1 c2
      go_loopg [14] f (fun gk _ wx => ∃ f' : Nat, f' ≤ gk ∧ f' ≤ f ∧ Hid (down s.data.toList f' = down s.data.toList f) ∧ wx = wo.alloc (.cells #[.int .i64 f', .int .i64 t] 38))
      case atStart => exact ⟨f, by omega, by omega, rfl, rfl⟩
      case round =>
        obtain ⟨f', hf3, hf4, hf5, rfl⟩ := hrel
        go_upto_region 5 with (fail)
        go_cut [22] (fun v wx => v = .bool (decide (0 < f') && insB s.data.toList f') ∧ wx = wo.alloc (.cells #[.int .i64 f', .int .i64 t] 38))
        case first =>
          by_cases h0 : 0 < f'
          · have HC : Hid ((decide (0 < f') && insB s.data.toList f') = insB s.data.toList f') := by show _ = _; simp [h0]
            go_wp2_with fail
            refine (inside_any s f' _).mono ?_
            rintro e w' ⟨rfl, rfl⟩
            go_wp2_with fail
            go_meet
            exact ⟨congrArg Value.bool HC.out.symm, rfl⟩
          · go_wp2_with fail
            go_meet
            exact ⟨congrArg Value.bool (by simp [h0]), rfl⟩
        case rest =>
          obtain ⟨rfl, rfl⟩ := hcut
          cases hins : (decide (0 < f') && insB s.data.toList f')
          · have hst : down s.data.toList f' = f' := by
              cases f' with
              | zero => rfl
              | succ m => exact down_stop (by simpa using hins)
            have HST := Lib.hid hst; clear hst
            have HI := Lib.hid hins; clear hins
            go_wp2_with fail
            go_loopg [27] (s.size - t) (fun gk _ wx => ∃ t' : Nat, t' + gk = s.size ∧ t ≤ t' ∧ Hid (up s.data.toList t' = up s.data.toList t) ∧ wx = wo.alloc (.cells #[.int .i64 f', .int .i64 t'] 38))
            case atStart => exact ⟨t, by omega, by omega, rfl, rfl⟩
            case round =>
              obtain ⟨t', ht3, ht4, ht5, rfl⟩ := hrel
              have HT3 := Lib.hid ht3; clear ht3
              have htl : t' ≤ s.size := by have := HT3.out; omega
              go_wp2_with fail
              refine (inside_any s t' _).mono ?_
              rintro e w' ⟨rfl, rfl⟩
              cases hin2 : insB s.data.toList t'
              · have HU := Lib.hid (up_stop hin2); clear hin2
                have hown1 := HO.out.alloc (.cells #[.int .i64 (f' : Int), .int .i64 (t' : Int)] 38)
                have hb1 := hb.alloc hb.size (.cells #[.int .i64 (f' : Int), .int .i64 (t' : Int)] 38)
                have hsz1 : w.heap.size ≤ wo.heap.size := hb.size
                have hlen : (pointsL s.data.toList (l.take k)).length = k := by have := HN.out; simp [pointsL]; omega
                have HL := Lib.hid hlen; clear hlen
                rw [HL.out] at hown1
                have HO1 := Lib.hid hown1; clear hown1
                go_wp2_with (at_builtin; refine wpList_append_own _ rfl _ _ 30 rfl w.heap.size 38 i0 _ 2 16 Tryd.underlying30 hi hz0 hz1 hz2 rfl (by decide) _ _ _ rfl (HO1.out.alloc _) ⟨wo.heap.size + 1, 0, none⟩ 1 1 (spanCells [((f' : Int), (t' : Int))]) rfl rfl ?c1 ?c2 ?c3 ?c4 ?c5 ?_)
                case c1 => exact fun j u hu => by have := cells_span (wo.alloc (.cells #[.int .i64 (f' : Int), .int .i64 (t' : Int)] 38)) ((f' : Int), (t' : Int)) 38 j u hu; simpa using this
                case c2 => exact spanCells_one _
                case c3 => simp only [maxLen]; omega
                case c4 => omega
                case c5 => simp; omega
                intro v' w4 hown4 hgrow4 _
                have hb4 : Below w.heap.size w w4 := (hb1.alloc hb1.size _).grown hgrow4 (by simp; omega) (fun i hi => (HO1.out.lt i hi).1)
                rw [← spanCells_append] at hown4
                have hpt : pointsL s.data.toList (l.take (k + 1)) = pointsL s.data.toList (l.take k) ++ [((f' : Int), (t' : Int))] := by
                  rw [take_snoc_getD l (0, 0) k (by have := HN.out; omega), HFT.out]
                  simp only [pointsL, List.map_append, List.map_cons, List.map_nil, Int.toNat_natCast]
                  have e1 := hf5.out
                  have e2 := ht5.out
                  rw [HST.out] at e1
                  rw [HU.out] at e2
                  rw [← e1, ← e2]
                have HP := Lib.hid hpt; clear hpt
                go_wp2_with fail
                go_roundg (ko - 1)
                case measure => have := HK.out; omega
                case rel => exact ⟨k + 1, by have := HK.out; omega, by go_num, by unfold OwnSpans; rw [HP.out, List.length_append, HL.out]; exact hown4, hb4⟩
              · have HU := Lib.hid (up_step hin2)
                have hlt2 : t' < s.size := by have := insB_lt hin2; simpa using this
                clear hin2
                go_wp2_with fail
                go_roundg (gk - 1)
                case measure => have := HT3.out; omega
                case rel => exact ⟨t' + 1, by have := HT3.out; omega, by omega, by have := ht5.out; rw [HU.out] at this; exact this, by congr⟩
          · have HI := Lib.hid hins; clear hins
            have hpos : 0 < f' := by have := HI.out; simp at this; exact this.1
            have hdn : down s.data.toList f' = down s.data.toList (f' - 1) := by
              obtain ⟨m, rfl⟩ : ∃ m, f' = m + 1 := ⟨f' - 1, by omega⟩
              have := HI.out
              simp at this
              exact down_step this
            have HD := Lib.hid hdn; clear hdn
            go_wp2_with fail
            go_roundg (gk - 1)
            case measure => omega
            case rel => exact ⟨f' - 1, by omega, by omega, by rw [HD.out] at hf5; exact hf5, by congr; omega⟩
    · go_wp2_with fail
      go_ret
      obtain rfl : k = n := by omega
      have := HN.out
      rw [List.take_of_length_le (by omega)] at hown
      exact ⟨_, rfl, hown, hb⟩

end Go.Proofs.YtldngebikgendaaDoor
