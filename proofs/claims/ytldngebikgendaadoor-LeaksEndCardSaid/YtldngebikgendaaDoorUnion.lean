/-
  What Union and Without return.
-/
import Derived.Test.YtldngebikgendaaDoorPut
import Derived.Test.YtldngebikgendaaDoorWithoutPlain
namespace Go.Proofs.YtldngebikgendaaDoor
open Go.RowKit

set_option maxHeartbeats 400000 in
theorem few_any (A : Option Addr) (n c : Nat) (w : World) (hn : n ≤ 1000) :
    Calls Tryd.prog 27 #[.slice A n c] w fun e w' => e = .returned (.tuple #[.slice A n c, .int .i64 0]) ∧ w = w' := by
  go_enter Tryd.func27, Tryd.ntmps27
  go_wp2
  go_ret2
  exact ⟨rfl, rfl⟩

theorem two_cells (w : World) (u v : Value) (t : TypeId) : (w.alloc (.cells #[u, v] t)).cell? ⟨w.heap.size, 0, none⟩ = some u ∧ (w.alloc (.cells #[u, v] t)).cell? ⟨w.heap.size, 1, none⟩ = some v := by
  rw [World.cell?_alloc_at _ _ _ _ rfl, World.cell?_alloc_at _ _ _ _ rfl]
  exact ⟨rfl, rfl⟩

theorem OwnSpans.mono {w : World} {base base' : Nat} {v : Value} {l : List (Int × Int)} (h : OwnSpans w base v l) (hb : base' ≤ base) : OwnSpans w base' v l := by
  refine ⟨h.1, ?_⟩
  rcases h.2 with h0 | ⟨g, cap, cur, hv, h1, r⟩
  · exact .inl h0
  · exact .inr ⟨g, cap, cur, hv, Nat.le_trans hb h1, r⟩

/-- What both do: right spans, that cover so much. -/
def SpansPost (w : World) (size : Int) (most : Nat) (f : Nat → Bool) (e : Ending) (w' : World) : Prop :=
  ∃ v u, e = .returned (.tuple #[v, .int .i64 0]) ∧ OwnSpans w' w.heap.size v u ∧ Right size (-1) u ∧ (∀ i, inS u i = f i) ∧ u.length ≤ most ∧ Below w.heap.size w w'

set_option maxHeartbeats 1600000 in
set_option maxRecDepth 100000 in
theorem union_any (A B : Option Addr) (na nb ca cb : Nat) (la lb : List (Int × Int)) (size : Int) (w : World) (hA : SpansAt w A na la) (hB : SpansAt w B nb lb) (hca : A = none → ca = 0) (hcb : B = none → cb = 0) (hn : na + nb ≤ 1000)
    (h0 : 0 ≤ size) (h1 : size ≤ 200000) (hRa : Right size (-1) la) (hRb : Right size (-1) lb) :
    Calls Tryd.prog 10 #[.slice A na ca, .slice B nb cb, .int .i64 size] w (SpansPost w size (na + nb) fun i => inS la i || inS lb i) := by
  go_enter Tryd.func10, Tryd.ntmps10
  go_wp2_with fail
  refine (checkSpans_any A na ca la size w hA hRa (by omega) h0 h1).mono ?_
  rintro e w1 ⟨rfl, hb1⟩
  go_wp2_with fail
  refine (checkSpans_any B nb cb lb size w1 (hB.keep hb1) hRb (by omega) h0 h1).mono ?_
  rintro e w2 ⟨rfl, hb2⟩
  have hb2 := hb1.trans (hb2.mono hb1.size)
  go_wp2_with fail
  refine (first_two _ _ rfl _).mono ?_
  rintro e w' ⟨rfl, rfl⟩
  have hb3 := hb2.alloc hb2.size (.cells #[.int .i64 0, .int .i64 0] 27)
  generalize hw3 : w2.alloc (.cells #[.int .i64 0, .int .i64 0] 27) = w3 at *
  clear hw3
  go_wp2_with fail
  have hb4 := hb3.alloc hb3.size (.cells #[.slice A na ca, .slice B nb cb] 30)
  have ht := two_cells w3 (.slice A na ca) (.slice B nb cb) 30
  refine (concat_any w3.heap.size A B na nb ca cb la lb _ (hA.keep hb4) (hB.keep hb4) hca hcb (by omega) ht.1 ht.2).mono ?_
  rintro e w5 ⟨v5, rfl, hown5, hb5⟩
  have hb5' : Below w.heap.size w w5 := hb4.trans (hb5.mono hb4.size)
  have hlen : (la ++ lb).length = na + nb := by rw [List.length_append, hA.1, hB.1]
  obtain ⟨C, c5, rfl, _, _, _⟩ := hown5.atc
  have hmem : ∀ x ∈ la ++ lb, -1 < x.1 ∧ x.1 < x.2 ∧ x.2 ≤ size := by
    intro x hx
    rcases List.mem_append.1 hx with hx | hx
    · exact hRa.mem x hx
    · exact hRb.mem x hx
  have hbl : w.heap.size ≤ (w3.alloc (.cells #[.slice A na ca, .slice B nb cb] 30)).heap.size := hb4.size
  generalize w3.alloc (.cells #[.slice A na ca, .slice B nb cb] 30) = w4 at *
  have HM := Lib.hid hmem; clear hmem
  have HL := Lib.hid hlen; clear hlen
  rw [HL.out] at hown5 ⊢
  have HO := Lib.hid hown5; clear hown5
  go_wp2_with fail
  refine (put_any w4.heap.size (na + nb) c5 C (la ++ lb) w5 (fun x hx => by have := HM.out x hx; omega) HL.out.symm (by omega) HO.out).mono ?_
  rintro e w6 ⟨v6, l', rfl, hperm, hsort, hown6, hg6⟩
  have hb6 : Below w.heap.size w w6 := hb5'.grown hg6 hb5'.size (fun i hi => Nat.le_trans hbl (HO.out.lt i hi).1)
  have hpr := putL_right l' (fun x hx => HM.out x (hperm.mem_iff.1 hx)) hsort
  have hpl : (putL l').length ≤ na + nb := Nat.le_trans (putL_length l') (by rw [hperm.length_eq, HL.out]; exact Nat.le_refl _)
  obtain ⟨D, c6, rfl, _, _, _⟩ := hown6.atc
  have HO6 : Hid (OwnSpans w6 w.heap.size (.slice D (putL l').length c6) (putL l')) := hown6.mono hb5'.size
  have HP := Lib.hid hperm; clear hperm
  generalize hn6 : (putL l').length = n6 at *
  have HN6 := Lib.hid hn6; clear hn6
  go_wp2_with fail
  refine (few_any D n6 c6 w6 (by omega)).mono ?_
  rintro e w' ⟨rfl, rfl⟩
  go_wp2_with fail
  go_ret2
  exact ⟨_, putL l', rfl, HO6.out, hpr.1, fun i => by rw [hpr.2 i, inS_perm HP.out i, inS_append], by rw [HN6.out]; exact hpl, hb6⟩


set_option maxHeartbeats 3200000 in
set_option maxRecDepth 100000 in
theorem without_any (A B : Option Addr) (na nb ca cb : Nat) (la lb : List (Int × Int)) (size : Int) (w : World) (hA : SpansAt w A na la) (hB : SpansAt w B nb lb) (hn : na ≤ 20) (hm : nb ≤ 20)
    (h0 : 0 ≤ size) (h1 : size ≤ 200000) (hRa : Right size (-1) la) (hRb : Right size (-1) lb) :
    Calls Tryd.prog 13 #[.slice A na ca, .slice B nb cb, .int .i64 size] w (SpansPost w size (na * (nb + 1)) fun i => inS la i && !inS lb i) := by
  have HNA := Lib.hid hA.1
  have HNB := Lib.hid hB.1
  go_enter Tryd.func13, Tryd.ntmps13
  go_wp2_with fail
  refine (checkSpans_any A na ca la size w hA hRa (by omega) h0 h1).mono ?_
  rintro e w1 ⟨rfl, hb1⟩
  go_wp2_with fail
  refine (checkSpans_any B nb cb lb size w1 (hB.keep hb1) hRb (by omega) h0 h1).mono ?_
  rintro e w2 ⟨rfl, hb2⟩
  have hb2 := hb1.trans (hb2.mono hb1.size)
  go_wp2_with fail
  refine (first_two _ _ rfl _).mono ?_
  rintro e w' ⟨rfl, rfl⟩
  have hb3 := hb2.alloc hb2.size (.cells #[.int .i64 0, .int .i64 0] 27)
  generalize hw3 : w2.alloc (.cells #[.int .i64 0, .int .i64 0] 27) = w3 at *
  clear hw3 hb1 hb2
  go_wp2_with fail
  go_loopg [9, 28] na (fun gk v i wr => ∃ k : Nat, k + gk = na ∧ i = .int .i64 k ∧ OwnSpans wr w.heap.size v (withoutL (la.take k) lb) ∧ Below w.heap.size w wr)
  case atStart => exact ⟨0, by omega, rfl, World.ownsRow_nil _ _ _ _, hb3⟩
  case round =>
    obtain ⟨k, hk, rfl, hown, hb⟩ := hrel
    have HK := Lib.hid hk; clear hk
    have hkn : k ≤ na := by have := HK.out; omega
    by_cases hlt : k < na
    · obtain ⟨g, rfl, hg, hcs⟩ := hA.2 (by omega)
      have c1 := (hb.cell (p := ⟨g, k * 2, none⟩) hg).trans (hcs k hlt).1
      have c2 := (hb.cell (p := ⟨g, k * 2 + 1, none⟩) hg).trans (hcs k hlt).2
      have HT := Lib.hid (take_snoc_getD la (0, 0) k (by have := HNA.out; omega))
      have HSP := Lib.hid hA; clear hA hcs
      generalize la.getD k (0, 0) = x at *
      obtain ⟨fr, tu⟩ := x
      simp only at c1 c2
      have hlo : (withoutL (la.take k) lb).length ≤ 20 * 21 := Nat.le_trans (withoutL_length _ _) (Nat.mul_le_mul (by simp; omega) (by have := HNB.out; omega))
      have HPL : Hid (withoutL (la.take (k + 1)) lb = wOne lb (withoutL (la.take k) lb) (fr, tu)) := by show _ = _; rw [HT.out]; simp [withoutL]
      generalize withoutL (la.take k) lb = out at *
      obtain ⟨wo, rfl⟩ : ∃ wo : World, wo = wr := ⟨_, rfl⟩
      obtain ⟨ko, rfl⟩ : ∃ ko : Nat, ko = gk := ⟨_, rfl⟩
      go_wp2_with fail
      clear c1 c2
      have hst : (wo.alloc (.cells #[.int .i64 fr, .int .i64 tu] 38)).heap[wo.heap.size]? = some (.cells #[.int .i64 fr, .int .i64 tu] 38 (0, 0)) := heap_alloc_new _ _
      have HS := Lib.hid hst; clear hst
      have hbs := hb.alloc hb.size (.cells #[.int .i64 fr, .int .i64 tu] 38)
      have hos := hown.alloc (.cells #[.int .i64 fr, .int .i64 tu] 38)
      have hwo : w.heap.size ≤ wo.heap.size := hb.size
      go_loopg [9, 12, 36] nb (fun gk v fv i wx => ∃ (j : Nat) (st : Int × List (Int × Int)), j + gk = nb ∧ i = .int .i64 j ∧ Hid (st = (lb.take j).foldl (wStep tu) (fr, out)) ∧ fv = .int .i64 st.1 ∧ OwnSpans wx w.heap.size v st.2 ∧ Below w.heap.size w wx ∧ v.ownBlock ≠ some wo.heap.size ∧ wo.heap.size < wx.heap.size ∧ Hid (wx.heap[wo.heap.size]? = some (.cells #[.int .i64 fr, .int .i64 tu] 38 (0, 0))))
      case atStart => exact ⟨0, (fr, out), by omega, rfl, rfl, rfl, hos, hbs, fun he => by have := (hown.lt _ he).2; omega, by simp, HS⟩
      case round =>
        obtain ⟨j, st, hj, rfl, hst, rfl, hox, hbx, hnb, hlb, hsx⟩ := hrel
        clear hbs hos HS hown
        have HJ := Lib.hid hj; clear hj
        have hjn : j ≤ nb := by have := HJ.out; omega
        have ct : wr.cell? ⟨wo.heap.size, 1, none⟩ = some (.int .i64 tu) := by rw [cell_of_row wr _ 1 _ _ _ hsx.out]; rfl
        have hsl : st.2.length ≤ 600 := by
          have e := hst.out
          have := wFold_length tu (lb.take j) (fr, out)
          rw [← e] at this
          simp at this
          omega
        obtain ⟨f, so⟩ := st
        simp only at hox hsl
        by_cases hjl : j < nb
        · obtain ⟨g2, rfl, hg2, hcs2⟩ := hB.2 (by omega)
          have x1 := (hbx.cell (p := ⟨g2, j * 2, none⟩) hg2).trans (hcs2 j hjl).1
          have x2 := (hbx.cell (p := ⟨g2, j * 2 + 1, none⟩) hg2).trans (hcs2 j hjl).2
          have HSB := Lib.hid hB; clear hB hcs2
          have HT2 := Lib.hid (take_snoc_getD lb (0, 0) j (by have := HNB.out; omega))
          generalize lb.getD j (0, 0) = y at *
          obtain ⟨xf, xt⟩ := y
          simp only at x1 x2
          have hnext : (lb.take (j + 1)).foldl (wStep tu) (fr, out) = wStep tu (f, so) (xf, xt) := by rw [HT2.out, List.foldl_append, ← hst.out]; rfl
          have HNX := Lib.hid hnext; clear hnext
          have HOX := Lib.hid hox; clear hox
          have hbz := hbx.size
          have hlen := (World.block_lt_of_cell? wr ⟨wo.heap.size, 1, none⟩ ct : wo.heap.size < wr.heap.size)
          have hbx2 := hbx.alloc hbz (.cells #[.int .i64 xf, .int .i64 xt] 38)
          have hsx2 : Hid ((wr.alloc (.cells #[.int .i64 xf, .int .i64 xt] 38)).heap[wo.heap.size]? = some (.cells #[.int .i64 fr, .int .i64 tu] 38 (0, 0))) := (Below.heap_alloc wr _ _ hlen).trans hsx.out
          by_cases t1 : xt ≤ f
          · have HW : Hid (wStep tu (f, so) (xf, xt) = (f, so)) := by show _ = _; simp [wStep, t1]
            go_wp2_with fail
            go_roundg (gk - 1)
            case measure => have := HJ.out; omega
            case rel => exact ⟨j + 1, (f, so), by have := HJ.out; omega, by go_num, by show _ = _; rw [HNX.out, HW.out], rfl, HOX.out.alloc _, hbx2, hnb, by simp; omega, hsx2⟩
          · by_cases t2 : tu ≤ xf
            · have HW : Hid (wStep tu (f, so) (xf, xt) = (f, so)) := by show _ = _; simp [wStep, t2]
              go_wp2_with fail
              go_roundg (gk - 1)
              case measure => have := HJ.out; omega
              case rel => exact ⟨j + 1, (f, so), by have := HJ.out; omega, by go_num, by show _ = _; rw [HNX.out, HW.out], rfl, HOX.out.alloc _, hbx2, hnb, by simp; omega, hsx2⟩
            · by_cases t3 : f < xf
              · have HW : Hid (wStep tu (f, so) (xf, xt) = (xt, so ++ [(f, xf)])) := by show _ = _; simp [wStep, t1, t2, t3]
                have hone : SpansAt ((wr.alloc (.cells #[.int .i64 xf, .int .i64 xt] 38)).alloc (.cells #[.int .i64 f, .int .i64 xf] 38)) (some ⟨wr.heap.size + 1, 0, none⟩) 1 [(f, xf)] := by
                  have := span_one (wr.alloc (.cells #[.int .i64 xf, .int .i64 xt] 38)) f xf 38
                  simpa using this
                have HX4 := Lib.hid (fun (w4 : World) (hgrow4 : ((wr.alloc (.cells #[.int .i64 xf, .int .i64 xt] 38)).alloc (.cells #[.int .i64 f, .int .i64 xf] 38)).grownBy w4 u9.ownBlock) => (show w4.cell? ⟨wr.heap.size, 1, none⟩ = some (.int .i64 xt) by
                  rw [World.cell?_of_block (hgrow4.block wr.heap.size (by simp; omega) (fun he => by have := (HOX.out.lt _ he.symm).2; omega)), World.cell?_alloc_lt _ _ _ (by simp), World.cell?_alloc_at _ _ _ _ rfl]
                  rfl))
                have HOX2 := Lib.hid (HOX.out.alloc (.cells #[.int .i64 xf, .int .i64 xt] 38))
                go_wp2_with (at_builtin; refine append_spans rfl _ _ rfl w.heap.size _ _ rfl (HOX2.out.alloc _) (some ⟨wr.heap.size + 1, 0, none⟩) 1 1 [(f, xf)] rfl hone (fun h => by cases h) (by simp; omega) (by simp; omega) ?_; intro v4 w4 hown4 hgrow4 hat4; have hx4 := HX4.out w4 hgrow4)
                have hb4 : Below w.heap.size w w4 := (hbx2.alloc hbx2.size _).grown hgrow4 (by simp; omega) (fun i hi => (HOX.out.lt i hi).1)
                have hs4 : Hid (w4.heap[wo.heap.size]? = some (.cells #[.int .i64 fr, .int .i64 tu] 38 (0, 0))) := by
                  show _ = _
                  rw [hgrow4.block wo.heap.size (by simp; omega) (Ne.symm hnb), Below.heap_alloc _ _ _ (by simp; omega)]
                  exact hsx2.out
                have hnb4 : v4.ownBlock ≠ some wo.heap.size := by
                  rcases hat4 with e | e
                  · rw [e]; exact hnb
                  · rw [e]; simp; omega
                have hlb4 : wo.heap.size < w4.heap.size := by have := hgrow4.size; simp at this; omega
                clear hat4
                have HO4 := Lib.hid hown4; clear hown4
                go_wp2_with fail
                go_roundg (gk - 1)
                case measure => have := HJ.out; omega
                case rel => exact ⟨j + 1, (xt, so ++ [(f, xf)]), by have := HJ.out; omega, by go_num, by show _ = _; rw [HNX.out, HW.out], rfl, HO4.out, hb4, hnb4, hlb4, hs4⟩
              · have HW : Hid (wStep tu (f, so) (xf, xt) = (xt, so)) := by show _ = _; simp [wStep, t1, t2, t3]
                go_wp2_with fail
                go_roundg (gk - 1)
                case measure => have := HJ.out; omega
                case rel => exact ⟨j + 1, (xt, so), by have := HJ.out; omega, by go_num, by show _ = _; rw [HNX.out, HW.out], rfl, HOX.out.alloc _, hbx2, hnb, by simp; omega, hsx2⟩
        · have hst2 : Hid ((f, so) = lb.foldl (wStep tu) (fr, out)) := by
            show _ = _
            have e := hst.out
            rw [List.take_of_length_le (by have := HNB.out; omega)] at e
            exact e
          have HOX := Lib.hid hox; clear hox
          have hbz := hbx.size
          by_cases t4 : f < tu
          · have HW : Hid (wOne lb out (fr, tu) = so ++ [(f, tu)]) := by show _ = _; unfold wOne; rw [← hst2.out]; simp [wEnd, t4]
            go_wp2_with (at_builtin; refine append_spans rfl _ _ rfl w.heap.size _ _ rfl (HOX.out.alloc _) (some ⟨wr.heap.size, 0, none⟩) 1 1 [(f, tu)] rfl (span_one wr f tu _) (fun h => by cases h) (by simp; omega) (by simp; omega) ?_; intro v4 w4 hown4 hgrow4 hat4)
            have hb4 : Below w.heap.size w w4 := (hbx.alloc hbz _).grown hgrow4 (by simp; omega) (fun i hi => (HOX.out.lt i hi).1)
            have HO4 := Lib.hid hown4; clear hown4
            go_wp2_with fail
            go_roundg (ko - 1)
            case measure => have := HK.out; omega
            case rel => exact ⟨k + 1, by have := HK.out; omega, by go_num, by rw [HPL.out, HW.out]; exact HO4.out, hb4⟩
          · have HW : Hid (wOne lb out (fr, tu) = so) := by show _ = _; unfold wOne; rw [← hst2.out]; simp [wEnd, t4]
            go_wp2_with fail
            go_roundg (ko - 1)
            case measure => have := HK.out; omega
            case rel => exact ⟨k + 1, by have := HK.out; omega, by go_num, by rw [HPL.out, HW.out]; exact HOX.out, hbx⟩
    · have hR := withoutL_right hRa hRb
      have hle : (withoutL la lb).length ≤ na * (nb + 1) := by have := withoutL_length la lb; rwa [← HNA.out, ← HNB.out] at this
      have hle2 : na * (nb + 1) ≤ 20 * 21 := Nat.mul_le_mul hn (by omega)
      have HLE := Lib.hid hle
      rw [List.take_of_length_le (by have := HNA.out; omega)] at hown
      obtain ⟨D, c6, rfl, _, _, _⟩ := hown.atc
      have HO := Lib.hid hown; clear hown
      generalize hL : withoutL la lb = L at *
      have HL := Lib.hid hL; clear hL
      generalize hn6 : L.length = n6 at *
      have HN6 := Lib.hid hn6; clear hn6
      have HR := Lib.hid hR; clear hR
      go_wp2_with fail
      refine (few_any D n6 c6 wr (by omega)).mono ?_
      rintro e w' ⟨rfl, rfl⟩
      go_wp2_with fail
      go_ret2
      exact ⟨_, L, rfl, HO.out, HR.out.1, HR.out.2, by rw [HN6.out]; exact hle, hb⟩

end Go.Proofs.YtldngebikgendaaDoor
