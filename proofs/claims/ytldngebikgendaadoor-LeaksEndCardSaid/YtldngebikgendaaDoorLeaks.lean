/-
  What Leaks returns.
-/
import Derived.Test.YtldngebikgendaaDoorSets
namespace Go.Proofs.YtldngebikgendaaDoor
open Go.RowKit Go.Shelf Go.Maps

theorem bool_info : (Tryd.prog.info? 4).map (fun i => (i.zero, i.size, i.bytes)) = some (some (.bool false), 1, 1) := by kernel_rfl
theorem make_bools (w : World) (N : Nat) (hN : N ≤ 20000) : ∃ wb, (Instr.makeSlice 60 (.int .i64 (N : Int)) (.int .i64 (N : Int))).run Tryd.prog w = .ok (.slice (some ⟨w.heap.size, 0, none⟩) N N) wb ∧
    BoolsAt wb w.heap.size N (fun _ => false) ∧ Below w.heap.size w wb ∧ wb.heap.size = w.heap.size + 1 := by
  obtain ⟨i0, hi, hz0, hz1, hz2⟩ := info_parts bool_info
  have hr := run_make (P := Tryd.prog) w 60 4 i0 (.bool false) Tryd.underlying60 hi hz0 .i64 .i64 (N : Int) (N : Int) (by omega) (by omega) (by rw [hz2]; omega) (by omega)
  rw [hz1] at hr
  simp only [Int.toNat_natCast, Nat.mul_one] at hr
  refine ⟨_, hr, ⟨_, heap_alloc_new _ _, size_madeCells _ _, fun j hj => ?_⟩, (Below.refl _ _).alloc (Nat.le_refl _) _, by simp⟩
  simp [madeCells, Value.cells, hj, Nat.mod_one]

theorem OwnStrs.at_ {w : World} {base : Nat} {v : Value} {l : List (List UInt8)} (h : OwnStrs w base v l) : ∃ A c, v = .slice A l.length c ∧ ∀ k, k < l.length → ∃ g, A = some ⟨g, 0, none⟩ ∧ g < w.heap.size ∧ w.cell? ⟨g, k, none⟩ = some (.string ⟨(l.getD k []).toArray⟩) := by
  rcases h.2 with ⟨rfl, hn⟩ | ⟨g, cap, cur, rfl, hb, hh, h1, h2, h3, h4⟩
  · exact ⟨none, 0, by rw [hn], fun k h => by omega⟩
  · refine ⟨_, cap, rfl, fun k hk => ⟨g, rfl, (Array.getElem?_eq_some_iff.1 hh).1, ?_⟩⟩
    have hc := h.cells (g := g) rfl
    have hadd : ∀ j, (⟨g, 0, none⟩ : Addr).add j = ⟨g, j, none⟩ := fun j => by unfold Addr.add; split <;> simp_all
    rw [← hadd]
    exact hc _ _ (by simp [strCells, hk])
theorem OwnStrs.bl {w : World} {base n c g : Nat} {l : List (List UInt8)} (h : OwnStrs w base (.slice (some ⟨g, 0, none⟩) n c) l) : base ≤ g := (h.lt g rfl).1

theorem cov_step (pts : List (Int × Int)) (f j i : Nat) (hf : f ≤ j) : (if i = j then true else inS (pts ++ [((f : Int), (j : Int))]) i) = inS (pts ++ [((f : Int), ((j + 1 : Nat) : Int))]) i := by
  rw [inS_append, inS_append, inS_one, inS_one]
  by_cases h : i = j
  · subst h
    simp [hf]
  · rw [if_neg h]
    congr 1
    apply decide_eq_decide.2
    omega
theorem cov_start (pts : List (Int × Int)) (f i : Nat) : inS pts i = inS (pts ++ [((f : Int), (f : Int))]) i := by
  rw [inS_append, inS_one]
  have : decide (f ≤ i ∧ i < f) = false := by simp
  rw [this, Bool.or_false]

def LeaksPost (w : World) (L : List UInt8) (l : List (Int × Int)) (e : Ending) (w' : World) : Prop :=
  ∃ v, e = .returned (.tuple #[v, .int .i64 0]) ∧ OwnSpans w' w.heap.size v (leaksL L (pointsL L l)) ∧ Below w.heap.size w w'

set_option maxHeartbeats 3200000 in
set_option maxRecDepth 100000 in
theorem leaks_any (s : ByteArray) (A : Option Addr) (n c : Nat) (l : List (Int × Int)) (w : World) (h : SpansAt w A n l) (hR : Right s.size (-1) l) (hn : n ≤ 1000) (hs : s.size ≤ 500) (ht : textB s.data.toList = true) (hT : Tabs w) :
    Calls Tryd.prog 16 #[.string s, .slice A n c] w (LeaksPost w s.data.toList l) := by
  obtain ⟨i0, hi, hz0, hz1, hz2⟩ := info_parts span_info
  have hlen : s.data.toList.length = s.size := by simp
  have HLEN := Lib.hid hlen; clear hlen
  have hmm := @run_makeMap Tryd.prog
  go_enter Tryd.func16, Tryd.ntmps16
  go_wp2_with fail
  refine (textError_any s A n c l w h hR hn (by omega) ht hT).mono ?_
  rintro e w1 ⟨rfl, hb1⟩
  have h1 := h.keep hb1
  obtain ⟨wb, hrun, hbo, hbb, hszb⟩ := make_bools w1 s.size (by omega)
  have HZ := Lib.hid hszb; clear hszb
  go_wp2_with fail
  clear hrun hmm
  have hset := set_made wb
  have hbm : Below wb.heap.size wb (wb.alloc (.map #[] 0)) := (Below.refl _ _).alloc (Nat.le_refl _) _
  have hbo2 := hbo.below hbm
  have h2 := (h1.keep hbb).keep hbm
  have hbw2 : Below w.heap.size w (wb.alloc (.map #[] 0)) := (hb1.trans (hbb.mono hb1.size)).trans (hbm.mono (Nat.le_trans hb1.size hbb.size))
  have HZ2 : Hid ((wb.alloc (.map #[] 0)).heap.size = wb.heap.size + 1) := by show _ = _; simp
  generalize wb.alloc (.map #[] 0) = w2 at *
  clear hbm h h1
  refine (points_any s A n c l w2 h2 hR hn (by omega)).mono ?_
  rintro e w3 ⟨v, rfl, hown, hb3⟩
  obtain ⟨A3, c3, rfl, hsp⟩ := hown.at_
  have hlp : (pointsL s.data.toList l).length = n := by have := h2.1; simp [pointsL]; omega
  rw [hlp] at hsp ⊢
  have HLP := Lib.hid hlp; clear hlp hsp
  have hbo3 := hbo2.below hb3
  have hset3 : OwnSet w3 wb.heap.size [] := hset.kept (row := none) ⟨hb3.os, hb3.tape, hb3.output, hb3.size, fun i hi _ => hb3.block i hi⟩ (by simp)
  have hbw3 : Below w.heap.size w w3 := hbw2.trans (hb3.mono hbw2.size)
  have HO : Hid (OwnSpans w3 w2.heap.size (.slice A3 n c3) (pointsL s.data.toList l)) := by rw [← HLP.out]; exact hown
  clear hown hset hbo hbo2
  have HPN := Lib.hid (fun k (hk : k < n) => points_nat s.data.toList l k (by have := h2.1; omega) (by rw [HLEN.out]; exact hR))
  generalize hpts : pointsL s.data.toList l = pts at *
  have HPTS := Lib.hid hpts; clear hpts
  clear h2 hR
  have hG1 : w1.heap.size < w2.heap.size := by have := HZ.out; have := HZ2.out; omega
  have hG2 : wb.heap.size < w2.heap.size := by have := HZ2.out; omega
  have hG3 : w1.heap.size ≠ wb.heap.size := by have := HZ.out; omega
  have hGw : w.heap.size ≤ w1.heap.size := hb1.size
  have hMw : w.heap.size ≤ wb.heap.size := by have := HZ.out; omega
  clear hb1 hbb hbw2 hb3
  generalize w1.heap.size = G at *
  generalize wb.heap.size = M at *
  generalize w2.heap.size = B2 at *
  clear w1 wb w2
  go_wp2_with fail
  go_loopg [32] n (fun gk i wr => ∃ k : Nat, k + gk = n ∧ i = .int .i64 k ∧ BoolsAt wr G s.size (inS (pts.take k)) ∧ OwnSet wr M (secretL s.data.toList (pts.take k)) ∧ OwnSpans wr B2 (.slice A3 n c3) pts ∧ (secretL s.data.toList (pts.take k)).length ≤ 600 * k ∧ Below w.heap.size w wr)
  case atStart => exact ⟨0, by omega, rfl, hbo3, hset3, HO.out, by simp [secretL], hbw3⟩
  case round =>
    obtain ⟨k, hk, rfl, hbr, hsr, hor, hsl, hb⟩ := hrel
    have HK := Lib.hid hk; clear hk
    have hkn : k ≤ n := by have := HK.out; omega
    clear hbo3 hset3 HO hbw3
    by_cases hlt : k < n
    · obtain ⟨f, t, hft, hf1, hf2⟩ := HPN.out k hlt
      have hf2 : t ≤ s.size := by have := HLEN.out; omega
      obtain ⟨g, rfl, hg1, hg2, c1, c2⟩ := hor.cells_ k (by have := HLP.out; omega)
      rw [hft] at c1 c2
      have HFT := Lib.hid hft; clear hft
      have HOR := Lib.hid hor; clear hor
      have HBR := Lib.hid hbr; clear hbr
      have HSR := Lib.hid hsr; clear hsr
      obtain ⟨wo, rfl⟩ : ∃ wo : World, wo = wr := ⟨_, rfl⟩
      obtain ⟨ko, rfl⟩ : ∃ ko : Nat, ko = gk := ⟨_, rfl⟩
      go_wp2_with fail
      clear c1 c2
      have hal : wo.grownBy (wo.alloc (.cells #[.int .i64 (f : Int), .int .i64 (t : Int)] 38)) none := World.grownBy_alloc _ _ _
      have hst : (wo.alloc (.cells #[.int .i64 (f : Int), .int .i64 (t : Int)] 38)).heap[wo.heap.size]? = some (.cells #[.int .i64 (f : Int), .int .i64 (t : Int)] 38 (0, 0)) := heap_alloc_new _ _
      have hbs : Below w.heap.size w (wo.alloc (.cells #[.int .i64 (f : Int), .int .i64 (t : Int)] 38)) := hb.alloc hb.size _
      have HS := Lib.hid hst; clear hst
      have hGo : G < wo.heap.size := HBR.out.lt
      have hMo : M < wo.heap.size := HSR.out.lt
      generalize hsec : secretL s.data.toList (pts.take k) = S0 at *
      have HSEC := Lib.hid hsec; clear hsec
      go_loopg [11] (t - f) (fun gk i wx => ∃ j : Nat, f ≤ j ∧ j + gk = t ∧ i = .int .i64 j ∧ BoolsAt wx G s.size (inS (pts.take k ++ [((f : Int), (j : Int))])) ∧ OwnSet wx M S0 ∧ OwnSpans wx B2 (.slice (some ⟨g, 0, none⟩) n c3) pts ∧ Below w.heap.size w wx ∧ Hid (wx.heap[wo.heap.size]? = some (.cells #[.int .i64 (f : Int), .int .i64 (t : Int)] 38 (0, 0))))
      case atStart => exact ⟨f, by omega, by omega, rfl, (HBR.out.grown hal (by simp)).ext (fun j _ => cov_start _ _ _), HSR.out.alloc _, HOR.out.alloc _, hbs, HS⟩
      case round =>
        obtain ⟨j, hj1, hj2, rfl, hbx, hsx, hox, hbelx, hstx⟩ := hrel
        clear hal hbs HS
        have HJ := Lib.hid hj2; clear hj2
        have hjt : j ≤ t := by have := HJ.out; omega
        have ct : wr.cell? ⟨wo.heap.size, 1, none⟩ = some (.int .i64 (t : Int)) := by rw [cell_of_row wr _ 1 _ _ _ hstx.out]; rfl
        have cf : wr.cell? ⟨wo.heap.size, 0, none⟩ = some (.int .i64 (f : Int)) := by rw [cell_of_row wr _ 0 _ _ _ hstx.out]; rfl
        have HBX := Lib.hid hbx; clear hbx
        have HSX := Lib.hid hsx; clear hsx
        have HOX := Lib.hid hox; clear hox
        by_cases hjl : j < t
        · have cj := HBX.out.cell j (by omega)
          have fj := HBX.out.frozen j
          have hjs : (j : Int) < (s.size : Int) := by omega
          go_wp2_with fail
          go_roundg (gk - 1)
          case measure => have := HJ.out; omega
          case rel => exact ⟨j + 1, by omega, by have := HJ.out; omega, by go_num, (HBX.out.set j (by omega) true).ext (fun i _ => cov_step _ _ _ _ hj1), HSX.out.kept (grown_setCell _ _ _ _) (by simp; omega), own_stream HOX.out hG1 (grown_setCell _ _ _ _), hbelx.setCell hGw _, (Below.heap_setCell _ _ _ _ (by simp; omega)).trans hstx.out⟩
        · have hjt2 : j = t := by omega
          subst hjt2
          go_wp2_with fail
          clear ct cf
          refine (words_any (s.extract f j) wr (by rw [ByteArray.size_extract]; omega)).mono ?_
          rintro e w5 ⟨v5, rfl, how5, hb5⟩
          rw [extract_list] at how5
          have hg5 : wr.grownBy w5 none := ⟨hb5.os, hb5.tape, hb5.output, hb5.size, fun i hi _ => hb5.block i hi⟩
          have HB5 := Lib.hid (HBX.out.below hb5)
          have HS5 : Hid (OwnSet w5 M S0) := HSX.out.kept hg5 (by simp)
          have HO5 : Hid (OwnSpans w5 B2 (.slice (some ⟨g, 0, none⟩) n c3) pts) := HOX.out.kept hg5 (by
            cases hv : (Value.slice (some ⟨g, 0, none⟩) n c3).ownBlock with
            | none => exact .inl rfl
            | some k => exact .inr (fun he => by cases he))
          have hMr : M < wr.heap.size := HSX.out.lt
          have hbel5 : Below w.heap.size w w5 := hbelx.trans (hb5.mono hbelx.size)
          have HWL : Hid ((wordsL (cutL s.data.toList f j)).length ≤ 501) := by
            show _ ≤ _
            have a := wordsL_length (cutL s.data.toList f j)
            have b := cutL_length s.data.toList f j
            have := HLEN.out
            omega
          have HWC : Hid (∀ q, q < (wordsL (cutL s.data.toList f j)).length → ((wordsL (cutL s.data.toList f j)).getD q []).length ≤ 20000) := by
            intro q hq
            have hq' : (wordsL (cutL s.data.toList f j)).getD q [] ∈ wordsL (cutL s.data.toList f j) := by simp [hq]
            generalize (wordsL (cutL s.data.toList f j)).getD q [] = x at hq'
            unfold wordsL wordsTo at hq'
            obtain ⟨y, _, rfl⟩ := List.mem_map.1 hq'
            have b := cutL_length (cutL s.data.toList f j) y.1 y.2
            have c := cutL_length s.data.toList f j
            have := HLEN.out
            rw [lowL, List.length_map]
            omega
          have hnext : secretL s.data.toList (pts.take (k + 1)) = S0 ++ wordsL (cutL s.data.toList f j) := by
            rw [take_snoc_getD pts (0, 0) k (by have := HLP.out; omega), HFT.out, secretL_snoc, HSEC.out]
            rfl
          have hcov : pts.take k ++ [((f : Int), (j : Int))] = pts.take (k + 1) := by
            rw [take_snoc_getD pts (0, 0) k (by have := HLP.out; omega), HFT.out]
          have HNEXT := Lib.hid hnext; clear hnext
          rw [hcov] at HB5
          clear hcov
          generalize wordsL (cutL s.data.toList f j) = ws at *
          obtain ⟨A5, c5, rfl, _⟩ := how5.at_
          have HW5 := Lib.hid how5; clear how5
          generalize hm : ws.length = m at *
          have HMN := Lib.hid hm; clear hm
          have hm5 : m ≤ 501 := HWL.out
          obtain ⟨k2, rfl⟩ : ∃ k2 : Nat, k2 = gk := ⟨_, rfl⟩
          obtain ⟨wp, rfl⟩ : ∃ wp : World, wp = wr := ⟨_, rfl⟩
          go_wp2_with fail
          go_loopg [55] m (fun gk i wx => ∃ q : Nat, q + gk = m ∧ i = .int .i64 q ∧ BoolsAt wx G s.size (inS (pts.take (k + 1))) ∧ OwnSet wx M (S0 ++ ws.take q) ∧ OwnSpans wx B2 (.slice (some ⟨g, 0, none⟩) n c3) pts ∧ OwnStrs wx wp.heap.size (.slice A5 m c5) ws ∧ Below w.heap.size w wx)
          case atStart => exact ⟨0, by omega, rfl, HB5.out, by rw [List.take_zero, List.append_nil]; exact HS5.out, HO5.out, HW5.out, hbel5⟩
          case round =>
            obtain ⟨q, hq, rfl, hby, hsy, hoy, hwy, hbely⟩ := hrel
            have HQ := Lib.hid hq; clear hq
            have hqm : q ≤ m := by have := HQ.out; omega
            clear HB5 HS5 HO5 hbel5
            have HBY := Lib.hid hby; clear hby
            have HOY := Lib.hid hoy; clear hoy
            by_cases hql : q < m
            · obtain ⟨A6, c6, hv6, hcl⟩ := hwy.at_
              injection hv6 with e1 e2 e3
              subst e1 e3
              clear e2
              obtain ⟨g5, rfl, hg5l, cq⟩ := hcl q (by have := HMN.out; omega)
              have hg5b := hwy.bl
              have hxl := HWC.out q hql
              have htk : ws.take (q + 1) = ws.take q ++ [ws.getD q []] := take_snoc_getD ws [] q (by have := HMN.out; omega)
              have HTK := Lib.hid htk; clear htk hcl
              generalize ws.getD q [] = x at *
              have hkey : keyOf Tryd.prog 9 (.string ⟨x.toArray⟩) = some (.string x) := WideMaps.keyOf_string_mk Tryd.underlying9 (by show x.toArray.size ≤ _; simp only [List.size_toArray, maxLen]; omega)
              have HWY := Lib.hid hwy; clear hwy
              have HSY := Lib.hid hsy; clear hsy
              have hcount : (S0 ++ ws.take q).length < maxLen := by simp only [List.length_append, List.length_take, maxLen]; omega
              have HCT := Lib.hid hcount; clear hcount
              go_wp2_with (at_mapUpdate; refine wpList_mapUpdate_own _ rfl _ _ _ 61 rfl 9 4 law9 Tryd.underlying61 (plainElem (H := Unit) Tryd.prog 4) M (S0 ++ ws.take q).length (setD (S0 ++ ws.take q)) rfl HSY.out HCT.out _ _ _ rfl rfl hkey _ [] (plainElem_bool Tryd.underlying4 true) ?_)
              intro w7 hown7 hgrow7
              go_wp2_with fail
              go_roundg (gk - 1)
              case measure => have := HQ.out; omega
              case rel => exact ⟨q + 1, by have := HQ.out; omega, by go_num, HBY.out.grown hgrow7 (by simp; omega), by unfold OwnSet; rw [HTK.out, ← List.append_assoc, setD_snoc, List.length_append, List.length_append, List.length_take]; exact hown7, own_stream HOY.out hG2 hgrow7, own_stream HWY.out hMr hgrow7, hbely.grown hgrow7 hbely.size (fun i hi => by cases hi; exact hMw)⟩
            · have hall : ws.take q = ws := List.take_of_length_le (by have := HMN.out; omega)
              rw [hall, ← HNEXT.out] at hsy
              clear hall
              have hsl2 : (secretL s.data.toList (pts.take (k + 1))).length ≤ 600 * (k + 1) := by
                rw [HNEXT.out, List.length_append]
                have := HMN.out
                omega
              have HSY := Lib.hid hsy; clear hsy
              have HSL2 := Lib.hid hsl2; clear hsl2
              go_wp2_with fail
              go_roundg (ko - 1)
              case measure => have := HK.out; omega
              case rel => exact ⟨k + 1, by have := HK.out; omega, by go_num, HBY.out, HSY.out, HOY.out, HSL2.out, hbely⟩
    · have hall : pts.take k = pts := List.take_of_length_le (by have := HLP.out; omega)
      rw [hall] at hbr hsr
      clear hall hor hsl
      have HBR := Lib.hid hbr; clear hbr
      have HSR := Lib.hid hsr; clear hsr
      obtain ⟨w4, rfl⟩ : ∃ w4 : World, w4 = wr := ⟨_, rfl⟩
      obtain ⟨k1, rfl⟩ : ∃ k1 : Nat, k1 = k := ⟨_, rfl⟩
      have hsz4 := hb.size
      go_wp2_with fail
      go_loopg [14, 15, 16] (s.size + 1) (fun gk v fr i wr => ∃ k : Nat, k + gk = s.size + 1 ∧ i = .int .i64 k ∧ fr = .int .i64 (fromI (scan s.data.toList k).1) ∧ OwnSpans wr w4.heap.size v (leaksTo s.data.toList pts k) ∧ Below w4.heap.size w4 wr)
      case atStart => exact ⟨0, by omega, rfl, rfl, World.ownsRow_nil _ _ _ _, Below.refl _ _⟩
      case round =>
        obtain ⟨k, hk, rfl, rfl, hown, hb4⟩ := hrel
        have HK4 := Lib.hid hk; clear hk
        have hkn4 : k ≤ s.size + 1 := by have := HK4.out; omega
        have HO := Lib.hid hown; clear hown
        by_cases hlt4 : k ≤ s.size
        · go_upto_region 24 with (fail)
          go_cut [17] (fun v wx => v = .bool (letAt s.data.toList k) ∧ wx = wr)
          case first =>
            by_cases h0 : k < s.size
            · have HC := Lib.hid (letAt_byte s k h0)
              go_wp2_with fail
              refine (privLetter_any _ _).mono ?_
              rintro e w' ⟨rfl, rfl⟩
              go_wp2_with fail
              go_meet
              exact ⟨congrArg Value.bool HC.out.symm, rfl⟩
            · have hm : letAt s.data.toList k = false := by
                cases hm : letAt s.data.toList k
                · rfl
                · have := letAt_lt hm; have := HLEN.out; omega
              go_wp2_with fail
              go_meet
              exact ⟨congrArg Value.bool hm.symm, rfl⟩
          case rest =>
            obtain ⟨rfl, rfl⟩ := hcut
            have hwl : (leaksTo s.data.toList pts k).length ≤ k := leaksTo_length _ _ _
            have HSC : Hid (scan s.data.toList (k + 1) = scanStep (letAt s.data.toList k) k (scan s.data.toList k)) := rfl
            have HSF := Lib.hid (fun f h => scan_from s.data.toList k f h)
            have HW0 : Hid (leaksTo s.data.toList pts k = ((scan s.data.toList k).2.filter (leakB s.data.toList pts)).map fun x => ((x.1 : Int), (x.2 : Int))) := rfl
            have HW1 : Hid (leaksTo s.data.toList pts (k + 1) = ((scan s.data.toList (k + 1)).2.filter (leakB s.data.toList pts)).map fun x => ((x.1 : Int), (x.2 : Int))) := rfl
            generalize leaksTo s.data.toList pts k = W0 at *
            generalize hsc : scan s.data.toList k = sc at *
            have HSCK := Lib.hid hsc; clear hsc
            obtain ⟨o, out⟩ := sc
            generalize hin : letAt s.data.toList k = b at *
            have HIN := Lib.hid hin; clear hin
            cases b
            · cases o with
              | none =>
                have hf0 : fromI (none, out).1 = -1 := rfl
                have hnx : leaksTo s.data.toList pts (k + 1) = W0 := by rw [HW1.out, HSC.out, HW0.out]; rfl
                have hny : fromI (scan s.data.toList (k + 1)).1 = -1 := by rw [HSC.out]; rfl
                have HNX := Lib.hid hnx; clear hnx
                have HNY := Lib.hid hny; clear hny
                rw [hf0]
                go_wp2_with fail
                go_roundg (gk - 1)
                case measure => have := HK4.out; omega
                case rel => exact ⟨k + 1, by have := HK4.out; omega, by go_num, by rw [HNY.out], by rw [HNX.out]; exact HO.out, hb4⟩
              | some f =>
                have hf0 : fromI (some f, out).1 = (f : Int) := rfl
                obtain ⟨hfk, _⟩ := HSF.out f rfl
                have hny : fromI (scan s.data.toList (k + 1)).1 = -1 := by rw [HSC.out]; rfl
                have HNY := Lib.hid hny; clear hny
                rw [hf0]
                go_upto_region 28 with (fail)
                go_cut [111] (fun v wx => v = .bool (leakB s.data.toList pts (f, k)) ∧ Below wc.heap.size wc wx)
                case first =>
                  have HLB : Hid (leakB s.data.toList pts (f, k) = (decide (4 ≤ k - f) && (!anyIn (inS pts) f k) && decide (lowL (cutL s.data.toList f k) ∈ secretL s.data.toList pts))) := rfl
                  by_cases h4 : (4 : Int) ≤ (k : Int) - (f : Int)
                  · have HB4 := Lib.hid (HBR.out.below hb4)
                    have hkf : ((k : Int) - (f : Int)).toNat = k - f := by omega
                    go_wp2_with fail
                    refine (contains_bools G s.size f k _ (inS pts) wc HB4.out (by omega) (by omega) (by omega)).mono ?_
                    rintro e w' ⟨rfl, rfl⟩
                    have h4n : decide (4 ≤ k - f) = true := by simp; omega
                    have H4N := Lib.hid h4n; clear h4n
                    generalize anyIn (inS pts) f k = b1 at *
                    cases b1
                    · go_wp2_with fail
                      refine (lower_any (s.extract f k) wc (by rw [ByteArray.size_extract]; omega)).mono ?_
                      rintro e w6 ⟨rfl, hb6⟩
                      rw [extract_list]
                      have HWD : Hid ((cutL s.data.toList f k).map lowB = lowL (cutL s.data.toList f k)) := rfl
                      rw [HWD.out]
                      have hb46 : Below w4.heap.size w4 w6 := hb4.trans (hb6.mono hb4.size)
                      have hset6 : OwnSet w6 M (secretL s.data.toList pts) := HSR.out.kept (row := none) ⟨hb46.os, hb46.tape, hb46.output, hb46.size, fun i hi _ => hb46.block i hi⟩ (by simp)
                      have hlook := set_look hset6 (lowL (cutL s.data.toList f k)) (by
                        have b := cutL_length s.data.toList f k
                        have := HLEN.out
                        rw [lowL, List.length_map]
                        omega)
                      clear hset6 hb46 HWD
                      generalize lowL (cutL s.data.toList f k) = x at *
                      generalize decide (x ∈ secretL s.data.toList pts) = b2 at *
                      go_wp2_with fail
                      go_meet
                      exact ⟨congrArg Value.bool (by rw [HLB.out, H4N.out]; simp), hb6⟩
                    · go_wp2_with fail
                      go_meet
                      exact ⟨congrArg Value.bool (by rw [HLB.out]; simp), Below.refl _ _⟩
                  · have h4n : decide (4 ≤ k - f) = false := by simp; omega
                    have H4N := Lib.hid h4n; clear h4n
                    go_wp2_with fail
                    go_meet
                    exact ⟨congrArg Value.bool (by rw [HLB.out, H4N.out]; rfl), Below.refl _ _⟩
                case rest =>
                  obtain ⟨rfl, hbx⟩ := hcut
                  have hb5 : Below w4.heap.size w4 wc := hb4.trans (hbx.mono hb4.size)
                  have hown5 : OwnSpans wc w4.heap.size u14 W0 := HO.out.kept (row := none) ⟨hbx.os, hbx.tape, hbx.output, hbx.size, fun i hi _ => hbx.block i hi⟩ (by
                    cases hv : u14.ownBlock with
                    | none => exact .inl rfl
                    | some k => exact .inr (fun he => by cases he))
                  have HO5 := Lib.hid hown5; clear hown5
                  cases hlk : leakB s.data.toList pts (f, k)
                  · have hnx : leaksTo s.data.toList pts (k + 1) = W0 := by rw [HW1.out, HSC.out, HW0.out]; simp [scanStep, hlk]
                    have HNX := Lib.hid hnx; clear hnx hlk
                    go_wp2_with fail
                    go_roundg (gk - 1)
                    case measure => have := HK4.out; omega
                    case rel => exact ⟨k + 1, by have := HK4.out; omega, by go_num, by rw [HNY.out], by rw [HNX.out]; exact HO5.out, hb5⟩
                  · have hnx : leaksTo s.data.toList pts (k + 1) = W0 ++ [((f : Int), (k : Int))] := by rw [HW1.out, HSC.out, HW0.out]; simp [scanStep, hlk]
                    have HNX := Lib.hid hnx; clear hnx hlk
                    have hsz5 := hb5.size
                    go_wp2_with (at_builtin; refine wpList_append_own _ rfl _ _ 30 rfl w4.heap.size 38 i0 _ 2 16 Tryd.underlying30 hi hz0 hz1 hz2 rfl (by decide) _ _ _ rfl (HO5.out.alloc _) ⟨wc.heap.size, 0, none⟩ 1 1 (spanCells [((f : Int), (k : Int))]) rfl rfl ?c1 ?c2 ?c3 ?c4 ?c5 ?_)
                    case c1 => exact fun _ _ h => h
                    case c2 => exact spanCells_one _
                    case c3 => simp only [maxLen]; omega
                    case c4 => omega
                    case c5 => omega
                    intro v' w7 hown7 hgrow7 _
                    have hb6 := hb5.alloc hb5.size (.cells #[.int .i64 (f : Int), .int .i64 (k : Int)] 38)
                    have hb7 : Below w4.heap.size w4 w7 := hb6.grown hgrow7 hb6.size (fun i hi => (HO5.out.lt i hi).1)
                    rw [← spanCells_append] at hown7
                    go_wp2_with fail
                    go_roundg (gk - 1)
                    case measure => have := HK4.out; omega
                    case rel => exact ⟨k + 1, by have := HK4.out; omega, by go_num, by rw [HNY.out], by unfold OwnSpans; rw [HNX.out, List.length_append]; exact hown7, hb7⟩
            · cases o with
              | none =>
                have hf0 : fromI (none, out).1 = -1 := rfl
                have hnx : leaksTo s.data.toList pts (k + 1) = W0 := by rw [HW1.out, HSC.out, HW0.out]; rfl
                have hny : fromI (scan s.data.toList (k + 1)).1 = (k : Int) := by rw [HSC.out]; rfl
                have HNX := Lib.hid hnx; clear hnx
                have HNY := Lib.hid hny; clear hny
                rw [hf0]
                go_wp2_with fail
                go_roundg (gk - 1)
                case measure => have := HK4.out; omega
                case rel => exact ⟨k + 1, by have := HK4.out; omega, by go_num, by rw [HNY.out], by rw [HNX.out]; exact HO.out, hb4⟩
              | some f =>
                have hf0 : fromI (some f, out).1 = (f : Int) := rfl
                have hnx : leaksTo s.data.toList pts (k + 1) = W0 := by rw [HW1.out, HSC.out, HW0.out]; rfl
                have hny : fromI (scan s.data.toList (k + 1)).1 = (f : Int) := by rw [HSC.out]; rfl
                have HNX := Lib.hid hnx; clear hnx
                have HNY := Lib.hid hny; clear hny
                rw [hf0]
                go_wp2_with fail
                go_roundg (gk - 1)
                case measure => have := HK4.out; omega
                case rel => exact ⟨k + 1, by have := HK4.out; omega, by go_num, by rw [HNY.out], by rw [HNX.out]; exact HO.out, hb4⟩
        · obtain rfl : k = s.size + 1 := by omega
          have hw := HO.out
          have hwe : leaksTo s.data.toList pts (s.size + 1) = leaksL s.data.toList (pointsL s.data.toList l) := by rw [leaksL, HLEN.out, HPTS.out]
          have hwl : (leaksL s.data.toList (pointsL s.data.toList l)).length ≤ s.size + 1 := by rw [← hwe]; exact leaksTo_length _ _ _
          rw [hwe] at hw
          clear hwe
          generalize hlk : leaksL s.data.toList (pointsL s.data.toList l) = lk at *
          have HLK := Lib.hid hlk; clear hlk
          obtain ⟨A9, c9, rfl, _, _, _⟩ := hw.atc
          have HW := Lib.hid hw; clear hw
          generalize hm : lk.length = m at *
          have HMM := Lib.hid hm; clear hm
          go_wp2_with fail
          refine (few_any A9 m c9 wr (by omega)).mono ?_
          rintro e w' ⟨rfl, rfl⟩
          go_wp2_with fail
          go_ret2
          exact ⟨_, rfl, by rw [HLK.out]; exact HW.out.mono hsz4, hb.trans (hb4.mono hsz4)⟩

end Go.Proofs.YtldngebikgendaaDoor
