/-
  What Widen returns.
-/
import Derived.Test.YtldngebikgendaaDoorLetter
import Derived.Test.YtldngebikgendaaDoorWidenPlain
import Derived.Test.YtldngebikgendaaDoorUnion
namespace Go.Proofs.YtldngebikgendaaDoor
open Go.RowKit

theorem letAt_byte (s : ByteArray) (i : Nat) (h : i < s.size) : letAt s.data.toList i = letB (s[i].toNat : Int) := by
  have hd : i < s.data.toList.length := by simpa using h
  rw [letAt, decide_eq_true hd, Bool.true_and, getD_byte s i h]

set_option maxHeartbeats 3200000 in
set_option maxRecDepth 100000 in
theorem widen_any (s : ByteArray) (A : Option Addr) (n c : Nat) (l : List (Int × Int)) (w : World) (h : SpansAt w A n l) (hR : Right s.size (-1) l) (hn : n ≤ 1000) (hs : s.size ≤ 20000) (ht : textB s.data.toList = true) (hT : Tabs w) :
    Calls Tryd.prog 15 #[.string s, .slice A n c] w (SpansPost w s.size n fun i => inS (widenL s.data.toList l) i) := by
  obtain ⟨i0, hi, hz0, hz1, hz2⟩ := info_parts span_info
  have HN := Lib.hid h.1
  have hlen : s.data.toList.length = s.size := by simp
  have HLEN := Lib.hid hlen; clear hlen
  go_enter Tryd.func15, Tryd.ntmps15
  go_wp2_with fail
  refine (textError_any s A n c l w h hR hn hs ht hT).mono ?_
  rintro e w1 ⟨rfl, hb1⟩
  have h1 := h.keep hb1
  clear h
  go_wp2_with fail
  go_loopg [7, 18] n (fun gk v i wr => ∃ k : Nat, k + gk = n ∧ i = .int .i64 k ∧ OwnSpans wr w1.heap.size v (widenL s.data.toList (l.take k)) ∧ Below w1.heap.size w1 wr)
  case atStart => exact ⟨0, by omega, rfl, World.ownsRow_nil _ _ _ _, Below.refl _ _⟩
  case round =>
    obtain ⟨k, hk, rfl, hown, hb⟩ := hrel
    have HK := Lib.hid hk; clear hk
    have hkn : k ≤ n := by have := HK.out; omega
    by_cases hlt : k < n
    · obtain ⟨g, rfl, hg, hcs⟩ := h1.2 (by omega)
      obtain ⟨f, t, hft, hf1, hf2⟩ := hR.nat k (by have := HN.out; omega)
      have hf2 : t ≤ s.size := by omega
      have c1 := (hb.cell (p := ⟨g, k * 2, none⟩) hg).trans (hcs k hlt).1
      have c2 := (hb.cell (p := ⟨g, k * 2 + 1, none⟩) hg).trans (hcs k hlt).2
      rw [hft] at c1 c2
      have HFT := Lib.hid hft; clear hft hcs
      have H := Lib.hid h1; clear h1
      have HO := Lib.hid hown; clear hown
      obtain ⟨wo, rfl⟩ : ∃ wo : World, wo = wr := ⟨_, rfl⟩
      obtain ⟨ko, rfl⟩ : ∃ ko : Nat, ko = gk := ⟨_, rfl⟩
      go_wp2_with fail
      clear c1 c2
      go_loopg [22] f (fun gk _ wx => ∃ f' : Nat, f' ≤ gk ∧ f' ≤ f ∧ Hid (wdn s.data.toList f' = wdn s.data.toList f) ∧ wx = wo.alloc (.cells #[.int .i64 f', .int .i64 t] 38))
      case atStart => exact ⟨f, by omega, by omega, rfl, rfl⟩
      case round =>
        obtain ⟨f', hf3, hf4, hf5, rfl⟩ := hrel
        go_upto_region 8 with (fail)
        go_cut [45] (fun v wx => v = .bool (mid s.data.toList f') ∧ wx = wo.alloc (.cells #[.int .i64 f', .int .i64 t] 38))
        case first =>
          by_cases h0 : 0 < f'
          · obtain ⟨p, rfl⟩ : ∃ p, f' = p + 1 := ⟨f' - 1, by omega⟩
            have hp1 : p < s.size := by omega
            have hp2 : p + 1 < s.size := by omega
            have HC : Hid (mid s.data.toList (p + 1) = ((letB (s[p].toNat : Int) && letB (s[p + 1].toNat : Int)) || insB s.data.toList (p + 1))) := by
              show _ = _
              rw [mid, decide_eq_true h0, Bool.true_and, Nat.add_sub_cancel, letAt_byte s p hp1, letAt_byte s (p + 1) hp2]
            have e1 : ((p + 1 : Nat) : Int) - 1 = (p : Int) := by omega
            go_wp2_with fail
            refine (privLetter_any _ _).mono ?_
            rintro e w' ⟨rfl, rfl⟩
            generalize letB (s[p].toNat : Int) = b1 at *
            cases b1
            · go_wp2_with fail
              refine (inside_any s (p + 1) _).mono ?_
              rintro e w' ⟨rfl, rfl⟩
              go_wp2_with fail
              go_meet
              exact ⟨congrArg Value.bool (by rw [HC.out]; rfl), rfl⟩
            · go_wp2_with fail
              refine (privLetter_any _ _).mono ?_
              rintro e w' ⟨rfl, rfl⟩
              generalize letB (s[p + 1].toNat : Int) = b2 at *
              cases b2
              · go_wp2_with fail
                refine (inside_any s (p + 1) _).mono ?_
                rintro e w' ⟨rfl, rfl⟩
                go_wp2_with fail
                go_meet
                exact ⟨congrArg Value.bool (by rw [HC.out]; rfl), rfl⟩
              · go_wp2_with fail
                go_meet
                exact ⟨congrArg Value.bool (by rw [HC.out]; rfl), rfl⟩
          · go_wp2_with fail
            go_meet
            exact ⟨congrArg Value.bool (by simp [mid, h0]), rfl⟩
        case rest =>
          obtain ⟨rfl, rfl⟩ := hcut
          cases hins : mid s.data.toList f'
          · have HST := Lib.hid (wdn_stop hins)
            have HI := Lib.hid hins; clear hins
            go_wp2_with fail
            go_loopg [50] (s.size - t) (fun gk _ wx => ∃ t' : Nat, t' + gk = s.size ∧ t ≤ t' ∧ Hid (wup s.data.toList t' = wup s.data.toList t) ∧ wx = wo.alloc (.cells #[.int .i64 f', .int .i64 t'] 38))
            case atStart => exact ⟨t, by omega, by omega, rfl, rfl⟩
            case round =>
              obtain ⟨t', ht3, ht4, ht5, rfl⟩ := hrel
              have HT3 := Lib.hid ht3; clear ht3
              have htl : t' ≤ s.size := by have := HT3.out; omega
              go_upto_region 10 with (fail)
              go_cut [75] (fun v wx => v = .bool (mid s.data.toList t') ∧ wx = wo.alloc (.cells #[.int .i64 f', .int .i64 t'] 38))
              case first =>
                by_cases h0 : t' < s.size
                · obtain ⟨p, rfl⟩ : ∃ p, t' = p + 1 := ⟨t' - 1, by omega⟩
                  have hp1 : p < s.size := by omega
                  have HC : Hid (mid s.data.toList (p + 1) = ((letB (s[p].toNat : Int) && letB (s[p + 1].toNat : Int)) || insB s.data.toList (p + 1))) := by
                    show _ = _
                    rw [mid, decide_eq_true (Nat.succ_pos p), Bool.true_and, Nat.add_sub_cancel, letAt_byte s p hp1, letAt_byte s (p + 1) h0]
                  have e1 : ((p + 1 : Nat) : Int) - 1 = (p : Int) := by omega
                  go_wp2_with fail
                  refine (privLetter_any _ _).mono ?_
                  rintro e w' ⟨rfl, rfl⟩
                  generalize letB (s[p + 1].toNat : Int) = b1 at *
                  cases b1
                  · go_wp2_with fail
                    refine (inside_any s (p + 1) _).mono ?_
                    rintro e w' ⟨rfl, rfl⟩
                    go_wp2_with fail
                    go_meet
                    exact ⟨congrArg Value.bool (by rw [HC.out, Bool.and_false]; rfl), rfl⟩
                  · go_wp2_with fail
                    refine (privLetter_any _ _).mono ?_
                    rintro e w' ⟨rfl, rfl⟩
                    generalize letB (s[p].toNat : Int) = b2 at *
                    cases b2
                    · go_wp2_with fail
                      refine (inside_any s (p + 1) _).mono ?_
                      rintro e w' ⟨rfl, rfl⟩
                      go_wp2_with fail
                      go_meet
                      exact ⟨congrArg Value.bool (by rw [HC.out]; rfl), rfl⟩
                    · go_wp2_with fail
                      go_meet
                      exact ⟨congrArg Value.bool (by rw [HC.out]; rfl), rfl⟩
                · have hm : mid s.data.toList t' = false := by
                    cases hm : mid s.data.toList t'
                    · rfl
                    · have := mid_lt hm; have := HLEN.out; omega
                  go_wp2_with fail
                  go_meet
                  exact ⟨congrArg Value.bool hm.symm, rfl⟩
              case rest =>
                obtain ⟨rfl, rfl⟩ := hcut
                cases hin2 : mid s.data.toList t'
                · have HU := Lib.hid (wup_stop hin2); clear hin2
                  have hown1 := HO.out.alloc (.cells #[.int .i64 (f' : Int), .int .i64 (t' : Int)] 38)
                  have hb1 := hb.alloc hb.size (.cells #[.int .i64 (f' : Int), .int .i64 (t' : Int)] 38)
                  have hsz1 : w1.heap.size ≤ wo.heap.size := hb.size
                  have hlen : (widenL s.data.toList (l.take k)).length = k := by have := HN.out; simp [widenL]; omega
                  have HL := Lib.hid hlen; clear hlen
                  rw [HL.out] at hown1
                  have HO1 := Lib.hid hown1; clear hown1
                  go_wp2_with (at_builtin; refine wpList_append_own _ rfl _ _ 30 rfl w1.heap.size 38 i0 _ 2 16 Tryd.underlying30 hi hz0 hz1 hz2 rfl (by decide) _ _ _ rfl (HO1.out.alloc _) ⟨wo.heap.size + 1, 0, none⟩ 1 1 (spanCells [((f' : Int), (t' : Int))]) rfl rfl ?c1 ?c2 ?c3 ?c4 ?c5 ?_)
                  case c1 => exact fun j u hu => by have := cells_span (wo.alloc (.cells #[.int .i64 (f' : Int), .int .i64 (t' : Int)] 38)) ((f' : Int), (t' : Int)) 38 j u hu; simpa using this
                  case c2 => exact spanCells_one _
                  case c3 => simp only [maxLen]; omega
                  case c4 => omega
                  case c5 => simp; omega
                  intro v' w4 hown4 hgrow4 _
                  have hb4 : Below w1.heap.size w1 w4 := (hb1.alloc hb1.size _).grown hgrow4 (by simp; omega) (fun i hi => (HO1.out.lt i hi).1)
                  rw [← spanCells_append] at hown4
                  have hpt : widenL s.data.toList (l.take (k + 1)) = widenL s.data.toList (l.take k) ++ [((f' : Int), (t' : Int))] := by
                    rw [take_snoc_getD l (0, 0) k (by have := HN.out; omega), HFT.out]
                    simp only [widenL, List.map_append, List.map_cons, List.map_nil, Int.toNat_natCast]
                    have e1 := hf5.out
                    have e2 := ht5.out
                    rw [HST.out] at e1
                    rw [HU.out] at e2
                    rw [← e1, ← e2]
                  have HP := Lib.hid hpt; clear hpt
                  go_wp2_with fail
                  go_roundg (ko - 1)
                  case measure => have := HK.out; omega
                  case rel => exact ⟨k + 1, by have := HK.out; omega, by go_num, by unfold OwnSpans; rw [HP.out, List.length_append, HL.out]; exact hown4, hb4⟩
                · have HU := Lib.hid (wup_step hin2)
                  have hlt2 : t' < s.size := by have := mid_lt hin2; have := HLEN.out; omega
                  clear hin2
                  go_wp2_with fail
                  go_roundg (gk - 1)
                  case measure => have := HT3.out; omega
                  case rel => exact ⟨t' + 1, by have := HT3.out; omega, by omega, by have := ht5.out; rw [HU.out] at this; exact this, by congr⟩
          · have HI := Lib.hid hins; clear hins
            have hpos : 0 < f' := by have := HI.out; simp [mid] at this; exact this.1
            have hdn : wdn s.data.toList f' = wdn s.data.toList (f' - 1) := by
              obtain ⟨m, rfl⟩ : ∃ m, f' = m + 1 := ⟨f' - 1, by omega⟩
              exact wdn_step HI.out
            have HD := Lib.hid hdn; clear hdn
            go_wp2_with fail
            go_roundg (gk - 1)
            case measure => omega
            case rel => exact ⟨f' - 1, by omega, by omega, by rw [HD.out] at hf5; exact hf5, by congr; omega⟩
    · obtain rfl : k = n := by omega
      rw [List.take_of_length_le (by have := HN.out; omega)] at hown
      obtain ⟨C, c5, rfl, _, _, _⟩ := hown.atc
      have hmem := widenL_mem s.data.toList l (by rw [HLEN.out]; exact hR)
      have HM := Lib.hid hmem; clear hmem
      have hlw : (widenL s.data.toList l).length = k := by have := HN.out; simp [widenL]; omega
      have HLW := Lib.hid hlw; clear hlw
      rw [HLW.out] at hown ⊢
      have HO := Lib.hid hown; clear hown
      generalize hwd : widenL s.data.toList l = wd at *
      have HWD := Lib.hid hwd; clear hwd
      go_wp2_with fail
      refine (put_any w1.heap.size k c5 C wd wr (fun x hx => by have := HM.out x hx; have := HLEN.out; omega) HLW.out.symm (by omega) HO.out).mono ?_
      rintro e w6 ⟨v6, l', rfl, hperm, hsort, hown6, hg6⟩
      have hb5 : Below w.heap.size w wr := hb1.trans (hb.mono hb1.size)
      have hb6 : Below w.heap.size w w6 := hb5.grown hg6 hb5.size (fun i hi => Nat.le_trans hb1.size (HO.out.lt i hi).1)
      have hpr := putL_right (size := s.size) l' (fun x hx => by have := HM.out x (hperm.mem_iff.1 hx); have := HLEN.out; exact ⟨by omega, by omega, by omega⟩) hsort
      have hpl : (putL l').length ≤ k := Nat.le_trans (putL_length l') (by rw [hperm.length_eq, HLW.out]; exact Nat.le_refl _)
      have HO6 : Hid (OwnSpans w6 w.heap.size v6 (putL l')) := hown6.mono hb5.size
      have HP := Lib.hid hperm; clear hperm
      go_wp2_with fail
      go_ret2
      exact ⟨_, putL l', rfl, HO6.out, hpr.1, fun i => by rw [hpr.2 i, inS_perm HP.out i, ← HWD.out], hpl, hb6⟩

end Go.Proofs.YtldngebikgendaaDoor
