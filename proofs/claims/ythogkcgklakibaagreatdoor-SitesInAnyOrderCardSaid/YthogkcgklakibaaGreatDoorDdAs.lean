
/-
  matter.AsOf at right deeds: what a list was at a moment.
-/
import Derived.Test.YthogkcgklakibaaGreatDoorDdLow
import Derived.Test.YthogkcgklakibaaGreatDoorDdChkP
import Derived.Test.YthogkcgklakibaaGreatDoorDdUndo

namespace Go.Proofs.YthogkcgklakibaaGreatDoor
open Go.RowKit Go.Maps
attribute [local go_sem ↓] Go.wp_at_zero Go.wp_at_succ

theorem str_neD {x y : List UInt8} (h : x ≠ y) : (Lit.string x) ≠ .string y := fun e => h (by simpa using e)
theorem str_keyD (x : List UInt8) : WideAt.IsKeyLit (.string x) := by first | trivial | exact Or.inl trivial | simp [WideAt.IsKeyLit]
/-- Block M holds numbers by sites. -/
structure CutAt (w : World) (M m : Nat) (f : CutF) : Prop where
  ex : ∃ D : DataW Value, w.ownsMap Tryz.prog 9 heldE M m D ∧ (∀ s : List UInt8, D.atKey (.string s) (.held (.int .i64 0)) = .held (.int .i64 (f ⟨s.toArray⟩)))
theorem CutAt.start (w : World) : CutAt (w.alloc (.map #[] 0)) w.heap.size 0 (fun _ => 0) := ⟨⟨.map [], World.ownsMap_made w _ _ _, fun _ => rfl⟩⟩
theorem CutAt.below {w w' : World} {M m : Nat} {f : CutF} (h : CutAt w M m f) (hb : Below w.heap.size w w') : CutAt w' M m f := by
  obtain ⟨D, h1, h2⟩ := h.ex
  exact ⟨⟨D, h1.kept (below_grown hb none) (by simp), h2⟩⟩
theorem CutAt.lt {w : World} {M m : Nat} {f : CutF} (h : CutAt w M m f) : M < w.heap.size := by
  obtain ⟨D, h1, _⟩ := h.ex
  exact h1.lt
theorem CutAt.look {w : World} {M m : Nat} {f : CutF} (h : CutAt w M m f) (s : ByteArray) (hs : s.size ≤ 1000000) :
    (Instr.lookup 82 (.map (some M)) (.string s) false).run Tryz.prog w = .ok (.int .i64 (f s)) w := by
  obtain ⟨D, h1, h2⟩ := h.ex
  obtain ⟨v, ps, hrun, hv⟩ := h1.lookup keyS Tryz.underlying82 (z := .int .i64 0) (by kernel_rfl) (zd := .held (.int .i64 0)) (zp := []) rfl (keyS_mk s hs)
  rw [h2, mk_data] at hv
  simp only [heldE, Option.some.injEq, Prod.mk.injEq, DataW.held.injEq] at hv
  rw [hv.1] at hrun
  exact hrun
theorem CutAt.put {w w' : World} {M m : Nat} {f : CutF} {D : DataW Value} {s : ByteArray} {z : Int} (h1 : w.ownsMap Tryz.prog 9 heldE M m D) (h2 : ∀ s : List UInt8, D.atKey (.string s) (.held (.int .i64 0)) = .held (.int .i64 (f ⟨s.toArray⟩)))
    (hm : w'.ownsMap Tryz.prog 9 heldE M (m + 1) (D.put (.string s.data.toList) (.held (.int .i64 z)))) : CutAt w' M (m + 1) (cutS f s z) := by
  refine ⟨⟨_, hm, fun t => ?_⟩⟩
  by_cases e : t = s.data.toList
  · subst e
    rw [atKey_put_same h1.isMap (str_keyD _), mk_data, cutS_self]
  · have hne : (⟨t.toArray⟩ : ByteArray) ≠ s := fun h => e (by rw [← h])
    rw [atKey_put_other (str_neD e), h2, cutS_ne _ _ hne]
/-- Block V is the variable that holds the map M. -/
abbrev VarM (w : World) (V M : Nat) : Prop := w.heap[V]? = some (.cells #[.map (some M)] 82 (0, 0))
theorem VarM.keep {w w' : World} {V M : Nat} (h : VarM w V M) (hb : Below w.heap.size w w') : VarM w' V M := (hb.block V (Array.getElem?_eq_some_iff.1 h).1).trans h
theorem VarM.c {w : World} {V M : Nat} (h : VarM w V M) : w.cell? ⟨V, 0, none⟩ = some (.map (some M)) := by rw [cell_of_row w V _ _ _ _ h]; rfl
theorem VarM.but {w w' : World} {V M : Nat} (h : VarM w V M) (hM : M < w.heap.size → V ≠ M) (hm : M < w.heap.size) (hg : w.grownBy w' (some M)) : VarM w' V M := (hg.block V (Array.getElem?_eq_some_iff.1 h).1 (fun e => hM hm (Option.some.inj e))).trans h
set_option maxHeartbeats 1600000 in
set_option maxRecDepth 100000 in
theorem there_any (V M m : Nat) (f : CutF) (s : ByteArray) (z : Int) (w : World) (hV : VarM w V M) (hC : CutAt w M m f) (hs : s.size ≤ 1000000) :
    Calls Tryz.prog 41 #[.agg #[.string s, .int .i64 z], .pointer (some ⟨V, 0, none⟩)] w (BoolPost w (thereS f s z)) := by
  have hal : Below w.heap.size w (w.alloc (.cells #[.string s, .int .i64 z] 36)) := (Below.refl _ _).alloc (Nat.le_refl _) _
  have HS1 : Hid (StB (w.alloc (.cells #[.string s, .int .i64 z] 36)) w.heap.size s z) := heap_alloc_new w _
  have HV1 := Lib.hid (hV.keep hal)
  have HC1 := Lib.hid (hC.below hal)
  have HB1 := Lib.hid hal
  have HT : Hid (thereS f s z = (decide (f s = 0) || decide (z < f s))) := rfl
  clear hal hV hC
  go_enter Tryz.func41, Tryz.ntmps41
  go_upto_region 1 with (fail)
  obtain ⟨P, hP⟩ : ∃ P, P = w.heap.size := ⟨_, rfl⟩
  rw [← hP] at HS1 ⊢
  generalize w.alloc (.cells #[.string s, .int .i64 z] 36) = w1 at *
  clear hP
  obtain ⟨a0, a1⟩ := HS1.out.c
  have hv0 := HV1.out.c
  have hlook := HC1.out.look s hs
  obtain ⟨q, hq⟩ : ∃ q, q = f s := ⟨_, rfl⟩
  rw [← hq] at hlook HT
  clear hq
  by_cases h0 : q = 0
  · subst h0
    go_wp2_with fail
    go_ret
    exact ⟨by rw [HT.out]; rfl, HB1.out⟩
  · have h0' : (q == 0) = false := by simpa using h0
    by_cases hz : z < q
    · go_wp2_with fail
      go_ret
      exact ⟨by rw [HT.out, decide_eq_false h0, decide_eq_true hz]; rfl, HB1.out⟩
    · go_wp2_with fail
      go_ret
      exact ⟨by rw [HT.out, decide_eq_false h0, decide_eq_false (by omega)]; rfl, HB1.out⟩
theorem own_ne_cut {w : World} {base M m : Nat} {v : Value} {l : List Deed} {f : CutF} (h : Owns DeedE w base v l) (hc : CutAt w M m f) : v.ownBlock ≠ some M := by
  obtain ⟨D, ⟨es, cl, hb, _⟩, _⟩ := hc.ex
  intro e
  rcases h.2 with ⟨rfl, _⟩ | ⟨g, cap, cur, rfl, _, hh, _⟩
  · cases e
  · have e2 : g = M := Option.some.inj e
    subst e2
    rw [hb] at hh
    cases hh
theorem osite_bound {l : List Deed} (hl : RightD l) {x : Deed} (hx : x ∈ l) : x.osite.size ≤ 1000000 := by
  cases hb : backB x.kind with
  | true =>
    obtain ⟨y, hy, h1, -⟩ := hl.ofs x hx hb
    have := (st_bound hl hy).2.2
    rw [← h1]; omega
  | false =>
    rw [((hl.good x hx).of_ hb).1]
    decide
def AsOfPost (w : World) (l : List Deed) (at_ : Int) (e : Ending) (w' : World) : Prop :=
  ∃ A n c L, e = .returned (.tuple #[.slice A n c, .int .i64 0]) ∧ DeedsAt w' A n c L ∧ PastD l at_ L ∧ Below w.heap.size w w'
def ListOk (w : World) (A : Option Addr) (n c : Nat) : Prop := Calls Tryz.prog 38 #[.slice A n c] w fun e w' => e = .returned (.int .i64 0) ∧ Below w.heap.size w w'
set_option maxHeartbeats 6400000 in
set_option maxRecDepth 100000 in
theorem asOf_any (A : Option Addr) (n c : Nat) (l : List Deed) (at_ : Int) (w : World) (h : DeedsAt w A n c l) (hl : RightD l) (ha : 0 ≤ at_ ∧ at_ ≤ 5761439) (hLE : ListOk w A n c) :
    Calls Tryz.prog 10 #[.slice A n c, .int .i64 at_] w (AsOfPost w l at_) := by
  have HN : Hid (n = l.length) := h.1
  have HL := Lib.hid hl
  have hn : n ≤ 2000 := by have := hl.few; have := h.1; omega
  have HLE := Lib.hid hLE
  unfold ListOk at HLE
  have HAT0 := Lib.hid h
  have HMO := Lib.hid (fun wx => moment_ok at_ wx ha)
  have hmm := @run_makeMap Tryz.prog
  clear h hl hLE
  go_enter Tryz.func10, Tryz.ntmps10
  go_wp2_with fail
  refine HLE.out.mono ?_
  rintro e w1 ⟨rfl, hb1⟩
  have HB1 := Lib.hid hb1
  clear hb1 HLE
  go_wp2_with fail
  refine (HMO.out _).mono ?_
  rintro e wz ⟨rfl, hwz⟩
  obtain rfl := hwz.symm
  go_wp2_with fail
  refine (when_still _ _ _).mono ?_
  rintro e wz ⟨rfl, hwz⟩
  obtain rfl := hwz.symm
  go_wp2_with fail
  refine (first_2D 0 0 0 _ _ rfl rfl _).mono ?_
  rintro e wz ⟨rfl, hwz⟩
  obtain rfl := hwz.symm
  have HB2 : Hid (Below w.heap.size w (w1.alloc (.cells #[.int .i64 0, .int .i64 0] 29))) := HB1.out.alloc HB1.out.size _
  clear HB1
  go_upto_region 4 with (fail)
  generalize w1.alloc (.cells #[.int .i64 0, .int .i64 0] 29) = w2 at *
  have HAT := Lib.hid (ElemsAt.keep HAT0.out HB2.out)
  have hz1 : (w2.alloc (.map #[] 0)).heap.size = w2.heap.size + 1 := by simp
  have HM0 : Hid (CutAt ((w2.alloc (.map #[] 0)).alloc (.cells #[.map (some w2.heap.size)] 82)) w2.heap.size 0 (fun _ => 0)) := (CutAt.start w2).below ((Below.refl _ _).alloc (Nat.le_refl _) _)
  have HV0 : Hid (VarM ((w2.alloc (.map #[] 0)).alloc (.cells #[.map (some w2.heap.size)] 82)) (w2.heap.size + 1) w2.heap.size) := by
    show VarM _ _ _
    rw [← hz1]
    exact heap_alloc_new _ _
  have HB3 : Hid (Below w2.heap.size w2 ((w2.alloc (.map #[] 0)).alloc (.cells #[.map (some w2.heap.size)] 82))) := ((Below.refl _ _).alloc (Nat.le_refl _) _).alloc (by simp) _
  clear HAT0
  go_upto_region 5 with (fail)
  generalize (w2.alloc (.map #[] 0)).alloc (.cells #[.map (some w2.heap.size)] 82) = w3 at *
  have HVM : Hid (w2.heap.size + 1 ≠ w2.heap.size) := by show _ ≠ _; omega
  obtain ⟨M, hM⟩ : ∃ M, M = w2.heap.size := ⟨_, rfl⟩
  obtain ⟨V, hV⟩ : ∃ V, V = w2.heap.size + 1 := ⟨_, rfl⟩
  have HML : Hid (w2.heap.size ≤ M) := by show _ ≤ _; omega
  rw [← hV] at HVM HV0 ⊢
  rw [← hM] at HVM HM0 HV0
  try rw [← hM]
  clear hM hV hz1
  go_wp2_with fail
  go_loopg [31] n (fun gk v wr => ∃ (k m : Nat) (f : CutF), Hid (k + gk = n) ∧ v = .int .i64 (k : Int) ∧ Hid (VarM wr V M) ∧ Hid (CutAt wr M m f) ∧ Hid (m ≤ k) ∧ Hid (Cut1 l at_ k f) ∧ Hid (Below w2.heap.size w2 wr))
  case atStart => exact ⟨0, 0, _, show 0 + n = n by omega, rfl, HV0.out, HM0.out, Nat.le_refl 0, Cut1.start l at_, HB3.out⟩
  case round =>
    obtain ⟨k, m, f, HK, rfl, HR, HC, HMK, HI, HB⟩ := hrel
    clear HV0 HM0 HB3
    have hkn : k ≤ n := by have := HK.out; omega
    by_cases hlt : k < n
    · have HGK := Lib.hid (show k + 1 + (gk - 1) = n ∧ 0 < gk by have := HK.out; omega)
      obtain ⟨g, off, rfl, hg, hc⟩ := (ElemsAt.keep HAT.out HB.out).deed (by omega)
      have hkl : k < l.length := by have := HN.out; omega
      obtain ⟨x, hx⟩ : ∃ x, l[k]? = some x := ⟨_, List.getElem?_eq_getElem hkl⟩
      obtain ⟨c0, c1, c2, c3, c4, c5, c6, c7, c8, c9, c10, c11⟩ := hc k x hx
      have HX := Lib.hid hx
      have HXM := Lib.hid (List.mem_of_getElem? hx)
      have hxs : x.site.size ≤ 1000000 := by have := (st_bound HL.out HXM.out).2.2; omega
      clear hkl hx hg HK
      have hal : Below wr.heap.size wr (wr.alloc (.cells #[.string x.site, .int .i64 x.no, .int .i64 x.at_, .int .i64 x.kind, .string x.id, .string x.fld, .string x.val, .int .i64 x.from_, .int .i64 x.to_, .string x.osite, .int .i64 x.ono, .string x.sum] 40)) := (Below.refl _ _).alloc (Nat.le_refl _) _
      have HX1 : Hid (DeedAt (wr.alloc (.cells #[.string x.site, .int .i64 x.no, .int .i64 x.at_, .int .i64 x.kind, .string x.id, .string x.fld, .string x.val, .int .i64 x.from_, .int .i64 x.to_, .string x.osite, .int .i64 x.ono, .string x.sum] 40)) wr.heap.size x) := deed_new wr x
      have HR1 := Lib.hid (HR.out.keep hal)
      have HC1 := Lib.hid (HC.out.below hal)
      have HB1 := Lib.hid (HB.out.trans (hal.mono HB.out.size))
      clear hc hal HR HC HB
      go_upto_region 8 with (fail)
      obtain ⟨P, hP⟩ : ∃ P, P = wr.heap.size := ⟨_, rfl⟩
      rw [← hP] at HX1 ⊢
      generalize wr.alloc (.cells #[.string x.site, .int .i64 x.no, .int .i64 x.at_, .int .i64 x.kind, .string x.id, .string x.fld, .string x.val, .int .i64 x.from_, .int .i64 x.to_, .string x.osite, .int .i64 x.ono, .string x.sum] 40) = w1 at *
      clear hP c0 c1 c2 c3 c4 c5 c6 c7 c8 c9 c10 c11
      obtain ⟨a0, a1, a2, a3, a4, a5, a6, a7, a8, a9, a10, a11⟩ := HX1.out.c
      have hv0 := HR1.out.c
      have hlook := HC1.out.look x.site hxs
      obtain ⟨q, hq⟩ : ∃ q, q = f x.site := ⟨_, rfl⟩
      rw [← hq] at hlook
      have HQ : Hid (q = f x.site) := hq
      clear hq
      by_cases h0 : q = 0
      · subst h0
        by_cases hat : at_ < x.at_
        · have HI2 := Lib.hid (Cut1.put HL.out HI.out HX.out HQ.out.symm hat)
          obtain ⟨D, hD⟩ := HC1.out.ex
          have HD := Lib.hid hD
          have HKEY := Lib.hid (keyS_mk x.site hxs)
          have hmk : m ≤ 2000 := by have := HMK.out; omega
          clear hD
          go_wp2_with (at_mapUpdate; refine wpList_mapUpdate_own _ rfl _ _ _ 82 rfl 9 3 keyS Tryz.underlying82 _ M m D rfl HD.out.1 (by simp only [maxLen]; omega) _ _ (.string x.site.data.toList) rfl rfl HKEY.out (.held (.int .i64 x.no)) [] rfl ?_; intro w5 hown5 hgrow5)
          have HC5 := Lib.hid (CutAt.put HD.out.1 HD.out.2 hown5)
          have HR5 := Lib.hid (HR1.out.but (fun _ => HVM.out) HC1.out.lt hgrow5)
          have HB5 : Hid (Below w2.heap.size w2 w5) := HB1.out.grown hgrow5 HB1.out.size (fun i e => by have := Option.some.inj e; have := HML.out; omega)
          have HMK5 : Hid (m + 1 ≤ k + 1) := by show _ ≤ _; have := HMK.out; omega
          clear hown5 hgrow5 hv0 hlook
          go_roundg (gk - 1)
          case measure => exact Nat.sub_lt HGK.out.2 Nat.one_pos
          case rel => exact ⟨k + 1, m + 1, _, HGK.out.1, by go_num, HR5.out, HC5.out, HMK5.out, HI2.out, HB5.out⟩
        · have HI2 := Lib.hid (Cut1.pass HL.out HI.out HX.out (fun h => hat h.2))
          have HMK5 : Hid (m ≤ k + 1) := by show _ ≤ _; have := HMK.out; omega
          go_wp2_with fail
          go_roundg (gk - 1)
          case measure => exact Nat.sub_lt HGK.out.2 Nat.one_pos
          case rel => exact ⟨k + 1, m, f, HGK.out.1, by go_num, HR1.out, HC1.out, HMK5.out, HI2.out, HB1.out⟩
      · have h0' : (q == 0) = false := by simpa using h0
        have HI2 := Lib.hid (Cut1.pass HL.out HI.out HX.out (fun h => h0 (HQ.out.trans h.1)))
        have HMK5 : Hid (m ≤ k + 1) := by show _ ≤ _; have := HMK.out; omega
        go_wp2_with fail
        go_roundg (gk - 1)
        case measure => exact Nat.sub_lt HGK.out.2 Nat.one_pos
        case rel => exact ⟨k + 1, m, f, HGK.out.1, by go_num, HR1.out, HC1.out, HMK5.out, HI2.out, HB1.out⟩
    · have hnk : ¬ (k : Int) < (n : Int) := by omega
      have HJ := Lib.hid (Cut1.done HL.out HI.out (by have := HN.out; omega))
      have HM2 : Hid (m + cntT l f ≤ 2 * n) := by show _ ≤ _; have := HMK.out; have := cntT_le l f; have := HN.out; omega
      have HCN : Hid (cntT l f < n + 1) := by show _ < _; have := cntT_le l f; have := HN.out; omega
      clear HI HMK HK
      go_upto_region 12 with (fail)
      go_wp2_with fail
      go_loopg [11] (n + 1) (fun gk v wr => ∃ (ag : Bool) (m : Nat) (f : CutF), v = .bool ag ∧ Hid (VarM wr V M) ∧ Hid (CutAt wr M m f) ∧ Hid (m + cntT l f ≤ 2 * n) ∧ Hid (Cut2 l at_ f) ∧ Hid (ag = true → cntT l f < gk) ∧ Hid (ag = false → FixD l n f) ∧ Hid (Below w2.heap.size w2 wr))
      case atStart => exact ⟨true, m, f, rfl, HR.out, HC.out, HM2.out, HJ.out, fun _ => HCN.out, (fun h => by cases h), HB.out⟩
      case round =>
        obtain ⟨ag, m, f, rfl, HR, HC, HM2, HJ, HCN, HFX, HB⟩ := hrel
        cases ag with
        | true =>
          have HC0 : Hid (cntT l f < gk) := HCN.out rfl
          obtain ⟨C0, hC0⟩ : ∃ C0, C0 = cntT l f := ⟨_, rfl⟩
          have HCF : Hid (cntT l f ≤ C0) := by show _ ≤ _; omega
          have HCG : Hid (C0 < gk) := by show _ < _; rw [hC0]; exact HC0.out
          clear hC0 HC0 HCN HFX
          obtain ⟨gO, rfl⟩ : ∃ x, x = gk := ⟨gk, rfl⟩
          obtain ⟨wo, rfl⟩ : ∃ x, x = wr := ⟨wr, rfl⟩
          go_wp2_with fail
          go_loopg [11, 59] n (fun gk v11 v wr => ∃ (k : Nat) (ag : Bool) (m : Nat) (f : CutF), Hid (k + gk = n) ∧ v = .int .i64 (k : Int) ∧ v11 = .bool ag ∧ Hid (VarM wr V M) ∧ Hid (CutAt wr M m f) ∧ Hid (m + cntT l f ≤ 2 * n) ∧ Hid (Cut2 l at_ f) ∧ Hid (ag = false → FixD l k f) ∧ Hid (cntT l f ≤ C0) ∧ Hid (ag = true → cntT l f < C0) ∧ Hid (Below w2.heap.size w2 wr))
          case atStart => exact ⟨0, false, m, f, show 0 + n = n by omega, rfl, rfl, HR.out, HC.out, HM2.out, HJ.out, (fun _ => FixD.start l f), HCF.out, (fun h => by cases h), HB.out⟩
          case round =>
            obtain ⟨k, ag, m, f, HK, rfl, rfl, HR, HC, HM2, HJ, HFX, HCF, HCT, HB⟩ := hrel
            have hkn : k ≤ n := by have := HK.out; omega
            by_cases hlt : k < n
            · have HGK := Lib.hid (show k + 1 + (gk - 1) = n ∧ 0 < gk by have := HK.out; omega)
              obtain ⟨g, off, rfl, hg, hc⟩ := (ElemsAt.keep HAT.out HB.out).deed (by omega)
              have hkl : k < l.length := by have := HN.out; omega
              obtain ⟨x, hx⟩ : ∃ x, l[k]? = some x := ⟨_, List.getElem?_eq_getElem hkl⟩
              obtain ⟨c0, c1, c2, c3, c4, c5, c6, c7, c8, c9, c10, c11⟩ := hc k x hx
              have HX := Lib.hid hx
              have HXM := Lib.hid (List.mem_of_getElem? hx)
              have hxs : x.site.size ≤ 1000000 := by have := (st_bound HL.out HXM.out).2.2; omega
              clear hkl hx hg HK
              have HOS : Hid (x.osite.size ≤ 1000000) := by show _ ≤ _; exact osite_bound HL.out HXM.out
              have hal : Below wr.heap.size wr (wr.alloc (.cells #[.string x.site, .int .i64 x.no, .int .i64 x.at_, .int .i64 x.kind, .string x.id, .string x.fld, .string x.val, .int .i64 x.from_, .int .i64 x.to_, .string x.osite, .int .i64 x.ono, .string x.sum] 40)) := (Below.refl _ _).alloc (Nat.le_refl _) _
              have HX1 : Hid (DeedAt (wr.alloc (.cells #[.string x.site, .int .i64 x.no, .int .i64 x.at_, .int .i64 x.kind, .string x.id, .string x.fld, .string x.val, .int .i64 x.from_, .int .i64 x.to_, .string x.osite, .int .i64 x.ono, .string x.sum] 40)) wr.heap.size x) := deed_new wr x
              have HR1 := Lib.hid (HR.out.keep hal)
              have HC1 := Lib.hid (HC.out.below hal)
              have HB1 := Lib.hid (HB.out.trans (hal.mono HB.out.size))
              clear hc hal HR HC HB
              go_upto_region 18 with (fail)
              obtain ⟨P, hP⟩ : ∃ P, P = wr.heap.size := ⟨_, rfl⟩
              rw [← hP] at HX1 ⊢
              generalize wr.alloc (.cells #[.string x.site, .int .i64 x.no, .int .i64 x.at_, .int .i64 x.kind, .string x.id, .string x.fld, .string x.val, .int .i64 x.from_, .int .i64 x.to_, .string x.osite, .int .i64 x.ono, .string x.sum] 40) = w1 at *
              clear hP c0 c1 c2 c3 c4 c5 c6 c7 c8 c9 c10 c11
              obtain ⟨a0, a1, a2, a3, a4, a5, a6, a7, a8, a9, a10, a11⟩ := HX1.out.c
              have hv0 := HR1.out.c
              by_cases hk : x.kind = 3 ∨ x.kind = 6
              · have HKB : Hid (backB x.kind = true) := by show _ = _; unfold backB; rcases hk with h | h <;> rw [h] <;> rfl
                have HTH := Lib.hid (there_any V M m f x.site x.no w1 HR1.out HC1.out hxs)
                have HPASS := Lib.hid (fun hn hag => FixD.next (HFX.out hag) HX.out hn)
                rcases hk with hk | hk
                all_goals
                  rw [hk] at a3
                  go_wp2_with fail
                  refine HTH.out.mono ?_
                  rintro e w4 ⟨rfl, hb4⟩
                  have HX4 := Lib.hid (HX1.out.keep hb4)
                  have HR4 := Lib.hid (HR1.out.keep hb4)
                  have HC4 := Lib.hid (HC1.out.below hb4)
                  have HB4 := Lib.hid (HB1.out.trans (hb4.mono HB1.out.size))
                  clear hb4 HX1 HR1 HC1 HB1 hv0 a0 a1 a2 a3 a4 a5 a6 a7 a8 a9 a10 a11
                  obtain ⟨a0, a1, a2, a3, a4, a5, a6, a7, a8, a9, a10, a11⟩ := HX4.out.c
                  have hv0 := HR4.out.c
                  have hxo : x.osite.size ≤ 1000000 := HOS.out
                  have HTO := Lib.hid (there_any V M m f x.osite x.ono w4 HR4.out HC4.out hxo)
                  cases hb1 : thereS f x.site x.no with
                  | false =>
                    have HP := Lib.hid (HPASS.out (fun h => by have := h.2.1; unfold thereD at this; rw [hb1] at this; cases this))
                    clear hb1
                    go_wp2_with fail
                    go_roundg (gk - 1)
                    case measure => exact Nat.sub_lt HGK.out.2 Nat.one_pos
                    case rel => exact ⟨k + 1, ag, m, f, HGK.out.1, by go_num, rfl, HR4.out, HC4.out, HM2.out, HJ.out, HP.out, HCF.out, HCT.out, HB4.out⟩
                  | true =>
                    have HT1 := Lib.hid hb1
                    clear hb1
                    go_wp2_with fail
                    refine HTO.out.mono ?_
                    rintro e w5 ⟨rfl, hb5⟩
                    have HX5 := Lib.hid (HX4.out.keep hb5)
                    have HR5 := Lib.hid (HR4.out.keep hb5)
                    have HC5 := Lib.hid (HC4.out.below hb5)
                    have HB5 := Lib.hid (HB4.out.trans (hb5.mono HB4.out.size))
                    clear hb5 HX4 HR4 HC4 HB4 hv0 a0 a1 a2 a3 a4 a5 a6 a7 a8 a9 a10 a11
                    obtain ⟨a0, a1, a2, a3, a4, a5, a6, a7, a8, a9, a10, a11⟩ := HX5.out.c
                    have hv0 := HR5.out.c
                    cases hb2 : thereS f x.osite x.ono with
                    | true =>
                      have HP := Lib.hid (HPASS.out (fun h => by have := h.2.2; rw [hb2] at this; cases this))
                      clear hb2
                      go_wp2_with fail
                      go_roundg (gk - 1)
                      case measure => exact Nat.sub_lt HGK.out.2 Nat.one_pos
                      case rel => exact ⟨k + 1, ag, m, f, HGK.out.1, by go_num, rfl, HR5.out, HC5.out, HM2.out, HJ.out, HP.out, HCF.out, HCT.out, HB5.out⟩
                    | false =>
                      have HPUT := Lib.hid (Cut2.put HL.out HJ.out HXM.out HT1.out hb2)
                      obtain ⟨D, hD⟩ := HC5.out.ex
                      have HD := Lib.hid hD
                      have HKEY := Lib.hid (keyS_mk x.site hxs)
                      have hmk : m ≤ 4000 := by have := HM2.out; omega
                      clear hD hb2
                      go_wp2_with (at_mapUpdate; refine wpList_mapUpdate_own _ rfl _ _ _ 82 rfl 9 3 keyS Tryz.underlying82 _ M m D rfl HD.out.1 (by simp only [maxLen]; omega) _ _ (.string x.site.data.toList) rfl rfl HKEY.out (.held (.int .i64 x.no)) [] rfl ?_; intro w6 hown6 hgrow6)
                      have HC6 := Lib.hid (CutAt.put HD.out.1 HD.out.2 hown6)
                      have HR6 := Lib.hid (HR5.out.but (fun _ => HVM.out) HC5.out.lt hgrow6)
                      have HB6 : Hid (Below w2.heap.size w2 w6) := HB5.out.grown hgrow6 HB5.out.size (fun i e => by have := Option.some.inj e; have := HML.out; omega)
                      have HM6 : Hid (m + 1 + cntT l (cutS f x.site x.no) ≤ 2 * n) := by show _ ≤ _; have := HM2.out; have := HPUT.out.2; omega
                      have HCT6 : Hid (cntT l (cutS f x.site x.no) < C0) := by show _ < _; have := HCF.out; have := HPUT.out.2; omega
                      have HCF6 : Hid (cntT l (cutS f x.site x.no) ≤ C0) := Nat.le_of_lt HCT6.out
                      clear hown6 hgrow6 hv0
                      go_wp2_with fail
                      go_roundg (gk - 1)
                      case measure => exact Nat.sub_lt HGK.out.2 Nat.one_pos
                      case rel => exact ⟨k + 1, true, m + 1, _, HGK.out.1, by go_num, rfl, HR6.out, HC6.out, HM6.out, HPUT.out.1, (fun h => by cases h), HCF6.out, (fun _ => HCT6.out), HB6.out⟩
              · have hk3 : ¬ x.kind = 3 := fun h => hk (.inl h)
                have hk6 : ¬ x.kind = 6 := fun h => hk (.inr h)
                have HKB : backB x.kind = false := by unfold backB; rw [decide_eq_false hk3, decide_eq_false hk6]; rfl
                have HP := Lib.hid (fun hag => FixD.next (HFX.out hag) HX.out (fun h => by have := h.1; rw [HKB] at this; cases this))
                have hk3' : (x.kind == 3) = false := by simpa using hk3
                have hk6' : (x.kind == 6) = false := by simpa using hk6
                clear HKB hk
                go_wp2_with fail
                go_roundg (gk - 1)
                case measure => exact Nat.sub_lt HGK.out.2 Nat.one_pos
                case rel => exact ⟨k + 1, ag, m, f, HGK.out.1, by go_num, rfl, HR1.out, HC1.out, HM2.out, HJ.out, HP.out, HCF.out, HCT.out, HB1.out⟩
            · have hnk : ¬ (k : Int) < (n : Int) := by omega
              have HKN : Hid (k = n) := by show _ = _; omega
              have HGG : Hid (gO - 1 < gO) := by show _ < _; have := HCG.out; omega
              have HA : Hid (ag = true → cntT l f < gO - 1) := fun h => by have := HCT.out h; have := HCG.out; omega
              have HF2 : Hid (ag = false → FixD l n f) := fun h => by rw [← HKN.out]; exact HFX.out h
              clear HK HFX HCT
              go_wp2_with fail
              go_roundg (gO - 1)
              case measure => exact HGG.out
              case rel => exact ⟨ag, m, f, rfl, HR.out, HC.out, HM2.out, HJ.out, HA.out, HF2.out, HB.out⟩
        | false =>
          have HPA : Hid (PastD l at_ (l.filter (thereD f))) := Cut2.past HL.out HJ.out (by have := HFX.out rfl; rw [HN.out] at this; exact this)
          clear HFX HCN HJ HM2
          go_upto_region 22 with (fail)
          go_wp2_with fail
          go_loopg [14, 94] n (fun gk v14 v wr => ∃ k : Nat, Hid (k + gk = n) ∧ v = .int .i64 (k : Int) ∧ Hid (Owns DeedE wr w2.heap.size v14 ((l.take k).filter (thereD f))) ∧ Hid (VarM wr V M) ∧ Hid (CutAt wr M m f) ∧ Hid (Below w2.heap.size w2 wr))
          case atStart => exact ⟨0, show 0 + n = n by omega, rfl, Owns.nil _ _, HR.out, HC.out, HB.out⟩
          case round =>
            obtain ⟨k, HK, rfl, HO, HR, HC, HB⟩ := hrel
            have hkn : k ≤ n := by have := HK.out; omega
            by_cases hlt : k < n
            · have HGK := Lib.hid (show k + 1 + (gk - 1) = n ∧ 0 < gk by have := HK.out; omega)
              obtain ⟨g, off, rfl, hg, hc⟩ := (ElemsAt.keep HAT.out HB.out).deed (by omega)
              have hkl : k < l.length := by have := HN.out; omega
              obtain ⟨x, hx⟩ : ∃ x, l[k]? = some x := ⟨_, List.getElem?_eq_getElem hkl⟩
              obtain ⟨c0, c1, c2, c3, c4, c5, c6, c7, c8, c9, c10, c11⟩ := hc k x hx
              have HX := Lib.hid hx
              have HXM := Lib.hid (List.mem_of_getElem? hx)
              have hxs : x.site.size ≤ 1000000 := by have := (st_bound HL.out HXM.out).2.2; omega
              clear hkl hx hg HK
              have hal : Below wr.heap.size wr (wr.alloc (.cells #[.string x.site, .int .i64 x.no, .int .i64 x.at_, .int .i64 x.kind, .string x.id, .string x.fld, .string x.val, .int .i64 x.from_, .int .i64 x.to_, .string x.osite, .int .i64 x.ono, .string x.sum] 40)) := (Below.refl _ _).alloc (Nat.le_refl _) _
              have HX1 : Hid (DeedAt (wr.alloc (.cells #[.string x.site, .int .i64 x.no, .int .i64 x.at_, .int .i64 x.kind, .string x.id, .string x.fld, .string x.val, .int .i64 x.from_, .int .i64 x.to_, .string x.osite, .int .i64 x.ono, .string x.sum] 40)) wr.heap.size x) := deed_new wr x
              have HR1 := Lib.hid (HR.out.keep hal)
              have HC1 := Lib.hid (HC.out.below hal)
              have HB1 := Lib.hid (HB.out.trans (hal.mono HB.out.size))
              have HO1 := Lib.hid (HO.out.below_ hal)
              clear hc hal HR HC HB HO
              go_upto_region 25 with (fail)
              obtain ⟨P, hP⟩ : ∃ P, P = wr.heap.size := ⟨_, rfl⟩
              rw [← hP] at HX1 ⊢
              generalize wr.alloc (.cells #[.string x.site, .int .i64 x.no, .int .i64 x.at_, .int .i64 x.kind, .string x.id, .string x.fld, .string x.val, .int .i64 x.from_, .int .i64 x.to_, .string x.osite, .int .i64 x.ono, .string x.sum] 40) = w1 at *
              clear hP c0 c1 c2 c3 c4 c5 c6 c7 c8 c9 c10 c11
              obtain ⟨a0, a1, a2, a3, a4, a5, a6, a7, a8, a9, a10, a11⟩ := HX1.out.c
              have hv0 := HR1.out.c
              have HTH := Lib.hid (there_any V M m f x.site x.no w1 HR1.out HC1.out hxs)
              have HTK : Hid ((l.take (k + 1)).filter (thereD f) = (l.take k).filter (thereD f) ++ (if thereS f x.site x.no = true then [x] else [])) := by
                show _ = _
                rw [take_snocD HX.out, List.filter_append, List.filter_cons]
                rfl
              have HLN : Hid (((l.take k).filter (thereD f)).length ≤ 2000) := by show _ ≤ _; have := List.length_filter_le (thereD f) (l.take k); have := List.length_take_le k l; omega
              go_wp2_with fail
              refine HTH.out.mono ?_
              rintro e w4 ⟨rfl, hb4⟩
              have HX4 := Lib.hid (HX1.out.keep hb4)
              have HR4 := Lib.hid (HR1.out.keep hb4)
              have HC4 := Lib.hid (HC1.out.below hb4)
              have HO4 := Lib.hid (HO1.out.below_ hb4)
              have HB4 := Lib.hid (HB1.out.trans (hb4.mono HB1.out.size))
              clear hb4 HX1 HR1 HC1 HB1 HO1 HTH hv0 a0 a1 a2 a3 a4 a5 a6 a7 a8 a9 a10 a11
              obtain ⟨a0, a1, a2, a3, a4, a5, a6, a7, a8, a9, a10, a11⟩ := HX4.out.c
              cases hb1 : thereS f x.site x.no with
              | false =>
                rw [hb1, if_neg (by decide), List.append_nil] at HTK
                have HO5 : Hid (Owns DeedE w4 w2.heap.size u14 ((l.take (k + 1)).filter (thereD f))) := by show Owns _ _ _ _ _; rw [HTK.out]; exact HO4.out
                clear hb1
                go_wp2_with fail
                go_roundg (gk - 1)
                case measure => exact Nat.sub_lt HGK.out.2 Nat.one_pos
                case rel => exact ⟨k + 1, HGK.out.1, by go_num, HO5.out, HR4.out, HC4.out, HB4.out⟩
              | true =>
                rw [hb1, if_pos rfl] at HTK
                clear hb1
                obtain ⟨O, hO⟩ : ∃ O, O = (l.take k).filter (thereD f) := ⟨_, rfl⟩
                rw [← hO] at HO4 HLN HTK
                clear hO
                have hal : Below w4.heap.size w4 (w4.alloc (.cells #[.string x.site, .int .i64 x.no, .int .i64 x.at_, .int .i64 x.kind, .string x.id, .string x.fld, .string x.val, .int .i64 x.from_, .int .i64 x.to_, .string x.osite, .int .i64 x.ono, .string x.sum] 40)) := (Below.refl _ _).alloc (Nat.le_refl _) _
                have HOA := Lib.hid (HO4.out.below_ hal)
                have HRA := Lib.hid (HR4.out.keep hal)
                have HCA := Lib.hid (HC4.out.below hal)
                have HBA := Lib.hid (HB4.out.trans (hal.mono HB4.out.size))
                have HONE : Hid (ElemsAt DeedE (w4.alloc (.cells #[.string x.site, .int .i64 x.no, .int .i64 x.at_, .int .i64 x.kind, .string x.id, .string x.fld, .string x.val, .int .i64 x.from_, .int .i64 x.to_, .string x.osite, .int .i64 x.ono, .string x.sum] 40)) (some ⟨w4.heap.size, 0, none⟩) 1 1 [x]) := one_elem (E := DeedE) w4 x
                have hol := HLN.out
                have hzz := HB4.out.size
                clear hal HX4 HO4 HR4 HC4
                go_wp2_with (at_builtin; refine append_elems deedE_ok rfl _ _ rfl w2.heap.size u14 O rfl HOA.out (some ⟨w4.heap.size, 0, none⟩) 1 1 [x] rfl HONE.out (by simp; omega) (by simp; omega) ?_; intro v6 w6 hown6 hgrow6 hv6)
                have HO6 : Hid (Owns DeedE w6 w2.heap.size v6 ((l.take (k + 1)).filter (thereD f))) := by show Owns _ _ _ _ _; rw [HTK.out]; exact hown6
                have hrr : ∀ i, u14.ownBlock = some i → i ≠ V ∧ i ≠ M := fun i e => ⟨fun h => HOA.out.ne_block (b := V) HRA.out (by decide) (by rw [e, h]), fun h => own_ne_cut HOA.out HCA.out (by rw [e, h])⟩
                have HR6 : Hid (VarM w6 V M) := (hgrow6.block V (Array.getElem?_eq_some_iff.1 HRA.out).1 (fun e => (hrr V e.symm).1 rfl)).trans HRA.out
                have HC6 : Hid (CutAt w6 M m f) := by
                  obtain ⟨D, h1, h2⟩ := HCA.out.ex
                  exact ⟨⟨D, h1.kept hgrow6 (fun e => (hrr M e.symm).2 rfl), h2⟩⟩
                have HB6 : Hid (Below w2.heap.size w2 w6) := HBA.out.grown hgrow6 HBA.out.size (fun i e => (HOA.out.lt i e).1)
                clear hown6 hgrow6 hv6
                go_wp2_with fail
                go_roundg (gk - 1)
                case measure => exact Nat.sub_lt HGK.out.2 Nat.one_pos
                case rel => exact ⟨k + 1, HGK.out.1, by go_num, HO6.out, HR6.out, HC6.out, HB6.out⟩
            · have hnk : ¬ (k : Int) < (n : Int) := by omega
              have hta : l.take k = l := List.take_of_length_le (by have := HN.out; omega)
              rw [hta] at HO
              clear hta
              obtain ⟨A6, c6, hv6, -, hat6, -⟩ := HO.out.at_ deedE_ok
              have HP : Hid (AsOfPost w l at_ (.returned (.tuple #[.slice A6 (l.filter (thereD f)).length c6, .int .i64 0])) wr) := ⟨A6, _, c6, _, rfl, hat6, HPA.out, HB2.out.trans (HB.out.mono HB2.out.size)⟩
              clear hat6 HO
              subst hv6
              go_wp2_with fail
              go_ret2
              exact HP.out
end Go.Proofs.YthogkcgklakibaaGreatDoor
