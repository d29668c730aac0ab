
/-
  What Strata returns of one stratum.
-/
import Derived.Test.YtiegbbngfojjoaaGreatDoorLeastTop
import Derived.Test.YtiegbbngfojjoaaGreatDoorSpoil
import Derived.Test.YtiegbbngfojjoaaGreatDoorSetMap
import Derived.Test.YtiegbbngfojjoaaGreatDoorAlloc
import Derived.Test.YtiegbbngfojjoaaGreatDoorCfS
import Derived.Deep.RegionLaw
namespace Go.Proofs.YtiegbbngfojjoaaGreatDoor
open Go.RowKit Go.Maps
attribute [local go_sem ↓] Go.wp_at_zero Go.wp_at_succ

/-- The one stratum lies in block g. -/
def StratAt (w : World) (g : Nat) (A : Option Addr) (n c : Nat) : Prop := g < w.heap.size ∧ w.cell? ⟨g, 0, none⟩ = some (.string ⟨#[97]⟩) ∧ w.cell? ⟨g, 1, none⟩ = some (.slice A n c)
theorem StratAt.keep {w w' : World} {g n c B : Nat} {A : Option Addr} (h : StratAt w g A n c) (hb : Below B w w') (hg : g < B) : StratAt w' g A n c :=
  ⟨Nat.lt_of_lt_of_le h.1 hb.size, (hb.cell (p := ⟨g, 0, none⟩) hg).trans h.2.1, (hb.cell (p := ⟨g, 1, none⟩) hg).trans h.2.2⟩
theorem belowU {w w' : World} (h : Below w.drew.heap.size w.drew w') : Below w.heap.size w w' := ⟨h.os, h.tape, h.output, h.size, h.block⟩
theorem row_onS {w w' : World} {F : Nat} {o : Obj} (h : Below w.heap.size w w') (hr : w.heap[F]? = some o) : w'.heap[F]? = some o := (h.block _ (Array.getElem?_eq_some_iff.1 hr).1).trans hr
theorem enters_in : ∀ args w, (callFunc 137 args).run Tryz.prog w = .ok (.enter 137 args) w := enters_of Tryz.func137 (by kernel_rfl) rfl
theorem inNone_any (x : List UInt8) (P M : Nat) (w : World) (hP : w.cell? ⟨P, 0, none⟩ = some (.map (some M))) (hM : SetAt w M []) (hx : x.length ≤ 1000) :
    Calls Tryz.prog 137 #[.string ⟨x.toArray⟩, .pointer (some ⟨P, 0, none⟩)] w fun e w' => e = .returned (.bool false) ∧ w' = w := by
  have hl := hM.look0 ⟨x.toArray⟩ (by simp [ByteArray.size]; omega)
  rw [show ([] : List (List UInt8)).contains (⟨x.toArray⟩ : ByteArray).data.toList = false from rfl] at hl
  clear hM
  go_enter Tryz.func137, Tryz.ntmps137
  go_wp2_with fail
  go_ret
  exact ⟨rfl, rfl⟩
theorem made_two (w : World) (t : TypeId) : ∀ wq, wq = ((w.alloc (.map #[] 0)).alloc (.map #[] 0)).alloc (.cells #[.map (some (w.heap.size + 1))] t) →
    SetAt wq w.heap.size [] ∧ SetAt wq (w.heap.size + 1) [] ∧ wq.heap[w.heap.size + 1 + 1]? = some (.cells #[.map (some (w.heap.size + 1))] t (0, 0)) ∧ Below w.heap.size w wq ∧ wq.heap.size = w.heap.size + 3 := by
  rintro wq rfl
  have z1 : (w.alloc (.map #[] 0)).heap.size = w.heap.size + 1 := by simp
  have z2 : ((w.alloc (.map #[] 0)).alloc (.map #[] 0)).heap.size = w.heap.size + 1 + 1 := by simp
  have m1 : SetAt (w.alloc (.map #[] 0)) w.heap.size [] := World.ownsMap_made w _ _ _
  have m2 : SetAt ((w.alloc (.map #[] 0)).alloc (.map #[] 0)) (w.heap.size + 1) [] := by
    have h := World.ownsMap_made (H := Unit) (w.alloc (.map #[] 0)) Tryz.prog 9 (plainElem Tryz.prog 4)
    rw [z1] at h
    exact h
  refine ⟨World.ownsMap.alloc (World.ownsMap.alloc m1 _) _, World.ownsMap.alloc m2 _, ?_, (((Below.refl _ _).alloc (Nat.le_refl _) _).alloc (by omega) _).alloc (by omega) _, by simp⟩
  have h := heap_alloc_new ((w.alloc (.map #[] 0)).alloc (.map #[] 0)) (.cells #[.map (some (w.heap.size + 1))] t)
  rw [z2] at h
  exact h
set_option maxHeartbeats 3200000 in
set_option maxRecDepth 100000 in
theorem strataErr_ok (A : Option Addr) (n c g : Nat) (l : List (List UInt8)) (w : World) (h : StrsAt w A n c l) (hn : n ≤ 100) (hk : ∀ x ∈ l, keyL x = true) (hr : Rising l) (hX : StratAt w g A n c) :
    Calls Tryz.prog 76 #[.slice (some ⟨g, 0, none⟩) 1 1] w fun e w' => e = .returned (.int .i64 0) ∧ Below w.heap.size w w' := by
  have HN := Lib.hid h.1
  have HH := Lib.hid h
  have HK := Lib.hid hk
  have HG := Lib.hid hX.1
  have HX := Lib.hid hX
  have HI := Lib.hid (fun wx (hb : Below w.heap.size w wx) => idsError_ok A n c l wx (h.keep hb) (by omega) hk hr)
  have HKO := Lib.hid (fun w => keyError_ok ⟨#[97]⟩ w (by decide +kernel))
  have HWH := Lib.hid (fun w => when_any false 6 w)
  have hmm := @run_makeMap Tryz.prog
  clear h hk hr hX
  go_enter Tryz.func76, Tryz.ntmps76
  go_upto_region 4 with (fail)
  have hmt := made_two w 50 _ rfl
  generalize ((w.alloc (.map #[] 0)).alloc (.map #[] 0)).alloc (.cells #[.map (some (w.heap.size + 1))] 50) = wq at *
  obtain ⟨hm0, hm1, hp, hbq, hzq⟩ := hmt
  have HM0 := Lib.hid hm0
  have HM1 := Lib.hid hm1
  have HP := Lib.hid hp
  have HBQ := Lib.hid hbq
  obtain ⟨_, x0, x1⟩ := HX.out.keep hbq HG.out
  have HZQ := Lib.hid hzq
  clear hm0 hm1 hp hbq hzq hmm
  go_wp2_with fail
  refine wp_loop_rounds 2 ?_
  rw [rounds_succ]
  go_upto_region 7 with (fail)
  have hz1 : (wq.alloc (.cells #[.string ⟨#[97]⟩, .slice A n c] 70)).heap.size = wq.heap.size + 1 := by simp
  have hbe : Below wq.heap.size wq (wq.alloc (.cells #[.string ⟨#[97]⟩, .slice A n c] 70)) := (Below.refl _ _).alloc (Nat.le_refl _) _
  have hro := heap_alloc_new wq (.cells #[.string ⟨#[97]⟩, .slice A n c] 70)
  generalize wq.alloc (.cells #[.string ⟨#[97]⟩, .slice A n c] 70) = we at *
  have HBE : Hid (Below w.heap.size w we) := HBQ.out.trans (hbe.mono HBQ.out.size)
  have HM0E : Hid (SetAt we w.heap.size []) := World.ownsMap.kept HM0.out (below_grown hbe none) (by simp)
  have HM1E : Hid (SetAt we (w.heap.size + 1) []) := World.ownsMap.kept HM1.out (below_grown hbe none) (by simp)
  have HPE : Hid (we.heap[w.heap.size + 1 + 1]? = some (.cells #[.map (some (w.heap.size + 1))] 50 (0, 0))) := (hbe.block _ (Array.getElem?_eq_some_iff.1 HP.out).1).trans HP.out
  have HRO := Lib.hid hro
  obtain ⟨R, hR⟩ : ∃ R, R = wq.heap.size := ⟨_, rfl⟩
  rw [← hR] at HRO ⊢
  have hRz : we.heap.size = R + 1 := by omega
  have HRZ := Lib.hid hRz
  have HMR : Hid (w.heap.size + 1 + 1 < R) := by show _ < _; have := HZQ.out; omega
  clear hz1 hbe hro hR hRz HBQ HM0 HM1 HP HZQ x0 x1
  have HHELD : Hid (∀ w', Below we.heap.size we w' → w'.cell? ⟨R, 0, none⟩ = some (.string ⟨#[97]⟩) ∧ w'.cell? ⟨R, 1, none⟩ = some (.slice A n c) ∧ (Instr.lookup 50 (.map (some w.heap.size)) (.string ⟨#[97]⟩) false).run Tryz.prog w' = .ok (.bool false) w' ∧ Below we.heap.size we w') := fun w' hb => by
    have h1 := row_onS hb HRO.out
    refine ⟨by rw [cell_of_row w' R 0 _ _ _ h1]; rfl, by rw [cell_of_row w' R 1 _ _ _ h1]; rfl, ?_, hb⟩
    have h2 : SetAt w' w.heap.size [] := World.ownsMap.kept HM0E.out (below_grown hb none) (by simp)
    exact h2.look0 ⟨#[97]⟩ (by decide)
  go_cut [7] (fun v wx => v = .int .i64 0 ∧ Below we.heap.size we wx)
  case first =>
    have hh0 := HHELD.out we (Below.refl _ _)
    obtain ⟨hh1, hh2, hh3, _⟩ := hh0
    go_region_held3 (fun w' => w'.cell? ⟨R, 0, none⟩ = some (.string ⟨#[97]⟩) ∧ w'.cell? ⟨R, 1, none⟩ = some (.slice A n c) ∧ (Instr.lookup 50 (.map (some w.heap.size)) (.string ⟨#[97]⟩) false).run Tryz.prog w' = .ok (.bool false) w' ∧ Below we.heap.size we w')
      (first | assumption | exact HHELD.out _ ((Below.refl _ _).drew) | exact HHELD.out _ hx0 | exact HHELD.out _ hy0 | exact HHELD.out _ (hx0.alloc hx0.size _))
      (first
        | (go_at_call 73; (with_reducible refine Calls.mono (HKO.out _) ?_); rintro e wk ⟨rfl, hwk⟩; obtain rfl := hwk.symm)
        | (go_at_call 46; (with_reducible refine Calls.mono (HWH.out _) ?_); rintro e wz ⟨rfl, hwz⟩; obtain rfl := hwz.symm)
        | (go_at_call 72; (with_reducible refine Calls.mono (HI.out _ ?_) ?_); (first | exact HBE.out | exact HBE.out.drew | fail); rintro e wx ⟨rfl, hbx⟩; have hx0 : Below we.heap.size we wx := (by first | exact hbx | exact belowU hbx | fail); clear hbx)
        | (go_at_call 45; (refine Calls.mono (first_3z _ _ rfl _) ?_); rintro e wy ⟨rfl, hwy⟩; have hy0 : Below we.heap.size we wy := (by rw [← hwy]; exact hx0.alloc hx0.size _); clear hwy)
        | fail)
    all_goals
      go_wp2_with fail
      go_meet
      exact ⟨rfl, hy0⟩
  case rest =>
    obtain ⟨rfl, hbc⟩ := hcut
    have h1 := row_onS hbc HRO.out
    have r0 : wc.cell? ⟨R, 0, none⟩ = some (.string ⟨#[97]⟩) := by rw [cell_of_row wc R 0 _ _ _ h1]; rfl
    have r1 : wc.cell? ⟨R, 1, none⟩ = some (.slice A n c) := by rw [cell_of_row wc R 1 _ _ _ h1]; rfl
    have HM0C : Hid (SetAt wc w.heap.size []) := World.ownsMap.kept HM0E.out (below_grown hbc none) (by simp)
    have HM1C : Hid (SetAt wc (w.heap.size + 1) []) := World.ownsMap.kept HM1E.out (below_grown hbc none) (by simp)
    have HPC := Lib.hid (row_onS hbc HPE.out)
    have HRC := Lib.hid h1
    have HBC : Hid (Below w.heap.size w wc) := HBE.out.trans (hbc.mono HBE.out.size)
    have HCF := Lib.hid (containsFnS_any 137 (w.heap.size + 1 + 1) (fun _ => false) A n c l wc (HH.out.keep HBC.out) (by omega) enters_in (fun x hx => inNone_any x (w.heap.size + 1 + 1) (w.heap.size + 1) wc (by rw [cell_of_row wc _ 0 _ _ _ HPC.out]; rfl) HM1C.out (by have := keyL_len (HK.out x hx); omega)))
    rw [show l.any (fun _ => false) = false by simp] at HCF
    have hmf : ∀ (fn : Fn) (first cap : Array Value) (w : World), (Instr.makeFunc fn first cap).run Tryz.prog w = .ok (.func fn first cap) w := fun _ _ _ _ => rfl
    clear h1 hbc HHELD HM0E HM1E HPE HRO HBE HI HKO HWH
    go_wp2_with fail
    refine HCF.out.mono ?_
    rintro e w' ⟨rfl, hw⟩
    obtain rfl := hw
    clear HCF
    go_upto_region 13 with (at_mapUpdate; refine wpList_mapUpdate_own _ rfl _ _ _ 50 rfl 9 4 keyS Tryz.underlying50 _ w.heap.size 0 _ rfl HM0C.out (by simp only [maxLen]; omega) _ _ (.string [97]) rfl rfl (keyS_mk ⟨#[97]⟩ (by decide)) (.lit (.bool true)) [] (plainElem_bool Tryz.underlying4 true) ?_; intro w5 hown5 hgrow5)
    have HR5 : Hid (w5.heap[R]? = some (.cells #[.string ⟨#[97]⟩, .slice A n c] 70 (0, 0))) := (hgrow5.block R (Array.getElem?_eq_some_iff.1 HRC.out).1 (fun e => by have := Option.some.inj e; have := HMR.out; omega)).trans HRC.out
    have r51 : w5.cell? ⟨R, 1, none⟩ = some (.slice A n c) := by rw [cell_of_row w5 R 1 _ _ _ HR5.out]; rfl
    have HP5 : Hid (w5.heap[w.heap.size + 1 + 1]? = some (.cells #[.map (some (w.heap.size + 1))] 50 (0, 0))) := (hgrow5.block _ (Array.getElem?_eq_some_iff.1 HPC.out).1 (fun e => by have := Option.some.inj e; omega)).trans HPC.out
    have HM5 : Hid (SetAt w5 (w.heap.size + 1) []) := World.ownsMap.kept HM1C.out hgrow5 (fun e => by have := Option.some.inj e; omega)
    have HB5 : Hid (Below w.heap.size w w5) := HBC.out.grown hgrow5 HBC.out.size (fun i e => by have := Option.some.inj e; omega)
    clear r0 r1 hown5 hgrow5 HM0C HM1C HPC HRC HBC
    go_wp2_with fail
    go_loopg [47] n (fun gk v wr => ∃ k : Nat, Hid (k + gk = n) ∧ v = .int .i64 (k : Int) ∧ Hid (wr.heap[w.heap.size + 1 + 1]? = some (.cells #[.map (some (w.heap.size + 1))] 50 (0, 0))) ∧ Hid (SetAt wr (w.heap.size + 1) (l.take k)) ∧ Hid (Below w.heap.size w wr))
    case atStart => exact ⟨0, show 0 + n = n by omega, rfl, HP5.out, HM5.out, HB5.out⟩
    case round =>
      obtain ⟨k, HKG, rfl, HPR, HMS, HBR⟩ := hrel
      have hkn : k ≤ n := by have := HKG.out; omega
      by_cases hlt : k < n
      · obtain ⟨gs, off, rfl, hg, hc⟩ := (HH.out.keep HBR.out).str (by omega)
        have hck := hc k hlt
        have hkl : k < l.length := by have := HN.out; omega
        have hmem : l.getD k [] ∈ l := by rw [List.getD_eq_getElem?_getD, List.getElem?_eq_getElem hkl]; exact List.getElem_mem hkl
        have hxl := keyL_len (HK.out _ hmem)
        have HTN : Hid (l.take (k + 1) = l.take k ++ [l.getD k []]) := by show _ = _; rw [List.take_succ_eq_append_getElem hkl]; simp [hkl]
        have HTL : Hid ((l.take k).length = k) := by show _ = _; rw [List.length_take]; omega
        generalize l.getD k [] = x at *
        have HKX := Lib.hid (keyS_mk ⟨x.toArray⟩ (by simp [ByteArray.size]; omega))
        rw [show (⟨x.toArray⟩ : ByteArray).data.toList = x by simp] at HKX
        have hpc : wr.cell? ⟨w.heap.size + 1 + 1, 0, none⟩ = some (.map (some (w.heap.size + 1))) := by rw [cell_of_row wr _ 0 _ _ _ HPR.out]; rfl
        clear hc hmem hxl hkl
        go_wp2_with (at_mapUpdate; refine wpList_mapUpdate_own _ rfl _ _ _ 50 rfl 9 4 keyS Tryz.underlying50 _ (w.heap.size + 1) (l.take k).length _ rfl HMS.out (by rw [HTL.out]; simp only [maxLen]; omega) _ _ (.string x) rfl rfl HKX.out (.lit (.bool true)) [] (plainElem_bool Tryz.underlying4 true) ?_; intro w6 hown6 hgrow6)
        have HM6 : Hid (SetAt w6 (w.heap.size + 1) (l.take (k + 1))) := by show World.ownsMap _ _ _ _ _ _ _; rw [HTN.out, setD_snoc, List.length_append]; exact hown6
        have HP6 : Hid (w6.heap[w.heap.size + 1 + 1]? = some (.cells #[.map (some (w.heap.size + 1))] 50 (0, 0))) := (hgrow6.block _ (Array.getElem?_eq_some_iff.1 HPR.out).1 (fun e => by have := Option.some.inj e; omega)).trans HPR.out
        have HB6 : Hid (Below w.heap.size w w6) := HBR.out.grown hgrow6 HBR.out.size (fun i e => by have := Option.some.inj e; omega)
        clear hown6 hgrow6
        go_roundg (gk - 1)
        case measure => have := HKG.out; omega
        case rel => exact ⟨k + 1, show k + 1 + (gk - 1) = n by have := HKG.out; omega, by go_num, HP6.out, HM6.out, HB6.out⟩
      · have hnk : ¬ (k : Int) < (n : Int) := by omega
        go_wp2_with fail
        rw [rounds_succ]
        go_wp2_with fail
        go_ret
        exact ⟨rfl, HBR.out⟩
def StrataPost (w : World) (n : Nat) (e : Ending) (w' : World) : Prop := ∃ v r l', e = .returned (.tuple #[v, .int .i64 0]) ∧ Owns LineE w' w.heap.size v [r] ∧ OwnStrs w' w.heap.size r.v l' ∧ l'.length ≤ n ∧ Below w.heap.size w w'
set_option maxHeartbeats 3200000 in
set_option maxRecDepth 100000 in
theorem strata_any (A : Option Addr) (n c g m : Nat) (l : List (List UInt8)) (w : World) (h : StrsAt w A n c l) (hn : n ≤ 100) (hk : ∀ x ∈ l, keyL x = true) (hr : Rising l) (hX : StratAt w g A n c) (hm : m ≤ 2000) :
    Calls Tryz.prog 32 #[.slice (some ⟨g, 0, none⟩) 1 1, .string ⟨#[111, 110, 101]⟩, .int .i64 (m : Int)] w (StrataPost w n) := by
  have HSE := Lib.hid (strataErr_ok A n c g l w h hn hk hr hX)
  have HKO := Lib.hid (fun w => keyError_ok ⟨#[111, 110, 101]⟩ w (by decide +kernel))
  have HM := Lib.hid (fun w => manyS_ok m hm w)
  have HG := Lib.hid hX.1
  have HX := Lib.hid hX
  have HL := Lib.hid (fun (a : Nat) (ha : a ≤ 2000) wx (hb : Below w.heap.size w wx) => leastF_any A n c a l wx (h.keep hb) hn (fun x hx => by have := keyL_len (hk x hx); omega) ha)
  have HA := Lib.hid (fun (B : Option Addr) (d : Nat) wx (hB : ElemsAt IntE wx B 1 d (natI [n])) => allocate_any B d m [n] wx hB hm (by simp) (fun k => by cases k <;> simp; omega) (by simp; omega))
  clear h hk hr hX
  go_enter Tryz.func32, Tryz.ntmps32
  go_wp2_with fail
  refine HSE.out.mono ?_
  rintro e w1 ⟨rfl, hb1⟩
  have HB1 := Lib.hid hb1
  clear hb1 HSE
  go_wp2_with fail
  refine (HKO.out _).mono ?_
  rintro e w' ⟨rfl, hw⟩
  obtain rfl := hw
  go_wp2_with fail
  refine (HM.out _).mono ?_
  rintro e w'' ⟨rfl, hw⟩
  obtain rfl := hw
  go_wp2_with fail
  refine (first_3z _ _ rfl _).mono ?_
  rintro e w3 ⟨rfl, hw⟩
  have HB3 : Hid (Below w.heap.size w w3) := by show Below _ _ _; rw [← hw]; exact HB1.out.alloc HB1.out.size _
  clear hw HB1
  obtain ⟨_, x0, x1⟩ := HX.out.keep HB3.out HG.out
  go_upto_region 5 with (fail)
  go_wp2_with fail
  refine wp_loop_rounds 2 ?_
  rw [rounds_succ]
  go_upto_region 8 with (fail)
  have hbe : Below w3.heap.size w3 (w3.alloc (.cells #[.string ⟨#[97]⟩, .slice A n c] 70)) := (Below.refl _ _).alloc (Nat.le_refl _) _
  have hro := heap_alloc_new w3 (.cells #[.string ⟨#[97]⟩, .slice A n c] 70)
  generalize w3.alloc (.cells #[.string ⟨#[97]⟩, .slice A n c] 70) = w4 at *
  have HB4 : Hid (Below w.heap.size w w4) := HB3.out.trans (hbe.mono HB3.out.size)
  have r1 : w4.cell? ⟨w3.heap.size, 1, none⟩ = some (.slice A n c) := by rw [cell_of_row w4 _ 1 _ _ _ hro]; rfl
  have hz4 := HB4.out.size
  clear hbe hro x0 x1
  go_wp2_with (at_builtin; refine append_elems intE_ok rfl _ _ rfl w4.heap.size (.slice none 0 0) [] rfl (Owns.nil _ _) (some ⟨w4.heap.size, 0, none⟩) 1 1 [(n : Int)] rfl (one_elem (E := IntE) w4 (n : Int)) (by simp) (by simp) ?_; intro v5 w5 hown5 hgrow5 _)
  have HB5 : Hid (Below w.heap.size w w5) := (HB4.out.alloc HB4.out.size _).grown hgrow5 (by simp; omega) (fun i e => by cases e)
  obtain ⟨A5, c5, rfl, _, hat5, _⟩ := hown5.at_ intE_ok
  have HAL := Lib.hid (HA.out A5 c5 w5 hat5)
  clear hown5 hgrow5 hat5 HA r1 hz4 HB4 HB3
  go_wp2_with fail
  rw [rounds_succ]
  go_wp2_with fail
  refine HAL.out.mono ?_
  rintro e w6 ⟨v6, G6, rfl, hown6, hlen6, hle6, _, hb6⟩
  have HB6 : Hid (Below w.heap.size w w6) := HB5.out.trans (hb6.mono HB5.out.size)
  obtain ⟨a6, rfl⟩ : ∃ a, G6 = [a] := by
    cases G6 with
    | nil => simp at hlen6
    | cons a t => cases t with
      | nil => exact ⟨a, rfl⟩
      | cons b t => simp at hlen6
  have ha6 : a6 ≤ n := by have := hle6 0; simpa using this
  obtain ⟨G, c6, e6, hG1, hG2, hG3⟩ := Owns.where_ intE_ok hown6 (by simp [natI])
  subst e6
  have g0 := (hG3 0 (a6 : Int) 0 (.int .i64 (a6 : Int)) rfl rfl).1
  rw [show 0 * IntE.size + 0 = 0 from Nat.zero_mul _] at g0
  have HG0 := Lib.hid g0
  have HGL := Lib.hid hG2
  clear hown6 hlen6 hle6 hb6 hG1 hG2 hG3 g0 HAL HB5
  obtain ⟨_, x0, x1⟩ := HX.out.keep HB6.out HG.out
  go_upto_region 12 with (fail)
  go_wp2_with fail
  refine wp_loop_rounds 2 ?_
  rw [rounds_succ]
  go_upto_region 15 with (fail)
  have hbe : Below w6.heap.size w6 (w6.alloc (.cells #[.string ⟨#[97]⟩, .slice A n c] 70)) := (Below.refl _ _).alloc (Nat.le_refl _) _
  have hro := heap_alloc_new w6 (.cells #[.string ⟨#[97]⟩, .slice A n c] 70)
  obtain ⟨R, hR⟩ : ∃ R, R = w6.heap.size := ⟨_, rfl⟩
  rw [← hR] at hro ⊢
  generalize w6.alloc (.cells #[.string ⟨#[97]⟩, .slice A n c] 70) = w7 at *
  have HRO := Lib.hid hro
  have HB7 : Hid (Below w.heap.size w w7) := HB6.out.trans (hbe.mono HB6.out.size)
  have HG7 : Hid (w7.cell? ⟨G, 0, none⟩ = some (.int .i64 (a6 : Int))) := (hbe.cell (p := ⟨G, 0, none⟩) HGL.out).trans HG0.out
  have HGL7 : Hid (G < w7.heap.size) := Nat.lt_of_lt_of_le HGL.out hbe.size
  have ha2 : a6 ≤ 2000 := by omega
  clear hbe hro hR x0 x1 HG0 HGL
  have HHELD : Hid (∀ w', Below w7.heap.size w7 w' → w'.cell? ⟨R, 1, none⟩ = some (.slice A n c) ∧ w'.cell? ⟨G, 0, none⟩ = some (.int .i64 (a6 : Int)) ∧ Below w7.heap.size w7 w') := fun w' hb =>
    ⟨by rw [cell_of_row w' R 1 _ _ _ (row_onS hb HRO.out)]; rfl, (hb.cell (p := ⟨G, 0, none⟩) HGL7.out).trans HG7.out, hb⟩
  obtain ⟨hh1, hh2, _⟩ := HHELD.out w7 (Below.refl _ _)
  have hz7 := HB7.out.size
  refine wp_region_held_drew (S := fun w' => w'.cell? ⟨R, 1, none⟩ = some (.slice A n c) ∧ w'.cell? ⟨G, 0, none⟩ = some (.int .i64 (a6 : Int)) ∧ Below w7.heap.size w7 w') (by kernel_rfl) (HHELD.out _ (Below.refl _ _).drew) (fun hHeld => ?_)
  refine wpAnyH_take (i := 0) (oi := ⟨some 50, _, _, _, _, _⟩) (v := .slice none 0 0) rfl (by kernel_rfl) (by kernel_rfl) (by kernel_rfl) (fun _ _ _ h => h) (Or.inl ⟨by rfl, ?_⟩) hHeld ?_
  · intro w hSw
    (try dsimp only at hSw)
    go_simp
  simp only [Act.put, List.setIfInBounds_toArray, List.set_cons_zero, List.set_cons_succ]
  refine wpAnyH_take (i := 1) (oi := ⟨some 51, _, _, _, _, _⟩) (v := .pointer (some ⟨R, 1, none⟩)) rfl (by kernel_rfl) (by kernel_rfl) (by kernel_rfl) (fun _ _ _ h => h) (Or.inl ⟨by rfl, ?_⟩) hHeld ?_
  · intro w hSw
    (try dsimp only at hSw)
    go_simp
  simp only [Act.put, List.setIfInBounds_toArray, List.set_cons_zero, List.set_cons_succ]
  refine wpAnyH_take (i := 2) (oi := ⟨some 52, _, _, _, _, _⟩) (v := .slice A n c) rfl (by kernel_rfl) (by kernel_rfl) (by kernel_rfl) (fun _ _ _ h => h) (Or.inl ⟨by rfl, ?_⟩) hHeld ?_
  · intro w hSw
    (try dsimp only at hSw)
    go_simp
  simp only [Act.put, List.setIfInBounds_toArray, List.set_cons_zero, List.set_cons_succ]
  refine wpAnyH_take (i := 3) (oi := ⟨some 53, _, _, _, _, _⟩) (v := .string ⟨#[111, 110, 101]⟩) rfl (by kernel_rfl) (by kernel_rfl) (by kernel_rfl) (fun _ _ _ h => h) (Or.inl ⟨by rfl, ?_⟩) hHeld ?_
  · intro w hSw
    (try dsimp only at hSw)
    go_simp
  simp only [Act.put, List.setIfInBounds_toArray, List.set_cons_zero, List.set_cons_succ]
  refine wpAnyH_take (i := 4) (oi := ⟨some 54, _, _, _, _, _⟩) (v := .slice (some ⟨G, 0, none⟩) 1 c6) rfl (by kernel_rfl) (by kernel_rfl) (by kernel_rfl) (fun _ _ _ h => h) (Or.inl ⟨by rfl, ?_⟩) hHeld ?_
  · intro w hSw
    (try dsimp only at hSw)
    go_simp
  simp only [Act.put, List.setIfInBounds_toArray, List.set_cons_zero, List.set_cons_succ]
  refine wpAnyH_take (i := 5) (oi := ⟨some 55, _, _, _, _, _⟩) (v := .int .i64 0) rfl (by kernel_rfl) (by kernel_rfl) (by kernel_rfl) (fun _ _ _ h => h) (Or.inl ⟨by rfl, ?_⟩) hHeld ?_
  · intro w hSw
    (try dsimp only at hSw)
    go_simp
  simp only [Act.put, List.setIfInBounds_toArray, List.set_cons_zero, List.set_cons_succ]
  refine wpAnyH_take (i := 6) (oi := ⟨some 56, _, _, _, _, _⟩) (v := .pointer (some ⟨G, 0, none⟩)) rfl (by kernel_rfl) (by kernel_rfl) (by kernel_rfl) (fun _ _ _ h => h) (Or.inl ⟨by rfl, ?_⟩) hHeld ?_
  · intro w hSw
    (try dsimp only at hSw)
    go_simp
  simp only [Act.put, List.setIfInBounds_toArray, List.set_cons_zero, List.set_cons_succ]
  refine wpAnyH_take (i := 7) (oi := ⟨some 57, _, _, _, _, _⟩) (v := .int .i64 (a6 : Int)) rfl (by kernel_rfl) (by kernel_rfl) (by kernel_rfl) (fun _ _ _ h => h) (Or.inl ⟨by rfl, ?_⟩) hHeld ?_
  · intro w hSw
    (try dsimp only at hSw)
    go_simp
  simp only [Act.put, List.setIfInBounds_toArray, List.set_cons_zero, List.set_cons_succ]
  refine wpAnyH_ready (rs := [8]) (by kernel_rfl) (by simp) ?_
  refine AllReadyH.cons (o := ⟨some 58, _, _, _, _, _⟩) rfl (fun K hK => ?_) AllReadyH.nil
  rw [if_pos (by rfl)]
  go_wp2_with fail
  refine Calls.mono (HL.out a6 ha2 _ (HB7.out.drew)) ?_
  rintro e w8 ⟨v8, l8, rfl, ho8, hl8, hb8⟩
  have hb8' : Below w7.heap.size w7 w8 := belowU hb8
  obtain ⟨A8, c8, hv8, -, -, -⟩ := ho8.at_ strE_ok
  subst hv8
  have HO8 : Hid (OwnStrs w8 w7.heap.size (HdS.v (A8, l8.length, c8)) l8) := ho8
  have HB8 := Lib.hid hb8'
  have hz8 := HB8.out.size
  have HL8 : Hid (l8.length ≤ n) := hl8
  clear hHeld ho8 hb8 hb8' hl8
  refine hK.out _ _ (HHELD.out _ HB8.out) (fun hHeld => ?_)
  clear hK
  (try simp only [Act.put, List.setIfInBounds_toArray, List.set_cons_zero, List.set_cons_succ])
  refine wpAnyH_ready (rs := [9]) (by kernel_rfl) (by simp) ?_
  refine AllReadyH.cons (o := ⟨some 59, _, _, _, _, _⟩) rfl (fun K hK => ?_) AllReadyH.nil
  rw [if_pos (by rfl)]
  go_wp2_with fail
  clear hHeld
  refine hK.out _ _ (HHELD.out _ (HB8.out.alloc HB8.out.size _)) (fun hHeld => ?_)
  clear hK
  (try simp only [Act.put, List.setIfInBounds_toArray, List.set_cons_zero, List.set_cons_succ])
  have HONE : Hid (ElemsAt LineE (w8.alloc (.cells #[.slice A8 l8.length c8] 32)) (some ⟨w8.heap.size, 0, none⟩) 1 1 [(A8, l8.length, c8)]) := one_elem (E := LineE) w8 (A8, l8.length, c8)
  refine wpAnyH_ready (rs := [10]) (by kernel_rfl) (by simp) ?_
  refine AllReadyH.cons (o := ⟨some 60, _, _, _, _, _⟩) rfl (fun K hK => ?_) AllReadyH.nil
  refine step_elems lineE_ok (by rfl) _ _ (by rfl) w7.heap.size (.slice none 0 0) [] (by rfl) (Owns.nil _ _) ⟨w8.heap.size, 0, none⟩ 1 1 [(A8, l8.length, c8)] (by rfl) HONE.out (by omega) (by simp) (by simp; omega) ?_
  intro v9 w9 hown9 hgrow9 hv9
  obtain ⟨A9, c9, hvv, -, -, -⟩ := hown9.at_ lineE_ok
  subst hvv
  have HB9 : Hid (Below w7.heap.size w7 w9) := (HB8.out.alloc HB8.out.size _).grown hgrow9 (by simp; omega) (fun i e => by cases e)
  have HO9 : Hid (OwnStrs w9 w7.heap.size (HdS.v (A8, l8.length, c8)) l8) := Owns.kept_ (World.ownsRow.alloc HO8.out _) hgrow9 (fun i e => by cases e)
  have HT9 := Lib.hid hown9
  clear hHeld hgrow9 hv9 hown9
  refine hK.out _ _ (HHELD.out _ HB9.out) (fun hHeld => ?_)
  clear hK
  (try simp only [Act.put, List.setIfInBounds_toArray, List.set_cons_zero, List.set_cons_succ])
  refine wpAnyH_take (i := 11) (oi := ⟨some 13, _, _, _, _, _⟩) (v := .slice A9 ([] ++ [(A8, l8.length, c8)] : List HdS).length c9) rfl (by kernel_rfl) (by kernel_rfl) (by kernel_rfl) (fun _ _ _ h => h) (Or.inl ⟨by rfl, ?_⟩) hHeld ?_
  · intro w hSw
    (try dsimp only at hSw)
    go_simp
  simp only [Act.put, List.setIfInBounds_toArray, List.set_cons_zero, List.set_cons_succ]
  refine wpAnyH_done (by kernel_rfl) ?_ _
  clear hHeld
  have HF : Hid (StrataPost w n (.returned (.tuple #[.slice A9 1 c9, .int .i64 0])) w9) := ⟨_, (A8, l8.length, c8), l8, rfl, HT9.out.base_ hz7, HO9.out.base_ hz7, HL8.out, HB7.out.trans (HB9.out.mono hz7)⟩
  go_wp2_with fail
  rw [rounds_succ]
  go_wp2_with fail
  go_ret2
  exact HF.out
end Go.Proofs.YtiegbbngfojjoaaGreatDoor
