
/-
  CatalogsForget returns true.
-/
import Derived.Test.YtehhigcdeahopaaGreatDoorCatPlain
import Derived.Test.YtehhigcdeahopaaGreatDoorOrder
import Derived.Test.YtehhigcdeahopaaGreatDoorStreamNew
namespace Go.Proofs.YtehhigcdeahopaaGreatDoor
open Go.RowKit Go.Maps Go.Shelf

theorem neqM : NeqAt Tryz.prog 59 (fun x : MatchT => .agg (MatchE.enc x).toArray) (fun x y => decide (x = y)) := by
  refine ⟨fun x y w => ?_, GuardAt.agg _ (by kernel_rfl)⟩
  have u3 := Tryz.underlying3
  have a3 := Tryz.isAgg3
  have z3 := Tryz.sizeOf3
  have u9 := Tryz.underlying9
  have a9 := Tryz.isAgg9
  have z9 := Tryz.sizeOf9
  have u57 := Tryz.underlying57
  have a57 := Tryz.isAgg57
  have z57 := Tryz.sizeOf57
  have hS : Tryz.prog.underlying 59 = some (.struct (Tryz.prog.fieldsOf 59)) := by kernel_rfl
  have hp : Tryz.prog.stoodInHeld 59 = false := by kernel_rfl
  have hS2 : Tryz.prog.underlying 57 = some (.struct (Tryz.prog.fieldsOf 57)) := by kernel_rfl
  have hp2 : Tryz.prog.stoodInHeld 57 = false := by kernel_rfl
  obtain ⟨x1, x2, x3⟩ := x
  obtain ⟨y1, y2, y3⟩ := y
  simp only [MatchE]
  rw [run_neq_struct, show (10000 : Nat) = 9998 + 1 + 1 from rfl, run_equalIn_agg w (9998 + 1) 59 _ _ hS hp]
  simp only [Program.fieldsOf, Tryz.underlying59]
  go_simp
  by_cases h1 : x1 = y1 <;> by_cases h2 : x2 = y2 <;> by_cases h3 : x3 = y3 <;> simp [h1, h2, h3, Int.ofNat_inj]
theorem allEqM (l : List MatchT) : Lib.allEq (fun x y => decide (x = y)) l l = true := by
  induction l with
  | nil => rfl
  | cons x l ih => simp [Lib.allEq, ih]
set_option maxHeartbeats 400000 in
theorem equalM_any (A B : Option Addr) (n c m d : Nat) (l : List MatchT) (w : World) (hA : ElemsAt MatchE w A n c l) (hB : ElemsAt MatchE w B m d l) (hn : n ≤ 10000) :
    Calls Tryz.prog 22 #[.slice A n c, .slice B m d] w fun e w' => e = .returned (.bool true) ∧ Below w.heap.size w w' := by
  have hl := hA.1
  have hl2 := hB.1
  obtain rfl : n = m := by omega
  rcases Nat.eq_zero_or_pos n with h0 | h0
  · subst h0
    clear hA hB hl hl2
    go_enter Tryz.func22, Tryz.ntmps22
    go_wp2_with fail
    refine wp_loop_rounds 1 ?_
    rw [rounds_succ]
    go_wp2_with fail
    go_ret
    exact ⟨rfl, Below.refl _ _⟩
  · obtain ⟨g1, o1, rfl, hg1, hc1⟩ := hA.2.2.2 h0
    obtain ⟨g2, o2, rfl, hg2, hc2⟩ := hB.2.2.2 h0
    refine (AnyQ.slices_Equal Tryz.eqQ22 3 Tryz.isAgg59 Tryz.sizeOf59 MatchE.enc (fun _ => rfl) _ neqM g1 o1 n c g2 o2 n d l l w (by omega) (by omega) (by omega) (by omega) hA.cellsQ hB.cellsQ).mono ?_
    rintro e w' ⟨rfl, q, rfl⟩
    refine ⟨ret_bool ?_, below_drewN (Below.refl _ _) q⟩
    rw [List.take_of_length_le (by omega)]
    exact allEqM l

theorem ElemsAt.but {α : Type} {E : Elem α} {w w' : World} {A : Option Addr} {n c P M : Nat} {l : List α} (h : ElemsAt E w A n c l) (hb : But2 P M w w') (hr : ∀ g off, A = some ⟨g, off, none⟩ → g ≠ P ∧ g ≠ M) : ElemsAt E w' A n c l := by
  refine ⟨h.1, h.2.1, h.2.2.1, fun h0 => ?_⟩
  obtain ⟨g, off, rfl, hg, hc⟩ := h.2.2.2 h0
  exact ⟨g, off, rfl, Nat.lt_of_lt_of_le hg hb.size, fun k x i v hk hv => (World.cell?_of_block (hb.block g hg (hr g off rfl).1 (hr g off rfl).2)).trans (hc k x i v hk hv)⟩
theorem StreamAt.but {w w' : World} {g P M : Nat} {A : Option Addr} {n c K : Nat} (h : StreamAt w g A n c K) (hb : But2 P M w w') (h1 : g < P) (h2 : g < M) : StreamAt w' g A n c K :=
  h.keep fun i hi => hb.block i (by have := h.lt; omega) (by omega) (by omega)

def BelowAt (A : Option Addr) (b : Nat) : Prop := ∀ g off, A = some ⟨g, off, none⟩ → g < b
theorem ElemsAt.lt_ {α : Type} {E : Elem α} {w : World} {base : Nat} {A : Option Addr} {n c : Nat} {l : List α} (h : Owns E w base (.slice A n c) l) : BelowAt A w.heap.size := by
  intro g off e
  subst e
  have := (h.lt g rfl).2
  exact this

def zB : Body2 := (⟨#[122, 122]⟩, ⟨#[97, 32, 98, 32, 99]⟩)
theorem zB_key : keyL (⟨#[122, 122]⟩ : ByteArray).data.toList = true := by decide +kernel
theorem order_at (l : List Body2) (o : List Int) (hp : o.Perm ((List.range l.length).map Int.ofNat)) (j : Nat) (z : Int) (hz : o[j]? = some z) : ∃ (i : Nat) (x : Body2), z = (i : Int) ∧ l[i]? = some x ∧ (byOrder l o)[j]? = some x := by
  have hm := hp.mem_iff.1 (List.mem_of_getElem? hz)
  obtain ⟨i, hi, rfl⟩ := List.mem_map.1 hm
  rw [List.mem_range] at hi
  refine ⟨i, l[i], rfl, List.getElem?_eq_getElem hi, ?_⟩
  unfold byOrder
  rw [List.getElem?_map, hz]
  simp [hi]

set_option maxHeartbeats 6400000 in
set_option maxRecDepth 100000 in
theorem catalogs_any (A : Option Addr) (n c : Nat) (w : World) (hrow : RowAt w A n) (hbig : n ≤ 1000000000000000) :
    Calls Tryz.prog 4 #[.slice A n c] w (LawPost w) := by
  have hs0 := stream_new w A n c hrow hbig
  have hb0 : Below w.heap.size w (w.alloc (.cells #[.slice A n c, .int .i64 0] 25)) := (Below.refl _ _).alloc (Nat.le_refl _) _
  have hz0 : (w.alloc (.cells #[.slice A n c, .int .i64 0] 25)).heap.size = w.heap.size + 1 := by simp
  have hrr : ∀ k, some w.heap.size = some k → w.heap.size ≤ k := fun k hk => by injection hk with hk; omega
  clear hrow
  go_enter Tryz.func4, Tryz.ntmps4
  go_wp2_with fail
  refine (bodies_any w.heap.size A n c 0 5 _ hs0 (by omega) (by omega)).mono ?_
  rintro e w1 ⟨v4, l, rfl, hown1, hsay, hs1, hg1⟩
  have hb1 : Below w.heap.size w w1 := hb0.grown hg1 hb0.size hrr
  obtain ⟨A4, c4, rfl, q1, hat1, hnew1⟩ := hown1.at_ bodyE_ok
  have HLT := Lib.hid (ElemsAt.lt_ hown1)
  rw [hz0] at hnew1
  have HNEW : Hid (∀ g off, A4 = some ⟨g, off, none⟩ → w.heap.size < g) := fun g off e => by have := (hnew1 g off e).2; omega
  have hll : l.length ≤ 31 := hsay.1
  have HSAY := Lib.hid hsay
  have HAT1 := Lib.hid hat1
  clear hs0 hb0 hg1 q1 hnew1 hown1 hat1 hsay hz0
  go_wp2_with fail
  refine (pick_any w.heap.size A n c _ [30, 60] w1.heap.size 2 2 _ (hs1.alloc _) (by omega) rfl (by omega) (by omega) (by have := hs1.lt; omega) (fun j hj => ?_)).mono ?_
  · rw [World.cell?_alloc_at _ _ _ _ rfl]
    match j, hj with
    | 0, _ => rfl
    | 1, _ => rfl
  rintro e w2 ⟨least, rfl, hl, hs2, hg2⟩
  have hlr : least = 30 ∨ least = 60 := by simpa using hl
  obtain ⟨least, rfl⟩ := Int.eq_ofNat_of_zero_le (show 0 ≤ least by omega)
  have hg2' : w1.grownBy w2 (some w.heap.size) := grown_trans (grown_alloc (World.grownBy.refl _ _) _) hg2
  have hb2 : Below w.heap.size w w2 := hb1.grown hg2' hb1.size hrr
  have HAT2 := Lib.hid (HAT1.out.grown hg2' (fun g off e he => by have := HNEW.out g off e; cases he; omega))
  have hz12 := hg2'.size
  clear hl hs1 hg2 hg2' HAT1 hb1
  go_wp2_with fail
  refine (bodiesFault_any A4 l.length c4 l w2 HAT2.out (by omega) (fun x hx => HSAY.out.2.1 x hx)).mono ?_
  rintro e w3 ⟨rfl, hb3⟩
  have hb3' : Below w.heap.size w w3 := below_trans' hb2 hb3
  have HAT3 := Lib.hid (HAT2.out.keep hb3)
  have hs3 := hs2.below hb3
  have hz3 := hb3.size
  clear HAT2 hs2 hb2 hb3
  by_cases hf : faultL l = 0
  · have HR := Lib.hid (faultL_ok l hf)
    rw [hf]
    have htot := HR.out.total
    have HZ : Hid (l.length ≤ 5 ∧ ∀ x ∈ l, x.1 ≠ zz) := by
      rcases HSAY.out.2.2 with h | h
      · exact h
      · omega
    have hl5 : l.length ≤ 5 := HZ.out.1
    have HOK : Hid (∀ x ∈ l, TextOk x) := HSAY.out.2.1
    clear hf HSAY hll
    go_wp2_with fail
    refine (catNew_any 2 w3 (by omega) (by omega)).mono ?_
    rintro e w4 ⟨Px, Mx, rfl, hPx, hMx, hcx4, hb4⟩
    have hzx := hcx4.lt
    go_wp2_with fail
    refine (catNew_any 2 w4 (by omega) (by omega)).mono ?_
    rintro e w5 ⟨Py, My, rfl, hPy, hMy, hcy5, hb5⟩
    have HCX5 := Lib.hid (hcx4.keep hb5)
    have HCY5 := Lib.hid hcy5
    have HAT5 := Lib.hid ((HAT3.out.keep hb4).keep hb5)
    have hs5 := (hs3.below hb4).below hb5
    have hb5' : Below w.heap.size w w5 := below_trans' (below_trans' hb3' hb4) hb5
    have HA4 : Hid (∀ g off, A4 = some ⟨g, off, none⟩ → w.heap.size < g ∧ g < w3.heap.size) := fun g off e => ⟨HNEW.out g off e, by have := HLT.out g off e; omega⟩
    have hgw : w.heap.size < w3.heap.size := hs3.lt
    have hzy := hcy5.lt
    have hz5 := hb5.size
    clear hcx4 hcy5 HAT3 hs3 hb3' hb4 hb5 HNEW HLT hz12 hz3
    have h1 : Px ≠ Py := by omega
    have h2 : Px ≠ My := by omega
    have h3 : Mx ≠ Py := by omega
    have h4 : Mx ≠ My := by omega
    have HNE : Hid (Px ≠ Py ∧ Px ≠ My ∧ Mx ≠ Py ∧ Mx ≠ My) := ⟨h1, h2, h3, h4⟩
    clear h1 h2 h3 h4
    go_wp2_with fail
    go_loopg [47] l.length (fun gk i wr => ∃ k : Nat, Hid (k + gk = l.length) ∧ i = .int .i64 k ∧ Hid (CatAt wr Px Mx 2 (totB (l.take k)) k (putAll (.map []) (l.take k))) ∧ But2 Px Mx w5 wr)
    case atStart => exact ⟨0, show 0 + l.length = l.length by omega, rfl, HCX5.out, But2.of_below (Below.refl _ _)⟩
    case round =>
      obtain ⟨k, HK, rfl, HCX, hbut⟩ := hrel
      have hkn : k ≤ l.length := by have := HK.out; omega
      have hzr := hbut.size
      have HATR := Lib.hid (HAT5.out.but hbut (fun g off e => by have := HA4.out g off e; omega))
      by_cases hlt : k < l.length
      · obtain ⟨x, hx⟩ : ∃ x, l[k]? = some x := ⟨_, List.getElem?_eq_getElem hlt⟩
        have hmem := List.mem_of_getElem? hx
        have HTOT : Hid (totB (l.take (k + 1)) = totB (l.take k) + x.2.size) := by
          show _ = _
          obtain ⟨h1, h2⟩ := List.getElem?_eq_some_iff.1 hx
          rw [List.take_succ_eq_append_getElem h1, totB_append, h2]
          simp [totB]
        have HPUT : Hid (putAll (.map []) (l.take (k + 1)) = (putAll (.map []) (l.take k)).put (.string x.1.data.toList) (.lit (.string x.2.data.toList))) := by
          show _ = _
          obtain ⟨h1, h2⟩ := List.getElem?_eq_some_iff.1 hx
          rw [List.take_succ_eq_append_getElem h1, putAll_snoc, h2]
          rfl
        have hkey := HR.out.key x hmem
        have hsm := HR.out.small x hmem
        have htk : totB (l.take k) + x.2.size ≤ 500000 := by rw [← HTOT.out]; exact Nat.le_trans (totB_take l (k + 1)) htot
        have hnw := new_in HR.out.apart (D := .map []) isMap_empty k x hx rfl
        obtain ⟨gA, oA, hA, hgA, hcA⟩ := HATR.out.2.2.2 (by omega)
        subst hA
        have c0 := hcA k x 0 _ hx rfl
        have c1 := hcA k x 1 _ hx rfl
        have hsz : BodyE.size = 2 := rfl
        rw [hsz] at c0 c1
        rw [Nat.add_zero] at c0
        have HKEY := Lib.hid hkey
        have HNW := Lib.hid hnw
        have HTK := Lib.hid htk
        clear hsz hcA hx hmem hkey hnw htk
        obtain ⟨x1, x2⟩ := x
        simp only at *
        have hal : Below wr.heap.size wr (wr.alloc (.cells #[.string x1, .string x2] 40)) := (Below.refl _ _).alloc (Nat.le_refl _) _
        have HCXA := Lib.hid (HCX.out.keep hal)
        have hbuta := hbut.trans (But2.of_below hal)
        clear hal
        go_wp2_with fail
        refine (add_any Px Mx 2 (totB (l.take k)) k (putAll (.map []) (l.take k)) x1 x2 _ HCXA.out HKEY.out hsm (by omega) HTK.out HNW.out).mono ?_
        rintro e w7 ⟨rfl, hcx7, hbut7⟩
        have HCX7 : Hid (CatAt w7 Px Mx 2 (totB (l.take (k + 1))) (k + 1) (putAll (.map []) (l.take (k + 1)))) := by
          show CatAt _ _ _ _ _ _ _
          rw [HTOT.out, HPUT.out]; exact hcx7
        have hbut7' := hbuta.trans hbut7
        clear hcx7 hbut7 hbuta HCXA hbut
        go_wp2_with fail
        go_roundg (gk - 1)
        case measure => have := HK.out; omega
        case rel => exact ⟨k + 1, show k + 1 + (gk - 1) = l.length by have := HK.out; omega, by go_num, HCX7.out, hbut7'⟩
      · have hke : l.take k = l := List.take_of_length_le (by omega)
        have hkl : k = l.length := by omega
        rw [hke] at HCX
        clear hke
        have HCYR := Lib.hid (HCY5.out.but hbut (fun e => HNE.out.1 e.symm) (fun e => HNE.out.2.2.1 e.symm) (fun e => HNE.out.2.1 e.symm) (fun e => HNE.out.2.2.2 e.symm))
        have hsr := hs5.but hbut (by omega) (by omega)
        have hbr : Below w.heap.size w wr := hbut.below hb5' (by omega) (by omega) (Nat.le_refl _)
        obtain ⟨wo, rfl⟩ : ∃ wo : World, wo = wr := ⟨_, rfl⟩
        obtain ⟨ko, rfl⟩ : ∃ ko : Nat, ko = gk := ⟨_, rfl⟩
        clear HCY5 HCX5 HAT5 hs5 hb5' hbut HK hkn hlt
        go_wp2_with fail
        refine (add_any Py My 2 0 0 (.map []) ⟨#[122, 122]⟩ ⟨#[97, 32, 98, 32, 99]⟩ wo HCYR.out zB_key (by decide) (by omega) (by decide) rfl).mono ?_
        rintro e w6 ⟨rfl, hcy6, hbut6⟩
        have HCY6 : Hid (CatAt w6 Py My 2 (0 + 5) 1 ((DataW.map []).put (keyB zB) (txtB zB))) := hcy6
        have HCX6 := Lib.hid (HCX.out.but hbut6 HNE.out.1 HNE.out.2.1 HNE.out.2.2.1 HNE.out.2.2.2)
        have HAT6 := Lib.hid (HATR.out.but hbut6 (fun g off e => by have := HA4.out g off e; omega))
        have hs6 := hsr.but hbut6 (by omega) (by omega)
        have hb6 : Below w.heap.size w w6 := hbut6.below hbr (by omega) (by omega) (Nat.le_refl _)
        have hz6 := hbut6.size
        clear hcy6 hbut6 HCX HATR HCYR hsr hbr
        go_wp2_with fail
        refine (order_any w.heap.size A n c _ l.length w6 hs6 (by omega) (by omega)).mono ?_
        rintro e w7 ⟨v63, o, rfl, hown7, hperm, hs7, hg7⟩
        have hol : o.length = l.length := by have := hperm.length_eq; simpa using this
        obtain ⟨A63, c63, rfl, q1, hat7, hnew7⟩ := hown7.at_ intE_ok
        have HNW7 : Hid (∀ g off, A63 = some ⟨g, off, none⟩ → w6.heap.size ≤ g) := fun g off e => (hnew7 g off e).2
        have HATO := Lib.hid hat7
        have HCX7 := Lib.hid (HCX6.out.grown hg7 (by omega) (by omega))
        have HCY7 := Lib.hid (HCY6.out.grown hg7 (by omega) (by omega))
        have HAT7 := Lib.hid (HAT6.out.grown hg7 (fun g off e he => by have := HA4.out g off e; cases he; omega))
        have hb7 : Below w.heap.size w w7 := hb6.grown hg7 hb6.size hrr
        have hz7 := hg7.size
        have HPERM := Lib.hid hperm
        have HPL := Lib.hid (byOrder_perm l o hperm)
        have HOL := Lib.hid hol
        clear q1 hat7 hnew7 hown7 hperm HCX6 HCY6 HAT6 hs6 hb6 hg7 hol
        have hBO : (byOrder l o).length = l.length := HPL.out.length_eq
        have HAPM : Hid ((byOrder l o).Pairwise fun x y => x.1 ≠ y.1) := (HPL.out.pairwise_iff (fun h e => h e.symm)).2 HR.out.apart
        have hTM : totB (byOrder l o) = totB l := totB_perm HPL.out
        have htot5 : totB l ≤ 100000 := by have := totB_le l 20000 (fun x hx => HR.out.small x hx); omega
        generalize hbo : byOrder l o = l2 at *
        have HORD : Hid (∀ (j : Nat) (z : Int), o[j]? = some z → ∃ (i : Nat) (x : Body2), z = (i : Int) ∧ l[i]? = some x ∧ l2[j]? = some x) := fun j z hz => by rw [← hbo]; exact order_at l o HPERM.out j z hz
        clear hbo
        go_wp2_with fail
        go_loopg [65] l.length (fun gk i wr => ∃ j : Nat, Hid (j + gk = l.length) ∧ i = .int .i64 j ∧ Hid (CatAt wr Py My 2 (totB (l2.take j) + 5) (1 + j) (putAll ((DataW.map []).put (keyB zB) (txtB zB)) (l2.take j))) ∧ But2 Py My w7 wr)
        case atStart => exact ⟨0, show 0 + l.length = l.length by omega, rfl, HCY7.out, But2.of_below (Below.refl _ _)⟩
        case round =>
          obtain ⟨j, HJ, rfl, HCY, hbut⟩ := hrel
          have hjn : j ≤ l.length := by have := HJ.out; omega
          have hzr7 := hbut.size
          have HATR := Lib.hid (HAT7.out.but hbut (fun g off e => by have := HA4.out g off e; omega))
          have HATOR := Lib.hid (HATO.out.but hbut (fun g off e => by have := HNW7.out g off e; omega))
          by_cases hlt : j < l.length
          · obtain ⟨z, hz⟩ : ∃ z, o[j]? = some z := ⟨_, List.getElem?_eq_getElem (by have := HOL.out; omega)⟩
            obtain ⟨i, x, rfl, hx, hx2⟩ := HORD.out j z hz
            have hil := (List.getElem?_eq_some_iff.1 hx).1
            have hmem := List.mem_of_getElem? hx
            have HTOT : Hid (totB (l2.take (j + 1)) = totB (l2.take j) + x.2.size) := by
              show _ = _
              obtain ⟨h1, h2⟩ := List.getElem?_eq_some_iff.1 hx2
              rw [List.take_succ_eq_append_getElem h1, totB_append, h2]
              simp [totB]
            have HPUT : Hid (putAll ((DataW.map []).put (keyB zB) (txtB zB)) (l2.take (j + 1)) = (putAll ((DataW.map []).put (keyB zB) (txtB zB)) (l2.take j)).put (.string x.1.data.toList) (.lit (.string x.2.data.toList))) := by
              show _ = _
              obtain ⟨h1, h2⟩ := List.getElem?_eq_some_iff.1 hx2
              rw [List.take_succ_eq_append_getElem h1, putAll_snoc, h2]
              rfl
            have HKEY := Lib.hid (HR.out.key x hmem)
            have hsm := HR.out.small x hmem
            have htk : totB (l2.take j) + x.2.size ≤ 100000 := by rw [← HTOT.out]; have := totB_take l2 (j + 1); omega
            have HNW := Lib.hid (new_in HAPM.out (D := (DataW.map []).put (keyB zB) (txtB zB)) (isMap_empty.put _ _) j x hx2 (by rw [has_put_other (keyB_ne (HZ.out.2 x hmem))]; rfl))
            have hop : 0 < o.length := by have := HOL.out; omega
            obtain ⟨gO, oO, hA, hgO, hcO⟩ := HATOR.out.2.2.2 hop
            subst hA
            have d0 := hcO j i 0 _ hz rfl
            have hszi : IntE.size = 1 := rfl
            rw [hszi, Nat.mul_one, Nat.add_zero] at d0
            obtain ⟨gA, oA, hA, hgA, hcA⟩ := HATR.out.2.2.2 (by omega)
            subst hA
            have c0 := hcA i x 0 _ hx rfl
            have c1 := hcA i x 1 _ hx rfl
            have hsz : BodyE.size = 2 := rfl
            rw [hsz] at c0 c1
            rw [Nat.add_zero] at c0
            clear hsz hszi hcA hcO hx hx2 hz hmem
            obtain ⟨x1, x2⟩ := x
            simp only at *
            have hjo : (j : Int) < (o.length : Int) := by have := HOL.out; omega
            have hilI : (i : Int) < (l.length : Int) := by omega
            go_wp2_with fail
            refine (add_any Py My 2 (totB (l2.take j) + 5) (1 + j) _ x1 x2 wr HCY.out HKEY.out hsm (by omega) (by omega) HNW.out).mono ?_
            rintro e w9 ⟨rfl, hcy9, hbut9⟩
            have HCY9 : Hid (CatAt w9 Py My 2 (totB (l2.take (j + 1)) + 5) (1 + (j + 1)) (putAll ((DataW.map []).put (keyB zB) (txtB zB)) (l2.take (j + 1)))) := by
              show CatAt _ _ _ _ _ _ _
              rw [HTOT.out, HPUT.out, show totB (l2.take j) + x2.size + 5 = totB (l2.take j) + 5 + x2.size by omega]
              exact hcy9
            have hbut9' := hbut.trans hbut9
            clear hcy9 hbut9 hbut
            go_wp2_with fail
            go_roundg (gk - 1)
            case measure => have := HJ.out; omega
            case rel => exact ⟨j + 1, show j + 1 + (gk - 1) = l.length by have := HJ.out; omega, by go_num, HCY9.out, hbut9'⟩
          · have hke : l2.take j = l2 := List.take_of_length_le (by omega)
            rw [hke] at HCY
            clear hke
            have HCXR := Lib.hid (HCX7.out.but hbut HNE.out.1 HNE.out.2.1 HNE.out.2.2.1 HNE.out.2.2.2)
            have hsr := hs7.but hbut (by omega) (by omega)
            have hbr : Below w.heap.size w wr := hbut.below hb7 (by omega) (by omega) (Nat.le_refl _)
            have hjo : ¬ (j : Int) < (o.length : Int) := by have := HOL.out; omega
            have HHZ : Hid (has (putAll ((DataW.map []).put (keyB zB) (txtB zB)) l2) (keyB zB) = true) := by
              show _ = _
              rw [has_putAll (isMap_empty.put _ _), has_put_same isMap_empty (isKey_B zB)]; rfl
            have HAZ : Hid ((putAll ((DataW.map []).put (keyB zB) (txtB zB)) l2).atKey (keyB zB) (.lit (.string [])) = .lit (.string zB.2.data.toList)) := by
              show _ = _
              rw [atKey_putAll_other _ _ _ (fun x hx => keyB_ne (HZ.out.2 x (HPL.out.mem_iff.1 hx))), atKey_put_same isMap_empty (isKey_B zB)]; rfl
            clear HCX7 HCY7 HAT7 HATO hs7 hb7 hbut HATR HATOR
            go_wp2_with fail
            refine (remove_any Py My 2 (totB l2) (1 + j) _ ⟨#[122, 122]⟩ ⟨#[97, 32, 98, 32, 99]⟩ wr HCY.out (by decide) (by show totB l2 + 5 ≤ _; omega) HHZ.out HAZ.out).mono ?_
            rintro e w8 ⟨rfl, hcy8, hbut8⟩
            have HCX8 := Lib.hid (HCXR.out.but hbut8 HNE.out.1 HNE.out.2.1 HNE.out.2.2.1 HNE.out.2.2.2)
            have heq := same_catalog HPL.out HR.out.apart zB (fun x hx => HZ.out.2 x hx) (HCX8.out.map.canon keyS) (hcy8.map.canon keyS)
            have HCY8 : Hid (CatAt w8 Py My 2 (totB l2) (1 + j) (putAll (.map []) l)) := by
              show CatAt _ _ _ _ _ _ _
              rw [heq]; exact hcy8
            have HSM := Lib.hid (small_catalog HR.out HOK.out)
            have hs8 := hsr.but hbut8 (by omega) (by omega)
            have hb8 : Below w.heap.size w w8 := hbut8.below hbr (by omega) (by omega) (Nat.le_refl _)
            have hz8 := hbut8.size
            clear hcy8 heq hbut8 HCY HCXR hsr hbr HHZ HAZ
            generalize putAll (.map []) l = D at *
            go_wp2_with fail
            refine (prose_any w.heap.size A n c _ 10 w8 hs8 (by omega) (by omega)).mono ?_
            rintro e w9 ⟨t, rfl, ht, hs9, hg9⟩
            have HCX9 := Lib.hid (HCX8.out.grown hg9 (by omega) (by omega))
            have HCY9 := Lib.hid (HCY8.out.grown hg9 (by omega) (by omega))
            have hb9 : Below w.heap.size w w9 := hb8.grown hg9 hb8.size hrr
            clear HCX8 HCY8 hb8 hs8 hs9 hg9
            go_wp2_with fail
            refine (near_any Px Mx 2 (totB l) k D t least w9 HCX9.out (by omega) HSM.out (by omega) (by omega) (by omega) (by omega) (by omega)).mono ?_
            rintro e w10 ⟨Am, nm, cm, rfl, hnm, hatm, hb10⟩
            have HATM := Lib.hid hatm
            have HCX10 := Lib.hid (HCX9.out.keep hb10)
            have HCY10 := Lib.hid (HCY9.out.keep hb10)
            have hb10' : Below w.heap.size w w10 := below_trans' hb9 hb10
            clear hatm HCX9 HCY9 hb9 hb10
            go_wp2_with fail
            refine (near_any Py My 2 (totB l2) (1 + j) D t least w10 HCY10.out (by omega) HSM.out (by omega) (by omega) (by omega) (by omega) (by omega)).mono ?_
            rintro e w11 ⟨An, nn, cn, rfl, hnn, hatn, hb11⟩
            have HATN := Lib.hid hatn
            have HATM11 := Lib.hid (HATM.out.keep hb11)
            have HCX11 := Lib.hid (HCX10.out.keep hb11)
            have HCY11 := Lib.hid (HCY10.out.keep hb11)
            have hb11' : Below w.heap.size w w11 := below_trans' hb10' hb11
            clear hatn HATM HCX10 HCY10 hb10' hb11
            generalize sortM (nearL D 2 t.data.toList least) = L at *
            go_wp2_with fail
            refine (nears_any w11).mono ?_
            rintro e w12 ⟨rfl, hb12⟩
            have HATM12 := Lib.hid (HATM11.out.keep hb12)
            have HATN12 := Lib.hid (HATN.out.keep hb12)
            have HCX12 := Lib.hid (HCX11.out.keep hb12)
            have HCY12 := Lib.hid (HCY11.out.keep hb12)
            have hb12' : Below w.heap.size w w12 := below_trans' hb11' hb12
            clear HATM11 HATN HCX11 HCY11 hb11' hb12
            go_wp2_with fail
            refine (equalM_any Am An nm cm nn cn L w12 HATM12.out HATN12.out (by omega)).mono ?_
            rintro e w13 ⟨rfl, hb13⟩
            have HCX13 := Lib.hid (HCX12.out.keep hb13)
            have HCY13 := Lib.hid (HCY12.out.keep hb13)
            have hb13' : Below w.heap.size w w13 := below_trans' hb12' hb13
            clear HATM12 HATN12 HCX12 HCY12 hb12' hb13
            go_wp2_with fail
            refine (ids_any Px Mx 2 (totB l) k D w13 HCX13.out (by omega)).mono ?_
            rintro e w14 ⟨v112, rfl, hown14, hb14⟩
            obtain ⟨A112, c112, rfl, q1, hat14, q2⟩ := hown14.at_ strE_ok
            have HAT14 := Lib.hid hat14
            have HCY14 := Lib.hid (HCY13.out.keep hb14)
            have hb14' : Below w.heap.size w w14 := below_trans' hb13' hb14
            clear q1 q2 hat14 hown14 HCX13 HCY13 hb13' hb14
            go_wp2_with fail
            refine (ids_any Py My 2 (totB l2) (1 + j) D w14 HCY14.out (by omega)).mono ?_
            rintro e w15 ⟨v114, rfl, hown15, hb15⟩
            obtain ⟨A114, c114, rfl, q1, hat15, q2⟩ := hown15.at_ strE_ok
            have HAT15 := Lib.hid hat15
            have HAT1415 := Lib.hid (HAT14.out.keep hb15)
            have hb15' : Below w.heap.size w w15 := below_trans' hb14' hb15
            have hkl2 : (sortK (strKeys D)).length ≤ 19 := by
              have h1 := strKeys_len D
              have h2 := HCY14.out.map.size_le
              unfold sortK
              rw [List.length_mergeSort]
              omega
            clear q1 q2 hat15 hown15 HAT14 HCY14 hb14' hb15
            generalize sortK (strKeys D) = ids at *
            go_wp2_with fail
            refine (equal_any A112 A114 ids.length c112 ids.length c114 ids ids w15 HAT1415.out HAT15.out (by omega) (by omega)).mono ?_
            rintro e w16 ⟨rfl, q, rfl⟩
            rw [decide_eq_true rfl]
            go_wp2_with fail
            go_ret
            exact ⟨rfl, below_drewN hb15' q⟩
  · have hfb : (faultL l != 0) = true := by simpa using hf
    generalize faultL l = z at *
    go_wp2_with fail
    refine (nears_any w3).mono ?_
    rintro e1 w4 ⟨rfl, hb4⟩
    go_wp2_with fail
    go_ret
    exact ⟨rfl, below_trans' hb3' hb4⟩

end Go.Proofs.YtehhigcdeahopaaGreatDoor
