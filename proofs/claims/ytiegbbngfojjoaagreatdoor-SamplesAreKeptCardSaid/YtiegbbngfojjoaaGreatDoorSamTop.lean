
/-
  What Range returns; what Pick is given.
  slices.EqualFunc at tables that read the same.
  LeastOf leaves some of the names, in their order.
  What SplitOf returns of ids at the weights 1 and 2.
  SamplesAreKept returns true.
-/
import Derived.Test.YtiegbbngfojjoaaGreatDoorStream
import Derived.Test.YtiegbbngfojjoaaGreatDoorElems
import Derived.Deep.DrawnRows
import Derived.Test.YtiegbbngfojjoaaGreatDoorTab
import Derived.Test.YtiegbbngfojjoaaGreatDoorLeast
import Derived.Deep.RegionHeld3
import Derived.Test.YtiegbbngfojjoaaGreatDoorSplit
import Derived.Test.YtiegbbngfojjoaaGreatDoorStrata
import Derived.Test.YtiegbbngfojjoaaGreatDoorStands
import Derived.Test.YtiegbbngfojjoaaGreatDoorStreamNew

namespace Go.Proofs.YtiegbbngfojjoaaGreatDoor
open Go.RowKit
attribute [local go_sem ↓] Go.wp_at_zero Go.wp_at_succ

def RangeR (w : World) (g : Nat) (A : Option Addr) (n c K : Nat) (lo hi : Int) (e : Ending) (w' : World) : Prop :=
  ∃ r : Int, e = .returned (.int .i64 r) ∧ lo ≤ r ∧ r ≤ hi ∧ StreamAt w' g A n c (K + 1) ∧ w.grownBy w' (some g)
set_option maxHeartbeats 800000 in
theorem rangeR_any (g : Nat) (A : Option Addr) (n c K : Nat) (lo hi : Int) (w : World) (hs : StreamAt w g A n c K) (hK : K ≤ 1000000) (h0 : -1000000 ≤ lo) (h1 : lo ≤ hi) (h2 : hi ≤ 1000000) :
    Calls Tryz.prog 18 #[.pointer (some ⟨g, 0, none⟩), .int .i64 lo, .int .i64 hi] w (RangeR w g A n c K lo hi) := by
  have hni : ¬ hi < lo := by omega
  have e1 : IntKind.i64.wrap (hi - lo) = hi - lo := IntWalk.i64_in _ (by omega)
  have e2 : IntKind.i64.wrap (hi - lo + 1) = hi - lo + 1 := IntWalk.i64_in _ (by omega)
  go_enter Tryz.func18, Tryz.ntmps18
  go_wp2_with fail
  refine (next_any g A n c K (hi - lo + 1) w hs hK (by omega)).mono ?_
  rintro e w2 ⟨r, rfl, hr0, hr1, hs2, hg2⟩
  have hr1 := hr1 (by omega)
  have e3 : IntKind.i64.wrap (lo + r) = lo + r := IntWalk.i64_in _ (by omega)
  go_wp2_with fail
  go_ret
  exact ⟨lo + r, rfl, by omega, by omega, hs2, hg2⟩
theorem pickR_cells (w : World) (zs : List Int) (t : TypeId) : ∀ j, j < zs.length → (w.alloc (.cells (zs.map (Value.int .i64)).toArray t)).cell? ⟨w.heap.size, j, none⟩ = some (.int .i64 (zs.getD j 0)) := by
  intro j hj
  rw [World.cell?_alloc_at _ _ _ _ rfl]
  simp [hj]
end Go.Proofs.YtiegbbngfojjoaaGreatDoor

namespace Go.Proofs.YtiegbbngfojjoaaGreatDoor
open Go.RowKit

theorem ElemsAt.low {α : Type} {E : Elem α} {w w' : World} {A : Option Addr} {n c B : Nat} {l : List α} (h : ElemsAt E w A n c l) (hb : Below B w w') (ha : ∀ g off, A = some ⟨g, off, none⟩ → g < B) : ElemsAt E w' A n c l := by
  refine ⟨h.1, h.2.1, h.2.2.1, fun h0 => ?_⟩
  obtain ⟨g, off, rfl, hg, hc⟩ := h.2.2.2 h0
  exact ⟨g, off, rfl, Nat.lt_of_lt_of_le hg hb.size, fun k x i v hk hv => (hb.cell (p := ⟨g, _, none⟩) (ha g off rfl)).trans (hc k x i v hk hv)⟩
theorem equal_sameT (A B : Option Addr) (n c m d : Nat) (l : List (List UInt8)) (w : World) (h : StrsAt w A n c l) (h' : StrsAt w B m d l) (hn : n ≤ 100000) (hm : m ≤ 100000) :
    Calls Tryz.prog 16 #[.slice A n c, .slice B m d] w fun e w' => e = .returned (.bool true) ∧ Below w.heap.size w w' :=
  (equal_any A B n c m d l l w h h' hn hm).mono fun e w' h => ⟨by rw [h.1]; simp, by obtain ⟨q, hq⟩ := h.2; rw [hq]; exact below_drewN (Below.refl _ _) q⟩
set_option maxHeartbeats 1600000 in
set_option maxRecDepth 100000 in
theorem equalFuncT_any (A B : Option Addr) (n c m d : Nat) (T : List (List Str)) (w : World) (hA : TabAt w A n c T) (hB : TabAt w B m d T) (hs : T.length ≤ 1000 ∧ ∀ r ∈ T, r.length ≤ 1000) :
    Calls Tryz.prog 35 #[.slice A n c, .slice B m d, .func (.func 16) #[] #[]] w fun e w' => e = .returned (.bool true) ∧ Below w.heap.size w w' := by
  have hnm : n = m := by rw [hA.len, hB.len]
  subst hnm
  have HN := Lib.hid hA.len
  have hn : n ≤ 1000 := by have := HN.out; have := hs.1; omega
  have HA := Lib.hid hA
  have HB := Lib.hid hB
  have HSM := Lib.hid hs
  clear hA hB hs
  go_enter Tryz.func35, Tryz.ntmps35
  go_wp2_with fail
  go_loopg [17] n (fun gk v wr => ∃ k : Nat, Hid (k + gk = n) ∧ v = .int .i64 (k : Int) ∧ Hid (Below w.heap.size w wr))
  case atStart => exact ⟨0, show 0 + n = n by omega, rfl, Below.refl _ _⟩
  case round =>
    obtain ⟨k, HK, rfl, HW⟩ := hrel
    have hkn : k ≤ n := by have := HK.out; omega
    have HGK := Lib.hid (show k < n → k + 1 + (gk - 1) = n ∧ 0 < gk by have := HK.out; omega)
    by_cases hlt : k < n
    · obtain ⟨gA, oA, rfl, hgA, hcA⟩ := (TabAt.keep HA.out HW.out).row (by omega)
      obtain ⟨R, rn, rc, hck, hRow⟩ := hcA k hlt
      obtain ⟨gB, oB, rfl, hgB, hcB⟩ := (TabAt.keep HB.out HW.out).row (by omega)
      obtain ⟨R2, rn2, rc2, hck2, hRow2⟩ := hcB k hlt
      have hkl : k < T.length := by have := HN.out; omega
      have hgk : T.getD k [] = T[k] := by rw [List.getD_eq_getElem?_getD, List.getElem?_eq_getElem hkl]; rfl
      have hsr := HSM.out.2 T[k] (List.getElem_mem hkl)
      rw [hgk] at hRow hRow2
      have h1 := hRow.1
      have h2 := hRow2.1
      have HEQ := Lib.hid (equal_sameT R R2 rn rc rn2 rc2 T[k] wr hRow hRow2 (by omega) (by omega))
      clear hcA hcB hRow hRow2 hgk hsr h1 h2
      go_wp2_with fail
      refine HEQ.out.mono ?_
      rintro e w' ⟨rfl, hw⟩
      have HW2 := Lib.hid (HW.out.trans (hw.mono HW.out.size))
      clear hw HEQ hck hck2
      go_wp2_with fail
      go_roundg (gk - 1)
      case measure => exact Nat.sub_lt (HGK.out hlt).2 Nat.one_pos
      case rel => exact ⟨k + 1, (HGK.out hlt).1, by go_num, HW2.out⟩
    · have hnk : ¬ (k : Int) < (n : Int) := by omega
      obtain rfl : k = n := by omega
      go_wp2_with fail
      go_ret
      exact ⟨rfl, HW.out⟩
end Go.Proofs.YtiegbbngfojjoaaGreatDoor

namespace Go.Proofs.YtiegbbngfojjoaaGreatDoor
open Go.RowKit
attribute [local go_sem ↓] Go.wp_at_zero Go.wp_at_succ

theorem hashOf_some (sd : ByteArray) (hsd : sd.size ≤ 1000) (x : List UInt8) (h : x.length ≤ 1000) (wx : World) : Calls Tryz.prog 53 #[.string ⟨x.toArray⟩, .string sd] wx fun e w' => ∃ z, e = .returned (.int .i64 z) ∧ Below wx.heap.size wx w' := by
  refine (hashOf_any ⟨x.toArray⟩ sd wx (by simpa [ByteArray.size] using h) hsd).mono ?_
  rintro e w' ⟨rfl, hb⟩
  exact ⟨_, rfl, hb⟩
theorem Owns.strAt {w : World} {base n c : Nat} {A : Option Addr} {l : List (List UInt8)} (h : OwnStrs w base (.slice A n c) l) (h0 : 0 < l.length) : ∃ G, A = some ⟨G, 0, none⟩ ∧ base ≤ G ∧ G < w.heap.size ∧ n = l.length ∧ n ≤ c ∧ ∀ k, k < l.length → w.cell? ⟨G, k, none⟩ = some (.string ⟨(l.getD k []).toArray⟩) := by
  obtain ⟨A', c', e, hc, hat, hG⟩ := h.at_ strE_ok
  simp only [Value.slice.injEq] at e
  obtain ⟨rfl, rfl, rfl⟩ := e
  obtain ⟨g, off, rfl, hg, hcell⟩ := hat.str h0
  obtain ⟨rfl, hb⟩ := hG g off rfl
  exact ⟨g, rfl, hb, hg, rfl, hat.2.1, fun k hk => by have := hcell k hk; rwa [Nat.zero_add] at this⟩
def LeastPost (w : World) (l : List (List UInt8)) (e : Ending) (w' : World) : Prop := ∃ v l', e = .returned v ∧ OwnStrs w' w.heap.size v l' ∧ l'.Sublist l ∧ Below w.heap.size w w'
set_option maxHeartbeats 3200000 in
set_option maxRecDepth 100000 in
theorem leastOf_any (sd : ByteArray) (hsd : sd.size ≤ 1000) (A : Option Addr) (n c m : Nat) (l : List (List UInt8)) (w : World) (h : StrsAt w A n c l) (hn : n ≤ 50) (hsz : ∀ x ∈ l, x.length ≤ 1000) (hm : m ≤ 1000) :
    Calls Tryz.prog 30 #[.slice A n c, .string sd, .int .i64 (m : Int)] w (LeastPost w l) := by
  have hnl := h.1
  have HC := Lib.hid (clone_any A n c l w h (by omega))
  have HZ := Lib.hid hsz
  have HNL := Lib.hid hnl
  clear h hsz hnl
  go_enter Tryz.func30, Tryz.ntmps30
  go_wp2_with fail
  refine HC.out.mono ?_
  rintro e w1 ⟨v, rfl, hown, hb1⟩
  have HO1 := Lib.hid hown
  have HB1 := Lib.hid hb1
  clear hown hb1 HC
  go_wp2_with fail
  go_loopg [7] n (fun gk v7 wr => ∃ l', Hid (l'.length = gk) ∧ Hid (OwnStrs wr w.heap.size v7 l') ∧ Hid (l'.Sublist l) ∧ Hid (Below w.heap.size w wr))
  case atStart => exact ⟨l, HNL.out.symm, HO1.out, List.Sublist.refl _, HB1.out⟩
  case round =>
    obtain ⟨l', HL, HO, HSB, HB⟩ := hrel
    clear HO1 HB1
    have hl50 : l'.length ≤ 50 := by have := HSB.out.length_le; have := HNL.out; omega
    obtain ⟨A', c', rfl, hc', hat', hG'⟩ := HO.out.at_ strE_ok
    clear hat' hG'
    by_cases hgt : m < l'.length
    · have hgti : (m : Int) < (l'.length : Int) := by omega
      obtain ⟨G, rfl, hG1, hG2, _, hlc, hcell⟩ := HO.out.strAt (by omega)
      have HCE := Lib.hid hcell; clear hcell
      have hgk := HL.out
      have hl0 : 0 < l'.length := by omega
      clear hgk
      go_wp2_with fail
      generalize wr = w2 at *
      generalize gk = g2 at *
      go_loopg [8, 19] l'.length (fun gk v8 i wx => ∃ k at_ : Nat, Hid (k + gk = l'.length) ∧ i = .int .i64 (k : Int) ∧ v8 = .int .i64 (at_ : Int) ∧ Hid (at_ < l'.length) ∧ Hid (Below w2.heap.size w2 wx))
      case atStart => exact ⟨0, 0, show 0 + l'.length = l'.length by omega, rfl, rfl, hl0, Below.refl _ _⟩
      case round =>
        obtain ⟨k, at_, HG, rfl, rfl, HAT, HBX⟩ := hrel
        have hkl : k ≤ l'.length := by have := HG.out; omega
        have hat := HAT.out
        by_cases hlt : k < l'.length
        · have hck := (HBX.out.cell (p := ⟨G, k, none⟩) hG2).trans (HCE.out k hlt)
          have hca := (HBX.out.cell (p := ⟨G, at_, none⟩) hG2).trans (HCE.out at_ hat)
          have hx : ∀ j, j < l'.length → (l'.getD j []).length ≤ 1000 := fun j hj => HZ.out _ (HSB.out.subset (by rw [List.getD_eq_getElem?_getD, List.getElem?_eq_getElem hj]; exact List.getElem_mem hj))
          have HX := Lib.hid (hashOf_some sd hsd (l'.getD k []) (hx k hlt))
          have HY := Lib.hid (hashOf_some sd hsd (l'.getD at_ []) (hx at_ hat))
          generalize l'.getD k [] = x at *
          generalize l'.getD at_ [] = y at *
          clear hx
          go_upto_region 7 with (fail)
          go_cut [33] (fun v wx => (∃ bb : Bool, v = .bool bb) ∧ Below wr.heap.size wr wx)
          case first =>
            have HHELD : Hid (∀ w', Below wr.heap.size wr w' → w'.cell? ⟨G, at_, none⟩ = some (.string ⟨y.toArray⟩)) := fun w' hw => (hw.cell (p := ⟨G, at_, none⟩) (Nat.lt_of_lt_of_le hG2 HBX.out.size)).trans hca
            clear hck
            go_region_held3 (fun w' => w'.cell? ⟨G, at_, none⟩ = some (.string ⟨y.toArray⟩))
              (first | assumption | exact HHELD.out _ ((Below.refl _ _).drew) | exact HHELD.out _ hx0 | exact HHELD.out _ hy0)
              (first
                | (go_at_call 53; (with_reducible refine Calls.mono (HX.out _) ?_); rintro e wx ⟨z1, rfl, hbx⟩; have hx0 : Below wr.heap.size wr wx := (by first | exact below_trans' hy0 hbx | exact below_undr hbx); clear hbx)
                | (go_at_call 53; (with_reducible refine Calls.mono (HY.out _) ?_); rintro e wy ⟨z2, rfl, hby⟩; have hy0 : Below wr.heap.size wr wy := (by first | exact below_trans' hx0 hby | exact below_undr hby); clear hby))
            all_goals
              go_wp2_with fail
              go_meet
              first
                | exact ⟨⟨_, rfl⟩, hx0⟩
                | exact ⟨⟨_, rfl⟩, hy0⟩
          case rest =>
            obtain ⟨⟨bb, rfl⟩, hbc⟩ := hcut
            have HBC := Lib.hid (below_trans' HBX.out hbc)
            clear hck hca hbc HX HY
            cases bb
            · go_wp2_with fail
              go_roundg (gk - 1)
              case measure => have := HG.out; omega
              case rel => exact ⟨k + 1, at_, show k + 1 + (gk - 1) = _ by have := HG.out; omega, by go_num, rfl, HAT.out, HBC.out⟩
            · go_wp2_with fail
              go_roundg (gk - 1)
              case measure => have := HG.out; omega
              case rel => exact ⟨k + 1, k, show k + 1 + (gk - 1) = _ by have := HG.out; omega, by go_num, rfl, hlt, HBC.out⟩
        · have hkk : ¬ (k : Int) < (l'.length : Int) := by omega
          have HO2 : Hid (OwnStrs wr w.heap.size (.slice (some ⟨G, 0, none⟩) l'.length c') l') := HO.out.below_ HBX.out
          have HD := Lib.hid (delete_one w.heap.size c' at_ _ l' wr HO2.out hat)
          rw [show ((at_ + 1 : Nat) : Int) = (at_ : Int) + 1 by simp] at HD
          have HBW := Lib.hid (below_trans' HB.out HBX.out)
          go_wp2_with fail
          refine HD.out.mono ?_
          rintro e w5 ⟨v5, rfl, ho5, G5, hg5, hb5⟩
          have HO5 := Lib.hid ho5
          have hbf := HBW.out.grown hg5 HBW.out.size (fun i e => by have := Option.some.inj e; omega)
          have HBF := Lib.hid hbf
          clear ho5 hg5 hb5 hbf
          go_wp2_with fail
          go_roundg (g2 - 1)
          case measure => have := HL.out; omega
          case rel => exact ⟨l'.eraseIdx at_, show _ = _ by rw [List.length_eraseIdx, if_pos hat]; have := HL.out; omega, HO5.out, (List.eraseIdx_sublist _ _).trans HSB.out, HBF.out⟩
    · have hgti : ¬ (l'.length : Int) > (m : Int) := by omega
      have HF : Hid (LeastPost w l (.returned (.slice A' l'.length c')) wr) := ⟨_, l', rfl, HO.out, HSB.out, HB.out⟩
      go_wp2_with fail
      go_ret
      exact HF.out
end Go.Proofs.YtiegbbngfojjoaaGreatDoor

namespace Go.Proofs.YtiegbbngfojjoaaGreatDoor
open Go.RowKit
attribute [local go_sem ↓] Go.wp_at_zero Go.wp_at_succ

def hashO1 (x : List UInt8) : Int := hashO (oneK ++ 32 :: x)
theorem hashOf_one (x : List UInt8) (h : x.length ≤ 1000) (wx : World) : Calls Tryz.prog 53 #[.string ⟨x.toArray⟩, .string ⟨#[111, 110, 101]⟩] wx fun e w' => e = .returned (.int .i64 (hashO (oneK ++ 32 :: x))) ∧ Below wx.heap.size wx w' := by
  have k := hashOf_any ⟨x.toArray⟩ ⟨#[111, 110, 101]⟩ wx (by simpa [ByteArray.size] using h) (by decide)
  have e : (⟨#[111, 110, 101]⟩ : ByteArray).data.toList ++ 32 :: (⟨x.toArray⟩ : ByteArray).data.toList = oneK ++ 32 :: x := by simp
  rw [e] at k
  exact k
def SplitOfPost (w : World) (l : List (List UInt8)) (e : Ending) (w' : World) : Prop := ∃ v, e = .returned v ∧ SplitRows w w' v l oneB
set_option maxHeartbeats 3200000 in
set_option maxRecDepth 100000 in
theorem splitOf_any (A : Option Addr) (n c g : Nat) (l : List (List UInt8)) (w : World) (h : StrsAt w A n c l) (hn : n ≤ 100) (hk : ∀ x ∈ l, x.length ≤ 1000) (he : ∀ x ∈ l, hashO (oneK ++ 32 :: x) = hashN (oneK ++ 32 :: x)) (hW : WtAt w g) :
    Calls Tryz.prog 36 #[.slice A n c, .string ⟨#[111, 110, 101]⟩, .slice (some ⟨g, 0, none⟩) 2 2] w (SplitOfPost w l) := by
  have HN := Lib.hid h.1
  have HH := Lib.hid h
  have HK := Lib.hid hk
  have HE := Lib.hid he
  have HW := Lib.hid hW
  have HG := Lib.hid hW.1
  obtain ⟨_, c0, c1⟩ := hW
  clear h hk he
  obtain ⟨wb, hmk, hpa, hbb, hzb⟩ := make_two w
  have d0 := (hbb.cell (p := ⟨g, 0, none⟩) HG.out).trans c0
  have d1 := (hbb.cell (p := ⟨g, 1, none⟩) HG.out).trans c1
  have HB := Lib.hid hbb
  have HP := Lib.hid hpa
  have HZ := Lib.hid hzb
  clear hbb hpa hzb
  go_enter Tryz.func36, Tryz.ntmps36
  go_wp2_with fail
  refine wp_loop_rounds 3 ?_
  rw [rounds_succ]
  go_wp2_with fail
  rw [rounds_succ]
  go_wp2_with fail
  rw [rounds_succ]
  go_wp2_with fail
  clear hmk c0 c1 d0 d1
  have hz3 : w.heap.size ≤ w.heap.size := Nat.le_refl _
  obtain ⟨G, hGe⟩ : ∃ G, G = w.heap.size := ⟨_, rfl⟩
  rw [← hGe] at HP HB ⊢
  have hz3 : w.heap.size ≤ G := by omega
  have HBB : Hid (Below w.heap.size w wb) := by show Below _ _ _; rw [← hGe]; exact HB.out
  clear HB
  have HGG : Hid (g < G) := by show _ < _; rw [hGe]; exact HG.out
  clear hGe
  go_loopg [31] n (fun gk v wr => ∃ (k : Nat) (r0 r1 : HdS), Hid (k + gk = n) ∧ v = .int .i64 (k : Int) ∧ Hid (ParasAt wr G (.slice (some ⟨G, 0, none⟩) 2 2) [r0, r1] [(l.take k).filter oneB, (l.take k).filter fun x => !oneB x]) ∧ Hid (Below w.heap.size w wr))
  case atStart => exact ⟨0, _, _, show 0 + n = n by omega, rfl, HP.out, HBB.out⟩
  case round =>
    obtain ⟨k, r0, r1, HK1, rfl, HPA, HBW⟩ := hrel
    have hkn : k ≤ n := by have := HK1.out; omega
    by_cases hlt : k < n
    · obtain ⟨gs, off, rfl, hg, hc⟩ := (HH.out.keep HBW.out).str (by omega)
      have hck := hc k hlt
      have hkl : k < l.length := by have := HN.out; omega
      have hmem : l.getD k [] ∈ l := by rw [List.getD_eq_getElem?_getD, List.getElem?_eq_getElem hkl]; exact List.getElem_mem hkl
      have hkey := HK.out _ hmem
      have hhe := HE.out _ hmem
      have HF0 := Lib.hid (filt_succ oneB l k hkl)
      have HF1 := Lib.hid (filt_succ (fun x => !oneB x) l k hkl)
      have hl0 : ((l.take k).filter oneB).length ≤ k := Nat.le_trans (List.length_filter_le _ _) (by simp; omega)
      have hl1 : ((l.take k).filter fun x => !oneB x).length ≤ k := Nat.le_trans (List.length_filter_le _ _) (by simp; omega)
      generalize l.getD k [] = x at *
      have hlen : (⟨x.toArray⟩ : ByteArray).size ≤ 1000 := by
        simpa [ByteArray.size] using hkey
      have HHS := Lib.hid (hashOf_one x (by simpa [ByteArray.size] using hlen))
      rw [hhe] at HHS
      have HOB : Hid (oneB x = decide (hashN (oneK ++ 32 :: x) % 3 = 0)) := rfl
      have hrg := hashN_range (oneK ++ 32 :: x)
      generalize hashN (oneK ++ 32 :: x) = z at *
      have htm : z.tmod 3 = z % 3 := Int.tmod_eq_emod_of_nonneg hrg.1
      have hm0 : 0 ≤ z % 3 := Int.emod_nonneg _ (by decide)
      have hm1 : z % 3 < 3 := Int.emod_lt_of_pos _ (by decide)
      clear hc hkey hlen hmem hhe
      go_wp2_with fail
      refine (HHS.out _).mono ?_
      rintro e w5 ⟨rfl, hb5⟩
      have HB5 : Hid (Below w.heap.size w w5) := HBW.out.trans (hb5.mono HBW.out.size)
      have HP5 := Lib.hid (HPA.out.below hb5)
      clear hb5 HHS HPA HBW hck
      obtain ⟨_, c0, c1⟩ := HW.out.keep HB5.out HG.out
      obtain ⟨q0, q1, f0, f1, ho0, ho1, hGb, hGl, hn0, hn1⟩ := HP5.out.two
      have HO0 := Lib.hid ho0
      have HO1 := Lib.hid ho1
      obtain ⟨A0, m0, d0⟩ := r0
      obtain ⟨A1, m1, d1⟩ := r1
      simp only [HdS.v] at q0 q1
      clear ho0 ho1
      generalize hL0 : (l.take k).filter oneB = L0 at *
      generalize hL1 : (l.take k).filter (fun x => !oneB x) = L1 at *
      clear hL0 hL1
      have hGr : G ≤ w5.heap.size := Nat.le_of_lt hGl
      by_cases hz0 : z % 3 = 0
      · rw [hz0] at htm
        have HT : Hid (decide (z % 3 = 0) = true) := decide_eq_true hz0
        clear hz0 hm0 hm1
        go_wp2_with fail
        refine wp_loop_rounds 2 ?_
        rw [rounds_succ]
        go_wp2_with (at_builtin; refine append_elems strE_ok rfl _ _ rfl G (.slice A0 m0 d0) L0 rfl (World.ownsRow.alloc HO0.out _) (some ⟨w5.heap.size, 0, none⟩) 1 1 [x] rfl (one_elem (E := StrE) w5 x) (by simp; omega) (by simp; omega) ?_; intro v6 w6 hown6 hgrow6 hv6; have hat6 := hown6.at_ strE_ok; rw [show (L0 ++ [x]).length = L0.length + 1 by simp] at hat6; obtain ⟨A6, c6, rfl, hc6, hat6', hG6'⟩ := hat6; clear hc6 hat6' hG6'; have HO6 := Lib.hid hown6; have HV6 := Lib.hid hv6; have HG6 : Hid ((w5.alloc (.cells #[.string ⟨x.toArray⟩] 9)).grownBy w6 (Value.slice A0 m0 d0).ownBlock) := hgrow6; obtain ⟨k0, k1⟩ := row_cell (k := 0) (r := (A0, m0, d0)) HP5.out rfl rfl HG6.out; simp only [HdS.v] at k0; clear hown6 hgrow6 hv6)
        have HP6 : Hid (ParasAt (w6.setCell ⟨G, 0, none⟩ (.slice A6 (L0.length + 1) c6)) G (.slice (some ⟨G, 0, none⟩) 2 2) [(A6, L0.length + 1, c6), (A1, m1, d1)] [L0 ++ [x], L1]) := row_put (k := 0) (r := (A0, m0, d0)) (r' := (A6, L0.length + 1, c6)) HP5.out rfl rfl HO6.out HG6.out HV6.out
        have HB6 : Hid (Below w.heap.size w (w6.setCell ⟨G, 0, none⟩ (.slice A6 (L0.length + 1) c6))) := row_below (k := 0) (r := (A0, m0, d0)) HB5.out hz3 (Nat.le_refl _) HP5.out rfl rfl HG6.out
        clear HV6 HG6 k0 k1 q0 q1 f0 f1
        generalize w6.setCell ⟨G, 0, none⟩ (.slice A6 (L0.length + 1) c6) = w7 at *
        go_wp2_with fail
        go_roundg (gk - 1)
        case measure => have := HK1.out; omega
        case rel => exact ⟨k + 1, (A6, L0.length + 1, c6), (A1, m1, d1), show k + 1 + (gk - 1) = n by have := HK1.out; omega, by go_num, by rw [HF0.out, HF1.out, HOB.out]; rw [HT.out]; simp only [Bool.not_true, if_true, Bool.false_eq_true, if_false, List.append_nil]; exact HP6.out, HB6.out⟩
      · have hz1 : (1 : Int) ≤ z % 3 := by omega
        have hz2 : ¬ (3 : Int) ≤ z % 3 := by omega
        have HT : Hid (decide (z % 3 = 0) = false) := decide_eq_false hz0
        generalize z % 3 = mm at *
        clear hz0 hm0 hm1
        go_wp2_with fail
        refine wp_loop_rounds 3 ?_
        rw [rounds_succ]
        go_wp2_with fail
        rw [rounds_succ]
        go_wp2_with (at_builtin; refine append_elems strE_ok rfl _ _ rfl G (.slice A1 m1 d1) L1 rfl (World.ownsRow.alloc HO1.out _) (some ⟨w5.heap.size, 0, none⟩) 1 1 [x] rfl (one_elem (E := StrE) w5 x) (by simp; omega) (by simp; omega) ?_; intro v6 w6 hown6 hgrow6 hv6; have hat6 := hown6.at_ strE_ok; rw [show (L1 ++ [x]).length = L1.length + 1 by simp] at hat6; obtain ⟨A6, c6, rfl, hc6, hat6', hG6'⟩ := hat6; clear hc6 hat6' hG6'; have HO6 := Lib.hid hown6; have HV6 := Lib.hid hv6; have HG6 : Hid ((w5.alloc (.cells #[.string ⟨x.toArray⟩] 9)).grownBy w6 (Value.slice A1 m1 d1).ownBlock) := hgrow6; obtain ⟨k0, k1⟩ := row_cell (k := 1) (r := (A1, m1, d1)) HP5.out rfl rfl HG6.out; simp only [HdS.v] at k0; clear hown6 hgrow6 hv6)
        have HP6 : Hid (ParasAt (w6.setCell ⟨G, 1, none⟩ (.slice A6 (L1.length + 1) c6)) G (.slice (some ⟨G, 0, none⟩) 2 2) [(A0, m0, d0), (A6, L1.length + 1, c6)] [L0, L1 ++ [x]]) := row_put (k := 1) (r := (A1, m1, d1)) (r' := (A6, L1.length + 1, c6)) HP5.out rfl rfl HO6.out HG6.out HV6.out
        have HB6 : Hid (Below w.heap.size w (w6.setCell ⟨G, 1, none⟩ (.slice A6 (L1.length + 1) c6))) := row_below (k := 1) (r := (A1, m1, d1)) HB5.out hz3 (Nat.le_refl _) HP5.out rfl rfl HG6.out
        clear HV6 HG6 k0 k1 q0 q1 f0 f1
        generalize w6.setCell ⟨G, 1, none⟩ (.slice A6 (L1.length + 1) c6) = w7 at *
        go_wp2_with fail
        go_roundg (gk - 1)
        case measure => have := HK1.out; omega
        case rel => exact ⟨k + 1, (A0, m0, d0), (A6, L1.length + 1, c6), show k + 1 + (gk - 1) = n by have := HK1.out; omega, by go_num, by rw [HF0.out, HF1.out, HOB.out]; rw [HT.out]; simp only [Bool.not_false, if_true, Bool.false_eq_true, if_false, List.append_nil]; exact HP6.out, HB6.out⟩
    · have hnk : ¬ (k : Int) < (n : Int) := by omega
      have hall : l.take k = l := List.take_of_length_le (by have := HN.out; omega)
      rw [hall] at HPA
      have HF : Hid (SplitOfPost w l (.returned (.slice (some ⟨G, 0, none⟩) 2 2)) wr) := ⟨_, rfl, r0, r1, HPA.out.base_ hz3, HBW.out⟩
      clear hall
      go_wp2_with fail
      go_ret
      exact HF.out
end Go.Proofs.YtiegbbngfojjoaaGreatDoor

namespace Go.Proofs.YtiegbbngfojjoaaGreatDoor
open Go.RowKit
attribute [local go_sem ↓] Go.wp_at_zero Go.wp_at_succ

abbrev names7 : List (List UInt8) := [[107, 49], [107, 49, 48], [107, 50], [107, 51], [107, 52], [107, 53], [107, 54]]
theorem names7_rise : Rising names7 := by
  unfold Rising
  decide +kernel
theorem names7_keys : ∀ x ∈ names7, keyL x = true := by decide +kernel
theorem names7_short : ∀ x ∈ names7, x.length ≤ 1000 := by decide +kernel
theorem names7_hash : ∀ x ∈ names7, hashO (oneK ++ 32 :: x) = hashN (oneK ++ 32 :: x) := by decide +kernel
theorem alloc_strs7 (w : World) (l : List (List UInt8)) (t : TypeId) : StrsAt (w.alloc (.cells (l.map fun x => Value.string ⟨x.toArray⟩).toArray t)) (some ⟨w.heap.size, 0, none⟩) l.length l.length l := by
  refine ⟨rfl, Nat.le_refl _, (fun e => by cases e), fun _ => ⟨w.heap.size, 0, rfl, by simp, fun k x i v hk hv => ?_⟩⟩
  have hi : i = 0 := by have := (List.getElem?_eq_some_iff.1 hv).1; simp [StrE] at this; exact this
  subst hi
  simp [StrE] at hv
  subst hv
  rw [World.cell?_alloc_at _ _ _ _ rfl]
  simp [StrE, hk]
/-- The ids and their copy, which stay. -/
structure Both7 (w : World) (b0 b1 : Nat) (A Ao : Option Addr) (n c co : Nat) (l : List (List UInt8)) : Prop where
  ids : StrsAt w A n c l
  old : StrsAt w Ao n co l
  in1 : ∀ g off, A = some ⟨g, off, none⟩ → b0 ≤ g ∧ g < b1
  in2 : ∀ g off, Ao = some ⟨g, off, none⟩ → b0 ≤ g ∧ g < b1
theorem Both7.low {w w' : World} {b0 b1 n c co B : Nat} {A Ao : Option Addr} {l : List (List UInt8)} (h : Both7 w b0 b1 A Ao n c co l) (hb : Below B w w') (hB : b1 ≤ B) : Both7 w' b0 b1 A Ao n c co l :=
  ⟨h.ids.low hb (fun g off e => Nat.lt_of_lt_of_le (h.in1 g off e).2 hB), h.old.low hb (fun g off e => Nat.lt_of_lt_of_le (h.in2 g off e).2 hB), h.in1, h.in2⟩
theorem Both7.grown {w w' : World} {b0 b1 n c co g0 : Nat} {A Ao : Option Addr} {l : List (List UInt8)} (h : Both7 w b0 b1 A Ao n c co l) (hg : w.grownBy w' (some g0)) (hB : g0 < b0) : Both7 w' b0 b1 A Ao n c co l :=
  ⟨h.ids.grown hg (fun g off e e2 => by have := (h.in1 g off e).1; have := Option.some.inj e2; omega), h.old.grown hg (fun g off e e2 => by have := (h.in2 g off e).1; have := Option.some.inj e2; omega), h.in1, h.in2⟩
theorem wt_new (w : World) (t : TypeId) : WtAt (w.alloc (.cells #[.int .i64 1, .int .i64 2] t)) w.heap.size :=
  ⟨by simp, by rw [World.cell?_alloc_at _ _ _ _ rfl]; rfl, by rw [World.cell?_alloc_at _ _ _ _ rfl]; rfl⟩
theorem StratAt.grown {w w' : World} {g n c g0 : Nat} {A : Option Addr} (h : StratAt w g A n c) (hg : w.grownBy w' (some g0)) (hne : g ≠ g0) : StratAt w' g A n c :=
  ⟨Nat.lt_of_lt_of_le h.1 hg.size, hg.cell h.2.1 (by simp; omega), hg.cell h.2.2 (by simp; omega)⟩
theorem strat_new (w : World) (t : TypeId) (A : Option Addr) (n c : Nat) : StratAt (w.alloc (.cells #[.string ⟨#[97]⟩, .slice A n c] t)) w.heap.size A n c :=
  ⟨by simp, by rw [World.cell?_alloc_at _ _ _ _ rfl]; rfl, by rw [World.cell?_alloc_at _ _ _ _ rfl]; rfl⟩
/-- Rows with whatever strings. -/
def RowsOk (w : World) (B : Nat) (rs : List HdS) : Prop := ∀ r ∈ rs, ∃ l, OwnStrs w B r.v l ∧ l.length ≤ 1000
theorem RowsOk.spo {w w' : World} {B base : Nat} {rs : List HdS} (h : RowsOk w B rs) (hs : Spo base w w') : RowsOk w' B rs := fun r hr => by
  obtain ⟨l, h1, h2⟩ := h r hr
  obtain ⟨l', h3, h4⟩ := hs.strs _ _ _ h1
  exact ⟨l', h3, by omega⟩
theorem RowsOk.below {w w' : World} {B : Nat} {rs : List HdS} (h : RowsOk w B rs) (hs : Below w.heap.size w w') : RowsOk w' B rs := fun r hr => by
  obtain ⟨l, h1, h2⟩ := h r hr
  exact ⟨l, h1.below_ hs, h2⟩
theorem RowsOk.base_ {w : World} {B B' : Nat} {rs : List HdS} (h : RowsOk w B rs) (hb : B' ≤ B) : RowsOk w B' rs := fun r hr => by
  obtain ⟨l, h1, h2⟩ := h r hr
  exact ⟨l, h1.base_ hb, h2⟩
theorem ParasAt.rowsOk {w : World} {B : Nat} {v : Value} {r0 r1 : HdS} {p0 p1 : List (List UInt8)} (h : ParasAt w B v [r0, r1] [p0, p1]) (h0 : p0.length ≤ 1000) (h1 : p1.length ≤ 1000) : RowsOk w B [r0, r1] := fun r hr => by
  simp only [List.mem_cons, List.not_mem_nil, or_false] at hr
  rcases hr with rfl | rfl
  · exact ⟨p0, h.each 0 _ p0 rfl rfl, h0⟩
  · exact ⟨p1, h.each 1 _ p1 rfl rfl, h1⟩
theorem Owns.here {α : Type} {E : Elem α} (hE : E.Ok) {w : World} {base n c : Nat} {A : Option Addr} {l : List α} (h : Owns E w base (.slice A n c) l) : ElemsAt E w A n c l := by
  obtain ⟨A', c', e, _, hat, _⟩ := h.at_ hE
  simp only [Value.slice.injEq] at e
  obtain ⟨rfl, rfl, rfl⟩ := e
  exact hat
theorem tabs_two {w : World} {B1 B2 n1 c1 n2 c2 : Nat} {A1 A2 : Option Addr} {r1 r2 : List HdS} (h1 : Owns LineE w B1 (.slice A1 n1 c1) r1) (h2 : Owns LineE w B2 (.slice A2 n2 c2) r2) (t : TypeId) : TabsAt (w.alloc (.cells #[.slice A1 n1 c1, .slice A2 n2 c2] t)) w.heap.size [r1, r2] := by
  have hb : Below w.heap.size w (w.alloc (.cells #[.slice A1 n1 c1, .slice A2 n2 c2] t)) := (Below.refl _ _).alloc (Nat.le_refl _) _
  refine ⟨by simp, fun k hk => ?_⟩
  have hk2 : k < 2 := hk
  obtain rfl | rfl : k = 0 ∨ k = 1 := by omega
  · exact ⟨A1, n1, c1, by rw [World.cell?_alloc_at _ _ _ _ rfl]; rfl, (h1.here lineE_ok).keep hb⟩
  · exact ⟨A2, n2, c2, by rw [World.cell?_alloc_at _ _ _ _ rfl]; rfl, (h2.here lineE_ok).keep hb⟩
theorem ElemsAt.rowAt {w : World} {A : Option Addr} {n c : Nat} {rs : List HdS} (h : ElemsAt LineE w A n c rs) (h0 : 0 < n) : ∃ g off, A = some ⟨g, off, none⟩ ∧ g < w.heap.size ∧ ∀ k, k < n → ∃ r, r ∈ rs ∧ w.cell? ⟨g, off + k, none⟩ = some r.v := by
  obtain ⟨g, off, hA, hg, hc⟩ := h.2.2.2 h0
  refine ⟨g, off, hA, hg, fun k hk => ?_⟩
  have hl : k < rs.length := by rw [← h.1]; exact hk
  have := hc k _ 0 _ (List.getElem?_eq_getElem hl) (by simp [LineE]; rfl)
  exact ⟨rs[k], List.getElem_mem hl, by simpa [LineE, HdS.v] using this⟩
set_option maxHeartbeats 12800000 in
set_option maxRecDepth 100000 in
theorem samples_any (A : Option Addr) (n c : Nat) (w : World) (hA : RowAt w A n) (hbig : n ≤ 1000000000000000) (hS : StandAt w) :
    Calls Tryz.prog 7 #[.slice A n c] w (LawPost w) := by
  have hst := stream_new w A n c hA hbig
  have hB : Below w.heap.size w (w.alloc (.cells #[.slice A n c, .int .i64 0] 25)) := (Below.refl _ _).alloc (Nat.le_refl _) _
  have HS := Lib.hid hS; clear hS
  go_enter Tryz.func7, Tryz.ntmps7
  go_upto_region 2 with (fail)
  have hz1 : (w.alloc (.cells #[.slice A n c, .int .i64 0] 25)).heap.size = w.heap.size + 1 := by simp
  generalize w.alloc (.cells #[.slice A n c, .int .i64 0] 25) = w1 at *
  go_wp2_with fail
  have hnm : StrsAt (w1.alloc (.cells (names7.map fun x => Value.string ⟨x.toArray⟩).toArray 9)) (some ⟨w1.heap.size, 0, none⟩) 7 7 names7 := alloc_strs7 w1 names7 9
  have hB3 : Below w1.heap.size w1 (w1.alloc (.cells (names7.map fun x => Value.string ⟨x.toArray⟩).toArray 9)) := (Below.refl _ _).alloc (Nat.le_refl _) _
  have hz2 : (w1.alloc (.cells (names7.map fun x => Value.string ⟨x.toArray⟩).toArray 9)).heap.size = w1.heap.size + 1 := by simp
  refine (rangeR_any w.heap.size A n c 0 1 7 _ (hst.below hB3) (by omega) (by omega) (by omega) (by omega)).mono ?_
  rintro e w4 ⟨r, rfl, hr0, hr1, hs4, hg4⟩
  obtain ⟨m, rfl⟩ := Int.eq_ofNat_of_zero_le (show (0 : Int) ≤ r by omega)
  have hnm4 : StrsAt w4 (some ⟨w1.heap.size, 0, none⟩) 7 7 names7 := ElemsAt.grown hnm hg4 (fun g off e he => by
    have h1 := Option.some.inj he
    have h2 : (⟨w1.heap.size, 0, none⟩ : Addr) = ⟨g, off, none⟩ := Option.some.inj e
    have h3 : w1.heap.size = g := congrArg Addr.block h2
    omega)
  rw [hz1] at hnm4
  have hz4 := hg4.size
  have hgw4 : w.heap.size < w4.heap.size := by omega
  have HB4 : Hid (Below w.heap.size w w4) := (hB.trans (hB3.mono hB.size)).grown hg4 (by omega) (fun i e => by have := Option.some.inj e; omega)
  have HS4 := Lib.hid hs4
  clear hst hB hB3 hz1 hz2 hnm hg4 hs4 hz4
  go_wp2_with fail
  refine (leastOf_any ⟨#[107, 101, 101, 112]⟩ (by decide) _ 7 7 m names7 w4 hnm4 (by omega) names7_short (by omega)).mono ?_
  rintro e w5 ⟨v, l, rfl, hown, hsub, hb5⟩
  obtain ⟨Ai, ci, rfl, hci, hat, hGi⟩ := hown.at_ strE_ok
  have hkey : ∀ x ∈ l, keyL x = true := fun x hx => names7_keys x (hsub.subset hx)
  have hris : Rising l := List.Pairwise.sublist hsub names7_rise
  have HKEY := Lib.hid hkey
  have HRIS := Lib.hid hris
  have HSH : Hid (∀ x ∈ l, x.length ≤ 1000) := fun x hx => names7_short x (hsub.subset hx)
  have HHE : Hid (∀ x ∈ l, hashO (oneK ++ 32 :: x) = hashN (oneK ++ 32 :: x)) := fun x hx => names7_hash x (hsub.subset hx)
  have hl7 : l.length ≤ 7 := hsub.length_le
  have HB5 : Hid (Below w.heap.size w w5) := HB4.out.trans (hb5.mono HB4.out.size)
  have HS5 := Lib.hid (HS4.out.below hb5)
  have hi1 : ∀ g off, Ai = some ⟨g, off, none⟩ → w4.heap.size ≤ g ∧ g < w5.heap.size := fun g off e => by
    subst e
    exact ⟨(hGi g off rfl).2, (hown.lt g rfl).2⟩
  have HI1 := Lib.hid hi1
  have HAT := Lib.hid hat
  have hz5 := hb5.size
  clear hown hsub hb5 hci hat hGi hnm4 hkey hris hi1 HS4 HB4 hr0 hr1
  have HCL := Lib.hid (clone_any Ai l.length ci l w5 HAT.out (by omega))
  go_wp2_with fail
  refine HCL.out.mono ?_
  rintro e w6 ⟨v, rfl, hown, hb6⟩
  obtain ⟨Ao, co, rfl, hco, hato, hGo⟩ := hown.at_ strE_ok
  have hz6 := hb6.size
  have HK6 : Hid (Both7 w6 w4.heap.size w6.heap.size Ai Ao l.length ci co l) := ⟨HAT.out.keep hb6, hato, fun g off e => by have := HI1.out g off e; omega, fun g off e => by
    have h1 := (hGo g off e).2
    subst e
    have h2 := (hown.lt g rfl).2
    omega⟩
  have HB6 : Hid (Below w.heap.size w w6) := HB5.out.trans (hb6.mono HB5.out.size)
  have HS6 := Lib.hid (HS5.out.below hb6)
  clear hown hb6 hco hato hGo HCL HAT HI1 HB5 HS5
  have hsx := strat_new w6 70 Ai l.length ci
  have hb7 : Below w6.heap.size w6 (w6.alloc (.cells #[.string ⟨#[97]⟩, .slice Ai l.length ci] 70)) := (Below.refl _ _).alloc (Nat.le_refl _) _
  have HK7 : Hid (Both7 (w6.alloc (.cells #[.string ⟨#[97]⟩, .slice Ai l.length ci] 70)) w4.heap.size w6.heap.size Ai Ao l.length ci co l) := HK6.out.low hb7 (Nat.le_refl _)
  have HB7 : Hid (Below w.heap.size w (w6.alloc (.cells #[.string ⟨#[97]⟩, .slice Ai l.length ci] 70))) := HB6.out.trans (hb7.mono HB6.out.size)
  have HS7 := Lib.hid (HS6.out.below hb7)
  have HX7 := Lib.hid hsx
  have hz7 : (w6.alloc (.cells #[.string ⟨#[97]⟩, .slice Ai l.length ci] 70)).heap.size = w6.heap.size + 1 := by simp
  clear hsx hb7 HK6 HB6 HS6
  go_upto_region 5 with (fail)
  generalize w6.alloc (.cells #[.string ⟨#[97]⟩, .slice Ai l.length ci] 70) = w7 at *
  obtain ⟨X, hX⟩ : ∃ X, X = w6.heap.size := ⟨_, rfl⟩
  rw [← hX] at HX7 HK7 hz7 ⊢
  have hXw : w4.heap.size ≤ X := by omega
  clear hX
  -- Least
  go_wp2_with fail
  refine (rangeR_any w.heap.size A n c _ 0 7 w7 HS7.out (by omega) (by omega) (by omega) (by omega)).mono ?_
  rintro e w8 ⟨r1, rfl, hr10, hr11, hs8, hg8⟩
  obtain ⟨m1, rfl⟩ := Int.eq_ofNat_of_zero_le hr10
  have hz8 := hg8.size
  have HK8 := Lib.hid (HK7.out.grown hg8 (by omega))
  have HX8 := Lib.hid (HX7.out.grown hg8 (by omega))
  have HB8 : Hid (Below w.heap.size w w8) := HB7.out.grown hg8 HB7.out.size (fun i e => Nat.le_of_eq (Option.some.inj e))
  have HLE := Lib.hid (leastTop_any Ai l.length ci m1 l w8 HK8.out.ids (by omega) HKEY.out HRIS.out (by omega))
  have HS8 := Lib.hid hs8
  clear hr10 hr11 hs8 hg8 HK7 HX7 HB7 HS7
  go_wp2_with fail
  refine HLE.out.mono ?_
  rintro e w9 ⟨va, la, rfl, hoa, hla, hb9⟩
  obtain ⟨Aa, ca, hva, -, -, -⟩ := hoa.at_ strE_ok
  subst hva
  have hz9 := hb9.size
  have HK9 := Lib.hid (HK8.out.low hb9 (by omega))
  have HX9 := Lib.hid (HX8.out.keep hb9 (by omega))
  have HB9 : Hid (Below w.heap.size w w9) := HB8.out.trans (hb9.mono HB8.out.size)
  have HS9 := Lib.hid (HS8.out.below hb9)
  have HOA9 : Hid (OwnStrs w9 w7.heap.size (.slice Aa la.length ca) la) := hoa.base_ hz8
  have hla7 : la.length ≤ 7 := by omega
  clear hoa hla hb9 HLE HK8 HX8 HB8 HS8
  -- Strata
  go_wp2_with fail
  refine (rangeR_any w.heap.size A n c _ 0 7 w9 HS9.out (by omega) (by omega) (by omega) (by omega)).mono ?_
  rintro e w10 ⟨r2, rfl, hr20, hr21, hs10, hg10⟩
  obtain ⟨m2, rfl⟩ := Int.eq_ofNat_of_zero_le hr20
  have hz10 := hg10.size
  have HK10 := Lib.hid (HK9.out.grown hg10 (by omega))
  have HX10 := Lib.hid (HX9.out.grown hg10 (by omega))
  have HB10 : Hid (Below w.heap.size w w10) := HB9.out.grown hg10 HB9.out.size (fun i e => Nat.le_of_eq (Option.some.inj e))
  have HOA10 := Lib.hid (HOA9.out.kept_ hg10 (fun i e => by have := Option.some.inj e; omega))
  have HST := Lib.hid (strata_any Ai l.length ci X m2 l w10 HK10.out.ids (by omega) HKEY.out HRIS.out HX10.out (by omega))
  clear hr20 hr21 hs10 hg10 HK9 HX9 HB9 HS9 HOA9 HX10
  go_wp2_with fail
  refine HST.out.mono ?_
  rintro e w11 ⟨vb, rb, lb, rfl, hob, hrb, hlb, hb11⟩
  have hz11 := hb11.size
  have HK11 := Lib.hid (HK10.out.low hb11 (by omega))
  have HB11 : Hid (Below w.heap.size w w11) := HB10.out.trans (hb11.mono HB10.out.size)
  have HOA11 := Lib.hid (HOA10.out.below_ hb11)
  have HOB11 : Hid (Owns LineE w11 w7.heap.size vb [rb]) := hob.base_ (by omega)
  have HRB11 : Hid (RowsOk w11 w7.heap.size [rb]) := fun r hr => by
    obtain rfl := List.mem_singleton.1 hr
    exact ⟨lb, hrb.base_ (by omega), by omega⟩
  clear hob hrb hlb hb11 HST HK10 HB10 HOA10
  -- Split
  obtain ⟨Ab, cb, hvb, -, -, -⟩ := HOB11.out.at_ lineE_ok
  subst hvb
  have hwt := wt_new w11 3
  have hbw : Below w11.heap.size w11 (w11.alloc (.cells #[.int .i64 1, .int .i64 2] 3)) := (Below.refl _ _).alloc (Nat.le_refl _) _
  have HSP := Lib.hid (split_any2 Ai l.length ci w11.heap.size l (w11.alloc (.cells #[.int .i64 1, .int .i64 2] 3)) (HK11.out.low hbw (by omega)).ids (by omega) HKEY.out HRIS.out hwt)
  have hzw : (w11.alloc (.cells #[.int .i64 1, .int .i64 2] 3)).heap.size = w11.heap.size + 1 := by simp
  have HK12 := Lib.hid (HK11.out.low hbw (by omega))
  have HB12 := Lib.hid (HB11.out.trans (hbw.mono HB11.out.size))
  have HOA12 := Lib.hid (HOA11.out.below_ hbw)
  have HOB12 := Lib.hid (HOB11.out.below_ hbw)
  have HRB12 := Lib.hid (HRB11.out.below hbw)
  clear hwt hbw HK11 HB11 HOA11 HOB11 HRB11
  go_wp2_with fail
  generalize w11.alloc (.cells #[.int .i64 1, .int .i64 2] 3) = w12 at *
  refine HSP.out.mono ?_
  rintro e w13 ⟨vc, rfl, rc0, rc1, hpc, hb13⟩
  have hz13 := hb13.size
  have HK13 := Lib.hid (HK12.out.low hb13 (by omega))
  have HB13 : Hid (Below w.heap.size w w13) := HB12.out.trans (hb13.mono HB12.out.size)
  have HOA13 := Lib.hid (HOA12.out.below_ hb13)
  have HOB13 := Lib.hid (HOB12.out.below_ hb13)
  have HRB13 := Lib.hid (HRB12.out.below hb13)
  have HPC13 := Lib.hid (hpc.base_ (show w7.heap.size ≤ w12.heap.size by omega))
  have HRC13 : Hid (RowsOk w13 w7.heap.size [rc0, rc1]) := HPC13.out.rowsOk (Nat.le_trans (List.length_filter_le _ _) (by omega)) (Nat.le_trans (List.length_filter_le _ _) (by omega))
  have HOC13 := Lib.hid HPC13.out.own
  obtain ⟨Ac, cc, hvc, -, -, -⟩ := HOC13.out.at_ lineE_ok
  subst hvc
  clear hpc hb13 HSP HK12 HB12 HOA12 HOB12 HRB12 HPC13
  -- spoil
  have HSA := Lib.hid (spoil_any w7.heap.size la.length ca Aa la w13 HOA13.out (by omega))
  go_wp2_with fail
  refine HSA.out.mono ?_
  rintro e w14 ⟨rfl, hsp14⟩
  have HK14 := Lib.hid (HK13.out.low hsp14.below (by omega))
  have HB14 : Hid (Below w.heap.size w w14) := HB13.out.trans (hsp14.below.mono (by omega))
  have HOB14 := Lib.hid (hsp14.tab _ _ _ HOB13.out)
  have HOC14 := Lib.hid (hsp14.tab _ _ _ HOC13.out)
  have HRB14 := Lib.hid (HRB13.out.spo hsp14)
  have HRC14 := Lib.hid (HRC13.out.spo hsp14)
  have hz14 := hsp14.below.size
  clear hsp14 HSA HK13 HB13 HOB13 HOC13 HRB13 HRC13 HOA13
  -- the rows of both tables
  have htb := tabs_two HOB14.out HOC14.out 74
  have hbt : Below w14.heap.size w14 (w14.alloc (.cells #[.slice Ab 1 cb, .slice Ac 2 cc] 74)) := (Below.refl _ _).alloc (Nat.le_refl _) _
  have HCT := Lib.hid (concatTab_any w14.heap.size 2 2 _ _ htb rfl (by omega) (by simp))
  have HK15 := Lib.hid (HK14.out.low hbt (by omega))
  have HB15 : Hid (Below w.heap.size w (w14.alloc (.cells #[.slice Ab 1 cb, .slice Ac 2 cc] 74))) := HB14.out.trans (hbt.mono (by omega))
  have HRW15 : Hid (RowsOk (w14.alloc (.cells #[.slice Ab 1 cb, .slice Ac 2 cc] 74)) w7.heap.size [rb, rc0, rc1]) := fun r hr => by
    simp only [List.mem_cons, List.not_mem_nil, or_false] at hr
    rcases hr with rfl | rfl | rfl
    · exact (HRB14.out.below hbt) _ (by simp)
    · exact (HRC14.out.below hbt) _ (by simp)
    · exact (HRC14.out.below hbt) _ (by simp)
  have hz15 : (w14.alloc (.cells #[.slice Ab 1 cb, .slice Ac 2 cc] 74)).heap.size = w14.heap.size + 1 := by simp
  clear htb hbt HK14 HB14 HOB14 HOC14 HRB14 HRC14
  go_wp2_with fail
  generalize w14.alloc (.cells #[.slice Ab 1 cb, .slice Ac 2 cc] 74) = w15 at *
  refine HCT.out.mono ?_
  rintro e w16 ⟨v, rfl, hov, hb16⟩
  have hz16 := hb16.size
  have HK16 := Lib.hid (HK15.out.low hb16 (by omega))
  have HB16 : Hid (Below w.heap.size w w16) := HB15.out.trans (hb16.mono HB15.out.size)
  have HRW16 := Lib.hid (HRW15.out.below hb16)
  obtain ⟨Av, cv, hv, -, -, -⟩ := hov.at_ lineE_ok
  subst hv
  have HOV : Hid (Owns LineE w16 w15.heap.size (.slice Av 3 cv) [rb, rc0, rc1]) := hov
  change Hid (Both7 w16 _ _ _ _ _ _ _ _) at HK16
  clear hov hb16 HCT HK15 HB15 HRW15
  go_wp2_with fail
  go_loopg [56] 3 (fun gk v wr => ∃ k : Nat, Hid (k + gk = 3) ∧ v = .int .i64 (k : Int) ∧ Hid (Spo w7.heap.size w16 wr))
  case atStart => exact ⟨0, show 0 + 3 = 3 by omega, rfl, Spo.refl _ _⟩
  case round =>
    obtain ⟨k, HKK, rfl, HSP⟩ := hrel
    have hk3 : k ≤ 3 := by have := HKK.out; omega
    by_cases hlt : k < 3
    · have HGK := Lib.hid (show k + 1 + (gk - 1) = 3 ∧ 0 < gk by have := HKK.out; omega)
      obtain ⟨gV, oV, rfl, hgV, hcV⟩ := ((HSP.out.tab _ _ _ HOV.out).here lineE_ok).rowAt (by omega)
      obtain ⟨⟨R, rn, rc⟩, hmem, hck⟩ := hcV k hlt
      obtain ⟨lr, hol, hll⟩ := (HRW16.out.spo HSP.out) _ hmem
      have HSX := Lib.hid (spoil_any w7.heap.size rn rc R lr wr hol hll)
      simp only [HdS.v] at hck
      clear hcV hmem hol hll
      go_wp2_with fail
      refine HSX.out.mono ?_
      rintro e wn ⟨rfl, hsp⟩
      have HSN := Lib.hid (HSP.out.trans hsp)
      clear hsp HSX HSP
      go_wp2_with fail
      go_roundg (gk - 1)
      case measure => have := HGK.out; omega
      case rel => exact ⟨k + 1, HGK.out.1, by go_num, HSN.out⟩
    · have HK17 := Lib.hid (HK16.out.low HSP.out.below (by omega))
      have HB17 : Hid (Below w.heap.size w wr) := HB16.out.trans (HSP.out.below.mono (by omega))
      have hz17 := HSP.out.below.size
      clear HSP HK16 HB16 HRW16 HOV
      -- Split, again
      have hwt := wt_new wr 3
      have hbw : Below wr.heap.size wr (wr.alloc (.cells #[.int .i64 1, .int .i64 2] 3)) := (Below.refl _ _).alloc (Nat.le_refl _) _
      have HSQ := Lib.hid (split_any2 Ai l.length ci wr.heap.size l (wr.alloc (.cells #[.int .i64 1, .int .i64 2] 3)) (HK17.out.low hbw (by omega)).ids (by omega) HKEY.out HRIS.out hwt)
      have hzx : (wr.alloc (.cells #[.int .i64 1, .int .i64 2] 3)).heap.size = wr.heap.size + 1 := by simp
      have HK18 := Lib.hid (HK17.out.low hbw (by omega))
      have HB18 := Lib.hid (HB17.out.trans (hbw.mono HB17.out.size))
      clear hwt hbw HK17 HB17
      go_wp2_with fail
      generalize wr.alloc (.cells #[.int .i64 1, .int .i64 2] 3) = w18 at *
      refine HSQ.out.mono ?_
      rintro e w19 ⟨vd, rfl, rd0, rd1, hpd, hb19⟩
      have hz19 := hb19.size
      have HK19 := Lib.hid (HK18.out.low hb19 (by omega))
      have HB19 : Hid (Below w.heap.size w w19) := HB18.out.trans (hb19.mono HB18.out.size)
      obtain ⟨Ad, cd, hvd, -, htd, -⟩ := hpd.tab
      subst hvd
      have HTD := Lib.hid htd
      have HEQ := Lib.hid (equal_sameT Ai Ao l.length ci l.length co l w19 HK19.out.ids HK19.out.old (by omega) (by omega))
      clear hpd hb19 htd HSQ HK18 HB18
      go_wp2_with fail
      refine HEQ.out.mono ?_
      rintro e w20 ⟨rfl, hb20⟩
      have hz20 := hb20.size
      have HK20 := Lib.hid (HK19.out.low hb20 (by omega))
      have HB20 : Hid (Below w.heap.size w w20) := HB19.out.trans (hb20.mono HB19.out.size)
      have HTD20 := Lib.hid (HTD.out.keep hb20)
      have hwt := wt_new w20 3
      have hbw : Below w20.heap.size w20 (w20.alloc (.cells #[.int .i64 1, .int .i64 2] 3)) := (Below.refl _ _).alloc (Nat.le_refl _) _
      have HSR := Lib.hid (splitOf_any Ao l.length co w20.heap.size l (w20.alloc (.cells #[.int .i64 1, .int .i64 2] 3)) (HK20.out.low hbw (by omega)).old (by omega) HSH.out HHE.out hwt)
      have HB21 := Lib.hid (HB20.out.trans (hbw.mono HB20.out.size))
      have HTD21 := Lib.hid (HTD20.out.keep hbw)
      clear hb20 hwt hbw HEQ HK19 HB19 HTD HK20 HB20 HTD20
      go_wp2_with fail
      generalize w20.alloc (.cells #[.int .i64 1, .int .i64 2] 3) = w21 at *
      refine HSR.out.mono ?_
      rintro e w22 ⟨vo, rfl, ro0, ro1, hpo, hb22⟩
      have HB22 : Hid (Below w.heap.size w w22) := HB21.out.trans (hb22.mono HB21.out.size)
      have HTD22 := Lib.hid (HTD21.out.keep hb22)
      obtain ⟨Ao2, co2, hvo, -, hto, -⟩ := hpo.tab
      subst hvo
      have HEF := Lib.hid (equalFuncT_any _ _ _ _ _ _ _ w22 HTD22.out hto ⟨by simp, fun r hr => by
        simp only [List.mem_cons, List.not_mem_nil, or_false] at hr
        rcases hr with rfl | rfl
        · exact Nat.le_trans (List.length_filter_le _ _) (by omega)
        · exact Nat.le_trans (List.length_filter_le _ _) (by omega)⟩)
      clear hpo hb22 hto HSR HB21 HTD21 HTD22
      go_wp2_with fail
      refine HEF.out.mono ?_
      rintro e w23 ⟨rfl, hb23⟩
      have HB23 : Hid (Below w.heap.size w w23) := HB22.out.trans (hb23.mono HB22.out.size)
      have HSD := Lib.hid (stands_any w23 (HS.out.below HB23.out))
      clear hb23 HEF HB22
      go_wp2_with fail
      refine HSD.out.mono ?_
      rintro e w24 ⟨rfl, hb24⟩
      have HB24 : Hid (Below w.heap.size w w24) := HB23.out.trans (hb24.mono HB23.out.size)
      clear hb24 HSD HB23
      go_wp2_with fail
      go_ret
      exact ⟨rfl, HB24.out⟩
end Go.Proofs.YtiegbbngfojjoaaGreatDoor
