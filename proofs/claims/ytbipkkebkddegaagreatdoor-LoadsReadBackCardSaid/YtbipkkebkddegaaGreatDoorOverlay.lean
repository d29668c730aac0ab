
/-
  What Overlay returns.
-/
import Derived.Test.YtbipkkebkddegaaGreatDoorOvErr
import Derived.Test.YtbipkkebkddegaaGreatDoorOvMap
import Derived.Test.YtbipkkebkddegaaGreatDoorZeros
import Derived.Test.YtbipkkebkddegaaGreatDoorLoadRows
import Derived.StillTailTactics
namespace Go.Proofs.YtbipkkebkddegaaGreatDoor
open Go.RowKit Go.Maps

def LayPost (w : World) (b o : Tab) (e : Ending) (w' : World) : Prop := ∃ v rs z, e = .returned (.tuple #[v, .int .i64 z]) ∧ (z = 0 → OverOk b o ∧ ParasAt w' w.heap.size v rs (overL b o)) ∧ (OverOk b o → z = 0) ∧ Below w.heap.size w w'
theorem layNo {w w' : World} {b o : Tab} (z : Int) (hz : z ≠ 0) (h : ¬ OverOk b o) (hb : Below w.heap.size w w') : LayPost w b o (.returned (.tuple #[.slice none 0 0, .int .i64 z])) w' := ⟨.slice none 0 0, [], z, rfl, fun e => absurd e hz, fun e => absurd e h, hb⟩
theorem firstAt_of {l : List Str} {x : Str} {r : Int} (h : FirstAt l x r) : (x ∈ l ∧ r = ((l.idxOf x : Nat) : Int)) ∨ (x ∉ l ∧ r = -1) := by
  rcases h with ⟨h1, h2⟩ | ⟨k, h1, h2, h3⟩
  · exact .inr ⟨h2, h1⟩
  · have hm : x ∈ l := List.mem_of_getElem? h2
    refine .inl ⟨hm, ?_⟩
    rw [h1]
    congr 1
    have hk := (List.getElem?_eq_some_iff.1 h2).1
    have hi := List.idxOf_lt_length_iff.2 hm
    have hg : l[l.idxOf x]? = some x := by rw [List.getElem?_eq_getElem hi, List.getElem_idxOf hi]
    rcases Nat.lt_trichotomy k (l.idxOf x) with hlt | he | hlt
    · have hne := List.not_of_lt_findIdx (p := (· == x)) (xs := l) (i := k) hlt
      have := (List.getElem?_eq_some_iff.1 h2).2
      rw [this] at hne
      simp at hne
    · exact he
    · exact absurd hg (h3 _ hlt)
/-- The rows behind the heads, made into a map of places. -/
theorem keysL_len (T : Tab) : (keysL T).length = T.length - 1 := by unfold keysL; rw [List.length_map, List.length_drop]
theorem mem_head {T : Tab} {n : Nat} (hn : n = T.length) (h : 1 ≤ n) : T.headD [] ∈ T := by
  cases T with
  | nil => simp at hn; omega
  | cons r R => simp
set_option maxHeartbeats 6400000 in
set_option maxRecDepth 100000 in
theorem overlay_any (A A2 : Option Addr) (n c m d : Nat) (b o : Tab) (w : World) (h : TabAt w A n c b) (h2 : TabAt w A2 m d o) (hs : TinyT b) (hs2 : TinyT o) (hT : Tabs w) :
    Calls Tryz.prog 13 #[.slice A n c, .slice A2 m d] w (LayPost w b o) := by
  have HE := Lib.hid (overlayError_any A A2 n c m d b o w h h2 hs hs2 hT)
  have HB := Lib.hid h
  have HO := Lib.hid h2
  have HNB := Lib.hid h.len
  have HNO := Lib.hid h2.len
  have HSB := Lib.hid hs
  have HSO := Lib.hid hs2
  have hn : n ≤ 10 := by have := h.len; have := hs.1; omega
  have hm : m ≤ 10 := by have := h2.len; have := hs2.1; omega
  have hmm := @run_makeMap Tryz.prog
  clear h h2 hs hs2 hT
  go_enter Tryz.func13, Tryz.ntmps13
  go_wp2_with fail
  refine HE.out.mono ?_
  rintro e w1 ⟨z, rfl, hz, hb1⟩
  have HB1 := Lib.hid hb1
  have hz1 := hb1.size
  clear hb1 HE
  by_cases hz0 : z ≠ 0
  · have hzb : (z != 0) = true := by simpa using hz0
    have HF : Hid (LayPost w b o (.returned (.tuple #[.slice none 0 0, .int .i64 z])) w1) := layNo z hz0 (fun h => hz0 (hz.2 h.pre)) HB1.out
    clear hz hz0
    go_wp2_with fail
    go_ret2
    exact HF.out
  · have hz0 : z = 0 := Decidable.not_not.1 hz0
    have HP := Lib.hid (hz.1 hz0)
    subst hz0
    have hn1 : 1 ≤ n := by have h1 := HP.out.nb; have h2 := HNB.out; rcases Nat.eq_zero_or_pos n with h | h; exact absurd (List.eq_nil_of_length_eq_zero (by omega)) h1; exact h
    have hm1 : 1 ≤ m := by have h1 := HP.out.no; have h2 := HNO.out; rcases Nat.eq_zero_or_pos m with h | h; exact absurd (List.eq_nil_of_length_eq_zero (by omega)) h1; exact h
    have HK1 := Lib.hid (fun wx (hb : Below w.heap.size w wx) => keys_any A n c b wx (HB.out.keep hb) (by omega) hn1 (fun r hr => (HP.out.rb.2 r hr).1))
    have HK2 := Lib.hid (fun wx (hb : Below w.heap.size w wx) => keys_any A2 m d o wx (HO.out.keep hb) (by omega) hm1 (fun r hr => (HP.out.ro.2 r hr).1))
    have HKB : Hid (∀ s ∈ keysL b, s.length ≤ 20) := fun s hs => by
      rcases keysL_mem hs with rfl | ⟨r, hr, hs2⟩
      · simp
      · exact (HSB.out.2 r hr).2 s hs2
    have HKO : Hid (∀ s ∈ keysL o, s.length ≤ 20) := fun s hs => by
      rcases keysL_mem hs with rfl | ⟨r, hr, hs2⟩
      · simp
      · exact (HSO.out.2 r hr).2 s hs2
    have HLB := Lib.hid (keysL_len b)
    have HLO := Lib.hid (keysL_len o)
    have hkb10 : (keysL b).length ≤ 10 := by rw [HLB.out, ← HNB.out]; omega
    have hko10 : (keysL o).length ≤ 10 := by rw [HLO.out, ← HNO.out]; omega
    clear hz
    have HM0 : Hid (PlcAt (w1.alloc (.map #[] 0)) w1.heap.size []) := World.ownsMap_made w1 _ _ _
    have HB2 : Hid (Below w.heap.size w (w1.alloc (.map #[] 0))) := HB1.out.alloc hz1 _
    have hz2 : (w1.alloc (.map #[] 0)).heap.size = w1.heap.size + 1 := by simp
    go_wp2_with fail
    refine (HK1.out _ HB2.out).mono ?_
    generalize w1.alloc (.map #[] 0) = w2 at *
    obtain ⟨M, hM⟩ : ∃ M, M = w1.heap.size := ⟨_, rfl⟩
    rw [← hM] at HM0 hz2 ⊢
    have hMw : w.heap.size ≤ M := by rw [hM]; exact hz1
    rintro e w3 ⟨v3, rfl, ho3, hb3⟩
    obtain ⟨A3, c3, rfl, -, hat3, hq3⟩ := ho3.at_ strE_ok
    have HAT3 := Lib.hid hat3
    have HQ3 : Hid (∀ g off, A3 = some ⟨g, off, none⟩ → g ≠ M) := fun g off e e2 => by have := (hq3 g off e).2; omega
    have HB3 := Lib.hid (HB2.out.trans (hb3.mono HB2.out.size))
    have HM3 := Lib.hid (HM0.out.below hb3)
    clear ho3 hat3 hq3 hb3 HK1 HM0 HB2 hmm hM HB1 hz1 hz2
    obtain ⟨kn, hkn⟩ : ∃ kn, kn = (keysL b).length := ⟨_, rfl⟩
    rw [← hkn] at HAT3 hkb10 ⊢
    have HKN := Lib.hid hkn
    clear hkn
    go_wp2_with fail
    go_loopg [33] kn (fun gk v33 wr => ∃ k : Nat, Hid (k + gk = kn) ∧ v33 = .int .i64 (k : Int) ∧ Hid (PlcAt wr M ((keysL b).take k)) ∧ Hid (StrsAt wr A3 kn c3 (keysL b)) ∧ Hid (Below w.heap.size w wr))
    case atStart => exact ⟨0, show 0 + kn = kn by omega, rfl, HM3.out, HAT3.out, HB3.out⟩
    case round =>
      obtain ⟨k, HK, rfl, HM, HAT, HW⟩ := hrel
      clear HM3 HAT3 HB3
      have hkk : k ≤ kn := by have := HK.out; omega
      have hwz := HW.out.size
      have hMl := HM.out.lt
      by_cases hlt : k < kn
      · obtain ⟨g, off, rfl, hg, hc⟩ := HAT.out.str (by omega)
        have hck := hc k hlt
        have hkl : k < (keysL b).length := by rw [← HKN.out]; exact hlt
        obtain ⟨x, hx⟩ : ∃ x, (keysL b)[k]? = some x := ⟨_, List.getElem?_eq_getElem hkl⟩
        rw [show (keysL b).getD k [] = x by rw [List.getD_eq_getElem?_getD, hx]; rfl] at hck
        have hxs := HKB.out x (List.mem_of_getElem? hx)
        have hkey := keyS_mk ⟨x.toArray⟩ (by simp [ByteArray.size]; omega)
        rw [show (⟨x.toArray⟩ : ByteArray).data.toList = x by simp] at hkey
        have HT2 : Hid ((keysL b).take (k + 1) = (keysL b).take k ++ [x]) := by
          obtain ⟨h1, h2⟩ := List.getElem?_eq_some_iff.1 hx
          show _ = _
          rw [List.take_succ_eq_append_getElem h1, h2]
        have HTL : Hid (((keysL b).take k).length = k) := by show _ = _; rw [List.length_take]; omega
        have HGM := HQ3.out g off rfl
        clear hc hx hxs
        go_wp2_with (at_mapUpdate; refine wpList_mapUpdate_own _ rfl _ _ _ 90 rfl 9 3 keyS Tryz.underlying90 _ M ((keysL b).take k).length _ rfl HM.out (by rw [HTL.out]; simp only [maxLen]; omega) _ _ (.string x) rfl rfl hkey (.lit (.int .i64 ((k : Int) + 1))) [] (plainElem_int Tryz.underlying3 (wf64 _ (by omega) (by omega))) ?_; intro w5 hown5 hgrow5)
        have HM5 : Hid (PlcAt w5 M ((keysL b).take (k + 1))) := by
          show World.ownsMap _ _ _ _ _ _ _
          rw [HT2.out, atD_snoc, List.length_append, HTL.out]
          rw [HTL.out] at hown5
          exact hown5
        have HW5 : Hid (Below w.heap.size w w5) := HW.out.grown hgrow5 hwz (fun i hi => by cases hi; exact hMw)
        have HAT5 : Hid (StrsAt w5 (some ⟨g, off, none⟩) kn c3 (keysL b)) := HAT.out.grown hgrow5 (fun g' off' e e2 => by cases e; cases e2; exact HGM rfl)
        clear hown5 hgrow5 hck
        go_wp2_with fail
        go_roundg (gk - 1)
        case measure => have := HK.out; omega
        case rel => exact ⟨k + 1, show k + 1 + (gk - 1) = kn by have := HK.out; omega, by go_num, HM5.out, HAT5.out, HW5.out⟩
      · have HMF : Hid (PlcAt wr M (keysL b)) := by
          have := HM.out
          rw [List.take_of_length_le (by rw [← HKN.out]; omega)] at this
          exact this
        clear HM HAT HQ3
        go_wp2_with fail
        refine (HK2.out wr HW.out).mono ?_
        rintro e w4 ⟨v4, rfl, ho4, hb4⟩
        obtain ⟨A4, c4, rfl, -, hat4, -⟩ := ho4.at_ strE_ok
        have HAT4 := Lib.hid hat4
        have HB4 := Lib.hid (HW.out.trans (hb4.mono hwz))
        have HM4 := Lib.hid (HMF.out.below hb4)
        clear ho4 hat4 hb4 HK2 HMF HW
        obtain ⟨ln, hln⟩ : ∃ ln, ln = (keysL o).length := ⟨_, rfl⟩
        rw [← hln] at HAT4 hko10 ⊢
        have HLN := Lib.hid hln
        clear hln
        clear hwz hMl hlt hkk HK
        go_wp2_with fail
        go_loopg [46] ln (fun gk v46 wr => ∃ k : Nat, Hid (k + gk = ln) ∧ v46 = .int .i64 (k : Int) ∧ Hid (∀ j, j < k → (keysL o).getD j [] ∈ keysL b) ∧ Hid (Below w4.heap.size w4 wr))
        case atStart => exact ⟨0, show 0 + ln = ln by omega, rfl, (show ∀ _ _, _ from fun j hj => by omega), Below.refl _ _⟩
        case round =>
          obtain ⟨k, HK, rfl, HKI, HW⟩ := hrel
          have hkk : k ≤ ln := by have := HK.out; omega
          have HWW := Lib.hid (HB4.out.trans (HW.out.mono HB4.out.size))
          by_cases hlt : k < ln
          · obtain ⟨g, off, rfl, hg, hc⟩ := (HAT4.out.keep HW.out).str (by omega)
            have hck := hc k hlt
            have hkl : k < (keysL o).length := by rw [← HLN.out]; exact hlt
            obtain ⟨x, hx⟩ : ∃ x, (keysL o)[k]? = some x := ⟨_, List.getElem?_eq_getElem hkl⟩
            have hxg : (keysL o).getD k [] = x := by rw [List.getD_eq_getElem?_getD, hx]; rfl
            rw [hxg] at hck
            have hxs := HKO.out x (List.mem_of_getElem? hx)
            have hlk := (HM4.out.below HW.out).look0 HP.out.kb x (by omega)
            by_cases hm : x ∈ keysL b
            · have hp : plcI (keysL b) x ≠ 0 := by unfold plcI; rw [if_pos hm]; omega
              have HKI2 : Hid (∀ j, j < k + 1 → (keysL o).getD j [] ∈ keysL b) := fun j hj => by
                by_cases hjk : j = k
                · subst hjk; rw [hxg]; exact hm
                · exact HKI.out j (by omega)
              generalize plcI (keysL b) x = pz at *
              have hpz : (pz == 0) = false := by simpa using hp
              clear hc hx hxs hxg hm hp
              go_wp2_with fail
              go_roundg (gk - 1)
              case measure => have := HK.out; omega
              case rel => exact ⟨k + 1, show k + 1 + (gk - 1) = ln by have := HK.out; omega, by go_num, HKI2.out, HW.out⟩
            · have hp : plcI (keysL b) x = 0 := by unfold plcI; rw [if_neg hm]
              rw [hp] at hlk
              have HF : Hid (LayPost w b o (.returned (.tuple #[.slice none 0 0, .int .i64 8])) wr) := layNo 8 (by decide) (fun h => hm (h.keys x (List.mem_of_getElem? hx))) HWW.out
              clear hc hx hxs hxg hm hp
              go_wp2_with fail
              go_ret2
              exact HF.out
          · have HKS : Hid (∀ x ∈ keysL o, x ∈ keysL b) := fun x hx => by
              obtain ⟨j, hj, e⟩ := List.getElem_of_mem hx
              have := HKI.out j (by rw [← HLN.out] at hj; omega)
              rwa [List.getD_eq_getElem?_getD, List.getElem?_eq_getElem hj, Option.getD_some, e] at this
            have HM5 := Lib.hid (HM4.out.below HW.out)
            obtain ⟨w5, rfl⟩ : ∃ w5 : World, w5 = wr := ⟨_, rfl⟩
            have hnk : ¬ (k : Int) < (ln : Int) := by omega
            clear HM4 HAT4 HKI HLN HW HKN hlt hkk
            obtain ⟨gB, oB, rfl, hgB, hcB⟩ := HB.out.row (by omega)
            obtain ⟨R, bn, rc, hcb0, hRb⟩ := hcB 0 (by omega)
            rw [Nat.add_zero] at hcb0
            rw [getD0_head] at hRb
            obtain ⟨gO, oO, rfl, hgO, hcO⟩ := HO.out.row (by omega)
            obtain ⟨R', on', rc', hco0, hRo⟩ := hcO 0 (by omega)
            rw [Nat.add_zero] at hco0
            rw [getD0_head] at hRo
            have HCB : Hid (∀ wx, Below w.heap.size w wx → wx.cell? ⟨gB, oB, none⟩ = some (.slice R bn rc)) := fun wx hb => (hb.cell (p := ⟨gB, oB, none⟩) hgB).trans hcb0
            have HCO : Hid (∀ wx, Below w.heap.size w wx → wx.cell? ⟨gO, oO, none⟩ = some (.slice R' on' rc')) := fun wx hb => (hb.cell (p := ⟨gO, oO, none⟩) hgO).trans hco0
            have HRB := Lib.hid hRb
            have HRO := Lib.hid hRo
            have HBN := Lib.hid hRb.1
            have HON := Lib.hid hRo.1
            have hb0m := mem_head HNB.out hn1
            have ho0m := mem_head HNO.out hm1
            have hbn : bn ≤ 30 ∧ 1 ≤ bn := by have h1 := HP.out.rb.2 _ hb0m; have h2 := HBN.out; omega
            have hon : on' ≤ 30 ∧ 1 ≤ on' := by have h1 := HP.out.ro.2 _ ho0m; have h2 := HON.out; omega
            have HS0 : Hid (∀ s ∈ o.headD [], s.length ≤ 20) := (HSO.out.2 _ ho0m).2
            have hbn0 : 0 < n := by omega
            have hon0 : 0 < m := by omega
            clear hcB hcO hcb0 hco0 hRb hRo hb0m ho0m
            have hck := HCB.out w5 HWW.out
            have HCL := Lib.hid (clone_any R bn rc (b.headD []) w5 (HRB.out.keep HWW.out) (by omega))
            go_wp2_with fail
            refine HCL.out.mono ?_
            rintro e w6 ⟨v12, rfl, ho12, hb6⟩
            have HO6 := Lib.hid ho12
            have HB6 := Lib.hid hb6
            have HW6 := Lib.hid (HWW.out.trans (hb6.mono HWW.out.size))
            have hz6 := hb6.size
            clear hck ho12 hb6 HCL hnk HK
            obtain ⟨w7, hmk, hown7, hb7, hz7⟩ := made_owns intE_ok 0 rfl w6 on' (by omega)
            have hmk' : (Instr.makeSlice 22 (.int .i64 (on' : Int)) (.int .i64 (on' : Int))).run Tryz.prog w6 = .ok (.slice (some ⟨w6.heap.size, 0, none⟩) on' on') w7 := hmk
            obtain ⟨C, hC⟩ : ∃ C, C = w6.heap.size := ⟨_, rfl⟩
            rw [← hC] at hmk' hown7 hz7
            have HC7 : Hid (Owns IntE w7 w5.heap.size (.slice (some ⟨C, 0, none⟩) on' on') (List.replicate on' 0)) := hown7.base_ (by omega)
            have HO7 : Hid (OwnStrs w7 w5.heap.size v12 (b.headD [])) := HO6.out.below_ hb7
            have HB7 : Hid (Below w5.heap.size w5 w7) := HB6.out.trans (hb7.mono HB6.out.size)
            have HW7 := Lib.hid (HW6.out.trans (hb7.mono HW6.out.size))
            have hck6 := HCO.out w6 HW6.out
            have hck7 := HCO.out w7 HW7.out
            have HCZ : Hid (ColsAt (b.headD []) (o.headD []) 0 (List.replicate on' 0)) := by show ColsAt _ _ _ _; rw [HON.out]; exact ColsAt.zero _ _
            have hCge : w5.heap.size ≤ C := by omega
            clear hmk hown7 hb7 HO6 HB6 hz6 hC hz7 HW6
            go_wp2_with fail
            go_loopg [12, 68] on' (fun gk v12 v68 wr => ∃ (k : Nat) (cs : List Int), Hid (k + gk = on') ∧ v68 = .int .i64 (k : Int) ∧ Hid (OwnStrs wr w5.heap.size v12 (headsL (b.headD []) ((o.headD []).take k))) ∧ Hid (Owns IntE wr w5.heap.size (.slice (some ⟨C, 0, none⟩) on' on') cs) ∧ Hid (ColsAt (b.headD []) (o.headD []) k cs) ∧ Hid (Below w5.heap.size w5 wr))
            case atStart => exact ⟨0, _, show 0 + on' = on' by omega, rfl, (show OwnStrs _ _ _ _ from HO7.out), HC7.out, HCZ.out, HB7.out⟩
            case round =>
              obtain ⟨k, cs, HK, rfl, HH, HC, HCS, HW⟩ := hrel
              clear HO7 HC7 HCZ HB7 HW7 hck6 hck7 hmk'
              have hkk : k ≤ on' := by have := HK.out; omega
              have HWR := Lib.hid (HWW.out.trans (HW.out.mono HWW.out.size))
              have hwz := HW.out.size
              have hhl : (headsL (b.headD []) ((o.headD []).take k)).length ≤ 60 := by
                have h1 := headsL_len ((o.headD []).take k) (b.headD [])
                rw [List.length_take] at h1
                have := HBN.out
                have := HON.out
                omega
              obtain ⟨A12, c12, rfl, -, hat12, hq12⟩ := HH.out.at_ strE_ok
              have HAT12 := Lib.hid hat12
              by_cases hlt : k < on'
              · obtain ⟨x, hx⟩ : ∃ x, (o.headD [])[k]? = some x := ⟨_, List.getElem?_eq_getElem (by rw [← HON.out]; exact hlt)⟩
                have hxg : (o.headD []).getD k [] = x := by rw [List.getD_eq_getElem?_getD, hx]; rfl
                obtain ⟨g, off, rfl, hg, hc⟩ := (HRO.out.keep HWR.out).str (by omega)
                have hck := hc k hlt
                rw [hxg] at hck
                have HCT := Lib.hid (HCS.out.step hx)
                obtain ⟨hs1, hs2⟩ := heads_step (b := b.headD []) hx
                have HS1 := Lib.hid hs1
                have HS2 := Lib.hid hs2
                have hcl := HCS.out.1
                have hkc : k < cs.length := by rw [hcl, ← HON.out]; exact hlt
                have HKC := Lib.hid hkc
                have hcz := HC.out.intAt k cs[k] (List.getElem?_eq_getElem hkc)
                obtain ⟨hcz1, hcz2⟩ := hcz
                have HX20 := HS0.out x (List.mem_of_getElem? hx)
                clear hs1 hs2 hc hcl hxg hx hat12 hq12
                generalize cs[k] = c0 at *
                generalize headsL (b.headD []) ((o.headD []).take k) = hs at *
                have HIX := Lib.hid (index_any A12 hs.length c12 hs ⟨x.toArray⟩ wr HAT12.out (by omega))
                rw [show (⟨x.toArray⟩ : ByteArray).data.toList = x by simp] at HIX
                generalize hhn : hs.length = hN at *
                have HHN := Lib.hid hhn
                clear hhn
                go_wp2_with fail
                refine HIX.out.mono ?_
                rintro e w' ⟨r, rfl, hf, hw⟩
                subst hw
                clear HIX
                rcases firstAt_of hf with ⟨hm, hr⟩ | ⟨hm, hr⟩
                · have hs1 := HS1.out hm
                  rw [if_pos hm] at HCT
                  obtain ⟨q, hq⟩ : ∃ q : Nat, q = hs.idxOf x := ⟨_, rfl⟩
                  rw [← hq] at hr HCT
                  subst hr
                  have HG := Lib.hid (grown_setCell w' C k (.int .i64 (q : Int)))
                  have HC2 := Lib.hid (HC.out.setInt k HKC.out (q : Int))
                  have HH2 : Hid (OwnStrs (w'.setCell ⟨C, k, none⟩ (.int .i64 (q : Int))) w5.heap.size (.slice A12 hN c12) (headsL (b.headD []) ((o.headD []).take (k + 1)))) := by
                    show Owns _ _ _ _ _
                    rw [hs1]
                    exact HH.out.beside HC.out (by decide) HG.out
                  have HW2 : Hid (Below w5.heap.size w5 (w'.setCell ⟨C, k, none⟩ (.int .i64 (q : Int)))) := HW.out.grown HG.out hwz (fun i hi => by cases hi; exact hCge)
                  have hqn : ¬ ((q : Int) < 0) := by omega
                  clear hf hm hs1 hq
                  go_wp2_with fail
                  go_roundg (gk - 1)
                  case measure => have := HK.out; omega
                  case rel => exact ⟨k + 1, _, show k + 1 + (gk - 1) = on' by have := HK.out; omega, by go_num, HH2.out, HC2.out, HCT.out, HW2.out⟩
                · have hs2 := HS2.out hm
                  rw [if_neg hm] at HCT
                  subst hr
                  have HG1 := Lib.hid (grown_setCell w' C k (.int .i64 (-1)))
                  have HC1 := Lib.hid (HC.out.setInt k HKC.out (-1))
                  have HG2 := Lib.hid (grown_setCell (w'.setCell ⟨C, k, none⟩ (.int .i64 (-1))) C k (.int .i64 (hN : Int)))
                  have HC2 := Lib.hid (HC1.out.setInt k (by rw [List.length_set]; exact HKC.out) (hN : Int))
                  rw [List.set_set] at HC2
                  obtain ⟨hd1, hd2⟩ := HC1.out.intAt k (-1) (by rw [List.getElem?_set_self HKC.out])
                  have HH1 : Hid (OwnStrs (w'.setCell ⟨C, k, none⟩ (.int .i64 (-1))) w5.heap.size (.slice A12 hN c12) hs) := HH.out.beside HC.out (by decide) HG1.out
                  have HH2 : Hid (OwnStrs ((w'.setCell ⟨C, k, none⟩ (.int .i64 (-1))).setCell ⟨C, k, none⟩ (.int .i64 (hN : Int))) w5.heap.size (.slice A12 hN c12) hs) := HH1.out.beside HC1.out (by decide) HG2.out
                  have HW2 : Hid (Below w5.heap.size w5 ((w'.setCell ⟨C, k, none⟩ (.int .i64 (-1))).setCell ⟨C, k, none⟩ (.int .i64 (hN : Int)))) := (HW.out.grown HG1.out hwz (fun i hi => by cases hi; exact hCge)).grown HG2.out (by have := HG1.out.size; omega) (fun i hi => by cases hi; exact hCge)
                  have hz9 : w5.heap.size ≤ ((w'.setCell ⟨C, k, none⟩ (.int .i64 (-1))).setCell ⟨C, k, none⟩ (.int .i64 (hN : Int))).heap.size := HW2.out.size
                  clear hf hm
                  go_upto_region 24 with (fail)
                  generalize (w'.setCell ⟨C, k, none⟩ (.int .i64 (-1))).setCell ⟨C, k, none⟩ (.int .i64 (hN : Int)) = w9 at *
                  clear HG1 HG2 HC1 HH1 hd1 hd2 hcz1 hcz2
                  go_wp2_with (at_builtin; refine append_elems strE_ok rfl _ _ rfl w5.heap.size _ hs rfl (World.ownsRow.alloc HH2.out _) (some ⟨w9.heap.size, 0, none⟩) 1 1 [x] rfl (one_elem (E := StrE) w9 x) (by simp only [List.length_singleton]; have := HHN.out; omega) (by simp; omega) ?_; intro v10 w10 hown10 hgrow10 _)
                  have HH10 : Hid (OwnStrs w10 w5.heap.size v10 (headsL (b.headD []) ((o.headD []).take (k + 1)))) := by
                    show Owns _ _ _ _ _
                    rw [hs2]; exact hown10
                  have HC10 : Hid (Owns IntE w10 w5.heap.size (.slice (some ⟨C, 0, none⟩) on' on') (cs.set k (hN : Int))) := (Owns.beside (World.ownsRow.alloc HC2.out _) (World.ownsRow.alloc HH2.out _) (by decide) hgrow10)
                  have HW10 : Hid (Below w5.heap.size w5 w10) := (HW2.out.alloc hz9 _).grown hgrow10 (by simp; omega) (fun i hi => (HH2.out.lt i hi).1)
                  clear hown10 hgrow10
                  go_wp2_with fail
                  go_roundg (gk - 1)
                  case measure => have := HK.out; omega
                  case rel => exact ⟨k + 1, _, show k + 1 + (gk - 1) = on' by have := HK.out; omega, by go_num, HH10.out, HC10.out, HCT.out, HW10.out⟩
              · have hke : k = on' := by omega
                subst hke
                have HHF : Hid (OwnStrs wr w5.heap.size (.slice A12 (headsL (b.headD []) (o.headD [])).length c12) (headsL (b.headD []) (o.headD []))) := by
                  have := HH.out
                  rw [List.take_of_length_le (by rw [← HON.out]; exact Nat.le_refl _)] at this
                  exact this
                rw [List.take_of_length_le (l := o.headD []) (by rw [← HON.out]; exact Nat.le_refl _)] at hhl hat12 ⊢
                have HLL := Lib.hid (headsL_len (o.headD []) (b.headD []))
                obtain ⟨mm, hmmE⟩ := headsL_sub (o.headD []) (b.headD [])
                have HBL : Hid ((b.headD []).length ≤ (headsL (b.headD []) (o.headD [])).length) := by show _ ≤ _; rw [hmmE, List.length_append]; omega
                have hnk : ¬ (k : Int) < (k : Int) := by omega
                clear HH HAT12 hat12 hq12 hmmE HK hlt hkk
                by_cases hbig : 30 < (headsL (b.headD []) (o.headD [])).length
                · have hbi : (30 : Int) < ((headsL (b.headD []) (o.headD [])).length : Int) := by omega
                  have HF : Hid (LayPost w b o (.returned (.tuple #[.slice none 0 0, .int .i64 2])) wr) := layNo 2 (by decide) (fun h => by have := h.few; omega) HWR.out
                  generalize (headsL (b.headD []) (o.headD [])).length = hl at *
                  go_wp2_with fail
                  go_ret2
                  exact HF.out
                · have HOK := Lib.hid (HP.out.ok HKS.out (by omega))
                  have hbi : ¬ (30 : Int) < ((headsL (b.headD []) (o.headD [])).length : Int) := by omega
                  obtain ⟨hs, hhs⟩ : ∃ hs, hs = headsL (b.headD []) (o.headD []) := ⟨_, rfl⟩
                  have HHS := Lib.hid hhs
                  rw [← hhs] at HHF HBL hbi hbig ⊢
                  obtain ⟨hl, hhl2⟩ : ∃ hl, hl = hs.length := ⟨_, rfl⟩
                  have HHL := Lib.hid hhl2
                  rw [← hhl2] at HHF HBL hbi hbig ⊢
                  clear hhs hhl2 hhl HLL
                  have hl30 : hl ≤ 30 := by omega
                  obtain ⟨w8, rfl⟩ : ∃ w8 : World, w8 = wr := ⟨_, rfl⟩
                  have HP9 := Lib.hid (one_row w8 w5.heap.size (A12, hl, c12) hs HHF.out hwz)
                  have HC9 : Hid (Owns IntE (w8.alloc (.cells #[HdS.v (A12, hl, c12)] 53)) w5.heap.size (.slice (some ⟨C, 0, none⟩) k k) cs) := World.ownsRow.alloc HC.out _
                  have HW9 : Hid (Below w5.heap.size w5 (w8.alloc (.cells #[HdS.v (A12, hl, c12)] 53))) := HW.out.alloc hwz _
                  have hvv : HdS.v (A12, hl, c12) = .slice A12 hl c12 := rfl
                  rw [hvv] at HP9 HC9 HW9
                  obtain ⟨AB, hAB, htB⟩ := HB.out.piece 1 hn1
                  have hslb : ∀ wx : World, (Instr.slice 26 (.slice (some ⟨gB, oB, none⟩) n c) (some (.int .i64 1)) none none).run Tryz.prog wx = .ok (.slice AB (n - 1) (c - 1)) wx := fun wx => sl_rows _ n c 1 hn1 _ hAB wx
                  obtain ⟨AO, hAO, htO⟩ := HO.out.piece 1 hm1
                  have hslo : ∀ wx : World, (Instr.slice 26 (.slice (some ⟨gO, oO, none⟩) m d) (some (.int .i64 1)) none none).run Tryz.prog wx = .ok (.slice AO (m - 1) (d - 1)) wx := fun wx => sl_rows _ m d 1 hm1 _ hAO wx
                  have HTB := Lib.hid htB
                  have HTO := Lib.hid htO
                  clear hAB hAO htB htO hvv HHF HC HW HWR hwz
                  obtain ⟨nb, hnb⟩ : ∃ nb, nb = n - 1 := ⟨_, rfl⟩
                  obtain ⟨no, hno⟩ : ∃ no, no = m - 1 := ⟨_, rfl⟩
                  rw [← hnb] at hslb HTB
                  rw [← hno] at hslo HTO
                  have HDL := Lib.hid HTB.out.len
                  have HEL := Lib.hid HTO.out.len
                  have hnb10 : nb ≤ 10 := by omega
                  have hno10 : no ≤ 10 := by omega
                  clear hnb hno
                  go_wp2_with fail
                  generalize w8.alloc (.cells #[.slice A12 hl c12] 53) = w9 at *
                  obtain ⟨t0, ht0⟩ : ∃ t0, t0 = w8.heap.size := ⟨_, rfl⟩
                  rw [← ht0] at HP9 ⊢
                  clear ht0
                  go_loopg [16, 102] nb (fun gk v16 v102 wr => ∃ (j : Nat) (rs : List HdS), Hid (j + gk = nb) ∧ v102 = .int .i64 (j : Int) ∧ Hid (ParasAt wr w5.heap.size v16 rs (hs :: ((b.drop 1).take j).map (padR hs.length))) ∧ Hid (Owns IntE wr w5.heap.size (.slice (some ⟨C, 0, none⟩) k k) cs) ∧ Hid (Below w5.heap.size w5 wr))
                  case atStart => exact ⟨0, _, show 0 + nb = nb by omega, rfl, (show ParasAt _ _ _ _ _ from HP9.out), HC9.out, HW9.out⟩
                  case round =>
                    obtain ⟨j, rs, HJ, rfl, HPJ, HCJ, HWJ⟩ := hrel
                    clear HP9 HC9 HW9
                    have hjn : j ≤ nb := by have := HJ.out; omega
                    have HWR := Lib.hid (HWW.out.trans (HWJ.out.mono HWW.out.size))
                    have hwz := HWJ.out.size
                    have hrsl : rs.length ≤ 11 := by have := HPJ.out.len; rw [List.length_cons, List.length_map, List.length_take] at this; omega
                    by_cases hlt : j < nb
                    · obtain ⟨g, off, rfl, hg, hc⟩ := (TabAt.keep HTB.out HWR.out).row (by omega)
                      obtain ⟨Rr, rl, rrc, hck, hRow⟩ := hc j hlt
                      have hjD : j < (b.drop 1).length := by rw [← HDL.out]; exact hlt
                      obtain ⟨r, hr⟩ : ∃ r, b[j + 1]? = some r := by
                        rw [List.length_drop] at hjD
                        exact ⟨_, List.getElem?_eq_getElem (by omega)⟩
                      have hrd : (b.drop 1).getD j [] = r := by rw [List.getD_eq_getElem?_getD, List.getElem?_drop, Nat.add_comm 1 j, hr]; rfl
                      rw [hrd] at hRow
                      have hrlen := hRow.1
                      have hrow := HP.out.rb.2 r (List.mem_of_getElem? hr)
                      have hrl : rl ≤ hl := by have := hrow.2.2.1; have := HBL.out; omega
                      have HBT := Lib.hid (base_take (hs := hs) hr)
                      have HCLO := Lib.hid (clone_any Rr rl rrc r wr hRow (by omega))
                      have hrr30 : r.length ≤ 30 := hrow.2.1
                      have HPAD : Hid (padR hs.length r = r ++ List.replicate (hl - rl) []) := by show _ = _; unfold padR; rw [HHL.out, hrlen]
                      clear hc hRow hrd hrow hr hjD hrlen
                      go_wp2_with fail
                      refine HCLO.out.mono ?_
                      rintro e wc ⟨vc, rfl, hoc, hbc⟩
                      obtain ⟨vz, wz, hrz, hoz, hgz, -⟩ := append_zeros strE_ok [] rfl 3 .i64 Tryz.underlying3 53 wc wr.heap.size vc r hoc (hl - rl) (by omega) hbc.size
                      have hrz' : (Builtin.append_ #[53, 3] 53 #[vc, .int .i64 ((hl : Int) - (rl : Int))]).run Tryz.prog wc = .ok vz wz := by
                        rw [show (hl : Int) - (rl : Int) = ((hl - rl : Nat) : Int) by omega]
                        exact hrz
                      have e2 : IntKind.i64.wrap ((hl : Int) - (rl : Int)) = (hl : Int) - (rl : Int) := IntWalk.i64_in _ (by omega)
                      rw [← HPAD.out] at hoz
                      obtain ⟨Rz, cz, rfl, -, -, -⟩ := hoz.at_ strE_ok
                      have hbz : Below wr.heap.size wr wz := hbc.grown hgz hbc.size (fun i hi => (hoc.lt i hi).1)
                      have HPZ : Hid (ParasAt wz w5.heap.size u16 rs (hs :: ((b.drop 1).take j).map (padR hs.length))) := HPJ.out.below hbz
                      have HAP := Lib.hid (HPJ.out.newer (r := (Rz, (padR hs.length r).length, cz)) (fun b hb => (hoz.lt b hb).1))
                      have HOZ : Hid (OwnStrs wz w5.heap.size (.slice Rz (padR hs.length r).length cz) (padR hs.length r)) := hoz.base_ hwz
                      have HCZ : Hid (Owns IntE wz w5.heap.size (.slice (some ⟨C, 0, none⟩) k k) cs) := HCJ.out.below_ hbz
                      have HWZ := Lib.hid (HWJ.out.trans (hbz.mono hwz))
                      have hzz := HWZ.out.size
                      clear hoc hbc hrz hoz hgz hbz HCLO hck HPAD
                      generalize (padR hs.length r).length = pl at *
                      go_wp2_with (first
                        | (at_builtin; refine Lib.wpList_append_run _ rfl _ _ _ _ rfl _ _ rfl rfl _ _ hrz' ?_)
                        | (at_builtin; refine append_elems lineE_ok rfl _ _ rfl w5.heap.size _ rs rfl (World.ownsRow.alloc HPZ.out.own _) (some ⟨wz.heap.size, 0, none⟩) 1 1 [(Rz, pl, cz)] rfl (one_elem (E := LineE) wz (Rz, pl, cz)) (by simp; omega) (by simp; omega) ?_; intro v10 w10 hown10 hgrow10 _))
                      have HB1 := (Below.refl wz.heap.size wz).alloc (Nat.le_refl _) (.cells (LineE.enc (Rz, pl, cz)).toArray LineE.t)
                      have HPN : Hid (ParasAt w10 w5.heap.size v10 (rs ++ [(Rz, pl, cz)]) (hs :: ((b.drop 1).take (j + 1)).map (padR hs.length))) := by
                        show ParasAt _ _ _ _ _
                        rw [HBT.out]
                        exact (HPZ.out.below HB1).push (World.ownsRow.alloc HOZ.out _) HAP.out hown10 hgrow10
                      have HCN : Hid (Owns IntE w10 w5.heap.size (.slice (some ⟨C, 0, none⟩) k k) cs) := Owns.beside (World.ownsRow.alloc HCZ.out _) (World.ownsRow.alloc HPZ.out.own _) (by decide) hgrow10
                      have HWN : Hid (Below w5.heap.size w5 w10) := (HWZ.out.alloc hzz _).grown hgrow10 (by simp; omega) (fun i hi => (HPZ.out.own.lt i hi).1)
                      clear hown10 hgrow10 HB1 hrz' e2
                      go_wp2_with fail
                      go_roundg (gk - 1)
                      case measure => have := HJ.out; omega
                      case rel => exact ⟨j + 1, _, show j + 1 + (gk - 1) = nb by have := HJ.out; omega, by go_num, HPN.out, HCN.out, HWN.out⟩
                    · have hnj : ¬ (j : Int) < (nb : Int) := by omega
                      have HPB : Hid (ParasAt wr w5.heap.size u16 rs (baseT b hs)) := by
                        have := HPJ.out
                        rw [List.take_of_length_le (by rw [← HDL.out]; omega)] at this
                        exact this
                      obtain ⟨wq, rfl⟩ : ∃ wq : World, wq = wr := ⟨_, rfl⟩
                      obtain ⟨A16, c16, hA16, -, -, -⟩ := HPB.out.tab
                      obtain ⟨tn, htn⟩ : ∃ tn, tn = (baseT b hs).length := ⟨_, rfl⟩
                      rw [← htn] at hA16
                      subst hA16
                      have HTN : Hid (∀ W, (runW (baseT b hs) W).length = tn) := fun W => by rw [runW_length, htn]
                      have htn11 : tn ≤ 11 := by rw [htn]; have := HPB.out.len; rw [← this]; exact hrsl
                      have HLENS : Hid (∀ W, ∀ r ∈ runW (baseT b hs) W, r.length = hl) := fun W => run_len hl W _ (by rw [HHL.out, HHS.out]; exact base_lens HOK.out)
                      have HWB := Lib.hid HWJ.out
                      clear HPJ HWJ HJ hjn hlt htn HTB hslb
                      go_wp2_with fail
                      go_loopg [121] no (fun gk v121 wr => ∃ (i : Nat), Hid (i + gk = no) ∧ v121 = .int .i64 (i : Int) ∧ Hid (ParasAt wr w5.heap.size (.slice A16 tn c16) rs (runW (baseT b hs) (wrT b o hs i))) ∧ Hid (Owns IntE wr w5.heap.size (.slice (some ⟨C, 0, none⟩) k k) cs) ∧ Hid (Below w5.heap.size w5 wr))
                      case atStart => exact ⟨0, show 0 + no = no by omega, rfl, (show ParasAt _ _ _ _ _ by have := HPB.out; simpa [wrT, runW] using this), HCJ.out, HWB.out⟩
                      case round =>
                        obtain ⟨i, HI, rfl, HPI, HCI, HWI⟩ := hrel
                        clear HPB HCJ HWB
                        have hin : i ≤ no := by have := HI.out; omega
                        obtain ⟨gko, rfl⟩ : ∃ gko : Nat, gko = gk := ⟨_, rfl⟩
                        obtain ⟨wo, rfl⟩ : ∃ wo : World, wo = wr := ⟨_, rfl⟩
                        have HWO := Lib.hid (HWW.out.trans (HWI.out.mono HWW.out.size))
                        by_cases hlt : i < no
                        · obtain ⟨g, off, rfl, hg, hc⟩ := HTO.out.row (by omega)
                          obtain ⟨Rr, rl, rrc, hck0, hRow⟩ := hc i hlt
                          have hck := (HWO.out.cell (p := ⟨g, off + i, none⟩) hg).trans hck0
                          have hgo : g < wo.heap.size := Nat.lt_of_lt_of_le hg HWO.out.size
                          have hjD : i < (o.drop 1).length := by rw [← HEL.out]; exact hlt
                          obtain ⟨r, hr⟩ : ∃ r, o[i + 1]? = some r := by
                            rw [List.length_drop] at hjD
                            exact ⟨_, List.getElem?_eq_getElem (by omega)⟩
                          have hrd : (o.drop 1).getD i [] = r := by rw [List.getD_eq_getElem?_getD, List.getElem?_drop, Nat.add_comm 1 i, hr]; rfl
                          rw [hrd] at hRow
                          have hrm := List.mem_of_getElem? hr
                          have hrow := HP.out.ro.2 r hrm
                          have HRLN := Lib.hid hRow.1
                          have hrlk : rl = k := by rw [HRLN.out, hrow.2.2.1, ← HON.out]
                          subst hrlk
                          have HRW := Lib.hid hRow
                          have HRS := Lib.hid (HSO.out.2 r hrm).2
                          have HKM : Hid (r.headD [] ∈ keysL b) := HKS.out _ (List.mem_map.2 ⟨r, List.mem_of_getElem? (i := i) (by rw [List.getElem?_drop, Nat.add_comm 1 i]; exact hr), rfl⟩)
                          have HWT := Lib.hid (wrT_succ (b := b) (hs := hs) hr)
                          clear hc hRow hrd hrow hr hjD hrm hck0
                          go_wp2_with fail
                          go_loopg [127] rl (fun gk v127 wr => ∃ (j : Nat), Hid (j + gk = rl) ∧ v127 = .int .i64 (j : Int) ∧ Hid (ParasAt wr w5.heap.size (.slice A16 tn c16) rs (runW (runW (baseT b hs) (wrT b o hs i)) (wrR b hs (o.headD []) r j))) ∧ Hid (Owns IntE wr w5.heap.size (.slice (some ⟨C, 0, none⟩) rl rl) cs) ∧ Hid (Below w5.heap.size w5 wr))
                          case atStart => exact ⟨0, show 0 + rl = rl by omega, rfl, (show ParasAt _ _ _ _ _ by rw [wrR_zero]; exact HPI.out), HCI.out, HWI.out⟩
                          case round =>
                            obtain ⟨j, HJ, rfl, HPJ, HCJ, HWJ⟩ := hrel
                            clear HPI HCI HWI hck
                            have hjn : j ≤ rl := by have := HJ.out; omega
                            have HWR := Lib.hid (HWW.out.trans (HWJ.out.mono HWW.out.size))
                            by_cases hlt2 : j < rl
                            · obtain ⟨g2, off2, rfl, hg2, hc2⟩ := (HRW.out.keep HWR.out).str (by omega)
                              have hcj := hc2 j hlt2
                              obtain ⟨x, hx⟩ : ∃ x, r[j]? = some x := ⟨_, List.getElem?_eq_getElem (by rw [← HRLN.out]; exact hlt2)⟩
                              rw [show r.getD j [] = x by rw [List.getD_eq_getElem?_getD, hx]; rfl] at hcj
                              by_cases hj0 : j = 0
                              · subst hj0
                                have HPN : Hid (ParasAt wr w5.heap.size (.slice A16 tn c16) rs (runW (runW (baseT b hs) (wrT b o hs i)) (wrR b hs (o.headD []) r (0 + 1)))) := by
                                  show ParasAt _ _ _ _ _
                                  rw [wrR_one]
                                  have := HPJ.out
                                  rwa [wrR_zero] at this
                                rw [Nat.add_zero] at hcj
                                clear hc2 hx
                                go_wp2_with fail
                                go_roundg (gk - 1)
                                case measure => have := HJ.out; omega
                                case rel => exact ⟨0 + 1, show 0 + 1 + (gk - 1) = rl by have := HJ.out; omega, by go_num, HPN.out, HCJ.out, HWJ.out⟩
                              · have hj1 : 1 ≤ j := by omega
                                have hji : (0 : Int) < (j : Int) := by omega
                                have hc0 := hc2 0 (by omega)
                                rw [Nat.add_zero, getD0_head'] at hc0
                                obtain ⟨p, hp⟩ : ∃ p, p = (keysL b).idxOf (r.headD []) + 1 := ⟨_, rfl⟩
                                have hplt : p < (keysL b).length + 1 := by rw [hp]; have := List.idxOf_lt_length_iff.2 HKM.out; omega
                                have hpt : p < tn := by
                                  have h1 := HTN.out []
                                  have h2 : (baseT b hs).length = (b.drop 1).length + 1 := by simp [baseT]
                                  have h3 : (runW (baseT b hs) []).length = (baseT b hs).length := rfl
                                  rw [HLB.out] at hplt
                                  rw [List.length_drop] at h2
                                  omega
                                have hpl : plcI (keysL b) (r.headD []) = (p : Int) := by unfold plcI; rw [if_pos HKM.out, hp]; omega
                                have hx0 : (r.headD []).length ≤ 20 := by
                                  rcases hr : r with _ | ⟨y, r'⟩
                                  · simp
                                  · exact HRS.out y (by rw [hr]; simp)
                                have hlk := (HM5.out.below HWJ.out).look HP.out.kb (r.headD []) (by omega)
                                rw [hpl] at hlk
                                have HTW : Hid (runW (runW (baseT b hs) (wrT b o hs i)) (wrR b hs (o.headD []) r j) = runW (baseT b hs) (wrT b o hs i ++ wrR b hs (o.headD []) r j)) := (runW_append _ _ _).symm
                                obtain ⟨q, hq⟩ : ∃ q, (runW (runW (baseT b hs) (wrT b o hs i)) (wrR b hs (o.headD []) r j))[p]? = some q := ⟨_, List.getElem?_eq_getElem (by rw [HTW.out, HTN.out]; exact hpt)⟩
                                have hql : q.length = hl := HLENS.out _ q (by rw [← HTW.out]; exact List.mem_of_getElem? hq)
                                have hxo : (o.headD []).getD j [] ∈ hs := by
                                  have := heads_has (b := b.headD []) hlt2 (show rl ≤ (o.headD []).length by rw [← HON.out]; exact Nat.le_refl _)
                                  rwa [List.take_of_length_le (by rw [← HON.out]; exact Nat.le_refl _), ← HHS.out] at this
                                obtain ⟨ci, hci⟩ : ∃ ci, ci = hs.idxOf ((o.headD []).getD j []) := ⟨_, rfl⟩
                                have hcl : ci < hl := by rw [hci, HHL.out]; exact List.idxOf_lt_length_iff.2 hxo
                                have hcs := HCS.out.2 j hlt2
                                rw [List.take_of_length_le (by rw [← HON.out]; exact Nat.le_refl _), ← HHS.out, ← hci] at hcs
                                obtain ⟨hcc, -⟩ := HCJ.out.intAt j _ hcs
                                have hbl : 1 ≤ hl := by have := HBL.out; have := HBN.out; omega
                                obtain ⟨G, cG, hrs, hGb, hGl, hGc⟩ := HPJ.out.rowAt hq (by omega)
                                obtain ⟨hG1, hG2⟩ := hGc ci (by omega)
                                obtain ⟨GH, cH, hvH, -, hGHl, hHc⟩ := HPJ.out.headAt (by rw [HTW.out, HTN.out]; omega)
                                have hH := hHc _ _ hrs
                                simp only [Value.slice.injEq] at hvH
                                obtain ⟨rfl, -, -⟩ := hvH
                                have hrown := HPJ.out.each _ _ q hrs hq
                                rw [show HdS.v (some ⟨G, 0, none⟩, q.length, cG) = .slice (some ⟨G, 0, none⟩) q.length cG from rfl, hql] at hH hrown
                                have HPN : Hid (ParasAt (wr.drew.setCell ⟨G, ci, none⟩ (.string ⟨x.toArray⟩)) w5.heap.size (.slice (some ⟨GH, 0, none⟩) tn c16) rs (runW (runW (baseT b hs) (wrT b o hs i)) (wrR b hs (o.headD []) r (j + 1)))) := by
                                  show ParasAt _ _ _ _ _
                                  rw [wrR_succ hj1 hx, ← hp, ← hci, runW_snoc hq]
                                  have h1 : ParasAt wr.drew w5.heap.size (.slice (some ⟨GH, 0, none⟩) tn c16) rs (runW (runW (baseT b hs) (wrT b o hs i)) (wrR b hs (o.headD []) r j)) := HPJ.out.below ((Below.refl _ _).drew)
                                  have h2 := h1.setAt (i := ci) ⟨x.toArray⟩ hrs hq (by omega)
                                  rwa [show (⟨x.toArray⟩ : ByteArray).data.toList = x by simp] at h2
                                have hg0 : wr.drew.grownBy (wr.drew.setCell ⟨G, ci, none⟩ (.string ⟨x.toArray⟩)) (some G) := grown_setCell _ _ _ _
                                have HCN : Hid (Owns IntE (wr.drew.setCell ⟨G, ci, none⟩ (.string ⟨x.toArray⟩)) w5.heap.size (.slice (some ⟨C, 0, none⟩) rl rl) cs) := by
                                  have h1 : Owns IntE wr.drew w5.heap.size (.slice (some ⟨C, 0, none⟩) rl rl) cs := HCJ.out
                                  have h2 : OwnStrs wr.drew w5.heap.size (.slice (some ⟨G, 0, none⟩) hl cG) q := hrown
                                  exact h1.beside h2 (by decide) hg0
                                have HWN : Hid (Below w5.heap.size w5 (wr.drew.setCell ⟨G, ci, none⟩ (.string ⟨x.toArray⟩))) := by
                                  have h1 : Below w5.heap.size w5 wr.drew := HWJ.out.drew
                                  exact h1.grown hg0 h1.size (fun i hi => by cases hi; exact hGb)
                                have hcii : (ci : Int) < (hl : Int) := by omega
                                have hrl0 : 0 < rl := by omega
                                have hjl : (j : Int) < (rl : Int) := by omega
                                clear hc2 hx hq hql hxo hcs hrs hGc hHc hrown hg0 hpl hx0 hp hci
                                generalize r.headD [] = kx at *
                                have hlkd : (Instr.lookup 90 (.map (some M)) (.string ⟨kx.toArray⟩) false).run Tryz.prog wr.drew = .ok (.int .i64 (p : Int)) wr.drew := hlk 1
                                clear hlk
                                go_wp2_with fail
                                have hG1' : wr.drew.cell? ⟨G, ci, none⟩ = some (.string (bag (q.getD ci []))) := hG1
                                have hG2' : wr.drew.frozen? ⟨G, ci, none⟩ = false := hG2
                                refine wp_region_still_tail 14 (by kernel_rfl) (by kernel_rfl) ?_
                                simp only [List.take_succ_cons, List.take_zero, List.drop_succ_cons, List.drop_zero]
                                repeat still_step
                                refine wpStill_nil ?_
                                change wpList _ _ _ _ _ wr.drew
                                generalize wr.drew = wd at *
                                go_wp2_with fail
                                go_roundg (gk - 1)
                                case measure => have := HJ.out; omega
                                case rel => exact ⟨j + 1, show j + 1 + (gk - 1) = rl by have := HJ.out; omega, by go_num, HPN.out, HCN.out, HWN.out⟩
                            · have hj2 : j = rl := by omega
                              subst hj2
                              have HPN : Hid (ParasAt wr w5.heap.size (.slice A16 tn c16) rs (runW (baseT b hs) (wrT b o hs (i + 1)))) := by
                                show ParasAt _ _ _ _ _
                                rw [HWT.out, runW_append]
                                have := HPJ.out
                                rwa [show wrR b hs (o.headD []) r j = rowW b hs (o.headD []) r by have := HRLN.out; rw [this]; exact wrR_all _ _ _ _] at this
                              have hjj : ¬ (j : Int) < (j : Int) := by omega
                              go_wp2_with fail
                              go_roundg (gko - 1)
                              case measure => have := HI.out; omega
                              case rel => exact ⟨i + 1, show i + 1 + (gko - 1) = no by have := HI.out; omega, by go_num, HPN.out, HCJ.out, HWJ.out⟩
                        · have hii : ¬ (i : Int) < (no : Int) := by omega
                          have HF : Hid (LayPost w b o (.returned (.tuple #[.slice A16 tn c16, .int .i64 0])) wo) := by
                            refine ⟨_, rs, 0, rfl, fun _ => ⟨HOK.out, ?_⟩, fun _ => rfl, HWO.out⟩
                            have h1 := HPI.out
                            rw [wrT_all b o hs (by have := HEL.out; rw [List.length_drop] at this; omega)] at h1
                            have h2 := h1.base_ HWW.out.size
                            rw [HHS.out] at h2
                            exact h2
                          go_wp2_with fail
                          go_ret2
                          exact HF.out
end Go.Proofs.YtbipkkebkddegaaGreatDoor
