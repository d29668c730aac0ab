
/-
  WordsStay returns true.
-/
import Derived.Test.YtmaimojpjepmjaaGreatDoorWsLoose
namespace Go.Proofs.YtmaimojpjepmjaaGreatDoor
open Go.RowKit Go.Maps

set_option maxHeartbeats 12800000 in
set_option maxRecDepth 100000 in
theorem wordsStay_any (A : Option Addr) (n c : Nat) (w : World) (hrow : RowAt w A n) (hbig : n ≤ 1000000000000000) (hM : MaxAt w) (hML : 2 < w.heap.size) :
    Calls Tryz.prog 4 #[.slice A n c] w (LawPost w) := by
  obtain ⟨zs, hz⟩ := row_is w A n hrow
  have HST : Hid (∀ (wx : World) (g k : Nat), Below w.heap.size w wx → w.heap.size ≤ g → wx.heap[g]? = some (.cells #[.slice A n c, .int .i64 (k : Int)] 25 (0, 0)) → StreamIs wx g A n c k zs) := fun wx g k hb hg hh => stream_at hz hbig hb hg hh
  have HMX : Hid (∀ wx, Below w.heap.size w wx → MaxAt wx) := fun wx hb => hM.below hb
  clear hrow hz hM
  go_enter Tryz.func4, Tryz.ntmps4
  go_upto_region 2 with (fail)
  have hb2 : Below w.heap.size w ((w.alloc (.cells #[.slice A n c, .int .i64 0] 25)).alloc (.cells #[.slice A n c, .int .i64 0] 25)) := ((Below.refl _ _).alloc (Nat.le_refl _) _).alloc (by simp) _
  have hpa : ((w.alloc (.cells #[.slice A n c, .int .i64 0] 25)).alloc (.cells #[.slice A n c, .int .i64 0] 25)).heap[w.heap.size]? = some (.cells #[.slice A n c, .int .i64 ((0 : Nat) : Int)] 25 (0, 0)) := (Below.heap_alloc _ _ _ (by simp)).trans (heap_alloc_new w _)
  have hpb : ((w.alloc (.cells #[.slice A n c, .int .i64 0] 25)).alloc (.cells #[.slice A n c, .int .i64 0] 25)).heap[w.heap.size + 1]? = some (.cells #[.slice A n c, .int .i64 ((0 : Nat) : Int)] 25 (0, 0)) := by
    have h := heap_alloc_new (w.alloc (.cells #[.slice A n c, .int .i64 0] 25)) (.cells #[.slice A n c, .int .i64 0] 25)
    rwa [show (w.alloc (.cells #[.slice A n c, .int .i64 0] 25)).heap.size = w.heap.size + 1 by simp] at h
  have HB2 := Lib.hid hb2
  have HPA := Lib.hid hpa
  have HPB := Lib.hid hpb
  clear hb2 hpa hpb
  generalize (w.alloc (.cells #[.slice A n c, .int .i64 0] 25)).alloc (.cells #[.slice A n c, .int .i64 0] 25) = w2 at *
  obtain ⟨ga, hga⟩ : ∃ ga, w.heap.size = ga := ⟨_, rfl⟩
  obtain ⟨gb, hgb⟩ : ∃ gb, w.heap.size + 1 = gb := ⟨_, rfl⟩
  have HGA : Hid (w.heap.size ≤ ga ∧ w.heap.size ≤ gb ∧ ga < gb ∧ gb = ga + 1 ∧ ga = w.heap.size) := by show _ ∧ _; omega
  rw [hgb, hga]
  rw [hga] at HPA
  rw [hgb] at HPB
  clear hga hgb
  have hlb : gb < w2.heap.size := (Array.getElem?_eq_some_iff.1 HPB.out).1
  have hla : ga < w2.heap.size := (Array.getElem?_eq_some_iff.1 HPA.out).1
  have hne : gb ≠ ga := by have := HGA.out; omega
  have hrr : ∀ (g : Nat), w.heap.size ≤ g → ∀ r, some g = some r → w.heap.size ≤ r := fun g hg r hr => by cases hr; exact hg
  have hbd := changesF_all zs (0 + 1 + 2 * proseN zs 0 14) (proseF zs 0 14) (proseF_size zs 0 14).1
  have hps := (proseF_size zs 0 14).1
  have hpn := (proseF_size zs 0 14).2
  have HPR : Hid (∀ wx g, StreamIs wx g A n c 0 zs → Calls Tryz.prog 13 #[.pointer (some ⟨g, 0, none⟩), .int .i64 14] wx fun e w' => e = .returned (.string (proseF zs 0 14)) ∧ StreamIs w' g A n c (0 + 1 + 2 * proseN zs 0 14) zs ∧ wx.grownBy w' (some g)) := fun wx g h => prose_is g A n c 0 zs 14 wx h (by omega) (by omega)
  have hK1 : 0 + 1 + 2 * proseN zs 0 14 ≤ 1000 := by omega
  clear hpn
  generalize proseF zs 0 14 = t at *
  generalize 0 + 1 + 2 * proseN zs 0 14 = K1 at *
  have HBD := Lib.hid hbd
  clear hbd
  have HCH : Hid (∀ wx g, StreamIs wx g A n c K1 zs → MaxAt wx → 2 < g → Calls Tryz.prog 14 #[.pointer (some ⟨g, 0, none⟩), .string t] wx fun e w' => ∃ v rs, e = .returned v ∧ Owns ChgE w' wx.heap.size v rs ∧ ChgsOf w' wx.heap.size rs (changesF zs K1 t) ∧ wx.grownBy w' (some g)) := fun wx g h hm hg => changes_is g A n c K1 zs t wx h hK1 (by omega) hm hg
  generalize changesF zs K1 t = cs at *
  go_wp2_with fail
  refine (HPR.out w2 ga (HST.out w2 ga 0 HB2.out HGA.out.1 HPA.out)).mono ?_
  rintro e w3 ⟨rfl, hs3, hg3⟩
  have HB3 := Lib.hid (HB2.out.grown hg3 HB2.out.size (hrr ga HGA.out.1))
  have HPA3 := Lib.hid hs3.blk
  have HPB3 := Lib.hid ((hg3.block gb hlb (fun e => hne (Option.some.inj e))).trans HPB.out)
  have hlb3 : gb < w3.heap.size := Nat.lt_of_lt_of_le hlb hg3.size
  have hla3 : ga < w3.heap.size := Nat.lt_of_lt_of_le hla hg3.size
  clear hs3 hg3 HPA HPB HB2 hlb hla
  go_wp2_with fail
  refine (HPR.out w3 gb (HST.out w3 gb 0 HB3.out HGA.out.2.1 HPB3.out)).mono ?_
  rintro e w4 ⟨rfl, hs4, hg4⟩
  have HB4 := Lib.hid (HB3.out.grown hg4 HB3.out.size (hrr gb HGA.out.2.1))
  have HPB4 := Lib.hid hs4.blk
  have HPA4 := Lib.hid ((hg4.block ga hla3 (fun e => hne (Option.some.inj e).symm)).trans HPA3.out)
  have hlb4 : gb < w4.heap.size := Nat.lt_of_lt_of_le hlb3 hg4.size
  clear hs4 hg4 HPA3 HPB3 HB3 hlb3 hla3 HPR
  go_wp2_with fail
  refine (HCH.out w4 ga (HST.out w4 ga K1 HB4.out HGA.out.1 HPA4.out) (HMX.out w4 HB4.out) (by have := HGA.out; omega)).mono ?_
  rintro e w5 ⟨vx, rx, rfl, hox, hcx, hg5⟩
  have HB5 := Lib.hid (HB4.out.grown hg5 HB4.out.size (hrr ga HGA.out.1))
  have HPB5 := Lib.hid ((hg5.block gb hlb4 (fun e => hne (Option.some.inj e))).trans HPB4.out)
  have HOX := Lib.hid hox
  have HCX := Lib.hid hcx
  clear hg5 hox hcx HPA4 HPB4 HB4
  go_wp2_with fail
  refine (HCH.out w5 gb (HST.out w5 gb K1 HB5.out HGA.out.2.1 HPB5.out) (HMX.out w5 HB5.out) (by have := HGA.out; omega)).mono ?_
  rintro e w6 ⟨vy, ry, rfl, hoy, hcy, hg6⟩
  have HB6 := Lib.hid (HB5.out.grown hg6 HB5.out.size (hrr gb HGA.out.2.1))
  have hox6 := HOX.out.kept_ hg6 (fun i e => by cases e; exact hlb4)
  have hcx6 := HCX.out.grow hg6 (fun i e => by cases e; exact hlb4)
  obtain ⟨Ax, cx, rfl, q1, hatx, q2⟩ := hox6.at_ chgE_ok
  obtain ⟨Ay, cy, rfl, q3, haty, q4⟩ := hoy.at_ chgE_ok
  have HAX := Lib.hid hatx
  have HAY := Lib.hid haty
  have HIX := Lib.hid hcx6.is
  have HIY := Lib.hid hcy.is
  clear q1 q2 q3 q4 hg6 hoy hcy hox6 hcx6 hatx haty HOX HCX HB5 HPB5 HCH hlb4 hrr HST
  generalize hnx : rx.length = nx at *
  generalize hny : ry.length = ny at *
  have hnx2 : nx ≤ 102 := by rw [← hnx, HIX.out.1]; exact HBD.out.1.len
  have hny2 : ny ≤ 102 := by rw [← hny, HIY.out.1]; exact HBD.out.1.len
  clear hnx hny
  have HTU := Lib.hid (turn_all t Ax nx cx rx cs w6 (by omega) (HMX.out w6 HB6.out) HAX.out HIX.out HBD.out.1 HBD.out.2)
  go_wp2_with fail
  refine HTU.out.mono ?_
  rintro e w7 ⟨v9, z9, rfl, hb7, hz9⟩
  have HB7 := Lib.hid hb7
  have HZ9 := Lib.hid hz9
  clear hb7 hz9 HTU
  go_upto_if 41 with (fail)
  go_cut [] (fun wx => Below w6.heap.size w6 wx)
  case first =>
    by_cases hz : z9 = 0
    · obtain ⟨rb, cb, hob, hcb, hsb⟩ := HZ9.out hz
      have hlo := LooseAt.of hob hcb hsb HB7.out
      have hnb : rb.length ≤ 102 := by rw [hcb.1]; exact hsb.1
      obtain ⟨A9, c9, rfl, q1, q2, q3⟩ := hob.at_ chgE_ok
      have HLO := Lib.hid hlo
      clear q1 q2 q3 hob hcb hsb hlo HZ9
      subst hz
      generalize hnbb : rb.length = nb at *
      have HNB := Lib.hid hnbb
      clear hnbb
      go_wp2_with fail
      go_loopg [44] nb (fun gk v44 wr => ∃ k : Nat, Hid (k + gk = nb) ∧ v44 = .int .i64 (k : Int) ∧ Hid (LooseAt w6 wr (.slice A9 nb c9) rb))
      case atStart => exact ⟨0, show 0 + nb = nb by omega, rfl, HLO.out⟩
      case round =>
        clear HLO
        obtain ⟨k, HK, rfl, HLO⟩ := hrel
        have hkn : k ≤ nb := by have := HK.out; omega
        by_cases hlt : k < nb
        · obtain ⟨r, hr⟩ : ∃ r, rb[k]? = some r := ⟨_, List.getElem?_eq_getElem (by rw [HNB.out]; exact hlt)⟩
          obtain ⟨z, ⟨D, dn, dc⟩, ⟨F, fn, fc⟩⟩ := r
          obtain ⟨⟨l1, hl1, hn1⟩, l2, hl2, hn2⟩ := HLO.out.strs k _ hr
          have hdn : dn ≤ 101 := by have h : dn = l1.length := (own_is (s := (D, dn, dc)) hl1).1; omega
          have hfn : fn ≤ 101 := by have h : fn = l2.length := (own_is (s := (F, fn, fc)) hl2).1; omega
          clear hl1 hl2 hn1 hn2
          obtain ⟨G, c', he, hGb, hGs, hgc⟩ := Owns.where_ chgE_ok HLO.out.own (by rw [HNB.out]; omega)
          simp only [Value.slice.injEq] at he
          obtain ⟨rfl, hq0, rfl⟩ := he
          clear hq0 hgc hGb hGs
          obtain ⟨wo, rfl⟩ : ∃ wo : World, wo = wr := ⟨_, rfl⟩
          obtain ⟨ko, rfl⟩ : ∃ ko : Nat, ko = gk := ⟨_, rfl⟩
          have p10 := (chg_cells HLO.out.own hr).2.1.1
          have HR := Lib.hid hr
          clear hr
          go_wp2_with fail
          go_loopg [53] dn (fun gk v53 wr => ∃ j : Nat, Hid (j + gk = dn) ∧ v53 = .int .i64 (j : Int) ∧ Hid (LooseAt w6 wr (.slice (some ⟨G, 0, none⟩) nb c9) rb))
          case atStart => exact ⟨0, show 0 + dn = dn by omega, rfl, HLO.out⟩
          case round =>
            clear HLO p10
            obtain ⟨j, HJ, rfl, HLO⟩ := hrel
            have hjn : j ≤ dn := by have := HJ.out; omega
            by_cases hj : j < dn
            · have p10 := (chg_cells HLO.out.own HR.out).2.1.1
              obtain ⟨⟨l1, hl1, _⟩, _⟩ := HLO.out.strs k _ HR.out
              obtain ⟨S, u, rfl, hcu, hfu, hls⟩ := HLO.out.spoil hl1 hj
              have HLS : Hid (LooseAt w6 (wr.setCell ⟨S, j, none⟩ (.string ⟨#[115, 112, 111, 105, 108, 116]⟩)) (.slice (some ⟨G, 0, none⟩) nb c9) rb) := hls
              clear hl1 hls
              go_wp2_with fail
              go_roundg (gk - 1)
              case measure => have := HJ.out; omega
              case rel => exact ⟨j + 1, show j + 1 + (gk - 1) = dn by have := HJ.out; omega, by go_num, HLS.out⟩
            · have p20 := (chg_cells HLO.out.own HR.out).2.2.1.1
              obtain ⟨w2o, rfl⟩ : ∃ w2o : World, w2o = wr := ⟨_, rfl⟩
              obtain ⟨k2o, rfl⟩ : ∃ k2o : Nat, k2o = gk := ⟨_, rfl⟩
              go_wp2_with fail
              go_loopg [70] fn (fun gk v70 wr => ∃ i : Nat, Hid (i + gk = fn) ∧ v70 = .int .i64 (i : Int) ∧ Hid (LooseAt w6 wr (.slice (some ⟨G, 0, none⟩) nb c9) rb))
              case atStart => exact ⟨0, show 0 + fn = fn by omega, rfl, HLO.out⟩
              case round =>
                clear HLO p20
                obtain ⟨i, HI, rfl, HLO⟩ := hrel
                have hin : i ≤ fn := by have := HI.out; omega
                by_cases hi : i < fn
                · have p20 := (chg_cells HLO.out.own HR.out).2.2.1.1
                  obtain ⟨_, l2, hl2, _⟩ := HLO.out.strs k _ HR.out
                  obtain ⟨S, u, rfl, hcu, hfu, hls⟩ := HLO.out.spoil hl2 hi
                  have HLS : Hid (LooseAt w6 (wr.setCell ⟨S, i, none⟩ (.string ⟨#[115, 112, 111, 105, 108, 116]⟩)) (.slice (some ⟨G, 0, none⟩) nb c9) rb) := hls
                  clear hl2 hls
                  go_wp2_with fail
                  go_roundg (gk - 1)
                  case measure => have := HI.out; omega
                  case rel => exact ⟨i + 1, show i + 1 + (gk - 1) = fn by have := HI.out; omega, by go_num, HLS.out⟩
                · go_wp2_with fail
                  go_roundg (ko - 1)
                  case measure => have := HK.out; omega
                  case rel => exact ⟨k + 1, show k + 1 + (ko - 1) = nb by have := HK.out; omega, by go_num, HLO.out⟩
        · go_wp2_with fail
          go_meet
          exact HLO.out.below
    · have hzf : (z9 == 0) = false := by simpa using hz
      go_wp2_with fail
      go_meet
      exact HB7.out
  case rest =>
    have HB8 := Lib.hid hcut
    clear hcut HB7 HZ9
    have HNW := Lib.hid (catNew_any 2 wc (by omega) (by omega))
    go_wp2_with fail
    refine HNW.out.mono ?_
    rintro e w8 ⟨P, M, rfl, hP, hM, hcat, hb8⟩
    have HBN := Lib.hid (HB8.out.trans (hb8.mono HB8.out.size))
    have hPM : w6.heap.size ≤ P ∧ w6.heap.size ≤ M := by have := HB8.out.size; omega
    have HAD := Lib.hid (add_any P M 2 0 0 (.map []) ⟨#[98, 97]⟩ t w8 hcat ba_key (by omega) (by omega) (by omega) rfl)
    clear hb8 hcat HNW hP hM
    go_wp2_with fail
    refine HAD.out.mono ?_
    rintro e w9 ⟨rfl, hcat9, hbt⟩
    have HB9 := Lib.hid (hbt.below HBN.out hPM.1 hPM.2 (Nat.le_refl _))
    have hsk : sortK (strKeys ((DataW.map [] : DataW Unit).put (.string (⟨#[98, 97]⟩ : ByteArray).data.toList) (.lit (.string t.data.toList)))) = [[98, 97]] := ba_keys _
    generalize (DataW.map [] : DataW Unit).put (.string (⟨#[98, 97]⟩ : ByteArray).data.toList) (.lit (.string t.data.toList)) = DD at *
    have HCT := Lib.hid hcat9
    have HID : Hid (∀ wx, CatAt wx P M 2 (0 + t.size) (0 + 1) DD → Calls Tryz.prog 18 #[.pointer (some ⟨P, 0, none⟩)] wx fun e w' => ∃ v, e = .returned v ∧ OwnStrs w' wx.heap.size v [[98, 97]] ∧ Below wx.heap.size wx w') := fun wx h => (ids_any P M 2 (0 + t.size) (0 + 1) DD wx h (by omega)).mono fun e w' h => by
      obtain ⟨v, h1, h2, h3⟩ := h
      rw [hsk] at h2
      exact ⟨v, h1, h2, h3⟩
    clear HAD hcat9 hbt HBN hPM hsk
    go_wp2_with fail
    refine (HID.out w9 HCT.out).mono ?_
    rintro e w10 ⟨v16, rfl, ho16, hb10⟩
    obtain ⟨A16, c16, rfl, q1, q2, q3⟩ := ho16.at_ strE_ok
    have HO16 := Lib.hid ho16
    have HB10 := Lib.hid hb10
    clear q1 q2 q3 ho16 hb10
    rw [show ([[98, 97]] : List (List UInt8)).length = 1 from rfl] at HO16 ⊢
    go_wp2_with fail
    go_loopg [99] 1 (fun gk v99 wr => ∃ (j : Nat) (l : List (List UInt8)), Hid (j + gk = 1) ∧ v99 = .int .i64 (j : Int) ∧ Hid (OwnStrs wr w9.heap.size (.slice A16 1 c16) l ∧ l.length = 1) ∧ Hid (Below w9.heap.size w9 wr))
    case atStart => exact ⟨0, _, show 0 + 1 = 1 by omega, rfl, ⟨HO16.out, rfl⟩, HB10.out⟩
    case round =>
      clear HO16 HB10
      obtain ⟨j, l, HJ, rfl, HO16, HB10⟩ := hrel
      have hjn : j ≤ 1 := by have := HJ.out; omega
      by_cases hj : j < 1
      · obtain ⟨S, c', he, hSb, hSs, hc⟩ := Owns.where_ strE_ok HO16.out.1 (by have := HO16.out.2; omega)
        simp only [Value.slice.injEq] at he
        obtain ⟨rfl, hq0, rfl⟩ := he
        obtain ⟨x, hk⟩ : ∃ x, l[j]? = some x := ⟨_, List.getElem?_eq_getElem (by have := HO16.out.2; omega)⟩
        have hcj := hc j _ 0 _ hk rfl
        have e2 : j * StrE.size + 0 = j := by show j * 1 + 0 = j; omega
        rw [e2] at hcj
        have hcu := hcj.1
        have hfu := hcj.2
        obtain ⟨l', hl', hn'⟩ := own_spoil (S := S) (j := j) HO16.out.1 spoiltB
        have HOS : Hid (OwnStrs (wr.setCell ⟨S, j, none⟩ (.string ⟨#[115, 112, 111, 105, 108, 116]⟩)) w9.heap.size (.slice (some ⟨S, 0, none⟩) 1 c16) l' ∧ l'.length = 1) := ⟨hl', by have := HO16.out.2; omega⟩
        have HBS : Hid (Below w9.heap.size w9 (wr.setCell ⟨S, j, none⟩ (.string ⟨#[115, 112, 111, 105, 108, 116]⟩))) := HB10.out.setCell hSb _
        clear hq0 hc hcj hk e2 hl' hn' hSb hSs
        go_wp2_with fail
        go_roundg (gk - 1)
        case measure => have := HJ.out; omega
        case rel => exact ⟨j + 1, l', show j + 1 + (gk - 1) = 1 by have := HJ.out; omega, by go_num, HOS.out, HBS.out⟩
      · clear HO16
        go_wp2_with fail
        refine (nears_any wr).mono ?_
        rintro e w12 ⟨rfl, hb12⟩
        have HB12 := Lib.hid (HB10.out.trans (hb12.mono HB10.out.size))
        have HBW := Lib.hid (HB9.out.trans (HB12.out.mono HB9.out.size))
        have HSC := Lib.hid (sameChanges_any Ax Ay nx cx ny cy rx ry cs w12 (HAX.out.keep HBW.out) (HAY.out.keep HBW.out) (HIX.out.keep HBW.out) (HIY.out.keep HBW.out) HBD.out.1)
        clear hb12 HB10
        go_wp2_with fail
        refine HSC.out.mono ?_
        rintro e w13 ⟨rfl, hb13⟩
        have HB13 := Lib.hid (HB12.out.trans (hb13.mono HB12.out.size))
        have HI2 := Lib.hid (HID.out w13 (HCT.out.keep HB13.out))
        clear hb13 HB12 HBW HSC
        go_wp2_with fail
        refine HI2.out.mono ?_
        rintro e w14 ⟨v17, rfl, ho17, hb14⟩
        obtain ⟨A17, c17, rfl, q1, hat17, q3⟩ := ho17.at_ strE_ok
        have HB14 := Lib.hid (HB13.out.trans (hb14.mono HB13.out.size))
        have hba : Below w14.heap.size w14 (w14.alloc (.cells #[.string ⟨#[98, 97]⟩] 9)) := (Below.refl _ _).alloc (Nat.le_refl _) _
        have hone : StrsAt (w14.alloc (.cells #[.string ⟨#[98, 97]⟩] 9)) (some ⟨w14.heap.size, 0, none⟩) 1 1 [[98, 97]] := one_elem (E := StrE) w14 [98, 97]
        rw [show ([[98, 97]] : List (List UInt8)).length = 1 from rfl] at hat17 ⊢
        have HEQ := Lib.hid (equal_same A17 (some ⟨w14.heap.size, 0, none⟩) 1 c17 1 1 [[98, 97]] _ (hat17.keep hba) hone (by omega) (by omega))
        have HBA := Lib.hid (HB14.out.trans (hba.mono HB14.out.size))
        clear q1 q3 hat17 ho17 hb14 hba hone HB13 HI2
        go_wp2_with fail
        refine HEQ.out.mono ?_
        rintro e w15 ⟨rfl, hb15⟩
        have HBF := Lib.hid (HBA.out.trans (hb15.mono HBA.out.size))
        have HFIN := Lib.hid (HB6.out.trans ((HB9.out.trans (HBF.out.mono HB9.out.size)).mono HB6.out.size))
        clear hb15
        go_wp2_with fail
        go_ret
        exact ⟨rfl, HFIN.out⟩
theorem stays_any (A : Option Addr) (n c : Nat) (w : World) (hrow : RowAt w A n) (hbig : n ≤ 1000000000000000) (hM : MaxAt w) :
    Calls Tryz.prog 4 #[.slice A n c] w (LawPost w) :=
  wordsStay_any A n c w hrow hbig hM (by obtain ⟨m, hm⟩ := hM; exact World.block_lt_of_cell? w ⟨2, 0, none⟩ hm)
end Go.Proofs.YtmaimojpjepmjaaGreatDoor
