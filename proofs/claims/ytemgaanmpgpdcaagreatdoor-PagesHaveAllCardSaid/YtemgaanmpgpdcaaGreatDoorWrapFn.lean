
/-
  wrapped: the pieces of a line.
-/
import Derived.Test.YtemgaanmpgpdcaaGreatDoorStrLib
import Derived.Test.YtemgaanmpgpdcaaGreatDoorConv
import Derived.Test.YtemgaanmpgpdcaaGreatDoorWrapPlain
import Derived.Lib.LastIndexByte
import Derived.Deep.RegionLaw
namespace Go.Proofs.YtemgaanmpgpdcaaGreatDoor
open Go.RowKit

theorem extract_data (s : ByteArray) (f t : Nat) : (s.extract f t).data.toList = (s.data.toList.drop f).take (t - f) := by
  rw [ByteArray.data_extract, Array.toList_extract, List.extract_eq_take_drop]
theorem extract_to (s : ByteArray) (t : Nat) : (s.extract 0 t).data.toList = s.data.toList.take t := by
  rw [extract_data]; simp
theorem extract_end (s : ByteArray) (f : Nat) : (s.extract f s.size).data.toList = s.data.toList.drop f := by
  rw [extract_data]
  exact List.take_of_length_le (by rw [List.length_drop]; exact Nat.le_refl _)
theorem size_list' (s : ByteArray) : s.size = s.data.toList.length := rfl
theorem getB_extract (s : ByteArray) (k : Nat) (hk : k < 81) (hs : 81 ≤ s.size) : (s.extract 0 81).data[k]! = s.data.toList.getD k 0 := by
  have h1 : (s.extract 0 81).data.size = 81 := by rw [ByteArray.data_extract, Array.size_extract]; show min 81 s.size - 0 = 81; omega
  rw [getElem!_pos _ _ (by omega), List.getD_eq_getElem?_getD]
  have h2 : (s.extract 0 81).data.toList[k]? = s.data.toList[k]? := by rw [extract_to, List.getElem?_take_of_lt hk]
  rw [← h2, Array.getElem?_toList, Array.getElem?_eq_getElem (by omega)]
  rfl
theorem lastSp_idx (s : ByteArray) (hs : 81 ≤ s.size) : ∀ k, k ≤ 81 → (0 < lastSp s.data.toList k ∧ Lib.lastIdx (s.extract 0 81) 32 k = (lastSp s.data.toList k : Int)) ∨ (lastSp s.data.toList k = 0 ∧ Lib.lastIdx (s.extract 0 81) 32 k ≤ 0)
  | 0, _ => .inr ⟨rfl, by simp [Lib.lastIdx]⟩
  | k + 1, hk => by
    have hg := getB_extract s k (by omega) hs
    by_cases h : s.data.toList.getD k 0 = 32
    · rw [Lib.lastIdx_hit _ _ _ (by rw [hg, h]; rfl)]
      have e : lastSp s.data.toList (k + 1) = k := by simp only [lastSp]; rw [if_pos h]
      rw [e]
      rcases Nat.eq_zero_or_pos k with h0 | h0
      · exact .inr ⟨h0, by omega⟩
      · exact .inl ⟨h0, rfl⟩
    · rw [Lib.lastIdx_miss _ _ _ (by
        rw [hg]
        intro e
        apply h
        apply UInt8.toNat_inj.1
        show _ = 32
        omega)]
      have e : lastSp s.data.toList (k + 1) = lastSp s.data.toList k := by rw [lastSp, if_neg h]
      rw [e]
      exact lastSp_idx s hs k (by omega)
def WrapPost (w : World) (L : List UInt8) (e : Ending) (w' : World) : Prop := ∃ v, e = .returned v ∧ OwnStrs w' w.heap.size v (wrapL L) ∧ Below w.heap.size w w'
set_option maxHeartbeats 3200000 in
set_option maxRecDepth 100000 in
theorem wrapped_any (s : ByteArray) (w : World) (hs : s.size ≤ 20001) (hr : NoRun s.data.toList) :
    Calls Tryz.prog 75 #[.string s] w (WrapPost w s.data.toList) := by
  have HSZ := Lib.hid hs
  have hcnt := wrapL_count s.data.toList hr
  rw [← size_list'] at hcnt
  have HCN := Lib.hid hcnt
  have HNR := Lib.hid hr
  clear hcnt hr hs
  go_enter Tryz.func75, Tryz.ntmps75
  go_wp2_with fail
  go_loopg [0, 3] s.size (fun gk v0 v3 wr => ∃ (x : ByteArray) (done : List (List UInt8)), v0 = .string x ∧ Hid (x.size = gk) ∧ Hid (gk ≤ 20001) ∧ Hid (OwnStrs wr w.heap.size v3 done) ∧ Hid (done ++ wrapL x.data.toList = wrapL s.data.toList) ∧ Hid (NoRun x.data.toList) ∧ Hid (Below w.heap.size w wr))
  case atStart => exact ⟨s, [], rfl, show _ = _ from rfl, HSZ.out, Owns.nil _ _, show _ = _ from rfl, HNR.out, Below.refl _ _⟩
  case round =>
    obtain ⟨x, done, rfl, HX, HG, HO, HW, HN, HB⟩ := hrel
    have hx2 : x.size ≤ 20001 := by have := HX.out; have := HG.out; omega
    have HDL : Hid (done.length ≤ 20002) := by
      have h1 := congrArg List.length HW.out
      rw [List.length_append] at h1
      have := HCN.out.1
      have := HSZ.out
      show _ ≤ _
      omega
    by_cases hlt : 80 < x.size
    · have hi : (80 : Int) < (x.size : Int) := by omega
      have f0 := slice_to x 81 (by omega)
      have HLW := Lib.hid (wrapL_long (s := x.data.toList) (by rw [← size_list']; exact hlt) HN.out)
      have HLI := Lib.hid (fun wx => Tryz.strings_LastIndexByte (x.extract 0 81) 32 (by rw [ByteArray.size_extract]; omega) wx)
      have hsz81 : (x.extract 0 81).size = 81 := by rw [ByteArray.size_extract]; omega
      have HLS : Hid ((0 < lastSp x.data.toList 81 ∧ Lib.lastIndexByte (x.extract 0 81) 32 = (lastSp x.data.toList 81 : Int)) ∨ (lastSp x.data.toList 81 = 0 ∧ Lib.lastIndexByte (x.extract 0 81) 32 ≤ 0)) := by
        have := lastSp_idx x (by omega) 81 (by omega)
        unfold Lib.lastIndexByte
        rw [hsz81]
        exact this
      clear hsz81
      generalize Lib.lastIndexByte (x.extract 0 81) 32 = z at *
      go_wp2_with fail
      refine (HLI.out wr).mono ?_
      rintro e w' ⟨rfl, hw⟩
      obtain rfl := hw.symm
      clear HLI f0
      obtain ⟨K, hK⟩ : ∃ K, K = lastSp x.data.toList 81 := ⟨_, rfl⟩
      have hK80 : K ≤ 80 := by rw [hK]; exact lastSp_le _ 80
      have HCA : Hid (cutAt x.data.toList = (decide (0 < K) && !(Lib.trimB (x.extract 0 K).data.toList 32).isEmpty)) := by show _ = _; unfold cutAt; rw [← hK, extract_to]
      rw [← hK] at HLS
      have HK := Lib.hid hK
      clear hK
      go_upto_region 4 with (fail)
      go_cut [19] (fun v wx => v = .bool (cutAt x.data.toList) ∧ (cutAt x.data.toList = true → z = (K : Int)) ∧ Hid (Below w.heap.size w wx) ∧ Hid (OwnStrs wx w.heap.size u3 done))
      case first =>
        rcases HLS.out with ⟨hk0, rfl⟩ | ⟨hk0, hz⟩
        · have hki : (0 : Int) < (K : Int) := by omega
          have f1 := slice_to x K (by omega)
          have HT := Lib.hid (fun wx => Tryz.strings_Trim_one (x.extract 0 K) 32 (by decide) wx (by rw [ByteArray.size_extract]; omega))
          have HCB : Hid (cutAt x.data.toList = !(Lib.trimB (x.extract 0 K).data.toList 32).isEmpty) := by show _ = _; rw [HCA.out, decide_eq_true hk0, Bool.true_and]
          clear HCA HLS hk0
          generalize Lib.trimB (x.extract 0 K).data.toList 32 = L at *
          go_wp2_with fail
          refine (HT.out wr).mono ?_
          rintro e w' ⟨rfl, hw⟩
          have HBW : Hid (Below w.heap.size w w') := by rcases hw with h | h <;> rw [h]; exact HB.out; exact HB.out.drew
          have HOW : Hid (OwnStrs w' w.heap.size u3 done) := by rcases hw with h | h <;> rw [h]; exact HO.out; exact HO.out
          clear hw HT f1
          cases L with
          | nil =>
            have he : (⟨([] : List UInt8).toArray⟩ : ByteArray).toList = [] := by rw [Lib.toList_data]
            have HCC : Hid (cutAt x.data.toList = false) := HCB.out
            clear HCB
            go_wp2_with fail
            go_meet
            exact ⟨by rw [HCC.out], fun _ => trivial, HBW, HOW⟩
          | cons c L =>
            have he : ((⟨(c :: L).toArray⟩ : ByteArray).toList == []) = false := by rw [Lib.toList_data]; rfl
            have he2 : ¬ (⟨(c :: L).toArray⟩ : ByteArray).toList = [] := by rw [Lib.toList_data]; simp
            have HCC : Hid (cutAt x.data.toList = true) := HCB.out
            clear HCB
            go_wp2_with fail
            go_meet
            exact ⟨by rw [HCC.out], fun _ => trivial, HBW, HOW⟩
        · have hz2 : ¬ (0 : Int) < z := by omega
          have HCC : Hid (cutAt x.data.toList = false) := by show _ = _; rw [HCA.out, hk0]; rfl
          clear HCA HLS hk0
          go_wp2_with fail
          go_meet
          exact ⟨by rw [HCC.out], (fun h => by rw [HCC.out] at h; cases h), HB, HO⟩
      case rest =>
        obtain ⟨rfl, hz, HBC, HOC⟩ := hcut
        clear HCA HLS
        have hdl := HDL.out
        have hzc := HBC.out.size
        cases hc : cutAt x.data.toList with
        | true =>
          obtain rfl := hz hc
          have HCL : Hid (x.data.toList.take (cutA x.data.toList) = (x.extract 0 K).data.toList ∧ x.data.toList.drop (cutB x.data.toList) = (x.extract (K + 1) x.size).data.toList) := by
            constructor
            · rw [extract_to, HK.out]; unfold cutA; rw [hc]; rfl
            · rw [extract_end, HK.out]; unfold cutB; rw [hc]; rfl
          have HWN := Lib.hid (HN.out.drop (K + 1))
          rw [← extract_end] at HWN
          have HBX : Hid (cutA x.data.toList ≤ x.size) := by show _ ≤ _; have := cutA_le x.data.toList; omega
          clear hc hz HK
          have f1 := slice_to x K (by omega)
          have f2 := slice_from x (K + 1) ((K : Int) + 1) (by omega) (by omega)
          have e1 : IntKind.i64.wrap ((K : Int) + 1) = (K : Int) + 1 := IntWalk.i64_in _ (by omega)
          go_wp2_with fail
          go_region_law (first
            | (refine step_elems strE_ok (by rfl) _ _ (by rfl) w.heap.size u3 done (by rfl) ?_ _ 1 1 [(x.extract 0 K).data.toList] (by rfl) ?_ (by omega) ?_ ?_ ?_; (exact World.ownsRow.alloc HOC.out _); (exact one_elem (E := StrE) _ _); (simp; omega); (simp; omega); intro v5 w5 hown5 hgrow5 hv5; have HOW5 := Lib.hid hown5; have HGW5 := Lib.hid hgrow5; clear hown5 hgrow5 hv5))
          all_goals
            have HWW : Hid ((done ++ [(x.extract 0 K).data.toList]) ++ wrapL (x.extract (K + 1) x.size).data.toList = wrapL s.data.toList) := by
              show _ = _
              rw [← HW.out, HLW.out, HCL.out.1, HCL.out.2, List.append_assoc]; rfl
            have HBB : Hid (Below w.heap.size w w5) := ((HBC.out.alloc hzc _).drew).grown HGW5.out (by simp; omega) (fun i hi => (HOC.out.lt i hi).1)
            have HSX : Hid ((x.extract (K + 1) x.size).size = x.size - (K + 1)) := by show _ = _; rw [ByteArray.size_extract]; omega
            go_wp2_with fail
            go_roundg (x.size - (K + 1))
            case measure => have := HX.out; omega
            case rel => exact ⟨_, _, rfl, HSX.out, show _ ≤ _ by omega, HOW5.out, HWW.out, HWN.out, HBB.out⟩
        | false =>
          obtain ⟨go, rfl⟩ : ∃ go : Nat, go = gk := ⟨_, rfl⟩
          clear hz
          go_wp2_with fail
          go_loopg [4] 81 (fun gk v4 wr => ∃ k : Nat, Hid (k + 1 = gk) ∧ v4 = .int .i64 (k : Int) ∧ Hid (k ≤ 80) ∧ Hid (backK x.data.toList 80 = backK x.data.toList k) ∧ Hid (wr = wc))
          case atStart => exact ⟨80, show _ = _ from rfl, rfl, Nat.le_refl _, show _ = _ from rfl, show _ = _ from rfl⟩
          case round =>
            obtain ⟨k, HKG, rfl, HK8, HBK, HWR⟩ := hrel
            obtain rfl := HWR.out
            have hk80 := HK8.out
            have hk77 : 77 ≤ k := by
              have h1 : 77 ≤ backK x.data.toList 80 := backK_ge HN.out 77
              have h2 := backK_le x.data.toList k
              have := HBK.out
              omega
            have hki : (k : Int) < (x.size : Int) := by omega
            have hgb : x.data.toList.getD k 0 = x[k]'(by omega) := getD_byte x k (by omega)
            have HGB := Lib.hid hgb
            clear hgb
            by_cases hcb : (x[k]'(by omega)).toNat / 64 = 2
            · have hq : (((x[k]'(by omega)).toNat : Int) / 64 == 2) = true := by simp; omega
              have hq2 : ((x[k]'(by omega)).toNat : Int) / 64 = 2 := by omega
              have e1 : IntKind.i64.wrap ((k : Int) - 1) = (k : Int) - 1 := IntWalk.i64_in _ (by omega)
              have HBK2 : Hid (backK x.data.toList 80 = backK x.data.toList (k - 1)) := by
                show _ = _
                rw [HBK.out]
                obtain ⟨k', rfl⟩ : ∃ k', k = k' + 1 := ⟨k - 1, by omega⟩
                exact backK_go (by rw [HGB.out]; unfold contB; rw [decide_eq_true hcb])
              clear hcb
              go_wp2_with fail
              go_roundg (gk - 1)
              case measure => have := HKG.out; omega
              case rel => exact ⟨k - 1, show _ = _ by have := HKG.out; omega, by congr 1; omega, show _ ≤ _ by omega, HBK2.out, show _ = _ from rfl⟩
            · have hq : (((x[k]'(by omega)).toNat : Int) / 64 == 2) = false := by simp; omega
              have hq2 : ¬ ((x[k]'(by omega)).toNat : Int) / 64 = 2 := by omega
              have hbk : backK x.data.toList 80 = k := by
                rw [HBK.out]
                exact backK_stop (by rw [HGB.out]; unfold contB; rw [decide_eq_false hcb])
              have HCL : Hid (x.data.toList.take (cutA x.data.toList) = (x.extract 0 k).data.toList ∧ x.data.toList.drop (cutB x.data.toList) = (x.extract k x.size).data.toList) := by
                constructor
                · rw [extract_to]; unfold cutA; rw [hc, hbk]; rfl
                · rw [extract_end]; unfold cutB; rw [hc, hbk]; rfl
              have HWN := Lib.hid (HN.out.drop k)
              rw [← extract_end] at HWN
              have f1 := slice_to x k (by omega)
              have f2 := slice_from x k (k : Int) rfl (by omega)
              clear hbk hcb hc
              go_wp2_with fail
              go_region_law (first
                | (refine step_elems strE_ok (by rfl) _ _ (by rfl) w.heap.size u3 done (by rfl) ?_ _ 1 1 [(x.extract 0 k).data.toList] (by rfl) ?_ (by omega) ?_ ?_ ?_; (exact World.ownsRow.alloc HOC.out _); (exact one_elem (E := StrE) _ _); (simp; omega); (simp; omega); intro v5 w5 hown5 hgrow5 hv5; have HOW5 := Lib.hid hown5; have HGW5 := Lib.hid hgrow5; clear hown5 hgrow5 hv5))
              all_goals
                have HWW : Hid ((done ++ [(x.extract 0 k).data.toList]) ++ wrapL (x.extract k x.size).data.toList = wrapL s.data.toList) := by
                  show _ = _
                  rw [← HW.out, HLW.out, HCL.out.1, HCL.out.2, List.append_assoc]; rfl
                have HBB : Hid (Below w.heap.size w w5) := ((HBC.out.alloc hzc _).drew).grown HGW5.out (by simp; omega) (fun i hi => (HOC.out.lt i hi).1)
                have HSX : Hid ((x.extract k x.size).size = x.size - k) := by show _ = _; rw [ByteArray.size_extract]; omega
                go_wp2_with fail
                go_roundg (x.size - k)
                case measure => have := HX.out; omega
                case rel => exact ⟨_, _, rfl, HSX.out, show _ ≤ _ by omega, HOW5.out, HWW.out, HWN.out, HBB.out⟩
    · have hi : ¬ (80 : Int) < (x.size : Int) := by omega
      have HLW := Lib.hid (wrapL_short (s := x.data.toList) (by rw [← size_list']; omega))
      have hdl := HDL.out
      have hzb := HB.out.size
      go_wp2_with (at_builtin; refine append_elems strE_ok rfl _ _ rfl w.heap.size _ done rfl (World.ownsRow.alloc HO.out _) (some ⟨wr.heap.size, 0, none⟩) 1 1 [x.data.toList] rfl (one_elem (E := StrE) wr x.data.toList) (by simp; omega) (by simp; omega) ?_; intro v7 w7 hown7 hgrow7 _)
      have HF : Hid (WrapPost w s.data.toList (.returned v7) w7) := ⟨v7, rfl, by rw [← HW.out, HLW.out]; exact hown7, (HB.out.alloc hzb _).grown hgrow7 (by simp; omega) (fun i hi => (HO.out.lt i hi).1)⟩
      clear hown7 hgrow7
      go_wp2_with fail
      go_ret
      exact HF.out
end Go.Proofs.YtemgaanmpgpdcaaGreatDoor
