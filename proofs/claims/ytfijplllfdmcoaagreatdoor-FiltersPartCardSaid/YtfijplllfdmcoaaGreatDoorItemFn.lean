
/-
  What Key, Plain and IsText of the references return.
-/
import Derived.Test.YtfijplllfdmcoaaGreatDoorText
import Derived.Test.YtfijplllfdmcoaaGreatDoorStrLib
import Derived.Test.YtfijplllfdmcoaaGreatDoorFaultPlain
import Derived.Shelf.Strings.SlTrimAscii
namespace Go.Proofs.YtfijplllfdmcoaaGreatDoor
open Go.RowKit Go.Shelf Go.Lib

def BoolPost (w : World) (b : Bool) (e : Ending) (w' : World) : Prop := e = .returned (.bool b) ∧ Below w.heap.size w w'
theorem trim_any (s cs : ByteArray) (w : World) (hs : s.size ≤ 1000000) (hcs : cs.size ≤ 1000) (ha : cs.data.toList.all (fun b => decide (b.toNat < 128)) = true) :
    Calls Tryz.prog 126 #[.string s, .string cs] w fun e w' => e = .returned (.string ⟨(Lib.trimS s.data.toList cs.data.toList).toArray⟩) ∧ Below w.heap.size w w' :=
  Any.strings_Trim_laid Tryz.laysTrim (by kernel_rfl) s cs w (by omega) (by omega) (ascii_of_all ha)
set_option maxHeartbeats 800000 in
theorem only_any (s cs : ByteArray) (w : World) (hs : s.size ≤ 1000000) (hcs : cs.size ≤ 1000) (ha : cs.data.toList.all (fun b => decide (b.toNat < 128)) = true) :
    Calls Tryz.prog 124 #[.string s, .string cs] w (BoolPost w (s.data.toList.all (cs.data.toList.contains ·))) := by
  have hT := trim_any s cs w hs hcs ha
  rw [← trimS_nil]
  generalize Lib.trimS s.data.toList cs.data.toList = L at *
  cases L with
  | nil =>
    have he : (⟨([] : List UInt8).toArray⟩ : ByteArray).toList = [] := by rw [Lib.toList_data]
    go_enter Tryz.func124, Tryz.ntmps124
    go_wp2_with fail
    refine hT.mono ?_
    rintro e w' ⟨rfl, hb⟩
    go_wp2_with fail
    go_ret
    exact ⟨ret_bool (by simp), hb⟩
  | cons x r =>
    have he : (⟨(x :: r).toArray⟩ : ByteArray).toList = x :: r := by rw [Lib.toList_data]
    go_enter Tryz.func124, Tryz.ntmps124
    go_wp2_with fail
    refine hT.mono ?_
    rintro e w' ⟨rfl, hb⟩
    go_wp2_with fail
    go_ret
    exact ⟨ret_bool (by simp), hb⟩
theorem keySet2_b : (⟨#[97, 98, 99, 100, 101, 102, 103, 104, 105, 106, 107, 108, 109, 110, 111, 112, 113, 114, 115, 116, 117, 118, 119, 120, 121, 122, 48, 49, 50, 51, 52, 53, 54, 55, 56, 57, 45, 95]⟩ : ByteArray).data.toList = keySet := rfl
theorem smallSet2_b : (⟨#[97, 98, 99, 100, 101, 102, 103, 104, 105, 106, 107, 108, 109, 110, 111, 112, 113, 114, 115, 116, 117, 118, 119, 120, 121, 122]⟩ : ByteArray).data.toList = smallSet := rfl
theorem extractOne (s : ByteArray) : (s.extract 0 1).data.toList = s.data.toList.take 1 := by
  rw [ByteArray.data_extract, Array.toList_extract]
  simp [List.extract]
theorem in2_any (a b c : Int) (w : World) : Calls Tryz.prog 69 #[.int .i64 a, .int .i64 b, .int .i64 c] w fun e w' => e = .returned (.bool (inB a b c)) ∧ w' = w := by
  go_enter Tryz.func69, Tryz.ntmps69
  by_cases h1 : b ≤ a
  · by_cases h2 : a ≤ c
    · go_wp2_with fail
      go_ret
      exact ⟨ret_bool (by unfold inB; simp [h1, h2]), rfl⟩
    · go_wp2_with fail
      go_ret
      exact ⟨ret_bool (by unfold inB; simp [h2]), rfl⟩
  · go_wp2_with fail
    go_ret
    exact ⟨ret_bool (by unfold inB; exact (decide_eq_false (by omega)).symm), rfl⟩
set_option maxHeartbeats 1600000 in
set_option maxRecDepth 100000 in
theorem key2_any (s : ByteArray) (w : World) (hs : s.size ≤ 1000000) :
    Calls Tryz.prog 68 #[.string s] w (BoolPost w (keyL s.data.toList)) := by
  have hlen : s.data.toList.length = s.size := by simp
  have hM1 := fun w => only_any s ⟨#[97, 98, 99, 100, 101, 102, 103, 104, 105, 106, 107, 108, 109, 110, 111, 112, 113, 114, 115, 116, 117, 118, 119, 120, 121, 122, 48, 49, 50, 51, 52, 53, 54, 55, 56, 57, 45, 95]⟩ w hs (by decide) (by decide)
  have hM2 := fun w => only_any (s.extract 0 1) ⟨#[97, 98, 99, 100, 101, 102, 103, 104, 105, 106, 107, 108, 109, 110, 111, 112, 113, 114, 115, 116, 117, 118, 119, 120, 121, 122]⟩ w (by simp only [ByteArray.size_extract]; omega) (by decide) (by decide)
  rw [keySet2_b, show (fun x => keySet.contains x) = keyC from funext keySet_has] at hM1
  rw [smallSet2_b, show (fun x => smallSet.contains x) = smallU from funext smallSet_has, extractOne] at hM2
  have HK : Hid (keyL s.data.toList = (decide (1 ≤ s.size) && decide (s.size ≤ 40) && s.data.toList.all keyC && (s.data.toList.take 1).all smallU)) := by show _ = _; unfold keyL; rw [hlen]
  clear hlen
  generalize s.data.toList.all keyC = k1 at *
  generalize (s.data.toList.take 1).all smallU = k2 at *
  have H1 := Lib.hid hM1; clear hM1
  have H2 := Lib.hid hM2; clear hM2
  go_enter Tryz.func68, Tryz.ntmps68
  go_wp2_with fail
  refine (in2_any _ _ _ _).mono ?_
  rintro e w' ⟨rfl, hw⟩
  subst hw
  by_cases hin : 1 ≤ s.size ∧ s.size ≤ 40
  · rw [show inB (s.size : Int) 1 40 = true by unfold inB; exact decide_eq_true (by omega)]
    have s1 := slice_to s 1 hin.1
    have HI := Lib.hid hin
    have h1i : (1 : Int) ≤ (s.size : Int) := by omega
    clear hin
    go_wp2_with fail
    refine (H2.out _).mono ?_
    rintro e w1 ⟨rfl, hb⟩
    cases k2 with
    | false =>
      go_wp2_with fail
      go_ret
      exact ⟨ret_bool (by rw [HK.out]; simp), hb⟩
    | true =>
      go_wp2_with fail
      refine (H1.out _).mono ?_
      rintro e w2 ⟨rfl, hb2⟩
      go_wp2_with fail
      go_ret
      exact ⟨ret_bool (by rw [HK.out]; simp [HI.out.1, HI.out.2]), below_trans' hb hb2⟩
  · rw [show inB (s.size : Int) 1 40 = false by unfold inB; exact decide_eq_false (by omega)]
    go_wp2_with fail
    go_ret
    refine ⟨ret_bool ?_, Below.refl _ _⟩
    rw [HK.out]
    have : (decide (1 ≤ s.size) && decide (s.size ≤ 40)) = false := by
      rw [Bool.and_eq_false_iff, decide_eq_false_iff_not, decide_eq_false_iff_not]; omega
    rw [this]; rfl
theorem strContains_any (s sub : ByteArray) (w : World) (hs : s.size ≤ 1000000) (hM : MaxAt w) : Calls Tryz.prog 127 #[.string s, .string sub] w (BoolPost w (Lib.contains s.data.toList sub.data.toList)) := by
  obtain ⟨m, hm⟩ := hM
  refine (Tryz.strings_Contains s sub m w (by omega) hm).mono ?_
  rintro e w' ⟨rfl, rfl⟩
  exact ⟨rfl, Below.refl _ _⟩
/-- A plain string. -/
def plainB (l : List UInt8) : Bool := visB false l && (decide (Lib.trimB l 32 = l) && !Lib.contains l [32, 32])
set_option maxHeartbeats 1600000 in
theorem plain2_any (s : ByteArray) (w : World) (hs : s.size ≤ 1000000) (hT : Tabs w) (hM : MaxAt w) :
    Calls Tryz.prog 70 #[.string s] w (BoolPost w (plainB s.data.toList)) := by
  go_enter Tryz.func70, Tryz.ntmps70
  go_wp2
  go_loop [6] (fun i => ∃ k : Nat, k ≤ s.size ∧ i = .int .i64 k ∧ (s.data.toList.take k).all (fun c => okByte false c.toNat) = true) (fun i => s.size - (intOf i).toNat)
  case atStart => exact ⟨0, Nat.zero_le _, rfl, rfl⟩
  case round =>
    obtain ⟨k, hk, rfl, ha⟩ := hrel
    have HA := Lib.hid ha; clear ha
    have HMX := Lib.hid hM
    have HTX := Lib.hid hT
    clear hM hT
    by_cases hlt : k < s.size
    · have HS := Lib.hid (all_snoc (fun c => okByte false c.toNat) s k hlt HA.out)
      have HN := Lib.hid (all_no (fun c => okByte false c.toNat) s k hlt)
      have hix : ∀ wx : World, (Instr.index 9 (.string s) (.int .i64 (k : Int))).run Tryz.prog wx = .ok (.int .u8 (s[k].toNat : Int)) wx := fun wx => by
        rw [run_index_string wx 9 s .i64 (k : Int) Tryz.underlying9, dif_pos ⟨by omega, by omega⟩]
        rfl
      have hcl := s[k].toNat_lt
      generalize s[k] = ck at *
      by_cases h1 : (ck.toNat : Int) < 32
      · have HF := Lib.hid (HN.out (okF1 _ h1))
        go_wp2_with fail
        go_ret
        exact ⟨ret_bool (by unfold plainB visB; rw [HF.out]; rfl), Below.refl _ _⟩
      · cases h2 : ((ck.toNat : Int) == 127) with
        | true =>
          have HF := Lib.hid (HN.out (okT4 _ _ h2))
          go_wp2_with fail
          go_ret
          exact ⟨ret_bool (by unfold plainB visB; rw [HF.out]; rfl), Below.refl _ _⟩
        | false =>
          have HF := Lib.hid (HS.out (okT2 _ _ h1 h2))
          go_wp2_with fail
          go_round
          case rel => exact ⟨k + 1, by omega, by go_num, HF.out⟩
          case measure => simp [intOf]; omega
    · have HE := Lib.hid (all_end _ s k hlt HA.out)
      have HV : Hid (visB false s.data.toList = Lib.validD s.data.toList) := by show _ = _; unfold visB; rw [HE.out]; rfl
      go_wp2_with fail
      refine (valid_any s _ (by omega) HTX.out).mono ?_
      rintro e w1 ⟨rfl, hb⟩
      have HPB : Hid (plainB s.data.toList = (Lib.validD s.data.toList && (decide (Lib.trimB s.data.toList 32 = s.data.toList) && !Lib.contains s.data.toList [32, 32]))) := by show _ = _; unfold plainB; rw [HV.out]
      generalize Lib.validD s.data.toList = vd at *
      cases vd with
      | false =>
        go_wp2_with fail
        go_ret
        exact ⟨ret_bool (by rw [HPB.out]; rfl), hb⟩
      | true =>
        go_wp2_with fail
        refine (Tryz.strings_Trim_one s 32 (by decide) w1 (by omega)).mono ?_
        rintro e w2 ⟨rfl, hw2⟩
        have hb2 : Below w.heap.size w w2 := by
          rcases hw2 with rfl | rfl
          · exact hb
          · exact hb.drew
        have HCT := Lib.hid (strContains_any s ⟨#[32, 32]⟩ w2 hs (HMX.out.below hb2))
        have HQ : Hid (((⟨(Lib.trimB s.data.toList 32).toArray⟩ : ByteArray).toList == s.toList) = decide (Lib.trimB s.data.toList 32 = s.data.toList)) := by
          show _ = _
          rw [Lib.toList_data, Lib.toList_data]
          by_cases e : Lib.trimB s.data.toList 32 = s.data.toList
          · rw [decide_eq_true e]; simp [e]
          · rw [decide_eq_false e]; simp [e]
        clear hw2
        have hmx : (⟨#[32, 32]⟩ : ByteArray).data.toList = [32, 32] := rfl
        rw [hmx] at HCT
        generalize Lib.contains s.data.toList [32, 32] = ct at *
        generalize decide (Lib.trimB s.data.toList 32 = s.data.toList) = tb at *
        generalize (⟨(Lib.trimB s.data.toList 32).toArray⟩ : ByteArray) = tt at *
        have hq := HQ.out
        cases tb with
        | false =>
          go_wp2_with fail
          go_ret
          exact ⟨ret_bool (by rw [HPB.out]; rfl), hb2⟩
        | true =>
          go_wp2_with fail
          refine HCT.out.mono ?_
          rintro e w3 ⟨rfl, hb3⟩
          go_wp2_with fail
          go_ret
          exact ⟨ret_bool (by rw [HPB.out]; cases ct <;> rfl), below_trans' hb2 hb3⟩
set_option maxHeartbeats 1600000 in
theorem isText_any (s : ByteArray) (w : World) (hs : s.size ≤ 1000000) (hT : Tabs w) :
    Calls Tryz.prog 71 #[.string s] w (BoolPost w (textB s.data.toList)) := by
  have HL : Hid (s.data.toList.length = s.size) := by show _ = _; simp
  go_enter Tryz.func71, Tryz.ntmps71
  go_wp2
  go_loop [6] (fun i => ∃ k : Nat, k ≤ s.size ∧ i = .int .i64 k ∧ (s.data.toList.take k).all (fun c => okByte true c.toNat) = true) (fun i => s.size - (intOf i).toNat)
  case atStart => exact ⟨0, Nat.zero_le _, rfl, rfl⟩
  case round =>
    obtain ⟨k, hk, rfl, ha⟩ := hrel
    have HA := Lib.hid ha; clear ha
    have HTX := Lib.hid hT
    clear hT
    by_cases hlt : k < s.size
    · have HS := Lib.hid (all_snoc (fun c => okByte true c.toNat) s k hlt HA.out)
      have HN := Lib.hid (all_no (fun c => okByte true c.toNat) s k hlt)
      have hix : ∀ wx : World, (Instr.index 9 (.string s) (.int .i64 (k : Int))).run Tryz.prog wx = .ok (.int .u8 (s[k].toNat : Int)) wx := fun wx => by
        rw [run_index_string wx 9 s .i64 (k : Int) Tryz.underlying9, dif_pos ⟨by omega, by omega⟩]
        rfl
      have hcl := s[k].toNat_lt
      generalize s[k] = ck at *
      by_cases h1 : (ck.toNat : Int) < 32
      · by_cases h3 : (ck.toNat : Int) = 10
        · have h10 : ck.toNat = 10 := by omega
          have HF := Lib.hid (HS.out (okT1 _ h1 h3))
          have h4 : ((ck.toNat : Int) != 10) = false := by simp [h10]
          have h5 : ((ck.toNat : Int) == 127) = false := by simp; omega
          clear h10 h3
          go_wp2_with fail
          go_round
          case rel => exact ⟨k + 1, by omega, by go_num, HF.out⟩
          case measure => simp [intOf]; omega
        · have HF := Lib.hid (HN.out (okT3 _ h1 h3))
          have h4 : ((ck.toNat : Int) != 10) = true := by simp; omega
          clear h3
          go_wp2_with fail
          go_ret
          exact ⟨ret_bool (by unfold textB visB; rw [HF.out]; rfl), Below.refl _ _⟩
      · cases h2 : ((ck.toNat : Int) == 127) with
        | true =>
          have HF := Lib.hid (HN.out (okT4 _ _ h2))
          go_wp2_with fail
          go_ret
          exact ⟨ret_bool (by unfold textB visB; rw [HF.out]; rfl), Below.refl _ _⟩
        | false =>
          have HF := Lib.hid (HS.out (okT2 _ _ h1 h2))
          go_wp2_with fail
          go_round
          case rel => exact ⟨k + 1, by omega, by go_num, HF.out⟩
          case measure => simp [intOf]; omega
    · have HE := Lib.hid (all_end _ s k hlt HA.out)
      have HV : Hid (visB true s.data.toList = Lib.validD s.data.toList) := by show _ = _; unfold visB; rw [HE.out]; rfl
      go_wp2_with fail
      refine (valid_any s _ (by omega) HTX.out).mono ?_
      rintro e w1 ⟨rfl, hb⟩
      have HPB : Hid (textB s.data.toList = (Lib.validD s.data.toList && (s.data.toList.isEmpty || [10].isSuffixOf s.data.toList))) := by show _ = _; unfold textB; rw [HV.out]
      generalize Lib.validD s.data.toList = vd at *
      cases vd with
      | false =>
        go_wp2_with fail
        go_ret
        exact ⟨ret_bool (by rw [HPB.out]; rfl), hb⟩
      | true =>
        by_cases h0 : s.data.toList = []
        · have q1 : s.toList = [] := by rw [Lib.toList_data]; exact h0
          have HF : Hid (textB s.data.toList = true) := by show _ = _; rw [HPB.out, h0]; rfl
          clear h0
          go_wp2_with fail
          go_ret
          exact ⟨ret_bool (by rw [HF.out]), hb⟩
        · have q1 : ¬ s.toList = [] := by rw [Lib.toList_data]; exact h0
          have q2 : (s.toList == []) = false := by simpa using q1
          have hsz : 0 < s.size := by
            rw [← HL.out]
            exact List.length_pos_iff.2 h0
          obtain ⟨m, hm⟩ : ∃ m, s.size = m + 1 := ⟨s.size - 1, by omega⟩
          have hix : ∀ wx : World, (Instr.index 9 (.string s) (.int .i64 ((s.size : Int) - 1))).run Tryz.prog wx = .ok (.int .u8 ((s[m]'(by omega)).toNat : Int)) wx := fun wx => by
            rw [show (s.size : Int) - 1 = (m : Int) by omega]
            rw [run_index_string wx 9 s .i64 (m : Int) Tryz.underlying9, dif_pos ⟨by omega, by omega⟩]
            rfl
          have HLAST : Hid ([10].isSuffixOf s.data.toList = decide ((s[m]'(by omega)).toNat = 10)) := by
            show _ = _
            have hd : s.data.toList = s.data.toList.dropLast ++ [s[m]'(by omega)] := by
              have h1 := List.dropLast_concat_getLast h0
              rw [← h1]
              simp only [List.dropLast_concat]
              congr 2
              rw [List.getLast_eq_getElem]
              have : s.data.toList.length - 1 = m := by rw [HL.out]; omega
              simp only [this]
              rfl
            rw [hd]
            generalize (s[m]'(by omega)) = ck
            by_cases hck : ck = 10
            · subst hck; simp
            · have : ¬ ck.toNat = 10 := fun e => hck (UInt8.toNat_inj.1 e)
              rw [decide_eq_false this]
              simp only [List.isSuffixOf, List.reverse_append, List.reverse_singleton, List.singleton_append, List.isPrefixOf]
              simp [Ne.symm hck]
          have HF : Hid (textB s.data.toList = decide ((s[m]'(by omega)).toNat = 10)) := by show _ = _; rw [HPB.out, HLAST.out, show s.data.toList.isEmpty = false from List.isEmpty_eq_false_iff.2 h0]; rfl
          generalize (s[m]'(by omega)).toNat = ck at *
          have hw1 : IntKind.i64.wrap ((s.size : Int) - 1) = (s.size : Int) - 1 := IntWalk.i64_in _ (by omega)
          clear h0 HLAST HPB hm
          go_wp2_with fail
          go_ret
          refine ⟨ret_bool ?_, hb⟩
          rw [HF.out]
          by_cases hc : ck = 10
          · subst hc; rfl
          · rw [decide_eq_false hc]; simp; omega
end Go.Proofs.YtfijplllfdmcoaaGreatDoor
