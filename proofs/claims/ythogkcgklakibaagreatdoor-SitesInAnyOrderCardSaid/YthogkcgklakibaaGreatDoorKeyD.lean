
/-
  KeyOf and PlainOf of the reference.
-/
import Derived.Test.YthogkcgklakibaaGreatDoorStrLib
import Derived.Test.YthogkcgklakibaaGreatDoorFaultPlain
import Derived.Test.YthogkcgklakibaaGreatDoorItemFn
import Derived.Shelf.Strings.SlTrimAscii
namespace Go.Proofs.YthogkcgklakibaaGreatDoor
open Go.RowKit

theorem toList_beq (a b : ByteArray) : (a.toList == b.toList) = decide (a = b) := by
  rw [Lib.toList_data, Lib.toList_data]
  by_cases h : a = b
  · subst h; simp
  · have h2 : ¬ a.data.toList = b.data.toList := fun e => h (ByteArray.ext (Array.toList_inj.1 e))
    rw [decide_eq_false h]
    exact beq_eq_false_iff_ne.2 h2
theorem empty_list (s : ByteArray) (h : s.data.toList = []) : s.toList = [] := by rw [Lib.toList_data]; exact h
set_option maxHeartbeats 800000 in
theorem made_any (s cs : ByteArray) (w : World) (hs : s.size ≤ 1000000) (hcs : cs.size ≤ 1000) (ha : cs.data.toList.all (fun b => decide (b.toNat < 128)) = true) :
    Calls Tryz.prog 153 #[.string s, .string cs] w fun e w' => e = .returned (.bool (s.data.toList.all (cs.data.toList.contains ·))) ∧ Below w.heap.size w w' := by
  have hT := trim_any s cs w hs hcs ha
  rw [← trimS_nil]
  generalize Lib.trimS s.data.toList cs.data.toList = L at *
  cases L with
  | nil =>
    have he : (⟨([] : List UInt8).toArray⟩ : ByteArray).toList = [] := by rw [Lib.toList_data]
    go_enter Tryz.func153, Tryz.ntmps153
    go_wp2_with fail
    refine hT.mono ?_
    rintro e w' ⟨rfl, hb⟩
    go_wp2_with fail
    go_ret
    exact ⟨ret_bool (by simp), hb⟩
  | cons x r =>
    have he : (⟨(x :: r).toArray⟩ : ByteArray).toList = x :: r := by rw [Lib.toList_data]
    go_enter Tryz.func153, Tryz.ntmps153
    go_wp2_with fail
    refine hT.mono ?_
    rintro e w' ⟨rfl, hb⟩
    go_wp2_with fail
    go_ret
    exact ⟨ret_bool (by simp), hb⟩

theorem keySet_b : (⟨#[97, 98, 99, 100, 101, 102, 103, 104, 105, 106, 107, 108, 109, 110, 111, 112, 113, 114, 115, 116, 117, 118, 119, 120, 121, 122, 48, 49, 50, 51, 52, 53, 54, 55, 56, 57, 45, 95]⟩ : ByteArray).data.toList = keySet := rfl
theorem smallSet_b : (⟨#[97, 98, 99, 100, 101, 102, 103, 104, 105, 106, 107, 108, 109, 110, 111, 112, 113, 114, 115, 116, 117, 118, 119, 120, 121, 122]⟩ : ByteArray).data.toList = smallSet := rfl
theorem extract1 (s : ByteArray) : (s.extract 0 1).data.toList = s.data.toList.take 1 := by
  rw [ByteArray.data_extract, Array.toList_extract]
  simp [List.extract]

set_option maxHeartbeats 1600000 in
set_option maxRecDepth 100000 in
theorem keyOf_any (s : ByteArray) (w : World) (hs : s.size ≤ 1000000) :
    Calls Tryz.prog 110 #[.string s] w fun e w' => e = .returned (.bool (keyL s.data.toList)) ∧ Below w.heap.size w w' := by
  have hlen : s.data.toList.length = s.size := by simp
  have hM1 := fun w => made_any s ⟨#[97, 98, 99, 100, 101, 102, 103, 104, 105, 106, 107, 108, 109, 110, 111, 112, 113, 114, 115, 116, 117, 118, 119, 120, 121, 122, 48, 49, 50, 51, 52, 53, 54, 55, 56, 57, 45, 95]⟩ w hs (by decide) (by decide)
  have hM2 := fun w => made_any (s.extract 0 1) ⟨#[97, 98, 99, 100, 101, 102, 103, 104, 105, 106, 107, 108, 109, 110, 111, 112, 113, 114, 115, 116, 117, 118, 119, 120, 121, 122]⟩ w (by simp only [ByteArray.size_extract]; omega) (by decide) (by decide)
  rw [keySet_b, show (fun x => keySet.contains x) = keyC from funext keySet_has] at hM1
  rw [smallSet_b, show (fun x => smallSet.contains x) = smallU from funext smallSet_has, extract1] at hM2
  have HK : Hid (keyL s.data.toList = (decide (1 ≤ s.size) && decide (s.size ≤ 40) && s.data.toList.all keyC && (s.data.toList.take 1).all smallU)) := by show _ = _; unfold keyL; rw [hlen]
  clear hlen
  generalize s.data.toList.all keyC = k1 at *
  generalize (s.data.toList.take 1).all smallU = k2 at *
  have H1 := Lib.hid hM1; clear hM1
  have H2 := Lib.hid hM2; clear hM2
  by_cases h1 : 1 ≤ s.size
  · have s1 := slice_to s 1 h1
    have h1i : (1 : Int) ≤ (s.size : Int) := by omega
    by_cases h2 : s.size ≤ 40
    · have h2i : (s.size : Int) ≤ 40 := by omega
      cases k1 with
      | false =>
        go_enter Tryz.func110, Tryz.ntmps110
        go_wp2_with fail
        refine (H1.out _).mono ?_
        rintro e w' ⟨rfl, hb⟩
        go_wp2_with fail
        go_ret
        exact ⟨ret_bool (by rw [HK.out]; simp), hb⟩
      | true =>
        go_enter Tryz.func110, Tryz.ntmps110
        go_wp2_with fail
        refine (H1.out _).mono ?_
        rintro e w1 ⟨rfl, hb⟩
        go_wp2_with fail
        refine (H2.out _).mono ?_
        rintro e w2 ⟨rfl, hb2⟩
        go_wp2_with fail
        go_ret
        exact ⟨ret_bool (by rw [HK.out]; simp [h1, h2]), below_trans' hb hb2⟩
    · have h2i : ¬ (s.size : Int) ≤ 40 := by omega
      go_enter Tryz.func110, Tryz.ntmps110
      go_wp2_with fail
      go_ret
      exact ⟨ret_bool (by rw [HK.out]; simp [h2]), Below.refl _ _⟩
  · have h1i : ¬ (1 : Int) ≤ (s.size : Int) := by omega
    go_enter Tryz.func110, Tryz.ntmps110
    go_wp2_with fail
    go_ret
    exact ⟨ret_bool (by rw [HK.out]; simp [h1]), Below.refl _ _⟩

set_option maxHeartbeats 1600000 in
theorem plainOf_any (s : ByteArray) (w : World) (hs : s.size ≤ 1000000) (hT : Tabs w) (hM : MaxAt w) :
    Calls Tryz.prog 112 #[.string s] w (BoolPost w (plainB s.data.toList)) := by
  have HWF := Lib.hid (wellFormed_any s false w hs hT)
  have HMX := Lib.hid hM
  clear hM hT
  have HPB : Hid (plainB s.data.toList = (visB false s.data.toList && (decide (Lib.trimB s.data.toList 32 = s.data.toList) && !Lib.contains s.data.toList [32, 32]))) := rfl
  generalize visB false s.data.toList = vd at *
  go_enter Tryz.func112, Tryz.ntmps112
  go_wp2_with fail
  refine HWF.out.mono ?_
  rintro e w1 ⟨rfl, hb⟩
  cases vd with
  | false =>
    go_wp2_with fail
    go_ret
    exact ⟨ret_bool (by rw [HPB.out]; rfl), hb⟩
  | true =>
    go_wp2_with fail
    refine (Tryz.strings_Trim_one s 32 (by decide) w1 (by omega)).mono ?_
    rintro e w2 ⟨rfl, hw2⟩
    have hb2 : Below w.heap.size w w2 := by
      rcases hw2 with rfl | rfl
      · exact hb
      · exact hb.drew
    have HCT := Lib.hid (strContains_any s ⟨#[32, 32]⟩ w2 hs (HMX.out.below hb2))
    have HQ : Hid (((⟨(Lib.trimB s.data.toList 32).toArray⟩ : ByteArray).toList == s.toList) = decide (Lib.trimB s.data.toList 32 = s.data.toList)) := by
      show _ = _
      rw [Lib.toList_data, Lib.toList_data]
      by_cases e : Lib.trimB s.data.toList 32 = s.data.toList
      · rw [decide_eq_true e]; simp [e]
      · rw [decide_eq_false e]; simp [e]
    clear hw2
    have hmx : (⟨#[32, 32]⟩ : ByteArray).data.toList = [32, 32] := rfl
    rw [hmx] at HCT
    generalize Lib.contains s.data.toList [32, 32] = ct at *
    generalize decide (Lib.trimB s.data.toList 32 = s.data.toList) = tb at *
    generalize (⟨(Lib.trimB s.data.toList 32).toArray⟩ : ByteArray) = tt at *
    have hq := HQ.out
    cases tb with
    | false =>
      go_wp2_with fail
      go_ret
      exact ⟨ret_bool (by rw [HPB.out]; rfl), hb2⟩
    | true =>
      go_wp2_with fail
      refine HCT.out.mono ?_
      rintro e w3 ⟨rfl, hb3⟩
      go_wp2_with fail
      go_ret
      exact ⟨ret_bool (by rw [HPB.out]; cases ct <;> rfl), below_trans' hb2 hb3⟩
def momB (z : Int) : Bool := decide (0 ≤ z ∧ z ≤ 5761439)
theorem moment1_any (z : Int) (w : World) : Calls Tryz.prog 111 #[.int .i64 z] w fun e w' => e = .returned (.bool (momB z)) ∧ w' = w := by
  by_cases h0 : 0 ≤ z
  · by_cases h1 : z < 5761440
    · have HF : Hid (momB z = true) := decide_eq_true ⟨h0, by omega⟩
      go_enter Tryz.func111, Tryz.ntmps111
      go_wp2_with fail
      go_ret
      exact ⟨ret_bool (by rw [HF.out]), rfl⟩
    · have HF : Hid (momB z = false) := decide_eq_false (by omega)
      go_enter Tryz.func111, Tryz.ntmps111
      go_wp2_with fail
      go_ret
      exact ⟨ret_bool (by rw [HF.out]), rfl⟩
  · have HF : Hid (momB z = false) := decide_eq_false (by omega)
    go_enter Tryz.func111, Tryz.ntmps111
    go_wp2_with fail
    go_ret
    exact ⟨ret_bool (by rw [HF.out]), rfl⟩
end Go.Proofs.YthogkcgklakibaaGreatDoor
