
/-
  What blank, says, Lines and checkBody return.
-/
import Derived.Test.YtmaimojpjepmjaaGreatDoorContains
import Derived.Test.YtmaimojpjepmjaaGreatDoorUniPlain
import Derived.Test.YtmaimojpjepmjaaGreatDoorText
namespace Go.Proofs.YtmaimojpjepmjaaGreatDoor
open Go.RowKit

/-- Nothing but blanks. -/
def blankB (l : List UInt8) : Bool := (Lib.trimB l 32).isEmpty
def DrewPost (w : World) (b : Bool) (e : Ending) (w' : World) : Prop := e = .returned (.bool b) ∧ ∃ q, w' = w.drewN q
set_option maxHeartbeats 800000 in
theorem blank_any (s : ByteArray) (w : World) (hs : s.size ≤ 1000000) :
    Calls Tryz.prog 32 #[.string s] w (DrewPost w (blankB s.data.toList)) := by
  have HT := Lib.hid (Tryz.strings_Trim_one s 32 (by decide) w (by omega))
  have HB : Hid (blankB s.data.toList = (Lib.trimB s.data.toList 32).isEmpty) := rfl
  generalize Lib.trimB s.data.toList 32 = L at *
  go_enter Tryz.func32, Tryz.ntmps32
  go_wp2_with fail
  refine HT.out.mono ?_
  rintro e w' ⟨rfl, hw⟩
  have HW : Hid (∃ q, w' = w.drewN q) := by
    rcases hw with h | h
    · exact ⟨0, h⟩
    · exact ⟨1, h⟩
  clear hw HT
  cases L with
  | nil =>
    have he : (⟨([] : List UInt8).toArray⟩ : ByteArray).toList = [] := by rw [Lib.toList_data]
    go_wp2_with fail
    go_ret
    exact ⟨by rw [HB.out]; rfl, HW.out⟩
  | cons c L =>
    have he : ((⟨(c :: L).toArray⟩ : ByteArray).toList == []) = false := by rw [Lib.toList_data]; rfl
    have he2 : ¬ (⟨(c :: L).toArray⟩ : ByteArray).toList = [] := by rw [Lib.toList_data]; simp
    go_wp2_with fail
    go_ret
    exact ⟨by rw [HB.out]; first | rfl | (simp; done), HW.out⟩
abbrev wroteL : List UInt8 := [119, 114, 111, 116, 101, 58]
abbrev schriebL : List UInt8 := [115, 99, 104, 114, 105, 101, 98, 58]
abbrev origL : List UInt8 := [45, 45, 45, 45, 45, 79, 114, 105, 103, 105, 110, 97, 108, 32, 77, 101, 115, 115, 97, 103, 101, 45, 45, 45, 45, 45]
def saysOne (l p : List UInt8) : Bool := Lib.hasSuffix l p && !blankB (Lib.trimSuffix l p)
/-- An attribution. -/
def saysB (l : List UInt8) : Bool := saysOne l wroteL || (saysOne l schriebL || (l == origL))
theorem cutSuffix_any (s p : ByteArray) (w : World) (hs : s.size ≤ 1000000) : Calls Tryz.prog 91 #[.string s, .string p] w fun e w' => e = .returned (.tuple #[.string ⟨(Lib.trimSuffix s.data.toList p.data.toList).toArray⟩, .bool (Lib.hasSuffix s.data.toList p.data.toList)]) ∧ w = w' :=
  (Tryz.strings_CutSuffix s p w (by omega)).mono fun _ _ h => ⟨h.1, h.2.symm⟩
theorem trimSuffix_len (l p : List UInt8) : (Lib.trimSuffix l p).length ≤ l.length := by
  unfold Lib.trimSuffix
  split <;> simp
def SaysPost (w : World) (b : Bool) (e : Ending) (w' : World) : Prop := e = .returned (.bool b) ∧ Below w.heap.size w w'
theorem below_draws {B : Nat} {a w : World} (h : Below B a w) (n : Nat) : Below B a (w.drewN n) := below_drewN h n
set_option maxHeartbeats 1600000 in
set_option maxRecDepth 100000 in
theorem says_any (s : ByteArray) (w : World) (hs : s.size ≤ 1000000) :
    Calls Tryz.prog 62 #[.string s] w (SaysPost w (saysB s.data.toList)) := by
  have HSB : Hid (saysB s.data.toList = (saysOne s.data.toList wroteL || (saysOne s.data.toList schriebL || (s.data.toList == origL)))) := rfl
  have HC := Lib.hid (fun p wx => cutSuffix_any s p wx hs)
  have HBL := Lib.hid (fun (l : List UInt8) (hl : l.length ≤ 1000000) wx => blank_any ⟨l.toArray⟩ wx (by rw [show (⟨l.toArray⟩ : ByteArray).size = l.length by simp [ByteArray.size]]; exact hl))
  have HTL := Lib.hid (fun p => Nat.le_trans (trimSuffix_len s.data.toList p) (show s.data.toList.length ≤ 1000000 by simpa using hs))
  have HEQ : Hid ((s.toList == origL) = (s.data.toList == origL)) := by show _ = _; rw [Lib.toList_data]
  go_enter Tryz.func62, Tryz.ntmps62
  go_upto_region 2 with (fail)
  have hc0 : (w.alloc (.cells #[.string ⟨#[119, 114, 111, 116, 101, 58]⟩, .string ⟨#[115, 99, 104, 114, 105, 101, 98, 58]⟩] 9)).cell? ⟨w.heap.size, 0, none⟩ = some (.string ⟨#[119, 114, 111, 116, 101, 58]⟩) := by rw [World.cell?_alloc_at _ _ _ _ rfl]; rfl
  have hc1 : (w.alloc (.cells #[.string ⟨#[119, 114, 111, 116, 101, 58]⟩, .string ⟨#[115, 99, 104, 114, 105, 101, 98, 58]⟩] 9)).cell? ⟨w.heap.size, 1, none⟩ = some (.string ⟨#[115, 99, 104, 114, 105, 101, 98, 58]⟩) := by rw [World.cell?_alloc_at _ _ _ _ rfl]; rfl
  have hB : Below w.heap.size w (w.alloc (.cells #[.string ⟨#[119, 114, 111, 116, 101, 58]⟩, .string ⟨#[115, 99, 104, 114, 105, 101, 98, 58]⟩] 9)) := (Below.refl _ _).alloc (Nat.le_refl _) _
  generalize w.alloc (.cells #[.string ⟨#[119, 114, 111, 116, 101, 58]⟩, .string ⟨#[115, 99, 104, 114, 105, 101, 98, 58]⟩] 9) = w1 at *
  have HB := Lib.hid hB
  have HC0 := Lib.hid hc0
  have HC1 := Lib.hid hc1
  clear hB hc0 hc1
  go_loopg [9] 2 (fun gk i wr => ∃ k : Nat, Hid (k + gk = 2) ∧ i = .int .i64 (k : Int) ∧ Hid (0 < k → saysOne s.data.toList wroteL = false) ∧ Hid (1 < k → saysOne s.data.toList schriebL = false) ∧ Hid (∃ q, wr = w1.drewN q))
  case atStart => exact ⟨0, show 0 + 2 = 2 by omega, rfl, fun h => by omega, fun h => by omega, ⟨0, rfl⟩⟩
  case round =>
    obtain ⟨k, HK, rfl, H0, H1, HW⟩ := hrel
    have hk2 : k ≤ 2 := by have := HK.out; omega
    have hbw : Below w.heap.size w wr := by obtain ⟨q, hq⟩ := HW.out; rw [hq]; exact below_draws HB.out q
    have HBW := Lib.hid hbw
    clear hbw
    by_cases hlt : k < 2
    · have hck : wr.cell? ⟨w.heap.size, k, none⟩ = some (.string ⟨(if k = 0 then wroteL else schriebL).toArray⟩) := by
        obtain ⟨q, hq⟩ := HW.out
        rw [hq]
        by_cases h : k = 0
        · subst h; exact HC0.out
        · obtain rfl : k = 1 := by omega
          exact HC1.out
      obtain ⟨p, hp⟩ : ∃ p, (if k = 0 then wroteL else schriebL) = p := ⟨_, rfl⟩
      rw [hp] at hck
      have HP := Lib.hid hp
      clear hp
      have hone : Hid (saysOne s.data.toList p = (Lib.hasSuffix s.data.toList p && !blankB (Lib.trimSuffix s.data.toList p))) := rfl
      have HNX0 : Hid (saysOne s.data.toList p = false → (0 < k + 1 → saysOne s.data.toList wroteL = false) ∧ (1 < k + 1 → saysOne s.data.toList schriebL = false)) := fun h => by
        have hp := HP.out
        by_cases h0 : k = 0
        · rw [if_pos h0] at hp; subst hp; exact ⟨fun _ => h, fun h' => by omega⟩
        · rw [if_neg h0] at hp; subst hp; exact ⟨fun _ => H0.out (by omega), fun _ => h⟩
      have HYES : Hid (saysOne s.data.toList p = true → saysB s.data.toList = true) := fun h => by
        have hp := HP.out
        rw [HSB.out]
        by_cases h0 : k = 0
        · rw [if_pos h0] at hp; subst hp; rw [h]; rfl
        · rw [if_neg h0] at hp; subst hp; rw [h]; simp
      have HCP := Lib.hid (HC.out (⟨p.toArray⟩ : ByteArray))
      rw [show (⟨p.toArray⟩ : ByteArray).data.toList = p by simp] at HCP
      have htl := HTL.out p
      generalize Lib.trimSuffix s.data.toList p = tr at *
      generalize Lib.hasSuffix s.data.toList p = hsf at *
      go_wp2_with fail
      refine (HCP.out _).mono ?_
      rintro e w' ⟨rfl, hw'⟩
      obtain rfl := hw'
      cases hsf
      · have hf : saysOne s.data.toList p = false := hone.out
        have HN := Lib.hid (HNX0.out hf)
        clear hf
        go_wp2_with fail
        go_roundg (gk - 1)
        case measure => have := HK.out; omega
        case rel => exact ⟨k + 1, show k + 1 + (gk - 1) = 2 by have := HK.out; omega, by go_num, HN.out.1, HN.out.2, HW⟩
      · have HBK := Lib.hid (HBL.out tr htl)
        obtain ⟨bb, hbb⟩ : ∃ bb, blankB tr = bb := ⟨_, rfl⟩
        rw [hbb] at HBK hone
        clear hbb
        go_wp2_with fail
        refine (HBK.out _).mono ?_
        rintro e w' ⟨rfl, q2, hw2⟩
        have HW2 : Hid (∃ q, w' = w1.drewN q) := by obtain ⟨q, hq⟩ := HW.out; exact ⟨q + q2, by rw [hw2, hq, World.drewN_drewN]⟩
        have HBW2 : Hid (Below w.heap.size w w') := by show Below _ _ _; rw [hw2]; exact below_draws HBW.out q2
        clear hw2
        cases bb
        · have HY := Lib.hid (HYES.out (by rw [hone.out]; rfl))
          go_wp2_with fail
          go_ret
          exact ⟨by rw [HY.out]; rfl, HBW2.out⟩
        · have hf : saysOne s.data.toList p = false := hone.out
          have HN := Lib.hid (HNX0.out hf)
          clear hf
          go_wp2_with fail
          go_roundg (gk - 1)
          case measure => have := HK.out; omega
          case rel => exact ⟨k + 1, show k + 1 + (gk - 1) = 2 by have := HK.out; omega, by go_num, HN.out.1, HN.out.2, HW2⟩
    · obtain rfl : k = 2 := by omega
      have HF : Hid (saysB s.data.toList = (s.data.toList == origL)) := by show _ = _; rw [HSB.out, H0.out (by omega), H1.out (by omega)]; rfl
      go_wp2_with fail
      go_ret
      exact ⟨by rw [HF.out, ← HEQ.out]; rfl, HBW.out⟩
/-- The lines of a text. -/
def lineL (l : List UInt8) : List (List UInt8) := if l.isEmpty then [] else splitC 10 l.dropLast
def LineP (w : World) (l : List (List UInt8)) (e : Ending) (w' : World) : Prop := ∃ A n c b, e = .returned (.tuple #[.slice A n c, .bool b]) ∧ StrsAt w' A n c l ∧ Below w.heap.size w w'
theorem trim_nl {l : List UInt8} (h : [10].isSuffixOf l = true) : Lib.trimSuffix l [10] = l.dropLast ∧ Lib.hasSuffix l [10] = true := by
  have h2 : Lib.hasSuffix l [10] = true := h
  refine ⟨?_, h2⟩
  unfold Lib.trimSuffix
  rw [if_pos h2, List.dropLast_eq_take]
  rfl
set_option maxHeartbeats 1600000 in
theorem lineP_any (s : ByteArray) (w : World) (hs : s.size ≤ 1000000) (hM : MaxAt w) (hT : s.data.toList.isEmpty = true ∨ [10].isSuffixOf s.data.toList = true) :
    Calls Tryz.prog 59 #[.string s] w (LineP w (lineL s.data.toList)) := by
  by_cases h0 : s.data.toList = []
  · have e1 : s.toList = [] := by rw [Lib.toList_data]; exact h0
    have HF : Hid (lineL s.data.toList = []) := by show _ = _; rw [h0]; rfl
    clear hT
    go_enter Tryz.func59, Tryz.ntmps59
    go_wp2_with fail
    go_ret2
    exact ⟨none, 0, 0, true, rfl, by rw [HF.out]; exact ⟨rfl, Nat.le_refl _, fun _ => rfl, fun h => by omega⟩, Below.refl _ _⟩
  · have e1 : (s.toList == []) = false := by rw [Lib.toList_data]; simpa using h0
    have e2 : ¬ s.toList = [] := by rw [Lib.toList_data]; exact h0
    have hsf : [10].isSuffixOf s.data.toList = true := by
      rcases hT with h | h
      · exact absurd (List.isEmpty_iff.1 h) h0
      · exact h
    obtain ⟨h1, h2⟩ := trim_nl hsf
    have HC := Lib.hid (cutSuffix_any s ⟨#[10]⟩ w hs)
    rw [show (⟨#[10]⟩ : ByteArray).data.toList = [10] from rfl, h1, h2] at HC
    have HF : Hid (lineL s.data.toList = splitC 10 s.data.toList.dropLast) := by
      show _ = _
      unfold lineL
      rw [if_neg (by simpa using h0)]
    have hdl : s.data.toList.dropLast.length ≤ 1000000 := by rw [List.length_dropLast]; have : s.data.toList.length = s.size := by simp
                                                             omega
    have HS := Lib.hid (fun wx (h : MaxAt wx) => split_any (⟨s.data.toList.dropLast.toArray⟩ : ByteArray) 10 wx (show (bag s.data.toList.dropLast).size ≤ 1000000 by rw [bag_size]; exact hdl) h)
    have HMX := Lib.hid hM
    clear hT hsf h1 h2 hdl hM h0
    generalize s.data.toList.dropLast = tr at *
    go_enter Tryz.func59, Tryz.ntmps59
    go_wp2_with fail
    refine HC.out.mono ?_
    rintro e w' ⟨rfl, hw'⟩
    obtain rfl := hw'
    go_wp2_with fail
    refine (HS.out w HMX.out).mono ?_
    rintro e w2 ⟨A, n, c, rfl, hst, hb, _⟩
    have HST := Lib.hid hst
    clear hst
    go_wp2_with fail
    go_ret2
    exact ⟨A, n, c, true, rfl, by rw [HF.out]; exact HST.out, hb⟩
theorem first_2t (g : Nat) (w : World) (h : g = w.heap.size) (t : TypeId) : Calls Tryz.prog 44 #[.slice (some ⟨g, 0, none⟩) 2 2] (w.alloc (.cells #[.int .i64 0, .int .i64 0] t)) fun e w' => e = .returned (.int .i64 0) ∧ (w.alloc (.cells #[.int .i64 0, .int .i64 0] t)) = w' := by
  subst h
  refine first_any _ 2 2 [0, 0] _ rfl (by omega) (fun j hj => ?_)
  rw [World.cell?_alloc_at _ _ _ _ rfl]
  match j, hj with
  | 0, _ => rfl
  | 1, _ => rfl
set_option maxHeartbeats 800000 in
theorem checkBody_any (s : ByteArray) (w : World) (hs : s.size ≤ 20000) (hT : Tabs w) (ht : textB s.data.toList = true) :
    Calls Tryz.prog 30 #[.string s] w fun e w' => e = .returned (.int .i64 0) ∧ Below w.heap.size w w' := by
  have hni : ¬ (s.size : Int) > 20000 := by omega
  have HX := Lib.hid (fun wx (h : Tabs wx) => text_any s wx (by omega) h)
  rw [ht] at HX
  have HT := Lib.hid hT
  clear hT ht
  go_enter Tryz.func30, Tryz.ntmps30
  go_wp2_with fail
  refine (when_any false 2 w).mono ?_
  rintro e w' ⟨rfl, hw⟩
  subst hw
  go_wp2_with fail
  refine (HX.out w HT.out).mono ?_
  rintro e w1 ⟨rfl, hb⟩
  go_wp2_with fail
  refine (when_any false 3 w1).mono ?_
  rintro e w' ⟨rfl, hw⟩
  subst hw
  go_wp2_with fail
  refine (first_2t _ _ rfl _).mono ?_
  rintro e w' ⟨rfl, hw⟩
  subst hw
  go_wp2_with fail
  go_ret
  exact ⟨rfl, hb.alloc hb.size _⟩
end Go.Proofs.YtmaimojpjepmjaaGreatDoor
