
/-
  Lines of a text whose last line is ended; pieces, textError and Wrap.
-/
import Derived.Test.YtemgaanmpgpdcaaGreatDoorWrapFn
import Derived.Test.YtemgaanmpgpdcaaGreatDoorText
namespace Go.Proofs.YtemgaanmpgpdcaaGreatDoor
open Go.RowKit

theorem first_two' (a b : Int) (w : World) (t : TypeId) : Calls Tryz.prog 69 #[.slice (some ⟨w.heap.size, 0, none⟩) 2 2] (w.alloc (.cells #[.int .i64 a, .int .i64 b] t)) fun e w' => e = .returned (.int .i64 (firstE [a, b])) ∧ (w.alloc (.cells #[.int .i64 a, .int .i64 b] t)) = w' := by
  refine first_any _ 2 2 [a, b] _ rfl (by omega) (fun j hj => ?_)
  rw [World.cell?_alloc_at _ _ _ _ rfl]
  match j, hj with
  | 0, _ => rfl
  | 1, _ => rfl
def OkPost (r : Value) (w : World) (e : Ending) (w' : World) : Prop := e = .returned r ∧ Below w.heap.size w w'
set_option maxHeartbeats 1600000 in
theorem textError_any (s : ByteArray) (w : World) (hs : s.size ≤ 1000000) (hT : Tabs w) :
    Calls Tryz.prog 47 #[.string s] w (OkPost (.int .i64 (bodyE s)) w) := by
  have HB : Hid (bodyE s = firstE [whenE (decide (20000 < s.size)) 2, whenE (!textB s.data.toList) 3]) := by
    show _ = _
    unfold bodyE firstE whenE
    by_cases h : 20000 < s.size
    · simp [h]
    · simp only [h, if_false, decide_false]
      cases textB s.data.toList <;> rfl
  have HX := Lib.hid (fun wx (h : Tabs wx) => text_any s wx hs h)
  have HTX := Lib.hid hT
  have HD : Hid (∀ b, decide (20000 < s.size) = b → ((b = true → (20000 : Int) < (s.size : Int)) ∧ (b = false → ¬ (20000 : Int) < (s.size : Int)))) := fun b hb => by
    subst hb
    constructor
    · intro h; have := of_decide_eq_true h; omega
    · intro h; have := of_decide_eq_false h; omega
  clear hT
  generalize textB s.data.toList = v at *
  generalize hd : decide (20000 < s.size) = d at *
  have hd2 := HD.out d rfl
  obtain ⟨dt, df⟩ := hd2
  have HD2 := Lib.hid hd
  clear hd HD
  have HW1 := Lib.hid (fun wx => when_any d 2 wx)
  have HW2 := Lib.hid (fun wx => when_any (!v) 3 wx)
  cases d
  all_goals
    first | have hi := df rfl | have hi := dt rfl
    clear dt df
    go_enter Tryz.func47, Tryz.ntmps47
    go_wp2_with fail
    refine (HW1.out w).mono ?_
    rintro e w' ⟨rfl, hw⟩
    obtain rfl := hw
    go_wp2_with fail
    refine (HX.out w HTX.out).mono ?_
    rintro e w1 ⟨rfl, hb⟩
    have HB1 := Lib.hid hb
    clear hb
    go_wp2_with fail
    refine (HW2.out w1).mono ?_
    rintro e w' ⟨rfl, hw⟩
    obtain rfl := hw
    go_wp2_with fail
    refine (first_two' _ _ w1 _).mono ?_
    rintro e w' ⟨rfl, hw⟩
    subst hw
    have HAL : Hid (∀ o, Below w.heap.size w (w1.alloc o)) := fun o => HB1.out.alloc HB1.out.size o
    go_wp2_with fail
    go_ret
    exact ⟨by rw [HB.out]; rfl, HAL.out _⟩
/-- The lines of a text. -/
def lineL (l : List UInt8) : List (List UInt8) := if l.isEmpty then [] else splitC 10 l.dropLast
def LineW (w : World) (l : List (List UInt8)) (e : Ending) (w' : World) : Prop := ∃ A n c, e = .returned (.tuple #[.slice A n c, .bool true]) ∧ StrsAt w' A n c l ∧ Below w.heap.size w w'
theorem trim_nl {l : List UInt8} (h : [10].isSuffixOf l = true) : Lib.trimSuffix l [10] = l.dropLast ∧ Lib.hasSuffix l [10] = true := by
  have h2 : Lib.hasSuffix l [10] = true := h
  refine ⟨?_, h2⟩
  unfold Lib.trimSuffix
  rw [if_pos h2, List.dropLast_eq_take]
  rfl
set_option maxHeartbeats 1600000 in
theorem lineW_any (s : ByteArray) (w : World) (hs : s.size ≤ 1000000) (hM : MaxAt w) (hT : s.data.toList.isEmpty = true ∨ [10].isSuffixOf s.data.toList = true) :
    Calls Tryz.prog 38 #[.string s] w (LineW w (lineL s.data.toList)) := by
  by_cases h0 : s.data.toList = []
  · have e1 : s.toList = [] := by rw [Lib.toList_data]; exact h0
    have HF : Hid (lineL s.data.toList = []) := by show _ = _; rw [h0]; rfl
    clear hT
    go_enter Tryz.func38, Tryz.ntmps38
    go_wp2_with fail
    go_ret2
    exact ⟨none, 0, 0, rfl, by rw [HF.out]; exact ⟨rfl, Nat.le_refl _, fun _ => rfl, fun h => by omega⟩, Below.refl _ _⟩
  · have e1 : (s.toList == []) = false := by rw [Lib.toList_data]; simpa using h0
    have e2 : ¬ s.toList = [] := by rw [Lib.toList_data]; exact h0
    have hsf : [10].isSuffixOf s.data.toList = true := by
      rcases hT with h | h
      · exact absurd (List.isEmpty_iff.1 h) h0
      · exact h
    obtain ⟨h1, h2⟩ := trim_nl hsf
    have HC := Lib.hid (Tryz.strings_CutSuffix s ⟨#[10]⟩ w (by omega))
    rw [show (⟨#[10]⟩ : ByteArray).data.toList = [10] from rfl, h1, h2] at HC
    have HF : Hid (lineL s.data.toList = splitC 10 s.data.toList.dropLast) := by
      show _ = _
      unfold lineL
      rw [if_neg (by simpa using h0)]
    have hdl : s.data.toList.dropLast.length ≤ 1000000 := by rw [List.length_dropLast, ← size_list']; omega
    have HS := Lib.hid (fun wx (h : MaxAt wx) => split_any (⟨s.data.toList.dropLast.toArray⟩ : ByteArray) 10 wx (show (bag s.data.toList.dropLast).size ≤ 1000000 by rw [bag_size]; exact hdl) h)
    have HMX := Lib.hid hM
    clear hT hsf h1 h2 hdl hM h0
    generalize s.data.toList.dropLast = tr at *
    go_enter Tryz.func38, Tryz.ntmps38
    go_wp2_with fail
    refine HC.out.mono ?_
    rintro e w' ⟨rfl, hw'⟩
    obtain rfl := hw'.symm
    go_wp2_with fail
    refine (HS.out w HMX.out).mono ?_
    rintro e w2 ⟨A, n, c, rfl, hst, hb, _⟩
    have HST := Lib.hid hst
    clear hst
    go_wp2_with fail
    go_ret2
    exact ⟨A, n, c, rfl, by rw [HF.out]; exact HST.out, hb⟩
theorem linesL_eq {l : List UInt8} (h : l.isEmpty = true ∨ [10].isSuffixOf l = true) : linesL l = lineL l := by
  unfold linesL lineL
  by_cases h0 : l = []
  · simp [h0]
  · rcases h with h | h
    · exact absurd (List.isEmpty_iff.1 h) h0
    · rw [if_neg h0, if_pos h]
      cases l with
      | nil => exact absurd rfl h0
      | cons a l => rfl
theorem flat_count : ∀ L : List (List UInt8), (∀ x ∈ L, NoRun x) → (L.flatMap wrapL).length ≤ lensL L + L.length
  | [], _ => by simp
  | x :: L, h => by
    have h1 := (wrapL_count x (h x (by simp))).1
    have h2 := flat_count L (fun y hy => h y (by simp [hy]))
    rw [List.flatMap_cons, List.length_append]
    simp only [lensL, List.map_cons, List.sum_cons, List.length_cons] at *
    omega
theorem lineL_sum (l : List UInt8) : lensL (lineL l) + (lineL l).length ≤ l.length + 1 := by
  unfold lineL
  split
  · simp [lensL]
  · have := splitC_sum 10 l.dropLast
    rw [List.length_dropLast] at this
    unfold lensL
    omega
theorem sum_mem {L : List (List UInt8)} {x : List UInt8} (h : x ∈ L) : x.length ≤ lensL L := lensL_mem L x h
theorem flat_take (L : List (List UInt8)) (k : Nat) (hk : k < L.length) : (L.take (k + 1)).flatMap wrapL = (L.take k).flatMap wrapL ++ wrapL L[k] := by
  rw [List.take_succ_eq_append_getElem hk, List.flatMap_append]; simp
theorem take_count (L : List (List UInt8)) (h : ∀ x ∈ L, NoRun x) (k : Nat) : ((L.take k).flatMap wrapL).length ≤ lensL L + L.length := by
  have h1 := flat_count (L.take k) (fun x hx => h x (List.mem_of_mem_take hx))
  have h2 : lensL (L.take k) ≤ lensL L := by
    conv => rhs; rw [← List.take_append_drop k L, lensL_append]
    omega
  have h3 : (L.take k).length ≤ L.length := by rw [List.length_take]; omega
  omega
def PiecesPost (w : World) (L : List UInt8) (e : Ending) (w' : World) : Prop := ∃ v, e = .returned v ∧ OwnStrs w' w.heap.size v (pieceL L) ∧ Below w.heap.size w w'
set_option maxHeartbeats 3200000 in
set_option maxRecDepth 100000 in
theorem pieces_any (s : ByteArray) (w : World) (hs : s.size ≤ 20000) (hM : MaxAt w) (hr : NoRun s.data.toList) (ht : s.data.toList.isEmpty = true ∨ [10].isSuffixOf s.data.toList = true) :
    Calls Tryz.prog 48 #[.string s] w (PiecesPost w s.data.toList) := by
  have HLN := Lib.hid (lineW_any s w (by omega) hM ht)
  have HNR : Hid (∀ x ∈ lineL s.data.toList, NoRun x) := by
    have := linesL_norun hr
    rw [linesL_eq ht] at this
    exact this
  have hsum := lineL_sum s.data.toList
  rw [← size_list'] at hsum
  have HPC : Hid (pieceL s.data.toList = (lineL s.data.toList).flatMap wrapL) := by show _ = _; unfold pieceL; rw [linesL_eq ht]
  clear hM hr ht
  generalize lineL s.data.toList = L at *
  have HSUM := Lib.hid hsum
  clear hsum
  go_enter Tryz.func48, Tryz.ntmps48
  go_wp2_with fail
  refine HLN.out.mono ?_
  rintro e w1 ⟨A, n, c, rfl, hat, hb1⟩
  have HAT := Lib.hid hat
  have HB1 := Lib.hid hb1
  have HN : Hid (n = L.length) := hat.1
  have hn : n ≤ 20001 := by have := HN.out; have := HSUM.out; omega
  clear HLN hat hb1
  go_wp2_with fail
  go_loopg [5, 15] n (fun gk v i wr => ∃ k : Nat, Hid (k + gk = n) ∧ i = .int .i64 (k : Int) ∧ Hid (OwnStrs wr w1.heap.size v ((L.take k).flatMap wrapL)) ∧ Hid (Below w1.heap.size w1 wr))
  case atStart => exact ⟨0, show 0 + n = n by omega, rfl, Owns.nil _ _, Below.refl _ _⟩
  case round =>
    obtain ⟨k, HK, rfl, HO, HB⟩ := hrel
    have hkn : k ≤ n := by have := HK.out; omega
    have hbw := HB1.out.size
    have hzb := HB.out.size
    have HLE : Hid (((L.take k).flatMap wrapL).length ≤ 20001) := by
      have h1 := take_count L HNR.out k
      have := HSUM.out
      show _ ≤ _
      omega
    by_cases hlt : k < n
    · obtain ⟨g, off, rfl, hg, hc⟩ := (ElemsAt.keep HAT.out HB.out).str (by omega)
      have hkl : k < L.length := by rw [← HN.out]; exact hlt
      have hck := hc k hlt
      have hgk : L.getD k [] = L[k] := by rw [List.getD_eq_getElem?_getD, List.getElem?_eq_getElem hkl]; rfl
      rw [hgk] at hck
      have hmem : L[k] ∈ L := List.getElem_mem hkl
      have hml := sum_mem hmem
      have HFT := Lib.hid (flat_take L k hkl)
      have HWR := Lib.hid (fun wx => wrapped_any ⟨L[k].toArray⟩ wx (by show L[k].toArray.size ≤ _; simp; have := HSUM.out; omega) (by simpa using HNR.out _ hmem))
      have HWC : Hid ((wrapL L[k]).length ≤ 20002) := by
        have h1 := (wrapL_count L[k] (HNR.out _ hmem)).1
        have := HSUM.out
        show _ ≤ _
        omega
      clear hc hgk hml hmem
      generalize L[k] = x at *
      go_wp2_with fail
      refine (HWR.out wr).mono ?_
      rintro e w2 ⟨v2, rfl, hown2, hb2⟩
      obtain ⟨A2, c2, rfl, hc2, hat2, -⟩ := hown2.at_ strE_ok
      have HO2 := Lib.hid (HO.out.below_ hb2)
      have HB2 := Lib.hid (HB.out.trans (hb2.mono HB.out.size))
      have hz2 := HB2.out.size
      have HAT2 := Lib.hid hat2
      have hle := HLE.out
      have hwc := HWC.out
      clear hown2 hb2 hat2 HWR hck
      go_wp2_with (at_builtin; refine append_elems strE_ok rfl _ _ rfl w1.heap.size _ ((L.take k).flatMap wrapL) rfl HO2.out A2 (wrapL x).length c2 (wrapL x) rfl HAT2.out (by omega) (by omega) ?_; intro v7 w7 hown7 hgrow7 _)
      have HO7 : Hid (OwnStrs w7 w1.heap.size v7 ((L.take (k + 1)).flatMap wrapL)) := by show Owns _ _ _ _ _; rw [HFT.out]; exact hown7
      have HB7 := Lib.hid (HB2.out.grown hgrow7 (by omega) (fun i hi => (HO2.out.lt i hi).1))
      clear hown7 hgrow7
      go_wp2_with fail
      go_roundg (gk - 1)
      case measure => have := HK.out; omega
      case rel => exact ⟨k + 1, show k + 1 + (gk - 1) = n by have := HK.out; omega, by go_num, HO7.out, HB7.out⟩
    · have hta : L.take k = L := List.take_of_length_le (by have := HN.out; omega)
      rw [hta] at HO
      have HF : Hid (PiecesPost w s.data.toList (.returned u5) wr) := ⟨u5, rfl, by rw [HPC.out]; exact HO.out.base_ hbw, HB1.out.trans (HB.out.mono hbw)⟩
      clear hta
      go_wp2_with fail
      go_ret
      exact HF.out
def WrapsPost (w : World) (s : ByteArray) (e : Ending) (w' : World) : Prop := ∃ v, e = .returned (.tuple #[v, .int .i64 (bodyE s)]) ∧ (bodyE s = 0 → OwnStrs w' w.heap.size v (pieceL s.data.toList)) ∧ Below w.heap.size w w'
theorem body_ok {s : ByteArray} (h : bodyE s = 0) : s.size ≤ 20000 ∧ NoRun s.data.toList ∧ (s.data.toList.isEmpty = true ∨ [10].isSuffixOf s.data.toList = true) := by
  unfold bodyE at h
  split at h
  · cases h
  · split at h
    · rename_i h1 h2
      simp only [textB, visB, Bool.and_eq_true, Bool.or_eq_true] at h2
      exact ⟨by omega, valid_norun _ _ rfl h2.1.2, h2.2⟩
    · cases h
theorem bodyE_cases (s : ByteArray) : bodyE s = 0 ∨ bodyE s = 2 ∨ bodyE s = 3 := by
  unfold bodyE
  split
  · exact .inr (.inl rfl)
  · split
    · exact .inl rfl
    · exact .inr (.inr rfl)
set_option maxHeartbeats 1600000 in
set_option maxRecDepth 100000 in
theorem wrap_any (s : ByteArray) (w : World) (hs : s.size ≤ 1000000) (hM : MaxAt w) (hT : Tabs w) :
    Calls Tryz.prog 14 #[.string s] w (WrapsPost w s) := by
  have HTE := Lib.hid (textError_any s w hs hT)
  have HPC := Lib.hid (fun (h : bodyE s = 0) wx (hb : Below w.heap.size w wx) => pieces_any s wx (body_ok h).1 (hM.below hb) (body_ok h).2.1 (body_ok h).2.2)
  have hc := bodyE_cases s
  have HW : Hid (∀ e w', WrapsPost w s e w' ↔ (∃ v, e = .returned (.tuple #[v, .int .i64 (bodyE s)]) ∧ (bodyE s = 0 → OwnStrs w' w.heap.size v (pieceL s.data.toList)) ∧ Below w.heap.size w w')) := fun _ _ => Iff.rfl
  clear hM hT
  generalize bodyE s = z at *
  go_enter Tryz.func14, Tryz.ntmps14
  go_wp2_with fail
  refine HTE.out.mono ?_
  rintro e w1 ⟨rfl, hb1⟩
  have HB1 := Lib.hid hb1
  clear hb1 HTE
  by_cases hz : z = 0
  · subst hz
    go_wp2_with fail
    refine (HPC.out (by trivial) w1 HB1.out).mono ?_
    rintro e w2 ⟨v, rfl, hown, hb2⟩
    have HF : Hid (WrapsPost w s (.returned (.tuple #[v, .int .i64 0])) w2) := (HW.out _ _).2 ⟨v, rfl, fun _ => hown.base_ HB1.out.size, HB1.out.trans (hb2.mono HB1.out.size)⟩
    clear hown hb2 HPC hc
    go_wp2_with fail
    go_ret2
    exact HF.out
  · have hz2 : (z != 0) = true := by simpa using hz
    have HF : Hid (WrapsPost w s (.returned (.tuple #[.slice none 0 0, .int .i64 z])) w1) := (HW.out _ _).2 ⟨_, rfl, fun h => absurd h hz, HB1.out⟩
    clear HPC hc
    go_wp2_with fail
    go_ret2
    exact HF.out
end Go.Proofs.YtemgaanmpgpdcaaGreatDoor
