
/-
  rowsError and the reference's LoadFault; SameTable.
-/
import Derived.Test.YtbipkkebkddegaaGreatDoorTab
import Derived.Test.YtbipkkebkddegaaGreatDoorText
namespace Go.Proofs.YtbipkkebkddegaaGreatDoor
open Go.RowKit

def FoundAt (p : List UInt8 → Bool) (l : List (List UInt8)) (r : Int) : Prop := (r = -1 ∧ l.any p = false) ∨ ∃ k : Nat, r = (k : Int) ∧ l.any p = true
def PredB (N : Nat) (p : List UInt8 → Bool) (w : World) (l : List (List UInt8)) : Prop := ∀ x ∈ l, ∀ wx, Below w.heap.size w wx → Calls Tryz.prog N #[.string ⟨x.toArray⟩] wx fun e w' => e = .returned (.bool (p x)) ∧ Below wx.heap.size wx w'
theorem any_take_succ (p : List UInt8 → Bool) (l : List (List UInt8)) (k : Nat) (h : k < l.length) : (l.take (k + 1)).any p = ((l.take k).any p || p (l.getD k [])) := by
  rw [List.take_succ_eq_append_getElem h, List.any_append, List.getD_eq_getElem?_getD, List.getElem?_eq_getElem h]
  simp
theorem any_getD (p : List UInt8 → Bool) (l : List (List UInt8)) (k : Nat) (h : k < l.length) (hp : p (l.getD k []) = true) : l.any p = true := by
  rw [List.any_eq_true]
  exact ⟨_, by rw [List.getD_eq_getElem?_getD, List.getElem?_eq_getElem h]; exact List.getElem_mem h, hp⟩
set_option maxHeartbeats 800000 in
set_option maxRecDepth 100000 in
theorem indexPred_any (N : Nat) (p : List UInt8 → Bool) (A : Option Addr) (n c : Nat) (l : List (List UInt8)) (w : World) (h : StrsAt w A n c l) (hn : n ≤ 100000)
    (eg : ∀ args w, (callFunc N args).run Tryz.prog w = .ok (.enter N args) w) (hp : PredB N p w l) :
    Calls Tryz.prog 74 #[.slice A n c, .func (.func N) #[] #[]] w fun e w' => (∃ r, e = .returned (.int .i64 r) ∧ FoundAt p l r) ∧ Below w.heap.size w w' := by
  have HN := Lib.hid h.1
  have HH := Lib.hid h; clear h
  have HP := Lib.hid hp; clear hp
  go_enter Tryz.func74, Tryz.ntmps74
  go_wp2_with fail
  go_loopg [8] n (fun gk v wr => ∃ k : Nat, Hid (k + gk = n) ∧ v = .int .i64 (k : Int) ∧ Hid (Below w.heap.size w wr) ∧ Hid ((l.take k).any p = false))
  case atStart => exact ⟨0, show 0 + n = n by omega, rfl, Below.refl _ _, show _ = _ by simp⟩
  case round =>
    obtain ⟨k, HG, rfl, HW, HB⟩ := hrel
    have hkn : k ≤ n := by have := HG.out; omega
    have HGK := Lib.hid (show k < n → k + 1 + (gk - 1) = n ∧ 0 < gk by have := HG.out; omega)
    by_cases hlt : k < n
    · obtain ⟨g, off, rfl, hg, hc⟩ := (ElemsAt.keep HH.out HW.out).str (by omega)
      have hck := hc k hlt
      have hkl : k < l.length := by have := HN.out; omega
      have HC := Lib.hid (HP.out (l.getD k []) (by rw [List.getD_eq_getElem?_getD, List.getElem?_eq_getElem hkl]; exact List.getElem_mem hkl) wr HW.out)
      have HT := Lib.hid (any_take_succ p l k hkl)
      have HAY := Lib.hid (any_getD p l k hkl)
      obtain ⟨bb, hbb⟩ : ∃ bb, p (l.getD k []) = bb := ⟨_, rfl⟩
      rw [hbb] at HC HT HAY
      obtain ⟨x, hx⟩ : ∃ x, x = l.getD k [] := ⟨_, rfl⟩
      rw [← hx] at hck HC
      clear hc hkl hbb hx
      go_wp2_with fail
      refine HC.out.mono ?_
      rintro e w' ⟨rfl, hw⟩
      have HW2 := Lib.hid (HW.out.trans (hw.mono HW.out.size))
      clear hw HC hck
      cases bb
      · go_wp2_with fail
        go_roundg (gk - 1)
        case measure => exact Nat.sub_lt (HGK.out hlt).2 Nat.one_pos
        case rel => exact ⟨k + 1, (HGK.out hlt).1, by go_num, HW2.out, show _ = _ by rw [HT.out, HB.out]; rfl⟩
      · go_wp2_with fail
        go_ret
        exact ⟨⟨_, rfl, .inr ⟨k, rfl, by first | exact HAY.out rfl | exact HAY.out trivial⟩⟩, HW2.out⟩
    · have hnk : ¬ (k : Int) < (n : Int) := by omega
      obtain rfl : k = n := by omega
      go_wp2_with fail
      go_ret
      exact ⟨⟨_, rfl, .inl ⟨rfl, by have := HB.out; rwa [List.take_of_length_le (by rw [← HN.out]; exact Nat.le_refl _)] at this⟩⟩, HW.out⟩
theorem containsPred_any (N : Nat) (p : List UInt8 → Bool) (A : Option Addr) (n c : Nat) (l : List (List UInt8)) (w : World) (h : StrsAt w A n c l) (hn : n ≤ 100000)
    (eg : ∀ args w, (callFunc N args).run Tryz.prog w = .ok (.enter N args) w) (hp : PredB N p w l) :
    Calls Tryz.prog 39 #[.slice A n c, .func (.func N) #[] #[]] w fun e w' => e = .returned (.bool (l.any p)) ∧ Below w.heap.size w w' := by
  have HI := Lib.hid (indexPred_any N p A n c l w h hn eg hp)
  clear h hp eg
  go_enter Tryz.func39, Tryz.ntmps39
  go_wp2_with fail
  refine HI.out.mono ?_
  rintro e w' ⟨⟨r, rfl, hf⟩, hb⟩
  rcases hf with ⟨rfl, hf⟩ | ⟨k, rfl, hf⟩
  · have HF := Lib.hid hf
    clear hf
    go_wp2_with fail
    go_ret
    exact ⟨by rw [HF.out]; first | rfl | (simp; done) | trivial, hb⟩
  · have HF := Lib.hid hf
    have h0 : (0 : Int) ≤ (k : Int) := by omega
    clear hf
    go_wp2_with fail
    go_ret
    exact ⟨by rw [HF.out]; first | rfl | (simp; done) | trivial, hb⟩
/-- What a row is to be. -/
def rowB (n : Nat) (r : List Str) : Bool := inB (r.length : Int) 1 30 && (decide (r.length = n) && !r.any (fun s => !visB true s))
def rowsE (T : List (List Str)) : Int := if T.all (rowB (T.headD []).length) then 0 else 3
theorem visible_not (w : World) (l : List Str) (hs : ∀ x ∈ l, x.length ≤ 1000000) (hT : Tabs w) : PredB 67 (fun s => !visB true s) w l := by
  intro x hx wx hb
  have hv := visible_any ⟨x.toArray⟩ true wx (by have := hs x hx; simpa [ByteArray.size] using this) (hT.below hb)
  rw [show (⟨x.toArray⟩ : ByteArray).data.toList = x by simp] at hv
  have HV := Lib.hid hv
  clear hv
  go_enter Tryz.func67, Tryz.ntmps67
  go_wp2_with fail
  refine HV.out.mono ?_
  rintro e w' ⟨rfl, hb2⟩
  go_wp2_with fail
  go_ret
  exact ⟨rfl, hb2⟩
theorem enters_re : ∀ args w, (callFunc 67 args).run Tryz.prog w = .ok (.enter 67 args) w := enters_of Tryz.func67 (by kernel_rfl) rfl
theorem well_not (w : World) (l : List Str) (hs : ∀ x ∈ l, x.length ≤ 1000000) (hT : Tabs w) : PredB 40 (fun s => !visB true s) w l := by
  intro x hx wx hb
  have hv := wellFormed_any ⟨x.toArray⟩ true wx (by have := hs x hx; simpa [ByteArray.size] using this) (hT.below hb)
  rw [show (⟨x.toArray⟩ : ByteArray).data.toList = x by simp] at hv
  have HV := Lib.hid hv
  clear hv
  go_enter Tryz.func40, Tryz.ntmps40
  go_wp2_with fail
  refine HV.out.mono ?_
  rintro e w' ⟨rfl, hb2⟩
  go_wp2_with fail
  go_ret
  exact ⟨rfl, hb2⟩
theorem enters_lf : ∀ args w, (callFunc 40 args).run Tryz.prog w = .ok (.enter 40 args) w := enters_of Tryz.func40 (by kernel_rfl) rfl
theorem all_take_succ {α : Type} (p : α → Bool) (l : List α) (k : Nat) (h : k < l.length) : (l.take (k + 1)).all p = ((l.take k).all p && p l[k]) := by
  rw [List.take_succ_eq_append_getElem h, List.all_append]; simp
/-- Tables of a size that can be walked. -/
def SmallT (T : List (List Str)) : Prop := T.length ≤ 1000 ∧ ∀ r ∈ T, r.length ≤ 1000 ∧ ∀ s ∈ r, s.length ≤ 1000
def ErrPost (w : World) (z : Int) (e : Ending) (w' : World) : Prop := e = .returned (.int .i64 z) ∧ Below w.heap.size w w'
set_option maxHeartbeats 1600000 in
set_option maxRecDepth 100000 in
theorem rowsError_any (A : Option Addr) (n c : Nat) (T : List (List Str)) (w : World) (h : TabAt w A n c T) (hs : SmallT T) (hT : Tabs w) :
    Calls Tryz.prog 31 #[.slice A n c] w (ErrPost w (rowsE T)) := by
  have HN := Lib.hid h.len
  have hn : n ≤ 1000 := by have := HN.out; have := hs.1; omega
  have hb1 : ¬ (2001 : Int) < (n : Int) := by omega
  have HH := Lib.hid h
  have HS := Lib.hid hs
  have HTb := Lib.hid hT
  clear h hs hT
  go_enter Tryz.func31, Tryz.ntmps31
  go_wp2_with fail
  go_loopg [10] n (fun gk v wr => ∃ k : Nat, Hid (k + gk = n) ∧ v = .int .i64 (k : Int) ∧ Hid (Below w.heap.size w wr) ∧ Hid ((T.take k).all (rowB (T.headD []).length) = true))
  case atStart => exact ⟨0, show 0 + n = n by omega, rfl, Below.refl _ _, show _ = _ by simp⟩
  case round =>
    obtain ⟨k, HG, rfl, HW, HB⟩ := hrel
    have hkn : k ≤ n := by have := HG.out; omega
    have HGK := Lib.hid (show k < n → k + 1 + (gk - 1) = n ∧ 0 < gk by have := HG.out; omega)
    by_cases hlt : k < n
    · have hTr := TabAt.keep HH.out HW.out
      obtain ⟨g, off, rfl, hg, hc⟩ := hTr.row (by omega)
      obtain ⟨R, rn, rc, hck, hRow⟩ := hc k hlt
      obtain ⟨R0, rn0, rc0, hc0, hRow0⟩ := hc 0 (by omega)
      have hkl : k < T.length := by have := HN.out; omega
      have hgk : T.getD k [] = T[k] := by rw [List.getD_eq_getElem?_getD, List.getElem?_eq_getElem hkl]; rfl
      have hg0 : T.getD 0 [] = T.headD [] := by cases T <;> rfl
      rw [hgk] at hRow
      rw [hg0] at hRow0
      have hrn := hRow.1
      have hrn0 := hRow0.1
      have hsr := HS.out.2 T[k] (List.getElem_mem hkl)
      have HTS := Lib.hid (all_take_succ (rowB (T.headD []).length) T k hkl)
      have HNO : Hid (rowB (T.headD []).length T[k] = false → rowsE T = 3) := fun hf => by
        unfold rowsE
        rw [if_neg]
        intro h
        rw [List.all_eq_true] at h
        rw [h T[k] (List.getElem_mem hkl)] at hf
        cases hf
      have HRB : Hid (rowB (T.headD []).length T[k] = (inB (rn : Int) 1 30 && (decide ((rn : Int) = (rn0 : Int)) && !T[k].any (fun s => !visB true s)))) := by
        show _ = _
        unfold rowB
        rw [← hrn, ← hrn0]
        congr 2
        exact decide_eq_decide.2 (by omega)
      have HCP := Lib.hid (fun wx (hb : Below wr.heap.size wr wx) => containsPred_any _ _ R rn rc T[k] wx (hRow.keep hb) (by omega) enters_re (visible_not wx T[k] (fun x hx => by have := hsr.2 x hx; omega) ((HTb.out.below HW.out).below hb)))
      have HIN := Lib.hid (in_any (rn : Int) 1 30 wr)
      rw [Nat.add_zero] at hc0
      clear hTr hc hRow hRow0 hgk hg0 hsr hrn hrn0
      go_wp2_with fail
      refine HIN.out.mono ?_
      rintro e w' ⟨rfl, hw⟩
      obtain rfl := hw.symm
      clear HIN
      cases hbi : inB (rn : Int) 1 30 with
      | false =>
        have HF : Hid (rowsE T = 3) := HNO.out (by rw [HRB.out, hbi]; rfl)
        clear hbi HRB HNO HTS
        go_wp2_with fail
        go_ret
        exact ⟨by (rw [HF.out]) <;> rfl, HW.out⟩
      | true =>
        by_cases hd : rn = rn0
        · subst hd
          have hrb := HRB.out
          rw [hbi, decide_eq_true rfl, Bool.true_and, Bool.true_and] at hrb
          have HRB2 := Lib.hid hrb
          clear hrb HRB hbi
          go_wp2_with fail
          refine (HCP.out _ (Below.refl _ _)).mono ?_
          rintro e w2 ⟨rfl, hb2⟩
          have HW2 := Lib.hid (HW.out.trans (hb2.mono HW.out.size))
          clear hb2 HCP
          cases hany : T[k].any (fun s => !visB true s) with
          | true =>
            have HF : Hid (rowsE T = 3) := HNO.out (by rw [HRB2.out, hany]; rfl)
            clear hany HRB2 HNO HTS
            go_wp2_with fail
            go_ret
            exact ⟨by (rw [HF.out]) <;> rfl, HW2.out⟩
          | false =>
            have HN2 : Hid ((T.take (k + 1)).all (rowB (T.headD []).length) = true) := by show _ = _; rw [HTS.out, HB.out, HRB2.out, hany]; rfl
            clear hany HRB2 HNO HTS
            go_wp2_with fail
            go_roundg (gk - 1)
            case measure => exact Nat.sub_lt (HGK.out hlt).2 Nat.one_pos
            case rel => exact ⟨k + 1, (HGK.out hlt).1, by go_num, HW2.out, HN2.out⟩
        · have hne : ¬ (rn : Int) = (rn0 : Int) := by omega
          have hne2 : ((rn : Int) != (rn0 : Int)) = true := by simp; omega
          have HF : Hid (rowsE T = 3) := HNO.out (by rw [HRB.out, hbi, decide_eq_false hne]; rfl)
          clear hbi HRB HNO HTS hd
          go_wp2_with fail
          go_ret
          exact ⟨by (rw [HF.out]) <;> rfl, HW.out⟩
    · have hnk : ¬ (k : Int) < (n : Int) := by omega
      obtain rfl : k = n := by omega
      have HF : Hid (rowsE T = 0) := by
        have := HB.out
        rw [List.take_of_length_le (by rw [← HN.out]; exact Nat.le_refl _)] at this
        show _ = _
        unfold rowsE
        rw [if_pos this]
      go_wp2_with fail
      go_ret
      exact ⟨by (rw [HF.out]) <;> rfl, HW.out⟩
set_option maxHeartbeats 1600000 in
set_option maxRecDepth 100000 in
theorem loadFault_any (A : Option Addr) (n c : Nat) (T : List (List Str)) (w : World) (h : TabAt w A n c T) (hs : SmallT T) (hT : Tabs w) :
    Calls Tryz.prog 9 #[.slice A n c] w (ErrPost w (rowsE T)) := by
  have HN := Lib.hid h.len
  have hn : n ≤ 1000 := by have := HN.out; have := hs.1; omega
  have hb1 : ¬ (2001 : Int) < (n : Int) := by omega
  have HH := Lib.hid h
  have HS := Lib.hid hs
  have HTb := Lib.hid hT
  clear h hs hT
  go_enter Tryz.func9, Tryz.ntmps9
  go_wp2_with fail
  go_loopg [10] n (fun gk v wr => ∃ k : Nat, Hid (k + gk = n) ∧ v = .int .i64 (k : Int) ∧ Hid (Below w.heap.size w wr) ∧ Hid ((T.take k).all (rowB (T.headD []).length) = true))
  case atStart => exact ⟨0, show 0 + n = n by omega, rfl, Below.refl _ _, show _ = _ by simp⟩
  case round =>
    obtain ⟨k, HG, rfl, HW, HB⟩ := hrel
    have hkn : k ≤ n := by have := HG.out; omega
    have HGK := Lib.hid (show k < n → k + 1 + (gk - 1) = n ∧ 0 < gk by have := HG.out; omega)
    by_cases hlt : k < n
    · have hTr := TabAt.keep HH.out HW.out
      obtain ⟨g, off, rfl, hg, hc⟩ := hTr.row (by omega)
      obtain ⟨R, rn, rc, hck, hRow⟩ := hc k hlt
      obtain ⟨R0, rn0, rc0, hc0, hRow0⟩ := hc 0 (by omega)
      have hkl : k < T.length := by have := HN.out; omega
      have hgk : T.getD k [] = T[k] := by rw [List.getD_eq_getElem?_getD, List.getElem?_eq_getElem hkl]; rfl
      have hg0 : T.getD 0 [] = T.headD [] := by cases T <;> rfl
      rw [hgk] at hRow
      rw [hg0] at hRow0
      have hrn := hRow.1
      have hrn0 := hRow0.1
      have hsr := HS.out.2 T[k] (List.getElem_mem hkl)
      have HTS := Lib.hid (all_take_succ (rowB (T.headD []).length) T k hkl)
      have HNO : Hid (rowB (T.headD []).length T[k] = false → rowsE T = 3) := fun hf => by
        unfold rowsE
        rw [if_neg]
        intro h
        rw [List.all_eq_true] at h
        rw [h T[k] (List.getElem_mem hkl)] at hf
        cases hf
      have HRB : Hid (rowB (T.headD []).length T[k] = (inB (rn : Int) 1 30 && (decide ((rn : Int) = (rn0 : Int)) && !T[k].any (fun s => !visB true s)))) := by
        show _ = _
        unfold rowB
        rw [← hrn, ← hrn0]
        congr 2
        exact decide_eq_decide.2 (by omega)
      have HCP := Lib.hid (fun wx (hb : Below wr.heap.size wr wx) => containsPred_any _ _ R rn rc T[k] wx (hRow.keep hb) (by omega) enters_lf (well_not wx T[k] (fun x hx => by have := hsr.2 x hx; omega) ((HTb.out.below HW.out).below hb)))
      rw [Nat.add_zero] at hc0
      clear hTr hc hRow hRow0 hgk hg0 hsr hrn hrn0
      cases hbi : inB (rn : Int) 1 30 with
      | false =>
        have hout : rn = 0 ∨ 30 < rn := by simp only [inB, decide_eq_false_iff_not] at hbi; omega
        have HF : Hid (rowsE T = 3) := HNO.out (by rw [HRB.out, hbi]; rfl)
        clear hbi HRB HNO HTS
        rcases hout with rfl | hgt
        · go_wp2_with fail
          go_ret
          exact ⟨by (rw [HF.out]) <;> rfl, HW.out⟩
        · have h1 : ¬ (rn : Int) = 0 := by omega
          have h2 : (30 : Int) < (rn : Int) := by omega
          have h3 : ((rn : Int) == 0) = false := by simp; omega
          go_wp2_with fail
          go_ret
          exact ⟨by (rw [HF.out]) <;> rfl, HW.out⟩
      | true =>
        have hin : 1 ≤ rn ∧ rn ≤ 30 := by simp only [inB, decide_eq_true_eq] at hbi; omega
        have h1 : ¬ (rn : Int) = 0 := by omega
        have h2 : ¬ (30 : Int) < (rn : Int) := by omega
        have h3 : ((rn : Int) == 0) = false := by simp; omega
        clear hin
        by_cases hd : rn = rn0
        · subst hd
          have hrb := HRB.out
          rw [hbi, decide_eq_true rfl, Bool.true_and, Bool.true_and] at hrb
          have HRB2 := Lib.hid hrb
          clear hrb HRB hbi
          go_wp2_with fail
          refine (HCP.out _ (Below.refl _ _)).mono ?_
          rintro e w2 ⟨rfl, hb2⟩
          have HW2 := Lib.hid (HW.out.trans (hb2.mono HW.out.size))
          clear hb2 HCP
          cases hany : T[k].any (fun s => !visB true s) with
          | true =>
            have HF : Hid (rowsE T = 3) := HNO.out (by rw [HRB2.out, hany]; rfl)
            clear hany HRB2 HNO HTS
            go_wp2_with fail
            go_ret
            exact ⟨by (rw [HF.out]) <;> rfl, HW2.out⟩
          | false =>
            have HN2 : Hid ((T.take (k + 1)).all (rowB (T.headD []).length) = true) := by show _ = _; rw [HTS.out, HB.out, HRB2.out, hany]; rfl
            clear hany HRB2 HNO HTS
            go_wp2_with fail
            go_roundg (gk - 1)
            case measure => exact Nat.sub_lt (HGK.out hlt).2 Nat.one_pos
            case rel => exact ⟨k + 1, (HGK.out hlt).1, by go_num, HW2.out, HN2.out⟩
        · have hne : ¬ (rn : Int) = (rn0 : Int) := by omega
          have hne2 : ((rn : Int) != (rn0 : Int)) = true := by simp; omega
          have HF : Hid (rowsE T = 3) := HNO.out (by rw [HRB.out, hbi, decide_eq_false hne]; rfl)
          clear hbi HRB HNO HTS hd
          go_wp2_with fail
          go_ret
          exact ⟨by (rw [HF.out]) <;> rfl, HW.out⟩
    · have hnk : ¬ (k : Int) < (n : Int) := by omega
      obtain rfl : k = n := by omega
      have HF : Hid (rowsE T = 0) := by
        have := HB.out
        rw [List.take_of_length_le (by rw [← HN.out]; exact Nat.le_refl _)] at this
        show _ = _
        unfold rowsE
        rw [if_pos this]
      go_wp2_with fail
      go_ret
      exact ⟨by (rw [HF.out]) <;> rfl, HW.out⟩
end Go.Proofs.YtbipkkebkddegaaGreatDoor
