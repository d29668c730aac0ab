
/-
  What made, KeyOf, Key and BodiesFault return.
-/
import Derived.Test.YtabdjkcediolcaaGreatDoorBodies
import Derived.Shelf.Strings.SlTrimAscii
import Derived.Shelf.SlicesQ.IndexFunc
namespace Go.Proofs.YtabdjkcediolcaaGreatDoor
open Go.RowKit Go.Shelf Go.Lib

theorem trim_any (s cs : ByteArray) (w : World) (hs : s.size ≤ 1000000) (hcs : cs.size ≤ 1000) (ha : cs.data.toList.all (fun b => decide (b.toNat < 128)) = true) :
    Calls Tryz.prog 55 #[.string s, .string cs] w fun e w' => e = .returned (.string ⟨(Lib.trimS s.data.toList cs.data.toList).toArray⟩) ∧ Below w.heap.size w w' :=
  Any.strings_Trim_laid Tryz.laysTrim (by kernel_rfl) s cs w (by omega) (by omega) (ascii_of_all ha)

theorem toList_beq (a b : ByteArray) : (a.toList == b.toList) = decide (a = b) := by
  rw [Lib.toList_data, Lib.toList_data]
  by_cases h : a = b
  · subst h; simp
  · have h2 : ¬ a.data.toList = b.data.toList := fun e => h (ByteArray.ext (Array.toList_inj.1 e))
    rw [decide_eq_false h]
    exact beq_eq_false_iff_ne.2 h2
theorem empty_list (s : ByteArray) (h : s.data.toList = []) : s.toList = [] := by rw [Lib.toList_data]; exact h
set_option maxHeartbeats 800000 in
theorem made_any (s cs : ByteArray) (w : World) (hs : s.size ≤ 1000000) (hcs : cs.size ≤ 1000) (ha : cs.data.toList.all (fun b => decide (b.toNat < 128)) = true) :
    Calls Tryz.prog 60 #[.string s, .string cs] w fun e w' => e = .returned (.bool (s.data.toList.all (cs.data.toList.contains ·))) ∧ Below w.heap.size w w' := by
  have hT := trim_any s cs w hs hcs ha
  rw [← trimS_nil]
  generalize Lib.trimS s.data.toList cs.data.toList = L at *
  cases L with
  | nil =>
    have he : (⟨([] : List UInt8).toArray⟩ : ByteArray).toList = [] := by rw [Lib.toList_data]
    go_enter Tryz.func60, Tryz.ntmps60
    go_wp2_with fail
    refine hT.mono ?_
    rintro e w' ⟨rfl, hb⟩
    go_wp2_with fail
    go_ret
    exact ⟨ret_bool (by simp), hb⟩
  | cons x r =>
    have he : (⟨(x :: r).toArray⟩ : ByteArray).toList = x :: r := by rw [Lib.toList_data]
    go_enter Tryz.func60, Tryz.ntmps60
    go_wp2_with fail
    refine hT.mono ?_
    rintro e w' ⟨rfl, hb⟩
    go_wp2_with fail
    go_ret
    exact ⟨ret_bool (by simp), hb⟩

theorem keySet_b : (⟨#[97, 98, 99, 100, 101, 102, 103, 104, 105, 106, 107, 108, 109, 110, 111, 112, 113, 114, 115, 116, 117, 118, 119, 120, 121, 122, 48, 49, 50, 51, 52, 53, 54, 55, 56, 57, 45, 95]⟩ : ByteArray).data.toList = keySet := rfl
theorem smallSet_b : (⟨#[97, 98, 99, 100, 101, 102, 103, 104, 105, 106, 107, 108, 109, 110, 111, 112, 113, 114, 115, 116, 117, 118, 119, 120, 121, 122]⟩ : ByteArray).data.toList = smallSet := rfl
theorem extract1 (s : ByteArray) : (s.extract 0 1).data.toList = s.data.toList.take 1 := by
  rw [ByteArray.data_extract, Array.toList_extract]
  simp [List.extract]

set_option maxHeartbeats 1600000 in
set_option maxRecDepth 100000 in
theorem keyOf_any (s : ByteArray) (w : World) (hs : s.size ≤ 1000000) :
    Calls Tryz.prog 34 #[.string s] w fun e w' => e = .returned (.bool (keyL s.data.toList)) ∧ Below w.heap.size w w' := by
  have hlen : s.data.toList.length = s.size := by simp
  have hM1 := fun w => made_any s ⟨#[97, 98, 99, 100, 101, 102, 103, 104, 105, 106, 107, 108, 109, 110, 111, 112, 113, 114, 115, 116, 117, 118, 119, 120, 121, 122, 48, 49, 50, 51, 52, 53, 54, 55, 56, 57, 45, 95]⟩ w hs (by decide) (by decide)
  have hM2 := fun w => made_any (s.extract 0 1) ⟨#[97, 98, 99, 100, 101, 102, 103, 104, 105, 106, 107, 108, 109, 110, 111, 112, 113, 114, 115, 116, 117, 118, 119, 120, 121, 122]⟩ w (by simp only [ByteArray.size_extract]; omega) (by decide) (by decide)
  rw [keySet_b, show (fun x => keySet.contains x) = keyC from funext keySet_has] at hM1
  rw [smallSet_b, show (fun x => smallSet.contains x) = smallU from funext smallSet_has, extract1] at hM2
  have HK : Hid (keyL s.data.toList = (decide (1 ≤ s.size) && decide (s.size ≤ 40) && s.data.toList.all keyC && (s.data.toList.take 1).all smallU)) := by show _ = _; unfold keyL; rw [hlen]
  clear hlen
  generalize s.data.toList.all keyC = k1 at *
  generalize (s.data.toList.take 1).all smallU = k2 at *
  have H1 := Lib.hid hM1; clear hM1
  have H2 := Lib.hid hM2; clear hM2
  by_cases h1 : 1 ≤ s.size
  · have s1 := slice_to s 1 h1
    have h1i : (1 : Int) ≤ (s.size : Int) := by omega
    by_cases h2 : s.size ≤ 40
    · have h2i : (s.size : Int) ≤ 40 := by omega
      cases k1 with
      | false =>
        go_enter Tryz.func34, Tryz.ntmps34
        go_wp2_with fail
        refine (H1.out _).mono ?_
        rintro e w' ⟨rfl, hb⟩
        go_wp2_with fail
        go_ret
        exact ⟨ret_bool (by rw [HK.out]; simp), hb⟩
      | true =>
        go_enter Tryz.func34, Tryz.ntmps34
        go_wp2_with fail
        refine (H1.out _).mono ?_
        rintro e w1 ⟨rfl, hb⟩
        go_wp2_with fail
        refine (H2.out _).mono ?_
        rintro e w2 ⟨rfl, hb2⟩
        go_wp2_with fail
        go_ret
        exact ⟨ret_bool (by rw [HK.out]; simp [h1, h2]), below_trans' hb hb2⟩
    · have h2i : ¬ (s.size : Int) ≤ 40 := by omega
      go_enter Tryz.func34, Tryz.ntmps34
      go_wp2_with fail
      go_ret
      exact ⟨ret_bool (by rw [HK.out]; simp [h2]), Below.refl _ _⟩
  · have h1i : ¬ (1 : Int) ≤ (s.size : Int) := by omega
    go_enter Tryz.func34, Tryz.ntmps34
    go_wp2_with fail
    go_ret
    exact ⟨ret_bool (by rw [HK.out]; simp [h1]), Below.refl _ _⟩

set_option maxHeartbeats 400000 in
theorem pred_id (b : Body2) (B : Nat) (w : World) (hB : B < w.heap.size) (hcell : w.cell? ⟨B, 0, none⟩ = some (.string b.1)) :
    PredBelow Tryz.prog 35 #[.pointer (some ⟨B, 0, none⟩)] (fun x : Body2 => .agg (BodyE.enc x).toArray) (fun x => decide (x.1 = b.1)) w := fun W x hb => by
  have hc : W.cell? ⟨B, 0, none⟩ = some (.string b.1) := (hb.cell (p := ⟨B, 0, none⟩) hB).trans hcell
  have hBW : B < W.heap.size := Nat.lt_of_lt_of_le hB hb.size
  have hne : B ≠ W.heap.size := by omega
  show Calls Tryz.prog 35 #[.agg #[.string x.1, .string x.2], .pointer (some ⟨B, 0, none⟩)] W _
  obtain ⟨x1, x2⟩ := x
  obtain ⟨b1, b2⟩ := b
  simp only at *
  go_enter Tryz.func35, Tryz.ntmps35
  go_wp2_with fail
  go_ret
  refine ⟨ret_bool ?_, hb.alloc hb.size _⟩
  exact toList_beq _ _

theorem ElemsAt.cellsQ {α : Type} [Inhabited α] {E : Elem α} {w : World} {g off n c : Nat} {l : List α} (h : ElemsAt E w (some ⟨g, off, none⟩) n c l) : ∀ j, j < l.length → ∀ i v, (E.enc l[j]!)[i]? = some v → w.cell? ⟨g, off + j * E.size + i, none⟩ = some v := by
  intro j hj i v hv
  have hn := h.1
  obtain ⟨g', off', hA, _, hc⟩ := h.2.2.2 (by omega)
  cases hA
  have e : l[j]? = some l[j]! := by simp [hj]
  exact hc j _ i v e hv

set_option maxHeartbeats 400000 in
theorem containsId_any (A : Option Addr) (n c : Nat) (l : List Body2) (b : Body2) (B : Nat) (w : World) (h : ElemsAt BodyE w A n c l) (hn : n ≤ 100000) (hB : B < w.heap.size) (hcell : w.cell? ⟨B, 0, none⟩ = some (.string b.1)) :
    Calls Tryz.prog 6 #[.slice A n c, .func (.func 35) #[] #[.pointer (some ⟨B, 0, none⟩)]] w fun e w' => e = .returned (.bool (l.any fun x => decide (x.1 = b.1))) ∧ Below w.heap.size w w' := by
  rcases Nat.eq_zero_or_pos n with h0 | h0
  · subst h0
    have hl : l = [] := List.eq_nil_of_length_eq_zero h.1.symm
    subst hl
    clear h hcell hB hn
    go_enter Tryz.func6, Tryz.ntmps6
    go_wp2
    refine wp_loop_rounds 1 ?_
    rw [rounds_succ]
    go_wp2
    go_ret
    exact ⟨ret_bool rfl, Below.refl _ _⟩
  · obtain ⟨g1, off, rfl, hg1, hc1⟩ := h.2.2.2 h0
    have hl := h.1
    have eg : ∀ args w, (callFunc 35 args).run Tryz.prog w = .ok (.enter 35 args) w := enters_of Tryz.func35 (by kernel_rfl) rfl
    refine (AnyQ.slices_ContainsFunc Tryz.cfQ6 2 Tryz.isAgg30 Tryz.sizeOf30 BodyE.enc (fun _ => rfl) _ 35 _ eg g1 off n c l w (pred_id b B w hB hcell) (by omega) (by omega) hg1 h.cellsQ).mono ?_
    rintro e w' ⟨rfl, hb⟩
    exact ⟨ret_bool (by rw [List.take_of_length_le (by omega)]), hb⟩

theorem elem_bodies : Tryz.prog.elem 26 = 30 := by kernel_rfl
theorem und_bodies : Tryz.prog.underlying 26 = some (.slice (Tryz.prog.elem 26)) := by rw [elem_bodies]; exact Tryz.underlying26
theorem slB_to (B : Option Addr) (m d j : Nat) (hj : j ≤ d) (V : Value) (h : sliced B 0 j d BodyE.size = V) (wx : World) : (Instr.slice 26 (.slice B m d) none (some (.int .i64 (j : Int))) none).run Tryz.prog wx = .ok V wx := by
  rw [run_slice_h (P := Tryz.prog) (w := wx) (t := 26) (a := B) (len := m) (cap := d) (ht := und_bodies) (kh := .i64) (h := (j : Int)) (h0 := by omega) (h2 := by omega), elem_bodies, Tryz.sizeOf30]
  show Result.ok (sliced B 0 ((j : Int)).toNat d 2) wx = _
  rw [Int.toNat_natCast, ← h]; rfl

def FaultPost (w : World) (l : List Body2) (e : Ending) (w' : World) : Prop := e = .returned (.int .i64 (faultL l)) ∧ Below w.heap.size w w'
set_option maxHeartbeats 1600000 in
set_option maxRecDepth 100000 in
theorem bodiesFault_any (A : Option Addr) (n c : Nat) (l : List Body2) (w : World) (h : ElemsAt BodyE w A n c l) (hn : n ≤ 1000) (hs : ∀ x ∈ l, TextOk x) :
    Calls Tryz.prog 10 #[.slice A n c] w (FaultPost w l) := by
  have HN := Lib.hid h.1
  have HS := Lib.hid hs; clear hs
  have HH := Lib.hid h
  have hnc := h.2.1
  by_cases hbig : 300 < n
  · have HF : Hid (faultL l = 2) := by show _ = _; unfold faultL; rw [if_pos (by rw [← HN.out]; exact hbig)]
    have hbi : (300 : Int) < (n : Int) := by omega
    clear h
    go_enter Tryz.func10, Tryz.ntmps10
    go_wp2_with fail
    go_ret
    exact ⟨ret_int (by rw [HF.out]), Below.refl _ _⟩
  · have HF : Hid (faultL l = if faultR [] l ≠ 0 then faultR [] l else if 500000 < totB l then 2 else 0) := by show _ = _; unfold faultL; rw [if_neg (by rw [← HN.out]; exact hbig)]
    have hbi : ¬ (300 : Int) < (n : Int) := by omega
    clear h
    go_enter Tryz.func10, Tryz.ntmps10
    go_wp2_with fail
    go_loopg [3, 11] n (fun gk v3 i wr => ∃ k : Nat, Hid (k + gk = n) ∧ i = .int .i64 k ∧ v3 = .int .i64 (totB (l.take k) : Nat) ∧ Hid (faultR (l.take k) (l.drop k) = faultR [] l) ∧ Below w.heap.size w wr)
    case atStart => exact ⟨0, show 0 + n = n by omega, rfl, rfl, show _ = _ from rfl, Below.refl _ _⟩
    case round =>
      obtain ⟨k, HK, rfl, rfl, HR, hb⟩ := hrel
      have hkn : k ≤ n := by have := HK.out; omega
      have hzb := hb.size
      have htot : totB (l.take k) ≤ 20001 * 1000 := by
        have h1 := totB_le (l.take k) 20001 (fun x hx => (HS.out x (List.mem_of_mem_take hx)).1)
        rw [List.length_take] at h1
        omega
      by_cases hlt : k < n
      · obtain ⟨x, hx⟩ : ∃ x, l[k]? = some x := ⟨_, List.getElem?_eq_getElem (by have := HN.out; omega)⟩
        have HST := Lib.hid (faultR_at l k x hx)
        obtain ⟨gA, oA, hA, hgA, hcA⟩ := HH.out.2.2.2 (by omega)
        subst hA
        have c0 := (hb.cell (p := ⟨gA, oA + k * BodyE.size + 0, none⟩) hgA).trans (hcA k x 0 _ hx rfl)
        have c1 := (hb.cell (p := ⟨gA, oA + k * BodyE.size + 1, none⟩) hgA).trans (hcA k x 1 _ hx rfl)
        have hsz : BodyE.size = 2 := rfl
        rw [hsz] at c0 c1
        rw [Nat.add_zero] at c0
        have hxs := HS.out x (List.mem_of_getElem? hx)
        obtain ⟨A2, hsl, hat⟩ := HH.out.piece 0 k (by omega) (by omega)
        have s1 := slB_to (some ⟨gA, oA, none⟩) n c k (by omega) _ hsl
        rw [Nat.sub_zero, Nat.sub_zero, List.drop_zero] at hat
        simp only [Nat.sub_zero] at s1
        have HTOT : Hid (totB (l.take (k + 1)) = totB (l.take k) + x.2.size) := by
          show _ = _
          obtain ⟨h1, h2⟩ := List.getElem?_eq_some_iff.1 hx
          rw [List.take_succ_eq_append_getElem h1, totB_append, h2]
          simp [totB]
        generalize totB (l.take k) = tk at *
        have HAT := Lib.hid hat; clear hat
        clear hsl hcA hsz hx
        obtain ⟨x1, x2⟩ := x
        simp only at *
        have hx10 : x1.size ≤ 1000000 := by have := hxs.2; simp only at this; omega
        have hx20 : x2.size ≤ 20001 := hxs.1
        clear hxs
        go_wp2_with fail
        have hrow : (wr.alloc (.cells #[.string x1, .string x2] 30)).heap[wr.heap.size]? = some (.cells #[.string x1, .string x2] 30 (0, 0)) := heap_alloc_new wr _
        have hba : Below w.heap.size w (wr.alloc (.cells #[.string x1, .string x2] 30)) := hb.alloc hb.size _
        refine (keyOf_any x1 _ hx10).mono ?_
        rintro e w2 ⟨rfl, hb2⟩
        have hrow2 := (hb2.block _ (Array.getElem?_eq_some_iff.1 hrow).1).trans hrow
        have hb2' := below_trans' hba hb2
        generalize wr.heap.size = P at *
        clear hrow hba hb2 c0 c1
        obtain ⟨d0, d1, d2, d3⟩ := two_cell hrow2
        have HROW2 := Lib.hid hrow2
        have hPlt := (Array.getElem?_eq_some_iff.1 hrow2).1
        clear hrow2
        cases hkey : keyL x1.data.toList with
        | false =>
          have HE : Hid (faultL l = 5) := by show _ = _; rw [HF.out, ← HR.out, HST.out, if_pos hkey]; rfl
          go_wp2_with fail
          go_ret
          exact ⟨ret_int (by rw [HE.out]), hb2'⟩
        | true =>
          have HST2 : Hid (faultR (l.take k) (l.drop k) = if ((l.take k).any fun x => decide (x.1 = x1)) = true then 6 else if 20000 < x2.size then 2 else faultR (l.take (k + 1)) (l.drop (k + 1))) := by show _ = _; rw [HST.out, if_neg (by rw [hkey]; exact Bool.noConfusion)]
          clear HST hkey
          go_wp2_with fail
          refine (containsId_any A2 k c (l.take k) (x1, x2) P w2 (HAT.out.keep hb2') (by omega) hPlt d0).mono ?_
          rintro e w3 ⟨rfl, hb3⟩
          have hrow3 := (hb3.block _ hPlt).trans HROW2.out
          have hb3' := below_trans' hb2' hb3
          clear HROW2 hb3 hb2' d0 d1 d2 d3 HAT
          obtain ⟨d0, d1, d2, d3⟩ := two_cell hrow3
          clear hrow3
          simp only
          cases hany : (l.take k).any fun x => decide (x.1 = x1) with
          | true =>
            have HE : Hid (faultL l = 6) := by show _ = _; rw [HF.out, ← HR.out, HST2.out, if_pos hany]; rfl
            clear hany
            go_wp2_with fail
            go_ret
            exact ⟨ret_int (by rw [HE.out]), hb3'⟩
          | false =>
            have HST3 : Hid (faultR (l.take k) (l.drop k) = if 20000 < x2.size then 2 else faultR (l.take (k + 1)) (l.drop (k + 1))) := by show _ = _; rw [HST2.out, if_neg (by rw [hany]; exact Bool.noConfusion)]
            clear HST2 hany
            by_cases hlg : 20000 < x2.size
            · have HE : Hid (faultL l = 2) := by show _ = _; rw [HF.out, ← HR.out, HST3.out, if_pos hlg]; rfl
              have hlgi : (20000 : Int) < (x2.size : Int) := by omega
              go_wp2_with fail
              go_ret
              exact ⟨ret_int (by rw [HE.out]), hb3'⟩
            · have HST4 : Hid (faultR (l.take (k + 1)) (l.drop (k + 1)) = faultR [] l) := by show _ = _; rw [← HR.out, HST3.out, if_neg hlg]
              have hlgi : ¬ (20000 : Int) < (x2.size : Int) := by omega
              clear HST3
              go_wp2_with fail
              go_roundg (gk - 1)
              case measure => have := HK.out; omega
              case rel => exact ⟨k + 1, show k + 1 + (gk - 1) = n by have := HK.out; omega, by go_num, by rw [HTOT.out]; go_num, HST4.out, hb3'⟩
      · have hfin : faultR [] l = 0 := by rw [← HR.out, List.drop_of_length_le (by have := HN.out; omega)]; rfl
        have HF2 : Hid (faultL l = if 500000 < totB (l.take k) then 2 else 0) := by show _ = _; rw [HF.out, hfin, List.take_of_length_le (by have := HN.out; omega)]; simp
        clear hfin
        generalize totB (l.take k) = tk at *
        by_cases htk : 500000 < tk
        · have hti : (500000 : Int) < (tk : Int) := by omega
          go_wp2_with fail
          go_ret
          exact ⟨ret_int (by rw [HF2.out, if_pos htk]), hb⟩
        · have hti : ¬ (500000 : Int) < (tk : Int) := by omega
          go_wp2_with fail
          go_ret
          exact ⟨ret_int (by rw [HF2.out, if_neg htk]), hb⟩

end Go.Proofs.YtabdjkcediolcaaGreatDoor
