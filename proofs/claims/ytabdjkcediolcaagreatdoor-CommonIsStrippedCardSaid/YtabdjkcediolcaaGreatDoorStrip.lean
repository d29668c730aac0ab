
/-
  What Strip returns.
-/
import Derived.Test.YtabdjkcediolcaaGreatDoorCommon
import Derived.Test.YtabdjkcediolcaaGreatDoorBinPlain
namespace Go.Proofs.YtabdjkcediolcaaGreatDoor
open Go.RowKit Go.Maps

def SearchPost (w : World) (b : Bool) (e : Ending) (w' : World) : Prop := ∃ r : Nat, e = .returned (.tuple #[.int .i64 (r : Int), .bool b]) ∧ ∃ q, w' = w.drewN q
theorem search_any (A : Option Addr) (n c : Nat) (l : List Str) (x : Str) (w : World) (h : StrsAt w A n c l) (hr : l.Pairwise (· < ·)) (hn : n ≤ 100000) :
    Calls Tryz.prog 37 #[.slice A n c, .string (bag x)] w (SearchPost w (l.contains x)) := by
  have hl := h.1
  rcases Nat.eq_zero_or_pos n with h0 | h0
  · subst h0
    have e1 : l = [] := List.eq_nil_of_length_eq_zero hl.symm
    subst e1
    refine (Any2.slices_BinarySearch_string_empty Tryz.bsS A c (bag x) w).mono ?_
    rintro e w' ⟨rfl, rfl⟩
    exact ⟨0, rfl, 0, rfl⟩
  · obtain ⟨g, o, rfl, _, hc⟩ := h.str h0
    refine (Any2.slices_BinarySearch_string Tryz.bsS g o n c (fun j => bag (l.getD j [])) (bag x) w (by omega) hc).mono ?_
    rintro e w' ⟨rfl, hq⟩
    have hb := bs_found l (bag x) hr (fun t => Op.bytesLess (bag (l.getD t [])).toList (bag x).toList) (fun _ => rfl)
    rw [bag_data] at hb
    rw [← hl] at hb
    exact ⟨_, by rw [hb], hq⟩

def keptL (cs : List Str) (ps : List (List Str)) : List Str := (ps.filter (keepP cs)).map fun p => Lib.join p [10] ++ [10]
theorem keptL_snoc (cs : List Str) (ps : List (List Str)) (j : Nat) (p : List Str) (h : ps[j]? = some p) : keptL cs (ps.take (j + 1)) = keptL cs (ps.take j) ++ (if keepP cs p then [Lib.join p [10] ++ [10]] else []) := by
  obtain ⟨hj, rfl⟩ := List.getElem?_eq_some_iff.1 h
  unfold keptL
  rw [List.take_succ_eq_append_getElem hj, List.filter_append, List.map_append]
  congr 1
  cases hk : keepP cs ps[j] <;> simp [hk]
theorem keptL_len (cs : List Str) (ps : List (List Str)) (j : Nat) : (keptL cs (ps.take j)).length ≤ j := by
  unfold keptL
  rw [List.length_map]
  have := List.length_filter_le (keepP cs) (ps.take j)
  rw [List.length_take] at this
  omega
theorem keptL_join (cs : List Str) (L : Str) : Lib.join (keptL cs (parasL L)) [10] = stripL cs L := by
  unfold keptL stripL
  exact join_text _ fun p hp => (parasL_right L p (List.mem_filter.1 hp).1).1

theorem one_line (w : World) (J : Str) : ElemsAt StrE (w.alloc (.cells #[.string (bag J ++ ⟨#[10]⟩)] 9)) (some ⟨w.heap.size, 0, none⟩) 1 1 [J ++ [10]] := by
  have h := one_elem (E := StrE) w (J ++ [10])
  have e : (⟨(J ++ [10]).toArray⟩ : ByteArray) = bag J ++ ⟨#[10]⟩ := by
    apply ByteArray.ext
    simp [bag]
  have e2 : (StrE.enc (J ++ [10])).toArray = #[.string (bag J ++ ⟨#[10]⟩)] := by rw [← e]; rfl
  rw [e2] at h
  exact h
def StripPost (w : World) (t : Str) (e : Ending) (w' : World) : Prop := e = .returned (.tuple #[.string (bag t), .int .i64 0]) ∧ Below w.heap.size w w'
set_option maxHeartbeats 3200000 in
set_option maxRecDepth 100000 in
theorem strip_any (s : ByteArray) (A : Option Addr) (n c : Nat) (cs : List Str) (w : World) (hs : s.size ≤ 20000) (h : StrsAt w A n c cs) (hn : n ≤ 1000) (hr : cs.Pairwise (· < ·)) (hform : ∀ f ∈ cs, f ≠ [] ∧ formL [f] = f ∧ f.length ≤ 20000) (hM : MaxAt w) :
    Calls Tryz.prog 11 #[.string s, .slice A n c] w (StripPost w (stripL cs s.data.toList)) := by
  have HN := Lib.hid h.1
  have HH := Lib.hid h
  have HM := Lib.hid hM
  have HR := Lib.hid hr
  have HF := Lib.hid hform
  have hni : ¬ (1000 : Int) < (n : Int) := by omega
  clear h hM hr hform
  go_enter Tryz.func11, Tryz.ntmps11
  go_wp2_with fail
  refine (nlarge_any s w hs).mono ?_
  rintro e w' ⟨rfl, rfl⟩
  go_wp2_with fail
  rw [show decide ((1000 : Int) < (n : Int)) = false from decide_eq_false (by omega)]
  refine (when_any false 2 w).mono ?_
  rintro e w' ⟨rfl, rfl⟩
  go_wp2_with fail
  refine (first_2 0 0 _ w rfl _).mono ?_
  rintro e w' ⟨rfl, rfl⟩
  rw [show firstE [0, 0] = 0 from rfl]
  have hal : Below w.heap.size w (w.alloc (.cells #[.int .i64 0, .int .i64 0] 34)) := (Below.refl _ _).alloc (Nat.le_refl _) _
  generalize w.alloc (.cells #[.int .i64 0, .int .i64 0] 34) = w1 at *
  have HH1 := Lib.hid (HH.out.keep hal)
  have HM1 := Lib.hid (HM.out.below hal)
  clear HM HH hni
  go_wp2_with fail
  go_loopg [29] n (fun gk i wr => ∃ k : Nat, Hid (k + gk = n) ∧ i = .int .i64 k ∧ Below w1.heap.size w1 wr)
  case atStart => exact ⟨0, show 0 + n = n by omega, rfl, Below.refl _ _⟩
  case round =>
    obtain ⟨k, HK, rfl, hb⟩ := hrel
    have hkn : k ≤ n := by have := HK.out; omega
    have hzb := hb.size
    by_cases hlt : k < n
    · obtain ⟨f, hf⟩ : ∃ f, cs[k]? = some f := ⟨_, List.getElem?_eq_getElem (by have := HN.out; omega)⟩
      obtain ⟨hf0, hff, hfl⟩ := HF.out f (List.mem_of_getElem? hf)
      obtain ⟨gA, oA, hA, hgA, hcA⟩ := HH1.out.str (by omega)
      subst hA
      have cf := (hb.cell (p := ⟨gA, oA + k, none⟩) hgA).trans (hcA k hlt)
      have hgd : cs.getD k [] = f := by rw [List.getD_eq_getElem?_getD, hf]; rfl
      rw [hgd] at cf
      have cf' : wr.cell? ⟨gA, oA + k, none⟩ = some (.string (bag f)) := cf
      have he2 : (bag f).toList.isEmpty = false := by
        rw [Lib.toList_data, bag_data]
        cases f with
        | nil => exact absurd rfl hf0
        | cons a r => rfl
      have HFF : Hid (∀ wx : World, Calls Tryz.prog 31 #[.slice (some ⟨wx.heap.size, 0, none⟩) 1 1] (wx.alloc (.cells #[.string (bag f)] 9)) fun e w' => e = .returned (.string (bag f)) ∧ Below wx.heap.size wx w') := fun wx => by
        refine (form_any _ 1 1 [f] _ (one_elem (E := StrE) wx f) (by omega) (by rw [Lib.join_one]; exact hfl)).mono ?_
        rintro e w' ⟨rfl, hb⟩
        rw [hff]
        exact ⟨rfl, below_trans' ((Below.refl _ _).alloc (Nat.le_refl _) _) hb⟩
      clear cf hgd
      go_upto_region 7 with (fail)
      by_cases hk0 : k = 0
      · have hk0i : ¬ (0 : Int) < (k : Int) := by omega
        clear hcA hf hff cf'
        go_wp2_with (go_at_call 31; refine (HFF.out _).mono ?_; rintro e w' ⟨rfl, hb'⟩)
        refine (when_any false 3 w').mono ?_
        rintro e w2 ⟨rfl, rfl⟩
        go_wp2_with fail
        refine (when_any false 7 w').mono ?_
        rintro e w2 ⟨rfl, rfl⟩
        go_wp2_with fail
        refine (first_2 0 0 _ w' rfl _).mono ?_
        rintro e w2 ⟨rfl, rfl⟩
        rw [show firstE [0, 0] = 0 from rfl]
        have hbn : Below w1.heap.size w1 (w'.alloc (.cells #[.int .i64 0, .int .i64 0] 34)) := (below_trans' hb hb').alloc (below_trans' hb hb').size _
        go_wp2_with fail
        go_roundg (gk - 1)
        case measure => have := HK.out; omega
        case rel => exact ⟨k + 1, show k + 1 + (gk - 1) = n by have := HK.out; omega, by go_num, hbn⟩
      · obtain ⟨m, rfl⟩ : ∃ m, k = m + 1 := ⟨k - 1, by omega⟩
        have hk0i : (0 : Int) < ((m + 1 : Nat) : Int) := by omega
        have hmx : max (((m + 1 : Nat) : Int)) 1 = (m : Int) + 1 := by omega
        have hmx2 : max ((m : Int) + 1) 1 = (m : Int) + 1 := by omega
        have hcm := hcA m (by omega)
        have HLT : Hid (cs.getD m [] < f) := by
          show _ < _
          have h1 : m + 1 < cs.length := by have := HN.out; omega
          have := (List.pairwise_iff_getElem.1 HR.out) m (m + 1) (by omega) h1 (by omega)
          have e1 : cs[m + 1] = f := by have := hf; rw [List.getElem?_eq_getElem h1] at this; simpa using this
          rw [e1] at this
          simpa [List.getD_eq_getElem?_getD, List.getElem?_eq_getElem (show m < cs.length by omega)] using this
        generalize cs.getD m [] = pv at *
        have hbl : Op.bytesLess (bag f).toList (bag pv).toList = false := by
          rw [bytesLess_eq, Lib.toList_data, Lib.toList_data, bag_data, bag_data]
          exact decide_eq_false (fun h => List.lt_irrefl _ (List.lt_trans HLT.out h))
        have hne : ((bag f).toList == (bag pv).toList) = false := by
          rw [Lib.toList_data, Lib.toList_data, bag_data, bag_data]
          have h : f ≠ pv := fun e => List.lt_irrefl f (by have := HLT.out; rw [← e] at this; exact this)
          simpa using h
        clear hcA hf hff cf'
        go_wp2_with (go_at_call 31; refine (HFF.out _).mono ?_; rintro e w' ⟨rfl, hb'⟩)
        refine (when_any false 3 w').mono ?_
        rintro e w2 ⟨rfl, rfl⟩
        have cpv : w'.cell? ⟨gA, oA + m, none⟩ = some (.string (bag pv)) := ((below_trans' hb hb').cell (p := ⟨gA, oA + m, none⟩) hgA).trans hcm
        go_wp2_with fail
        refine (when_any false 7 w').mono ?_
        rintro e w2 ⟨rfl, rfl⟩
        go_wp2_with fail
        refine (first_2 0 0 _ w' rfl _).mono ?_
        rintro e w2 ⟨rfl, rfl⟩
        rw [show firstE [0, 0] = 0 from rfl]
        have hbn : Below w1.heap.size w1 (w'.alloc (.cells #[.int .i64 0, .int .i64 0] 34)) := (below_trans' hb hb').alloc (below_trans' hb hb').size _
        go_wp2_with fail
        go_roundg (gk - 1)
        case measure => have := HK.out; omega
        case rel => exact ⟨m + 1 + 1, show m + 1 + 1 + (gk - 1) = n by have := HK.out; omega, by go_num, hbn⟩
    · have hsl : s.data.toList.length = s.size := by simp
      have HPL : Hid ((parasL s.data.toList).length ≤ 6668) := by show _ ≤ _; have := parasL_few s.data.toList; omega
      have HJP : Hid (∀ p ∈ parasL s.data.toList, (Lib.join p [10]).length ≤ 20000 ∧ p.length ≤ 20001 ∧ (formL p).length ≤ 20000) := fun p hp => by have := join_para hp; omega
      have HJN := Lib.hid (keptL_join cs s.data.toList)
      have HSL : Hid ((stripL cs s.data.toList).length ≤ 20001) := by show _ ≤ _; have := stripL_size cs s.data.toList; omega
      clear hsl HF
      go_wp2_with fail
      refine (paragraphs_any s wr hs (HM1.out.below hb)).mono ?_
      rintro e w3 ⟨v64, rs, rfl, hpar, hb3⟩
      obtain ⟨A64, c64, rfl⟩ := hpar.slice_
      have HPAR := Lib.hid hpar; clear hpar
      have HH3 := Lib.hid ((HH1.out.keep hb).keep hb3)
      have hb3' : Below w1.heap.size w1 w3 := hb.trans (hb3.mono hzb)
      have hz3 := hb3.size
      generalize stripL cs s.data.toList = T at *
      generalize parasL s.data.toList = ps at *
      have hpl : ps.length ≤ 6668 := HPL.out
      clear HPL HH1 HM1 hb3 hb
      go_wp2_with fail
      obtain ⟨wo, rfl⟩ : ∃ wo : World, wo = wr := ⟨_, rfl⟩
      obtain ⟨ko, rfl⟩ : ∃ ko : Nat, ko = gk := ⟨_, rfl⟩
      go_loopg [10, 66] ps.length (fun gk v10 i wr => ∃ j : Nat, Hid (j + gk = ps.length) ∧ i = .int .i64 j ∧ Hid (Owns StrE wr w3.heap.size v10 (keptL cs (ps.take j))) ∧ Below w3.heap.size w3 wr)
      case atStart => exact ⟨0, show 0 + ps.length = ps.length by omega, rfl, Owns.nil _ _, Below.refl _ _⟩
      case round =>
        obtain ⟨j, HJ, rfl, HO, hbr⟩ := hrel
        have hjn : j ≤ ps.length := by have := HJ.out; omega
        have hzr := hbr.size
        have hol := keptL_len cs ps j
        by_cases hjl : j < ps.length
        · obtain ⟨p, hp⟩ : ∃ p, ps[j]? = some p := ⟨_, List.getElem?_eq_getElem hjl⟩
          have HPQ := Lib.hid (HPAR.out.below hbr)
          obtain ⟨G, cG, Ap, cp, hv, hGl, hcell, hat⟩ := HPQ.out.at_ j p hp
          simp only [Value.slice.injEq] at hv
          obtain ⟨rfl, _, rfl⟩ := hv
          obtain ⟨hq1, hq2, hq3⟩ := HJP.out p (List.mem_of_getElem? hp)
          have HSN := Lib.hid (keptL_snoc cs ps j p hp)
          have HATP := Lib.hid hat; clear hat hp HPQ
          go_wp2_with fail
          refine (form_any Ap p.length cp p wr HATP.out (by omega) hq1).mono ?_
          rintro e w4 ⟨rfl, hb4⟩
          have HKP : Hid (keepP cs p = (decide (formL p = []) || !cs.contains (formL p))) := rfl
          generalize formL p = f at *
          have HH4 := Lib.hid ((HH3.out.keep hbr).keep hb4)
          go_wp2_with fail
          refine (search_any A n c cs f w4 HH4.out HR.out (by omega)).mono ?_
          rintro e w5 ⟨r, rfl, q, rfl⟩
          have hb5 : Below w3.heap.size w3 (w4.drewN q) := below_drewN (below_trans' hbr hb4) q
          have HO5 : Hid (Owns StrE (w4.drewN q) w3.heap.size u10 (keptL cs (ps.take j))) := HO.out.below_ (below_drewN hb4 q)
          have HAT5 : Hid (StrsAt (w4.drewN q) Ap p.length cp p) := HATP.out.keep (below_drewN hb4 q)
          clear hcell hb4 HATP HO HH4 hGl hbr
          generalize w4.drewN q = w5 at *
          have hz5 := hb5.size
          have he2 : (bag f).toList.isEmpty = decide (f = []) := by
            rw [Lib.toList_data, bag_data]
            cases f <;> rfl
          generalize cs.contains f = cb at *
          by_cases hf0 : f = []
          · have HSU : Hid (keptL cs (ps.take (j + 1)) = keptL cs (ps.take j) ++ [Lib.join p [10] ++ [10]]) := by show _ = _; rw [HSN.out, HKP.out]; simp [hf0]
            rw [decide_eq_true hf0] at he2
            clear hf0
            go_wp2_with fail
            refine (joinC_any Ap p.length cp p 10 w5 HAT5.out (by omega) (by omega)).mono ?_
            rintro e w6 ⟨rfl, hb6⟩
            have HO6 := Lib.hid (HO5.out.below_ hb6)
            have hb6' : Below w3.heap.size w3 w6 := below_trans' hb5 hb6
            have hz6 := hb6'.size
            have HONE := Lib.hid (one_line w6 (Lib.join p [10]))
            have hJs : (bag (Lib.join p [10])).size ≤ 20000 := by rw [bag_size]; exact hq1
            clear hq1
            generalize Lib.join p [10] = J at *
            go_wp2_with (at_builtin; refine append_elems strE_ok rfl _ _ rfl w3.heap.size _ (keptL cs (ps.take j)) rfl (World.ownsRow.alloc HO6.out _) (some ⟨w6.heap.size, 0, none⟩) 1 1 [J ++ [10]] rfl HONE.out (by simp only [List.length_singleton]; omega) (by simp; omega) ?_; intro v7 w7 hown7 hgrow7 _)
            have hb7 : Below w3.heap.size w3 w7 := (hb6'.alloc hb6'.size _).grown hgrow7 (by simp; omega) (fun i hi => (HO6.out.lt i hi).1)
            go_roundg (gk - 1)
            case measure => have := HJ.out; omega
            case rel => exact ⟨j + 1, show j + 1 + (gk - 1) = ps.length by have := HJ.out; omega, by go_num, (by show Owns _ _ _ _ _; rw [HSU.out]; exact hown7), hb7⟩
          · rw [decide_eq_false hf0] at he2
            cases cb with
            | false =>
              have HSU : Hid (keptL cs (ps.take (j + 1)) = keptL cs (ps.take j) ++ [Lib.join p [10] ++ [10]]) := by show _ = _; rw [HSN.out, HKP.out]; simp
              go_wp2_with fail
              refine (joinC_any Ap p.length cp p 10 w5 HAT5.out (by omega) (by omega)).mono ?_
              rintro e w6 ⟨rfl, hb6⟩
              have HO6 := Lib.hid (HO5.out.below_ hb6)
              have hb6' : Below w3.heap.size w3 w6 := below_trans' hb5 hb6
              have hz6 := hb6'.size
              have HONE := Lib.hid (one_line w6 (Lib.join p [10]))
              have hJs : (bag (Lib.join p [10])).size ≤ 20000 := by rw [bag_size]; exact hq1
              clear hq1
              generalize Lib.join p [10] = J at *
              go_wp2_with (at_builtin; refine append_elems strE_ok rfl _ _ rfl w3.heap.size _ (keptL cs (ps.take j)) rfl (World.ownsRow.alloc HO6.out _) (some ⟨w6.heap.size, 0, none⟩) 1 1 [J ++ [10]] rfl HONE.out (by simp only [List.length_singleton]; omega) (by simp; omega) ?_; intro v7 w7 hown7 hgrow7 _)
              have hb7 : Below w3.heap.size w3 w7 := (hb6'.alloc hb6'.size _).grown hgrow7 (by simp; omega) (fun i hi => (HO6.out.lt i hi).1)
              go_roundg (gk - 1)
              case measure => have := HJ.out; omega
              case rel => exact ⟨j + 1, show j + 1 + (gk - 1) = ps.length by have := HJ.out; omega, by go_num, (by show Owns _ _ _ _ _; rw [HSU.out]; exact hown7), hb7⟩
            | true =>
              have HSU : Hid (keptL cs (ps.take (j + 1)) = keptL cs (ps.take j)) := by show _ = _; rw [HSN.out, HKP.out]; simp [hf0]
              go_wp2_with fail
              go_roundg (gk - 1)
              case measure => have := HJ.out; omega
              case rel => exact ⟨j + 1, show j + 1 + (gk - 1) = ps.length by have := HJ.out; omega, by go_num, (by show Owns _ _ _ _ _; rw [HSU.out]; exact HO5.out), hb5⟩
        · have hje : ps.take j = ps := List.take_of_length_le (by omega)
          rw [hje] at HO hol
          have HJN' := HJN
          have HLE : Hid ((Lib.join (keptL cs ps) [10]).length ≤ 20001) := by show _ ≤ _; rw [HJN.out]; exact HSL.out
          generalize keptL cs ps = out at *
          obtain ⟨Ao, co, rfl, q1, hato, q2⟩ := HO.out.at_ strE_ok
          have HATO := Lib.hid hato
          clear q1 q2 hato
          have hbf : Below w.heap.size w wr := below_trans' hal (hb3'.trans (hbr.mono (by omega)))
          go_wp2_with fail
          refine (joinC_any Ao _ co out 10 wr HATO.out (by omega) (by have := HLE.out; omega)).mono ?_
          rintro e w6 ⟨rfl, hb6⟩
          rw [HJN.out]
          go_wp2_with fail
          go_ret2
          exact ⟨rfl, below_trans' hbf hb6⟩
end Go.Proofs.YtabdjkcediolcaaGreatDoor
