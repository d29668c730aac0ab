
/-
  What Tokens and Join return.
-/
import Derived.Test.YtmaimojpjepmjaaGreatDoorStrLib
namespace Go.Proofs.YtmaimojpjepmjaaGreatDoor
open Go.RowKit

theorem tokLines_pre (a b : List (List UInt8)) : (tokLines a).length ≤ (tokLines (a ++ b)).length := by
  cases a with
  | nil => simp [tokLines]
  | cons x a => simp [tokLines]
theorem filter_take_le (l : List (List UInt8)) (j : Nat) : ((l.take j).filter fun w => !w.isEmpty).length ≤ (l.filter fun w => !w.isEmpty).length :=
  (List.Sublist.filter _ (List.take_sublist j l)).length_le
theorem filter_snoc (l : List (List UInt8)) (j : Nat) (h : j < l.length) : (l.take (j + 1)).filter (fun w => !w.isEmpty) = (l.take j).filter (fun w => !w.isEmpty) ++ (if l.getD j [] = [] then [] else [l.getD j []]) := by
  rw [List.take_succ_eq_append_getElem h, List.filter_append]
  simp only [List.getD_eq_getElem?_getD, List.getElem?_eq_getElem h, Option.getD_some]
  congr 1
  cases hx : l[j] with
  | nil => simp
  | cons a b => simp
theorem tok_step (L : List UInt8) (k : Nat) (h : k < (splitC 10 L).length) : tokLines ((splitC 10 L).take (k + 1)) = tokLines ((splitC 10 L).take k) ++ (if k = 0 then [] else [[10]]) ++ lnTok ((splitC 10 L).getD k []) := by
  have e : (splitC 10 L).take (k + 1) = (splitC 10 L).take k ++ [(splitC 10 L).getD k []] := by
    rw [List.take_succ_eq_append_getElem h]; simp [h]
  rw [e, tokLines_snoc, List.append_assoc]
  congr 2
  cases k with
  | zero => simp
  | succ k =>
    have : (splitC 10 L).take (k + 1) ≠ [] := by
      intro h0
      have := congrArg List.length h0
      rw [List.length_take] at this
      simp only [List.length_nil] at this; omega
    simp [this]
theorem tok_le (L : List UInt8) (k : Nat) : (tokLines ((splitC 10 L).take k)).length ≤ L.length := by
  have h := tokLines_pre ((splitC 10 L).take k) ((splitC 10 L).drop k)
  rw [List.take_append_drop] at h
  exact Nat.le_trans h (tokL_length L)
theorem splitC_length (c : UInt8) (L : List UInt8) : (splitC c L).length ≤ L.length + 1 := by have := splitC_sum c L; omega
theorem splitC_at (c : UInt8) (L : List UInt8) (k : Nat) : ((splitC c L).getD k []).length ≤ L.length := by
  by_cases h : k < (splitC c L).length
  · have h1 := splitC_sum c L
    have h2 := lensL_mem (splitC c L) ((splitC c L).getD k []) (by simp [h])
    unfold lensL at h2
    omega
  · rw [List.getD_eq_getElem?_getD, List.getElem?_eq_none (by omega)]; simp

theorem bag_empty {x : List UInt8} : (bag x).toList.isEmpty = x.isEmpty := by rw [Lib.toList_data, bag_data]
theorem bag_nil {x : List UInt8} : (bag x).toList = [] ↔ x = [] := by rw [Lib.toList_data, bag_data]

def TokensPost (w : World) (L : List UInt8) (e : Ending) (w' : World) : Prop := ∃ v, e = .returned v ∧ OwnStrs w' w.heap.size v (tokL L) ∧ Below w.heap.size w w'

set_option maxHeartbeats 3200000 in
set_option maxRecDepth 100000 in
theorem tokensB_any (s : ByteArray) (w : World) (hs : s.size ≤ 20000) (hM : MaxAt w) :
    Calls Tryz.prog 108 #[.string s] w (TokensPost w s.data.toList) := by
  have hlen : s.data.toList.length = s.size := by simp
  have HLEN := Lib.hid hlen; clear hlen
  go_enter Tryz.func108, Tryz.ntmps108
  go_wp2_with fail
  refine (split_any s 10 w (by omega) hM).mono ?_
  rintro e w1 ⟨A, n, cap, rfl, hlines, hb1, _⟩
  have hM1 := hM.below hb1
  have HN := Lib.hid hlines.1
  have hn : n ≤ 20001 := by rw [HN.out]; have := splitC_length 10 s.data.toList; have := HLEN.out; omega
  go_wp2_with fail
  go_loopg [3, 11] n (fun gk v i wr => ∃ k : Nat, k + gk = n ∧ i = .int .i64 k ∧ OwnStrs wr w1.heap.size v (tokLines ((splitC 10 s.data.toList).take k)) ∧ Below w1.heap.size w1 wr)
  case atStart => exact ⟨0, by omega, rfl, by simp only [List.take_zero]; exact Owns.nil _ _, Below.refl _ _⟩
  case round =>
    obtain ⟨k, hk, rfl, hown, hb⟩ := hrel
    have HK := Lib.hid hk; clear hk
    have hkn : k ≤ n := by have := HK.out; omega
    have hzb : w.heap.size ≤ wr.heap.size := Nat.le_trans hb1.size hb.size
    by_cases hlt : k < n
    · have hlr := hlines.keep hb
      obtain ⟨gl, ol, rfl, hgl, hcl⟩ := hlr.str (by omega)
      have hline := hcl k hlt
      have hstep := tok_step s.data.toList k (by have := HN.out; omega)
      have hlel := splitC_at 10 s.data.toList k
      rw [HLEN.out] at hlel
      have hle1 := tok_le s.data.toList (k + 1)
      rw [HLEN.out] at hle1
      have HS := Lib.hid hstep; clear hstep
      generalize hline' : (splitC 10 s.data.toList).getD k [] = line at *
      have HO := Lib.hid hown; clear hown
      generalize hacc : tokLines ((splitC 10 s.data.toList).take k) = acc at *
      have HNX : Hid (tokLines ((splitC 10 s.data.toList).take (k + 1)) = acc ++ (if k = 0 then [] else [[10]]) ++ lnTok line) := HS.out
      clear HS hacc hline' hcl
      have hbnd : (acc ++ (if k = 0 then [] else [[10]]) ++ lnTok line).length ≤ 20000 := by rw [← HNX.out]; omega
      have hbnd1 : (acc ++ (if k = 0 then [] else [[10]])).length ≤ 20000 := by rw [List.length_append] at hbnd; omega
      have hbnd0 : acc.length ≤ 20000 := by rw [List.length_append] at hbnd1; omega
      clear hle1
      go_upto_if 17 with (fail)
      go_cut [3] (fun v wx => OwnStrs wx w1.heap.size v (acc ++ (if k = 0 then [] else [[10]])) ∧ Below w1.heap.size w1 wx)
      case first =>
        by_cases hk0 : k = 0
        · subst hk0
          go_wp2_with fail
          go_meet
          exact ⟨by simp only [if_true, List.append_nil]; exact HO.out, hb⟩
        · have hk1 : 0 < k := by omega
          have hpos : decide ((0 : Int) < (k : Int)) = true := by simp; omega
          go_wp2_with (at_builtin; refine append_elems strE_ok rfl _ _ rfl w1.heap.size _ acc rfl (HO.out.alloc _) (some ⟨wr.heap.size, 0, none⟩) 1 1 [[10]] rfl (one_elem wr [10]) (by simp; omega) (by have := hb.size; simp; omega) ?_; intro v4 w4 hown4 hgrow4 _)
          have hb4 : Below w1.heap.size w1 w4 := (hb.alloc hb.size _).grown hgrow4 (by have := hb.size; simp; omega) (fun i hi => (HO.out.lt i hi).1)
          go_wp2_with fail
          go_meet
          exact ⟨by rw [if_neg hk0]; exact hown4, hb4⟩
      case rest =>
        obtain ⟨hown2, hb2⟩ := hcut
        have hM2 := hM1.below hb2
        have HO2 := Lib.hid hown2; clear hown2 HO
        generalize hacc2 : acc ++ (if k = 0 then [] else [[10]]) = acc2 at *
        clear hacc2 hbnd0
        have HL : Hid (lnTok line = (splitC 32 line).filter fun w => !w.isEmpty) := rfl
        obtain ⟨wo, rfl⟩ : ∃ wo : World, wo = wc := ⟨_, rfl⟩
        obtain ⟨ko, rfl⟩ : ∃ ko : Nat, ko = gk := ⟨_, rfl⟩
        have hbs : (bag line).size ≤ 1000000 := by rw [bag_size]; omega
        go_wp2_with fail
        refine (split_any (bag line) 32 wo hbs hM2).mono ?_
        rintro e w3 ⟨A3, n3, cap3, rfl, hwords, hb3, hnew3⟩
        rw [bag_data] at hwords
        have HN3 := Lib.hid hwords.1
        have hn3 : n3 ≤ 20001 := by rw [HN3.out]; have := splitC_length 32 line; omega
        have hown3 : OwnStrs w3 w1.heap.size u3 acc2 := HO2.out.below_ hb3
        have hb13 : Below w1.heap.size w1 w3 := hb2.trans (hb3.mono hb2.size)
        have hap3 : ApartOf A3 u3 := fun g off hA e => by have := (HO2.out.lt g e).2; have := hnew3 g off hA; omega
        clear hnew3
        have hfl : ∀ j, (acc2 ++ ((splitC 32 line).take j).filter fun w => !w.isEmpty).length ≤ 20000 := fun j => by
          have := filter_take_le (splitC 32 line) j
          rw [List.length_append, HL.out] at hbnd
          rw [List.length_append]; omega
        have HFL := Lib.hid hfl; clear hfl HO2 hbnd hb2 hb
        go_wp2_with fail
        go_loopg [3, 24] n3 (fun gk v i wr => ∃ j : Nat, j + gk = n3 ∧ i = .int .i64 j ∧ OwnStrs wr w1.heap.size v (acc2 ++ ((splitC 32 line).take j).filter fun w => !w.isEmpty) ∧ Below w1.heap.size w1 wr ∧ StrsAt wr A3 n3 cap3 (splitC 32 line) ∧ ApartOf A3 v)
        case atStart => exact ⟨0, by omega, rfl, by simp only [List.take_zero, List.filter_nil, List.append_nil]; exact hown3, hb13, hwords, hap3⟩
        case round =>
          obtain ⟨j, hj, rfl, hownj, hbj, hwj, hap⟩ := hrel
          have HJ := Lib.hid hj; clear hj
          have hjn : j ≤ n3 := by have := HJ.out; omega
          have HOJ := Lib.hid hownj; clear hownj
          by_cases hjl : j < n3
          · obtain ⟨gw, ow, rfl, hgw, hcw⟩ := hwj.str (by omega)
            have hword := hcw j hjl
            have hsn := filter_snoc (splitC 32 line) j (by have := HN3.out; omega)
            have hbd := HFL.out j
            have HAP := Lib.hid hap; clear hap hcw
            generalize (splitC 32 line).getD j [] = word at *
            have HSN := Lib.hid hsn; clear hsn
            have hzj := hbj.size
            by_cases hw0 : word = []
            · subst hw0
              go_wp2_with fail
              go_roundg (gk - 1)
              case measure => have := HJ.out; omega
              case rel => exact ⟨j + 1, by have := HJ.out; omega, by go_num, by rw [HSN.out]; simp only [if_true, List.append_nil]; exact HOJ.out, hbj, hwj, HAP.out⟩
            · have e1 : (!word.isEmpty) = true := by cases word with | nil => exact absurd rfl hw0 | cons => rfl
              go_wp2_with (at_builtin; refine append_elems strE_ok rfl _ _ rfl w1.heap.size _ _ rfl (HOJ.out.alloc _) (some ⟨wr.heap.size, 0, none⟩) 1 1 [word] rfl (one_elem wr word) (by simp only [List.length_singleton]; omega) (by simp; omega) ?_; intro v4 w4 hown4 hgrow4 hv4)
              have hb4 : Below w1.heap.size w1 w4 := (hbj.alloc hbj.size _).grown hgrow4 (by simp; omega) (fun i hi => (HOJ.out.lt i hi).1)
              have hw4 : StrsAt w4 (some ⟨gw, ow, none⟩) n3 cap3 (splitC 32 line) := (hwj.keep ((Below.refl _ _).alloc (Nat.le_refl _) _)).grown hgrow4 (fun g off hA e => HAP.out g off hA e)
              have hap4 : ApartOf (some ⟨gw, ow, none⟩) v4 := fun g off hA e => by
                rcases hv4 with h | h
                · exact HAP.out g off hA (h ▸ e)
                · rw [h] at e
                  cases hA
                  simp at e
                  omega
              have HO4 := Lib.hid hown4; clear hown4
              go_wp2_with fail
              go_roundg (gk - 1)
              case measure => have := HJ.out; omega
              case rel => exact ⟨j + 1, by have := HJ.out; omega, by go_num, by rw [HSN.out, if_neg hw0, ← List.append_assoc]; exact HO4.out, hb4, hw4, hap4⟩
          · obtain rfl : j = n3 := by omega
            go_wp2_with fail
            go_roundg (ko - 1)
            case measure => have := HK.out; omega
            case rel => exact ⟨k + 1, by have := HK.out; omega, by go_num, by rw [HNX.out, HL.out]; have := HOJ.out; rw [List.take_of_length_le (by have := HN3.out; omega)] at this; exact this, hbj⟩
    · obtain rfl : k = n := by omega
      go_wp2_with fail
      go_ret
      rw [List.take_of_length_le (by have := HN.out; omega)] at hown
      exact ⟨_, rfl, hown.base_ hb1.size, hb1.trans (hb.mono hb1.size)⟩

def sepB (k : Nat) (p t : List UInt8) : Bool := decide (0 < k) && decide (t ≠ [10]) && decide (p ≠ [10])
def JoinPost (w : World) (l : List (List UInt8)) (e : Ending) (w' : World) : Prop := e = .returned (.string (bag (joinL l))) ∧ Below w.heap.size w w'
theorem joinL_pre (l : List (List UInt8)) (k : Nat) : (joinL (l.take k)).length ≤ lensL l + l.length := by
  have h1 := joinL_lens (l.take k)
  have h2 : lensL (l.take k) ≤ lensL l := by
    have := lensL_append (l.take k) (l.drop k)
    rw [List.take_append_drop] at this; omega
  have h3 : (l.take k).length ≤ l.length := by rw [List.length_take]; omega
  omega
theorem lensL_at (l : List (List UInt8)) (k : Nat) : (l.getD k []).length ≤ lensL l := by
  by_cases h : k < l.length
  · exact lensL_mem l _ (by simp [h])
  · rw [List.getD_eq_getElem?_getD, List.getElem?_eq_none (by omega)]; simp

set_option maxHeartbeats 3200000 in
set_option maxRecDepth 100000 in
theorem join_any (A : Option Addr) (n c : Nat) (l : List (List UInt8)) (w : World) (h : StrsAt w A n c l) (hn : n ≤ 100000) (hl : lensL l ≤ 100000) :
    Calls Tryz.prog 79 #[.slice A n c] w (JoinPost w l) := by
  have HN := Lib.hid h.1
  go_enter Tryz.func79, Tryz.ntmps79
  go_wp2_with fail
  go_loopg [8] n (fun gk i wr => ∃ k : Nat, k + gk = n ∧ i = .int .i64 k ∧ BuildAt w.heap.size w.heap.size (joinL (l.take k)) wr ∧ Below w.heap.size w wr)
  case atStart => exact ⟨0, by omega, rfl, by simp only [List.take_zero]; exact Lib.fresh_isBuilder _ _ w, (Below.refl _ _).alloc (Nat.le_refl _) _⟩
  case round =>
    obtain ⟨k, hk, rfl, hbu, hb⟩ := hrel
    have HK := Lib.hid hk; clear hk
    have hkn : k ≤ n := by have := HK.out; omega
    have HBU := Lib.hid hbu; clear hbu
    by_cases hlt : k < n
    · obtain ⟨gs, os, rfl, hgs, hcs⟩ := h.str (by omega)
      have hlt' : k < l.length := by have := HN.out; omega
      have hcur := (hb.cell (p := ⟨gs, os + k, none⟩) hgs).trans (hcs k hlt)
      have hpre := joinL_pre l k
      have hlk := lensL_at l k
      have HSTEP : Hid (joinL (l.take (k + 1)) = joinL (l.take k) ++ (if k = 0 then [] else sepT (l.getD (k - 1) []) (l.getD k [])) ++ l.getD k []) := by
        show _ = _
        cases k with
        | zero => simp only [if_true, List.take_zero, joinL, List.nil_append]; exact joinL_one l (by omega)
        | succ m => rw [if_neg (by omega)]; exact joinL_take l m hlt'
      have hnl : l.length ≤ 100000 := by have := HN.out; omega
      have hprev : 0 < k → wr.cell? ⟨gs, os + (k - 1), none⟩ = some (.string ⟨(l.getD (k - 1) []).toArray⟩) := fun _ => (hb.cell (p := ⟨gs, os + (k - 1), none⟩) hgs).trans (hcs (k - 1) (by omega))
      clear hcs
      generalize l.getD (k - 1) [] = q at *
      generalize l.getD k [] = t at *
      go_upto_region 5 with (fail)
      go_cut [26] (fun v wx => v = .bool (sepB k q t) ∧ wx = wr)
      case first =>
        by_cases hk0 : k = 0
        · subst hk0
          go_wp2_with fail
          go_meet
          exact ⟨rfl, rfl⟩
        · have hp := hprev (by omega)
          have hi1 : (1 : Int) ≤ (k : Int) := by omega
          have hi2 : ((k : Int) - 1).toNat = k - 1 := by omega
          have hi3 : (0 : Int) < (k : Int) := by omega
          clear hprev
          go_wp2_with fail
          · have ht : t = [10] := by assumption
            subst ht
            go_meet
            exact ⟨by simp [sepB], rfl⟩
          · have ht : ¬ t = [10] := by assumption
            go_meet
            exact ⟨by have hk1 : 0 < k := by omega
                      have e1 : (t == [10]) = false := by simpa using ht
                      have e2 : (q == [10]) = decide (q = [10]) := by rw [Bool.eq_iff_iff]; simp
                      simp [sepB, ht, hk1, e1, e2], rfl⟩
      case rest =>
        obtain ⟨rfl, rfl⟩ := hcut
        go_upto_if 26 with (fail)
        go_cut [] (fun wx => BuildAt w.heap.size w.heap.size (joinL (l.take k) ++ (if k = 0 then [] else sepT q t)) wx ∧ Below w.heap.size w wx)
        case first =>
          have HSB : Hid ((if k = 0 then [] else sepT q t) = if sepB k q t then [32] else []) := by
            show _ = _
            unfold sepB sepT
            by_cases h0 : k = 0
            · subst h0; simp
            · have h1 : 0 < k := by omega
              simp [h0, h1]
          generalize hsb : sepB k q t = b at *
          clear hsb
          have hzb := hb.size
          cases b
          · go_wp2_with fail
            go_meet
            exact ⟨by rw [HSB.out]; simp only [Bool.false_eq_true, if_false, List.append_nil]; exact HBU.out, hb⟩
          · go_wp2_with fail
            refine (writeByte_any _ _ _ 32 _ HBU.out (by omega) hzb).mono ?_
            rintro e w2 ⟨rfl, hbu2, hb2⟩
            go_wp2_with fail
            go_meet
            exact ⟨by rw [HSB.out]; exact hbu2, hb.trans hb2⟩
        case rest =>
          obtain ⟨hbu2, hb2⟩ := hcut
          have hzb := hb2.size
          have hsl : (if k = 0 then [] else sepT q t).length ≤ 1 := by split; simp; unfold sepT; split <;> simp
          go_wp2_with fail
          refine (writeString_any _ _ _ (bag t) _ hbu2 (by rw [List.length_append, bag_size]; omega) hzb).mono ?_
          rintro e w3 ⟨rfl, hbu3, hb3⟩
          rw [bag_data] at hbu3
          go_wp2_with fail
          go_roundg (gk - 1)
          case measure => have := HK.out; omega
          case rel => exact ⟨k + 1, by have := HK.out; omega, by go_num, by rw [HSTEP.out]; exact hbu3, hb2.trans hb3⟩
    · obtain rfl : k = n := by omega
      have hbu := HBU.out
      rw [List.take_of_length_le (by have := HN.out; omega)] at hbu
      go_wp2_with fail
      refine (string_any _ _ _ _ hbu hb.size).mono ?_
      rintro e w2 ⟨rfl, hb2⟩
      go_wp2_with fail
      go_ret
      exact ⟨rfl, hb.trans hb2⟩

end Go.Proofs.YtmaimojpjepmjaaGreatDoor
