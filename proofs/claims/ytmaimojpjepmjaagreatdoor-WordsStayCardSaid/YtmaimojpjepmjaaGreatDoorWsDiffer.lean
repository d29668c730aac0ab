
/-
  What TokensOf and DifferOf of the reference return.
-/
import Derived.Test.YtmaimojpjepmjaaGreatDoorWsKept
import Derived.Test.YtmaimojpjepmjaaGreatDoorChanges
import Derived.Test.YtmaimojpjepmjaaGreatDoorTokens
namespace Go.Proofs.YtmaimojpjepmjaaGreatDoor
open Go.RowKit

def diffF (x y : List (List UInt8)) : List TokC := (chgs x y 0 0 (keptR x y x.length 0 0 ++ [(x.length, y.length)])).map castC
def DifferIs (w : World) (x y : List (List UInt8)) (e : Ending) (w' : World) : Prop :=
  ∃ (v : Value) (rs : List RawC), e = .returned v ∧ Owns ChgE w' w.heap.size v rs ∧ ChgsOf w' w.heap.size rs (diffF x y) ∧ Below w.heap.size w w'
set_option maxHeartbeats 3200000 in
set_option maxRecDepth 100000 in
theorem tokensOf_any (s : ByteArray) (w : World) (hs : s.size ≤ 20000) (hM : MaxAt w) :
    Calls Tryz.prog 70 #[.string s] w (TokensPost w s.data.toList) := by
  have hlen : s.data.toList.length = s.size := by simp
  have HLEN := Lib.hid hlen; clear hlen
  go_enter Tryz.func70, Tryz.ntmps70
  go_wp2_with fail
  refine (split_any s 10 w (by omega) hM).mono ?_
  rintro e w1 ⟨A, n, cap, rfl, hlines, hb1, _⟩
  have hM1 := hM.below hb1
  have HN := Lib.hid hlines.1
  have hn : n ≤ 20001 := by rw [HN.out]; have := splitC_length 10 s.data.toList; have := HLEN.out; omega
  go_wp2_with fail
  go_loopg [3, 11] n (fun gk v i wr => ∃ k : Nat, k + gk = n ∧ i = .int .i64 k ∧ OwnStrs wr w1.heap.size v (tokLines ((splitC 10 s.data.toList).take k)) ∧ Below w1.heap.size w1 wr)
  case atStart => exact ⟨0, by omega, rfl, by simp only [List.take_zero]; exact Owns.nil _ _, Below.refl _ _⟩
  case round =>
    obtain ⟨k, hk, rfl, hown, hb⟩ := hrel
    have HK := Lib.hid hk; clear hk
    have hkn : k ≤ n := by have := HK.out; omega
    have hzb : w.heap.size ≤ wr.heap.size := Nat.le_trans hb1.size hb.size
    by_cases hlt : k < n
    · have hlr := hlines.keep hb
      obtain ⟨gl, ol, rfl, hgl, hcl⟩ := hlr.str (by omega)
      have hline := hcl k hlt
      have hstep := tok_step s.data.toList k (by have := HN.out; omega)
      have hlel := splitC_at 10 s.data.toList k
      rw [HLEN.out] at hlel
      have hle1 := tok_le s.data.toList (k + 1)
      rw [HLEN.out] at hle1
      have HS := Lib.hid hstep; clear hstep
      generalize hline' : (splitC 10 s.data.toList).getD k [] = line at *
      have HO := Lib.hid hown; clear hown
      generalize hacc : tokLines ((splitC 10 s.data.toList).take k) = acc at *
      have HNX : Hid (tokLines ((splitC 10 s.data.toList).take (k + 1)) = acc ++ (if k = 0 then [] else [[10]]) ++ lnTok line) := HS.out
      clear HS hacc hline' hcl
      have hbnd : (acc ++ (if k = 0 then [] else [[10]]) ++ lnTok line).length ≤ 20000 := by rw [← HNX.out]; omega
      have hbnd1 : (acc ++ (if k = 0 then [] else [[10]])).length ≤ 20000 := by rw [List.length_append] at hbnd; omega
      have hbnd0 : acc.length ≤ 20000 := by rw [List.length_append] at hbnd1; omega
      clear hle1
      go_upto_if 17 with (fail)
      go_cut [3] (fun v wx => OwnStrs wx w1.heap.size v (acc ++ (if k = 0 then [] else [[10]])) ∧ Below w1.heap.size w1 wx)
      case first =>
        by_cases hk0 : k = 0
        · subst hk0
          go_wp2_with fail
          go_meet
          exact ⟨by simp only [if_true, List.append_nil]; exact HO.out, hb⟩
        · have hk1 : 0 < k := by omega
          have hpos : decide ((0 : Int) < (k : Int)) = true := by simp; omega
          go_wp2_with (at_builtin; refine append_elems strE_ok rfl _ _ rfl w1.heap.size _ acc rfl (HO.out.alloc _) (some ⟨wr.heap.size, 0, none⟩) 1 1 [[10]] rfl (one_elem wr [10]) (by simp; omega) (by have := hb.size; simp; omega) ?_; intro v4 w4 hown4 hgrow4 _)
          have hb4 : Below w1.heap.size w1 w4 := (hb.alloc hb.size _).grown hgrow4 (by have := hb.size; simp; omega) (fun i hi => (HO.out.lt i hi).1)
          go_wp2_with fail
          go_meet
          exact ⟨by rw [if_neg hk0]; exact hown4, hb4⟩
      case rest =>
        obtain ⟨hown2, hb2⟩ := hcut
        have hM2 := hM1.below hb2
        have HO2 := Lib.hid hown2; clear hown2 HO
        generalize hacc2 : acc ++ (if k = 0 then [] else [[10]]) = acc2 at *
        clear hacc2 hbnd0
        have HL : Hid (lnTok line = (splitC 32 line).filter fun w => !w.isEmpty) := rfl
        obtain ⟨wo, rfl⟩ : ∃ wo : World, wo = wc := ⟨_, rfl⟩
        obtain ⟨ko, rfl⟩ : ∃ ko : Nat, ko = gk := ⟨_, rfl⟩
        have hbs : (bag line).size ≤ 1000000 := by rw [bag_size]; omega
        go_wp2_with fail
        refine (split_any (bag line) 32 wo hbs hM2).mono ?_
        rintro e w3 ⟨A3, n3, cap3, rfl, hwords, hb3, hnew3⟩
        rw [bag_data] at hwords
        have HN3 := Lib.hid hwords.1
        have hn3 : n3 ≤ 20001 := by rw [HN3.out]; have := splitC_length 32 line; omega
        have hown3 : OwnStrs w3 w1.heap.size u3 acc2 := HO2.out.below_ hb3
        have hb13 : Below w1.heap.size w1 w3 := hb2.trans (hb3.mono hb2.size)
        have hap3 : ApartOf A3 u3 := fun g off hA e => by have := (HO2.out.lt g e).2; have := hnew3 g off hA; omega
        clear hnew3
        have hfl : ∀ j, (acc2 ++ ((splitC 32 line).take j).filter fun w => !w.isEmpty).length ≤ 20000 := fun j => by
          have := filter_take_le (splitC 32 line) j
          rw [List.length_append, HL.out] at hbnd
          rw [List.length_append]; omega
        have HFL := Lib.hid hfl; clear hfl HO2 hbnd hb2 hb
        go_wp2_with fail
        go_loopg [3, 24] n3 (fun gk v i wr => ∃ j : Nat, j + gk = n3 ∧ i = .int .i64 j ∧ OwnStrs wr w1.heap.size v (acc2 ++ ((splitC 32 line).take j).filter fun w => !w.isEmpty) ∧ Below w1.heap.size w1 wr ∧ StrsAt wr A3 n3 cap3 (splitC 32 line) ∧ ApartOf A3 v)
        case atStart => exact ⟨0, by omega, rfl, by simp only [List.take_zero, List.filter_nil, List.append_nil]; exact hown3, hb13, hwords, hap3⟩
        case round =>
          obtain ⟨j, hj, rfl, hownj, hbj, hwj, hap⟩ := hrel
          have HJ := Lib.hid hj; clear hj
          have hjn : j ≤ n3 := by have := HJ.out; omega
          have HOJ := Lib.hid hownj; clear hownj
          by_cases hjl : j < n3
          · obtain ⟨gw, ow, rfl, hgw, hcw⟩ := hwj.str (by omega)
            have hword := hcw j hjl
            have hsn := filter_snoc (splitC 32 line) j (by have := HN3.out; omega)
            have hbd := HFL.out j
            have HAP := Lib.hid hap; clear hap hcw
            generalize (splitC 32 line).getD j [] = word at *
            have HSN := Lib.hid hsn; clear hsn
            have hzj := hbj.size
            by_cases hw0 : word = []
            · subst hw0
              go_wp2_with fail
              go_roundg (gk - 1)
              case measure => have := HJ.out; omega
              case rel => exact ⟨j + 1, by have := HJ.out; omega, by go_num, by rw [HSN.out]; simp only [if_true, List.append_nil]; exact HOJ.out, hbj, hwj, HAP.out⟩
            · have e1 : (!word.isEmpty) = true := by cases word with | nil => exact absurd rfl hw0 | cons => rfl
              go_wp2_with (at_builtin; refine append_elems strE_ok rfl _ _ rfl w1.heap.size _ _ rfl (HOJ.out.alloc _) (some ⟨wr.heap.size, 0, none⟩) 1 1 [word] rfl (one_elem wr word) (by simp only [List.length_singleton]; omega) (by simp; omega) ?_; intro v4 w4 hown4 hgrow4 hv4)
              have hb4 : Below w1.heap.size w1 w4 := (hbj.alloc hbj.size _).grown hgrow4 (by simp; omega) (fun i hi => (HOJ.out.lt i hi).1)
              have hw4 : StrsAt w4 (some ⟨gw, ow, none⟩) n3 cap3 (splitC 32 line) := (hwj.keep ((Below.refl _ _).alloc (Nat.le_refl _) _)).grown hgrow4 (fun g off hA e => HAP.out g off hA e)
              have hap4 : ApartOf (some ⟨gw, ow, none⟩) v4 := fun g off hA e => by
                rcases hv4 with h | h
                · exact HAP.out g off hA (h ▸ e)
                · rw [h] at e
                  cases hA
                  simp at e
                  omega
              have HO4 := Lib.hid hown4; clear hown4
              go_wp2_with fail
              go_roundg (gk - 1)
              case measure => have := HJ.out; omega
              case rel => exact ⟨j + 1, by have := HJ.out; omega, by go_num, by rw [HSN.out, if_neg hw0, ← List.append_assoc]; exact HO4.out, hb4, hw4, hap4⟩
          · obtain rfl : j = n3 := by omega
            go_wp2_with fail
            go_roundg (ko - 1)
            case measure => have := HK.out; omega
            case rel => exact ⟨k + 1, by have := HK.out; omega, by go_num, by rw [HNX.out, HL.out]; have := HOJ.out; rw [List.take_of_length_le (by have := HN3.out; omega)] at this; exact this, hbj⟩
    · obtain rfl : k = n := by omega
      go_wp2_with fail
      go_ret
      rw [List.take_of_length_le (by have := HN.out; omega)] at hown
      exact ⟨_, rfl, hown.base_ hb1.size, hb1.trans (hb.mono hb1.size)⟩

set_option maxHeartbeats 6400000 in
set_option maxRecDepth 100000 in
theorem differOf_is (s t : ByteArray) (w : World) (hs : s.size ≤ 2000) (ht : t.size ≤ 2000) (hM : MaxAt w) :
    Calls Tryz.prog 38 #[.string s, .string t] w (DifferIs w (tokL s.data.toList) (tokL t.data.toList)) := by
  have hxn := tokL_length s.data.toList
  have hyn := tokL_length t.data.toList
  have e1 : s.data.toList.length = s.size := by simp
  have e2 : t.data.toList.length = t.size := by simp
  rw [e1] at hxn
  rw [e2] at hyn
  clear e1 e2
  have HT1 : Hid (Calls Tryz.prog 70 #[.string s] w fun e w' => ∃ v, e = .returned v ∧ OwnStrs w' w.heap.size v (tokL s.data.toList) ∧ Below w.heap.size w w') := tokensOf_any s w (by omega) hM
  have HT2 : Hid (∀ wx, MaxAt wx → Calls Tryz.prog 70 #[.string t] wx fun e w' => ∃ v, e = .returned v ∧ OwnStrs w' wx.heap.size v (tokL t.data.toList) ∧ Below wx.heap.size wx w') := fun wx h => tokensOf_any t wx (by omega) h
  have HMX := Lib.hid hM
  clear hM
  generalize tokL s.data.toList = x at *
  generalize tokL t.data.toList = y at *
  go_enter Tryz.func38, Tryz.ntmps38
  go_wp2_with fail
  refine HT1.out.mono ?_
  rintro e wa ⟨va, rfl, hoa, hba⟩
  obtain ⟨A, c, rfl, qa1, hata, qa2⟩ := hoa.at_ strE_ok
  have HOA := Lib.hid hata
  have HBA := Lib.hid hba
  clear qa1 qa2 hoa hata hba HT1
  go_wp2_with fail
  refine (HT2.out wa (HMX.out.below HBA.out)).mono ?_
  rintro e wb ⟨vb, rfl, hob, hbb⟩
  obtain ⟨B, d, rfl, qb1, hatb, qb2⟩ := hob.at_ strE_ok
  have hx0 := HOA.out.keep hbb
  have hb00 : Below w.heap.size w wb := below_trans' HBA.out hbb
  have hy0 := hatb
  clear qb1 qb2 hob hatb hbb HT2 HOA HBA HMX
  obtain ⟨n, hnn⟩ : ∃ n, x.length = n := ⟨_, rfl⟩
  obtain ⟨m, hmm⟩ : ∃ m, y.length = m := ⟨_, rfl⟩
  have HX : Hid (n = x.length) := hnn.symm
  have HY : Hid (m = y.length) := hmm.symm
  have HDF : Hid (diffF x y = (chgs x y 0 0 (keptR x y n 0 0 ++ [(n, m)])).map castC) := by show _ = _; unfold diffF; rw [hnn, hmm]
  rw [hnn] at hx0 hxn ⊢
  rw [hmm] at hy0 hyn ⊢
  clear hnn hmm
  have HB00 := Lib.hid hb00
  have hzw := hb00.size
  have HWP : Hid (∀ e w', (∃ (v : Value) (rs : List RawC), e = Ending.returned v ∧ Owns ChgE w' wb.heap.size v rs ∧ ChgsOf w' wb.heap.size rs (diffF x y) ∧ Below wb.heap.size wb w') → DifferIs w x y e w') := fun e w' h => by
    obtain ⟨v, rs, h1, h2, h3, h4⟩ := h
    exact ⟨v, rs, h1, h2.base_ HB00.out.size, h3.base HB00.out.size, below_trans' HB00.out h4⟩
  have hn : n ≤ 2000 := by omega
  have hm : m ≤ 2000 := by omega
  have hx := hx0
  have hy := hy0
  clear hx0 hy0 HB00 hb00
  have HK := Lib.hid (keptOf_is A B n c m d x y wb hx hy hn hm)
  go_wp2_with fail
  refine HK.out.mono ?_
  rintro e w1 ⟨v1, li, lj, rfl, hown1, hgd, hli, hlj, hb1⟩
  rw [← HX.out] at hown1 hgd
  clear HK
  generalize hl : keptR x y n 0 0 = l at *
  have HLL := Lib.hid hl
  clear hl
  have hll : l.length ≤ 2000 := by have := hgd.length_le; have := HX.out; omega
  have HGD := Lib.hid hgd; clear hgd
  have hz1 := hb1.size
  have hone : ElemsAt PairE (w1.alloc (.cells #[.int .i64 (n : Int), .int .i64 (m : Int)] 123)) (some ⟨w1.heap.size, 0, none⟩) 1 1 [(n, m)] := by
    have h := one_elem (E := PairE) w1 (n, m)
    simpa [PairE] using h
  go_wp2_with (at_builtin; refine append_elems pairE_ok rfl _ _ rfl wb.heap.size _ l rfl (hown1.alloc _) (some ⟨w1.heap.size, 0, none⟩) 1 1 [(n, m)] rfl hone (by simp; omega) (by simp; omega) ?_; intro v2 w2 hown2 hgrow2 _; obtain ⟨Aq, cq, rfl, hcq, hatq, hnewq⟩ := hown2.at_ pairE_ok)
  have hb2 : Below wb.heap.size wb w2 := (hb1.alloc hb1.size _).grown hgrow2 (by simp; omega) (fun r hr => (hown1.lt r hr).1)
  clear hone hgrow2 hown1
  have hql : (l ++ [(n, m)]).length = l.length + 1 := by simp
  have HRI := Lib.hid (HGD.out.rises (n := n) (m := m) (by have := HX.out; omega) (by have := HY.out; omega))
  have hqb : ∀ p ∈ l ++ [(n, m)], p.1 ≤ n ∧ p.2 ≤ m := fun p hp => by
    rcases List.mem_append.1 hp with hp | hp
    · have := HGD.out.mem_le p hp; have := HX.out; have := HY.out; omega
    · simp at hp; subst hp; exact ⟨Nat.le_refl _, Nat.le_refl _⟩
  have HQB := Lib.hid hqb; clear hqb
  rw [hql] at hatq
  obtain ⟨q, hq⟩ : ∃ q, q = l ++ [(n, m)] := ⟨_, rfl⟩
  rw [← hq] at hown2 hatq hql HRI HQB HDF
  rw [hql] at hown2
  have HQN := Lib.hid hql
  clear hq hql
  go_wp2_with fail
  go_loopg [7, 8, 9, 27] (l.length + 1) (fun gk v7 v8 v9 v27 wr => ∃ (k : Nat) (rs : List RawC), Hid (k + gk = l.length + 1) ∧ v27 = .int .i64 k ∧ v8 = .int .i64 ((endp 0 0 (q.take k)).1 : Nat) ∧ v9 = .int .i64 ((endp 0 0 (q.take k)).2 : Nat) ∧ Owns ChgE wr wb.heap.size v7 rs ∧ ChgsOf wr wb.heap.size rs ((chgs x y 0 0 (q.take k)).map castC) ∧ Owns PairE wr wb.heap.size (.slice Aq (l.length + 1) cq) q ∧ Below wb.heap.size wb wr)
  case atStart => exact ⟨0, [], show 0 + (l.length + 1) = l.length + 1 by omega, rfl, rfl, rfl, Owns.nil _ _, ChgsOf.nil _ _, hown2, hb2⟩
  case round =>
    obtain ⟨k, rs, HK, rfl, rfl, rfl, hown, hcs, hpr, hb⟩ := hrel
    clear hown2 hb2 hatq
    have hzb := hb.size
    have hkn : k ≤ l.length + 1 := by have := HK.out; omega
    by_cases hlt : k < l.length + 1
    · obtain ⟨A', c', he, hcm, hat, hnew⟩ := hpr.at_ pairE_ok
      rw [HQN.out] at he hat
      cases he
      clear hcm hnew
      obtain ⟨gq, oq, rfl, hgq, hcell⟩ := hat.2.2.2 (by omega)
      obtain ⟨rfl, _⟩ := hnewq gq oq rfl
      clear hnewq
      have hd : decide ((k : Int) < (l.length : Int) + 1) = true := by simp; omega
      have hd2 : (k : Int) < (l.length : Int) + 1 := by omega
      obtain ⟨p, hp⟩ : ∃ p, q[k]? = some p := ⟨_, List.getElem?_eq_getElem (by have := HQN.out; omega)⟩
      have c1 := hcell k p 0 (.int .i64 p.1) hp rfl
      have c2 := hcell k p 1 (.int .i64 p.2) hp rfl
      have hpb := HQB.out p (List.mem_of_getElem? hp)
      have hri := HRI.out k p hp
      have htk : q.take (k + 1) = q.take k ++ [p] := by
        rw [List.take_succ_eq_append_getElem (by have := HQN.out; omega)]
        obtain ⟨h1, h2⟩ := List.getElem?_eq_some_iff.1 hp
        rw [h2]
      have HE1 : Hid ((endp 0 0 (q.take (k + 1))).1 = p.1 + 1) := by show _ = _; rw [htk, endp_snoc]
      have HE2 : Hid ((endp 0 0 (q.take (k + 1))).2 = p.2 + 1) := by show _ = _; rw [htk, endp_snoc]
      have HC : Hid (chgs x y 0 0 (q.take (k + 1)) = chgs x y 0 0 (q.take k) ++ (if (endp 0 0 (q.take k)).1 < p.1 ∨ (endp 0 0 (q.take k)).2 < p.2 then [((endp 0 0 (q.take k)).1, seg x (endp 0 0 (q.take k)).1 p.1, seg y (endp 0 0 (q.take k)).2 p.2)] else [])) := by show _ = _; rw [htk, chgs_snoc]
      clear htk hp hcell hat
      obtain ⟨p1, p2⟩ := p
      simp only at hpb hri HE1 HE2 HC c1 c2
      have hcl : (chgs x y 0 0 (q.take k)).length ≤ 2001 := by have h2 := chgs_length x y (q.take k) 0 0; rw [List.length_take] at h2; omega
      generalize (endp 0 0 (q.take k)).1 = i at *
      generalize (endp 0 0 (q.take k)).2 = j at *
      generalize chgs x y 0 0 (q.take k) = cs at *
      have hPE : PairE.size = 2 := rfl
      rw [hPE] at c1 c2
      rw [Nat.add_zero, Nat.zero_add] at c1
      rw [Nat.zero_add] at c2
      clear hPE
      have HO := Lib.hid hown; clear hown
      have HCS := Lib.hid hcs; clear hcs
      have HPR := Lib.hid hpr; clear hpr
      have hrl : rs.length ≤ 2001 := by have h1 := HCS.out.1; rw [List.length_map] at h1; omega
      have hrg : wr.rangeAt gq (k * 2) [.int .i64 (p1 : Int), .int .i64 (p2 : Int)] := fun t v hv => by
        match t, hv with
        | 0, hv => simp at hv; subst hv; exact c1
        | 1, hv => simp at hv; subst hv; exact c2
        | t + 2, hv => simp at hv
      clear c1 c2
      go_upto_region 7 with (refine wpList_load_mid rfl 123 _ rfl gq (k * 2) rfl [.int .i64 (p1 : Int), .int .i64 (p2 : Int)] _ hrg Tryz.underlying123 rfl (by kernel_rfl) ?_)
      clear hrg
      have hblk : (wr.alloc (.cells #[.int .i64 (p1 : Int), .int .i64 (p2 : Int)] 123)).heap[wr.heap.size]? = some (.cells #[.int .i64 (p1 : Int), .int .i64 (p2 : Int)] 123 (0, 0)) := heap_alloc_new wr _
      have HO0 : Hid (Owns ChgE (wr.alloc (.cells #[.int .i64 (p1 : Int), .int .i64 (p2 : Int)] 123)) wb.heap.size u7 rs) := HO.out.alloc _
      have hbw : Below wr.heap.size wr (wr.alloc (.cells #[.int .i64 (p1 : Int), .int .i64 (p2 : Int)] 123)) := (Below.refl _ _).alloc (Nat.le_refl _) _
      have HCS0 := Lib.hid (HCS.out.below hbw)
      have HPR0 := Lib.hid (HPR.out.below_ hbw)
      have hb0 : Below wb.heap.size wb (wr.alloc (.cells #[.int .i64 (p1 : Int), .int .i64 (p2 : Int)] 123)) := hb.trans (hbw.mono hb.size)
      have hz0 : wr.heap.size < (wr.alloc (.cells #[.int .i64 (p1 : Int), .int .i64 (p2 : Int)] 123)).heap.size := by simp
      clear hbw HO HCS HPR
      generalize wr.heap.size = P at *
      generalize wr.alloc (.cells #[.int .i64 (p1 : Int), .int .i64 (p2 : Int)] 123) = w0 at *
      have e1 : w0.cell? ⟨P, 0, none⟩ = some (.int .i64 (p1 : Int)) := by rw [cell_of_row w0 P 0 _ _ _ hblk]; rfl
      have e2 : w0.cell? ⟨P, 1, none⟩ = some (.int .i64 (p2 : Int)) := by rw [cell_of_row w0 P 1 _ _ _ hblk]; rfl
      go_cut [40] (fun v wx => v = .bool (decide (i < p1 ∨ j < p2)) ∧ w0 = wx)
      case first =>
        by_cases h1 : i < p1
        · go_wp2_with fail
          go_meet
          exact ⟨by simp [h1], rfl⟩
        · go_wp2_with fail
          go_meet
          exact ⟨by simp [h1], rfl⟩
      case rest =>
        obtain ⟨rfl, rfl⟩ := hcut
        go_upto_if 40 with (fail)
        go_cut [7] (fun v wx => ∃ rs' : List RawC, Owns ChgE wx wb.heap.size v rs' ∧ ChgsOf wx wb.heap.size rs' ((cs ++ (if i < p1 ∨ j < p2 then [(i, seg x i p1, seg y j p2)] else [])).map castC) ∧ Owns PairE wx wb.heap.size (.slice (some ⟨gq, 0, none⟩) (l.length + 1) cq) q ∧ Below wb.heap.size wb wx ∧ wx.heap[P]? = some (.cells #[.int .i64 (p1 : Int), .int .i64 (p2 : Int)] 123 (0, 0)))
        case first =>
          by_cases hc : i < p1 ∨ j < p2
          · have hor : decide (i < p1 ∨ j < p2) = true := by simpa using hc
            obtain ⟨A1, ha1, hat1⟩ := (hx.keep hb0).piece i p1 hri.1 hpb.1
            obtain ⟨B1, hb1', hat2⟩ := (hy.keep hb0).piece j p2 hri.2 hpb.2
            have hs1 := sl_mid A n c i p1 hri.1 (by have := hx.2.1; omega) _ ha1
            have hs2 := sl_mid B m d j p2 hri.2 (by have := hy.2.1; omega) _ hb1'
            have HAT1 : Hid (StrsAt w0 A1 (p1 - i) (c - i) (seg x i p1)) := hat1
            have HAT2 : Hid (StrsAt w0 B1 (p2 - j) (d - j) (seg y j p2)) := hat2
            clear hat1 hat2 ha1 hb1'
            have hbd := build_chg
            have hbs := slice_chg
            go_wp2_with fail
            go_region_held3 (fun w' => w'.cell? ⟨P, 0, none⟩ = some (.int .i64 (p1 : Int)) ∧ w'.cell? ⟨P, 1, none⟩ = some (.int .i64 (p2 : Int)))
              (go_keep)
              (first
                | (go_at_call 40; (with_reducible refine Calls.mono (clone_any A1 (p1 - i) (c - i) (seg x i p1) _ ?_ (by omega)) ?_); (first | exact HAT1.out | exact HAT1.out.keep hy0); rintro e wx ⟨vx, rfl, hownx, hbx⟩; obtain ⟨Ax, cx, rfl, hq1, hq2, hq3⟩ := hownx.at_ strE_ok; clear hq1 hq2 hq3; have hx0 : Below w0.heap.size w0 wx := (by first | exact below_undrew hbx | exact hy0.trans (hbx.mono hy0.size)); have kx1 := (hx0.cell (p := ⟨P, 0, none⟩) hz0).trans e1; have kx2 := (hx0.cell (p := ⟨P, 1, none⟩) hz0).trans e2)
                | (go_at_call 40; (with_reducible refine Calls.mono (clone_any B1 (p2 - j) (d - j) (seg y j p2) _ ?_ (by omega)) ?_); (first | exact HAT2.out | exact HAT2.out.keep hx0); rintro e wy ⟨vy, rfl, howny, hby⟩; obtain ⟨By, cy, rfl, hq1, hq2, hq3⟩ := howny.at_ strE_ok; clear hq1 hq2 hq3; have hy0 : Below w0.heap.size w0 wy := (by first | exact below_undrew hby | exact hx0.trans (hby.mono hx0.size)); have ky1 := (hy0.cell (p := ⟨P, 0, none⟩) hz0).trans e1; have ky2 := (hy0.cell (p := ⟨P, 1, none⟩) hz0).trans e2)
                | (refine step_elems chgE_ok (by rfl) _ _ (by rfl) wb.heap.size u7 rs (by rfl) ?_ _ 1 1 [((i : Int), (Ax, (seg x i p1).length, cx), (By, (seg y j p2).length, cy))] (by rfl) ?_ (by omega) ?_ ?_ ?_; (first | exact (HO0.out.below_ hy0).alloc _ | exact (HO0.out.below_ hx0).alloc _); (first | exact one_elem (E := ChgE) wy _ | exact one_elem (E := ChgE) wx _); (simp only [List.length_singleton]; omega); (have h1 := hx0.size; have h2 := hy0.size; have h3 := hb0.size; simp; omega); intro v5 w5 hown5 hgrow5 hv5; have fin := (by first | exact chg_done hb0 HO0.out HCS0.out HPR0.out hblk hy0 ((hownx.below_ hby).base_ hb0.size) (howny.base_ (Nat.le_trans hb0.size hx0.size)) hgrow5 hown5 | exact chg_done hb0 HO0.out HCS0.out HPR0.out hblk hx0 (hownx.base_ (Nat.le_trans hb0.size hy0.size)) ((howny.below_ hbx).base_ hb0.size) hgrow5 hown5 : Owns ChgE w5 wb.heap.size v5 (rs ++ [((i : Int), (Ax, (seg x i p1).length, cx), (By, (seg y j p2).length, cy))]) ∧ ChgsOf w5 wb.heap.size (rs ++ [((i : Int), (Ax, (seg x i p1).length, cx), (By, (seg y j p2).length, cy))]) (cs.map castC ++ [((i : Int), seg x i p1, seg y j p2)]) ∧ Owns PairE w5 wb.heap.size (.slice (some ⟨gq, 0, none⟩) (l.length + 1) cq) q ∧ Below wb.heap.size wb w5 ∧ w5.heap[P]? = some (.cells #[.int .i64 (p1 : Int), .int .i64 (p2 : Int)] 123 (0, 0))); have kw1 : w5.cell? ⟨P, 0, none⟩ = some (.int .i64 (p1 : Int)) := (by rw [cell_of_row w5 P 0 _ _ _ fin.2.2.2.2]; rfl); have kw2 : w5.cell? ⟨P, 1, none⟩ = some (.int .i64 (p2 : Int)) := (by rw [cell_of_row w5 P 1 _ _ _ fin.2.2.2.2]; rfl); have FIN := Lib.hid fin; clear fin hown5 hgrow5 hv5))
            all_goals
              go_wp2_with fail
              go_meet
              exact ⟨_, FIN.out.1, by rw [if_pos hc, List.map_append]; exact FIN.out.2.1, FIN.out.2.2⟩
          · have hor : decide (i < p1 ∨ j < p2) = false := by simpa using hc
            go_wp2_with fail
            go_meet
            exact ⟨rs, HO0.out, by rw [if_neg hc, List.append_nil]; exact HCS0.out, HPR0.out, hb0, hblk⟩
        case rest =>
          obtain ⟨rs', hown', hcs', hpr', hb', hblk'⟩ := hcut
          have d1 : wc.cell? ⟨P, 0, none⟩ = some (.int .i64 (p1 : Int)) := by rw [cell_of_row wc P 0 _ _ _ hblk']; rfl
          have d2 : wc.cell? ⟨P, 1, none⟩ = some (.int .i64 (p2 : Int)) := by rw [cell_of_row wc P 1 _ _ _ hblk']; rfl
          have s1 : IntKind.i64.wrap ((p1 : Int) + 1) = (p1 : Int) + 1 := IntWalk.i64_in _ (by omega)
          have s2 : IntKind.i64.wrap ((p2 : Int) + 1) = (p2 : Int) + 1 := IntWalk.i64_in _ (by omega)
          have HOW := Lib.hid hown'; clear hown'
          have HCS2 := Lib.hid hcs'; clear hcs'
          have HPR2 := Lib.hid hpr'; clear hpr' hblk hblk'
          go_wp2_with fail
          go_quiet (fail)
          go_wp2_with fail
          go_roundg (gk - 1)
          case measure => have := HK.out; omega
          case rel => exact ⟨k + 1, rs', show k + 1 + (gk - 1) = l.length + 1 by have := HK.out; omega, by go_num, by rw [HE1.out]; go_num, by rw [HE2.out]; go_num, HOW.out, by rw [HC.out]; exact HCS2.out, HPR2.out, below_drewN hb' _⟩
    · have hke : k = l.length + 1 := by omega
      have HKE := Lib.hid hke; clear hke
      have hd : decide ((k : Int) < (l.length : Int) + 1) = false := by simp; omega
      rw [List.take_of_length_le (by have := HQN.out; have := HKE.out; omega)] at hcs
      go_wp2_with fail
      go_ret
      exact HWP.out _ _ ⟨_, rs, rfl, hown, by rw [HDF.out]; exact hcs, hb⟩

end Go.Proofs.YtmaimojpjepmjaaGreatDoor
