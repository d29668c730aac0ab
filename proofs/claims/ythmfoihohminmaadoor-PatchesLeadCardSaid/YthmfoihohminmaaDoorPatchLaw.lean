
/-
  PatchesLead returns true.
-/
import Derived.Test.YthmfoihohminmaaDoorPatchFns
import Derived.Test.YthmfoihohminmaaDoorNears
import Derived.Test.YthmfoihohminmaaDoorProse
import Derived.Test.YthmfoihohminmaaDoorStreamNew
namespace Go.Proofs.YthmfoihohminmaaDoor
open Go.RowKit

theorem ChgsRd.keep {w w' : World} {rs : List RawC} {cs : List (Chg (List UInt8))} (h : ChgsRd w rs cs) (hb : Below w.heap.size w w') : ChgsRd w' rs cs :=
  ⟨h.1, fun k r c h1 h2 => ⟨(h.2 k r c h1 h2).1, (h.2 k r c h1 h2).2.1.keep hb, (h.2 k r c h1 h2).2.2.keep hb⟩⟩

section
variable {α : Type}
theorem moreL_abs : ∀ cs : List (Chg α), -(movedL cs : Int) ≤ moreL cs ∧ moreL cs ≤ (movedL cs : Int)
  | [] => by simp [moreL, movedL]
  | c :: cs => by have := moreL_abs cs; simp only [moreL, movedL]; omega
theorem movedL_take (cs : List (Chg α)) (k : Nat) : movedL (cs.take k) ≤ movedL cs := by
  have := movedL_append (cs.take k) (cs.drop k)
  rw [List.take_append_drop] at this; omega
theorem movedL_mem : ∀ (cs : List (Chg α)) (c : Chg α), c ∈ cs → c.2.1.length + c.2.2.length ≤ movedL cs
  | [], c, h => by simp at h
  | d :: cs, c, h => by
    simp only [movedL]
    rcases List.mem_cons.1 h with rfl | h
    · omega
    · have := movedL_mem cs c h; omega
end

/-- What the changes of two token lists are good for. -/
structure Leads (x y : List (List UInt8)) (cs : List (Chg (List UInt8))) : Prop where
  ok : okc x 0 cs
  ends : pat x 0 cs = y
  mem : ∀ c ∈ cs, ∀ t ∈ c.2.2, t ∈ y
theorem leads_of {x y : List (List UInt8)} {l : List (Nat × Nat)} {i j : Nat} (hg : GoodTo x y 0 0 l i j) (hi : i ≤ x.length) (hj : j ≤ y.length) : Leads x y (chgs x y 0 0 (l ++ [(x.length, y.length)])) := by
  obtain ⟨h1, h2⟩ := lead x y l 0 0 i j hg hi hj
  exact ⟨h1, by rw [h2]; rfl, fun c hc => (chgs_mem x y _ 0 0 c hc).2⟩
theorem back_of {x y : List (List UInt8)} {l : List (Nat × Nat)} {i j : Nat} (hg : GoodTo x y 0 0 l i j) (hi : i ≤ x.length) (hj : j ≤ y.length) :
    ∃ ds, turnL 0 (chgs x y 0 0 (l ++ [(x.length, y.length)])) = ds.map castC ∧ Leads y x ds ∧ ds.length ≤ l.length + 1 := by
  refine ⟨chgs y x 0 0 (l.map swapP ++ [(y.length, x.length)]), ?_, leads_of hg.swap hj hi, by have := chgs_length y x (l.map swapP ++ [(y.length, x.length)]) 0 0; simpa using this⟩
  have h := turnL_chgs x y (l ++ [(x.length, y.length)]) 0 0 (fun p hp => by
    rcases List.mem_append.1 hp with hp | hp
    · have := hg.mem_le p hp; omega
    · simp at hp; subst hp; exact ⟨Nat.le_refl _, Nat.le_refl _⟩) (hg.rises hi hj)
  rw [List.map_append] at h
  exact h
theorem bnd_of {x y : List (List UInt8)} {l : List (Nat × Nat)} {i j : Nat} (hg : GoodTo x y 0 0 l i j) (hi : i ≤ x.length) (hj : j ≤ y.length) (hx : x.length ≤ 2000) (hy : y.length ≤ 2000) :
    ∀ k c, (chgs x y 0 0 (l ++ [(x.length, y.length)]))[k]? = some c → c.2.1.length ≤ 5000 ∧ c.2.2.length ≤ 5000 ∧ c.1 ≤ 5000 ∧ -5000 ≤ moreL ((chgs x y 0 0 (l ++ [(x.length, y.length)])).take k) ∧ moreL ((chgs x y 0 0 (l ++ [(x.length, y.length)])).take k) ≤ 5000 := by
  intro k c hc
  have hl := leads_of hg hi hj
  have hm := moved_chgs x y l 0 0 i j hg hi hj
  generalize chgs x y 0 0 (l ++ [(x.length, y.length)]) = cs at *
  have h1 := movedL_mem cs c (List.mem_of_getElem? hc)
  have h2 := movedL_take cs k
  have h3 := moreL_abs (cs.take k)
  obtain ⟨_, _, h4, _⟩ := okc_at x cs 0 ([], 0) k c hl.ok (Nat.le_refl _) hc
  omega


set_option maxHeartbeats 6400000 in
set_option maxRecDepth 100000 in
theorem patches_any (A : Option Addr) (n c : Nat) (w : World) (hrow : RowAt w A n) (hbig : n ≤ 1000000000000000) (hM : MaxAt w) :
    Calls Tryd.prog 3 #[.slice A n c] w (LawPost w) := by
  have hs0 := stream_new w A n c hrow hbig
  have hb0 : Below w.heap.size w (w.alloc (.cells #[.slice A n c, .int .i64 0] 25)) := (Below.refl _ _).alloc (Nat.le_refl _) _
  have hrr : ∀ k, some w.heap.size = some k → w.heap.size ≤ k := fun k hk => by injection hk with hk; omega
  clear hrow
  go_enter Tryd.func3, Tryd.ntmps3
  go_wp2_with fail
  refine (prose_any w.heap.size A n c 0 14 _ hs0 (by omega) (by omega)).mono ?_
  rintro e w1 ⟨a, rfl, ha, hs1, hg1⟩
  have hb1 : Below w.heap.size w w1 := hb0.grown hg1 hb0.size hrr
  clear hs0 hb0 hg1
  go_wp2_with fail
  refine (changed_any w.heap.size A n c _ a ⟨#[97, 98, 99, 32, 120, 10]⟩ w1 hs1 (by omega) (by omega) (by decide) (by decide)).mono ?_
  rintro e w2 ⟨a', rfl, ha', hs2, hg2⟩
  have hb2 : Below w.heap.size w w2 := hb1.grown hg2 hb1.size hrr
  have ha2 : a'.size ≤ 200 := by have : (⟨#[97, 98, 99, 32, 120, 10]⟩ : ByteArray).size = 6 := rfl
                                 omega
  clear hs1 hb1 hg2 ha'
  go_wp2_with fail
  refine (changed_any w.heap.size A n c _ a' ⟨#[100, 32]⟩ w2 hs2 (by omega) (by omega) (by decide) (by decide)).mono ?_
  rintro e w3 ⟨b, rfl, hb', hs3, hg3⟩
  have hb3 : Below w.heap.size w w3 := hb2.grown hg3 hb2.size hrr
  have hbs : b.size ≤ 300 := by have : (⟨#[100, 32]⟩ : ByteArray).size = 2 := rfl
                                omega
  clear hs2 hb2 hg3 hb' hs3 hrr
  have hM3 := hM.below hb3
  go_wp2_with fail
  refine (differ_any a b w3 (by omega) (by omega) hM3).mono ?_
  rintro e w4 ⟨v6, rs, l, i, j, rfl, ho4, hcs4, hgd, hi, hj, hln, hb4⟩
  have hb4' : Below w.heap.size w w4 := below_trans' hb3 hb4
  have hxo := tokL_ok a.data.toList
  have hyo := tokL_ok b.data.toList
  have hxl := tokL_lens a.data.toList
  have hyl := tokL_lens b.data.toList
  have hxn := tokL_length a.data.toList
  have hyn := tokL_length b.data.toList
  have ea : a.data.toList.length = a.size := by simp
  have eb : b.data.toList.length = b.size := by simp
  rw [ea] at hxl hxn
  rw [eb] at hyl hyn
  clear ea eb
  have HLD := Lib.hid (leads_of hgd hi hj)
  have HBK := Lib.hid (back_of hgd hi hj)
  have HBN := Lib.hid (bnd_of hgd hi hj (by omega) (by omega))
  have hmv := moved_chgs (tokL a.data.toList) (tokL b.data.toList) l 0 0 i j hgd hi hj
  rw [hln] at hmv
  have HMV := Lib.hid hmv; clear hmv
  have HSY := Lib.hid (lcs_symm (tokL a.data.toList) (tokL b.data.toList))
  have hlcl := lcs_le (tokL a.data.toList) (tokL b.data.toList)
  have hcl := chgs_length (tokL a.data.toList) (tokL b.data.toList) (l ++ [((tokL a.data.toList).length, (tokL b.data.toList).length)]) 0 0
  have hll := hgd.length_le
  rw [List.length_append] at hcl
  simp only [List.length_singleton] at hcl
  clear hgd
  generalize hcsd : chgs (tokL a.data.toList) (tokL b.data.toList) 0 0 (l ++ [((tokL a.data.toList).length, (tokL b.data.toList).length)]) = cs at *
  clear hcsd
  obtain ⟨A6, c6, rfl, q1, hat4, q2⟩ := ho4.at_ chgE_ok
  clear q1 q2 ho4
  have HAT4 := Lib.hid hat4; clear hat4
  have HRD4 := Lib.hid hcs4.rd
  have hrl : rs.length ≤ 400 := by have h := hcs4.1; rw [List.length_map] at h; omega
  clear hcs4 hln
  have HXO := Lib.hid hxo; clear hxo
  have HYO := Lib.hid hyo; clear hyo
  go_wp2_with fail
  refine (patch_any a A6 rs.length c6 rs cs (tokL b.data.toList) w4 (by omega) (hM.below hb4') HAT4.out HRD4.out HLD.out.ok HLD.out.ends HYO.out (by omega) HLD.out.mem (by omega)).mono ?_
  rintro e w5 ⟨rfl, hb5⟩
  have HAT5 := Lib.hid (HAT4.out.keep hb5)
  have HRD5 := Lib.hid (HRD4.out.keep hb5)
  have hb5' : Below w.heap.size w w5 := below_trans' hb4' hb5
  clear HAT4 HRD4 hb5 hb4 hb4'
  go_wp2_with fail
  refine (turn_any a A6 rs.length c6 rs cs (tokL b.data.toList) w5 (by omega) (hM.below hb5') HAT5.out HRD5.out HLD.out.ok HLD.out.ends HYO.out (by omega) HLD.out.mem (by omega) HBN.out).mono ?_
  rintro e w6 ⟨v10, rs2, rfl, ho6, hcs6, hb6⟩
  obtain ⟨ds, hds, hld2, hdl⟩ := HBK.out
  rw [hds] at hcs6
  clear HBK hds
  have HLD2 := Lib.hid hld2; clear hld2
  have HAT6 := Lib.hid (HAT5.out.keep hb6)
  have HRD6 := Lib.hid (HRD5.out.keep hb6)
  have hb6' : Below w.heap.size w w6 := below_trans' hb5' hb6
  clear HAT5 HRD5 hb6 hb5'
  obtain ⟨A10, c10, rfl, q1, hatb, q2⟩ := ho6.at_ chgE_ok
  clear q1 q2 ho6
  have HATB := Lib.hid hatb; clear hatb
  have HRDB := Lib.hid hcs6.rd
  have hrl2 : rs2.length ≤ 400 := by have h := hcs6.1; rw [List.length_map] at h; omega
  clear hcs6
  have hjl := joinL_lens (tokL b.data.toList)
  have htd := bag_data (joinL (tokL b.data.toList))
  have hty : tokL (bag (joinL (tokL b.data.toList))).data.toList = tokL b.data.toList := by rw [htd]; exact tokL_joinL _ HYO.out
  have HTY := Lib.hid hty; clear hty htd
  have htsz : (bag (joinL (tokL b.data.toList))).size ≤ 2000 := by rw [bag_size]; omega
  go_wp2_with fail
  refine (patch_any (bag (joinL (tokL b.data.toList))) A10 rs2.length c10 rs2 ds (tokL a.data.toList) w6 htsz (hM.below hb6') HATB.out HRDB.out (by rw [HTY.out]; exact HLD2.out.ok) (by rw [HTY.out]; exact HLD2.out.ends) HXO.out (by omega) HLD2.out.mem (by omega)).mono ?_
  rintro e w7 ⟨rfl, hb7⟩
  have HAT7 := Lib.hid (HAT6.out.keep hb7)
  have HRD7 := Lib.hid (HRD6.out.keep hb7)
  have hb7' : Below w.heap.size w w7 := below_trans' hb6' hb7
  clear HAT6 HRD6 HATB HRDB hb7 hb6' HTY HLD2 HLD HBN
  go_wp2_with fail
  refine (distance_any a b w7 (by omega) (by omega) (hM.below hb7')).mono ?_
  rintro e w8 ⟨rfl, hb8⟩
  have HAT8 := Lib.hid (HAT7.out.keep hb8)
  have HRD8 := Lib.hid (HRD7.out.keep hb8)
  have hb8' : Below w.heap.size w w8 := below_trans' hb7' hb8
  clear HAT7 HRD7 hb8 hb7'
  go_wp2_with fail
  refine (distance_any b a w8 (by omega) (by omega) (hM.below hb8')).mono ?_
  rintro e w9 ⟨rfl, hb9⟩
  have HAT9 := Lib.hid (HAT8.out.keep hb9)
  have HRD9 := Lib.hid (HRD8.out.keep hb9)
  have hb9' : Below w.heap.size w w9 := below_trans' hb8' hb9
  clear HAT8 HRD8 hb9 hb8'
  rw [← HSY.out]
  have hnm : ((tokL b.data.toList).length : Int) + ((tokL a.data.toList).length : Int) - 2 * (lcs (tokL a.data.toList) (tokL b.data.toList) : Nat) = (movedL cs : Int) := by have := HMV.out; omega
  have hnm2 : ((tokL a.data.toList).length : Int) + ((tokL b.data.toList).length : Int) - 2 * (lcs (tokL a.data.toList) (tokL b.data.toList) : Nat) = (movedL cs : Int) := by have := HMV.out; omega
  have hmvl : movedL cs ≤ 1000 := by have := HMV.out; omega
  rw [hnm, hnm2]
  clear hnm hnm2 HSY HMV
  go_wp2_with fail
  have hb10 : Below w9.heap.size w9 (w9.alloc (.cells #[.int .i64 0, .int .i64 0, .int .i64 0, .int .i64 0, .int .i64 0, .int .i64 0] 29)) := (Below.refl _ _).alloc (Nat.le_refl _) _
  have hzs : ∀ k, k < 6 → (w9.alloc (.cells #[.int .i64 0, .int .i64 0, .int .i64 0, .int .i64 0, .int .i64 0, .int .i64 0] 29)).cell? ⟨w9.heap.size, k, none⟩ = some (.int .i64 0) := fun k hk => by
    rw [World.cell?_alloc_at _ _ _ _ rfl]
    match k, hk with
    | 0, _ => rfl
    | 1, _ => rfl
    | 2, _ => rfl
    | 3, _ => rfl
    | 4, _ => rfl
    | 5, _ => rfl
  have HZS := Lib.hid hzs; clear hzs
  have HAT10 := Lib.hid (HAT9.out.keep hb10)
  have HRD10 := Lib.hid (HRD9.out.keep hb10)
  have hb10' : Below w.heap.size w (w9.alloc (.cells #[.int .i64 0, .int .i64 0, .int .i64 0, .int .i64 0, .int .i64 0, .int .i64 0] 29)) := below_trans' hb9' hb10
  clear HAT9 HRD9 hb10 hb9'
  generalize w9.heap.size = G at *
  generalize w9.alloc (.cells #[.int .i64 0, .int .i64 0, .int .i64 0, .int .i64 0, .int .i64 0, .int .i64 0] 29) = wA at *
  go_loopg [77] 6 (fun gk v wr => ∃ k : Nat, Hid (k + gk = 6) ∧ v = .int .i64 k ∧ wA = wr)
  case atStart => exact ⟨0, show 0 + 6 = 6 by omega, rfl, rfl⟩
  case round =>
    obtain ⟨k, HK, rfl, rfl⟩ := hrel
    have hk6 : k ≤ 6 := by have := HK.out; omega
    by_cases hlt : k < 6
    · have hcell := HZS.out k hlt
      have hlti : (k : Int) < 6 := by omega
      go_wp2_with fail
      go_roundg (gk - 1)
      case measure => have := HK.out; omega
      case rel => exact ⟨k + 1, show k + 1 + (gk - 1) = 6 by have := HK.out; omega, by go_num, rfl⟩
    · have hlti : ¬ (k : Int) < 6 := by omega
      clear HZS
      obtain ⟨ko, rfl⟩ : ∃ ko : Nat, ko = gk := ⟨_, rfl⟩
      have HN := Lib.hid HAT10.out.1
      have HRL := Lib.hid HRD10.out.1
      go_wp2_with fail
      go_loopg [20, 86] rs.length (fun gk v20 v86 wr => ∃ j : Nat, Hid (j + gk = rs.length) ∧ v86 = .int .i64 j ∧ v20 = .int .i64 ((movedL (cs.take j) : Nat) : Int) ∧ Below wA.heap.size wA wr)
      case atStart => exact ⟨0, show 0 + rs.length = rs.length by omega, rfl, rfl, Below.refl _ _⟩
      case round =>
        obtain ⟨j, HJ, rfl, rfl, hb⟩ := hrel
        have hjn : j ≤ rs.length := by have := HJ.out; omega
        have hmj := movedL_take cs j
        by_cases hlt2 : j < rs.length
        · obtain ⟨r, hr⟩ : ∃ r, rs[j]? = some r := ⟨_, List.getElem?_eq_getElem hlt2⟩
          obtain ⟨ch, hch⟩ : ∃ ch, cs[j]? = some ch := ⟨_, List.getElem?_eq_getElem (by have := HRL.out; omega)⟩
          obtain ⟨hr1, hrD, hrE⟩ := HRD10.out.2 j r ch hr hch
          have hmm := movedL_mem cs ch (List.mem_of_getElem? hch)
          have htk : cs.take (j + 1) = cs.take j ++ [ch] := by
            rw [List.take_succ_eq_append_getElem (by have := HRL.out; omega)]
            obtain ⟨h1, h2⟩ := List.getElem?_eq_some_iff.1 hch
            rw [h2]
          have HMO : Hid (movedL (cs.take (j + 1)) = movedL (cs.take j) + (ch.2.1.length + ch.2.2.length)) := by show _ = _; rw [htk, movedL_append]; simp [movedL]
          obtain ⟨gA, oA, hA, hgA, hcA⟩ := HAT10.out.2.2.2 (by omega)
          subst hA
          have c0 := (hb.cell (p := ⟨gA, oA + j * ChgE.size + 0, none⟩) hgA).trans (hcA j r 0 _ hr rfl)
          have c1 := (hb.cell (p := ⟨gA, oA + j * ChgE.size + 1, none⟩) hgA).trans (hcA j r 1 _ hr rfl)
          have c2 := (hb.cell (p := ⟨gA, oA + j * ChgE.size + 2, none⟩) hgA).trans (hcA j r 2 _ hr rfl)
          have hsz : ChgE.size = 3 := rfl
          rw [hsz] at c0 c1 c2
          rw [Nat.add_zero] at c0
          clear hsz hcA htk hr hch
          obtain ⟨z, ⟨D, dn, dc⟩, ⟨F, fn, fc⟩⟩ := r
          obtain ⟨za, d, e⟩ := ch
          simp only at hr1 hrD hrE HMO c0 c1 c2 hmm
          obtain rfl : dn = d.length := hrD.1
          obtain rfl : fn = e.length := hrE.1
          have c1' : wr.cell? ⟨gA, oA + j * 3 + 1, none⟩ = some (.slice D d.length dc) := c1
          have c2' : wr.cell? ⟨gA, oA + j * 3 + 2, none⟩ = some (.slice F e.length fc) := c2
          clear c1 c2 hr1 hrD hrE
          generalize movedL (cs.take j) = mj at *
          have hbn := hb.alloc hb.size (.cells #[.int .i64 z, .slice D d.length dc, .slice F e.length fc] 40)
          go_wp2_with fail
          go_roundg (gk - 1)
          case measure => have := HJ.out; omega
          case rel => exact ⟨j + 1, show j + 1 + (gk - 1) = rs.length by have := HJ.out; omega, by go_num, by rw [HMO.out]; go_num, hbn⟩
        · have hall : cs.take j = cs := List.take_of_length_le (by have := HRL.out; omega)
          have hbw : Below w.heap.size w wr := below_trans' hb10' hb
          rw [hall] at hmj ⊢
          clear hall
          generalize movedL cs = mv at *
          go_wp2_with fail
          refine (nears_any wr).mono ?_
          rintro e1 wB ⟨rfl, hbB⟩
          have hbB' : Below w.heap.size w wB := below_trans' hbw hbB
          go_wp2_with fail
          refine (tokensB_any b wB (by omega) (hM.below hbB')).mono ?_
          rintro e1 wC ⟨vC, rfl, hoC, hbC⟩
          obtain ⟨AC, cC, rfl, q1, hatC, q2⟩ := hoC.at_ strE_ok
          clear q1 q2 hoC
          have hbC' : Below w.heap.size w wC := below_trans' hbB' hbC
          go_wp2_with fail
          refine (join_any AC (tokL b.data.toList).length cC (tokL b.data.toList) wC hatC (by omega) (by omega)).mono ?_
          rintro e1 wD ⟨rfl, hbD⟩
          have hbD' : Below w.heap.size w wD := below_trans' hbC' hbD
          go_wp2_with fail
          refine (tokensB_any a wD (by omega) (hM.below hbD')).mono ?_
          rintro e1 wE ⟨vE, rfl, hoE, hbE⟩
          obtain ⟨AE, cE, rfl, q1, hatE, q2⟩ := hoE.at_ strE_ok
          clear q1 q2 hoE
          have hbE' : Below w.heap.size w wE := below_trans' hbD' hbE
          go_wp2_with fail
          refine (join_any AE (tokL a.data.toList).length cE (tokL a.data.toList) wE hatE (by omega) (by omega)).mono ?_
          rintro e1 wF ⟨rfl, hbF⟩
          have hbF' : Below w.heap.size w wF := below_trans' hbE' hbF
          go_wp2_with fail
          go_ret
          exact ⟨by simp, hbF'⟩

end Go.Proofs.YthmfoihohminmaaDoor
