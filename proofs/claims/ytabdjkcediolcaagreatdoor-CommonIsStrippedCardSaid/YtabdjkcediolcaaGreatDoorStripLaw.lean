
/-
  CommonIsStripped returns true.
-/
import Derived.Test.YtabdjkcediolcaaGreatDoorStripPlain
import Derived.Test.YtabdjkcediolcaaGreatDoorStreamNew
namespace Go.Proofs.YtabdjkcediolcaaGreatDoor
open Go.RowKit Go.Maps

theorem ElemsAt.ltB {α : Type} {E : Elem α} {w : World} {base c n : Nat} {A : Option Addr} {l : List α} (h : Owns E w base (.slice A n c) l) : ∀ g off, A = some ⟨g, off, none⟩ → g < w.heap.size := fun g off e => by
  subst e
  have := (h.lt g rfl).2
  exact this
set_option maxHeartbeats 400000 in
theorem pred_big (w : World) : PredBelow Tryz.prog 7 #[] (fun x : Body2 => .agg (BodyE.enc x).toArray) (fun x => decide (x.2.size = 20000)) w := fun W x hb => by
  show Calls Tryz.prog 7 #[.agg #[.string x.1, .string x.2]] W _
  obtain ⟨x1, x2⟩ := x
  simp only at *
  go_enter Tryz.func7, Tryz.ntmps7
  go_wp2_with fail
  go_ret
  refine ⟨ret_bool ?_, hb.alloc hb.size _⟩
  by_cases h : x2.size = 20000
  · simp [h]
  · have : ¬ (x2.size : Int) = 20000 := by omega
    simp [h, this]
set_option maxHeartbeats 400000 in
theorem containsBig_any (A : Option Addr) (n c : Nat) (l : List Body2) (w : World) (h : ElemsAt BodyE w A n c l) (hn : n ≤ 100000) :
    Calls Tryz.prog 6 #[.slice A n c, .func (.func 7) #[] #[]] w fun e w' => e = .returned (.bool (l.any fun x => decide (x.2.size = 20000))) ∧ Below w.heap.size w w' := by
  rcases Nat.eq_zero_or_pos n with h0 | h0
  · subst h0
    have hl : l = [] := List.eq_nil_of_length_eq_zero h.1.symm
    subst hl
    clear h hn
    go_enter Tryz.func6, Tryz.ntmps6
    go_wp2
    refine wp_loop_rounds 1 ?_
    rw [rounds_succ]
    go_wp2
    go_ret
    exact ⟨ret_bool rfl, Below.refl _ _⟩
  · obtain ⟨g1, off, rfl, hg1, hc1⟩ := h.2.2.2 h0
    have hl := h.1
    have eg : ∀ args w, (callFunc 7 args).run Tryz.prog w = .ok (.enter 7 args) w := enters_of Tryz.func7 (by kernel_rfl) rfl
    refine (AnyQ.slices_ContainsFunc Tryz.cfQ6 2 Tryz.isAgg30 Tryz.sizeOf30 BodyE.enc (fun _ => rfl) _ 7 _ eg g1 off n c l w (pred_big w) (by omega) (by omega) hg1 h.cellsQ).mono ?_
    rintro e w' ⟨rfl, hb⟩
    exact ⟨ret_bool (by rw [List.take_of_length_le (by omega)]), hb⟩

set_option maxHeartbeats 6400000 in
set_option maxRecDepth 100000 in
theorem stripped_any (A : Option Addr) (n c : Nat) (w : World) (hrow : RowAt w A n) (hbig : n ≤ 1000000000000000) (hM : MaxAt w) :
    Calls Tryz.prog 3 #[.slice A n c] w (LawPost w) := by
  have hs0 := stream_new w A n c hrow hbig
  have hb0 : Below w.heap.size w (w.alloc (.cells #[.slice A n c, .int .i64 0] 25)) := (Below.refl _ _).alloc (Nat.le_refl _) _
  have hz0 : (w.alloc (.cells #[.slice A n c, .int .i64 0] 25)).heap.size = w.heap.size + 1 := by simp
  have hrr : ∀ k, some w.heap.size = some k → w.heap.size ≤ k := fun k hk => by injection hk with hk; omega
  have HM := Lib.hid hM
  have hml := hM.lt
  clear hrow hM
  go_enter Tryz.func3, Tryz.ntmps3
  go_wp2_with fail
  refine (bodies_any w.heap.size A n c 0 5 _ hs0 (by omega) (by omega)).mono ?_
  rintro e w1 ⟨v4, l, rfl, hown1, hsay, hs1, hg1⟩
  have hb1 : Below w.heap.size w w1 := hb0.grown hg1 hb0.size hrr
  obtain ⟨A4, c4, rfl, q1, hat1, hnew1⟩ := hown1.at_ bodyE_ok
  have hll : l.length ≤ 31 := hsay.1
  have HSAY := Lib.hid hsay
  have HAT1 := Lib.hid hat1
  have HOW1 := Lib.hid hown1
  have HM1 := Lib.hid (HM.out.below hb1)
  clear hs0 hb0 hg1 q1 hnew1 hown1 hat1 hsay hs1 hrr HM
  go_wp2_with fail
  refine (containsBig_any A4 l.length c4 l w1 HAT1.out (by omega)).mono ?_
  rintro e w2 ⟨rfl, hb2⟩
  have hb2' : Below w.heap.size w w2 := below_trans' hb1 hb2
  have HAT2 := Lib.hid (HAT1.out.keep hb2)
  have HOW2 := Lib.hid (HOW1.out.below_ hb2)
  have HM2 := Lib.hid (HM1.out.below hb2)
  clear HAT1 HOW1 HM1 hb1 hb2
  cases hbig2 : l.any fun x => decide (x.2.size = 20000) with
  | true =>
    go_wp2_with fail
    refine (nears_any w2).mono ?_
    rintro e1 w4 ⟨rfl, hb4⟩
    go_wp2_with fail
    go_ret
    exact ⟨rfl, below_trans' hb2' hb4⟩
  | false =>
    have HNB : Hid (∀ x ∈ l, x.2.size ≠ 20000) := fun x hx => by
      have := List.any_eq_false.1 hbig2 x hx
      simpa using this
    clear hbig2
    by_cases hf : faultL l = 0
    · have HR := Lib.hid (faultL_ok l hf)
      have htot := HR.out.total
      have hl5 : l.length ≤ 5 := by
        rcases HSAY.out.2.2 with h | h
        · exact h.1
        · omega
      have HOK : Hid (∀ x ∈ l, TextOk x) := HSAY.out.2.1
      clear HSAY
      go_wp2_with fail
      refine (common_any A4 l.length c4 l w2 HAT2.out (by omega) HOK.out hf HM2.out).mono ?_
      rintro e w3 ⟨A5, n5, c5, cs, rfl, hn5, hat5, hco, hb3, hnew5⟩
      have HAT5 := Lib.hid hat5
      have HCO := Lib.hid hco
      have HOW3 := Lib.hid (HOW2.out.below_ hb3)
      have HM3 := Lib.hid (HM2.out.below hb3)
      have hb3' : Below w.heap.size w w3 := below_trans' hb2' hb3
      have HROW : Hid (∀ i, (Value.slice A4 l.length c4).ownBlock = some i → w.heap.size < i ∧ i < w2.heap.size) := fun i hi => by have := HOW2.out.lt i hi; rw [hz0] at this; omega
      have HNE5 : Hid (∀ g off, A5 = some ⟨g, off, none⟩ → (Value.slice A4 l.length c4).ownBlock ≠ some g) := fun g off e he => by have h1 := HROW.out g he; have h2 := hnew5 g off e; omega
      clear hat5 hco HOW2 HM2 hb2' hb3 HAT2 hnew5 hf hll htot
      by_cases h1000 : 1000 < n5
      · have hi : (1000 : Int) < (n5 : Int) := by omega
        go_wp2_with fail
        refine (nears_any w3).mono ?_
        rintro e1 w4 ⟨rfl, hb4⟩
        go_wp2_with fail
        go_ret
        exact ⟨rfl, below_trans' hb3' hb4⟩
      · have hi : ¬ (1000 : Int) < (n5 : Int) := by omega
        have HFORM := Lib.hid (common_forms HR.out HCO.out)
        have HRISE := Lib.hid HCO.out.rise
        go_wp2_with fail
        go_loopg [46] l.length (fun gk i wr => ∃ k : Nat, Hid (k + gk = l.length) ∧ i = .int .i64 k ∧ Hid (Owns BodyE wr (w.heap.size + 1) (.slice A4 l.length c4) (strK cs l k)) ∧ Hid (w3.grownBy wr (Value.slice A4 l.length c4).ownBlock))
        case atStart => exact ⟨0, show 0 + l.length = l.length by omega, rfl, (by show Owns _ _ _ _ _; rw [strK_zero, ← hz0]; exact HOW3.out), World.grownBy.refl _ _⟩
        case round =>
          obtain ⟨k, HK, rfl, HOK2, HG⟩ := hrel
          have hkn : k ≤ l.length := by have := HK.out; omega
          have HATR := Lib.hid (HAT5.out.grown HG.out HNE5.out)
          have HMR := Lib.hid (HM3.out.kept HG.out (fun i hi => by have := (HROW.out i hi).1; omega))
          have hbr : Below w.heap.size w wr := hb3'.grown HG.out hb3'.size (fun i hi => by have := (HROW.out i hi).1; omega)
          by_cases hlt : k < l.length
          · obtain ⟨x, hx⟩ : ∃ x, l[k]? = some x := ⟨_, List.getElem?_eq_getElem hlt⟩
            have hmem := List.mem_of_getElem? hx
            have hsx := HR.out.small x hmem
            have hnx := HNB.out x hmem
            obtain ⟨G, cG, he, hG1, hG2, hcl⟩ := HOK2.out.where_ bodyE_ok (by rw [strK_length]; omega)
            simp only [Value.slice.injEq] at he
            obtain ⟨rfl, hle, rfl⟩ := he
            clear hle
            obtain ⟨cx, fx⟩ := hcl k x 1 (.string x.2) (strK_at cs l k x hx) rfl
            have hsz : BodyE.size = 2 := rfl
            rw [hsz] at cx fx
            have HSET := Lib.hid (strK_set cs l k x hx)
            have hts : (stripL cs x.2.data.toList).length ≤ 20000 := by have := stripL_size cs x.2.data.toList; have h5 : x.2.data.toList.length = x.2.size := by simp
                                                                        omega
            have HAG := Lib.hid (stripL_again cs x.2.data.toList)
            have HTB : Hid (strB cs x = (x.1, bag (stripL cs x.2.data.toList))) := rfl
            have HXK := Lib.hid (strK_at cs l k x hx)
            clear hcl hsz hx hmem
            generalize hT : stripL cs x.2.data.toList = T at *
            have HST := Lib.hid (strip_any x.2 A5 n5 c5 cs wr hsx HATR.out (by omega) HRISE.out HFORM.out HMR.out)
            rw [hT] at HST
            go_wp2_with fail
            refine HST.out.mono ?_
            rintro e w4 ⟨rfl, hb4⟩
            have HO4 := Lib.hid (HOK2.out.below_ hb4)
            have HG4 := Lib.hid (grown_below HG.out hb4)
            have cx4 := (hb4.cell (p := ⟨G, k * 2 + 1, none⟩) hG2).trans cx
            have hG4 : G < w4.heap.size := Nat.lt_of_lt_of_le hG2 hb4.size
            have fx4 : w4.frozen? ⟨G, k * 2 + 1, none⟩ = false := by
              obtain ⟨G', cG', he', _, _, hcl'⟩ := HO4.out.where_ bodyE_ok (by rw [strK_length]; omega)
              simp only [Value.slice.injEq, Option.some.injEq, Addr.mk.injEq] at he'
              rw [he'.1.1]
              exact (hcl' k x 1 (.string x.2) HXK.out rfl).2
            clear cx fx HST
            have HO5 : Hid (Owns BodyE (w4.setCell ⟨G, k * 2 + 1, none⟩ (.string (bag T))) (w.heap.size + 1) (.slice (some ⟨G, 0, none⟩) l.length c4) (strK cs l (k + 1))) := by
              have h := HO4.out.set1 k x (bag T) HXK.out
              rw [← HTB.out, HSET.out] at h
              exact h
            have HG5 : Hid (w3.grownBy (w4.setCell ⟨G, k * 2 + 1, none⟩ (.string (bag T))) (Value.slice (some ⟨G, 0, none⟩) l.length c4).ownBlock) := grown_trans HG4.out (grown_setCell w4 G (k * 2 + 1) _)
            have HM5 := Lib.hid (HM3.out.kept HG5.out (fun i hi => by have := (HROW.out i hi).1; omega))
            have HATX := Lib.hid (HAT5.out.grown HG5.out HNE5.out)
            clear HO4 HG4 hb4 HSET HXK HTB HMR HATR hbr HOK2 HG
            go_wp2_with fail
            refine (strip_any (bag T) A5 n5 c5 cs _ (by rw [bag_size]; exact hts) HATX.out (by omega) HRISE.out HFORM.out HM5.out).mono ?_
            rintro e w6 ⟨rfl, hb6⟩
            rw [bag_data, HAG.out]
            have HO6 := Lib.hid (HO5.out.below_ hb6)
            have HG6 := Lib.hid (grown_below HG5.out hb6)
            clear HO5 HG5 HM5 HATX hb6 cx4 fx4
            go_wp2_with fail
            go_roundg (gk - 1)
            case measure => have := HK.out; omega
            case rel => exact ⟨k + 1, show k + 1 + (gk - 1) = l.length by have := HK.out; omega, by go_num, HO6.out, HG6.out⟩
          · have hke := strK_all cs l k (by omega)
            rw [hke] at HOK2
            obtain ⟨A', c', he, _, hat, _⟩ := HOK2.out.at_ bodyE_ok
            have HATB : Hid (ElemsAt BodyE wr A4 l.length c4 (l.map (strB cs))) := by
              simp only [Value.slice.injEq] at he
              obtain ⟨h1, h2, h3⟩ := he
              rw [← h1, ← h2, ← h3] at hat
              exact hat
            clear he hat hke
            go_wp2_with fail
            refine (common_any A4 l.length c4 (l.map (strB cs)) wr HATB.out (by omega) (ok_strip HR.out HOK.out) (right_fault (right_strip HR.out (by omega) HNB.out)) HMR.out).mono ?_
            rintro e w7 ⟨A7, n7, c7, left, rfl, hn7, hat7, hco7, hb7, hnew7⟩
            rw [texts_strip] at hco7
            have hleft := common_stripped HCO.out hco7
            have h7 : n7 = 0 := by rw [hat7.1, hleft]; rfl
            subst h7
            have hb7' := below_trans' hbr hb7
            clear hleft hco7 hat7 hn7 hnew7
            go_wp2_with fail
            refine (nears_any w7).mono ?_
            rintro e1 w8 ⟨rfl, hb8⟩
            go_wp2_with fail
            go_ret
            exact ⟨rfl, below_trans' hb7' hb8⟩
    · have hfb : (faultL l != 0) = true := by simpa using hf
      have hfe : (faultL l == 0) = false := by simpa using hf
      have HBF := Lib.hid (fun w' (h : ElemsAt BodyE w' A4 l.length c4 l) => bodiesFault_any A4 l.length c4 l w' h (by omega) (fun x hx => HSAY.out.2.1 x hx))
      go_wp2_with fail
      refine (common_bad A4 l.length c4 l w2 HAT2.out (by omega) (fun x hx => HSAY.out.2.1 x hx) hf).mono ?_
      rintro e w3 ⟨rfl, hb3⟩
      have HAT3 := Lib.hid (HAT2.out.keep hb3)
      have hb3' := below_trans' hb2' hb3
      generalize hz : faultL l = z at *
      clear hb3 hb2' HAT2
      go_wp2_with fail
      refine (nears_any w3).mono ?_
      rintro e1 w4 ⟨rfl, hb4⟩
      have HAT4 := Lib.hid (HAT3.out.keep hb4)
      have hb4' := below_trans' hb3' hb4
      go_wp2_with fail
      refine (HBF.out w4 HAT4.out).mono ?_
      rintro e w5 ⟨rfl, hb5⟩
      rw [hz]
      go_wp2_with fail
      go_ret
      exact ⟨rfl, below_trans' hb4' hb5⟩
end Go.Proofs.YtabdjkcediolcaaGreatDoor
