
/-
  GroupsPart returns true.
-/
import Derived.Test.YtabdjkcediolcaaGreatDoorPivot
import Derived.Test.YtabdjkcediolcaaGreatDoorStreamNew
namespace Go.Proofs.YtabdjkcediolcaaGreatDoor
open Go.RowKit Go.Maps

def RangePost (w : World) (g : Nat) (A : Option Addr) (n c K : Nat) (lo hi : Int) (e : Ending) (w' : World) : Prop :=
  ∃ r : Int, e = .returned (.int .i64 r) ∧ lo ≤ r ∧ r ≤ hi ∧ StreamAt w' g A n c (K + 1) ∧ w.grownBy w' (some g)
set_option maxHeartbeats 800000 in
theorem range_any (g : Nat) (A : Option Addr) (n c K : Nat) (lo hi : Int) (w : World) (hs : StreamAt w g A n c K) (hK : K ≤ 1000000) (h0 : 0 ≤ lo) (h1 : lo ≤ hi) (h2 : hi ≤ 1000000) :
    Calls Tryz.prog 12 #[.pointer (some ⟨g, 0, none⟩), .int .i64 lo, .int .i64 hi] w (RangePost w g A n c K lo hi) := by
  have hni : ¬ hi < lo := by omega
  have e1 : IntKind.i64.wrap (hi - lo) = hi - lo := IntWalk.i64_in _ (by omega)
  have e2 : IntKind.i64.wrap (hi - lo + 1) = hi - lo + 1 := IntWalk.i64_in _ (by omega)
  go_enter Tryz.func12, Tryz.ntmps12
  go_wp2_with fail
  refine (next_any g A n c K (hi - lo + 1) w hs hK (by omega)).mono ?_
  rintro e w2 ⟨r, rfl, hr0, hr1, hs2, hg2⟩
  have hr1 := hr1 (by omega)
  have e3 : IntKind.i64.wrap (lo + r) = lo + r := IntWalk.i64_in _ (by omega)
  go_wp2_with fail
  go_ret
  exact ⟨lo + r, rfl, by omega, by omega, hs2, hg2⟩

theorem flat_nodup {cl : List (Str × List Str)} (h : (cl.flatMap (·.2)).Nodup) {c : Str × List Str} (hc : c ∈ cl) : c.2.Nodup := by
  induction cl with
  | nil => cases hc
  | cons d cl ih =>
    rw [List.flatMap_cons, List.nodup_append] at h
    rcases List.mem_cons.1 hc with rfl | hc
    · exact h.1
    · exact ih h.2.1 hc
structure ClsOk (l : List Body2) (k least : Nat) : Prop where
  sum : ((clsL l k least).map fun c => c.2.length).sum = l.length
  few : (clsL l k least).length ≤ 10
  each : ∀ c ∈ clsL l k least, c.1 ∈ c.2 ∧ c.2.length ≤ 10 ∧ c.1.length ≤ 1000 ∧ ∀ id ∈ c.2, id.length ≤ 1000 ∧ (clsL l k least).find? (fun x => x.2.contains id) = some c ∧ enoughL (likeZ (numL l k id) (numL l k c.1)) least = true
theorem cls_ok {l : List Body2} (hr : RightB l) (hl : l.length ≤ 10) (k least : Nat) (hle : least ≤ 100) : ClsOk l k least := by
  have hs0 : ∀ s ∈ sortK (idsL l), s.length ≤ 1000 := fun s hs => idsL_short hr s ((List.mergeSort_perm _ _).mem_iff.1 hs)
  have hp1 := sortG_perm (numL l k) (sortK (idsL l)) hs0
  have hp : (sortG (numL l k) (sortK (idsL l))).Perm (idsL l) := hp1.trans (List.mergeSort_perm _ _)
  have hn := hp.nodup_iff.2 (idsL_nodup hr)
  have hlen : (sortG (numL l k) (sortK (idsL l))).length = l.length := by rw [hp.length_eq]; simp [idsL]
  have hsh : ∀ s ∈ sortG (numL l k) (sortK (idsL l)), s.length ≤ 1000 := fun s hs => hs0 s (hp1.mem_iff.1 hs)
  obtain ⟨h1, h2⟩ := groups_part (numL l k) least _ hn hle
  have hok := group_ok (numL l k) least (sortG (numL l k) (sortK (idsL l))) _ (fun p hp => hp)
  have hfew := groups_few (numL l k) least (sortG (numL l k) (sortK (idsL l))) (sortG (numL l k) (sortK (idsL l))).length
  rw [List.take_length] at hfew
  have hin : ∀ c ∈ clsL l k least, ∀ id ∈ c.2, id ∈ sortG (numL l k) (sortK (idsL l)) := fun c hc id hid => hok.sub id (hok.perm.mem_iff.1 (List.mem_flatMap.2 ⟨c, hc, hid⟩))
  have hnd : ((clsL l k least).flatMap (·.2)).Nodup := hok.perm.nodup_iff.2 hok.nodup
  refine ⟨by rw [← hlen]; exact h1, Nat.le_trans hfew (by omega), fun c hc => ?_⟩
  obtain ⟨a1, a2⟩ := h2 c hc
  refine ⟨a1, ?_, hsh _ (hin c hc _ a1), fun id hid => ⟨hsh _ (hin c hc id hid), a2 id hid⟩⟩
  have hcn : c.2.Nodup := by
    exact flat_nodup hnd hc
  have := nodup_sub_len hcn (hin c hc)
  omega
def lensTo (cl : List (Str × List Str)) (j : Nat) : Nat := ((cl.take j).map fun c => c.2.length).sum
theorem lensTo_succ (cl : List (Str × List Str)) (j : Nat) (c : Str × List Str) (h : cl[j]? = some c) : lensTo cl (j + 1) = lensTo cl j + c.2.length := by
  obtain ⟨h1, rfl⟩ := List.getElem?_eq_some_iff.1 h
  unfold lensTo
  rw [List.take_succ_eq_append_getElem h1, List.map_append, List.sum_append]
  simp

theorem lensTo_le (cl : List (Str × List Str)) (h : ∀ c ∈ cl, c.2.length ≤ 10) : ∀ j, lensTo cl j ≤ j * 10
  | 0 => by simp [lensTo]
  | j + 1 => by
    have ih := lensTo_le cl h j
    cases hh : cl[j]? with
    | none =>
      have := List.getElem?_eq_none_iff.1 hh
      have e : lensTo cl (j + 1) = lensTo cl j := by unfold lensTo; rw [List.take_of_length_le (by omega), List.take_of_length_le (by omega)]
      rw [e]; omega
    | some c =>
      have := h c (List.mem_of_getElem? hh)
      rw [lensTo_succ cl j c hh]
      omega
set_option maxHeartbeats 6400000 in
set_option maxRecDepth 100000 in
theorem groups_law (A : Option Addr) (n c : Nat) (w : World) (hrow : RowAt w A n) (hbig : n ≤ 1000000000000000) :
    Calls Tryz.prog 4 #[.slice A n c] w (LawPost w) := by
  have hs0 := stream_new w A n c hrow hbig
  have hb0 : Below w.heap.size w (w.alloc (.cells #[.slice A n c, .int .i64 0] 25)) := (Below.refl _ _).alloc (Nat.le_refl _) _
  have hz0 : (w.alloc (.cells #[.slice A n c, .int .i64 0] 25)).heap.size = w.heap.size + 1 := by simp
  have hrr : ∀ k, some w.heap.size = some k → w.heap.size ≤ k := fun k hk => by injection hk with hk; omega
  clear hrow
  go_enter Tryz.func4, Tryz.ntmps4
  go_wp2_with fail
  refine (bodies_any w.heap.size A n c 0 6 _ hs0 (by omega) (by omega)).mono ?_
  rintro e w1 ⟨v4, l, rfl, hown1, hsay, hs1, hg1⟩
  have hb1 : Below w.heap.size w w1 := hb0.grown hg1 hb0.size hrr
  obtain ⟨A4, c4, rfl, q1, hat1, hnew1⟩ := hown1.at_ bodyE_ok
  rw [hz0] at hnew1
  have HNEW : Hid (∀ g off, A4 = some ⟨g, off, none⟩ → w.heap.size < g) := fun g off e => by have := (hnew1 g off e).2; omega
  have hll : l.length ≤ 32 := hsay.1
  have HSAY := Lib.hid hsay
  have HAT1 := Lib.hid hat1
  clear hs0 hb0 hg1 q1 hnew1 hown1 hat1 hsay hz0
  go_wp2_with fail
  refine (range_any w.heap.size A n c _ 1 4 w1 hs1 (by omega) (by omega) (by omega) (by omega)).mono ?_
  rintro e w2 ⟨k, rfl, hk1, hk2, hs2, hg2⟩
  obtain ⟨k, rfl⟩ := Int.eq_ofNat_of_zero_le (show 0 ≤ k by omega)
  have hb2 : Below w.heap.size w w2 := hb1.grown hg2 hb1.size hrr
  have HAT2 := Lib.hid (HAT1.out.grown hg2 (fun g off e he => by have := HNEW.out g off e; cases he; omega))
  clear hs1 hg2 HAT1 hb1
  go_wp2_with fail
  refine (pick_any w.heap.size A n c _ [30, 50, 80, 100] w2.heap.size 4 4 _ (hs2.alloc _) (by omega) rfl (by omega) (by omega) (by have := hs2.lt; omega) (fun j hj => ?_)).mono ?_
  · rw [World.cell?_alloc_at _ _ _ _ rfl]
    match j, hj with
    | 0, _ => rfl
    | 1, _ => rfl
    | 2, _ => rfl
    | 3, _ => rfl
  rintro e w3 ⟨least, rfl, hl, hs3, hg3⟩
  have hlr : least = 30 ∨ least = 50 ∨ least = 80 ∨ least = 100 := by simpa using hl
  obtain ⟨least, rfl⟩ := Int.eq_ofNat_of_zero_le (show 0 ≤ least by omega)
  have hg3' : w2.grownBy w3 (some w.heap.size) := grown_trans (grown_alloc (World.grownBy.refl _ _) _) hg3
  have hb3 : Below w.heap.size w w3 := hb2.grown hg3' hb2.size hrr
  have HAT3 := Lib.hid (HAT2.out.grown hg3' (fun g off e he => by have := HNEW.out g off e; cases he; omega))
  have hle1 : 1 ≤ least := by omega
  have hle2 : least ≤ 100 := by omega
  have hk1' : 1 ≤ k := by omega
  have hk2' : k ≤ 10 := by omega
  clear hl hs2 hs3 hg3 hg3' HAT2 hb2 hlr hk1 hk2 HNEW hrr
  by_cases hf : faultL l = 0
  · have HR := Lib.hid (faultL_ok l hf)
    have htot := HR.out.total
    have hl6 : l.length ≤ 6 := by
      rcases HSAY.out.2.2 with h | h
      · exact h.1
      · omega
    have HOK : Hid (∀ x ∈ l, TextOk x) := HSAY.out.2.1
    have HCO := Lib.hid (cls_ok HR.out (by omega) k least hle2)
    clear HSAY hll htot
    go_wp2_with fail
    refine (groupsE_any A4 l.length c4 l k least w3 HAT3.out (by omega) HOK.out hk1' hk2' hle1 hle2 hf).mono ?_
    rintro e w5 ⟨v7, rs, rfl, hclu, hb5⟩
    have HCL := Lib.hid hclu
    have hb5' := below_trans' hb3 hb5
    have HAT5 := Lib.hid (HAT3.out.keep hb5)
    have HSUM : Hid (lensTo (clsL l k least) (clsL l k least).length = l.length) := by show _ = _; unfold lensTo; rw [List.take_length]; exact HCO.out.sum
    have hcf := HCO.out.few
    have HPV : Hid (∀ (c : Str × List Str), c ∈ clsL l k least → ∀ id ∈ c.2, ∀ wx, ElemsAt BodyE wx A4 l.length c4 l → Calls Tryz.prog 16 #[.slice A4 l.length c4, .int .i64 k, .int .i64 least, .string (bag id)] wx (PivotPost wx c.1 (likeZ (numL l k id) (numL l k c.1)))) := fun c hc id hid wx hx => by
      have h1 := (HCO.out.each c hc)
      have h2 := h1.2.2.2 id hid
      exact pivot_any A4 l.length c4 l k least id wx hx (by omega) HOK.out hk1' hk2' hle1 hle2 hf h2.1 c h2.2.1 h1.2.2.1 (fun x hx => by have := (HCO.out.each x hx).2.1; omega) (by omega)
    have HEA := Lib.hid HCO.out.each
    have HNL := Lib.hid (numL_len HR.out k)
    obtain ⟨A7, c7, rfl⟩ := hclu.slice_
    clear hclu hb5 hb3 HAT3 HCO hf
    generalize clsL l k least = cl at *
    generalize numL l k = num at *
    go_wp2_with fail
    go_loopg [9, 44] cl.length (fun gk v9 i wr => ∃ j : Nat, Hid (j + gk = cl.length) ∧ i = .int .i64 j ∧ v9 = .int .i64 (lensTo cl j : Nat) ∧ Below w5.heap.size w5 wr)
    case atStart => exact ⟨0, show 0 + cl.length = cl.length by omega, rfl, rfl, Below.refl _ _⟩
    case round =>
      obtain ⟨j, HJ, rfl, rfl, hb⟩ := hrel
      have hjn : j ≤ cl.length := by have := HJ.out; omega
      have hzb := hb.size
      by_cases hlt : j < cl.length
      · obtain ⟨g, hg⟩ : ∃ g, cl[j]? = some g := ⟨_, List.getElem?_eq_getElem hlt⟩
        obtain ⟨G, cG, Ag, cg, hv, hGl, hc0', hc1', hatg⟩ := (HCL.out.below hb).at_ j g hg
        simp only [Value.slice.injEq] at hv
        obtain ⟨rfl, hvl, rfl⟩ := hv
        clear hvl
        have HGM := Lib.hid (List.mem_of_getElem? hg)
        obtain ⟨hgp, hgl, hpl, hge⟩ := HEA.out g HGM.out
        have HGE := Lib.hid hge
        have HAG := Lib.hid hatg
        have HSU := Lib.hid (lensTo_succ cl j g hg)
        have hlj : lensTo cl j ≤ 100 := by
          have : lensTo cl j ≤ j * 10 := lensTo_le cl (fun c hc => (HEA.out c hc).2.1) j
          have : j * 10 ≤ 10 * 10 := Nat.mul_le_mul (by omega) (Nat.le_refl _)
          omega
        have hgc : g.2.contains g.1 = true := by simpa using hgp
        clear hatg hg hge hgp
        obtain ⟨g1, g2⟩ := g
        simp only at *
        generalize lensTo cl j = sj at *
        go_wp2_with fail
        have HRC := Lib.hid (heap_alloc_new wr (.cells #[.string (bag g1), .slice Ag g2.length cg] 47))
        have hbX : Below wr.heap.size wr (wr.alloc (.cells #[.string (bag g1), .slice Ag g2.length cg] 47)) := (Below.refl _ _).alloc (Nat.le_refl _) _
        generalize wr.alloc (.cells #[.string (bag g1), .slice Ag g2.length cg] 47) = X at *
        refine (containsS_any Ag g2.length cg g2 g1 X (HAG.out.keep hbX) (by omega)).mono ?_
        rintro e w' ⟨rfl, hw'⟩
        subst hw'
        rw [hgc]
        have hbn : Below w5.heap.size w5 w' := hb.trans (hbX.mono hzb)
        obtain ⟨b0, b1, bf0, bf1⟩ := two_cell HRC.out
        have HAGx := Lib.hid (HAG.out.keep hbX)
        have hCl := (Array.getElem?_eq_some_iff.1 HRC.out).1
        clear hc0' hc1' HAG hgc hb
        go_wp2_with fail
        obtain ⟨wo, rfl⟩ : ∃ wo : World, wo = wr := ⟨_, rfl⟩
        obtain ⟨ko, rfl⟩ : ∃ ko : Nat, ko = gk := ⟨_, rfl⟩
        go_loopg [62] g2.length (fun gk i wr => ∃ i2 : Nat, Hid (i2 + gk = g2.length) ∧ i = .int .i64 i2 ∧ Below w'.heap.size w' wr)
        case atStart => exact ⟨0, show 0 + g2.length = g2.length by omega, rfl, Below.refl _ _⟩
        case round =>
          obtain ⟨i, HI, rfl, hb2⟩ := hrel
          have hin : i ≤ g2.length := by have := HI.out; omega
          have hbw5 : Below w5.heap.size w5 wr := below_trans' hbn hb2
          by_cases hil : i < g2.length
          · obtain ⟨id, hid⟩ : ∃ id, g2[i]? = some id := ⟨_, List.getElem?_eq_getElem hil⟩
            obtain ⟨g6, o6, hA6, hg6, hc6⟩ := HAGx.out.2.2.2 (by omega)
            subst hA6
            have hss1 : StrE.size = 1 := rfl
            have cp := (hb2.cell (p := ⟨g6, o6 + i * StrE.size + 0, none⟩) hg6).trans (hc6 i id 0 _ hid rfl)
            rw [hss1, Nat.mul_one, Nat.add_zero] at cp
            have cid : wr.cell? ⟨g6, o6 + i, none⟩ = some (.string (bag id)) := cp
            have hidm := List.mem_of_getElem? hid
            have hen := (HGE.out id hidm).2.2
            have HP := Lib.hid (HPV.out (g1, g2) HGM.out id hidm wr (HAT5.out.keep hbw5))
            have hfl := likeZ_le (num id) (num g1) (HNL.out id) (HNL.out g1)
            have HRC2 := Lib.hid (row_on hb2 HRC.out)
            clear cp hc6 hid hss1 hidm
            simp only at HP
            generalize likeZ (num id) (num g1) = fq at *
            unfold enoughL at hen
            have hen2 := of_decide_eq_true hen
            clear hen
            go_wp2_with fail
            refine HP.out.mono ?_
            rintro e w6 ⟨rfl, hb6⟩
            have HRC6 := Lib.hid (row_on hb6 HRC2.out)
            obtain ⟨d0, d1, df0, df1⟩ := two_cell HRC6.out
            have hCl6 := (Array.getElem?_eq_some_iff.1 HRC6.out).1
            obtain ⟨fa, fb⟩ := fq
            simp only at *
            have hle3 : least * fb ≤ 100 * 1000000 := Nat.mul_le_mul hle2 hfl.2
            have e1 : IntKind.i64.wrap (100 * (fa : Int)) = 100 * (fa : Int) := IntWalk.i64_in _ (by omega)
            have e2 : IntKind.i64.wrap ((least : Int) * (fb : Int)) = (least : Int) * (fb : Int) := IntWalk.i64_in _ (by rw [← Int.natCast_mul]; omega)
            have e3 : ¬ (100 * (fa : Int) < (least : Int) * (fb : Int)) := by rw [← Int.natCast_mul]; omega
            have hb6' := below_trans' hb2 hb6
            clear HP HRC2 hb6 hen2 hle3 cid
            go_wp2_with fail
            go_roundg (gk - 1)
            case measure => have := HI.out; omega
            case rel => exact ⟨i + 1, show i + 1 + (gk - 1) = g2.length by have := HI.out; omega, by go_num, hb6'.alloc hb6'.size _⟩
          · go_wp2_with fail
            go_roundg (ko - 1)
            case measure => have := HJ.out; omega
            case rel => exact ⟨j + 1, show j + 1 + (ko - 1) = cl.length by have := HJ.out; omega, by go_num, by rw [HSU.out]; go_num, hbw5⟩
      · have hje : j = cl.length := by omega
        have hsum : lensTo cl j = l.length := by rw [hje]; exact HSUM.out
        rw [hsum]
        clear hje hsum HSUM
        have hbf := below_trans' hb5' hb
        go_wp2_with fail
        refine (nears_any wr).mono ?_
        rintro e1 w8 ⟨rfl, hb8⟩
        go_wp2_with fail
        go_ret
        exact ⟨rfl, below_trans' hbf hb8⟩
  · have hfb : (faultL l != 0) = true := by simpa using hf
    have HBF := Lib.hid (fun w' (h : ElemsAt BodyE w' A4 l.length c4 l) => bodiesFault_any A4 l.length c4 l w' h (by omega) (fun x hx => HSAY.out.2.1 x hx))
    go_wp2_with fail
    refine (groups_bad A4 l.length c4 l k least w3 HAT3.out (by omega) (fun x hx => HSAY.out.2.1 x hx) hk1' hk2' hle1 hle2 hf).mono ?_
    rintro e w4 ⟨rfl, hb4⟩
    have HAT4 := Lib.hid (HAT3.out.keep hb4)
    have hb4' := below_trans' hb3 hb4
    generalize hz : faultL l = z at *
    clear hb4 HAT3
    go_wp2_with fail
    refine (nears_any w4).mono ?_
    rintro e1 w5 ⟨rfl, hb5⟩
    have HAT5 := Lib.hid (HAT4.out.keep hb5)
    have hb5' := below_trans' hb4' hb5
    go_wp2_with fail
    refine (HBF.out w5 HAT5.out).mono ?_
    rintro e w6 ⟨rfl, hb6⟩
    rw [hz]
    go_wp2_with fail
    go_ret
    exact ⟨rfl, below_trans' hb5' hb6⟩
end Go.Proofs.YtabdjkcediolcaaGreatDoor
