
/-
  chaseref1.MergeDeeds at two right lists that do not contradict: their union.
-/
import Derived.Test.YthogkcgklakibaaGreatDoorDdSort
import Derived.Test.YthogkcgklakibaaGreatDoorDdOf2
import Derived.Test.YthogkcgklakibaaGreatDoorDdCat
namespace Go.Proofs.YthogkcgklakibaaGreatDoor
open Go.RowKit
attribute [local go_sem ↓] Go.wp_at_zero Go.wp_at_succ

/-- Two lists say the same of each stamp. -/
def SameD (a b : List Deed) : Prop := ∀ x ∈ a, ∀ y ∈ b, x.site = y.site → x.no = y.no → x = y
theorem union_uniq {a b : List Deed} (ha : RightD a) (hb : RightD b) (hs : SameD a b) : ∀ x ∈ a ++ b, ∀ y ∈ a ++ b, x.site = y.site → x.no = y.no → x = y := by
  intro x hx y hy h1 h2
  rcases List.mem_append.1 hx with hx | hx <;> rcases List.mem_append.1 hy with hy | hy
  · exact ord_uniq ha.ord hx hy h1 h2
  · exact hs x hx y hy h1 h2
  · exact (hs y hy x hx h1.symm h2.symm).symm
  · exact ord_uniq hb.ord hx hy h1 h2
def MergePost (w : World) (a b : List Deed) (e : Ending) (w' : World) : Prop :=
  ∃ A n c U, e = .returned (.tuple #[.slice A n c, .int .i64 0]) ∧ DeedsAt w' A n c U ∧ RightD U ∧ (∀ d, d ∈ U ↔ d ∈ a ∨ d ∈ b) ∧ Below w.heap.size w w'
def FaultOk (w : World) (A : Option Addr) (n c : Nat) : Prop := Calls Tryz.prog 76 #[.slice A n c] w fun e w' => e = .returned (.tuple #[.int .i64 0, .int .i64 0]) ∧ Below w.heap.size w w'
set_option maxHeartbeats 6400000 in
set_option maxRecDepth 100000 in
theorem mergeDeeds_of (Aa : Option Addr) (na ca : Nat) (a : List Deed) (Ab : Option Addr) (nb cb : Nat) (b : List Deed) (w : World) (hA : DeedsAt w Aa na ca a) (hB : DeedsAt w Ab nb cb b) (ha : RightD a) (hb : RightD b) (hs : SameD a b) (hl : na + nb ≤ 2000)
    (hDF : ∀ wx, Below w.heap.size w wx → ∀ (A : Option Addr) (n c : Nat) (U : List Deed), DeedsAt wx A n c U → RightD U → FaultOk wx A n c) :
    Calls Tryz.prog 35 #[.slice Aa na ca, .slice Ab nb cb] w (MergePost w a b) := by
  have HNA : Hid (na = a.length) := hA.1
  have HNB : Hid (nb = b.length) := hB.1
  have HUQ := Lib.hid (union_uniq ha hb hs)
  have HRU : Hid (∀ L : List Deed, L.Pairwise StLt → (∀ x, x ∈ L ↔ x ∈ a ∨ x ∈ b) → L.length ≤ 2000 → RightD L) := fun L h1 h2 h3 => RightD.union ha hb h1 h2 h3
  have HDF := Lib.hid hDF
  have HLL : Hid ((a ++ b).length = na + nb) := by show _ = _; rw [List.length_append, HNA.out, HNB.out]
  have hal : Below w.heap.size w (w.alloc (.cells #[.slice Aa na ca, .slice Ab nb cb] 26)) := (Below.refl _ _).alloc (Nat.le_refl _) _
  have HTB : Hid (TabD (w.alloc (.cells #[.slice Aa na ca, .slice Ab nb cb] 26)) (some ⟨w.heap.size, 0, none⟩) 2 2 [a, b]) := by
    refine ⟨rfl, fun _ => ⟨w.heap.size, 0, rfl, by simp, fun k hk => ?_⟩⟩
    match k, hk with
    | 0, _ => exact ⟨Aa, na, ca, by rw [World.cell?_alloc_at _ _ _ _ rfl]; rfl, ElemsAt.keep hA hal⟩
    | 1, _ => exact ⟨Ab, nb, cb, by rw [World.cell?_alloc_at _ _ _ _ rfl]; rfl, ElemsAt.keep hB hal⟩
  have HCC := Lib.hid (concatD_any (some ⟨w.heap.size, 0, none⟩) 2 2 [a, b] _ HTB.out (by omega) (by have := HNA.out; have := HNB.out; simp; omega))
  have HAL := Lib.hid hal
  have hbig : ¬ (2000 : Int) < (nb : Int) := by omega
  clear hA hB ha hb hs hDF hal HTB
  go_enter Tryz.func35, Tryz.ntmps35
  go_wp2_with fail
  refine HCC.out.mono ?_
  rintro e w1 ⟨v1, rfl, hown1, hb1⟩
  have hown1 : Owns DeedE w1 (w.alloc (.cells #[.slice Aa na ca, .slice Ab nb cb] 26)).heap.size v1 (a ++ b) := by
    have e : ([a, b] : List (List Deed)).flatten = a ++ b := by simp
    rw [e] at hown1
    exact hown1
  obtain ⟨A1, c1, hv1, -, hat1, -⟩ := hown1.at_ deedE_ok
  subst hv1
  rw [HLL.out] at hat1 ⊢
  have HAT1 := Lib.hid hat1
  have HB1 : Hid (Below w.heap.size w w1) := HAL.out.trans (hb1.mono HAL.out.size)
  clear hown1 hb1 hat1 HCC HAL HNA HNB
  obtain ⟨N, hN⟩ : ∃ N, N = na + nb := ⟨_, rfl⟩
  rw [← hN] at HAT1 HLL hl ⊢
  clear hN
  go_wp2_with fail
  go_loopg [6, 21] N (fun gk v6 v wr => ∃ (k : Nat) (O : List Deed), Hid (k + gk = N) ∧ v = .int .i64 (k : Int) ∧ Hid (Owns DeedE wr w1.heap.size v6 O) ∧ Hid (O.Nodup ∧ (∀ d, d ∈ O ↔ d ∈ (a ++ b).take k) ∧ O.length ≤ k) ∧ Hid (Below w1.heap.size w1 wr))
  case atStart => exact ⟨0, [], show 0 + N = N by omega, rfl, Owns.nil _ _, ⟨List.nodup_nil, fun d => by simp, Nat.le_refl _⟩, Below.refl _ _⟩
  case round =>
    obtain ⟨k, O, HK, rfl, HO, HS, HW⟩ := hrel
    have hkn : k ≤ N := by have := HK.out; omega
    by_cases hlt : k < N
    · have HGK := Lib.hid (show k + 1 + (gk - 1) = N ∧ 0 < gk by have := HK.out; omega)
      obtain ⟨g, off, rfl, hg, hc⟩ := (ElemsAt.keep HAT1.out HW.out).deed (by omega)
      have hkl : k < (a ++ b).length := by rw [HLL.out]; exact hlt
      obtain ⟨x, hx⟩ : ∃ x, (a ++ b)[k]? = some x := ⟨_, List.getElem?_eq_getElem hkl⟩
      obtain ⟨c0, c1', c2, c3, c4, c5, c6, c7, c8, c9, c10, c11⟩ := hc k x hx
      have HXM := Lib.hid (List.mem_of_getElem? hx)
      have HTK : Hid ((a ++ b).take (k + 1) = (a ++ b).take k ++ [x]) := by
        show _ = _
        obtain ⟨h1, h2⟩ := List.getElem?_eq_some_iff.1 hx
        rw [List.take_succ_eq_append_getElem h1, h2]
      have hal : Below wr.heap.size wr (wr.alloc (.cells #[.string x.site, .int .i64 x.no, .int .i64 x.at_, .int .i64 x.kind, .string x.id, .string x.fld, .string x.val, .int .i64 x.from_, .int .i64 x.to_, .string x.osite, .int .i64 x.ono, .string x.sum] 40)) := (Below.refl _ _).alloc (Nat.le_refl _) _
      have HX2 : Hid (DeedAt (wr.alloc (.cells #[.string x.site, .int .i64 x.no, .int .i64 x.at_, .int .i64 x.kind, .string x.id, .string x.fld, .string x.val, .int .i64 x.from_, .int .i64 x.to_, .string x.osite, .int .i64 x.ono, .string x.sum] 40)) wr.heap.size x) := deed_new wr x
      have HO2 := Lib.hid (HO.out.below_ hal)
      have HW2 := Lib.hid (HW.out.trans (hal.mono HW.out.size))
      clear hc hkl hx hg hal HO HK
      go_upto_region 7 with (fail)
      obtain ⟨P, hP⟩ : ∃ P, P = wr.heap.size := ⟨_, rfl⟩
      rw [← hP] at HX2 ⊢
      generalize wr.alloc (.cells #[.string x.site, .int .i64 x.no, .int .i64 x.at_, .int .i64 x.kind, .string x.id, .string x.fld, .string x.val, .int .i64 x.from_, .int .i64 x.to_, .string x.osite, .int .i64 x.ono, .string x.sum] 40) = w2 at *
      clear hP c0 c1' c2 c3 c4 c5 c6 c7 c8 c9 c10 c11 HW
      obtain ⟨a0, a1, a2, a3, a4, a5, a6, a7, a8, a9, a10, a11⟩ := HX2.out.c
      obtain ⟨A6, c6, hv6, -, hat6, -⟩ := HO2.out.at_ deedE_ok
      have hol : O.length ≤ 2000 := by have := HS.out.2.2; omega
      have HDO := Lib.hid (deedOf_any A6 O.length c6 O x.site x.no w2 hat6 (by omega))
      have HO2' := HO2.out
      rw [hv6] at HO2'
      have HO3 := Lib.hid HO2'
      clear HO2' hat6 HO2
      subst hv6
      go_wp2_with fail
      refine HDO.out.mono ?_
      rintro e w3 ⟨hd, hb3⟩
      have HX3 := Lib.hid (HX2.out.keep hb3)
      have HO4 := Lib.hid (HO3.out.below_ hb3)
      have HW3 := Lib.hid (HW2.out.trans (hb3.mono HW2.out.size))
      clear hb3 HDO HX2 HO3 HW2 a0 a1 a2 a3 a4 a5 a6 a7 a8 a9 a10 a11
      rcases hd with ⟨y, hy, hys, hyn, rfl⟩ | ⟨hno, rfl⟩
      · have hyx : y = x := HUQ.out y (List.mem_of_mem_take ((HS.out.2.1 y).1 hy)) x HXM.out hys hyn
        have HYO := Lib.hid hy
        subst hyx
        clear hy hys hyn
        have hal : Below w3.heap.size w3 (w3.alloc (.cells #[.string y.site, .int .i64 y.no, .int .i64 y.at_, .int .i64 y.kind, .string y.id, .string y.fld, .string y.val, .int .i64 y.from_, .int .i64 y.to_, .string y.osite, .int .i64 y.ono, .string y.sum] 40)) := (Below.refl _ _).alloc (Nat.le_refl _) _
        have HY4 : Hid (DeedAt (w3.alloc (.cells #[.string y.site, .int .i64 y.no, .int .i64 y.at_, .int .i64 y.kind, .string y.id, .string y.fld, .string y.val, .int .i64 y.from_, .int .i64 y.to_, .string y.osite, .int .i64 y.ono, .string y.sum] 40)) w3.heap.size y) := deed_new w3 y
        have HX4 := Lib.hid (HX3.out.keep hal)
        have HO5 := Lib.hid (HO4.out.below_ hal)
        have HW4 := Lib.hid (HW3.out.trans (hal.mono HW3.out.size))
        clear hal HX3 HO4 HW3
        unfold Deed.v
        go_upto_region 8 with (fail)
        obtain ⟨Q, hQ⟩ : ∃ Q, Q = w3.heap.size := ⟨_, rfl⟩
        rw [← hQ] at HY4 ⊢
        generalize w3.alloc (.cells #[.string y.site, .int .i64 y.no, .int .i64 y.at_, .int .i64 y.kind, .string y.id, .string y.fld, .string y.val, .int .i64 y.from_, .int .i64 y.to_, .string y.osite, .int .i64 y.ono, .string y.sum] 40) = w4 at *
        clear hQ
        obtain ⟨a0, a1, a2, a3, a4, a5, a6, a7, a8, a9, a10, a11⟩ := HX4.out.c
        obtain ⟨b0, b1, b2, b3, b4, b5, b6, b7, b8, b9, b10, b11⟩ := HY4.out.c
        have HSN : Hid (O.Nodup ∧ (∀ d, d ∈ O ↔ d ∈ (a ++ b).take (k + 1)) ∧ O.length ≤ k + 1) := by
          refine ⟨HS.out.1, fun d => ?_, Nat.le_succ_of_le HS.out.2.2⟩
          rw [HTK.out, List.mem_append, ← HS.out.2.1 d, List.mem_singleton]
          exact ⟨.inl, fun h => h.elim (fun h => h) (fun h => by rw [h]; exact HYO.out)⟩
        go_wp2_with fail
        go_roundg (gk - 1)
        case measure => exact Nat.sub_lt HGK.out.2 Nat.one_pos
        case rel => exact ⟨k + 1, O, HGK.out.1, by go_num, HO5.out, HSN.out, HW4.out⟩
      · have HNO := Lib.hid hno
        clear hno
        have hal : Below w3.heap.size w3 (w3.alloc (.cells #[.string ⟨#[]⟩, .int .i64 0, .int .i64 0, .int .i64 0, .string ⟨#[]⟩, .string ⟨#[]⟩, .string ⟨#[]⟩, .int .i64 0, .int .i64 0, .string ⟨#[]⟩, .int .i64 0, .string ⟨#[]⟩] 40)) := (Below.refl _ _).alloc (Nat.le_refl _) _
        have HX4 := Lib.hid (HX3.out.keep hal)
        have HO5 := Lib.hid (HO4.out.below_ hal)
        have HW4 := Lib.hid (HW3.out.trans (hal.mono HW3.out.size))
        clear hal HX3 HO4 HW3
        unfold Deed.v
        simp only [zeroD, zeroB]
        go_upto_region 8 with (fail)
        generalize w3.alloc (.cells #[.string ⟨#[]⟩, .int .i64 0, .int .i64 0, .int .i64 0, .string ⟨#[]⟩, .string ⟨#[]⟩, .string ⟨#[]⟩, .int .i64 0, .int .i64 0, .string ⟨#[]⟩, .int .i64 0, .string ⟨#[]⟩] 40) = w4 at *
        obtain ⟨a0, a1, a2, a3, a4, a5, a6, a7, a8, a9, a10, a11⟩ := HX4.out.c
        have hal : Below w4.heap.size w4 (w4.alloc (.cells #[.string x.site, .int .i64 x.no, .int .i64 x.at_, .int .i64 x.kind, .string x.id, .string x.fld, .string x.val, .int .i64 x.from_, .int .i64 x.to_, .string x.osite, .int .i64 x.ono, .string x.sum] 40)) := (Below.refl _ _).alloc (Nat.le_refl _) _
        have HOA := Lib.hid (HO5.out.below_ hal)
        have HWA := Lib.hid (HW4.out.trans (hal.mono HW4.out.size))
        have HONE : Hid (ElemsAt DeedE (w4.alloc (.cells #[.string x.site, .int .i64 x.no, .int .i64 x.at_, .int .i64 x.kind, .string x.id, .string x.fld, .string x.val, .int .i64 x.from_, .int .i64 x.to_, .string x.osite, .int .i64 x.ono, .string x.sum] 40)) (some ⟨w4.heap.size, 0, none⟩) 1 1 [x]) := one_elem (E := DeedE) w4 x
        have HSN : Hid ((O ++ [x]).Nodup ∧ (∀ d, d ∈ O ++ [x] ↔ d ∈ (a ++ b).take (k + 1)) ∧ (O ++ [x]).length ≤ k + 1) := by
          refine ⟨?_, fun d => ?_, by rw [List.length_append]; exact Nat.add_le_add_right HS.out.2.2 1⟩
          · rw [List.nodup_append]
            refine ⟨HS.out.1, by simp, fun y hy z hz e => ?_⟩
            rw [List.mem_singleton] at hz
            subst hz
            subst e
            exact HNO.out y hy ⟨rfl, rfl⟩
          · rw [HTK.out, List.mem_append, List.mem_append, HS.out.2.1 d]
        have hzz := HW4.out.size
        clear hal HX4 HO5 HS
        go_wp2_with (at_builtin; refine append_elems deedE_ok rfl _ _ rfl w1.heap.size (.slice A6 O.length c6) O rfl HOA.out (some ⟨w4.heap.size, 0, none⟩) 1 1 [x] rfl HONE.out (by simp; omega) (by simp; omega) ?_; intro v6 w6 hown6 hgrow6 hv6)
        have HO6 := Lib.hid hown6
        have HW6 : Hid (Below w1.heap.size w1 w6) := HWA.out.grown hgrow6 HWA.out.size (fun i e => (HOA.out.lt i e).1)
        clear hown6 hgrow6 hv6
        go_wp2_with fail
        go_roundg (gk - 1)
        case measure => exact Nat.sub_lt HGK.out.2 Nat.one_pos
        case rel => exact ⟨k + 1, O ++ [x], HGK.out.1, by go_num, HO6.out, HSN.out, HW6.out⟩
    · have hnk : ¬ (k : Int) < (N : Int) := by omega
      have hta : (a ++ b).take k = a ++ b := List.take_of_length_le (by have := HLL.out; omega)
      have hst := HS.out
      rw [hta] at hst
      have HSU := Lib.hid hst
      have hol : O.length ≤ 2000 := by have := hst.2.2; omega
      obtain ⟨A6, c6, hv6, -, hat6, -⟩ := HO.out.at_ deedE_ok
      have HO2' := HO.out
      rw [hv6] at HO2'
      have HSO := Lib.hid (sortD_any w1.heap.size O.length c6 A6 O wr rfl HO2' (by omega))
      have HOL : Hid (∀ i, (Value.slice A6 O.length c6).ownBlock = some i → w1.heap.size ≤ i) := fun i e => (HO2'.lt i e).1
      clear HO2' hat6 hst hta HS HK HO
      subst hv6
      obtain ⟨m, hm⟩ : ∃ m, m = O.length := ⟨_, rfl⟩
      rw [← hm] at HSO HOL hol ⊢
      have HM : Hid (m = O.length) := hm
      clear hm
      go_wp2_with fail
      refine HSO.out.mono ?_
      rintro e w3 ⟨rfl, ⟨L, hperm, hsort, hatL⟩, hg3⟩
      have hstr : L.Pairwise StLt := sorted_strict hperm hsort (fun x hx y hy h1 h2 => HUQ.out x ((HSU.out.2.1 x).1 hx) y ((HSU.out.2.1 y).1 hy) h1 h2) HSU.out.1
      have hmem : ∀ x, x ∈ L ↔ x ∈ a ∨ x ∈ b := fun x => by rw [hperm.mem_iff, HSU.out.2.1 x, List.mem_append]
      have hll : L.length = m := by rw [hperm.length_eq]; exact HM.out.symm
      have HRL := Lib.hid (HRU.out L hstr hmem (by omega))
      have HML := Lib.hid hmem
      have HW3 : Hid (Below w1.heap.size w1 w3) := HW.out.grown hg3 HW.out.size (fun i e => HOL.out i e)
      have HB3 : Hid (Below w.heap.size w w3) := HB1.out.trans (HW3.out.mono HB1.out.size)
      have HATL := Lib.hid hatL
      have hfo := HDF.out w3 HB3.out A6 m c6 L hatL HRL.out
      unfold FaultOk at hfo
      have HFO := Lib.hid hfo
      clear hperm hsort hatL hg3 hstr hmem hll hfo HSO
      go_wp2_with fail
      refine HFO.out.mono ?_
      rintro e w4 ⟨rfl, hb4⟩
      have HP : Hid (MergePost w a b (.returned (.tuple #[.slice A6 m c6, .int .i64 0])) w4) := ⟨A6, m, c6, L, rfl, ElemsAt.keep HATL.out hb4, HRL.out, HML.out, HB3.out.trans (hb4.mono HB3.out.size)⟩
      clear hb4
      go_wp2_with fail
      go_ret2
      exact HP.out
end Go.Proofs.YthogkcgklakibaaGreatDoor
