
/-
  BoundsHold returns true.
-/
import Derived.Test.YtmliaiinfgddhaaGreatDoorEnoughLaw
namespace Go.Proofs.YtmliaiinfgddhaaGreatDoor
open Go.RowKit
attribute [local go_sem ↓] Go.wp_at_zero Go.wp_at_succ

abbrev popsZ : List Int := [1, 2, 5, 10, 30, 100, 2000]
abbrev tensZ : List Int := [3, 10, 30]
theorem pops_in {r : Int} (h : r ∈ popsZ) : ∃ x : Nat, r = (x : Int) ∧ 1 ≤ x ∧ x ≤ 2000 := by
  simp at h
  exact ⟨r.toNat, by omega, by omega, by omega⟩
theorem tens_in {r : Int} (h : r ∈ tensZ) : ∃ x : Nat, r = (x : Int) ∧ 3 ≤ x ∧ x ≤ 30 := by
  simp at h
  exact ⟨r.toNat, by omega, by omega, by omega⟩
theorem BoxD.grown {w w' : World} {P N s f : Nat} {g : Nat} (h : BoxD w P N s f) (hb : w.grownBy w' (some g)) (hne : g ≠ P) : BoxD w' P N s f := (hb.block P (Array.getElem?_eq_some_iff.1 h).1 (fun e => hne (Option.some.inj e).symm)).trans h
theorem BoxF.grown {w w' : World} {P a b : Nat} {g : Nat} (h : BoxF w P a b) (hb : w.grownBy w' (some g)) (hne : g ≠ P) : BoxF w' P a b := (hb.block P (Array.getElem?_eq_some_iff.1 h).1 (fun e => hne (Option.some.inj e).symm)).trans h
theorem BoxD.fz {w : World} {P N s f : Nat} (h : BoxD w P N s f) (i : Nat) : w.frozen? ⟨P, i, none⟩ = false := by
  simp [World.frozen?, show w.heap[P]? = _ from h]
theorem BoxD.set1 {w : World} {P N s f : Nat} (h : BoxD w P N s f) (x : Nat) (z : Int) (e : z = x) : BoxD (w.setCell ⟨P, 1, none⟩ (.int .i64 z)) P N x f := by
  subst e
  simp [BoxD, World.setCell, Array.getElem?_modify, show w.heap[P]? = _ from h]
theorem BoxD.set2 {w : World} {P N s f : Nat} (h : BoxD w P N s f) (x : Nat) (z : Int) (e : z = x) : BoxD (w.setCell ⟨P, 2, none⟩ (.int .i64 z)) P N s x := by
  subst e
  simp [BoxD, World.setCell, Array.getElem?_modify, show w.heap[P]? = _ from h]
theorem M10 (N s f a : Nat) (w : World) (hN0 : 1 ≤ N) (hN : N ≤ 2000) (hs0 : 1 ≤ s) (hs : s ≤ 60) (hsN : s ≤ N) (hf : f ≤ s) (ha0 : 1 ≤ a) (ha : a < 10) :
    Calls Tryz.prog 20 #[.agg #[.int .i64 (N : Int), .int .i64 (s : Int), .int .i64 (f : Int)], .agg #[.int .i64 (a : Int), .int .i64 10]] w (PairPost w (mostV N s f a 10)) :=
  Most_any N s f a 10 w hN0 hN hs0 hs hsN hf (by omega) (by omega) ha0 ha
theorem F10 (N s f a : Nat) (w : World) (hN0 : 1 ≤ N) (hN : N ≤ 2000) (hs0 : 1 ≤ s) (hs : s ≤ 60) (hsN : s ≤ N) (hf : f ≤ s) (ha0 : 1 ≤ a) (ha : a < 10) :
    Calls Tryz.prog 21 #[.agg #[.int .i64 (N : Int), .int .i64 (s : Int), .int .i64 (f : Int)], .agg #[.int .i64 (a : Int), .int .i64 10]] w (PairPost w (fewV N s f a 10)) :=
  Fewest_any N s f a 10 w hN0 hN hs0 hs hsN hf (by omega) (by omega) ha0 ha
theorem M95 (N s f : Nat) (w : World) (hN0 : 1 ≤ N) (hN : N ≤ 2000) (hs0 : 1 ≤ s) (hs : s ≤ 60) (hsN : s ≤ N) (hf : f ≤ s) (_ : True) (_ : True) :
    Calls Tryz.prog 20 #[.agg #[.int .i64 (N : Int), .int .i64 (s : Int), .int .i64 (f : Int)], .agg #[.int .i64 95, .int .i64 100]] w (PairPost w (mostV N s f 95 100)) :=
  Most_any N s f 95 100 w hN0 hN hs0 hs hsN hf (by omega) (by omega) (by omega) (by omega)
theorem F95 (N s f : Nat) (w : World) (hN0 : 1 ≤ N) (hN : N ≤ 2000) (hs0 : 1 ≤ s) (hs : s ≤ 60) (hsN : s ≤ N) (hf : f ≤ s) (_ : True) (_ : True) :
    Calls Tryz.prog 21 #[.agg #[.int .i64 (N : Int), .int .i64 (s : Int), .int .i64 (f : Int)], .agg #[.int .i64 95, .int .i64 100]] w (PairPost w (fewV N s f 95 100)) :=
  Fewest_any N s f 95 100 w hN0 hN hs0 hs hsN hf (by omega) (by omega) (by omega) (by omega)
set_option maxHeartbeats 6400000 in
set_option maxRecDepth 100000 in
theorem boundsLaw_any (A : Option Addr) (n c : Nat) (w : World) (hA : RowAt w A n) (hbig : n ≤ 1000000000000000) (hS : StandsOk w) :
    Calls Tryz.prog 4 #[.slice A n c] w (LawPost w) := by
  have hst := stream_new w A n c hA hbig
  have hB : Below w.heap.size w (w.alloc (.cells #[.slice A n c, .int .i64 0] 25)) := (Below.refl _ _).alloc (Nat.le_refl _) _
  have HS := Lib.hid hS; clear hS
  go_enter Tryz.func4, Tryz.ntmps4
  go_upto_region 2 with (fail)
  have hz1 : (w.alloc (.cells #[.slice A n c, .int .i64 0] 25)).heap.size = w.heap.size + 1 := by simp
  generalize w.alloc (.cells #[.slice A n c, .int .i64 0] 25) = w1 at *
  have HZ1 := Lib.hid hz1; clear hz1
  go_wp2_with fail
  refine (pick_any w.heap.size A n c 0 popsZ w1.heap.size 7 7 _ (hst.below ((Below.refl _ _).alloc (Nat.le_refl _) _)) (by omega) rfl (by omega) (by omega) (by have := HZ1.out; omega) (fun j hj => pickR_cells w1 popsZ 3 j hj)).mono ?_
  rintro e w2 ⟨r, rfl, hr, hs2, hg2⟩
  obtain ⟨N, rfl, hN1, hN2⟩ := pops_in hr
  have hB2 : Below w.heap.size w w2 := (hB.alloc hB.size _).grown hg2 (by have := HZ1.out; simp; omega) (fun i e => by have := Option.some.inj e; omega)
  clear hst hB hr hg2
  go_upto_region 3 with (fail)
  have hd3 : BoxD (w2.alloc (.cells #[.int .i64 (N : Int), .int .i64 0, .int .i64 0] 45)) w2.heap.size N 0 0 := heap_alloc_new w2 _
  have hB3 : Below w.heap.size w (w2.alloc (.cells #[.int .i64 (N : Int), .int .i64 0, .int .i64 0] 45)) := hB2.alloc hB2.size _
  have hs3 := hs2.below ((Below.refl _ _).alloc (Nat.le_refl _) (.cells #[.int .i64 (N : Int), .int .i64 0, .int .i64 0] 45))
  have hgD : w.heap.size < w2.heap.size := hs2.lt
  generalize w2.alloc (.cells #[.int .i64 (N : Int), .int .i64 0, .int .i64 0] 45) = w3 at *
  have HD3 := Lib.hid hd3
  have HB3 := Lib.hid hB3
  have HST3 := Lib.hid hs3
  have hDl := (Array.getElem?_eq_some_iff.1 hd3).1
  generalize w2.heap.size = D at *
  obtain ⟨d0, d1, d2⟩ := hd3.c
  have hf1 := hd3.fz 1
  clear hd3 hB3 hs3 hs2 hB2
  generalize hg : w.heap.size = g at *
  have HG := Lib.hid hg; clear hg
  have HB3' : Hid (Below g w ((w3.alloc (.cells #[.int .i64 3, .int .i64 10, .int .i64 30] 3)).drew)) := (HB3.out.alloc (by have := HB3.out.size; omega) _).drew
  have HST3' : Hid (StreamAt ((w3.alloc (.cells #[.int .i64 3, .int .i64 10, .int .i64 30] 3)).drew) g A n c 1) := HST3.out.below (((Below.refl _ _).alloc (Nat.le_refl _) _).drew)
  have HD3' : Hid (BoxD ((w3.alloc (.cells #[.int .i64 3, .int .i64 10, .int .i64 30] 3)).drew) D N 0 0) := HD3.out.keep (((Below.refl _ _).alloc (Nat.le_refl _) _).drew)
  go_region_held3 (fun w' => w'.cell? ⟨D, 0, none⟩ = some (.int .i64 (N : Int)))
    (first | assumption | go_keep | exact kx0 | exact ky0)
    (first
      | (go_at_call 19; (with_reducible refine Calls.mono (pick_any g A n c 1 tensZ _ 3 3 _ HST3'.out ?_ rfl ?_ ?_ ?_ ?_) ?_); (omega); (omega); (omega); (have := HG.out; omega); (intro j hj; exact pickR_cells w3 tensZ 3 j hj); rintro e wx ⟨rx, rfl, hrx, hsx, hgx⟩; obtain ⟨x, rfl, hx1, hx2⟩ := tens_in hrx; have hbx : Below g w wx := HB3'.out.grown hgx (by have := HB3'.out.size; have := HG.out; omega) (fun i e => by have := Option.some.inj e; omega); have hdx : BoxD wx D N 0 0 := HD3'.out.grown hgx (by omega); have kx0 := hdx.c.1; have HSX := Lib.hid hsx; have HBX := Lib.hid hbx; have HDX := Lib.hid hdx; clear hrx hgx hsx hbx hdx)
      | (go_at_call 8; (with_reducible refine Calls.mono (rangeR_any g A n c 2 1 _ wx HSX.out ?_ ?_ ?_ ?_) ?_); (omega); (omega); (first | omega | (split <;> omega)); (first | omega | (split <;> omega)); rintro e wy ⟨ry, rfl, hry1, hry2, hsy, hgy⟩; have hry3 : ry ≤ (N : Int) ∧ ry ≤ 30 := (by first | omega | (split at hry2 <;> omega)); clear hry2; obtain ⟨y, rfl⟩ := Int.eq_ofNat_of_zero_le (show 0 ≤ ry by omega); have hby : Below g w wy := HBX.out.grown hgy (by have := HBX.out.size; have := HG.out; omega) (fun i e => by have := Option.some.inj e; omega); have hdy : BoxD wy D N 0 0 := HDX.out.grown hgy (by omega); obtain ⟨ky0, ky1, _⟩ := hdy.c; have kf1 := hdy.fz 1; have kz0 : (wy.setCell ⟨D, 1, none⟩ (.int .i64 (y : Int))).cell? ⟨D, 0, none⟩ = some (.int .i64 (N : Int)) := (hdy.set1 y _ rfl).c.1; have HSY := Lib.hid hsy; have HBY := Lib.hid hby; have HDY := Lib.hid hdy; clear hgy hsy hby hdy))
  have hb4 : Below g w (wy.setCell ⟨D, 1, none⟩ (.int .i64 (y : Int))) := HBY.out.setCell (show g ≤ D by omega) _
  have hd4 : BoxD (wy.setCell ⟨D, 1, none⟩ (.int .i64 (y : Int))) D N y 0 := HDY.out.set1 y _ rfl
  have hs4 : StreamAt (wy.setCell ⟨D, 1, none⟩ (.int .i64 (y : Int))) g A n c 3 := HSY.out.keep (fun i hi => Below.heap_setCell wy ⟨D, 1, none⟩ _ i (by simp; omega))
  generalize wy.setCell ⟨D, 1, none⟩ (.int .i64 (y : Int)) = w4 at *
  have HB4 := Lib.hid hb4
  have HD4 := Lib.hid hd4
  have HS4 := Lib.hid hs4
  obtain ⟨a0, a1, a2⟩ := hd4.c
  clear hb4 hd4 hs4 kz0 ky0 ky1 kf1 kx0 d0 d1 d2 hf1 HB3' HST3' HD3' HSX HBX HDX HSY HBY HDY HD3 HB3 HST3
  go_wp2_with fail
  refine (rangeR_any g A n c 3 0 (y : Int) w4 HS4.out (by omega) (by omega) (by omega) (by omega)).mono ?_
  rintro e w5 ⟨r, rfl, hr0, hr1, hs5, hg5⟩
  obtain ⟨f, rfl⟩ := Int.eq_ofNat_of_zero_le hr0
  have hb5 : Below g w w5 := HB4.out.grown hg5 (by have := HB4.out.size; have := HG.out; omega) (fun i e => by have := Option.some.inj e; omega)
  have hd5 : BoxD w5 D N y 0 := HD4.out.grown hg5 (by omega)
  obtain ⟨b0, b1, b2⟩ := hd5.c
  have hf2 := hd5.fz 2
  have HB5 := Lib.hid hb5
  have HD5 := Lib.hid hd5
  have HS5 := Lib.hid hs5
  clear hb5 hd5 hs5 hg5 a0 a1 a2 HB4 HD4 HS4
  go_upto_region 5 with (fail)
  have hb6 : Below g w (w5.setCell ⟨D, 2, none⟩ (.int .i64 (f : Int))) := HB5.out.setCell (show g ≤ D by omega) _
  have hd6 : BoxD (w5.setCell ⟨D, 2, none⟩ (.int .i64 (f : Int))) D N y f := HD5.out.set2 f _ rfl
  have hs6 : StreamAt (w5.setCell ⟨D, 2, none⟩ (.int .i64 (f : Int))) g A n c 4 := HS5.out.keep (fun i hi => Below.heap_setCell w5 ⟨D, 2, none⟩ _ i (by simp; omega))
  generalize w5.setCell ⟨D, 2, none⟩ (.int .i64 (f : Int)) = w6 at *
  have HB6 := Lib.hid hb6
  have HD6 := Lib.hid hd6
  have HS6 := Lib.hid hs6
  clear hb6 hd6 hs6 b0 b1 b2 hf2 HB5 HD5 HS5
  go_wp2_with fail
  refine (rangeR_any g A n c 4 1 9 w6 HS6.out (by omega) (by omega) (by omega) (by omega)).mono ?_
  rintro e w7 ⟨r, rfl, ha0, ha1, hs7, hg7⟩
  obtain ⟨a, rfl⟩ := Int.eq_ofNat_of_zero_le (show 0 ≤ r by omega)
  have hb7 : Below g w w7 := HB6.out.grown hg7 (by have := HB6.out.size; have := HG.out; omega) (fun i e => by have := Option.some.inj e; omega)
  have hd7 : BoxD w7 D N y f := HD6.out.grown hg7 (by omega)
  have HB7 := Lib.hid hb7
  have HD7 := Lib.hid hd7
  clear hb7 hd7 hs7 hg7 HB6 HD6 HS6
  go_upto_region 6 with (fail)
  obtain ⟨hl, hh, hb8⟩ := two_boxes w7 (.cells #[.int .i64 (a : Int), .int .i64 10] 31) (.cells #[.int .i64 95, .int .i64 100] 31)
  have hb8' : Below g w ((w7.alloc (.cells #[.int .i64 (a : Int), .int .i64 10] 31)).alloc (.cells #[.int .i64 95, .int .i64 100] 31)) := HB7.out.trans (hb8.mono (by have := HB7.out.size; have := HG.out; omega))
  have hd8 := HD7.out.keep hb8
  generalize (w7.alloc (.cells #[.int .i64 (a : Int), .int .i64 10] 31)).alloc (.cells #[.int .i64 95, .int .i64 100] 31) = w8 at *
  have HL8 : Hid (BoxF w8 w7.heap.size a 10) := hl
  have HH8 : Hid (BoxF w8 (w7.heap.size + 1) 95 100) := hh
  have HD8 := Lib.hid hd8
  have HB8 := Lib.hid hb8'
  have HDL0 : Hid (D < w7.heap.size) := (Array.getElem?_eq_some_iff.1 HD7.out).1
  generalize w7.heap.size = L at *
  clear hl hh hb8 hb8' hd8 HB7 HD7
  obtain ⟨p0_8, p1_8, p2_8⟩ := HD8.out.c
  obtain ⟨q0_8, q1_8⟩ := HL8.out.c
  go_wp2_with fail
  refine (M10 N y f a w8 (by omega) (by omega) (by omega) (by omega) (by omega) (by omega) (by omega) (by omega)).mono ?_
  obtain ⟨m, hm⟩ : ∃ m, mostV N y f a 10 = m := ⟨_, rfl⟩
  rw [hm]
  have Hm_ := Lib.hid hm; clear hm
  rintro e w9 ⟨rfl, hb9⟩
  have HB9 := Lib.hid (HB8.out.trans (hb9.mono (by have := HB8.out.size; have := HG.out; omega)))
  have HD9 := Lib.hid (HD8.out.keep hb9)
  have HL9 := Lib.hid (HL8.out.keep hb9)
  have HH9 := Lib.hid (HH8.out.keep hb9)
  clear hb9 p0_8 p1_8 p2_8 q0_8 q1_8 HB8 HD8 HL8 HH8
  obtain ⟨p0_9, p1_9, p2_9⟩ := HD9.out.c
  obtain ⟨q0_9, q1_9⟩ := HL9.out.c
  go_wp2_with fail
  refine (F10 N y f a w9 (by omega) (by omega) (by omega) (by omega) (by omega) (by omega) (by omega) (by omega)).mono ?_
  obtain ⟨l, hl⟩ : ∃ l, fewV N y f a 10 = l := ⟨_, rfl⟩
  rw [hl]
  have Hl_ := Lib.hid hl; clear hl
  rintro e w10 ⟨rfl, hb10⟩
  have HB10 := Lib.hid (HB9.out.trans (hb10.mono (by have := HB9.out.size; have := HG.out; omega)))
  have HD10 := Lib.hid (HD9.out.keep hb10)
  have HL10 := Lib.hid (HL9.out.keep hb10)
  have HH10 := Lib.hid (HH9.out.keep hb10)
  clear hb10 p0_9 p1_9 p2_9 q0_9 q1_9 HB9 HD9 HL9 HH9
  have hlm : 5 ≤ a → (l : Int) ≤ (m : Int) := fun h5 => by
    have := few_most (N := N) (s := y) (f := f) (num := a) (den := 10) (by omega) (by omega) (by omega) (by omega) (by omega)
    have e1 := Hm_.out
    have e2 := Hl_.out
    omega
  have HLM := Lib.hid hlm; clear hlm
  obtain ⟨q0, q1⟩ := HL10.out.c
  go_upto_region 8 with (fail)
  go_cut [74] (fun v wx => v = .bool false ∧ w10 = wx)
  case first =>
    by_cases h5 : 5 ≤ a
    · have h5i : (5 : Int) ≤ (a : Int) := by omega
      have hlm := HLM.out h5
      have hlm2 : ¬ (l : Int) > (m : Int) := by omega
      go_wp2_with fail
      go_meet
      exact ⟨by simp, rfl⟩
    · have h5i : ¬ (5 : Int) ≤ (a : Int) := by omega
      go_wp2_with fail
      go_meet
      exact ⟨by simp, rfl⟩
  case rest =>
  obtain ⟨rfl, rfl⟩ := hcut
  clear HLM q0 q1
  obtain ⟨p0_10, p1_10, p2_10⟩ := HD10.out.c
  obtain ⟨q0_10, q1_10⟩ := HH10.out.c
  go_wp2_with fail
  refine (M95 N y f w10 (by omega) (by omega) (by omega) (by omega) (by omega) (by omega) trivial trivial).mono ?_
  obtain ⟨big, hbig⟩ : ∃ big, mostV N y f 95 100 = big := ⟨_, rfl⟩
  rw [hbig]
  have Hbig_ := Lib.hid hbig; clear hbig
  rintro e w11 ⟨rfl, hb11⟩
  have HB11 := Lib.hid (HB10.out.trans (hb11.mono (by have := HB10.out.size; have := HG.out; omega)))
  have HD11 := Lib.hid (HD10.out.keep hb11)
  have HL11 := Lib.hid (HL10.out.keep hb11)
  have HH11 := Lib.hid (HH10.out.keep hb11)
  clear hb11 p0_10 p1_10 p2_10 q0_10 q1_10 HB10 HD10 HL10 HH10
  obtain ⟨p0_11, p1_11, p2_11⟩ := HD11.out.c
  obtain ⟨q0_11, q1_11⟩ := HH11.out.c
  go_wp2_with fail
  refine (F95 N y f w11 (by omega) (by omega) (by omega) (by omega) (by omega) (by omega) trivial trivial).mono ?_
  obtain ⟨few, hfew⟩ : ∃ few, fewV N y f 95 100 = few := ⟨_, rfl⟩
  rw [hfew]
  have Hfew_ := Lib.hid hfew; clear hfew
  rintro e w12 ⟨rfl, hb12⟩
  have HB12 := Lib.hid (HB11.out.trans (hb12.mono (by have := HB11.out.size; have := HG.out; omega)))
  have HD12 := Lib.hid (HD11.out.keep hb12)
  have HL12 := Lib.hid (HL11.out.keep hb12)
  have HH12 := Lib.hid (HH11.out.keep hb12)
  clear hb12 p0_11 p1_11 p2_11 q0_11 q1_11 HB11 HD11 HL11 HH11
  obtain ⟨p0, p1, p2⟩ := HD12.out.c
  go_upto_region 13 with (fail)
  have hb13 : Below w12.heap.size w12 (w12.alloc (.cells #[.int .i64 (N : Int), .int .i64 (y : Int), .int .i64 (f : Int)] 45)) := (Below.refl _ _).alloc (Nat.le_refl _) _
  have he13 : BoxD (w12.alloc (.cells #[.int .i64 (N : Int), .int .i64 (y : Int), .int .i64 (f : Int)] 45)) w12.heap.size N y f := heap_alloc_new w12 _
  have hDE : D < w12.heap.size ∧ L + 1 < w12.heap.size ∧ g ≤ w12.heap.size := ⟨(Array.getElem?_eq_some_iff.1 HD12.out).1, (Array.getElem?_eq_some_iff.1 HH12.out).1, by have := HB12.out.size; have := HG.out; omega⟩
  have HDL : Hid (D < L) := HDL0
  have HE13 := Lib.hid he13
  have HB13 := Lib.hid (HB12.out.trans (hb13.mono hDE.2.2))
  have HD13 := Lib.hid (HD12.out.keep hb13)
  have HL13 := Lib.hid (HL12.out.keep hb13)
  have HH13 := Lib.hid (HH12.out.keep hb13)
  generalize w12.alloc (.cells #[.int .i64 (N : Int), .int .i64 (y : Int), .int .i64 (f : Int)] 45) = w13 at *
  generalize w12.heap.size = Eb at *
  clear hb13 he13 p0 p1 p2 HD12 HL12 HH12 HB12
  obtain ⟨p0, p1, p2⟩ := HD13.out.c
  obtain ⟨r0, r1, r2⟩ := HE13.out.c
  have rf := HE13.out.fz 2
  go_upto_region 14 with (fail)
  have hyf : (y : Int) - (f : Int) = ((y - f : Nat) : Int) := by omega
  have hgs := grown_setCell w13 Eb 2 (.int .i64 ((y : Int) - (f : Int)))
  have HE14 := Lib.hid (HE13.out.set2 (y - f) _ hyf)
  have HB14 : Hid (Below g w (w13.setCell ⟨Eb, 2, none⟩ (.int .i64 ((y : Int) - (f : Int))))) := HB13.out.setCell (show g ≤ Eb by omega) _
  have HD14 := Lib.hid (HD13.out.grown hgs (by omega))
  have HL14 := Lib.hid (HL13.out.grown hgs (by omega))
  have HH14 := Lib.hid (HH13.out.grown hgs (by omega))
  generalize w13.setCell ⟨Eb, 2, none⟩ (.int .i64 ((y : Int) - (f : Int))) = w14 at *
  clear hgs hyf p0 p1 p2 r0 r1 r2 rf HE13 HB13 HD13 HL13 HH13
  obtain ⟨p0_14, p1_14, p2_14⟩ := HE14.out.c
  obtain ⟨q0_14, q1_14⟩ := HL14.out.c
  go_wp2_with fail
  refine (F10 N y (y - f) a w14 (by omega) (by omega) (by omega) (by omega) (by omega) (by omega) (by omega) (by omega)).mono ?_
  obtain ⟨mir, hmir⟩ : ∃ mir, fewV N y (y - f) a 10 = mir := ⟨_, rfl⟩
  rw [hmir]
  have Hmir_ := Lib.hid hmir; clear hmir
  rintro e w15 ⟨rfl, hb15⟩
  have HB15 := Lib.hid (HB14.out.trans (hb15.mono (by have := HB14.out.size; have := HG.out; omega)))
  have HD15 := Lib.hid (HD14.out.keep hb15)
  have HL15 := Lib.hid (HL14.out.keep hb15)
  have HH15 := Lib.hid (HH14.out.keep hb15)
  have HE15 := Lib.hid (HE14.out.keep hb15)
  clear hb15 p0_14 p1_14 p2_14 q0_14 q1_14 HB14 HD14 HL14 HH14 HE14
  have hcmp : (m : Int) ≤ (big : Int) ∧ (few : Int) ≤ (l : Int) ∧ (m : Int) = (N : Int) - (mir : Int) := by
    have e1 := Hm_.out
    have e2 := Hl_.out
    have e3 := Hbig_.out
    have e4 := Hfew_.out
    have e5 := Hmir_.out
    have hlv : ∀ x, lik x (chs N y) a 10 = true → lik x (chs N y) 95 100 = true := fun x hx => lik_level (by omega) (by omega) hx
    have k1 := most_level (N := N) (s := y) (f := f) (by omega) (by omega) hlv
    have k2 := few_level (N := N) (s := y) (f := f) (by omega) (by omega) hlv
    have k3 := most_mirror (N := N) (s := y) (f := f) (num := a) (den := 10) (by omega) (by omega)
    have k4 := (few_spec (N := N) (s := y) (f := y - f) (num := a) (den := 10)).2.1
    omega
  have hc1 : ¬ (big : Int) < (m : Int) := by omega
  have hc2 : ¬ (few : Int) > (l : Int) := by omega
  have hc3 : ((m : Int) != (N : Int) - (mir : Int)) = false := by simp; omega
  have hc4 : decide (big < m) = false := by simp; omega
  have hc5 : decide (l < few) = false := by simp; omega
  have hc6 : (mir : Int) ≤ (N : Int) := by omega
  clear hcmp
  obtain ⟨p0, p1, p2⟩ := HD15.out.c
  have pf := HD15.out.fz 2
  by_cases hfy : f < y
  · have hfyi : (f : Int) < (y : Int) := by omega
    obtain ⟨f', hf'⟩ : ∃ f', f' = f + 1 := ⟨_, rfl⟩
    have hfi : (f : Int) + 1 = (f' : Int) := by omega
    have HFF := Lib.hid hf'
    have HFI := Lib.hid hfi
    clear hf' hfi
    go_upto_region 19 with (fail)
    have hgs := grown_setCell w15 D 2 (.int .i64 ((f : Int) + 1))
    have HD16 := Lib.hid (HD15.out.set2 f' _ HFI.out)
    have HB16 : Hid (Below g w (w15.setCell ⟨D, 2, none⟩ (.int .i64 ((f : Int) + 1)))) := HB15.out.setCell (show g ≤ D by omega) _
    have hDL := HDL.out
    have HL16 := Lib.hid (HL15.out.grown hgs (by omega))
    have HH16 := Lib.hid (HH15.out.grown hgs (by omega))
    have HE16 := HE15
    clear HE16
    generalize w15.setCell ⟨D, 2, none⟩ (.int .i64 ((f : Int) + 1)) = w16 at *
    clear hgs p0 p1 p2 pf HD15 HB15 HL15 HH15 HE15
    have hfy' : f' ≤ y := by have := HFF.out; omega
    clear HFI hc1 hc2 hc3 hc4 hc5 hc6
    obtain ⟨p0_16, p1_16, p2_16⟩ := HD16.out.c
    obtain ⟨q0_16, q1_16⟩ := HL16.out.c
    go_wp2_with fail
    refine (M10 N y f' a w16 (by omega) (by omega) (by omega) (by omega) (by omega) (by omega) (by omega) (by omega)).mono ?_
    obtain ⟨a2, ha2⟩ : ∃ a2, mostV N y f' a 10 = a2 := ⟨_, rfl⟩
    rw [ha2]
    have Ha2_ := Lib.hid ha2; clear ha2
    rintro e w17 ⟨rfl, hb17⟩
    have HB17 := Lib.hid (HB16.out.trans (hb17.mono (by have := HB16.out.size; have := HG.out; omega)))
    have HD17 := Lib.hid (HD16.out.keep hb17)
    have HL17 := Lib.hid (HL16.out.keep hb17)
    have HH17 := Lib.hid (HH16.out.keep hb17)
    clear hb17 p0_16 p1_16 p2_16 q0_16 q1_16 HB16 HD16 HL16 HH16
    obtain ⟨p0_17, p1_17, p2_17⟩ := HD17.out.c
    obtain ⟨q0_17, q1_17⟩ := HL17.out.c
    go_wp2_with fail
    refine (F10 N y f' a w17 (by omega) (by omega) (by omega) (by omega) (by omega) (by omega) (by omega) (by omega)).mono ?_
    obtain ⟨b2, hb2⟩ : ∃ b2, fewV N y f' a 10 = b2 := ⟨_, rfl⟩
    rw [hb2]
    have Hb2_ := Lib.hid hb2; clear hb2
    rintro e w18 ⟨rfl, hb18⟩
    have HB18 := Lib.hid (HB17.out.trans (hb18.mono (by have := HB17.out.size; have := HG.out; omega)))
    have HD18 := Lib.hid (HD17.out.keep hb18)
    have HL18 := Lib.hid (HL17.out.keep hb18)
    have HH18 := Lib.hid (HH17.out.keep hb18)
    clear hb18 p0_17 p1_17 p2_17 q0_17 q1_17 HB17 HD17 HL17 HH17
    have hfin : (m : Int) ≤ (a2 : Int) ∧ (l : Int) ≤ (b2 : Int) := by
      have e1 := Hm_.out
      have e2 := Hl_.out
      have e3 := Ha2_.out
      have e4 := Hb2_.out
      have e5 := HFF.out
      subst e5
      have k1 := most_found (N := N) (s := y) (f := f) (num := a) (den := 10) (by omega) (by omega)
      have k2 := few_found (N := N) (s := y) (f := f) (num := a) (den := 10) (by omega) (by omega)
      omega
    obtain ⟨hf1, hf2⟩ := hfin
    go_wp2_with fail
    refine (HS.out _ (HG.out ▸ HB18.out)).mono ?_
    rintro e w19 ⟨rfl, hb19⟩
    have HB19 := Lib.hid (HB18.out.trans (hb19.mono (by have := HB18.out.size; have := HG.out; omega)))
    clear hb19
    go_wp2_with fail
    go_ret
    exact ⟨rfl, by rw [HG.out]; exact HB19.out⟩
  · have hfyi : ¬ (f : Int) < (y : Int) := by omega
    go_wp2_with fail
    refine (HS.out _ (HG.out ▸ HB15.out)).mono ?_
    rintro e w16 ⟨rfl, hb16⟩
    have HB16 := Lib.hid (HB15.out.trans (hb16.mono (by have := HB15.out.size; have := HG.out; omega)))
    clear hb16
    go_wp2_with fail
    go_ret
    exact ⟨rfl, by rw [HG.out]; exact HB16.out⟩
end Go.Proofs.YtmliaiinfgddhaaGreatDoor
