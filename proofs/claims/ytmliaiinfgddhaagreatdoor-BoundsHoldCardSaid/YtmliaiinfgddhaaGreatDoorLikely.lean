
/-
  What likely returns.
-/
import Derived.Test.YtmliaiinfgddhaaGreatDoorWays
namespace Go.Proofs.YtmliaiinfgddhaaGreatDoor
open Go.RowKit
attribute [local go_sem ↓] Go.wp_at_zero Go.wp_at_succ

/-- A slice of numbers that reads as a list of them. -/
def NatsAt (w : World) (v : Value) (k : Nat) (f : Nat → Nat) : Prop :=
  ∃ G c, v = .slice (some ⟨G, 0, none⟩) (k + 1) c ∧ G < w.heap.size ∧ k + 1 ≤ c ∧ ∀ i, i ≤ k → ∃ A n d, w.cell? ⟨G, i, none⟩ = some (.slice A n d) ∧ NatAt w (.slice A n d) (f i) 200
theorem NatsAt.keep {w w' : World} {v : Value} {k : Nat} {f : Nat → Nat} (h : NatsAt w v k f) (hb : Below w.heap.size w w') : NatsAt w' v k f := by
  obtain ⟨G, c, hv, hg, hc, h4⟩ := h
  refine ⟨G, c, hv, Nat.lt_of_lt_of_le hg hb.size, hc, fun i hi => ?_⟩
  obtain ⟨A, n, d, h5, h6⟩ := h4 i hi
  exact ⟨A, n, d, (hb.cell (p := ⟨G, i, none⟩) hg).trans h5, h6.keep hb⟩
theorem NatsAt.form {w : World} {v : Value} {k : Nat} {f : Nat → Nat} (h : NatsAt w v k f) : ∃ G c, v = .slice (some ⟨G, 0, none⟩) (k + 1) c ∧ k + 1 ≤ c := by
  obtain ⟨G, c, hv, _, hc, _⟩ := h
  exact ⟨G, c, hv, hc⟩
def WaysAt (w : World) (n k : Nat) (e : Ending) (w' : World) : Prop := ∃ v, e = .returned v ∧ NatsAt w' v k (chs n) ∧ Below w.heap.size w w'
theorem ways_at (n k : Nat) (w : World) (hn : n ≤ 2000) (hk : k ≤ 100) :
    Calls Tryz.prog 65 #[.int .i64 (n : Int), .int .i64 (k : Int)] w (WaysAt w n k) := by
  refine (ways_any n k w hn hk).mono ?_
  rintro e w' ⟨v, hs, rfl, ho, hl, hn, hb⟩
  obtain ⟨G, c, rfl, hG1, hG2, hcell⟩ := Owns.headAt ho (by omega)
  have hat := ho.at_ natHE_ok
  obtain ⟨A', c', e, hc', hat', _⟩ := hat
  simp only [Value.slice.injEq] at e
  obtain ⟨_, _, rfl⟩ := e
  have hcc := hat'.2.1
  refine ⟨_, rfl, ⟨G, c, by rw [hl], hG2, by omega, fun i hi => ?_⟩, hb⟩
  have hr := List.getElem?_eq_getElem (show i < hs.length by omega)
  exact ⟨_, _, _, hcell i _ hr, hn i _ hr⟩
theorem ways_i (z : Int) (k : Nat) (w : World) (h0 : 0 ≤ z) (hz : z ≤ 2000) (hk : k ≤ 100) :
    Calls Tryz.prog 65 #[.int .i64 z, .int .i64 (k : Int)] w (WaysAt w z.toNat k) := by
  obtain ⟨n, rfl⟩ := Int.eq_ofNat_of_zero_le h0
  exact ways_at n k w (by omega) hk
theorem natAt_none (w : World) : NatAt (w.alloc (.cells #[] 87)) (.slice (some ⟨w.heap.size, 0, none⟩) 0 0) 0 500 :=
  ⟨_, 0, 0, [], rfl, by omega, ⟨rfl, Nat.le_refl _, (fun e => by cases e), fun h => by omega⟩, (fun d hd => by cases hd), .inl rfl, rfl, by omega, fun a e => by obtain rfl := Option.some.inj e; exact ⟨_, _, heap_alloc_new _ _⟩⟩
theorem sumF_next (f : Nat → Nat) (lo p : Nat) (h : lo ≤ p) : sumF f lo (p + 1 - lo) = sumF f lo (p - lo) + f p := by
  rw [show p + 1 - lo = (p - lo) + 1 by omega, sumF, show lo + (p - lo) = p by omega]
theorem lik_cmp (x all num den : Nat) : decide (0 ≤ cmpI (x * den) (all * (den - num))) = lik x all num den := by
  unfold lik cmpI
  congr 1
  by_cases h1 : x * den < all * (den - num)
  · rw [if_pos h1]; simp; omega
  · rw [if_neg h1]
    split <;> simp <;> omega
theorem two_boxes (w : World) (o1 o2 : Obj) : ((w.alloc o1).alloc o2).heap[w.heap.size]? = some o1 ∧ ((w.alloc o1).alloc o2).heap[w.heap.size + 1]? = some o2 ∧ Below w.heap.size w ((w.alloc o1).alloc o2) := by
  have h1 := heap_alloc_new w o1
  have h2 := heap_alloc_new (w.alloc o1) o2
  have e : (w.alloc o1).heap.size = w.heap.size + 1 := by simp
  rw [e] at h2
  refine ⟨?_, h2, ((Below.refl _ _).alloc (Nat.le_refl _) _).alloc (by simp) _⟩
  exact (Below.heap_alloc (w.alloc o1) o2 w.heap.size (by simp)).trans h1
/-- The three numbers of a sample, and the two of a level. -/
def BoxD (w : World) (P N s f : Nat) : Prop := w.heap[P]? = some (.cells #[.int .i64 (N : Int), .int .i64 (s : Int), .int .i64 (f : Int)] 45 (0, 0))
def BoxF (w : World) (Q a b : Nat) : Prop := w.heap[Q]? = some (.cells #[.int .i64 (a : Int), .int .i64 (b : Int)] 31 (0, 0))
theorem BoxD.keep {w w' : World} {P N s f : Nat} (h : BoxD w P N s f) (hb : Below w.heap.size w w') : BoxD w' P N s f := (hb.block P (Array.getElem?_eq_some_iff.1 h).1).trans h
theorem BoxF.keep {w w' : World} {Q a b : Nat} (h : BoxF w Q a b) (hb : Below w.heap.size w w') : BoxF w' Q a b := (hb.block Q (Array.getElem?_eq_some_iff.1 h).1).trans h
theorem BoxD.c {w : World} {P N s f : Nat} (h : BoxD w P N s f) : w.cell? ⟨P, 0, none⟩ = some (.int .i64 (N : Int)) ∧ w.cell? ⟨P, 1, none⟩ = some (.int .i64 (s : Int)) ∧ w.cell? ⟨P, 2, none⟩ = some (.int .i64 (f : Int)) := by
  refine ⟨?_, ?_, ?_⟩ <;> (rw [cell_of_row w P _ _ _ _ h]; rfl)
theorem BoxF.c {w : World} {Q a b : Nat} (h : BoxF w Q a b) : w.cell? ⟨Q, 0, none⟩ = some (.int .i64 (a : Int)) ∧ w.cell? ⟨Q, 1, none⟩ = some (.int .i64 (b : Int)) := by
  refine ⟨?_, ?_⟩ <;> (rw [cell_of_row w Q _ _ _ _ h]; rfl)
def LikPost (w : World) (x all num den : Nat) (e : Ending) (w' : World) : Prop := e = .returned (.bool (lik x all num den)) ∧ Below w.heap.size w w'
set_option maxHeartbeats 3200000 in
set_option maxRecDepth 100000 in
theorem likely_any (N s f K lo hi num den : Nat) (w : World) (hN : N ≤ 2000) (hs : s ≤ 100) (hK : K ≤ N) (hhi : hi ≤ s) (hlo : lo ≤ hi + 1) (hn : num ≤ den) (hd : den ≤ 1000) :
    Calls Tryz.prog 42 #[.agg #[.int .i64 (N : Int), .int .i64 (s : Int), .int .i64 (f : Int)], .int .i64 (K : Int), .int .i64 (lo : Int), .int .i64 (hi : Int), .agg #[.int .i64 (num : Int), .int .i64 (den : Int)]] w
      (LikPost w (sumF (trm K (N - K) s) lo (hi + 1 - lo)) (chs N s) num den) := by
  go_enter Tryz.func42, Tryz.ntmps42
  go_upto_region 1 with (fail)
  obtain ⟨hp, hq, hB⟩ := two_boxes w (.cells #[.int .i64 (N : Int), .int .i64 (s : Int), .int .i64 (f : Int)] 45) (.cells #[.int .i64 (num : Int), .int .i64 (den : Int)] 31)
  generalize (w.alloc (.cells #[.int .i64 (N : Int), .int .i64 (s : Int), .int .i64 (f : Int)] 45)).alloc (.cells #[.int .i64 (num : Int), .int .i64 (den : Int)] 31) = w1 at *
  have HP : Hid (BoxD w1 w.heap.size N s f) := hp
  have HQ : Hid (BoxF w1 (w.heap.size + 1) num den) := hq
  generalize w.heap.size = P at hp HP hq HQ ⊢
  clear hp hq
  have HB := Lib.hid hB; clear hB
  have e1 : IntKind.i64.wrap ((N : Int) - (K : Int)) = (N : Int) - (K : Int) := IntWalk.i64_in _ (by omega)
  go_cut [11, 12] (fun v u wx => NatsAt wx v s (chs K) ∧ NatsAt wx u s (chs (N - K)) ∧ Below w1.heap.size w1 wx)
  case first =>
    have HHELD : Hid (∀ w', Below w1.heap.size w1 w' → w'.cell? ⟨P, 0, none⟩ = some (.int .i64 (N : Int)) ∧ w'.cell? ⟨P, 1, none⟩ = some (.int .i64 (s : Int))) := fun w' hw => by
      obtain ⟨x0, x1, _⟩ := (HP.out.keep hw).c
      exact ⟨x0, x1⟩
    obtain ⟨hh1, hh2⟩ := HHELD.out w1 (Below.refl _ _)
    go_region_held3 (fun w' => w'.cell? ⟨P, 0, none⟩ = some (.int .i64 (N : Int)) ∧ w'.cell? ⟨P, 1, none⟩ = some (.int .i64 (s : Int)))
      (first | assumption | exact HHELD.out _ ((Below.refl _ _).drew) | exact HHELD.out _ hx0 | exact HHELD.out _ hy0)
      (first
        | (go_at_call 65; (with_reducible refine Calls.mono (ways_at K s _ (by omega) hs) ?_); rintro e wx ⟨vx, rfl, hnx, hbx⟩; obtain ⟨Gx, cx, rfl, kx⟩ := hnx.form; have HNX := Lib.hid hnx; have hx0 : Below w1.heap.size w1 wx := (by first | exact below_trans' hy0 hbx | exact below_undrw hbx); clear hnx kx)
        | (go_at_call 65; (with_reducible refine Calls.mono (ways_i _ s _ (by omega) (by omega) hs) ?_); rintro e wy ⟨vy, rfl, hny, hby⟩; obtain ⟨Gy, cy, rfl, ky⟩ := hny.form; have HNY : Hid (NatsAt wy (.slice (some ⟨Gy, 0, none⟩) (s + 1) cy) s (chs (N - K))) := (by rw [show ((N : Int) - (K : Int)).toNat = N - K by omega] at hny; exact hny); have hy0 : Below w1.heap.size w1 wy := (by first | exact below_trans' hx0 hby | exact below_undrw hby); clear hny ky))
    all_goals
      go_wp2_with fail
      go_meet
      first
        | exact ⟨HNX.out, HNY.out.keep hbx, hx0⟩
        | exact ⟨HNX.out.keep hby, HNY.out, hy0⟩
  case rest =>
    obtain ⟨hn1, hn2, hb2⟩ := hcut
    obtain ⟨G1, d1, rfl, hg1, hgd1, hcell1⟩ := hn1
    obtain ⟨G2, d2, rfl, hg2, hgd2, hcell2⟩ := hn2
    have HP2 := Lib.hid (HP.out.keep hb2)
    have HQ2 := Lib.hid (HQ.out.keep hb2)
    have HB2 := Lib.hid (HB.out.trans (hb2.mono HB.out.size))
    have HC1 := Lib.hid hcell1
    have HC2 := Lib.hid hcell2
    clear hcell1 hcell2 hb2 HP HQ HB e1
    generalize wc = w2 at *
    go_wp2_with fail
    have hna := natAt_none w2
    have hb3 : Below w2.heap.size w2 (w2.alloc (.cells #[] 87)) := (Below.refl _ _).alloc (Nat.le_refl _) _
    generalize w2.alloc (.cells #[] 87) = w3 at *
    have HNA := Lib.hid hna
    have HB3 := Lib.hid hb3
    clear hna hb3
    go_loopg [13, 14] (hi + 1 - lo) (fun gk v i wr => ∃ p : Nat, Hid (p + gk = hi + 1) ∧ lo ≤ p ∧ i = .int .i64 (p : Int) ∧ Hid (NatAt wr v (sumF (trm K (N - K) s) lo (p - lo)) (500 + p)) ∧ Hid (Below w2.heap.size w2 wr))
    case atStart => exact ⟨lo, show lo + (hi + 1 - lo) = hi + 1 by omega, Nat.le_refl _, rfl, show NatAt _ _ _ _ by rw [Nat.sub_self]; exact HNA.out.wide (by omega), HB3⟩
    case round =>
      obtain ⟨p, HG, hlp, rfl, HS, HBR⟩ := hrel
      clear HNA HB3
      have hph : p ≤ hi + 1 := by have := HG.out; omega
      obtain ⟨As, ns, cs, rfl⟩ := HS.out.form
      by_cases hlt : p ≤ hi
      · have hli : (p : Int) ≤ (hi : Int) := by omega
        obtain ⟨A3, n3, c3, hc3, hn3⟩ := HC1.out p (by omega)
        obtain ⟨A4, n4, c4, hc4, hn4⟩ := HC2.out (s - p) (by omega)
        have HX := Lib.hid (hn3.keep HBR.out)
        have HY := Lib.hid (hn4.keep HBR.out)
        have k1 := (HBR.out.cell (p := ⟨G1, p, none⟩) hg1).trans hc3
        have k2 := (HBR.out.cell (p := ⟨G2, s - p, none⟩) hg2).trans hc4
        obtain ⟨k0, k3, _⟩ := (HP2.out.keep HBR.out).c
        have HSUM := Lib.hid (sumF_next (trm K (N - K) s) lo p hlp)
        have HTRM : Hid (trm K (N - K) s p = chs K p * chs (N - K) (s - p)) := rfl
        have e1 : IntKind.i64.wrap ((s : Int) - (p : Int)) = (s : Int) - (p : Int) := IntWalk.i64_in _ (by omega)
        have e2 : ((s : Int) - (p : Int)).toNat = s - p := by omega
        have e3 : (0 : Int) ≤ (s : Int) - (p : Int) := by omega
        have e4 : (s : Int) - (p : Int) < (s : Int) + 1 := by omega
        have e5 : (p : Int) ≤ (s : Int) := by omega
        have e6 : (p : Int) < (s : Int) + 1 := by omega
        have hgr := Nat.lt_of_lt_of_le hg1 HBR.out.size
        have hgr2 := Nat.lt_of_lt_of_le hg2 HBR.out.size
        have HHELD : Hid (∀ w', Below wr.heap.size wr w' → w'.cell? ⟨G1, p, none⟩ = some (.slice A3 n3 c3) ∧ w'.cell? ⟨P, 1, none⟩ = some (.int .i64 (s : Int)) ∧ w'.cell? ⟨G2, s - p, none⟩ = some (.slice A4 n4 c4)) := fun w' hw => by
          obtain ⟨_, x1, _⟩ := ((HP2.out.keep HBR.out).keep hw).c
          exact ⟨(hw.cell (p := ⟨G1, p, none⟩) hgr).trans k1, x1, (hw.cell (p := ⟨G2, s - p, none⟩) hgr2).trans k2⟩
        clear hc3 hc4 hn3 hn4
        go_wp2_with fail
        go_region_held3 (fun w' => w'.cell? ⟨G1, p, none⟩ = some (.slice A3 n3 c3) ∧ w'.cell? ⟨P, 1, none⟩ = some (.int .i64 (s : Int)) ∧ w'.cell? ⟨G2, s - p, none⟩ = some (.slice A4 n4 c4))
          (first | assumption | exact HHELD.out _ ((Below.refl _ _).drew) | exact HHELD.out _ hx0 | exact HHELD.out _ hy0 | exact HHELD.out _ (Below.refl _ _))
          (first
            | (go_at_call 67; (with_reducible refine Calls.mono (times_q _ _ (chs K p) (chs (N - K) (s - p)) 200 200 _ ?_ ?_ ?_ ?_) ?_); (first | exact HX.out | exact HX.out.keep ((Below.refl _ _).drew)); (first | exact HY.out | exact HY.out.keep ((Below.refl _ _).drew)); (omega); (omega); rintro e wx ⟨vx, rfl, hnx, hbx⟩; obtain ⟨Ax, nx, cx, rfl⟩ := hnx.form; have hx0 : Below wr.heap.size wr wx := (by first | exact hbx | exact below_undrw hbx); have HNX := Lib.hid hnx; clear hnx hbx)
            | (go_at_call 66; (with_reducible refine Calls.mono (plus_q _ _ (sumF (trm K (N - K) s) lo (p - lo)) (chs K p * chs (N - K) (s - p)) (500 + p) 400 _ ?_ ?_ ?_ ?_) ?_); (exact HS.out.keep hx0); (exact HNX.out); (omega); (omega); rintro e wy ⟨vy, rfl, hny, hby⟩; obtain ⟨Ay, ny, cy, rfl⟩ := hny.form; have hy0 : Below wr.heap.size wr wy := below_trans' hx0 hby; have HNY : Hid (NatAt wy (.slice Ay ny cy) (sumF (trm K (N - K) s) lo (p + 1 - lo)) (500 + (p + 1))) := (by rw [HSUM.out, HTRM.out]; exact hny.wide (by omega)); clear hny hby))
        all_goals
          go_wp2_with fail
          go_roundg (gk - 1)
          case measure => have := HG.out; omega
          case rel => exact ⟨p + 1, show p + 1 + (gk - 1) = hi + 1 by have := HG.out; omega, by omega, by go_num, HNY.out, below_trans' HBR.out hy0⟩
      · have hli : ¬ (p : Int) ≤ (hi : Int) := by omega
        obtain rfl : p = hi + 1 := by omega
        have HP3 := Lib.hid (HP2.out.keep HBR.out)
        have HQ3 := Lib.hid (HQ2.out.keep HBR.out)
        have HBW := Lib.hid (HB2.out.trans (HBR.out.mono HB2.out.size))
        clear HP2 HQ2 HB2 HC1 HC2 HG
        have h0 : Hid (∃ S, S = sumF (trm K (N - K) s) lo (hi + 1 - lo)) := ⟨_, rfl⟩
        obtain ⟨S, hS⟩ := h0.out
        clear h0
        rw [← hS] at HS
        have HSS := Lib.hid hS
        clear hS
        obtain ⟨a0, a1, _⟩ := HP3.out.c
        go_upto_region 7 with (fail)
        go_cut [15] (fun v wx => NatAt wx v (chs N s) 200 ∧ Below wr.heap.size wr wx)
        case first =>
          have HHELD : Hid (∀ w', Below wr.heap.size wr w' → w'.cell? ⟨P, 0, none⟩ = some (.int .i64 (N : Int)) ∧ w'.cell? ⟨P, 1, none⟩ = some (.int .i64 (s : Int))) := fun w' hw => by
            obtain ⟨x0, x1, _⟩ := (HP3.out.keep hw).c
            exact ⟨x0, x1⟩
          have e1 : (s : Int) < (s : Int) + 1 := by omega
          have e2 : (0 : Int) ≤ (s : Int) := by omega
          go_region_with (go_at_call 65; (with_reducible refine Calls.mono (ways_at N s _ (by omega) hs) ?_); rintro e wx ⟨vx, rfl, hnx, hbx⟩; obtain ⟨Gx, cx, rfl, hgx, hkx, hcx⟩ := hnx; obtain ⟨A5, n5, c5, hc5, hn5⟩ := hcx s (Nat.le_refl _); have hx0 : Below wr.heap.size wr wx := (by first | exact hbx | exact below_undrw hbx); obtain ⟨kk0, kk1⟩ := HHELD.out wx hx0; have HNX := Lib.hid hn5; clear hbx hn5 hcx)
          all_goals
            go_wp2_with fail
            go_meet
            exact ⟨HNX.out, hx0⟩
        case rest =>
          obtain ⟨hall, hbc⟩ := hcut
          obtain ⟨A5, n5, c5, rfl⟩ := hall.form
          have HALL := Lib.hid hall
          have HSM := Lib.hid (HS.out.keep hbc)
          have HQ4 := Lib.hid (HQ3.out.keep hbc)
          have HBC := Lib.hid (HBW.out.trans (hbc.mono HBW.out.size))
          clear hall hbc HS HQ3 HP3 HBW HBR a0 a1
          obtain ⟨b0, b1⟩ := HQ4.out.c
          generalize wc = w4 at *
          have e1 : IntKind.i64.wrap ((den : Int) - (num : Int)) = (den : Int) - (num : Int) := IntWalk.i64_in _ (by omega)
          have HHELD : Hid (∀ w', Below w4.heap.size w4 w' → w'.cell? ⟨P + 1, 0, none⟩ = some (.int .i64 (num : Int)) ∧ w'.cell? ⟨P + 1, 1, none⟩ = some (.int .i64 (den : Int))) := fun w' hw => (HQ4.out.keep hw).c
          have HCMP := Lib.hid (lik_cmp S (chs N s) num den)
          have hqq := HQ4.out
          go_upto_region 8 with (fail)
          go_region_held3 (fun w' => w'.cell? ⟨P + 1, 0, none⟩ = some (.int .i64 (num : Int)) ∧ w'.cell? ⟨P + 1, 1, none⟩ = some (.int .i64 (den : Int)))
            (first | assumption | exact HHELD.out _ ((Below.refl _ _).drew) | exact HHELD.out _ hA1 | exact HHELD.out _ hA2 | exact HHELD.out _ hB1 | exact HHELD.out _ hB2 | exact HHELD.out _ (hA2.drew) | exact HHELD.out _ (hB2.drew) | exact HHELD.out _ (below_drewN hA2 _) | exact HHELD.out _ (below_drewN hB2 _))
            (first
              | (go_at_call 68; (with_reducible refine Calls.mono (newNat_any den _ (by omega)) ?_); rintro e wa ⟨va, rfl, hna, hba1⟩; obtain ⟨Aa, na, ca, rfl⟩ := hna.form; have hA1 : Below w4.heap.size w4 wa := (by first | exact below_undrw hba1 | exact below_trans' hB1 hba1 | exact below_trans' hB2 hba1); have HA1 := Lib.hid hna; clear hna)
              | (go_at_call 68; (with_reducible refine Calls.mono (newNat_i ((den : Int) - (num : Int)) _ (by omega) (by omega)) ?_); rintro e wb ⟨vb, rfl, hnb, hbb1⟩; obtain ⟨Ab, nb, cb, rfl⟩ := hnb.form; have hB1 : Below w4.heap.size w4 wb := (by first | exact below_undrw hbb1 | exact below_trans' hA1 hbb1 | exact below_trans' hA2 hbb1); have HB1 : Hid (NatAt wb (.slice Ab nb cb) (den - num) 3) := (by rw [show ((den : Int) - (num : Int)).toNat = den - num by omega] at hnb; exact hnb); clear hnb)
              | (go_at_call 67; (with_reducible refine Calls.mono (times_q (.slice As ns cs) (.slice Aa na ca) S den (500 + (hi + 1)) 3 _ ?_ ?_ ?_ ?_) ?_); (first | exact HSM.out.keep hA1 | exact HSM.out.keep hB1 | exact HSM.out.keep hB2); (first | exact HA1.out | exact HA1.out.keep hbb1 | exact HA1.out.keep hbb2 | exact HA1.out.keep (below_trans' hbb1 hbb2)); (omega); (omega); rintro e wax ⟨vax, rfl, hnax, hba2⟩; obtain ⟨Aax, nax, cax, rfl⟩ := hnax.form; have hA2 : Below w4.heap.size w4 wax := (by first | exact below_trans' hA1 hba2 | exact below_trans' hB1 hba2 | exact below_trans' hB2 hba2); have HA2 := Lib.hid hnax; clear hnax)
              | (go_at_call 67; (with_reducible refine Calls.mono (times_q (.slice A5 n5 c5) (.slice Ab nb cb) (chs N s) (den - num) 200 3 _ ?_ ?_ ?_ ?_) ?_); (first | exact HALL.out.keep hB1 | exact HALL.out.keep hA1 | exact HALL.out.keep hA2); (first | exact HB1.out | exact HB1.out.keep hba1 | exact HB1.out.keep hba2 | exact HB1.out.keep (below_trans' hba1 hba2)); (omega); (omega); rintro e wbx ⟨vbx, rfl, hnbx, hbb2⟩; obtain ⟨Abx, nbx, cbx, rfl⟩ := hnbx.form; have hB2 : Below w4.heap.size w4 wbx := (by first | exact below_trans' hB1 hbb2 | exact below_trans' hA1 hbb2 | exact below_trans' hA2 hbb2); have HB2 := Lib.hid hnbx; clear hnbx)
              | (go_at_call 69; (with_reducible refine Calls.mono (compare_q (.slice Aax nax cax) (.slice Abx nbx cbx) (S * den) (chs N s * (den - num)) (500 + (hi + 1) + 3) 203 _ ?_ ?_ ?_ ?_) ?_); (first | exact HA2.out | exact HA2.out.keep hbb2 | exact HA2.out.keep (below_trans' hbb1 hbb2)); (first | exact HB2.out | exact HB2.out.keep hba2 | exact HB2.out.keep (below_trans' hba1 hba2)); (omega); (omega); rintro e wz ⟨rfl, qz, rfl⟩))
          all_goals
            go_wp2_with fail
            go_ret
            first
              | exact ⟨by rw [HCMP.out, HSS.out]; rfl, below_drewN (HBC.out.trans (hA2.mono HBC.out.size)) _⟩
              | exact ⟨by rw [HCMP.out, HSS.out]; rfl, below_drewN (HBC.out.trans (hB2.mono HBC.out.size)) _⟩
end Go.Proofs.YtmliaiinfgddhaaGreatDoor
