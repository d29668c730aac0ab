
/-
  What times, over and compare return: numbers in digits of 32 bits.
-/
import Derived.Test.YtmliaiinfgddhaaGreatDoorNat
import Derived.Deep.QuietTactic
import Derived.BigQuiet
import Derived.Laws.BitsLemmas
import Derived.RegionTactic
namespace Go.Proofs.YtmliaiinfgddhaaGreatDoor
open Go.RowKit

theorem times_inner {a V p t y : Nat} {o : List Nat} {c : Nat} (h : valD o + powB (p + t) * c = V + powB p * (a * y)) : valD o + powB (p + t) * c = V + powB p * (a * y) := h
theorem powB_add (m n : Nat) : powB (m + n) = powB m * powB n := by unfold powB; rw [Nat.pow_add]
theorem times_next {a V i k b : Nat} {y o o' : List Nat} {c c' : Nat} (hb : y.getD k 0 = b) (h : valD o + powB (i + k) * c = V + powB i * (a * valD (y.take k)))
    (hs : valD o' + powB (i + k + 1) * c' = (valD o + powB (i + k) * c) + powB (i + k) * (a * b)) : valD o' + powB (i + (k + 1)) * c' = V + powB i * (a * valD (y.take (k + 1))) := by
  rw [← Nat.add_assoc, hs, h, valD_take_next, hb, powB_add]
  rw [Nat.mul_add, Nat.mul_add, Nat.mul_assoc, Nat.mul_left_comm (powB k) a b]
  omega
theorem times_row {a i V : Nat} {x y o : List Nat} {c : Nat} (ha : x.getD i 0 = a) (hV : V = valD (x.take i) * valD y) (hl : i + y.length < o.length) (hz : o.getD (i + y.length) 0 = 0)
    (h : valD o + powB (i + y.length) * c = V + powB i * (a * valD (y.take y.length))) : valD (o.set (i + y.length) c) = valD (x.take (i + 1)) * valD y := by
  have e := valD_set o (i + y.length) c hl
  rw [hz] at e
  rw [List.take_of_length_le (Nat.le_refl _)] at h
  rw [valD_take_next, ha, Nat.add_mul, ← hV, Nat.mul_assoc]
  omega
theorem zset_ne {o : List Nat} {t p d : Nat} (hz : ∀ j, t ≤ j → o.getD j 0 = 0) {t' : Nat} (hp : p < t') : ∀ j, t ≤ j → t' ≤ j → (o.set p d).getD j 0 = 0 := fun j h1 h2 => by
  have h := hz j h1
  rw [List.getD_eq_getElem?_getD] at h ⊢
  rw [List.getElem?_set_ne (by omega)]; exact h
set_option maxHeartbeats 3200000 in
set_option maxRecDepth 100000 in
theorem times_any (A B : Option Addr) (n c m d : Nat) (x y : List Nat) (w : World) (hx : ElemsAt DigE w A n c x) (hy : ElemsAt DigE w B m d y) (dx : Dig x) (dy : Dig y) (hxl : n ≤ 10000) (hyl : m ≤ 10000) :
    Calls Tryz.prog 67 #[.slice A n c, .slice B m d] w (NatPost w (valD x * valD y) (n + m)) := by
  obtain ⟨i0, hi, hz0, hz1, hz2⟩ := info_parts (show (Tryz.prog.info? 87).map (fun i => (i.zero, i.size, i.bytes)) = some (some (.int .u32 0), 1, 4) by kernel_rfl)
  have HN := Lib.hid hx.1
  have HM := Lib.hid hy.1
  have HX := Lib.hid hx; clear hx
  have HY := Lib.hid hy; clear hy
  have HDX := Lib.hid dx; clear dx
  have HDY := Lib.hid dy; clear dy
  obtain ⟨N, hN⟩ : ∃ N : Nat, N = n + m := ⟨_, rfl⟩
  have hNb : N ≤ 20000 := by omega
  have e1 : (n : Int) + (m : Int) = (N : Int) := by omega
  have hmk := fun wx => run_make wx 113 87 i0 _ Tryz.underlying113 hi hz0 .i64 .i64 (N : Int) (N : Int) (by omega) (by omega) (by rw [hz2]; omega) (by omega)
  rw [← hN]
  have HNN := Lib.hid hN; clear hN
  go_enter Tryz.func67, Tryz.ntmps67
  go_upto_region 1 with (fail)
  go_cut [5] (fun v5 wx => v5 = .slice (some ⟨w.heap.size, 0, none⟩) N N ∧ wx = w.alloc (.cells (madeCells #[.int .u32 0] N) 87))
  case first =>
    go_wp2_with fail
    go_meet
    exact ⟨by simp, by simp⟩
  case rest =>
    obtain ⟨rfl, rfl⟩ := hcut
    clear hmk e1
    have hR0 := digRow_new w N
    have hB0 : Below w.heap.size w (w.alloc (.cells (madeCells #[.int .u32 0] N) 87)) := (Below.refl _ _).alloc (Nat.le_refl _) _
    generalize w.alloc (.cells (madeCells #[.int .u32 0] N) 87) = w1 at *
    have HR0 := Lib.hid hR0; clear hR0
    go_wp2_with fail
    go_loopg [20] n (fun gk v20 wr => ∃ (o : List Nat) (i : Nat), Hid (i + gk = n) ∧ v20 = .int .i64 i ∧ Hid (o.length = N) ∧ Hid (Dig o) ∧ Hid (valD o = valD (x.take i) * valD y) ∧ Hid (∀ j, i + m ≤ j → o.getD j 0 = 0) ∧ Hid (DigRow wr w.heap.size o) ∧ Below w.heap.size w wr)
    case atStart => exact ⟨List.replicate N 0, 0, show 0 + n = n by omega, rfl, show _ = _ by simp, fun d hd => by rw [(List.mem_replicate.1 hd).2]; omega, show _ = _ by simp [valD_zeros, valD], fun j _ => by simp [List.getD_eq_getElem?_getD, List.getElem?_replicate]; split <;> rfl, HR0, hB0⟩
    case round =>
      obtain ⟨o, i, HK, rfl, HOL, HOD, HV, HZ, HRW, hb⟩ := hrel
      clear HR0 hB0
      have hin : i ≤ n := by have := HK.out; omega
      by_cases hlt : i < n
      · obtain ⟨gx, ox, rfl, hgx, hcx⟩ := HX.out.dig (by omega)
        have c1 := (hb.cell (p := ⟨gx, ox + i, none⟩) hgx).trans (hcx i hlt)
        clear hcx
        have hxa := HDX.out.getD i
        obtain ⟨a, ha⟩ : ∃ a, x.getD i 0 = a := ⟨_, rfl⟩
        rw [ha] at c1 hxa
        have HA := Lib.hid ha; clear ha
        obtain ⟨ko, rfl⟩ : ∃ ko : Nat, ko = gk := ⟨_, rfl⟩
        obtain ⟨wo, rfl⟩ : ∃ wo : World, wo = wr := ⟨_, rfl⟩
        go_wp2_with fail
        go_loopg [8, 27] m (fun gk v8 v27 wr => ∃ (o2 : List Nat) (cy k : Nat), Hid (k + gk = m) ∧ v27 = .int .i64 k ∧ v8 = .int .u64 cy ∧ cy < 4294967296 ∧ Hid (o2.length = N) ∧ Hid (Dig o2) ∧ Hid (valD o2 + powB (i + k) * cy = valD o + powB i * (a * valD (y.take k))) ∧ Hid (∀ j, i + m ≤ j → o2.getD j 0 = 0) ∧ Hid (DigRow wr w.heap.size o2) ∧ Below w.heap.size w wr)
        case atStart => exact ⟨o, 0, 0, show 0 + m = m by omega, rfl, rfl, by omega, HOL.out, HOD.out, show _ = _ by simp [valD], HZ.out, HRW.out, hb⟩
        case round =>
          obtain ⟨o2, cy, k, HK2, rfl, rfl, hcy, HOL2, HOD2, HV2, HZ2, HRW2, hb2⟩ := hrel
          have hkm : k ≤ m := by have := HK2.out; omega
          by_cases hlt2 : k < m
          · obtain ⟨gy, oy, rfl, hgy, hcy2⟩ := HY.out.dig (by omega)
            have c2 := (hb2.cell (p := ⟨gy, oy + k, none⟩) hgy).trans (hcy2 k hlt2)
            clear hcy2
            have hyb := HDY.out.getD k
            obtain ⟨b, hb0⟩ : ∃ b, y.getD k 0 = b := ⟨_, rfl⟩
            rw [hb0] at c2 hyb
            have HB := Lib.hid hb0; clear hb0
            have hik : i + k < N := by have := HNN.out; omega
            have hcell := HRW2.out.cell (j := i + k) (by rw [HOL2.out]; exact hik)
            have hfz := HRW2.out.frozen (i + k)
            have hqd := HOD2.out.getD (i + k)
            have HST := Lib.hid (times_step o2 (i + k) a b cy _ (by rw [HOL2.out]; exact hik) rfl)
            generalize o2.getD (i + k) 0 = q at *
            have hfit := times_fits hxa hyb hqd hcy
            obtain ⟨P, hP⟩ : ∃ P, P = a * b := ⟨_, rfl⟩
            rw [← hP] at hfit HST
            have q1 : IntKind.u64.wrap ((a : Int) * (b : Int)) = (P : Int) := by
              have e : (a : Int) * (b : Int) = (P : Int) := by rw [hP]; push_cast; rfl
              rw [e]; exact IntWalk.u64_in _ (by omega)
            have HP := Lib.hid hP; clear hP
            have HSET : Hid (∀ (D : Nat) (z : Int), z = D → DigRow (wr.setCell ⟨w.heap.size, i + k, none⟩ (.int .u32 z)) w.heap.size (o2.set (i + k) D)) := fun D z hz => HRW2.out.set (i + k) D z hz
            have HBS : Hid (∀ v : Value, Below w.heap.size w (wr.setCell ⟨w.heap.size, i + k, none⟩ v)) := fun v => hb2.setCell (Nat.le_refl _) v
            go_wp2_with fail
            go_roundg (gk - 1)
            case measure => have := HK2.out; omega
            case rel => exact ⟨o2.set (i + k) ((P + q + cy) % 4294967296), (P + q + cy) / 4294967296, k + 1, show k + 1 + (gk - 1) = m by have := HK2.out; omega, by go_num, by go_num, by omega, show _ = N by rw [List.length_set]; exact HOL2.out, HOD2.out.set _ (by omega), times_next HB.out HV2.out (by have h := HST.out; rw [HP.out] at h ⊢; exact h), fun j hj => zset_ne HZ2.out (show i + k < i + m by omega) j hj hj, HSET.out _ _ (by omega), HBS.out _⟩
          · obtain rfl : k = m := by omega
            have him : i + k < N := by have := HNN.out; omega
            have hcell := HRW2.out.cell (j := i + k) (by rw [HOL2.out]; exact him)
            have hfz := HRW2.out.frozen (i + k)
            have HSET : Hid (∀ (D : Nat) (z : Int), z = D → DigRow (wr.setCell ⟨w.heap.size, i + k, none⟩ (.int .u32 z)) w.heap.size (o2.set (i + k) D)) := fun D z hz => HRW2.out.set (i + k) D z hz
            have HBS : Hid (∀ v : Value, Below w.heap.size w (wr.setCell ⟨w.heap.size, i + k, none⟩ v)) := fun v => hb2.setCell (Nat.le_refl _) v
            generalize o2.getD (i + k) 0 = z0 at hcell
            have HROW : Hid (valD (o2.set (i + k) cy) = valD (x.take (i + 1)) * valD y) := by
              have hm := HM.out
              subst hm
              exact times_row HA.out HV.out (by rw [HOL2.out]; exact him) (HZ2.out _ (Nat.le_refl _)) HV2.out
            go_wp2_with fail
            go_roundg (ko - 1)
            case measure => have := HK.out; omega
            case rel => exact ⟨o2.set (i + k) cy, i + 1, show i + 1 + (ko - 1) = n by have := HK.out; omega, by go_num, show _ = N by rw [List.length_set]; exact HOL2.out, HOD2.out.set _ hcy, HROW.out, fun j hj => zset_ne HZ2.out (show i + k < i + 1 + k by omega) j (by omega) hj, HSET.out _ _ (by omega), HBS.out _⟩
      · obtain rfl : i = n := by omega
        have hat := HRW.out.at_
        rw [HOL.out] at hat
        have HAT := Lib.hid hat
        have HVE : Hid (valD o = valD x * valD y) := by show _ = _; rw [HV.out, List.take_of_length_le (by have := HN.out; omega)]
        clear hat
        go_wp2_with fail
        refine (cut_any (some ⟨w.heap.size, 0, none⟩) N N o wr HAT.out HOD.out (by omega) HRW.out.typ).mono ?_
        rintro e w2 ⟨v, rfl, hnat, hw2⟩
        obtain rfl := hw2.symm
        go_wp2_with fail
        go_ret
        exact ⟨v, rfl, by rw [← HVE.out]; exact hnat, hb⟩
theorem times_q (v u : Value) (x y m k : Nat) (w : World) (hv : NatAt w v x m) (hu : NatAt w u y k) (hm : m ≤ 10000) (hk : k ≤ 10000) :
    Calls Tryz.prog 67 #[v, u] w (NatPost w (x * y) (m + k)) := by
  obtain ⟨A, n, c, l, rfl, h2, h3, h4, h5, rfl, h6, h7⟩ := hv
  obtain ⟨B, n', c', l', rfl, k2, k3, k4, k5, rfl, k6, k7⟩ := hu
  refine (times_any A B n c n' c' l l' w h3 k3 h4 k4 (by omega) (by omega)).mono ?_
  rintro e w' ⟨v, h, ⟨A', n2, c2, l2, p1, p2, p3, p4, p5, p6, p7, p8⟩, hb⟩
  exact ⟨v, h, ⟨A', n2, c2, l2, p1, p2, p3, p4, p5, p6, by omega, p8⟩, hb⟩

set_option maxHeartbeats 800000 in
theorem div32_any (h l k : Nat) (w : World) (hh : h < k) (hl : l < 4294967296) (hk : k < 4294967296) :
    Calls Tryz.prog 129 #[.int .u32 (h : Int), .int .u32 (l : Int), .int .u32 (k : Int)] w fun e w' => e = .returned (.tuple #[.int .u32 (((h * 4294967296 + l) / k : Nat) : Int), .int .u32 (((h * 4294967296 + l) % k : Nat) : Int)]) ∧ ∃ q, w' = w.drewN q := by
  have hk0 : ((k : Int) != 0) = true := by simp; omega
  have hk1 : ¬ (k : Int) ≤ (h : Int) := by omega
  have hb : bits .or .u64 ((h : Int) * 4294967296) (l : Int) = ((h * 4294967296 + l : Nat) : Int) := by
    rw [bits_join .u64 64 (by decide) (fun n h0 h1 => IntWalk.u64_in n (by omega)) 32 ((h : Int) * 4294967296) (l : Int) (by omega) (by omega) (by omega) (by omega) (by omega) (by omega)]
    omega
  obtain ⟨X, hX⟩ : ∃ X, X = h * 4294967296 + l := ⟨_, rfl⟩
  have hXb : X < 18446744073709551616 := by omega
  have hq : X / k < 4294967296 := by rw [hX]; exact over_fits hl hh
  have hr : X % k < k := Nat.mod_lt _ (by omega)
  rw [← hX] at hb ⊢
  clear hX
  have t1 : (X : Int).tdiv (k : Int) = ((X / k : Nat) : Int) := by rw [Int.tdiv_eq_ediv_of_nonneg (by omega)]; push_cast; rfl
  have t2 : (X : Int).tmod (k : Int) = ((X % k : Nat) : Int) := by rw [Int.tmod_eq_emod_of_nonneg (by omega)]; push_cast; rfl
  have t1' : (X : Int) / (k : Int) = ((X / k : Nat) : Int) := by push_cast; rfl
  have t2' : (X : Int) % (k : Int) = ((X % k : Nat) : Int) := by push_cast; rfl
  generalize X / k = Q at *
  generalize X % k = R at *
  go_enter Tryz.func129, Tryz.ntmps129
  go_wp2_with fail
  go_quiet (fail)
  go_wp2_with fail
  go_ret2
  exact ⟨rfl, _, rfl⟩
set_option maxHeartbeats 1600000 in
set_option maxRecDepth 100000 in
theorem compare_any (A B : Option Addr) (n c m d : Nat) (x y : List Nat) (w : World) (hx : ElemsAt DigE w A n c x) (hy : ElemsAt DigE w B m d y) (dx : Dig x) (dy : Dig y) (cx : Canon x) (cy : Canon y) (hxl : n ≤ 10000) (hyl : m ≤ 10000) :
    Calls Tryz.prog 69 #[.slice A n c, .slice B m d] w fun e w' => e = .returned (.int .i64 (cmpI (valD x) (valD y))) ∧ ∃ q, w' = w.drewN q := by
  have HN := Lib.hid hx.1
  have HM := Lib.hid hy.1
  have HX := Lib.hid hx; clear hx
  have HY := Lib.hid hy; clear hy
  have HDX := Lib.hid dx; clear dx
  have HDY := Lib.hid dy; clear dy
  rcases Nat.lt_trichotomy n m with hnm | hnm | hnm
  · have hq : ((n : Int) != (m : Int)) = true := by simp; omega
    have HC : Hid (cmpI (valD x) (valD y) = -1) := cmpI_lt (cy.lt_of_shorter HDX.out (by have := HN.out; have := HM.out; omega))
    go_enter Tryz.func69, Tryz.ntmps69
    go_wp2_with fail
    go_ret
    exact ⟨by rw [HC.out]; rfl, 0, rfl⟩
  · subst hnm
    have HNM : Hid (x.length = y.length) := by show _ = _; rw [← HN.out, ← HM.out]
    clear cx cy
    go_enter Tryz.func69, Tryz.ntmps69
    go_wp2_with fail
    go_loopg [5] n (fun gk v wr => ∃ (p : Nat) (z : Int), p ≤ gk ∧ p ≤ n ∧ v = .int .i64 z ∧ z + 1 = p ∧ Hid (x.drop p = y.drop p) ∧ Hid (∃ q, wr = w.drewN q))
    case atStart => exact ⟨n, (n : Int) - 1, Nat.le_refl _, Nat.le_refl _, rfl, by omega, show _ = _ by rw [List.drop_of_length_le (by have := HN.out; omega), List.drop_of_length_le (by have := HM.out; omega)], ⟨0, rfl⟩⟩
    case round =>
      obtain ⟨p, z, hpg, hpn, rfl, hzp, HTOP, HW⟩ := hrel
      have HPG := Lib.hid hpg; clear hpg
      obtain ⟨q0, hw0⟩ := HW.out
      subst hw0
      clear HW
      cases p with
      | succ i =>
        obtain rfl : z = (i : Int) := by omega
        clear hzp
        obtain ⟨gx, ox, rfl, hgx, hcx⟩ := HX.out.dig (by omega)
        obtain ⟨gy, oy, rfl, hgy, hcy⟩ := HY.out.dig (by omega)
        have c1 : (w.drewN q0).cell? ⟨gx, ox + i, none⟩ = some (.int .u32 ((x.getD i 0 : Nat) : Int)) := hcx i (by omega)
        have c2 : (w.drewN q0).cell? ⟨gy, oy + i, none⟩ = some (.int .u32 ((y.getD i 0 : Nat) : Int)) := hcy i (by omega)
        clear hcx hcy
        obtain ⟨a, ha⟩ : ∃ a, x.getD i 0 = a := ⟨_, rfl⟩
        obtain ⟨b, hb⟩ : ∃ b, y.getD i 0 = b := ⟨_, rfl⟩
        rw [ha] at c1
        rw [hb] at c2
        have HLT : Hid (a < b → cmpI (valD x) (valD y) = -1) := fun h => cmpI_lt (cmp_top HDX.out i (by have := HN.out; omega) HNM.out HTOP.out (by rw [ha, hb]; exact h))
        have HGT : Hid (b < a → cmpI (valD x) (valD y) = 1) := fun h => cmpI_gt (cmp_top HDY.out i (by have := HM.out; omega) HNM.out.symm HTOP.out.symm (by rw [ha, hb]; exact h))
        have HEQ : Hid (a = b → x.drop i = y.drop i) := fun h => by
          have hi1 : i < x.length := by have := HN.out; omega
          have hi2 : i < y.length := by have := HM.out; omega
          rw [List.drop_eq_getElem_cons hi1, List.drop_eq_getElem_cons hi2, HTOP.out]
          have e1 : x[i] = a := by rw [← ha]; simp [hi1]
          have e2 : y[i] = b := by rw [← hb]; simp [hi2]
          rw [e1, e2, h]
        clear ha hb
        have hin : (0 : Int) ≤ (i : Int) := by omega
        have hin2 : (i : Int) < (n : Int) := by omega
        obtain ⟨wr, hwr⟩ : ∃ wr, wr = w.drewN q0 := ⟨_, rfl⟩
        have HWR : Hid (∀ k, ∃ q, wr.drewN k = w.drewN q) := fun k => ⟨q0 + k, by rw [hwr, World.drewN_drewN]⟩
        rw [← hwr] at c1 c2 ⊢
        clear hwr
        by_cases h1 : a < b
        · have h1i : (a : Int) < (b : Int) := by omega
          have HC := Lib.hid (HLT.out h1)
          go_wp2_with fail
          go_quiet (fail)
          go_wp2_with fail
          go_ret
          exact ⟨by rw [HC.out]; rfl, HWR.out _⟩
        · have h1i : ¬ (a : Int) < (b : Int) := by omega
          have d1 : decide ((a : Int) < (b : Int)) = false := by simpa using h1i
          go_wp2_with fail
          go_quiet (fail)
          by_cases h2 : b < a
          · have h2i : (b : Int) < (a : Int) := by omega
            have HC := Lib.hid (HGT.out h2)
            have h1b : decide ((b : Int) < (a : Int)) = true := by simpa using h2i
            have HWR2 : Hid (∀ k, ∃ q, (wr.drewN nq).drewN k = w.drewN q) := fun k => by obtain ⟨q, hq⟩ := HWR.out (nq + k); exact ⟨q, by rw [World.drewN_drewN]; exact hq⟩
            have c1' : (wr.drewN nq).cell? ⟨gx, ox + i, none⟩ = some (.int .u32 (a : Int)) := c1
            have c2' : (wr.drewN nq).cell? ⟨gy, oy + i, none⟩ = some (.int .u32 (b : Int)) := c2
            generalize wr.drewN nq = w3 at *
            go_wp2_with fail
            go_quiet (fail)
            go_wp2_with fail
            go_ret
            exact ⟨by rw [HC.out]; rfl, HWR2.out _⟩
          · have h2i : ¬ (b : Int) < (a : Int) := by omega
            have h1b : decide ((b : Int) < (a : Int)) = false := by simpa using h2i
            have HWR2 : Hid (∀ k, ∃ q, (wr.drewN nq).drewN k = w.drewN q) := fun k => by obtain ⟨q, hq⟩ := HWR.out (nq + k); exact ⟨q, by rw [World.drewN_drewN]; exact hq⟩
            have c1' : (wr.drewN nq).cell? ⟨gx, ox + i, none⟩ = some (.int .u32 (a : Int)) := c1
            have c2' : (wr.drewN nq).cell? ⟨gy, oy + i, none⟩ = some (.int .u32 (b : Int)) := c2
            have HD := Lib.hid (HEQ.out (by omega))
            generalize wr.drewN nq = w3 at *
            go_wp2_with fail
            go_quiet (fail)
            go_wp2_with fail
            go_roundg (gk - 1)
            case measure => have := HPG.out; omega
            case rel => exact ⟨i, _, by have := HPG.out; omega, by omega, rfl, by omega, HD.out, HWR2.out _⟩
      | zero =>
        obtain rfl : z = -1 := by omega
        clear hzp
        have HC : Hid (cmpI (valD x) (valD y) = 0) := by
          show _ = _
          have h := HTOP.out
          rw [List.drop_zero, List.drop_zero] at h
          rw [h]; exact cmpI_self _
        go_wp2_with fail
        go_ret
        exact ⟨by rw [HC.out]; rfl, q0, rfl⟩
  · have hq : ((n : Int) != (m : Int)) = true := by simp; omega
    have hq2 : ¬ (n : Int) < (m : Int) := by omega
    have HC : Hid (cmpI (valD x) (valD y) = 1) := cmpI_gt (cx.lt_of_shorter HDY.out (by have := HN.out; have := HM.out; omega))
    go_enter Tryz.func69, Tryz.ntmps69
    go_wp2_with fail
    go_ret
    exact ⟨by rw [HC.out]; rfl, 0, rfl⟩
theorem compare_q (v u : Value) (x y m k : Nat) (w : World) (hv : NatAt w v x m) (hu : NatAt w u y k) (hm : m ≤ 10000) (hk : k ≤ 10000) :
    Calls Tryz.prog 69 #[v, u] w fun e w' => e = .returned (.int .i64 (cmpI x y)) ∧ ∃ q, w' = w.drewN q := by
  obtain ⟨A, n, c, l, rfl, h2, h3, h4, h5, rfl, h6, h7⟩ := hv
  obtain ⟨B, n', c', l', rfl, k2, k3, k4, k5, rfl, k6, k7⟩ := hu
  exact compare_any A B n c n' c' l l' w h3 k3 h4 k4 h5 k5 (by omega) (by omega)
theorem over_next {k r : Nat} {x o : List Nat} {i D q r' : Nat} (hi : i < x.length) (hol : o.length = x.length) (hD : x.getD i 0 = D) (hk : 0 < k) (h : valD (x.drop (i + 1)) = k * valD (o.drop (i + 1)) + r)
    (hq : q = (r * 4294967296 + D) / k) (hr : r' = (r * 4294967296 + D) % k) : valD (x.drop i) = k * valD ((o.set i q).drop i) + r' := by
  have e := (over_step (d := D) hk h).1
  rw [valD_drop x i hi, hD, e, valD_drop (o.set i q) i (by rw [List.length_set]; omega)]
  have e1 : (o.set i q).getD i 0 = q := by simp [List.getD_eq_getElem?_getD, show i < o.length by omega]
  have e2 : (o.set i q).drop (i + 1) = o.drop (i + 1) := by rw [List.drop_set]; simp
  rw [e1, e2, hq, hr]
set_option maxHeartbeats 1600000 in
set_option maxRecDepth 100000 in
theorem over_any (A : Option Addr) (n c k : Nat) (x : List Nat) (w : World) (hx : ElemsAt DigE w A n c x) (dx : Dig x) (hxl : n ≤ 10000) (hk : 0 < k) (hk2 : k < 4294967296) :
    Calls Tryz.prog 97 #[.slice A n c, .int .u32 (k : Int)] w (NatPost w (valD x / k) n) := by
  obtain ⟨i0, hi, hz0, hz1, hz2⟩ := info_parts (show (Tryz.prog.info? 87).map (fun i => (i.zero, i.size, i.bytes)) = some (some (.int .u32 0), 1, 4) by kernel_rfl)
  have HN := Lib.hid hx.1
  have HX := Lib.hid hx; clear hx
  have HDX := Lib.hid dx; clear dx
  have hmk := fun wx => run_make wx 113 87 i0 _ Tryz.underlying113 hi hz0 .i64 .i64 (n : Int) (n : Int) (by omega) (by omega) (by rw [hz2]; omega) (by omega)
  go_enter Tryz.func97, Tryz.ntmps97
  go_upto_region 1 with (fail)
  go_cut [5] (fun v5 wx => v5 = .slice (some ⟨w.heap.size, 0, none⟩) n n ∧ wx = w.alloc (.cells (madeCells #[.int .u32 0] n) 87))
  case first =>
    go_wp2_with fail
    go_meet
    exact ⟨by simp, by simp⟩
  case rest =>
    obtain ⟨rfl, rfl⟩ := hcut
    clear hmk
    have hR0 := digRow_new w n
    have hB0 : Below w.heap.size w (w.alloc (.cells (madeCells #[.int .u32 0] n) 87)) := (Below.refl _ _).alloc (Nat.le_refl _) _
    generalize w.alloc (.cells (madeCells #[.int .u32 0] n) 87) = w1 at *
    have HR0 := Lib.hid hR0; clear hR0
    go_wp2_with fail
    go_loopg [6, 7] n (fun gk v6 v7 wr => ∃ (o : List Nat) (p r : Nat) (z : Int), p ≤ gk ∧ p ≤ n ∧ v7 = .int .i64 z ∧ z + 1 = p ∧ v6 = .int .u32 r ∧ r < k ∧ Hid (o.length = n) ∧ Hid (Dig o) ∧ Hid (valD (x.drop p) = k * valD (o.drop p) + r) ∧ Hid (DigRow wr w.heap.size o) ∧ Below w.heap.size w wr)
    case atStart => exact ⟨List.replicate n 0, n, 0, (n : Int) - 1, Nat.le_refl _, Nat.le_refl _, rfl, by omega, rfl, hk, show _ = _ by simp, fun d hd => by rw [(List.mem_replicate.1 hd).2]; omega, show _ = _ by rw [List.drop_of_length_le (by have := HN.out; omega), List.drop_of_length_le (by simp)]; simp [valD], HR0, hB0⟩
    case round =>
      obtain ⟨o, p, r, z, hpg, hpn, rfl, hzp, rfl, hrk, HOL, HOD, HV, HRW, hb⟩ := hrel
      clear HR0 hB0
      have HPG := Lib.hid hpg; clear hpg
      cases p with
      | succ i =>
        obtain rfl : z = (i : Int) := by omega
        clear hzp
        obtain ⟨gx, ox, rfl, hgx, hcx⟩ := HX.out.dig (by omega)
        have c1 := (hb.cell (p := ⟨gx, ox + i, none⟩) hgx).trans (hcx i (by omega))
        clear hcx
        have hxa := HDX.out.getD i
        obtain ⟨D, hD⟩ : ∃ D, x.getD i 0 = D := ⟨_, rfl⟩
        rw [hD] at c1 hxa
        have HD := Lib.hid hD; clear hD
        have hcell := HRW.out.cell (j := i) (by rw [HOL.out]; omega)
        have hfz := HRW.out.frozen i
        generalize o.getD i 0 = z0 at hcell
        have hqf := over_fits hxa hrk
        have hrf : (r * 4294967296 + D) % k < k := Nat.mod_lt _ hk
        have HNX : Hid (∀ q r', q = (r * 4294967296 + D) / k → r' = (r * 4294967296 + D) % k → valD (x.drop i) = k * valD ((o.set i q).drop i) + r') := fun q r' hq hr => over_next (by have := HN.out; omega) (by rw [HOL.out, HN.out]) HD.out hk HV.out hq hr
        go_wp2_with fail
        refine (div32_any r D k wr hrk hxa hk2).mono ?_
        obtain ⟨Q, hQ⟩ : ∃ Q, Q = (r * 4294967296 + D) / k := ⟨_, rfl⟩
        obtain ⟨R, hR⟩ : ∃ R, R = (r * 4294967296 + D) % k := ⟨_, rfl⟩
        rw [← hQ, ← hR]
        rw [← hQ] at hqf
        rw [← hR] at hrf
        have HNX2 := Lib.hid (HNX.out Q R hQ hR)
        clear HNX hQ hR
        rintro e w2 ⟨rfl, q0, rfl⟩
        have HSET : Hid (∀ (D : Nat) (z : Int), z = D → DigRow ((wr.drewN q0).setCell ⟨w.heap.size, i, none⟩ (.int .u32 z)) w.heap.size (o.set i D)) := fun D z hz => (HRW.out.drewN q0).set i D z hz
        have HBS : Hid (∀ v : Value, Below w.heap.size w ((wr.drewN q0).setCell ⟨w.heap.size, i, none⟩ v)) := fun v => (Go.Proofs.YtmliaiinfgddhaaGreatDoor.below_drewN hb q0).setCell (Nat.le_refl _) v
        have hcell' : (wr.drewN q0).cell? ⟨w.heap.size, i, none⟩ = some (.int .u32 ((z0 : Nat) : Int)) := hcell
        have hfz' : (wr.drewN q0).frozen? ⟨w.heap.size, i, none⟩ = false := hfz
        generalize wr.drewN q0 = w3 at *
        go_wp2_with fail
        go_roundg (gk - 1)
        case measure => have := HPG.out; omega
        case rel => exact ⟨o.set i Q, i, R, _, by have := HPG.out; omega, by omega, rfl, by omega, rfl, hrf, show _ = n by rw [List.length_set]; exact HOL.out, HOD.out.set _ hqf, HNX2.out, HSET.out _ _ rfl, HBS.out _⟩
      | zero =>
        obtain rfl : z = -1 := by omega
        clear hzp
        have hat := HRW.out.at_
        rw [HOL.out] at hat
        have HAT := Lib.hid hat
        have HVE : Hid (valD o = valD x / k) := by
          show _ = _
          have h := HV.out
          rw [List.drop_zero, List.drop_zero] at h
          exact (div_of_eq h hrk).symm
        clear hat
        go_wp2_with fail
        refine (cut_any (some ⟨w.heap.size, 0, none⟩) n n o wr HAT.out HOD.out (by omega) HRW.out.typ).mono ?_
        rintro e w2 ⟨v, rfl, hnat, hw2⟩
        obtain rfl := hw2.symm
        go_wp2_with fail
        go_ret
        exact ⟨v, rfl, by rw [← HVE.out]; exact hnat, hb⟩
theorem over_q (v : Value) (x m k : Nat) (w : World) (hv : NatAt w v x m) (hm : m ≤ 10000) (hk : 0 < k) (hk2 : k < 4294967296) :
    Calls Tryz.prog 97 #[v, .int .u32 (k : Int)] w (NatPost w (x / k) m) := by
  obtain ⟨A, n, c, l, rfl, h2, h3, h4, h5, rfl, h6, h7⟩ := hv
  refine (over_any A n c k l w h3 h4 (by omega) hk hk2).mono ?_
  rintro e w' ⟨v, h, ⟨A', n2, c2, l2, p1, p2, p3, p4, p5, p6, p7, p8⟩, hb⟩
  exact ⟨v, h, ⟨A', n2, c2, l2, p1, p2, p3, p4, p5, p6, by omega, p8⟩, hb⟩
end Go.Proofs.YtmliaiinfgddhaaGreatDoor
