
/-
  What keptOf of the reference returns.
-/
import Derived.Test.YtmaimojpjepmjaaGreatDoorKeptPlain
import Derived.Test.YtmaimojpjepmjaaGreatDoorWsKeptPlain
namespace Go.Proofs.YtmaimojpjepmjaaGreatDoor
open Go.RowKit

/-- The outer row is made, k of the inner ones are. -/
structure HalfAt (w : World) (P N1 M1 k : Nat) : Prop where
  size : w.heap.size = P + 1 + k
  outer : ∃ C, w.heap[P]? = some (.cells C 22 (0, 0)) ∧ C.size = N1 ∧ ∀ i, i < k → C[i]? = some (.slice (some ⟨P + 1 + i, 0, none⟩) M1 M1)
  rows : ∀ i, i < k → w.heap[P + 1 + i]? = some (.cells (madeCells #[.int .i64 0] M1) 3 (0, 0))
theorem HalfAt.more {w : World} {P N1 M1 k : Nat} (h : HalfAt w P N1 M1 k) (hk : k < N1) :
    HalfAt ((w.setCell ⟨P, k, none⟩ (.slice (some ⟨w.heap.size, 0, none⟩) M1 M1)).alloc (.cells (madeCells #[.int .i64 0] M1) 3)) P N1 M1 (k + 1) := by
  obtain ⟨C, hC, hn, hc⟩ := h.outer
  have hs := h.size
  have hz : (w.setCell ⟨P, k, none⟩ (.slice (some ⟨w.heap.size, 0, none⟩) M1 M1)).heap.size = w.heap.size := by simp [World.setCell]
  refine ⟨by simp [World.setCell, hs]; omega, ⟨C.setIfInBounds k (.slice (some ⟨w.heap.size, 0, none⟩) M1 M1), ?_, by simp [hn], fun i hi => ?_⟩, fun i hi => ?_⟩
  · rw [Below.heap_alloc _ _ P (by rw [hz]; omega)]
    simp [World.setCell, Array.getElem?_modify, hC]
  · by_cases e : i = k
    · subst e
      simp [hs, hn, hk]
    · rw [Array.getElem?_setIfInBounds_ne (by omega)]
      exact hc i (by omega)
  · by_cases e : i = k
    · subst e
      have := heap_alloc_new (w.setCell ⟨P, i, none⟩ (.slice (some ⟨w.heap.size, 0, none⟩) M1 M1)) (.cells (madeCells #[.int .i64 0] M1) 3)
      rw [hz, hs] at this
      rw [hs]; exact this
    · rw [Below.heap_alloc _ _ _ (by rw [hz]; omega), Below.heap_setCell _ ⟨P, k, none⟩ _ _ (by simp; omega)]
      exact h.rows i (by omega)
theorem HalfAt.cell {w : World} {P N1 M1 k : Nat} (h : HalfAt w P N1 M1 k) (hk : k < N1) : ∃ u, w.cell? ⟨P, k, none⟩ = some u ∧ w.frozen? ⟨P, k, none⟩ = false ∧ P < w.heap.size := by
  obtain ⟨C, hC, hn, hc⟩ := h.outer
  refine ⟨C[k]'(by omega), ?_, by simp [World.frozen?, hC], by have := h.size; omega⟩
  rw [cell_of_row w P _ _ _ _ hC]
  simp
/-- The table: the outer row P, the rows behind it. -/
structure GridAt (w : World) (P n m M1 : Nat) (G : Nat → Nat → Nat) : Prop where
  outer : ∃ C, w.heap[P]? = some (.cells C 22 (0, 0)) ∧ ∀ i, i ≤ n → C[i]? = some (.slice (some ⟨P + 1 + i, 0, none⟩) M1 M1)
  rows : ∀ i, i ≤ n → ∃ D, w.heap[P + 1 + i]? = some (.cells D 3 (0, 0)) ∧ ∀ j, j ≤ m → D[j]? = some (.int .i64 (G i j : Nat))
theorem HalfAt.grid {w : World} {P N1 M1 n m : Nat} (h : HalfAt w P N1 M1 N1) (hn : N1 = n + 1) (hm : M1 = m + 1) : GridAt w P n m M1 fun _ _ => 0 := by
  obtain ⟨C, hC, _, hc⟩ := h.outer
  exact ⟨⟨C, hC, fun i hi => hc i (by omega)⟩, fun i hi => ⟨_, h.rows i (by omega), fun j hj => made_at M1 j (by omega)⟩⟩
theorem GridAt.row {w : World} {P n m M1 : Nat} {G : Nat → Nat → Nat} (h : GridAt w P n m M1 G) {i : Nat} (hi : i ≤ n) : w.cell? ⟨P, i, none⟩ = some (.slice (some ⟨P + 1 + i, 0, none⟩) M1 M1) := by
  obtain ⟨C, hC, hc⟩ := h.outer
  rw [cell_of_row w P _ _ _ _ hC]; exact hc i hi
theorem GridAt.cell {w : World} {P n m M1 : Nat} {G : Nat → Nat → Nat} (h : GridAt w P n m M1 G) {i j : Nat} (hi : i ≤ n) (hj : j ≤ m) : w.cell? ⟨P + 1 + i, j, none⟩ = some (.int .i64 (G i j : Nat)) := by
  obtain ⟨D, hD, hd⟩ := h.rows i hi
  rw [cell_of_row w _ _ _ _ _ hD]; exact hd j hj
theorem GridAt.frozen {w : World} {P n m M1 : Nat} {G : Nat → Nat → Nat} (h : GridAt w P n m M1 G) {i : Nat} (hi : i ≤ n) (j : Nat) : w.frozen? ⟨P + 1 + i, j, none⟩ = false := by
  obtain ⟨D, hD, _⟩ := h.rows i hi
  simp [World.frozen?, hD]
theorem GridAt.lt {w : World} {P n m M1 : Nat} {G : Nat → Nat → Nat} (h : GridAt w P n m M1 G) {i : Nat} (hi : i ≤ n) : P + 1 + i < w.heap.size := by
  obtain ⟨D, hD, _⟩ := h.rows i hi
  exact (Array.getElem?_eq_some_iff.1 hD).1
theorem GridAt.keep {w w' : World} {P n m M1 : Nat} {G : Nat → Nat → Nat} (h : GridAt w P n m M1 G) (hb : ∀ b, P ≤ b → b ≤ P + 1 + n → w'.heap[b]? = w.heap[b]?) : GridAt w' P n m M1 G := by
  refine ⟨?_, fun i hi => ?_⟩
  · obtain ⟨C, hC, hc⟩ := h.outer
    exact ⟨C, (hb P (Nat.le_refl _) (by omega)).trans hC, hc⟩
  · obtain ⟨D, hD, hd⟩ := h.rows i hi
    exact ⟨D, (hb _ (by omega) (by omega)).trans hD, hd⟩
theorem GridAt.set {w : World} {P n m M1 : Nat} {G : Nat → Nat → Nat} (h : GridAt w P n m M1 G) {i j : Nat} (hi : i ≤ n) (hj : j ≤ m) (v : Nat) (z : Int) (hz : z = v) : GridAt (w.setCell ⟨P + 1 + i, j, none⟩ (.int .i64 z)) P n m M1 (upd G i j v) := by
  subst hz
  refine ⟨?_, fun a ha => ?_⟩
  · obtain ⟨C, hC, hc⟩ := h.outer
    exact ⟨C, by rw [Below.heap_setCell _ ⟨P + 1 + i, j, none⟩ _ _ (by simp; omega)]; exact hC, hc⟩
  · obtain ⟨D, hD, hd⟩ := h.rows a ha
    by_cases e : a = i
    · subst e
      refine ⟨D.setIfInBounds j (.int .i64 (v : Int)), by simp [World.setCell, Array.getElem?_modify, hD], fun b hb => ?_⟩
      have h1 := hd b hb
      have h2 := hd j hj
      unfold upd
      by_cases e : b = j
      · subst e
        rw [if_pos ⟨rfl, rfl⟩, Array.getElem?_setIfInBounds_self, if_pos (Array.getElem?_eq_some_iff.1 h2).1]
      · rw [if_neg (by rintro ⟨_, h⟩; exact e h), Array.getElem?_setIfInBounds_ne (fun h => e h.symm), h1]
    · refine ⟨D, by rw [Below.heap_setCell _ ⟨P + 1 + i, j, none⟩ _ _ (by simp; omega)]; exact hD, fun b hb => ?_⟩
      unfold upd
      rw [if_neg (by rintro ⟨h, _⟩; exact e h)]
      exact hd b hb

def KeptIs (w : World) (x y : List (List UInt8)) (e : Ending) (w' : World) : Prop :=
  ∃ (v : Value) (i j : Nat), e = .returned v ∧ Owns PairE w' w.heap.size v (keptR x y x.length 0 0) ∧ GoodTo x y 0 0 (keptR x y x.length 0 0) i j ∧ i ≤ x.length ∧ j ≤ y.length ∧ Below w.heap.size w w'

set_option maxHeartbeats 12800000 in
set_option maxRecDepth 100000 in
theorem keptOf_is (A B : Option Addr) (n c m d : Nat) (x y : List (List UInt8)) (w : World) (hx : StrsAt w A n c x) (hy : StrsAt w B m d y) (hn : n ≤ 2000) (hm : m ≤ 2000) :
    Calls Tryz.prog 71 #[.slice A n c, .slice B m d] w (KeptIs w x y) := by
  have HX := Lib.hid hx.1
  have HY := Lib.hid hy.1
  obtain ⟨i0, hi, hz0, hz1, hz2⟩ := info_parts (show (Tryz.prog.info? 3).map (fun i => (i.zero, i.size, i.bytes)) = some (some (.int .i64 0), 1, 8) by kernel_rfl)
  obtain ⟨i1, hi1, hy0, hy1, hy2⟩ := info_parts (show (Tryz.prog.info? 22).map (fun i => (i.zero, i.size, i.bytes)) = some (some (.slice none 0 0), 1, 24) by kernel_rfl)
  obtain ⟨N1, hN1⟩ : ∃ N1 : Nat, N1 = n + 1 := ⟨_, rfl⟩
  obtain ⟨M1, hM1⟩ : ∃ M1 : Nat, M1 = m + 1 := ⟨_, rfl⟩
  have hmk := fun wx => run_make wx 155 22 i1 _ Tryz.underlying155 hi1 hy0 .i64 .i64 (N1 : Int) (N1 : Int) (by omega) (by omega) (by rw [hy2]; omega) (by omega)
  have hmr := fun wx => run_make wx 22 3 i0 _ Tryz.underlying22 hi hz0 .i64 .i64 (M1 : Int) (M1 : Int) (by omega) (by omega) (by rw [hz2]; omega) (by omega)
  have e1 : ((n : Int) + 1) = (N1 : Int) := by omega
  have e2 : ((m : Int) + 1) = (M1 : Int) := by omega
  have HN1 := Lib.hid hN1; clear hN1
  have HM1 := Lib.hid hM1; clear hM1
  go_enter Tryz.func71, Tryz.ntmps71
  go_upto_region 1 with (fail)
  go_cut [5] (fun v5 wx => v5 = .slice (some ⟨w.heap.size, 0, none⟩) N1 N1 ∧ wx = w.alloc (.cells (madeCells #[.slice none 0 0] N1) 22))
  case first =>
    go_wp2_with fail
    go_meet
    exact ⟨by simp, by simp⟩
  case rest =>
   obtain ⟨rfl, rfl⟩ := hcut
   clear hmk e1
   have hH0 : HalfAt (w.alloc (.cells (madeCells #[.slice none 0 0] N1) 22)) w.heap.size N1 M1 0 := ⟨by simp, ⟨_, heap_alloc_new w _, by simp [madeCells], fun i hi => by omega⟩, fun i hi => by omega⟩
   have hB0 : Below w.heap.size w (w.alloc (.cells (madeCells #[.slice none 0 0] N1) 22)) := (Below.refl _ _).alloc (Nat.le_refl _) _
   generalize w.alloc (.cells (madeCells #[.slice none 0 0] N1) 22) = w1 at *
   go_wp2_with fail
   go_loopg [19] N1 (fun gk v wr => ∃ k : Nat, Hid (k + gk = N1) ∧ v = .int .i64 k ∧ HalfAt wr w.heap.size N1 M1 k ∧ Below w.heap.size w wr)
   case atStart => exact ⟨0, show 0 + N1 = N1 by omega, rfl, hH0, hB0⟩
   case round =>
    obtain ⟨k, HK, rfl, hH, hB⟩ := hrel
    clear hH0 hB0
    have hkn : k ≤ N1 := by have := HK.out; omega
    have hN1b : N1 ≤ 2001 := by have := HN1.out; omega
    by_cases hlt : k < N1
    · obtain ⟨u, hcu, hfu, hPl⟩ := hH.cell hlt
      have HM := Lib.hid (hH.more hlt)
      have HBM : Hid (Below w.heap.size w ((wr.setCell ⟨w.heap.size, k, none⟩ (.slice (some ⟨wr.heap.size, 0, none⟩) M1 M1)).alloc (.cells (madeCells #[.int .i64 0] M1) 3))) := (hB.setCell (Nat.le_refl _) _).alloc (by have := hB.size; simp [World.setCell]; omega) _
      go_wp2_with fail
      go_roundg (gk - 1)
      case measure => have := HK.out; omega
      case rel =>
        refine ⟨k + 1, show k + 1 + (gk - 1) = N1 by have := HK.out; omega, by go_num, ?_, ?_⟩
        · simpa [hz1] using HM.out
        · simpa [hz1] using HBM.out
    · obtain rfl : k = N1 := by omega
      have hG0 := hH.grid HN1.out HM1.out
      have hF0 : Fin_ x y n m n (m + 1) fun _ _ => 0 := fin_start x y n m HX.out.symm HY.out.symm
      clear hH HK hkn hlt hmr e2
      go_upto_region 7 with (fail)
      have s0 : ∀ z : Int, -1 ≤ z → z ≤ 5000 → IntKind.i64.wrap (z + 1) = z + 1 := fun z h1 h2 => IntWalk.i64_in _ (by omega)
      obtain ⟨P, hP⟩ : ∃ P, w.heap.size = P := ⟨_, rfl⟩
      rw [hP] at hG0 ⊢
      have HP := Lib.hid hP; clear hP
      go_wp2_with fail
      go_loopg [7] n (fun gk v wr => ∃ (p : Nat) (z : Int) (G : Nat → Nat → Nat), p ≤ gk ∧ p ≤ n ∧ v = .int .i64 z ∧ z + 1 = p ∧ GridAt wr P n m M1 G ∧ Fin_ x y n m p (m + 1) G ∧ Below w.heap.size w wr)
      case atStart => exact ⟨n, (n : Int) - 1, _, Nat.le_refl _, Nat.le_refl _, rfl, by omega, hG0, hF0, hB⟩
      case round =>
        clear hB
        obtain ⟨p, z, G, hpg, hpn, rfl, hzp, hT, hF, hB⟩ := hrel
        clear hG0 hF0
        have HPG := Lib.hid hpg; clear hpg
        cases p with
        | succ i =>
          obtain rfl : z = (i : Int) := by omega
          clear hzp
          have HF := Lib.hid (fin_row hF); clear hF
          obtain ⟨wo, rfl⟩ : ∃ wo : World, wo = wr := ⟨_, rfl⟩
          obtain ⟨ko, rfl⟩ : ∃ ko : Nat, ko = gk := ⟨_, rfl⟩
          go_wp2_with fail
          go_loopg [8] m (fun gk v wr => ∃ (q : Nat) (z : Int) (G : Nat → Nat → Nat), q ≤ gk ∧ q ≤ m ∧ v = .int .i64 z ∧ z + 1 = q ∧ GridAt wr P n m M1 G ∧ Hid (Fin_ x y n m (i + 1) q G) ∧ Below w.heap.size w wr)
          case atStart => exact ⟨m, (m : Int) - 1, _, Nat.le_refl _, Nat.le_refl _, rfl, by omega, hT, HF, hB⟩
          case round =>
            clear hT HF hB
            obtain ⟨q, z, G, hqg, hqm, rfl, hzq, hT, HF, hB⟩ := hrel
            have HQG := Lib.hid hqg; clear hqg
            cases q with
            | succ j =>
              obtain rfl : z = (j : Int) := by omega
              clear hzq
              have HT := Lib.hid hT
              obtain ⟨gx, ox, rfl, hgx, hcx⟩ := hx.str (by omega)
              obtain ⟨gy, oy, rfl, hgy, hcy⟩ := hy.str (by omega)
              have HC1 : Hid (∀ wx, Below w.heap.size w wx → wx.cell? ⟨gx, ox + i, none⟩ = some (.string ⟨(x.getD i []).toArray⟩)) := fun wx hb => (hb.cell (p := ⟨gx, ox + i, none⟩) hgx).trans (hcx i (by omega))
              have HC2 : Hid (∀ wx, Below w.heap.size w wx → wx.cell? ⟨gy, oy + j, none⟩ = some (.string ⟨(y.getD j []).toArray⟩)) := fun wx hb => (hb.cell (p := ⟨gy, oy + j, none⟩) hgy).trans (hcy j (by omega))
              have HXA : Hid (x[i]? = some (x.getD i [])) := by show _ = _; have : i < x.length := by (have := HX.out; omega)
                                                                simp [this]
              have HYB : Hid (y[j]? = some (y.getD j [])) := by show _ = _; have : j < y.length := by (have := HY.out; omega)
                                                                simp [this]
              clear hcx hcy
              generalize x.getD i [] = a at *
              generalize y.getD j [] = b at *
              obtain ⟨b0, hb0⟩ : ∃ b0, b0 = P + 1 + i := ⟨_, rfl⟩
              obtain ⟨b1, hb1⟩ : ∃ b1, b1 = P + 1 + (i + 1) := ⟨_, rfl⟩
              have r0 := hT.row (i := i) (by omega)
              have r1 := hT.row (i := i + 1) (by omega)
              have t10 := hT.cell (i := i + 1) (j := j) (by omega) (by omega)
              have t01 := hT.cell (i := i) (j := j + 1) (by omega) (by omega)
              have t00 : wr.drew.cell? _ = _ := hT.cell (i := i) (j := j) (by omega) (by omega)
              have tf : wr.drew.frozen? _ = _ := hT.frozen (i := i) (by omega) j
              rw [← hb0] at r0 t01 t00 tf
              rw [← hb1] at r1 t10
              have HG11 : Hid (G (i + 1) (j + 1) = lcs (x.drop (i + 1)) (y.drop (j + 1))) := HF.out (i + 1) (j + 1) (by omega) (by omega) (.inl (by omega))
              have HG10 : Hid (G (i + 1) j = lcs (x.drop (i + 1)) (y.drop j)) := HF.out (i + 1) j (by omega) (by omega) (.inl (by omega))
              have HG01 : Hid (G i (j + 1) = lcs (x.drop i) (y.drop (j + 1))) := HF.out i (j + 1) (by omega) (by omega) (.inr (.inl ⟨rfl, by omega⟩))
              have hl11 : G (i + 1) (j + 1) ≤ 2000 := by rw [HG11.out]; have h := lcs_le (x.drop (i + 1)) (y.drop (j + 1)); rw [List.length_drop] at h; have := HX.out; omega
              have HLC := Lib.hid (lcs_max HXA.out HYB.out)
              have HSET : Hid (∀ (v : Nat) (z : Int), z = v → GridAt (wr.drew.setCell ⟨b0, j, none⟩ (.int .i64 z)) P n m M1 (upd G i j v)) := fun v z h => by
                rw [hb0]
                exact GridAt.set (w := wr.drew) ⟨HT.out.outer, HT.out.rows⟩ (show i ≤ n by omega) (show j ≤ m by omega) v z h
              have HBS : Hid (∀ v : Value, Below w.heap.size w (wr.drew.setCell ⟨b0, j, none⟩ v)) := fun v => (Below.drew hB).setCell (show w.heap.size ≤ b0 by have := HP.out; omega) v
              have HB0 := Lib.hid hb0
              have HB1 := Lib.hid hb1
              clear hb0 hb1 hT
              have q1 : IntKind.i64.wrap ((i : Int) + 1) = (i : Int) + 1 := IntWalk.i64_in _ (by omega)
              have q2 : IntKind.i64.wrap ((j : Int) + 1) = (j : Int) + 1 := IntWalk.i64_in _ (by omega)
              have q3 : ((i : Int) + 1).toNat = i + 1 := by omega
              have q4 : ((j : Int) + 1).toNat = j + 1 := by omega
              have q5 : (0 : Int) ≤ (i : Int) + 1 := by omega
              have q6 : (0 : Int) ≤ (j : Int) + 1 := by omega
              have q7 : (i : Int) + 1 < (k : Int) := by have := HN1.out; omega
              have q8 : (j : Int) + 1 < (M1 : Int) := by have := HM1.out; omega
              have q9 : (i : Int) < (k : Int) := by omega
              have qa : (j : Int) < (M1 : Int) := by omega
              go_upto_region 13 with (fail)
              go_cut [] (fun wx => GridAt wx P n m M1 (upd G i j (max (G (i + 1) j) (G i (j + 1)))) ∧ Below w.heap.size w wx)
              case first =>
                generalize G (i + 1) j = g10 at *
                generalize G i (j + 1) = g01 at *
                clear HLC HT HF HG11 HG10 HG01
                go_still_tail 23, (by kernel_rfl)
                change wpList _ _ _ _ _ wr.drew
                clear r0 r1 t10 t01 hl11
                generalize wr.drew = w3 at *
                go_wp2_with fail
                all_goals
                  go_meet
                  exact ⟨HSET.out _ _ (by omega), HBS.out _⟩
              case rest =>
                obtain ⟨hT2, hB2⟩ := hcut
                clear t00 tf HSET HBS r0 r1 t10 t01 hB
                have c1 := HC1.out _ hB2
                have c2 := HC2.out _ hB2
                clear HC1 HC2
                have HG2 : Hid (a ≠ b → Fin_ x y n m (i + 1) j (upd G i j (max (G (i + 1) j) (G i (j + 1))))) := fun hab => fin_step HF.out _ (by rw [HLC.out, if_neg hab, HG10.out, HG01.out])
                have HG3 : Hid (a = b → Fin_ x y n m (i + 1) j (upd (upd G i j (max (G (i + 1) j) (G i (j + 1)))) i j (max (max (G (i + 1) j) (G i (j + 1))) (G (i + 1) (j + 1) + 1)))) := fun hab => by
                  have h := fin_step HF.out (max (max (G (i + 1) j) (G i (j + 1))) (G (i + 1) (j + 1) + 1)) (by rw [HLC.out, if_pos hab, HG10.out, HG01.out, HG11.out])
                  intro p q h1 h2 h3
                  have h4 := h p q h1 h2 h3
                  unfold upd at h4 ⊢
                  by_cases e : p = i ∧ q = j
                  · rw [if_pos e] at h4 ⊢; exact h4
                  · rw [if_neg e] at h4 ⊢; rw [if_neg e]; exact h4
                have r0 := hT2.row (i := i) (by omega)
                have r1 := hT2.row (i := i + 1) (by omega)
                have t11 := hT2.cell (i := i + 1) (j := j + 1) (by omega) (by omega)
                have t00 := hT2.cell (i := i) (j := j) (by omega) (by omega)
                have ev : upd G i j (max (G (i + 1) j) (G i (j + 1))) i j = max (G (i + 1) j) (G i (j + 1)) := by unfold upd; rw [if_pos ⟨rfl, rfl⟩]
                have ew : upd G i j (max (G (i + 1) j) (G i (j + 1))) (i + 1) (j + 1) = G (i + 1) (j + 1) := by unfold upd; rw [if_neg (by omega)]
                rw [ev] at t00
                rw [ew] at t11
                have hmx : max (G (i + 1) j) (G i (j + 1)) ≤ 2001 := by
                  have h1 := lcs_le (x.drop (i + 1)) (y.drop j)
                  have h2 := lcs_le (x.drop i) (y.drop (j + 1))
                  rw [List.length_drop] at h1 h2
                  rw [HG10.out, HG01.out]
                  have := HX.out
                  omega
                clear ev ew HG10 HG01 HG11 HLC HF
                generalize max (G (i + 1) j) (G i (j + 1)) = v1 at *
                generalize G (i + 1) (j + 1) = g11 at *
                rw [← HB0.out] at r0 t00
                rw [← HB1.out] at r1 t11
                by_cases hab : a = b
                · have hq : (a == b) = true := beq_iff_eq.2 hab
                  have HG4 := HG3.out hab
                  clear HG2 HG3 hab
                  go_wp2_with fail
                  go_quiet (fail)
                  have HSET : Hid (∀ (v : Nat) (z : Int), z = v → GridAt ((wc.drewN nq).drew.setCell ⟨b0, j, none⟩ (.int .i64 z)) P n m M1 (upd (upd G i j v1) i j v)) := fun v z h => by
                    rw [HB0.out]
                    exact GridAt.set (w := (wc.drewN nq).drew) ⟨hT2.outer, hT2.rows⟩ (show i ≤ n by omega) (show j ≤ m by omega) v z h
                  have HBS : Hid (∀ v : Value, Below w.heap.size w ((wc.drewN nq).drew.setCell ⟨b0, j, none⟩ v)) := fun v => (Below.drew (below_drewN hB2 nq)).setCell (show w.heap.size ≤ b0 by have := HP.out; have := HB0.out; omega) v
                  have r0' : (wc.drewN nq).cell? _ = _ := r0
                  have r1' : (wc.drewN nq).cell? _ = _ := r1
                  have t11' : (wc.drewN nq).cell? _ = _ := t11
                  have t00' : (wc.drewN nq).cell? _ = _ := t00
                  have t00'' : (wc.drewN nq).drew.cell? _ = _ := t00
                  have tf : (wc.drewN nq).drew.frozen? _ = _ := hT2.frozen (i := i) (by omega) j
                  rw [← HB0.out] at tf
                  clear r0 r1 t11 t00 c1 c2 hT2 hB2
                  generalize wc.drewN nq = w2 at *
                  go_upto_region 15 with (fail)
                  go_still_tail 24, (by kernel_rfl)
                  change wpList _ _ _ _ _ w2.drew
                  clear r0' r1' t11' t00'
                  generalize w2.drew = w3 at *
                  go_wp2_with fail
                  all_goals
                    go_roundg (gk - 1)
                    case measure => have := HQG.out; omega
                    case rel => exact ⟨j, (j : Int) - 1, _, by have := HQG.out; omega, by omega, rfl, by omega, HSET.out _ _ (by omega), HG4, HBS.out _⟩
                · have hq : (a == b) = false := by simpa using hab
                  have HG4 := HG2.out hab
                  clear HG2 HG3 hab
                  go_wp2_with fail
                  go_quiet (fail)
                  go_wp2_with fail
                  go_roundg (gk - 1)
                  case measure => have := HQG.out; omega
                  case rel => exact ⟨j, (j : Int) - 1, _, by have := HQG.out; omega, by omega, rfl, by omega, ⟨hT2.outer, hT2.rows⟩, HG4, below_drewN hB2 _⟩
            | zero =>
              obtain rfl : z = -1 := by omega
              clear hzq
              go_wp2_with fail
              go_roundg (ko - 1)
              case measure => have := HPG.out; omega
              case rel => exact ⟨i, _, G, by have := HPG.out; omega, by omega, rfl, by omega, hT, fin_done HF.out, hB⟩
        | zero =>
          obtain rfl : z = -1 := by omega
          clear hzp
          have hG : ∀ i j, i ≤ n → j ≤ m → G i j = lcs (x.drop i) (y.drop j) := fun i j h1 h2 => hF i j h1 h2 (.inl (by omega))
          have HG := Lib.hid hG; clear hG hF
          clear HPG s0
          obtain ⟨wo, rfl⟩ : ∃ wo : World, wo = wr := ⟨_, rfl⟩
          obtain ⟨ko, rfl⟩ : ∃ ko : Nat, ko = gk := ⟨_, rfl⟩
          obtain ⟨Q, hQ⟩ : ∃ Q, Q = P + 1 + n + 1 := ⟨_, rfl⟩
          have HQ := Lib.hid hQ; clear hQ
          go_wp2_with fail
          go_loopg [9, 10, 102] n (fun gk v9 v10 v102 wr => ∃ (i j : Nat) (l : List (Nat × Nat)), Hid (i + gk = n) ∧ v102 = .int .i64 i ∧ v10 = .int .i64 j ∧ i ≤ n ∧ j ≤ m ∧ Owns PairE wr Q v9 l ∧ Hid (GoodTo x y 0 0 l i j) ∧ Hid (l ++ keptR x y (n - i) i j = keptR x y n 0 0) ∧ GridAt wr P n m M1 G ∧ Below w.heap.size w wr)
          case atStart => exact ⟨0, 0, [], show 0 + n = n by omega, rfl, rfl, by omega, by omega, Owns.nil _ _, ⟨Nat.le_refl 0, Nat.le_refl 0⟩, rfl, hT, hB⟩
          case round =>
            obtain ⟨i, j, l, HK, rfl, rfl, hin, hjm, hown, HGD, HLN, hTr, hBr⟩ := hrel
            clear hT hB
            have HO := Lib.hid hown; clear hown
            have HT := Lib.hid hTr; clear hTr
            have hll : l.length ≤ 2000 := by have := HGD.out.length_le; omega
            by_cases hlt : i < n
            · obtain ⟨w9, rfl⟩ : ∃ w9 : World, w9 = wr := ⟨_, rfl⟩
              obtain ⟨k9, rfl⟩ : ∃ k9 : Nat, k9 = gk := ⟨_, rfl⟩
              have HXA : Hid (x[i]? = some (x.getD i [])) := by show _ = _; have : i < x.length := by (have := HX.out; omega)
                                                                simp [this]
              obtain ⟨gx, ox, rfl, hgx, hcx⟩ := hx.str (by omega)
              have HC1 : Hid (∀ wx, Below w.heap.size w wx → wx.cell? ⟨gx, ox + i, none⟩ = some (.string ⟨(x.getD i []).toArray⟩)) := fun wx hb => (hb.cell (p := ⟨gx, ox + i, none⟩) hgx).trans (hcx i (by omega))
              clear hcx
              generalize x.getD i [] = a at *
              go_wp2_with fail
              go_loopg [9, 10, 12] m (fun gk v9 v10 v12 wr => ∃ (q : Nat), Hid (m ≤ q + gk) ∧ v9 = u9 ∧ v10 = .int .i64 j ∧ v12 = .int .i64 q ∧ j ≤ q ∧ q ≤ m ∧ Owns PairE wr Q v9 l ∧ Hid (findK (hitB x y i j) (m - q) q = findK (hitB x y i j) (m - j) j) ∧ GridAt wr P n m M1 G ∧ Below w.heap.size w wr)
              case atStart => exact ⟨j, show m ≤ j + m by omega, rfl, rfl, rfl, Nat.le_refl _, hjm, HO.out, rfl, HT.out, hBr⟩
              case round =>
                clear HO HT hBr
                obtain ⟨q, HKI, rfl, rfl, rfl, hjq, hqm, hown, HFK, hTr, hBr⟩ := hrel
                have HO := Lib.hid hown; clear hown
                by_cases hqlt : q < m
                · have HKY : Hid (y[q]? = some (y.getD q [])) := by show _ = _; have : q < y.length := by (have := HY.out; omega)
                                                                    simp [this]
                  obtain ⟨gy, oy, rfl, hgy, hcy⟩ := hy.str (by omega)
                  have c1 := HC1.out _ hBr
                  have c2 := (hBr.cell (p := ⟨gy, oy + q, none⟩) hgy).trans (hcy q (by omega))
                  clear hcy
                  generalize y.getD q [] = b at *
                  have HMS : Hid (hitB x y i j q = false → findK (hitB x y i j) (m - (q + 1)) (q + 1) = findK (hitB x y i j) (m - j) j) := fun h => by
                    have h1 := HFK.out
                    rw [show m - q = (m - (q + 1)) + 1 by omega, findK_miss h] at h1
                    exact h1
                  by_cases hab : a = b
                  · have hq : (a == b) = true := beq_iff_eq.2 hab
                    obtain ⟨b0, hb0⟩ : ∃ b0, b0 = P + 1 + i := ⟨_, rfl⟩
                    obtain ⟨b1, hb1⟩ : ∃ b1, b1 = P + 1 + (i + 1) := ⟨_, rfl⟩
                    have r0 := hTr.row (i := i) (by omega)
                    have r1 := hTr.row (i := i + 1) (by omega)
                    have t1 := hTr.cell (i := i + 1) (j := q + 1) (by omega) (by omega)
                    have t0 := hTr.cell (i := i) (j := j) (by omega) (by omega)
                    rw [← hb0] at r0 t0
                    rw [← hb1] at r1 t1
                    clear hb0 hb1
                    have HG1 : Hid (G (i + 1) (q + 1) = lcs (x.drop (i + 1)) (y.drop (q + 1))) := HG.out (i + 1) (q + 1) (by omega) (by omega)
                    have HG0 : Hid (G i j = lcs (x.drop i) (y.drop j)) := HG.out i j (by omega) hjm
                    have hl1 : G (i + 1) (q + 1) ≤ 2000 := by rw [HG1.out]; have h := lcs_le (x.drop (i + 1)) (y.drop (q + 1)); rw [List.length_drop] at h; have := HX.out; omega
                    have HHB : Hid (hitB x y i j q = (G (i + 1) (q + 1) + 1 == G i j)) := by
                      show _ = _
                      unfold hitB
                      rw [HXA.out, HKY.out, ← HG1.out, ← HG0.out]
                      simp [hab]
                    generalize G (i + 1) (q + 1) = g1 at *
                    generalize G i j = g0 at *
                    have q1 : IntKind.i64.wrap ((i : Int) + 1) = (i : Int) + 1 := IntWalk.i64_in _ (by omega)
                    have q2 : IntKind.i64.wrap ((q : Int) + 1) = (q : Int) + 1 := IntWalk.i64_in _ (by omega)
                    have q2' : IntKind.i64.wrap ((g1 : Int) + 1) = (g1 : Int) + 1 := IntWalk.i64_in _ (by omega)
                    have q3 : ((i : Int) + 1).toNat = i + 1 := by omega
                    have q4 : ((q : Int) + 1).toNat = q + 1 := by omega
                    have q5 : (0 : Int) ≤ (i : Int) + 1 := by omega
                    have q6 : (0 : Int) ≤ (q : Int) + 1 := by omega
                    have q7 : (i : Int) + 1 < (k : Int) := by have := HN1.out; omega
                    have q8 : (q : Int) + 1 < (M1 : Int) := by have := HM1.out; omega
                    have q9 : (i : Int) < (k : Int) := by omega
                    have qa : (j : Int) < (M1 : Int) := by have := HM1.out; omega
                    by_cases heq : g1 + 1 = g0
                    · have he : ((g1 : Int) + 1 == (g0 : Int)) = true := by simp; omega
                      have HHT : Hid (hitB x y i j q = true) := by show _ = _; rw [HHB.out]; simpa using heq
                      have HFS : Hid (findK (hitB x y i j) (m - j) j = some q) := by
                        show _ = _
                        rw [← HFK.out, show m - q = (m - (q + 1)) + 1 by omega, findK_hit HHT.out]
                      have HKS : Hid (keptR x y (n - i) i j = (i, q) :: keptR x y (n - (i + 1)) (i + 1) (q + 1)) := by
                        show _ = _
                        rw [show n - i = (n - (i + 1)) + 1 by omega, keptR_some (k := q) (by rw [← HY.out]; exact HFS.out)]
                      clear heq HHB HMS HFK
                      go_wp2_with fail
                      go_quiet (fail)
                      clear q1 q2' q3 q4 q5 q6 q7 q8 q9 qa r0 r1 t0 t1 c1 c2
                      have HT3 : Hid (GridAt (wr.drewN nq) P n m M1 G) := ⟨hTr.outer, hTr.rows⟩
                      have HO3 : Hid (Owns PairE (wr.drewN nq) Q u9 l) := HO.out
                      have hB3 : Below w.heap.size w (wr.drewN nq) := below_drewN hBr nq
                      clear hTr HO hBr
                      generalize wr.drewN nq = w3 at *
                      have hz3 := HT3.out.lt (i := n) (Nat.le_refl _)
                      have hone : ElemsAt PairE (w3.alloc (.cells #[.int .i64 (i : Int), .int .i64 (q : Int)] 123)) (some ⟨w3.heap.size, 0, none⟩) 1 1 [(i, q)] := by
                        have h := one_elem (E := PairE) w3 (i, q)
                        simpa [PairE] using h
                      go_wp2_with (at_builtin; refine append_elems pairE_ok rfl _ _ rfl Q _ l rfl (HO3.out.alloc _) (some ⟨w3.heap.size, 0, none⟩) 1 1 [(i, q)] rfl hone (by simp; omega) (by have := HQ.out; simp; omega) ?_; intro v4 w4 hown4 hgrow4 hv4)
                      have hrow : ∀ r, u9.ownBlock = some r → Q ≤ r := fun r hr => (HO3.out.lt r hr).1
                      have hT4 : GridAt w4 P n m M1 G := HT3.out.keep fun bb h1 h2 => (hgrow4.block bb (by simp; omega) (fun e => by have := hrow _ e.symm; have := HQ.out; omega)).trans (Below.heap_alloc w3 _ bb (by omega))
                      have hB4 : Below w.heap.size w w4 := (hB3.alloc (by have := HP.out; omega) _).grown hgrow4 (by have := HP.out; simp; omega) (fun r hr => by have := hrow r hr; have := HQ.out; have := HP.out; omega)
                      have HO4 := Lib.hid hown4; clear hown4 hone
                      go_wp2_with fail
                      go_roundg (k9 - 1)
                      case measure => have := HK.out; omega
                      case rel => exact ⟨i + 1, q + 1, l ++ [(i, q)], show i + 1 + (k9 - 1) = n by have := HK.out; omega, by go_num, by go_num, by omega, by omega, HO4.out, HGD.out.snoc (i, q) (Nat.le_refl _) (by show j ≤ q; omega) ⟨a, HXA.out, by rw [hab]; exact HKY.out⟩, by show _ = _; rw [← HLN.out, HKS.out, List.append_assoc]; rfl, hT4, hB4⟩
                    · have he : ((g1 : Int) + 1 == (g0 : Int)) = false := by simp; omega
                      have HFS := Lib.hid (HMS.out (by rw [HHB.out]; simpa using heq))
                      clear heq HHB HMS HFK
                      go_wp2_with fail
                      go_quiet (fail)
                      clear q1 q2' q3 q4 q5 q6 q7 q8 q9 qa r0 r1 t0 t1 c1 c2
                      go_wp2_with fail
                      go_roundg (gk - 1)
                      case measure => have := HKI.out; omega
                      case rel => exact ⟨q + 1, show m ≤ q + 1 + (gk - 1) by have := HKI.out; omega, rfl, rfl, by go_num, by omega, by omega, HO.out, HFS.out, ⟨hTr.outer, hTr.rows⟩, below_drewN hBr _⟩
                  · have hq : (a == b) = false := by simpa using hab
                    have HFS := Lib.hid (HMS.out (by unfold hitB; rw [HXA.out, HKY.out]; simp [hab]))
                    clear HMS HFK hab
                    go_wp2_with fail
                    go_quiet (fail)
                    go_wp2_with fail
                    go_roundg (gk - 1)
                    case measure => have := HKI.out; omega
                    case rel => exact ⟨q + 1, show m ≤ q + 1 + (gk - 1) by have := HKI.out; omega, rfl, rfl, by go_num, by omega, by omega, HO.out, HFS.out, ⟨hTr.outer, hTr.rows⟩, below_drewN hBr _⟩
                · obtain rfl : q = m := by omega
                  have HKN : Hid (keptR x y (n - i) i j = keptR x y (n - (i + 1)) (i + 1) j) := by
                    show _ = _
                    have h1 := HFK.out
                    rw [Nat.sub_self] at h1
                    rw [show n - i = (n - (i + 1)) + 1 by omega, keptR_none (by rw [← HY.out]; exact h1.symm)]
                  go_wp2_with fail
                  go_roundg (k9 - 1)
                  case measure => have := HK.out; omega
                  case rel => exact ⟨i + 1, j, l, show i + 1 + (k9 - 1) = n by have := HK.out; omega, by go_num, rfl, by omega, hjm, HO.out, HGD.out.more (by omega) (Nat.le_refl _), by show _ = _; rw [← HLN.out, HKN.out], hTr, hBr⟩
            · obtain rfl : i = n := by omega
              have hown := HO.out
              have hfin : l = keptR x y x.length 0 0 := by
                have h := HLN.out
                rw [Nat.sub_self] at h
                simp only [keptR, List.append_nil] at h
                rw [h, HX.out]
              have hg := HGD.out
              rw [hfin] at hown hg
              have HO5 := Lib.hid hown
              have HG5 := Lib.hid hg
              clear hfin hown hg HO HT
              go_wp2_with fail
              go_ret
              exact ⟨_, i, j, rfl, HO5.out.base_ (by have := HP.out; have := HQ.out; omega), HG5.out, by have := HX.out; omega, by have := HY.out; omega, hBr⟩
end Go.Proofs.YtmaimojpjepmjaaGreatDoor
