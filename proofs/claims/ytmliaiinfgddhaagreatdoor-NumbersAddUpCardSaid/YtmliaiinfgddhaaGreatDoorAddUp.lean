
/-
  NumbersAddUp returns true.
-/
import Derived.Test.YtmliaiinfgddhaaGreatDoorAllocTop
import Derived.Test.YtmliaiinfgddhaaGreatDoorStands
import Derived.Test.YtmliaiinfgddhaaGreatDoorStreamNew
namespace Go.Proofs.YtmliaiinfgddhaaGreatDoor
open Go.RowKit
attribute [local go_sem ↓] Go.wp_at_zero Go.wp_at_succ

def RangePost (w : World) (g : Nat) (A : Option Addr) (n c K : Nat) (lo hi : Int) (e : Ending) (w' : World) : Prop :=
  ∃ r : Int, e = .returned (.int .i64 r) ∧ lo ≤ r ∧ r ≤ hi ∧ StreamAt w' g A n c (K + 1) ∧ w.grownBy w' (some g)
set_option maxHeartbeats 800000 in
theorem range_any (g : Nat) (A : Option Addr) (n c K : Nat) (lo hi : Int) (w : World) (hs : StreamAt w g A n c K) (hK : K ≤ 1000000) (h0 : 0 ≤ lo) (h1 : lo ≤ hi) (h2 : hi ≤ 1000000) :
    Calls Tryz.prog 8 #[.pointer (some ⟨g, 0, none⟩), .int .i64 lo, .int .i64 hi] w (RangePost w g A n c K lo hi) := by
  have hni : ¬ hi < lo := by omega
  have e1 : IntKind.i64.wrap (hi - lo) = hi - lo := IntWalk.i64_in _ (by omega)
  have e2 : IntKind.i64.wrap (hi - lo + 1) = hi - lo + 1 := IntWalk.i64_in _ (by omega)
  go_enter Tryz.func8, Tryz.ntmps8
  go_wp2_with fail
  refine (next_any g A n c K (hi - lo + 1) w hs hK (by omega)).mono ?_
  rintro e w2 ⟨r, rfl, hr0, hr1, hs2, hg2⟩
  have hr1 := hr1 (by omega)
  have e3 : IntKind.i64.wrap (lo + r) = lo + r := IntWalk.i64_in _ (by omega)
  go_wp2_with fail
  go_ret
  exact ⟨lo + r, rfl, by omega, by omega, hs2, hg2⟩
theorem pick_cells (w : World) (zs : List Int) (t : TypeId) : ∀ j, j < zs.length → (w.alloc (.cells (zs.map (Value.int .i64)).toArray t)).cell? ⟨w.heap.size, j, none⟩ = some (.int .i64 (zs.getD j 0)) := by
  intro j hj
  rw [World.cell?_alloc_at _ _ _ _ rfl]
  simp [hj]
abbrev sizesZ : List Int := [0, 1, 2, 3, 10, 17, 2000]
abbrev manyZ : List Int := [0, 1, 5, 7, 20, 1000, 2000]
theorem sizes_in {r : Int} (h : r ∈ sizesZ) : ∃ x : Nat, r = (x : Int) ∧ x ≤ 2000 := by
  simp at h
  rcases h with rfl | rfl | rfl | rfl | rfl | rfl | rfl
  · exact ⟨0, rfl, by omega⟩
  · exact ⟨1, rfl, by omega⟩
  · exact ⟨2, rfl, by omega⟩
  · exact ⟨3, rfl, by omega⟩
  · exact ⟨10, rfl, by omega⟩
  · exact ⟨17, rfl, by omega⟩
  · exact ⟨2000, rfl, by omega⟩
theorem many_in {r : Int} (h : r ∈ manyZ) : ∃ x : Nat, r = (x : Int) ∧ x ≤ 2000 := by
  simp at h
  rcases h with rfl | rfl | rfl | rfl | rfl | rfl | rfl
  · exact ⟨0, rfl, by omega⟩
  · exact ⟨1, rfl, by omega⟩
  · exact ⟨5, rfl, by omega⟩
  · exact ⟨7, rfl, by omega⟩
  · exact ⟨20, rfl, by omega⟩
  · exact ⟨1000, rfl, by omega⟩
  · exact ⟨2000, rfl, by omega⟩
theorem each_le {L : List Nat} {b : Nat} (h : ∀ x ∈ L, x ≤ b) (k : Nat) : L.getD k 0 ≤ b := by
  rw [List.getD_eq_getElem?_getD]
  cases e : L[k]? with
  | none => simp
  | some x => simp; exact h x (List.mem_of_getElem? e)
set_option maxHeartbeats 3200000 in
set_option maxRecDepth 100000 in
theorem addUp_any (A : Option Addr) (n c : Nat) (w : World) (hA : RowAt w A n) (hbig : n ≤ 1000000000000000) (hS : StandAt w) :
    Calls Tryz.prog 6 #[.slice A n c] w (LawPost w) := by
  have hst := stream_new w A n c hA hbig
  have hB : Below w.heap.size w (w.alloc (.cells #[.slice A n c, .int .i64 0] 25)) := (Below.refl _ _).alloc (Nat.le_refl _) _
  have HS := Lib.hid hS; clear hS
  go_enter Tryz.func6, Tryz.ntmps6
  go_upto_region 4 with (fail)
  have hz1 : (w.alloc (.cells #[.slice A n c, .int .i64 0] 25)).heap.size = w.heap.size + 1 := by simp
  generalize w.alloc (.cells #[.slice A n c, .int .i64 0] 25) = w1 at *
  have HZ1 := Lib.hid hz1; clear hz1
  have HB1 := Lib.hid hB
  go_wp2_with fail
  refine (range_any w.heap.size A n c 0 0 8 w1 hst (by omega) (by omega) (by omega) (by omega)).mono ?_
  rintro e w2 ⟨N, rfl, hN0, hN1, hs2, hg2⟩
  obtain ⟨N, rfl⟩ := Int.eq_ofNat_of_zero_le hN0
  have HG2 := Lib.hid hg2
  have HST2 := Lib.hid hs2
  clear hst hs2 hg2
  go_wp2_with fail
  have hz2 := HG2.out.size
  go_loopg [4, 5, 17] N (fun gk v4 v5 i wr => ∃ (k : Nat) (L : List Nat), Hid (k + gk = N) ∧ i = .int .i64 (k : Int) ∧ v5 = .int .i64 ((L.sum : Nat) : Int) ∧ Hid (Owns IntE wr w1.heap.size v4 (natI L)) ∧ Hid (L.length = k) ∧ Hid (∀ x ∈ L, x ≤ 2000) ∧ Hid (StreamAt wr w.heap.size A n c (1 + k)) ∧ Hid (w1.grownBy wr (some w.heap.size)))
  case atStart => exact ⟨0, [], show 0 + N = N by omega, rfl, rfl, Owns.nil _ _, rfl, (fun x hx => by cases hx), HST2.out, HG2.out⟩
  case round =>
    obtain ⟨k, L, HK, rfl, rfl, HO, HL, HLE, HST, HG⟩ := hrel
    clear HG2 HST2 hz2
    have hk := HK.out
    have hkN : k ≤ N := by omega
    have hN8 : N ≤ 8 := by omega
    have hzr := HG.out.size
    have hw1 := HZ1.out
    have hsum := sum_le_each 2000 L HLE.out
    have hll := HL.out
    have hsum2 : L.sum ≤ 20000 := by omega
    clear hk hsum hll
    by_cases hlt : k < N
    · go_wp2_with fail
      refine (pick_any w.heap.size A n c (1 + k) sizesZ wr.heap.size 7 7 _ (HST.out.below ((Below.refl _ _).alloc (Nat.le_refl _) _)) (by omega) rfl (by omega) (by omega) (by omega) (fun j hj => pick_cells wr sizesZ 3 j hj)).mono ?_
      rintro e w3 ⟨r, rfl, hr, hs3, hg3⟩
      obtain ⟨x, rfl, hx⟩ := sizes_in hr
      have hba : Below wr.heap.size wr (wr.alloc (.cells #[.int .i64 0, .int .i64 1, .int .i64 2, .int .i64 3, .int .i64 10, .int .i64 17, .int .i64 2000] 3)) := (Below.refl _ _).alloc (Nat.le_refl _) _
      have HO3 := Lib.hid ((HO.out.below_ hba).kept_ hg3 (fun i e => by have := Option.some.inj e; omega))
      have HG3 := Lib.hid (grown_trans (grown_below HG.out hba) hg3)
      have HST3 := Lib.hid hs3
      have hz3 := HG3.out.size
      have HLEN : Hid ((natI L ++ [(x : Int)]).length = k + 1) := by show _ = _; simp; exact HL.out
      have HGET : Hid ((natI L ++ [(x : Int)]).getD k 0 = (x : Int)) := by
        show _ = _
        have : k = (natI L).length := by simp; exact HL.out.symm
        rw [this, List.getD_eq_getElem?_getD]; simp
      clear hr hs3 hg3 hba HO HG HST hzr
      go_wp2_with (at_builtin; refine append_elems intE_ok rfl _ _ rfl w1.heap.size _ (natI L) rfl (World.ownsRow.alloc HO3.out _) (some ⟨w3.heap.size, 0, none⟩) 1 1 [(x : Int)] rfl (one_elem (E := IntE) w3 (x : Int)) (by simp; have := HL.out; omega) (by simp; omega) ?_; intro v4' w4 hown4 hgrow4 hv4; have HOW4 := Lib.hid hown4; have hat := hown4.at_ intE_ok; rw [HLEN.out] at hat; obtain ⟨A4, c4, rfl, hc4, hat4, ho4⟩ := hat; obtain ⟨g4, off4, rfl, hg4, hcell4⟩ := hat4.intc k (by omega); rw [HGET.out] at hcell4; have HGW : Hid ((w3.alloc (.cells #[.int .i64 (x : Int)] 3)).grownBy w4 u4.ownBlock) := hgrow4; have hk4 := hat4.2.1; clear hown4 hgrow4 hat4 ho4 hv4)
      have hga := grown_alloc (World.grownBy.refl w3 none) (.cells #[.int .i64 (x : Int)] 3)
      have hrow : ∀ i, u4.ownBlock = some i → w1.heap.size ≤ i := fun i e => (HO3.out.lt i e).1
      have HGG : Hid (w3.grownBy w4 u4.ownBlock) := grown_trans hga.row_none HGW.out
      have hz4 := HGG.out.size
      have hwl : w.heap.size < w3.heap.size := by omega
      go_roundg (gk - 1)
      case measure => have := HK.out; omega
      case rel =>
        refine ⟨k + 1, L ++ [x], show k + 1 + (gk - 1) = N by have := HK.out; omega, by go_num, by rw [List.sum_append]; simp, ?_, by show _ = _; rw [List.length_append, HL.out]; rfl, ?_, ?_, ?_⟩
        · have h := HOW4.out
          rw [show natI L ++ [(x : Int)] = natI (L ++ [x]) by simp] at h
          exact h
        · show ∀ y ∈ L ++ [x], y ≤ 2000
          intro y hy
          rcases List.mem_append.1 hy with h | h
          · exact HLE.out y h
          · rw [List.mem_singleton.1 h]; exact hx
        · exact HST3.out.keep (fun i hi => HGG.out.block i (by omega) (fun e => by have := hrow i e.symm; omega))
        · exact grown_row HG3.out HGG.out hrow
    · obtain rfl : k = N := by omega
      obtain rfl : L.length = k := HL.out
      have hkk : ¬ ((L.length : Nat) : Int) < ((L.length : Nat) : Int) := by omega
      have hat := HO.out.at_ intE_ok
      have hnl : (natI L).length = L.length := by simp
      rw [hnl] at hat
      obtain ⟨A4, c4, rfl, hc4, hat4, ho4⟩ := hat
      have HAT := Lib.hid hat4
      clear hat4 ho4 hnl HL hlt hkN HK hB
      generalize hSum : L.sum = tot at *
      go_wp2_with fail
      refine (pick_any w.heap.size A n c (1 + L.length) manyZ wr.heap.size 7 7 _ (HST.out.below ((Below.refl _ _).alloc (Nat.le_refl _) _)) (by omega) rfl (by omega) (by omega) (by omega) (fun j hj => pick_cells wr manyZ 3 j hj)).mono ?_
      rintro e w3 ⟨r, rfl, hr, hs3, hg3⟩
      obtain ⟨x, rfl, hx⟩ := many_in hr
      have hba : Below wr.heap.size wr (wr.alloc (.cells #[.int .i64 0, .int .i64 1, .int .i64 5, .int .i64 7, .int .i64 20, .int .i64 1000, .int .i64 2000] 3)) := (Below.refl _ _).alloc (Nat.le_refl _) _
      have hA4 : ∀ g off, A4 = some ⟨g, off, none⟩ → some w.heap.size ≠ some g := fun g off e he => by
        have := (HO.out.lt g (by rw [e]; rfl)).1
        have := Option.some.inj he
        omega
      have hAT3 : ElemsAt IntE w3 A4 L.length c4 (natI L) := ElemsAt.grown (HAT.out.keep hba) hg3 hA4
      have hg3' : w1.grownBy w3 (some w.heap.size) := grown_trans (grown_below HG.out hba) hg3
      have HAL := Lib.hid (allocTop_any A4 c4 x L w3 hAT3 hx (by omega) (each_le HLE.out) (by omega))
      have HAT3 := Lib.hid hAT3
      have HG3 := Lib.hid hg3'
      clear hAT3 hg3' hA4 hr hs3 hg3 hba HAT HO HG HST hzr
      go_wp2_with fail
      refine HAL.out.mono ?_
      rintro e w4 ⟨v, Gl, rfl, hG1, hG2, hG3, hG4, hb4⟩
      have hat := hG1.at_ intE_ok
      have hnl : (natI Gl).length = L.length := by simp; exact hG2
      rw [hnl] at hat
      obtain ⟨AG, cG, rfl, hcG, hatG, hjk⟩ := hat
      clear hjk
      have HLC := Lib.hid ((HAT3.out.keep hb4).intc)
      have HGC := Lib.hid hatG.intc
      have HGL := Lib.hid hG3
      have HGS := Lib.hid hG4
      have HGE := Lib.hid hG2
      have hc4' := HAT3.out.2.1
      have hcG' := hatG.2.1
      have HG4 := Lib.hid (grown_below HG3.out hb4)
      clear hatG hb4 hG1 hG2 hG3 hG4 hnl HAL HG3 HAT3
      go_wp2_with fail
      go_loopg [9, 54] L.length (fun gk v9 i wx => ∃ k : Nat, Hid (k + gk = L.length) ∧ i = .int .i64 (k : Int) ∧ v9 = .int .i64 (((Gl.take k).sum : Nat) : Int) ∧ w4 = wx)
      case atStart => exact ⟨0, show 0 + L.length = L.length by omega, rfl, rfl, rfl⟩
      case round =>
        obtain ⟨k, HK, rfl, rfl, rfl⟩ := hrel
        have hk := HK.out
        have hkL : k ≤ L.length := by omega
        clear hk
        have hGs : Gl.sum ≤ 100000 := by rw [HGS.out]; omega
        have hGk := sum_take_le Gl k
        by_cases hlt : k < L.length
        · obtain ⟨g1, off1, rfl, hg1, hc1⟩ := HGC.out k hlt
          obtain ⟨g2, off2, rfl, hg2, hc2⟩ := HLC.out k hlt
          rw [natI_get] at hc1 hc2
          have hle := HGL.out k
          have hlk := each_le HLE.out k
          have HTK : Hid ((Gl.take (k + 1)).sum = (Gl.take k).sum + Gl.getD k 0) := by
            show _ = _
            have hkl : k < Gl.length := by rw [HGE.out]; exact hlt
            rw [List.take_succ_eq_append_getElem hkl, List.sum_append]
            simp [hkl, -List.take_append_getElem]
          generalize (Gl.take k).sum = S at *
          generalize Gl.getD k 0 = gv at *
          generalize L.getD k 0 = lv at *
          have h0 : ¬ (gv : Int) < 0 := by omega
          have h1 : ¬ (gv : Int) > (lv : Int) := by omega
          go_wp2_with fail
          go_roundg (gk - 1)
          case measure => have := HK.out; omega
          case rel => exact ⟨k + 1, show k + 1 + (gk - 1) = _ by have := HK.out; omega, by go_num, by rw [HTK.out]; go_num, rfl⟩
        · obtain rfl : k = L.length := by omega
          have hall : (Gl.take L.length).sum = min tot x := by rw [List.take_of_length_le (by rw [HGE.out]; exact Nat.le_refl _), HGS.out, hSum]
          rw [hall]
          clear hGk hlt hkL hall
          have HB4 : Hid (Below w.heap.size w w4) := HB1.out.grown HG4.out HB1.out.size (fun i e => Nat.le_of_eq (Option.some.inj e))
          have HSA := Lib.hid (stands_any w4 (HS.out.below HB4.out))
          go_wp2_with fail
          refine HSA.out.mono ?_
          rintro e w5 ⟨rfl, hb5⟩
          have HB5 := Lib.hid (below_trans' HB4.out hb5)
          clear hb5 HSA
          go_wp2_with fail
          go_ret
          exact ⟨rfl, HB5.out⟩
end Go.Proofs.YtmliaiinfgddhaaGreatDoor
