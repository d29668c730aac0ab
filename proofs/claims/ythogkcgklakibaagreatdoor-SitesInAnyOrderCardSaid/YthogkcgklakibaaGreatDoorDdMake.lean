
/-
  What a deed is made of: chasemake's Doing.
-/
import Derived.Test.YthogkcgklakibaaGreatDoorRange
import Derived.Test.YthogkcgklakibaaGreatDoorShelf
import Derived.Test.YthogkcgklakibaaGreatDoorStrLib
import Derived.Test.YthogkcgklakibaaGreatDoorDdE
import Derived.Deep.DeepCutAuto
import Derived.Deep.RegionHeld3
import Derived.Deep.CutBlock
namespace Go.Proofs.YthogkcgklakibaaGreatDoor
open Go.RowKit
attribute [local go_sem ↓] Go.wp_at_zero Go.wp_at_succ

def SizePost (w : World) (g : Nat) (A : Option Addr) (n c K S : Nat) (e : Ending) (w' : World) : Prop :=
  ∃ r : ByteArray, e = .returned (.string r) ∧ r.size ≤ S ∧ StreamAt w' g A n c (K + 1) ∧ w.grownBy w' (some g)
set_option maxHeartbeats 400000 in
theorem oneZ_any (g : Nat) (A : Option Addr) (n c K S : Nat) (h m cap : Nat) (w : World) (hs : StreamAt w g A n c K) (hK : K ≤ 1000000)
    (hm1 : 1 ≤ m) (hm2 : m ≤ 1000) (hgh : g ≠ h) (hc : ∀ j, j < m → ∃ s : ByteArray, w.cell? ⟨h, j, none⟩ = some (.string s) ∧ s.size ≤ S) :
    Calls Tryz.prog 64 #[.pointer (some ⟨g, 0, none⟩), .slice (some ⟨h, 0, none⟩) m cap] w (SizePost w g A n c K S) := by
  have HC := Lib.hid hc; clear hc
  go_enter Tryz.func64, Tryz.ntmps64
  go_wp2_with fail
  refine (next_any g A n c K m w hs hK (by omega)).mono ?_
  rintro e w1 ⟨r, rfl, h0, h1, hs1, hg1⟩
  have h2 := h1 (by omega)
  clear h1
  obtain ⟨i, rfl⟩ := Int.eq_ofNat_of_zero_le h0
  obtain ⟨s, hcs, hsz⟩ := HC.out i (by omega)
  have hcell : w1.cell? ⟨h, i, none⟩ = some (.string s) := hg1.cell hcs (by simp; omega)
  go_wp2
  go_ret
  exact ⟨s, rfl, hsz, hs1, hg1⟩
set_option maxHeartbeats 400000 in
theorem pickI_any (g : Nat) (A : Option Addr) (n c K : Nat) (lo hi : Int) (h m cap : Nat) (w : World) (hs : StreamAt w g A n c K) (hK : K ≤ 1000000)
    (hm1 : 1 ≤ m) (hm2 : m ≤ 1000) (hgh : g ≠ h) (hc : ∀ j, j < m → ∃ z : Int, w.cell? ⟨h, j, none⟩ = some (.int .i64 z) ∧ lo ≤ z ∧ z ≤ hi) :
    Calls Tryz.prog 63 #[.pointer (some ⟨g, 0, none⟩), .slice (some ⟨h, 0, none⟩) m cap] w (RangeR w g A n c K lo hi) := by
  have HC := Lib.hid hc; clear hc
  go_enter Tryz.func63, Tryz.ntmps63
  go_wp2_with fail
  refine (next_any g A n c K m w hs hK (by omega)).mono ?_
  rintro e w1 ⟨r, rfl, h0, h1, hs1, hg1⟩
  have h2 := h1 (by omega)
  clear h1
  obtain ⟨i, rfl⟩ := Int.eq_ofNat_of_zero_le h0
  obtain ⟨s, hcs, hlo, hhi⟩ := HC.out i (by omega)
  have hcell : w1.cell? ⟨h, i, none⟩ = some (.int .i64 s) := hg1.cell hcs (by simp; omega)
  go_wp2
  go_ret
  exact ⟨s, rfl, hlo, hhi, hs1, hg1⟩
set_option maxHeartbeats 800000 in
theorem rangeB_any (g : Nat) (A : Option Addr) (n c K : Nat) (lo hi : Int) (w : World) (hs : StreamAt w g A n c K) (hK : K ≤ 1000000) (h0 : -100000000 ≤ lo) (h1 : lo ≤ hi) (h2 : hi ≤ 100000000) :
    Calls Tryz.prog 66 #[.pointer (some ⟨g, 0, none⟩), .int .i64 lo, .int .i64 hi] w (RangeR w g A n c K lo hi) := by
  have hni : ¬ hi < lo := by omega
  have e1 : IntKind.i64.wrap (hi - lo) = hi - lo := IntWalk.i64_in _ (by omega)
  have e2 : IntKind.i64.wrap (hi - lo + 1) = hi - lo + 1 := IntWalk.i64_in _ (by omega)
  go_enter Tryz.func66, Tryz.ntmps66
  go_wp2_with fail
  refine (next_any g A n c K (hi - lo + 1) w hs hK (by omega)).mono ?_
  rintro e w2 ⟨r, rfl, hr0, hr1, hs2, hg2⟩
  have hr1 := hr1 (by omega)
  have e3 : IntKind.i64.wrap (lo + r) = lo + r := IntWalk.i64_in _ (by omega)
  go_wp2_with fail
  go_ret
  exact ⟨lo + r, rfl, by omega, by omega, hs2, hg2⟩
/-- Two numbers in a block. -/
abbrev SpB (w : World) (P : Nat) (a b : Int) : Prop := w.heap[P]? = some (.cells #[.int .i64 a, .int .i64 b] 38 (0, 0))
theorem SpB.c {w : World} {P : Nat} {a b : Int} (h : SpB w P a b) : w.cell? ⟨P, 0, none⟩ = some (.int .i64 a) ∧ w.cell? ⟨P, 1, none⟩ = some (.int .i64 b) := by
  refine ⟨?_, ?_⟩ <;> (rw [cell_of_row w P _ _ _ _ h]; rfl)
theorem SpB.f {w : World} {P : Nat} {a b : Int} (h : SpB w P a b) : w.frozen? ⟨P, 0, none⟩ = false ∧ w.frozen? ⟨P, 1, none⟩ = false := by
  refine ⟨?_, ?_⟩ <;> simp [World.frozen?, h]
theorem SpB.grown {w w' : World} {P g : Nat} {a b : Int} (h : SpB w P a b) (hg : w.grownBy w' (some g)) (hne : g ≠ P) : SpB w' P a b := (hg.block P (Array.getElem?_eq_some_iff.1 h).1 (fun e => hne (Option.some.inj e).symm)).trans h
theorem grown_setNew {w w' : World} {g P o : Nat} (h : w.grownBy w' (some g)) (hP : w.heap.size ≤ P) (v : Value) : w.grownBy (w'.setCell ⟨P, o, none⟩ v) (some g) :=
  ⟨h.os, h.tape, h.output, by simpa [World.setCell] using h.size, fun i hi hne => (Below.heap_setCell w' ⟨P, o, none⟩ v i (by simp; omega)).trans (h.block i hi hne)⟩
theorem cells_setS {w : World} {Z : Nat} {cs : Array Value} {t : TypeId} {fr : Nat × Nat} (h : w.heap[Z]? = some (.cells cs t fr)) (i : Nat) (v : Value) : (w.setCell ⟨Z, i, none⟩ v).heap[Z]? = some (.cells (cs.setIfInBounds i v) t fr) := by
  simp [World.setCell, Array.getElem?_modify, h]
theorem StreamAt.setP {w : World} {g P o : Nat} {A : Option Addr} {n c K : Nat} (h : StreamAt w g A n c K) (hP : g < P) (v : Value) : StreamAt (w.setCell ⟨P, o, none⟩ v) g A n c K :=
  h.keep fun i hi => Below.heap_setCell w ⟨P, o, none⟩ v i (by simp; omega)
theorem rep_szD (u : List UInt8) (z : Nat) : (⟨(Lib.repeatL u z).toArray⟩ : ByteArray).size = z * u.length := by
  have h := Lib.repeatL_length u z
  simp only [ByteArray.size, List.size_toArray]
  rw [h]
structure MadeD (w0 : World) (g : Nat) (A : Option Addr) (n c K P : Nat) (w : World) : Prop where
  st : StreamAt w g A n c K
  gr : w0.grownBy w (some g)
  sp : ∃ a b, SpB w P a b
def DoingPost (w : World) (g : Nat) (A : Option Addr) (n c K : Nat) (e : Ending) (w' : World) : Prop :=
  ∃ (at_ kind : Int) (id fld val : ByteArray) (fr tu : Int), e = .returned (.tuple #[.int .i64 at_, .int .i64 kind, .string id, .string fld, .string val, .agg #[.int .i64 fr, .int .i64 tu]]) ∧ (id.size ≤ 1000 ∧ fld.size ≤ 1000 ∧ val.size ≤ 1000) ∧ StreamAt w' g A n c (K + 12) ∧ w.grownBy w' (some g)
set_option maxHeartbeats 6400000 in
set_option maxRecDepth 100000 in
theorem doing_any (g : Nat) (A : Option Addr) (n c K : Nat) (w : World) (hs : StreamAt w g A n c K) (hK : K ≤ 100000) :
    Calls Tryz.prog 28 #[.pointer (some ⟨g, 0, none⟩)] w (DoingPost w g A n c K) := by
  have hgl := hs.lt
  have HS1 : Hid (StreamAt (w.alloc (.cells #[.int .i64 0, .int .i64 0] 38)) g A n c K) := hs.alloc _
  have HG1 : Hid (w.grownBy (w.alloc (.cells #[.int .i64 0, .int .i64 0] 38)) (some g)) := grown_alloc (World.grownBy.refl _ _) _
  have HP1 : Hid (SpB (w.alloc (.cells #[.int .i64 0, .int .i64 0] 38)) w.heap.size 0 0) := heap_alloc_new w _
  clear hs
  go_enter Tryz.func28, Tryz.ntmps28
  go_upto_region 1 with (fail)
  obtain ⟨P, hPe⟩ : ∃ P, P = w.heap.size := ⟨_, rfl⟩
  rw [← hPe] at HP1 hgl ⊢
  have HPE : Hid (w.heap.size ≤ P) := by show _ ≤ _; omega
  clear hPe
  generalize w.alloc (.cells #[.int .i64 0, .int .i64 0] 38) = w1 at *
  have hne : g ≠ P := by omega
  have hgP : g < P := hgl
  go_wp2_with fail
  refine (next_any g A n c _ 50 w1 HS1.out (by omega) (by omega)).mono ?_
  rintro e w2 ⟨at_, rfl, hat_0, hat_1, hs, hg⟩
  have HS2 := Lib.hid hs
  have HG2 := Lib.hid (grown_trans HG1.out hg)
  have HP2 := Lib.hid (HP1.out.grown hg hne)
  have hgl2 := hs.lt
  clear hs hg HS1 HG1 HP1
  clear hat_0 hat_1
  go_wp2_with fail
  refine (pickI_any g A n c _ (1) 5 w2.heap.size 5 5 _ (HS2.out.alloc _) (by omega) (by omega) (by omega) (by omega) (fun j hj => ?_)).mono ?_
  · rw [World.cell?_alloc_at _ _ _ _ rfl]
    iterate 6 (first | (exfalso; omega) | (rcases j with _ | j; exact ⟨_, rfl, by omega, by omega⟩))
  rintro e w3 ⟨kind, rfl, hkind0, hkind1, hs, hg⟩
  have HS3 := Lib.hid hs
  have HG3 := Lib.hid (grown_trans (grown_alloc HG2.out _) hg)
  have HP3 := Lib.hid ((HP2.out.grown (grown_alloc (World.grownBy.refl _ (some g)) _) hne).grown hg hne)
  have hgl3 := hs.lt
  clear hs hg HS2 HG2 HP2
  go_wp2_with fail
  refine (oneZ_any g A n c _ 300 w3.heap.size 3 3 _ (HS3.out.alloc _) (by omega) (by omega) (by omega) (by omega) (fun j hj => ?_)).mono ?_
  · rw [World.cell?_alloc_at _ _ _ _ rfl]
    iterate 4 (first | (exfalso; omega) | (rcases j with _ | j; exact ⟨_, rfl, by decide⟩))
  rintro e w4 ⟨id, rfl, hz, hs, hg⟩
  have HZid : Hid (id.size ≤ 1000) := by show _ ≤ _; omega
  clear hz
  have HS4 := Lib.hid hs
  have HG4 := Lib.hid (grown_trans (grown_alloc HG3.out _) hg)
  have HP4 := Lib.hid ((HP3.out.grown (grown_alloc (World.grownBy.refl _ (some g)) _) hne).grown hg hne)
  have hgl4 := hs.lt
  clear hs hg HS3 HG3 HP3
  obtain ⟨kn, rfl⟩ := Int.eq_ofNat_of_zero_le (show 0 ≤ kind by omega)
  have hkc : kn = 1 ∨ kn = 2 ∨ kn = 3 ∨ kn = 4 ∨ kn = 5 := by omega
  clear hkind0 hkind1
  go_upto_block 0 with (fail)
  go_cut [5, 6] (fun v5 v6 wx => ∃ s5 s6 : ByteArray, v5 = .string s5 ∧ v6 = .string s6 ∧ Hid (s5.size ≤ 1000 ∧ s6.size ≤ 1000) ∧ Hid (MadeD w g A n c (K + 5) P wx))
  case first =>
    rcases hkc with rfl | rfl | rfl | rfl | rfl
    · go_wp2_with fail
      refine (oneZ_any g A n c _ 300 w4.heap.size 2 2 _ (HS4.out.alloc _) (by omega) (by omega) (by omega) (by omega) (fun j hj => ?_)).mono ?_
      · rw [World.cell?_alloc_at _ _ _ _ rfl]
        iterate 3 (first | (exfalso; omega) | (rcases j with _ | j; exact ⟨_, rfl, by decide⟩))
      rintro e w5 ⟨s5, rfl, hz, hs, hg⟩
      have HZs5 : Hid (s5.size ≤ 1000) := by show _ ≤ _; omega
      clear hz
      have HS5 := Lib.hid hs
      have HG5 := Lib.hid (grown_trans (grown_alloc HG4.out _) hg)
      have HP5 := Lib.hid ((HP4.out.grown (grown_alloc (World.grownBy.refl _ (some g)) _) hne).grown hg hne)
      have hgl5 := hs.lt
      clear hs hg HS4 HG4 HP4
      go_wp2_with fail
      refine (oneZ_any g A n c _ 300 w5.heap.size 4 4 _ (HS5.out.alloc _) (by omega) (by omega) (by omega) (by omega) (fun j hj => ?_)).mono ?_
      · rw [World.cell?_alloc_at _ _ _ _ rfl]
        iterate 5 (first | (exfalso; omega) | (rcases j with _ | j; exact ⟨_, rfl, by decide⟩))
      rintro e w6 ⟨s6, rfl, hz, hs, hg⟩
      have HZs6 : Hid (s6.size ≤ 1000) := by show _ ≤ _; omega
      clear hz
      have HS6 := Lib.hid hs
      have HG6 := Lib.hid (grown_trans (grown_alloc HG5.out _) hg)
      have HP6 := Lib.hid ((HP5.out.grown (grown_alloc (World.grownBy.refl _ (some g)) _) hne).grown hg hne)
      have hgl6 := hs.lt
      clear hs hg HS5 HG5 HP5
      go_wp2_with fail
      go_meet
      exact ⟨s5, s6, rfl, rfl, ⟨HZs5.out, HZs6.out⟩, ⟨HS6.out.more (by omega), HG6.out, ⟨_, _, HP6.out⟩⟩⟩
    · go_wp2_with fail
      refine (oneZ_any g A n c _ 300 w4.heap.size 2 2 _ (HS4.out.alloc _) (by omega) (by omega) (by omega) (by omega) (fun j hj => ?_)).mono ?_
      · rw [World.cell?_alloc_at _ _ _ _ rfl]
        iterate 3 (first | (exfalso; omega) | (rcases j with _ | j; exact ⟨_, rfl, by decide⟩))
      rintro e w5 ⟨s6, rfl, hz, hs, hg⟩
      have HZs6 : Hid (s6.size ≤ 1000) := by show _ ≤ _; omega
      clear hz
      have HS5 := Lib.hid hs
      have HG5 := Lib.hid (grown_trans (grown_alloc HG4.out _) hg)
      have HP5 := Lib.hid ((HP4.out.grown (grown_alloc (World.grownBy.refl _ (some g)) _) hne).grown hg hne)
      have hgl5 := hs.lt
      clear hs hg HS4 HG4 HP4
      go_wp2_with fail
      go_meet
      exact ⟨⟨#[]⟩, s6, rfl, rfl, ⟨(by show 0 ≤ 1000; omega), HZs6.out⟩, ⟨HS5.out.more (by omega), HG5.out, ⟨_, _, HP5.out⟩⟩⟩
    · go_wp2_with fail
      refine (oneZ_any g A n c _ 300 w4.heap.size 2 2 _ (HS4.out.alloc _) (by omega) (by omega) (by omega) (by omega) (fun j hj => ?_)).mono ?_
      · rw [World.cell?_alloc_at _ _ _ _ rfl]
        iterate 3 (first | (exfalso; omega) | (rcases j with _ | j; exact ⟨_, rfl, by decide⟩))
      rintro e w5 ⟨s6, rfl, hz, hs, hg⟩
      have HZs6 : Hid (s6.size ≤ 1000) := by show _ ≤ _; omega
      clear hz
      have HS5 := Lib.hid hs
      have HG5 := Lib.hid (grown_trans (grown_alloc HG4.out _) hg)
      have HP5 := Lib.hid ((HP4.out.grown (grown_alloc (World.grownBy.refl _ (some g)) _) hne).grown hg hne)
      have hgl5 := hs.lt
      clear hs hg HS4 HG4 HP4
      go_wp2_with fail
      go_meet
      exact ⟨⟨#[]⟩, s6, rfl, rfl, ⟨(by show 0 ≤ 1000; omega), HZs6.out⟩, ⟨HS5.out.more (by omega), HG5.out, ⟨_, _, HP5.out⟩⟩⟩
    · go_wp2_with fail
      refine (pickI_any g A n c _ (0) 4 w4.heap.size 3 3 _ (HS4.out.alloc _) (by omega) (by omega) (by omega) (by omega) (fun j hj => ?_)).mono ?_
      · rw [World.cell?_alloc_at _ _ _ _ rfl]
        iterate 4 (first | (exfalso; omega) | (rcases j with _ | j; exact ⟨_, rfl, by omega, by omega⟩))
      rintro e w5 ⟨fr, rfl, hfr0, hfr1, hs, hg⟩
      have HS5 := Lib.hid hs
      have HG5 := Lib.hid (grown_trans (grown_alloc HG4.out _) hg)
      have HP5 := Lib.hid ((HP4.out.grown (grown_alloc (World.grownBy.refl _ (some g)) _) hne).grown hg hne)
      have hgl5 := hs.lt
      clear hs hg HS4 HG4 HP4
      obtain ⟨q0, q1⟩ := HP5.out.f
      obtain ⟨c0, c1⟩ := HP5.out.c
      have hst : (w5.setCell ⟨P, 0, none⟩ (.int .i64 fr)).heap[P]? = some (.cells #[.int .i64 fr, .int .i64 0] 38 (0, 0)) := by
        have h := cells_setS HP5.out 0 (.int .i64 fr)
        exact h
      have HP6 : Hid (SpB (w5.setCell ⟨P, 0, none⟩ (.int .i64 fr)) P fr 0) := hst
      have HS6 : Hid (StreamAt (w5.setCell ⟨P, 0, none⟩ (.int .i64 fr)) g A n c _) := HS5.out.setP hgP _
      have HG6 := Lib.hid (grown_setNew (o := 0) HG5.out HPE.out (.int .i64 fr))
      clear hst HP5 HS5 HG5
      go_upto_region 10 with (fail)
      clear q0 q1 c0 c1
      have hgl6 := HS6.out.lt
      generalize w5.setCell ⟨P, 0, none⟩ (.int .i64 fr) = w6 at *
      obtain ⟨c0, c1⟩ := HP6.out.c
      have hp0 := (Array.getElem?_eq_some_iff.1 HP6.out).1
      have HROW : Hid (∀ j, j < 4 → ∃ z : Int, (w6.alloc (.cells #[.int .i64 1, .int .i64 3, .int .i64 9, .int .i64 600] 3)).cell? ⟨w6.heap.size, j, none⟩ = some (.int .i64 z) ∧ 1 ≤ z ∧ z ≤ 600) := by
        intro j hj
        rw [World.cell?_alloc_at _ _ _ _ rfl]
        iterate 5 (first | (exfalso; omega) | (rcases j with _ | j; exact ⟨_, rfl, by omega, by omega⟩))
      go_region_held3 (fun w' => w'.cell? ⟨P, 0, none⟩ = some (.int .i64 fr))
        (go_keep)
        (first
          | (go_at_call 63; (with_reducible refine Calls.mono (pickI_any g A n c (K + 4) 1 600 _ 4 4 _ ?_ (by omega) (by omega) (by omega) ?_ ?_) ?_); exact StreamAt.keep (HS6.out.alloc (.cells #[.int .i64 1, .int .i64 3, .int .i64 9, .int .i64 600] 3)) (fun _ _ => rfl); (first | omega | (simp; omega)); (intro j hj; exact HROW.out j hj); rintro e wy ⟨tp, rfl, ht0, ht1, hsy, hgy⟩; have hgx : w6.grownBy wy (some g) := (by first | exact grown_trans (grown_alloc (World.grownBy.refl _ _) _) hgy | exact grown_trans (grown_alloc (grown_drewN (World.grownBy.refl _ _) 1) _) hgy | exact grown_trans (grown_drewN (grown_alloc (World.grownBy.refl _ _) _) 1) hgy); have HPY := Lib.hid (HP6.out.grown hgx hne); have HGY := Lib.hid (grown_trans HG6.out hgx); have HSY := Lib.hid hsy; obtain ⟨k0, k1⟩ := HPY.out.c; obtain ⟨f0, f1⟩ := HPY.out.f; have hsum : IntKind.i64.wrap (fr + tp) = fr + tp := IntWalk.i64_in _ (by omega); obtain ⟨z0, z1⟩ := (show SpB (wy.setCell ⟨P, 1, none⟩ (.int .i64 (fr + tp))) P fr (fr + tp) from cells_setS HPY.out 1 (.int .i64 (fr + tp))).c; clear hsy hgy hgx))
      all_goals
        have HSZ : Hid (StreamAt (wy.setCell ⟨P, 1, none⟩ (.int .i64 (fr + tp))) g A n c (K + 5)) := HSY.out.setP hgP _
        have HGZ := Lib.hid (grown_setNew (o := 1) HGY.out HPE.out (.int .i64 (fr + tp)))
        have HPZ : Hid (SpB (wy.setCell ⟨P, 1, none⟩ (.int .i64 (fr + tp))) P fr (fr + tp)) := cells_setS HPY.out 1 (.int .i64 (fr + tp))
        go_wp2_with fail
        go_meet
        exact ⟨⟨#[]⟩, ⟨#[]⟩, rfl, rfl, ⟨by show 0 ≤ 1000; omega, by show 0 ≤ 1000; omega⟩, ⟨HSZ.out, HGZ.out, ⟨_, _, HPZ.out⟩⟩⟩
    · go_wp2_with fail
      refine (oneZ_any g A n c _ 300 w4.heap.size 2 2 _ (HS4.out.alloc _) (by omega) (by omega) (by omega) (by omega) (fun j hj => ?_)).mono ?_
      · rw [World.cell?_alloc_at _ _ _ _ rfl]
        iterate 3 (first | (exfalso; omega) | (rcases j with _ | j; exact ⟨_, rfl, by decide⟩))
      rintro e w5 ⟨s6, rfl, hz, hs, hg⟩
      have HZs6 : Hid (s6.size ≤ 1000) := by show _ ≤ _; omega
      clear hz
      have HS5 := Lib.hid hs
      have HG5 := Lib.hid (grown_trans (grown_alloc HG4.out _) hg)
      have HP5 := Lib.hid ((HP4.out.grown (grown_alloc (World.grownBy.refl _ (some g)) _) hne).grown hg hne)
      have hgl5 := hs.lt
      clear hs hg HS4 HG4 HP4
      go_wp2_with fail
      go_meet
      exact ⟨⟨#[]⟩, s6, rfl, rfl, ⟨(by show 0 ≤ 1000; omega), HZs6.out⟩, ⟨HS5.out.more (by omega), HG5.out, ⟨_, _, HP5.out⟩⟩⟩
  case rest =>
    obtain ⟨s5, s6, rfl, rfl, HZ56, HM⟩ := hcut
    have HS20 := Lib.hid HM.out.st
    have HG20 := Lib.hid HM.out.gr
    obtain ⟨p0, p1, hsp⟩ := HM.out.sp
    have HP20 := Lib.hid hsp
    have hgl20 := HS20.out.lt
    clear hsp HM hkc hgl2 hgl3 hgl4 HS4 HG4 HP4
    obtain ⟨w20, rfl⟩ : ∃ x, x = wc := ⟨wc, rfl⟩
    go_wp2_with fail
    refine (flip_any g A n c _ 12 w20 HS20.out (by omega) (by omega)).mono ?_
    rintro e w21 ⟨fb, rfl, hs, hg⟩
    have HS21 := Lib.hid hs
    have HG21 := Lib.hid (grown_trans HG20.out hg)
    have HP21 := Lib.hid (HP20.out.grown hg hne)
    have hgl21 := hs.lt
    clear hs hg HS20 HG20 HP20
    have hz5 := HZ56.out.1
    have hz6 := HZ56.out.2
    go_upto_if 47 with (fail)
    go_cut [2, 3, 4, 5, 6] (fun v2 v3 v4 v5 v6 wx => ∃ (a k : Int) (t4 t5 t6 : ByteArray), v2 = .int .i64 a ∧ v3 = .int .i64 k ∧ v4 = .string t4 ∧ v5 = .string t5 ∧ v6 = .string t6 ∧ Hid (t4.size ≤ 1000 ∧ t5.size ≤ 1000 ∧ t6.size ≤ 1000) ∧ Hid (MadeD w g A n c (K + 12) P wx))
    case first =>
      cases fb with
      | false =>
        go_wp2_with fail
        go_meet
        exact ⟨_, _, _, _, _, rfl, rfl, rfl, rfl, rfl, ⟨HZid.out, hz5, hz6⟩, ⟨HS21.out.more (by omega), HG21.out, ⟨_, _, HP21.out⟩⟩⟩
      | true =>
        go_wp2_with fail
        refine (next_any g A n c _ 6 w21 HS21.out (by omega) (by omega)).mono ?_
        rintro e w22 ⟨q, rfl, hq0, hq1, hs, hg⟩
        have HS22 := Lib.hid hs
        have HG22 := Lib.hid (grown_trans HG21.out hg)
        have HP22 := Lib.hid (HP21.out.grown hg hne)
        have hgl22 := hs.lt
        clear hs hg HS21 HG21 HP21
        obtain ⟨qn, rfl⟩ := Int.eq_ofNat_of_zero_le hq0
        have hq2 := hq1 (by omega)
        have hqc : qn = 0 ∨ qn = 1 ∨ qn = 2 ∨ qn = 3 ∨ qn = 4 ∨ qn = 5 := by omega
        clear hq0 hq1 hq2
        rcases hqc with rfl | rfl | rfl | rfl | rfl | rfl
        · go_wp2_with fail
          refine (pickI_any g A n c _ (-1) 5761440 w22.heap.size 2 2 _ (HS22.out.alloc _) (by omega) (by omega) (by omega) (by omega) (fun j hj => ?_)).mono ?_
          · rw [World.cell?_alloc_at _ _ _ _ rfl]
            iterate 3 (first | (exfalso; omega) | (rcases j with _ | j; exact ⟨_, rfl, by omega, by omega⟩))
          rintro e w23 ⟨az, rfl, haz0, haz1, hs, hg⟩
          have HS23 := Lib.hid hs
          have HG23 := Lib.hid (grown_trans (grown_alloc HG22.out _) hg)
          have HP23 := Lib.hid ((HP22.out.grown (grown_alloc (World.grownBy.refl _ (some g)) _) hne).grown hg hne)
          have hgl23 := hs.lt
          clear hs hg HS22 HG22 HP22
          go_wp2_with fail
          go_meet
          exact ⟨_, _, _, _, _, rfl, rfl, rfl, rfl, rfl, ⟨HZid.out, hz5, hz6⟩, ⟨HS23.out.more (by omega), HG23.out, ⟨_, _, HP23.out⟩⟩⟩
        · go_wp2_with fail
          refine (rangeB_any g A n c _ 0 7 w22 HS22.out (by omega) (by omega) (by omega) (by omega)).mono ?_
          rintro e w23 ⟨kz, rfl, hkz0, hkz1, hs, hg⟩
          have HS23 := Lib.hid hs
          have HG23 := Lib.hid (grown_trans HG22.out hg)
          have HP23 := Lib.hid (HP22.out.grown hg hne)
          have hgl23 := hs.lt
          clear hs hg HS22 HG22 HP22
          go_wp2_with fail
          go_meet
          exact ⟨_, _, _, _, _, rfl, rfl, rfl, rfl, rfl, ⟨HZid.out, hz5, hz6⟩, ⟨HS23.out.more (by omega), HG23.out, ⟨_, _, HP23.out⟩⟩⟩
        · go_wp2_with fail
          refine (oneZ_any g A n c _ 300 w22.heap.size 2 2 _ (HS22.out.alloc _) (by omega) (by omega) (by omega) (by omega) (fun j hj => ?_)).mono ?_
          · rw [World.cell?_alloc_at _ _ _ _ rfl]
            iterate 3 (first | (exfalso; omega) | (rcases j with _ | j; exact ⟨_, rfl, by decide⟩))
          rintro e w23 ⟨t4, rfl, hz, hs, hg⟩
          have HZt4 : Hid (t4.size ≤ 1000) := by show _ ≤ _; omega
          clear hz
          have HS23 := Lib.hid hs
          have HG23 := Lib.hid (grown_trans (grown_alloc HG22.out _) hg)
          have HP23 := Lib.hid ((HP22.out.grown (grown_alloc (World.grownBy.refl _ (some g)) _) hne).grown hg hne)
          have hgl23 := hs.lt
          clear hs hg HS22 HG22 HP22
          go_wp2_with fail
          go_meet
          exact ⟨_, _, _, _, _, rfl, rfl, rfl, rfl, rfl, ⟨HZt4.out, hz5, hz6⟩, ⟨HS23.out.more (by omega), HG23.out, ⟨_, _, HP23.out⟩⟩⟩
        · go_wp2_with fail
          refine (oneZ_any g A n c _ 300 w22.heap.size 3 3 _ (HS22.out.alloc _) (by omega) (by omega) (by omega) (by omega) (fun j hj => ?_)).mono ?_
          · rw [World.cell?_alloc_at _ _ _ _ rfl]
            iterate 4 (first | (exfalso; omega) | (rcases j with _ | j; exact ⟨_, rfl, by decide⟩))
          rintro e w23 ⟨t5, rfl, hz, hs, hg⟩
          have HZt5 : Hid (t5.size ≤ 1000) := by show _ ≤ _; omega
          clear hz
          have HS23 := Lib.hid hs
          have HG23 := Lib.hid (grown_trans (grown_alloc HG22.out _) hg)
          have HP23 := Lib.hid ((HP22.out.grown (grown_alloc (World.grownBy.refl _ (some g)) _) hne).grown hg hne)
          have hgl23 := hs.lt
          clear hs hg HS22 HG22 HP22
          go_wp2_with fail
          go_meet
          exact ⟨_, _, _, _, _, rfl, rfl, rfl, rfl, rfl, ⟨HZid.out, HZt5.out, hz6⟩, ⟨HS23.out.more (by omega), HG23.out, ⟨_, _, HP23.out⟩⟩⟩
        · go_wp2_with fail
          refine ((Tryz.strings_Repeat ⟨#[118]⟩ 60 _ (by omega) (by decide)).mono (fun e w' h => (⟨⟨_, h.1, by rw [rep_szD]; simp⟩, h.2⟩ : (∃ r : ByteArray, e = .returned (.string r) ∧ r.size ≤ 300) ∧ Below _ _ w'))).mono ?_
          rintro e w23 ⟨⟨r0, rfl, hr⟩, hb⟩
          have HR0 := Lib.hid hr
          clear hr
          have HS23 := Lib.hid (HS22.out.below hb)
          have HG23 := Lib.hid (grown_below HG22.out hb)
          have HP23 := Lib.hid (HP22.out.grown (grown_below (World.grownBy.refl _ (some g)) hb) hne)
          have hgl23 := HS23.out.lt
          clear hb HS22 HG22 HP22
          go_wp2_with fail
          refine ((Tryz.strings_Repeat ⟨#[118]⟩ 61 _ (by omega) (by decide)).mono (fun e w' h => (⟨⟨_, h.1, by rw [rep_szD]; simp⟩, h.2⟩ : (∃ r : ByteArray, e = .returned (.string r) ∧ r.size ≤ 300) ∧ Below _ _ w'))).mono ?_
          rintro e w24 ⟨⟨r1, rfl, hr⟩, hb⟩
          have HR1 := Lib.hid hr
          clear hr
          have HS24 := Lib.hid (HS23.out.below hb)
          have HG24 := Lib.hid (grown_below HG23.out hb)
          have HP24 := Lib.hid (HP23.out.grown (grown_below (World.grownBy.refl _ (some g)) hb) hne)
          have hgl24 := HS24.out.lt
          clear hb HS23 HG23 HP23
          go_wp2_with fail
          refine ((Tryz.strings_Repeat ⟨#[118]⟩ 200 _ (by omega) (by decide)).mono (fun e w' h => (⟨⟨_, h.1, by rw [rep_szD]; simp⟩, h.2⟩ : (∃ r : ByteArray, e = .returned (.string r) ∧ r.size ≤ 300) ∧ Below _ _ w'))).mono ?_
          rintro e w25 ⟨⟨r2, rfl, hr⟩, hb⟩
          have HR2 := Lib.hid hr
          clear hr
          have HS25 := Lib.hid (HS24.out.below hb)
          have HG25 := Lib.hid (grown_below HG24.out hb)
          have HP25 := Lib.hid (HP24.out.grown (grown_below (World.grownBy.refl _ (some g)) hb) hne)
          have hgl25 := HS25.out.lt
          clear hb HS24 HG24 HP24
          go_wp2_with fail
          refine ((Tryz.strings_Repeat ⟨#[118]⟩ 201 _ (by omega) (by decide)).mono (fun e w' h => (⟨⟨_, h.1, by rw [rep_szD]; simp⟩, h.2⟩ : (∃ r : ByteArray, e = .returned (.string r) ∧ r.size ≤ 300) ∧ Below _ _ w'))).mono ?_
          rintro e w26 ⟨⟨r3, rfl, hr⟩, hb⟩
          have HR3 := Lib.hid hr
          clear hr
          have HS26 := Lib.hid (HS25.out.below hb)
          have HG26 := Lib.hid (grown_below HG25.out hb)
          have HP26 := Lib.hid (HP25.out.grown (grown_below (World.grownBy.refl _ (some g)) hb) hne)
          have hgl26 := HS26.out.lt
          clear hb HS25 HG25 HP25
          go_wp2_with fail
          refine (oneZ_any g A n c _ 300 w26.heap.size 7 7 _ (HS26.out.alloc _) (by omega) (by omega) (by omega) (by omega) (fun j hj => ?_)).mono ?_
          · rw [World.cell?_alloc_at _ _ _ _ rfl]
            iterate 8 (first | (exfalso; omega) | (rcases j with _ | j; exact ⟨_, rfl, by first | decide | exact HR0.out | exact HR1.out | exact HR2.out | exact HR3.out⟩))
          rintro e w27 ⟨t6, rfl, hz, hs, hg⟩
          have HZt6 : Hid (t6.size ≤ 1000) := by show _ ≤ _; omega
          clear hz
          have HS27 := Lib.hid hs
          have HG27 := Lib.hid (grown_trans (grown_alloc HG26.out _) hg)
          have HP27 := Lib.hid ((HP26.out.grown (grown_alloc (World.grownBy.refl _ (some g)) _) hne).grown hg hne)
          have hgl27 := hs.lt
          clear hs hg HS26 HG26 HP26
          go_wp2_with fail
          go_meet
          exact ⟨_, _, _, _, _, rfl, rfl, rfl, rfl, rfl, ⟨HZid.out, hz5, HZt6.out⟩, ⟨HS27.out.more (by omega), HG27.out, ⟨_, _, HP27.out⟩⟩⟩
        · go_wp2_with fail
          refine (pickI_any g A n c _ (-1) 5 w22.heap.size 3 3 _ (HS22.out.alloc _) (by omega) (by omega) (by omega) (by omega) (fun j hj => ?_)).mono ?_
          · rw [World.cell?_alloc_at _ _ _ _ rfl]
            iterate 4 (first | (exfalso; omega) | (rcases j with _ | j; exact ⟨_, rfl, by omega, by omega⟩))
          rintro e w23 ⟨pa, rfl, hpa0, hpa1, hs, hg⟩
          have HS23 := Lib.hid hs
          have HG23 := Lib.hid (grown_trans (grown_alloc HG22.out _) hg)
          have HP23 := Lib.hid ((HP22.out.grown (grown_alloc (World.grownBy.refl _ (some g)) _) hne).grown hg hne)
          have hgl23 := hs.lt
          clear hs hg HS22 HG22 HP22
          go_wp2_with fail
          refine (pickI_any g A n c _ (0) 20001 w23.heap.size 4 4 _ (HS23.out.alloc _) (by omega) (by omega) (by omega) (by omega) (fun j hj => ?_)).mono ?_
          · rw [World.cell?_alloc_at _ _ _ _ rfl]
            iterate 5 (first | (exfalso; omega) | (rcases j with _ | j; exact ⟨_, rfl, by omega, by omega⟩))
          rintro e w24 ⟨pb, rfl, hpb0, hpb1, hs, hg⟩
          have HS24 := Lib.hid hs
          have HG24 := Lib.hid (grown_trans (grown_alloc HG23.out _) hg)
          have HP24 := Lib.hid ((HP23.out.grown (grown_alloc (World.grownBy.refl _ (some g)) _) hne).grown hg hne)
          have hgl24 := hs.lt
          clear hs hg HS23 HG23 HP23
          have HPa : Hid (SpB (w24.setCell ⟨P, 0, none⟩ (.int .i64 pa)) P pa _) := cells_setS HP24.out 0 (.int .i64 pa)
          have HPb : Hid (SpB ((w24.setCell ⟨P, 0, none⟩ (.int .i64 pa)).setCell ⟨P, 1, none⟩ (.int .i64 pb)) P pa pb) := cells_setS HPa.out 1 (.int .i64 pb)
          have HSb : Hid (StreamAt ((w24.setCell ⟨P, 0, none⟩ (.int .i64 pa)).setCell ⟨P, 1, none⟩ (.int .i64 pb)) g A n c _) := (HS24.out.setP hgP _).setP hgP _
          have HGb := Lib.hid (grown_setNew (o := 1) (grown_setNew (o := 0) HG24.out HPE.out (.int .i64 pa)) HPE.out (.int .i64 pb))
          obtain ⟨c0, c1⟩ := HP24.out.c
          obtain ⟨q0, q1⟩ := HP24.out.f
          go_wp2_with fail
          go_meet
          exact ⟨_, _, _, _, _, rfl, rfl, rfl, rfl, rfl, ⟨HZid.out, hz5, hz6⟩, ⟨HSb.out.more (by omega), HGb.out, ⟨_, _, HPb.out⟩⟩⟩
    case rest =>
      obtain ⟨a, k, t4, t5, t6, rfl, rfl, rfl, rfl, rfl, HZ3, HM2⟩ := hcut
      have HS30 := Lib.hid HM2.out.st
      have HG30 := Lib.hid HM2.out.gr
      obtain ⟨p2, p3, hsp⟩ := HM2.out.sp
      have HP30 := Lib.hid hsp
      clear hsp HM2
      have HKP : Hid (∀ wx : World, SpB wx P p2 p3 → ((wx.setCell ⟨P, 0, none⟩ (.int .i64 p2)).setCell ⟨P, 1, none⟩ (.int .i64 p3)).cell? ⟨P, 0, none⟩ = some (.int .i64 p2) ∧ ((wx.setCell ⟨P, 0, none⟩ (.int .i64 p2)).setCell ⟨P, 1, none⟩ (.int .i64 p3)).cell? ⟨P, 1, none⟩ = some (.int .i64 p3) ∧ SpB ((wx.setCell ⟨P, 0, none⟩ (.int .i64 p2)).setCell ⟨P, 1, none⟩ (.int .i64 p3)) P p2 p3) := fun wx hx => by
        have hy : SpB ((wx.setCell ⟨P, 0, none⟩ (.int .i64 p2)).setCell ⟨P, 1, none⟩ (.int .i64 p3)) P p2 p3 := cells_setS (cells_setS hx 0 (.int .i64 p2)) 1 (.int .i64 p3)
        exact ⟨hy.c.1, hy.c.2, hy⟩
      have HSF : Hid (StreamAt ((wc.drew.setCell ⟨P, 0, none⟩ (.int .i64 p2)).setCell ⟨P, 1, none⟩ (.int .i64 p3)) g A n c (K + 12)) := StreamAt.setP (o := 1) (StreamAt.setP (o := 0) (StreamAt.keep (w' := wc.drew) HS30.out (fun _ _ => rfl)) hgP (.int .i64 p2)) hgP (.int .i64 p3)
      have HGF : Hid (w.grownBy ((wc.drew.setCell ⟨P, 0, none⟩ (.int .i64 p2)).setCell ⟨P, 1, none⟩ (.int .i64 p3)) (some g)) := grown_setNew (grown_setNew (grown_drewN HG30.out 1) HPE.out _) HPE.out _
      obtain ⟨c0, c1⟩ := HP30.out.c
      obtain ⟨q0, q1⟩ := HP30.out.f
      go_upto_region 24 with (fail)
      go_region_held3 (fun w' => w'.cell? ⟨P, 0, none⟩ = some (.int .i64 p2) ∧ w'.cell? ⟨P, 1, none⟩ = some (.int .i64 p3) ∧ SpB w' P p2 p3)
        (first | assumption | exact ⟨c0, c1, HP30.out⟩ | (apply HKP.out; apply And.right; apply And.right; assumption))
        (fail)
      all_goals
        go_wp2_with fail
        clear c0 c1 q0 q1
        obtain ⟨c0, c1, -⟩ := (by assumption : _ ∧ _ ∧ SpB ((wc.setCell ⟨P, 0, none⟩ (.int .i64 p2)).setCell ⟨P, 1, none⟩ (.int .i64 p3)).drew P p2 p3)
        exact bodyPost_ret (v := .tuple #[.int .i64 a, .int .i64 k, .string t4, .string t5, .string t6, .agg #[.int .i64 p2, .int .i64 p3]]) (by simp [results, Tryz.results28, go_sem, c0, c1]) rfl ⟨a, k, t4, t5, t6, p2, p3, rfl, HZ3.out, HSF.out, HGF.out⟩
end Go.Proofs.YthogkcgklakibaaGreatDoor
