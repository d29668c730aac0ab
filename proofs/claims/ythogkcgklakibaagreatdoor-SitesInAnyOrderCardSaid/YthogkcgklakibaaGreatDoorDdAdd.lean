
/-
  slices.Clone at deeds; chaseref1.added at a right list.
-/
import Derived.Test.YthogkcgklakibaaGreatDoorDdSort
import Derived.Test.YthogkcgklakibaaGreatDoorDdDF
import Derived.Test.YthogkcgklakibaaGreatDoorDdTip
namespace Go.Proofs.YthogkcgklakibaaGreatDoor
open Go.RowKit
attribute [local go_sem ↓] Go.wp_at_zero Go.wp_at_succ

theorem nilD_eq (w : World) : (Go.binOp .eql 26 (.slice none 0 0) (.slice none 0 0)).run Tryz.prog w = .ok (.bool true) w := by kernel_rfl
theorem someD_ne (p : Addr) (n c : Nat) (w : World) : (Go.binOp .eql 26 (.slice (some p) n c) (.slice none 0 0)).run Tryz.prog w = .ok (.bool false) w := by kernel_rfl
def CloneDPost (w : World) (l : List Deed) (e : Ending) (w' : World) : Prop := ∃ v, e = .returned v ∧ Owns DeedE w' w.heap.size v l ∧ Below w.heap.size w w'
set_option maxHeartbeats 1600000 in
theorem cloneD_any (A : Option Addr) (n c : Nat) (l : List Deed) (w : World) (h : DeedsAt w A n c l) (hn : n ≤ 100000) :
    Calls Tryz.prog 95 #[.slice A n c] w (CloneDPost w l) := by
  have HN : Hid (n = l.length) := h.1
  cases A with
  | none =>
    have hc0 : c = 0 := h.2.2.1 rfl
    have hn0 : n = 0 := by
      rcases Nat.eq_zero_or_pos n with h0 | h0
      · exact h0
      · obtain ⟨g, off, hA, -⟩ := h.2.2.2 h0; cases hA
    have hl : l = [] := List.eq_nil_of_length_eq_zero (by rw [← HN.out]; exact hn0)
    subst hc0 hn0 hl
    have he := nilD_eq w
    have HF : Hid (CloneDPost w [] (.returned (.slice none 0 0)) w) := ⟨_, rfl, Owns.nil _ _, Below.refl _ _⟩
    clear h hn HN
    go_enter Tryz.func95, Tryz.ntmps95
    go_wp2_with fail
    go_ret
    exact HF.out
  | some p =>
    have he := fun wx => someD_ne p n c wx
    have HO : Hid (Owns DeedE (w.alloc (.cells #[] 40)) w.heap.size (.slice (some ⟨w.heap.size, 0, none⟩) 0 0) []) := Owns.lit deedE_ok w w.heap.size [] (Nat.le_refl _) (by simp)
    have hal : Below w.heap.size w (w.alloc (.cells #[] 40)) := (Below.refl _ _).alloc (Nat.le_refl _) _
    have HAT : Hid (DeedsAt (w.alloc (.cells #[] 40)) (some p) n c l) := ElemsAt.keep h hal
    have HB := Lib.hid hal
    have hz : w.heap.size ≤ (w.alloc (.cells #[] 40)).heap.size := hal.size
    have hlen : ([] : List Deed).length + l.length ≤ 100000 := by rw [List.length_nil, ← HN.out]; omega
    clear h hal
    go_enter Tryz.func95, Tryz.ntmps95
    go_wp2_with (at_builtin; refine append_elems deedE_ok rfl _ _ rfl w.heap.size _ [] rfl HO.out (some p) n c l rfl HAT.out hlen hz ?_; intro v7 w7 hown7 hgrow7 _; have HF : Hid (CloneDPost w l (.returned v7) w7) := ⟨v7, rfl, hown7, HB.out.grown hgrow7 HB.out.size (fun i hi => (HO.out.lt i hi).1)⟩; clear hown7 hgrow7)
    go_wp2_with fail
    go_ret
    exact HF.out
def Deed.noS (d : Deed) (z : Int) : Deed := ⟨d.site, z, d.at_, d.kind, d.id, d.fld, d.val, d.from_, d.to_, d.osite, d.ono, d.sum⟩
def Deed.sumS (d : Deed) (s : ByteArray) : Deed := ⟨d.site, d.no, d.at_, d.kind, d.id, d.fld, d.val, d.from_, d.to_, d.osite, d.ono, s⟩
/-- What a deed becomes when it is added. -/
def nextD (l : List Deed) (d : Deed) : Deed := (d.noS ((tipD l d.site).1 + 1)).sumS (sumD (tipD l d.site).2 (d.noS ((tipD l d.site).1 + 1)))
theorem DeedAt.no {w : World} {P : Nat} {d : Deed} (h : DeedAt w P d) (z : Int) : DeedAt (w.setCell ⟨P, 1, none⟩ (.int .i64 z)) P (d.noS z) := cells_setD h 1 _
theorem DeedAt.sum {w : World} {P : Nat} {d : Deed} (h : DeedAt w P d) (s : ByteArray) : DeedAt (w.setCell ⟨P, 11, none⟩ (.string s)) P (d.sumS s) := cells_setD h 11 _
def AddPost (w : World) (l : List Deed) (d : Deed) (e : Ending) (w' : World) : Prop :=
  ∃ A n c L, e = .returned (.slice A n c) ∧ DeedsAt w' A n c L ∧ L.Pairwise StLt ∧ (∀ x, x ∈ L ↔ x ∈ l ∨ x = nextD l d) ∧ L.length = l.length + 1 ∧ Below w.heap.size w w'
theorem tip_boundD {l : List Deed} (h : RightD l) (s : ByteArray) : 0 ≤ (tipD l s).1 ∧ (tipD l s).1 ≤ 2000 ∧ (tipD l s).2.size ≤ 1000 := by
  obtain ⟨-, t2⟩ := tip_all _ l rfl h.ord s
  rcases t2 with ⟨t, ht, -, he⟩ | ⟨he, -⟩
  · rw [he]
    obtain ⟨k, hk⟩ := List.getElem?_of_mem ht
    have h1 := h.no_le k t hk
    have h2 := (List.getElem?_eq_some_iff.1 hk).1
    have h3 := h.few
    have h4 := (h.pred t ht).pos
    refine ⟨?_, ?_, (h.small ht).1.sum⟩
    · show 0 ≤ t.no
      omega
    · show t.no ≤ 2000
      omega
  · rw [he]; exact ⟨by show (0 : Int) ≤ 0; omega, by show (0 : Int) ≤ 2000; omega, by show 0 ≤ 1000; omega⟩
theorem nextD_new {l : List Deed} (h : RightD l) (d : Deed) : ∀ x ∈ l, x.site = (nextD l d).site → x.no = (nextD l d).no → False := by
  intro x hx h1 h2
  obtain ⟨t1, -⟩ := tip_all _ l rfl h.ord d.site
  have := t1 x hx h1
  have e : (nextD l d).no = (tipD l d.site).1 + 1 := rfl
  omega
theorem SmallD.noS {d : Deed} (h : SmallD d) (z : Int) (hz : 0 ≤ z ∧ z ≤ 100000000) : SmallD (d.noS z) := ⟨hz, h.at_, h.kind, h.from_, h.to_, h.ono, h.site, h.id, h.fld, h.val, h.osite, h.sum⟩
theorem below_drw {w w' : World} (h : Below w.drew.heap.size w.drew w') : Below w.heap.size w w' := ⟨h.os, h.tape, h.output, h.size, h.block⟩
theorem below_alo {w w' : World} {o : Obj} (h : Below (w.alloc o).heap.size (w.alloc o) w') : Below w.heap.size w w' := ((Below.refl _ _).alloc (Nat.le_refl _) _).trans (h.mono ((Below.refl w.heap.size w).alloc (Nat.le_refl _) o).size)
set_option maxHeartbeats 3200000 in
set_option maxRecDepth 100000 in
theorem added1_any (A : Option Addr) (n c : Nat) (l : List Deed) (d : Deed) (w : World) (h : DeedsAt w A n c l) (hl : RightD l) (hd : SmallD d) (h10 : ∀ b ∈ byteL d.val, b ≠ 10) (hP : PowAt w) :
    Calls Tryz.prog 70 #[.slice A n c, d.v] w (AddPost w l d) := by
  have HN : Hid (n = l.length) := h.1
  have hn : n ≤ 2000 := by have := hl.few; have := HN.out; omega
  have HL := Lib.hid hl
  have HS10 := Lib.hid h10
  have HSM := Lib.hid hd
  have HTB := Lib.hid (tip_boundD hl d.site)
  have hb1 : Below w.heap.size w (w.alloc (.cells #[.string d.site, .int .i64 d.no, .int .i64 d.at_, .int .i64 d.kind, .string d.id, .string d.fld, .string d.val, .int .i64 d.from_, .int .i64 d.to_, .string d.osite, .int .i64 d.ono, .string d.sum] 40)) := (Below.refl _ _).alloc (Nat.le_refl _) _
  have HD1 : Hid (DeedAt (w.alloc (.cells #[.string d.site, .int .i64 d.no, .int .i64 d.at_, .int .i64 d.kind, .string d.id, .string d.fld, .string d.val, .int .i64 d.from_, .int .i64 d.to_, .string d.osite, .int .i64 d.ono, .string d.sum] 40)) w.heap.size d) := deed_new w d
  have HB1 := Lib.hid hb1
  have HAT0 := Lib.hid h
  have HAT1 : Hid (DeedsAt _ A n c l) := ElemsAt.keep h hb1
  have HPW : Hid (∀ wx, Below w.heap.size w wx → PowAt wx) := fun wx hx => hP.below hx
  clear h hl hd h10 hP hb1
  unfold Deed.v
  go_enter Tryz.func70, Tryz.ntmps70
  go_upto_region 1 with (fail)
  obtain ⟨P, hPe⟩ : ∃ P, P = w.heap.size := ⟨_, rfl⟩
  have HPE := Lib.hid hPe
  rw [← hPe] at HD1 ⊢
  clear hPe
  generalize w.alloc (.cells #[.string d.site, .int .i64 d.no, .int .i64 d.at_, .int .i64 d.kind, .string d.id, .string d.fld, .string d.val, .int .i64 d.from_, .int .i64 d.to_, .string d.osite, .int .i64 d.ono, .string d.sum] 40) = w1 at *
  obtain ⟨a0, a1, a2, a3, a4, a5, a6, a7, a8, a9, a10, a11⟩ := HD1.out.c
  have HTI := Lib.hid (tipDeed_any A n c l d.site w1 HAT1.out (by omega))
  have g1 : IntKind.i64.wrap ((tipD l d.site).1 + 1) = (tipD l d.site).1 + 1 := i64_small _ (by have := HTB.out.1; omega) (by have := HTB.out.2.1; omega)
  go_wp2_with fail
  refine HTI.out.mono ?_
  rintro e w2 ⟨rfl, hb2⟩
  have HD2 := Lib.hid (HD1.out.keep hb2)
  have HB2 := Lib.hid (HB1.out.trans (hb2.mono HB1.out.size))
  have HAT2 : Hid (DeedsAt w2 A n c l) := ElemsAt.keep HAT1.out hb2
  clear hb2 HTI HD1 HB1 HAT1 a0 a1 a2 a3 a4 a5 a6 a7 a8 a9 a10 a11
  obtain ⟨tn, ts, hts⟩ : ∃ tn ts, tipD l d.site = (tn, ts) := ⟨_, _, rfl⟩
  have HTS := Lib.hid hts
  rw [hts] at HTB g1 ⊢
  clear hts
  simp only at HTB g1 ⊢
  obtain ⟨a0, a1, a2, a3, a4, a5, a6, a7, a8, a9, a10, a11⟩ := HD2.out.c
  obtain ⟨z0, z1, z2, z3, z4, z5, z6, z7, z8, z9, z10, z11⟩ := HD2.out.f
  have HD3 := Lib.hid (HD2.out.no (tn + 1))
  have HPL : Hid (w.heap.size ≤ P) := by show _ ≤ _; rw [HPE.out]; exact Nat.le_refl _
  have HB3 : Hid (Below w.heap.size w (w2.setCell ⟨P, 1, none⟩ (.int .i64 (tn + 1)))) := HB2.out.setCell HPL.out _
  go_upto_region 3 with (fail)
  clear a0 a1 a2 a3 a4 a5 a6 a7 a8 a9 a10 a11 z0 z1 z2 z3 z4 z5 z6 z7 z8 z9 z10 z11 HD2 HB2 HAT2 g1
  generalize w2.setCell ⟨P, 1, none⟩ (.int .i64 (tn + 1)) = w3 at *
  obtain ⟨a0, a1, a2, a3, a4, a5, a6, a7, a8, a9, a10, a11⟩ := HD3.out.c
  obtain ⟨z0, z1, z2, z3, z4, z5, z6, z7, z8, z9, z10, z11⟩ := HD3.out.f
  simp only [Deed.noS] at a0 a1 a2 a3 a4 a5 a6 a7 a8 a9 a10 a11
  have HSA : Hid (Calls Tryz.prog 114 #[.string ts, .agg #[.string d.site, .int .i64 (tn + 1), .int .i64 d.at_, .int .i64 d.kind, .string d.id, .string d.fld, .string d.val, .int .i64 d.from_, .int .i64 d.to_, .string d.osite, .int .i64 d.ono, .string d.sum]] w3 fun e w' => e = .returned (.string (sumD ts (d.noS (tn + 1)))) ∧ Below w3.heap.size w3 w') := sumAfter_any ts (d.noS (tn + 1)) w3 (HSM.out.noS _ (by have := HTB.out; omega)) HTB.out.2.2 HS10.out (HPW.out _ HB3.out)
  go_wp2_with fail
  refine HSA.out.mono ?_
  rintro e w4 ⟨rfl, hb4⟩
  have hs4 := hb4.size
  have HD4 := Lib.hid (HD3.out.keep hb4)
  have HB4 : Hid (Below w.heap.size w w4) := HB3.out.trans (hb4.mono HB3.out.size)
  clear hb4 HSA HD3 HB3 hs4 a0 a1 a2 a3 a4 a5 a6 a7 a8 a9 a10 a11 z0 z1 z2 z3 z4 z5 z6 z7 z8 z9 z10 z11
  obtain ⟨nd, hnd⟩ : ∃ nd, nd = nextD l d := ⟨_, rfl⟩
  have HD5 : Hid (DeedAt (w4.setCell ⟨P, 11, none⟩ (.string (sumD ts (d.noS (tn + 1))))) P nd) := by
    show DeedAt _ _ _
    rw [hnd]
    have h := HD4.out.sum (sumD ts (d.noS (tn + 1)))
    unfold nextD
    rw [HTS.out]
    exact h
  have HB5 : Hid (Below w.heap.size w (w4.setCell ⟨P, 11, none⟩ (.string (sumD ts (d.noS (tn + 1)))))) := HB4.out.setCell HPL.out _
  obtain ⟨a0, a1, a2, a3, a4, a5, a6, a7, a8, a9, a10, a11⟩ := HD4.out.c
  obtain ⟨z0, z1, z2, z3, z4, z5, z6, z7, z8, z9, z10, z11⟩ := HD4.out.f
  go_upto_region 4 with (fail)
  clear a0 a1 a2 a3 a4 a5 a6 a7 a8 a9 a10 a11 z0 z1 z2 z3 z4 z5 z6 z7 z8 z9 z10 z11 HD4 HB4
  generalize w4.setCell ⟨P, 11, none⟩ (.string (sumD ts (d.noS (tn + 1)))) = w5 at *
  have HND := Lib.hid hnd
  clear hnd
  have HAT5 : Hid (DeedsAt w5 A n c l) := ElemsAt.keep HAT0.out HB5.out
  obtain ⟨a0, a1, a2, a3, a4, a5, a6, a7, a8, a9, a10, a11⟩ := HD5.out.c
  have hz0 := HD5.out.lt
  have HLE : Hid (l.length + [nd].length ≤ 100000) := by show _ ≤ _; have := HN.out; simp only [List.length_singleton]; omega
  go_cut [7] (fun v wx => Owns DeedE wx w.heap.size v (l ++ [nd]) ∧ Below w.heap.size w wx)
  case first =>
    go_region_held3 (fun w' => w'.cell? ⟨P, 0, none⟩ = some (.string nd.site) ∧ w'.cell? ⟨P, 1, none⟩ = some (.int .i64 nd.no) ∧ w'.cell? ⟨P, 2, none⟩ = some (.int .i64 nd.at_) ∧ w'.cell? ⟨P, 3, none⟩ = some (.int .i64 nd.kind) ∧ w'.cell? ⟨P, 4, none⟩ = some (.string nd.id) ∧ w'.cell? ⟨P, 5, none⟩ = some (.string nd.fld) ∧ w'.cell? ⟨P, 6, none⟩ = some (.string nd.val) ∧ w'.cell? ⟨P, 7, none⟩ = some (.int .i64 nd.from_) ∧ w'.cell? ⟨P, 8, none⟩ = some (.int .i64 nd.to_) ∧ w'.cell? ⟨P, 9, none⟩ = some (.string nd.osite) ∧ w'.cell? ⟨P, 10, none⟩ = some (.int .i64 nd.ono) ∧ w'.cell? ⟨P, 11, none⟩ = some (.string nd.sum))
      (go_keep)
      (first
        | (go_at_call 95; (with_reducible refine Calls.mono (cloneD_any A n c l _ ?_ (by omega)) ?_); (first | exact HAT5.out | exact ElemsAt.keep HAT5.out (by first | exact (Below.refl _ _).drew | exact (Below.refl _ _).alloc (Nat.le_refl _) _ | exact (Below.refl _ _).drew.alloc (Nat.le_refl _) _)); rintro e wx ⟨vx, rfl, hownx, hbx⟩; have hx0 : Below w5.heap.size w5 wx := (by first | exact hbx | exact below_drw hbx | exact below_alo hbx | exact below_drw (below_alo hbx)); have k0 := (hx0.cell (p := ⟨P, 0, none⟩) hz0).trans a0; have k1 := (hx0.cell (p := ⟨P, 1, none⟩) hz0).trans a1; have k2 := (hx0.cell (p := ⟨P, 2, none⟩) hz0).trans a2; have k3 := (hx0.cell (p := ⟨P, 3, none⟩) hz0).trans a3; have k4 := (hx0.cell (p := ⟨P, 4, none⟩) hz0).trans a4; have k5 := (hx0.cell (p := ⟨P, 5, none⟩) hz0).trans a5; have k6 := (hx0.cell (p := ⟨P, 6, none⟩) hz0).trans a6; have k7 := (hx0.cell (p := ⟨P, 7, none⟩) hz0).trans a7; have k8 := (hx0.cell (p := ⟨P, 8, none⟩) hz0).trans a8; have k9 := (hx0.cell (p := ⟨P, 9, none⟩) hz0).trans a9; have k10 := (hx0.cell (p := ⟨P, 10, none⟩) hz0).trans a10; have k11 := (hx0.cell (p := ⟨P, 11, none⟩) hz0).trans a11; have HOX : Hid (Owns DeedE wx w5.heap.size vx l) := hownx.base_ (by simp))
        | (refine step_elems deedE_ok (by rfl) _ _ (by rfl) w5.heap.size vx l (by rfl) ?_ _ 1 1 [nd] (by rfl) ?_ (by omega) ?_ ?_ ?_; (first | exact HOX.out | exact World.ownsRow.alloc HOX.out _); (first | exact one_elem (E := DeedE) wx nd | exact ElemsAt.keep (one_elem (E := DeedE) w5.drew nd) hbx | exact ElemsAt.keep (one_elem (E := DeedE) w5 nd) hbx); exact HLE.out; (first | exact hx0.size | (have h1 := hx0.size; simp; omega)); intro v6 w6 hown6 hgrow6 hv6; have hx6 : Below w5.heap.size w5 w6 := (by first | exact hx0.grown hgrow6 hx0.size (fun i e => (HOX.out.lt i e).1) | exact (hx0.alloc hx0.size _).grown hgrow6 (hx0.alloc hx0.size _).size (fun i e => (HOX.out.lt i e).1)); have j0 := (hx6.cell (p := ⟨P, 0, none⟩) hz0).trans a0; have j1 := (hx6.cell (p := ⟨P, 1, none⟩) hz0).trans a1; have j2 := (hx6.cell (p := ⟨P, 2, none⟩) hz0).trans a2; have j3 := (hx6.cell (p := ⟨P, 3, none⟩) hz0).trans a3; have j4 := (hx6.cell (p := ⟨P, 4, none⟩) hz0).trans a4; have j5 := (hx6.cell (p := ⟨P, 5, none⟩) hz0).trans a5; have j6 := (hx6.cell (p := ⟨P, 6, none⟩) hz0).trans a6; have j7 := (hx6.cell (p := ⟨P, 7, none⟩) hz0).trans a7; have j8 := (hx6.cell (p := ⟨P, 8, none⟩) hz0).trans a8; have j9 := (hx6.cell (p := ⟨P, 9, none⟩) hz0).trans a9; have j10 := (hx6.cell (p := ⟨P, 10, none⟩) hz0).trans a10; have j11 := (hx6.cell (p := ⟨P, 11, none⟩) hz0).trans a11; have FIN : Hid (Owns DeedE w6 w.heap.size v6 (l ++ [nd]) ∧ Below w.heap.size w w6) := ⟨hown6.base_ HB5.out.size, HB5.out.trans (hx6.mono HB5.out.size)⟩))
    all_goals
      go_wp2_with fail
      go_meet
      exact FIN.out
  case rest =>
    obtain ⟨hO, hB⟩ := hcut
    obtain ⟨A6, c6, hv6, -, hat6, -⟩ := hO.at_ deedE_ok
    subst hv6
    have hlen : (l ++ [nd]).length = n + 1 := by rw [List.length_append, ← HN.out]; rfl
    have HLN := Lib.hid hlen
    rw [hlen] at hO ⊢
    have HSO := Lib.hid (sortD_any w.heap.size (n + 1) c6 A6 (l ++ [nd]) wc hlen.symm hO (by omega))
    have HOL : Hid (∀ i, (Value.slice A6 (n + 1) c6).ownBlock = some i → w.heap.size ≤ i) := fun i e => (hO.lt i e).1
    have HBC := Lib.hid hB
    clear hO hB hat6 hlen a0 a1 a2 a3 a4 a5 a6 a7 a8 a9 a10 a11 hz0
    go_wp2_with fail
    refine HSO.out.mono ?_
    rintro e w7 ⟨rfl, ⟨L, hperm, hsort, hatL⟩, hg7⟩
    have hnew := nextD_new HL.out d
    rw [← HND.out] at hnew
    have hstr : L.Pairwise StLt := by
      refine sorted_strict hperm hsort (fun x hx y hy h1 h2 => ?_) ?_
      · rcases List.mem_append.1 hx with hx | hx <;> rcases List.mem_append.1 hy with hy | hy
        · exact ord_uniq HL.out.ord hx hy h1 h2
        · rw [List.mem_singleton.1 hy] at h1 h2; exact (hnew x hx h1 h2).elim
        · rw [List.mem_singleton.1 hx] at h1 h2; exact (hnew y hy h1.symm h2.symm).elim
        · rw [List.mem_singleton.1 hx, List.mem_singleton.1 hy]
      · rw [List.nodup_append]
        refine ⟨ord_nodup HL.out.ord, by simp, fun y hy z hz e => ?_⟩
        rw [List.mem_singleton.1 hz] at e
        rw [e] at hy
        exact hnew nd hy rfl rfl
    have HP : Hid (AddPost w l d (.returned (.slice A6 (n + 1) c6)) w7) := by
      refine ⟨A6, n + 1, c6, L, rfl, hatL, hstr, fun x => ?_, ?_, HBC.out.grown hg7 HBC.out.size (fun i e => HOL.out i e)⟩
      · rw [hperm.mem_iff, List.mem_append, List.mem_singleton, HND.out]
      · rw [hperm.length_eq, HLN.out, HN.out]
    clear hperm hsort hatL hg7 hnew hstr HSO
    go_wp2_with fail
    go_ret
    exact HP.out
end Go.Proofs.YthogkcgklakibaaGreatDoor
