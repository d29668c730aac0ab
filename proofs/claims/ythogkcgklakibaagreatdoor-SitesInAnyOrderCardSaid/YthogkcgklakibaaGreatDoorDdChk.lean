
/-
  matter's byStamps, ofError, CheckDeeds and listError accept right deeds.
-/
import Derived.Test.YthogkcgklakibaaGreatDoorDdChkP
import Derived.Test.YthogkcgklakibaaGreatDoorDdSumP
import Derived.Test.YthogkcgklakibaaGreatDoorDdUndo
import Derived.BigQuiet

namespace Go.Proofs.YthogkcgklakibaaGreatDoor
open Go.RowKit Go.Maps
attribute [local go_sem ↓] Go.wp_at_zero Go.wp_at_succ

theorem new_take {l : List Deed} (hl : RightD l) {k : Nat} {x : Deed} (hx : l[k]? = some x) : NewT (l.take k) x := fun y hy ⟨h1, h2⟩ => by
  have := (take_lt hl hy hx).no h1
  omega
theorem in64_no {l : List Deed} (hl : RightD l) {x : Deed} (hx : x ∈ l) : In64 x.no := by
  have := no_bound hl hx
  exact ⟨by omega, by omega⟩
theorem site_bound {l : List Deed} (hl : RightD l) {x : Deed} (hx : x ∈ l) : x.site.size ≤ 1000000 := by have := (st_bound hl hx).2.2; omega
def ByPost (w : World) (l : List Deed) (e : Ending) (w' : World) : Prop := ∃ M, e = .returned (.map (some M)) ∧ DMapAt w' M l ∧ Below w.heap.size w w'
set_option maxHeartbeats 1600000 in
set_option maxRecDepth 100000 in
theorem byStamps_any (A : Option Addr) (n c : Nat) (l : List Deed) (w : World) (h : DeedsAt w A n c l) (hl : RightD l) :
    Calls Tryz.prog 47 #[.slice A n c] w (ByPost w l) := by
  have HN : Hid (n = l.length) := h.1
  have HH := Lib.hid h
  have HL := Lib.hid hl
  have hn : n ≤ 2000 := by have := hl.few; have := h.1; omega
  have hmm := @run_makeMap Tryz.prog
  have h00 : Below w.heap.size w (w.alloc (.map #[] 0)) := (Below.refl _ _).alloc (Nat.le_refl _) _
  have HM0 := Lib.hid (DMapAt.start w)
  clear h hl
  go_enter Tryz.func47, Tryz.ntmps47
  go_wp2_with fail
  go_loopg [9] n (fun gk v wr => ∃ k : Nat, Hid (k + gk = n) ∧ v = .int .i64 (k : Int) ∧ Hid (DMapAt wr w.heap.size (l.take k)) ∧ Hid (Below w.heap.size w wr))
  case atStart => exact ⟨0, show 0 + n = n by omega, rfl, HM0.out, h00⟩
  case round =>
    obtain ⟨k, HK, rfl, HM, HB⟩ := hrel
    clear h00 HM0
    have hkn : k ≤ n := by have := HK.out; omega
    by_cases hlt : k < n
    · have HGK := Lib.hid (show k + 1 + (gk - 1) = n ∧ 0 < gk by have := HK.out; omega)
      obtain ⟨g, off, rfl, hg, hc⟩ := (ElemsAt.keep HH.out HB.out).deed (by omega)
      have hkl : k < l.length := by have := HN.out; omega
      obtain ⟨x, hx⟩ : ∃ x, l[k]? = some x := ⟨_, List.getElem?_eq_getElem hkl⟩
      obtain ⟨c0, c1, c2, c3, c4, c5, c6, c7, c8, c9, c10, c11⟩ := hc k x hx
      have HTK := Lib.hid (take_snocD hx)
      have HNEW := Lib.hid (new_take HL.out hx)
      have hxm := List.mem_of_getElem? hx
      have hxs := site_bound HL.out hxm
      have hxn := in64_no HL.out hxm
      have HKEY := Lib.hid (keyK_mk x.site x.no hxs hxn)
      have HXN := Lib.hid hxn
      have hlen : (l.take k).length = k := by rw [List.length_take]; omega
      have HLEN := Lib.hid hlen
      have hb1 : Below wr.heap.size wr (wr.alloc (.cells #[.string x.site, .int .i64 x.no, .int .i64 x.at_, .int .i64 x.kind, .string x.id, .string x.fld, .string x.val, .int .i64 x.from_, .int .i64 x.to_, .string x.osite, .int .i64 x.ono, .string x.sum] 40)) := (Below.refl _ _).alloc (Nat.le_refl _) _
      have HX1 : Hid (DeedAt (wr.alloc (.cells #[.string x.site, .int .i64 x.no, .int .i64 x.at_, .int .i64 x.kind, .string x.id, .string x.fld, .string x.val, .int .i64 x.from_, .int .i64 x.to_, .string x.osite, .int .i64 x.ono, .string x.sum] 40)) wr.heap.size x) := deed_new wr x
      have HB1 := Lib.hid (HB.out.trans (hb1.mono HB.out.size))
      have HM1 := Lib.hid (HM.out.below hb1)
      clear hc hx hkl HK hb1 hlen hxm hxn
      go_upto_region 5 with (fail)
      obtain ⟨P, hP⟩ : ∃ P, P = wr.heap.size := ⟨_, rfl⟩
      rw [← hP] at HX1 ⊢
      generalize wr.alloc (.cells #[.string x.site, .int .i64 x.no, .int .i64 x.at_, .int .i64 x.kind, .string x.id, .string x.fld, .string x.val, .int .i64 x.from_, .int .i64 x.to_, .string x.osite, .int .i64 x.ono, .string x.sum] 40) = w1 at *
      clear hP c0 c1 c2 c3 c4 c5 c6 c7 c8 c9 c10 c11
      obtain ⟨a0, a1, a2, a3, a4, a5, a6, a7, a8, a9, a10, a11⟩ := HX1.out.c
      obtain ⟨D, hD⟩ := HM1.out.ex
      have HD := Lib.hid hD
      clear hD
      go_wp2_with (at_mapUpdate; refine wpList_mapUpdate_own _ rfl _ _ _ 89 rfl 36 40 keyK Tryz.underlying89 _ w.heap.size (l.take k).length D rfl HD.out.1 (by rw [HLEN.out]; simp only [maxLen]; omega) _ _ (keyT x.site.data.toList x.no) rfl rfl HKEY.out (.held x.v) [] rfl ?_; intro w5 hown5 hgrow5)
      have HM5 : Hid (DMapAt w5 w.heap.size (l.take (k + 1))) := by show DMapAt _ _ _; rw [HTK.out]; exact DMapAt.put x hxs HXN.out HNEW.out HD.out.1 HD.out.2.1 HD.out.2.2 hown5
      have HB5 : Hid (Below w.heap.size w w5) := HB1.out.grown hgrow5 HB1.out.size (fun i e => by have := Option.some.inj e; omega)
      clear hown5 hgrow5
      go_roundg (gk - 1)
      case measure => exact Nat.sub_lt HGK.out.2 Nat.one_pos
      case rel => exact ⟨k + 1, HGK.out.1, by go_num, HM5.out, HB5.out⟩
    · have hnk : ¬ (k : Int) < (n : Int) := by omega
      have hta : l.take k = l := List.take_of_length_le (by have := HN.out; omega)
      rw [hta] at HM
      clear hta
      go_wp2_with fail
      go_ret
      exact ⟨_, rfl, HM.out, HB.out⟩
theorem findS_some {l : List Deed} (h : RightD l) {y : Deed} (hy : y ∈ l) : findS l y.site y.no = some y := find_st h hy rfl rfl
set_option maxHeartbeats 3200000 in
set_option maxRecDepth 100000 in
theorem ofError_ok (M : Nat) (l : List Deed) (x : Deed) (w : World) (hM : DMapAt w M l) (hl : RightD l) (hx : x ∈ l) :
    Calls Tryz.prog 48 #[.map (some M), x.v] w fun e w' => e = .returned (.int .i64 0) ∧ Below w.heap.size w w' := by
  have hal : Below w.heap.size w (w.alloc (.cells #[.string x.site, .int .i64 x.no, .int .i64 x.at_, .int .i64 x.kind, .string x.id, .string x.fld, .string x.val, .int .i64 x.from_, .int .i64 x.to_, .string x.osite, .int .i64 x.ono, .string x.sum] 40)) := (Below.refl _ _).alloc (Nat.le_refl _) _
  have HX1 : Hid (DeedAt (w.alloc (.cells #[.string x.site, .int .i64 x.no, .int .i64 x.at_, .int .i64 x.kind, .string x.id, .string x.fld, .string x.val, .int .i64 x.from_, .int .i64 x.to_, .string x.osite, .int .i64 x.ono, .string x.sum] 40)) w.heap.size x) := deed_new w x
  have HM1 := Lib.hid (hM.below hal)
  have HB1 := Lib.hid hal
  have HOF := Lib.hid (hl.ofs x hx)
  have HL := Lib.hid hl
  clear hal hM hl hx
  unfold Deed.v
  go_enter Tryz.func48, Tryz.ntmps48
  go_upto_region 1 with (fail)
  obtain ⟨P, hP⟩ : ∃ P, P = w.heap.size := ⟨_, rfl⟩
  rw [← hP] at HX1 ⊢
  generalize w.alloc (.cells #[.string x.site, .int .i64 x.no, .int .i64 x.at_, .int .i64 x.kind, .string x.id, .string x.fld, .string x.val, .int .i64 x.from_, .int .i64 x.to_, .string x.osite, .int .i64 x.ono, .string x.sum] 40) = w1 at *
  clear hP
  obtain ⟨a0, a1, a2, a3, a4, a5, a6, a7, a8, a9, a10, a11⟩ := HX1.out.c
  by_cases hk : x.kind = 3 ∨ x.kind = 6
  · have hbk : backB x.kind = true := by unfold backB; rcases hk with h | h <;> rw [h] <;> rfl
    obtain ⟨y, hy, hys, hyn, hperm⟩ := HOF.out hbk
    have hsy := site_bound HL.out hy
    have hny := in64_no HL.out hy
    have hf := findS_some HL.out hy
    rw [hys] at hsy hf
    rw [hyn] at hny hf
    have hlook := HM1.out.hit hsy hny 0 hf
    have hal : Below w1.heap.size w1 (w1.alloc (.cells #[.string y.site, .int .i64 y.no, .int .i64 y.at_, .int .i64 y.kind, .string y.id, .string y.fld, .string y.val, .int .i64 y.from_, .int .i64 y.to_, .string y.osite, .int .i64 y.ono, .string y.sum] 40)) := (Below.refl _ _).alloc (Nat.le_refl _) _
    have HY2 : Hid (DeedAt (w1.alloc (.cells #[.string y.site, .int .i64 y.no, .int .i64 y.at_, .int .i64 y.kind, .string y.id, .string y.fld, .string y.val, .int .i64 y.from_, .int .i64 y.to_, .string y.osite, .int .i64 y.ono, .string y.sum] 40)) w1.heap.size y) := deed_new w1 y
    have HX2 := Lib.hid (HX1.out.keep hal)
    have HB2 := Lib.hid (HB1.out.trans (hal.mono HB1.out.size))
    have HPM := Lib.hid hperm
    have hlook1 : (Instr.lookup 89 (.map (some M)) (.agg #[.string x.osite, .int .i64 x.ono]) true).run Tryz.prog w1 = .ok (.tuple #[.agg #[.string y.site, .int .i64 y.no, .int .i64 y.at_, .int .i64 y.kind, .string y.id, .string y.fld, .string y.val, .int .i64 y.from_, .int .i64 y.to_, .string y.osite, .int .i64 y.ono, .string y.sum], .bool true]) w1 := hlook
    clear hbk hy hys hyn hperm hsy hny hf hlook hal HOF
    unfold PermD at HPM
    rcases hk with hk | hk
    · rw [hk] at a3
      rw [hk, if_pos rfl] at HPM
      go_upto_region 4 with (fail)
      obtain ⟨R, hR⟩ : ∃ R, R = w1.heap.size := ⟨_, rfl⟩
      rw [← hR] at HY2 ⊢
      generalize w1.alloc (.cells #[.string y.site, .int .i64 y.no, .int .i64 y.at_, .int .i64 y.kind, .string y.id, .string y.fld, .string y.val, .int .i64 y.from_, .int .i64 y.to_, .string y.osite, .int .i64 y.ono, .string y.sum] 40) = w2 at *
      clear hR hlook1 a0 a1 a2 a3 a4 a5 a6 a7 a8 a9 a10 a11
      obtain ⟨a0, a1, a2, a3, a4, a5, a6, a7, a8, a9, a10, a11⟩ := HX2.out.c
      obtain ⟨b0, b1, b2, b3, b4, b5, b6, b7, b8, b9, b10, b11⟩ := HY2.out.c
      rw [hk] at a3
      rcases HPM.out with hy2 | hy2
      all_goals
        rw [hy2] at b3
        go_wp2_with fail
        refine (when_still _ _ _).mono ?_
        rintro e wz ⟨rfl, hwz⟩
        obtain rfl := hwz.symm
        go_wp2_with fail
        go_ret
        exact ⟨rfl, HB2.out⟩
    · rw [hk] at a3
      rw [hk, if_neg (by decide)] at HPM
      go_upto_region 4 with (fail)
      obtain ⟨R, hR⟩ : ∃ R, R = w1.heap.size := ⟨_, rfl⟩
      rw [← hR] at HY2 ⊢
      generalize w1.alloc (.cells #[.string y.site, .int .i64 y.no, .int .i64 y.at_, .int .i64 y.kind, .string y.id, .string y.fld, .string y.val, .int .i64 y.from_, .int .i64 y.to_, .string y.osite, .int .i64 y.ono, .string y.sum] 40) = w2 at *
      clear hR hlook1 a0 a1 a2 a3 a4 a5 a6 a7 a8 a9 a10 a11
      obtain ⟨a0, a1, a2, a3, a4, a5, a6, a7, a8, a9, a10, a11⟩ := HX2.out.c
      obtain ⟨b0, b1, b2, b3, b4, b5, b6, b7, b8, b9, b10, b11⟩ := HY2.out.c
      rw [hk] at a3
      obtain ⟨hyk, hyx, hlt⟩ := HPM.out
      rw [hyx] at b0
      have hge : ¬ y.no ≥ x.no := by omega
      have hge' : ¬ x.no ≤ y.no := by omega
      rcases hyk with hy2 | hy2 | hy2
      all_goals
        rw [hy2] at b3
        go_wp2_with fail
        refine (when_still _ _ _).mono ?_
        rintro e wz ⟨rfl, hwz⟩
        obtain rfl := hwz.symm
        go_wp2_with fail
        go_ret
        exact ⟨rfl, HB2.out⟩
  · have hk3 : ¬ x.kind = 3 := fun h => hk (.inl h)
    have hk6 : ¬ x.kind = 6 := fun h => hk (.inr h)
    have hk3' : (x.kind == 3) = false := by simpa using hk3
    have hk6' : (x.kind == 6) = false := by simpa using hk6
    have hk3n : (x.kind != 3) = true := by simpa using hk3
    have hk6n : (x.kind != 6) = true := by simpa using hk6
    clear hk HOF
    go_wp2_with fail
    go_ret
    exact ⟨rfl, HB1.out⟩
theorem when_none (c : Int) (w : World) : Calls Tryz.prog 39 #[.bool false, .int .i64 c] w fun e w' => e = .returned (.int .i64 0) ∧ w' = w := (when_any false c w).mono fun _ _ h => ⟨h.1, h.2.symm⟩
theorem first_6z (g : Nat) (w : World) (h : g = w.heap.size) (t : TypeId) : Calls Tryz.prog 37 #[.slice (some ⟨g, 0, none⟩) 6 6] (w.alloc (.cells #[.int .i64 0, .int .i64 0, .int .i64 0, .int .i64 0, .int .i64 0, .int .i64 0] t)) fun e w' => e = .returned (.int .i64 0) ∧ w' = (w.alloc (.cells #[.int .i64 0, .int .i64 0, .int .i64 0, .int .i64 0, .int .i64 0, .int .i64 0] t)) := by
  subst h
  refine (first_any _ 6 6 [0, 0, 0, 0, 0, 0] _ rfl (by omega) (fun j hj => ?_)).mono fun _ _ h => ⟨h.1, h.2.symm⟩
  rw [World.cell?_alloc_at _ _ _ _ rfl]
  match j, hj with
  | 0, _ => rfl
  | 1, _ => rfl
  | 2, _ => rfl
  | 3, _ => rfl
  | 4, _ => rfl
  | 5, _ => rfl
/-- What stands ahead of the deed number k. -/
def prevD (l : List Deed) (k : Nat) : Deed := (zeroD :: l).getD k zeroD
theorem prevD_zero (l : List Deed) : prevD l 0 = zeroD := rfl
theorem prevD_succ {l : List Deed} {k : Nat} {x : Deed} (h : l[k]? = some x) : prevD l (k + 1) = x := by
  unfold prevD
  rw [List.getD_cons_succ, List.getD_eq_getElem?_getD, h]
  rfl
theorem prevD_get {l : List Deed} {k : Nat} (h0 : 0 < k) (hk : k ≤ l.length) : l[k - 1]? = some (prevD l k) := by
  obtain ⟨j, rfl⟩ : ∃ j, k = j + 1 := ⟨k - 1, by omega⟩
  have : l[j]? = some l[j] := List.getElem?_eq_getElem (by omega)
  rw [prevD_succ this]
  exact this
theorem key_ne_zero {s : ByteArray} (h : keyL (byteL s) = true) : s ≠ zeroB := fun e => by rw [e] at h; exact absurd h (by decide)
theorem DeedAt.drewD {w : World} {Z : Nat} {y : Deed} (h : DeedAt w Z y) : DeedAt w.drew Z y := h
theorem DeedAt.other {w : World} {Z Q : Nat} {y : Deed} (h : DeedAt w Z y) (hne : Q ≠ Z) (x : Deed) : DeedAt ((((((((((((w.setCell ⟨Q, 0, none⟩ (.string x.site)).setCell ⟨Q, 1, none⟩ (.int .i64 x.no)).setCell ⟨Q, 2, none⟩ (.int .i64 x.at_)).setCell ⟨Q, 3, none⟩ (.int .i64 x.kind)).setCell ⟨Q, 4, none⟩ (.string x.id)).setCell ⟨Q, 5, none⟩ (.string x.fld)).setCell ⟨Q, 6, none⟩ (.string x.val)).setCell ⟨Q, 7, none⟩ (.int .i64 x.from_)).setCell ⟨Q, 8, none⟩ (.int .i64 x.to_)).setCell ⟨Q, 9, none⟩ (.string x.osite)).setCell ⟨Q, 10, none⟩ (.int .i64 x.ono)).setCell ⟨Q, 11, none⟩ (.string x.sum)) Z y := by
  have one : ∀ (w : World) (o : Nat) (v : Value), DeedAt w Z y → DeedAt (w.setCell ⟨Q, o, none⟩ v) Z y := fun w o v h => (Below.heap_setCell w ⟨Q, o, none⟩ v Z (by exact hne.symm)).trans h
  exact one _ _ _ (one _ _ _ (one _ _ _ (one _ _ _ (one _ _ _ (one _ _ _ (one _ _ _ (one _ _ _ (one _ _ _ (one _ _ _ (one _ _ _ (one _ _ _ h)))))))))))
def CheckPost (w : World) (e : Ending) (w' : World) : Prop := e = .returned (.tuple #[.int .i64 0, .int .i64 0]) ∧ Below w.heap.size w w'
def CheckOk (w : World) (A : Option Addr) (n c : Nat) : Prop := Calls Tryz.prog 11 #[.slice A n c] w (CheckPost w)
set_option maxHeartbeats 6400000 in
set_option maxRecDepth 100000 in
theorem checkDeeds_ok (A : Option Addr) (n c : Nat) (l : List Deed) (w : World) (h : DeedsAt w A n c l) (hl : RightD l) (hT : Tabs w) (hM : MaxAt w) (hP : PowAt w) (hS : StandAt w) : CheckOk w A n c := by
  have HN : Hid (n = l.length) := h.1
  have HAT := Lib.hid h
  have HL := Lib.hid hl
  have hn : n ≤ 2000 := by have := hl.few; have := h.1; omega
  have hng : ¬ (2000 : Int) < (n : Int) := by omega
  have HTT : Hid (∀ wx, Below w.heap.size w wx → Tabs wx ∧ MaxAt wx ∧ PowAt wx ∧ StandAt wx) := fun wx hx => ⟨hT.below hx, MaxAt.below hM hx, hP.below hx, hS.below hx⟩
  have hal : Below w.heap.size w (w.alloc (.cells #[.string zeroD.site, .int .i64 zeroD.no, .int .i64 zeroD.at_, .int .i64 zeroD.kind, .string zeroD.id, .string zeroD.fld, .string zeroD.val, .int .i64 zeroD.from_, .int .i64 zeroD.to_, .string zeroD.osite, .int .i64 zeroD.ono, .string zeroD.sum] 40)) := (Below.refl _ _).alloc (Nat.le_refl _) _
  have HQ1 : Hid (DeedAt (w.alloc (.cells #[.string zeroD.site, .int .i64 zeroD.no, .int .i64 zeroD.at_, .int .i64 zeroD.kind, .string zeroD.id, .string zeroD.fld, .string zeroD.val, .int .i64 zeroD.from_, .int .i64 zeroD.to_, .string zeroD.osite, .int .i64 zeroD.ono, .string zeroD.sum] 40)) w.heap.size zeroD) := deed_new w zeroD
  have HB1 := Lib.hid hal
  clear h hl hT hM hP hS hal
  simp only [zeroD, zeroB] at HQ1 HB1
  unfold CheckOk
  go_enter Tryz.func11, Tryz.ntmps11
  go_upto_region 4 with (fail)
  have HQE : Hid (w.heap.size ≤ w.heap.size) := Nat.le_refl _
  generalize w.alloc (.cells #[.string ⟨#[]⟩, .int .i64 0, .int .i64 0, .int .i64 0, .string ⟨#[]⟩, .string ⟨#[]⟩, .string ⟨#[]⟩, .int .i64 0, .int .i64 0, .string ⟨#[]⟩, .int .i64 0, .string ⟨#[]⟩] 40) = w1 at *
  obtain ⟨Q, hQ⟩ : ∃ Q, Q = w.heap.size := ⟨_, rfl⟩
  rw [← hQ] at HQ1 ⊢
  have HQE : Hid (w.heap.size ≤ Q) := by show _ ≤ _; omega
  clear hQ
  go_wp2_with fail
  go_loopg [5, 6, 20] n (fun gk v5 v6 v wr => ∃ k : Nat, Hid (k + gk = n) ∧ v = .int .i64 (k : Int) ∧ v5 = .int .i64 (prevD l k).no ∧ v6 = .string (prevD l k).sum ∧ Hid (DeedAt wr Q (prevD l k)) ∧ Hid (Below w.heap.size w wr))
  case atStart => exact ⟨0, show 0 + n = n by omega, rfl, rfl, rfl, HQ1.out, HB1.out⟩
  case round =>
    obtain ⟨k, HK, rfl, rfl, rfl, HQ, HB⟩ := hrel
    clear HQ1 HB1
    have hkn : k ≤ n := by have := HK.out; omega
    by_cases hlt : k < n
    · have HGK := Lib.hid (show k + 1 + (gk - 1) = n ∧ 0 < gk by have := HK.out; omega)
      obtain ⟨g, off, rfl, hg, hc⟩ := (ElemsAt.keep HAT.out HB.out).deed (by omega)
      have hkl : k < l.length := by have := HN.out; omega
      obtain ⟨x, hx⟩ : ∃ x, l[k]? = some x := ⟨_, List.getElem?_eq_getElem hkl⟩
      obtain ⟨c0, c1, c2, c3, c4, c5, c6, c7, c8, c9, c10, c11⟩ := hc k x hx
      have HX := Lib.hid hx
      have HXM := Lib.hid (List.mem_of_getElem? hx)
      have HPV := Lib.hid (prevD_succ hx)
      have HST := Lib.hid (HL.out.step hx (prevD l k) (fun h0 => prevD_get h0 (by omega)))
      have HP0 : Hid (k = 0 → prevD l k = zeroD) := fun h => by rw [h]; rfl
      have HPS : Hid ((prevD l k).sum.size ≤ 1000 ∧ 0 ≤ (prevD l k).no ∧ (prevD l k).no ≤ 2001) := by
        by_cases h0 : k = 0
        · rw [HP0.out h0]; exact ⟨by decide, by decide, by decide⟩
        · have hm := List.mem_of_getElem? (prevD_get (l := l) (k := k) (by omega) (by omega))
          have h1 := (HL.out.small hm).1.sum
          have h2 := no_bound HL.out hm
          exact ⟨h1, by omega, by omega⟩
      obtain ⟨p, hp⟩ : ∃ p, p = prevD l k := ⟨_, rfl⟩
      rw [← hp] at HST HP0 HPS HQ ⊢
      clear hp
      have hal : Below wr.heap.size wr (wr.alloc (.cells #[.string x.site, .int .i64 x.no, .int .i64 x.at_, .int .i64 x.kind, .string x.id, .string x.fld, .string x.val, .int .i64 x.from_, .int .i64 x.to_, .string x.osite, .int .i64 x.ono, .string x.sum] 40)) := (Below.refl _ _).alloc (Nat.le_refl _) _
      have HX1 : Hid (DeedAt (wr.alloc (.cells #[.string x.site, .int .i64 x.no, .int .i64 x.at_, .int .i64 x.kind, .string x.id, .string x.fld, .string x.val, .int .i64 x.from_, .int .i64 x.to_, .string x.osite, .int .i64 x.ono, .string x.sum] 40)) wr.heap.size x) := deed_new wr x
      have HQ1 := Lib.hid (HQ.out.keep hal)
      have HQL : Hid (Q < wr.heap.size) := HQ.out.lt
      have HB1 := Lib.hid (HB.out.trans (hal.mono HB.out.size))
      clear hc hx hg HK hal HQ HB
      go_upto_region 8 with (fail)
      obtain ⟨P, hP⟩ : ∃ P, P = wr.heap.size := ⟨_, rfl⟩
      rw [← hP] at HX1 HQL ⊢
      have HPL : Hid (w.heap.size ≤ P) := by show _ ≤ _; have := HQE.out; have := HQL.out; omega
      generalize wr.alloc (.cells #[.string x.site, .int .i64 x.no, .int .i64 x.at_, .int .i64 x.kind, .string x.id, .string x.fld, .string x.val, .int .i64 x.from_, .int .i64 x.to_, .string x.osite, .int .i64 x.ono, .string x.sum] 40) = wz at *
      clear hP c0 c1 c2 c3 c4 c5 c6 c7 c8 c9 c10 c11
      obtain ⟨a0, a1, a2, a3, a4, a5, a6, a7, a8, a9, a10, a11⟩ := HX1.out.c
      obtain ⟨b0, b1, b2, b3, b4, b5, b6, b7, b8, b9, b10, b11⟩ := HQ1.out.c
      clear b2 b3 b4 b5 b6 b7 b8 b9 b10 b11
      go_upto_if 31 with (fail)
      obtain ⟨q, hq⟩ : ∃ q, q = (x.site.toList == p.site.toList) := ⟨_, rfl⟩
      rw [← hq]
      rw [toList_beq] at hq
      have HQB := Lib.hid hq
      clear hq
      go_cut [5, 6] (fun v5 v6 wx => ∃ (mn : Int) (ls : ByteArray), v5 = .int .i64 mn ∧ v6 = .string ls ∧ wx = wz ∧ Hid (IntKind.i64.wrap (mn + 1) = x.no ∧ x.sum = sumD ls x ∧ ls.size ≤ 1000))
      case first =>
        cases q with
        | true =>
          have HF : Hid (IntKind.i64.wrap (p.no + 1) = x.no ∧ x.sum = sumD p.sum x ∧ p.sum.size ≤ 1000) := by
            have hs : x.site = p.site := of_decide_eq_true HQB.out.symm
            have h0 : 0 < k := by
              rcases Nat.eq_zero_or_pos k with h0 | h0
              · exact absurd (hs.trans (by rw [HP0.out h0]; rfl)) (key_ne_zero (HL.out.key x HXM.out))
              · exact h0
            have hst := HST.out.2
            rw [if_pos ⟨h0, hs.symm⟩] at hst
            exact ⟨by rw [hst.1]; exact i64_small _ (by have := HPS.out; omega) (by have := HPS.out; omega), hst.2, HPS.out.1⟩
          go_wp2_with fail
          go_meet
          exact ⟨p.no, p.sum, rfl, rfl, rfl, HF.out⟩
        | false =>
          have HF : Hid (IntKind.i64.wrap (0 + 1) = x.no ∧ x.sum = sumD ⟨#[]⟩ x ∧ (⟨#[]⟩ : ByteArray).size ≤ 1000) := by
            have hs : ¬ x.site = p.site := of_decide_eq_false HQB.out.symm
            have hst := HST.out.2
            rw [if_neg (fun h => hs h.2.symm)] at hst
            exact ⟨by rw [hst.1]; rfl, hst.2, by decide⟩
          go_wp2_with fail
          go_meet
          exact ⟨0, ⟨#[]⟩, rfl, rfl, rfl, HF.out⟩
      case rest =>
        obtain ⟨mn, ls, rfl, rfl, hwz, HMS⟩ := hcut
        obtain rfl := hwz.symm
        have hwrap := HMS.out.1
        have HSM := Lib.hid (HL.out.small HXM.out)
        have HGD := Lib.hid (HL.out.good x HXM.out)
        have HW0 : Hid (∀ wx, Below wz.heap.size wz wx → Below w.heap.size w wx) := fun wx hx => HB1.out.trans (hx.mono HB1.out.size)
        have HHELD : Hid (∀ w', Below wz.heap.size wz w' → w'.cell? ⟨P, 0, none⟩ = some (.string x.site) ∧ w'.cell? ⟨P, 1, none⟩ = some (.int .i64 x.no) ∧ w'.cell? ⟨P, 2, none⟩ = some (.int .i64 x.at_) ∧ w'.cell? ⟨P, 3, none⟩ = some (.int .i64 x.kind) ∧ w'.cell? ⟨P, 4, none⟩ = some (.string x.id) ∧ w'.cell? ⟨P, 5, none⟩ = some (.string x.fld) ∧ w'.cell? ⟨P, 6, none⟩ = some (.string x.val) ∧ w'.cell? ⟨P, 7, none⟩ = some (.int .i64 x.from_) ∧ w'.cell? ⟨P, 8, none⟩ = some (.int .i64 x.to_) ∧ w'.cell? ⟨P, 9, none⟩ = some (.string x.osite) ∧ w'.cell? ⟨P, 10, none⟩ = some (.int .i64 x.ono) ∧ w'.cell? ⟨P, 11, none⟩ = some (.string x.sum) ∧ w'.cell? ⟨Q, 0, none⟩ = some (.string p.site) ∧ w'.cell? ⟨Q, 1, none⟩ = some (.int .i64 p.no) ∧ Below wz.heap.size wz w') := fun w' hb => by
          obtain ⟨a0, a1, a2, a3, a4, a5, a6, a7, a8, a9, a10, a11⟩ := (HX1.out.keep hb).c
          obtain ⟨b0, b1, -⟩ := (HQ1.out.keep hb).c
          exact ⟨a0, a1, a2, a3, a4, a5, a6, a7, a8, a9, a10, a11, b0, b1, hb⟩
        have HKY := Lib.hid (fun wx => key_any x.site wx (HL.out.key x HXM.out))
        have HBS : Hid (∀ wx, Below wz.heap.size wz wx → Calls Tryz.prog 43 #[.agg #[.string x.site, .int .i64 x.no], .agg #[.string p.site, .int .i64 p.no]] wx fun e w' => e = .returned (.int .i64 (cmpD x p)) ∧ Below wz.heap.size wz w') := fun wx hx => (byStamp_gr x p wx).mono fun e w' k => ⟨k.1, hx.trans (k.2.below.mono hx.size)⟩
        have HMO := Lib.hid (fun wx => moment_ok x.at_ wx HGD.out.at_)
        have HIN := Lib.hid (fun wx => in_still x.kind 1 6 wx)
        rw [inB_in _ _ _ HGD.out.kind.1 HGD.out.kind.2] at HIN
        have HFE : Hid (∀ wx, Below wz.heap.size wz wx → Calls Tryz.prog 45 #[.agg #[.string x.site, .int .i64 x.no, .int .i64 x.at_, .int .i64 x.kind, .string x.id, .string x.fld, .string x.val, .int .i64 x.from_, .int .i64 x.to_, .string x.osite, .int .i64 x.ono, .string x.sum]] wx fun e w' => e = .returned (.int .i64 0) ∧ Below wz.heap.size wz w') := fun wx hx => by
          have hx0 := HW0.out wx hx
          exact (formError_ok x wx HGD.out (HTT.out wx hx0).1 (HTT.out wx hx0).2.1).mono fun e w' k => ⟨k.1, hx.trans (k.2.mono hx.size)⟩
        have HSU : Hid (∀ wx, Below wz.heap.size wz wx → Calls Tryz.prog 46 #[.agg #[.string x.site, .int .i64 x.no, .int .i64 x.at_, .int .i64 x.kind, .string x.id, .string x.fld, .string x.val, .int .i64 x.from_, .int .i64 x.to_, .string x.osite, .int .i64 x.ono, .string x.sum], .string ls] wx fun e w' => e = .returned (.string x.sum) ∧ Below wz.heap.size wz w') := fun wx hx => by
          have hx0 := HW0.out wx hx
          refine (sum_any ls x wx HSM.out.1 HMS.out.2.2 (HTT.out wx hx0).2.2.1 (HTT.out wx hx0).2.2.2).mono fun e w' k => ⟨?_, hx.trans (k.2.mono hx.size)⟩
          rw [k.1, ← HMS.out.2.1]
        have HCP : Hid (0 < k → ¬ cmpD x p ≤ 0) := fun h => cmpD_pos (HST.out.1 h)
        obtain ⟨cx, hcx⟩ : ∃ cx, cx = cmpD x p := ⟨_, rfl⟩
        rw [← hcx] at HBS HCP
        clear hcx HMS HST HP0 HPS HGD
        go_upto_region 10 with (fail)
        go_cut [9] (fun v9 wx => v9 = .int .i64 0 ∧ Hid (Below wz.heap.size wz wx))
        case first =>
          have hbx : Below wz.heap.size wz wz.drew := (Below.refl _ _).drew
          by_cases h0 : k = 0
          · subst h0
            refine wp_region_held_drew (S := fun w' => w'.cell? ⟨P, 0, none⟩ = some (.string x.site) ∧ w'.cell? ⟨P, 1, none⟩ = some (.int .i64 x.no) ∧ w'.cell? ⟨P, 2, none⟩ = some (.int .i64 x.at_) ∧ w'.cell? ⟨P, 3, none⟩ = some (.int .i64 x.kind) ∧ w'.cell? ⟨P, 4, none⟩ = some (.string x.id) ∧ w'.cell? ⟨P, 5, none⟩ = some (.string x.fld) ∧ w'.cell? ⟨P, 6, none⟩ = some (.string x.val) ∧ w'.cell? ⟨P, 7, none⟩ = some (.int .i64 x.from_) ∧ w'.cell? ⟨P, 8, none⟩ = some (.int .i64 x.to_) ∧ w'.cell? ⟨P, 9, none⟩ = some (.string x.osite) ∧ w'.cell? ⟨P, 10, none⟩ = some (.int .i64 x.ono) ∧ w'.cell? ⟨P, 11, none⟩ = some (.string x.sum) ∧ w'.cell? ⟨Q, 0, none⟩ = some (.string p.site) ∧ w'.cell? ⟨Q, 1, none⟩ = some (.int .i64 p.no) ∧ Below wz.heap.size wz w') (by kernel_rfl) (HHELD.out _ hbx) (fun hHeld => ?_)
            refine wpAnyH_take (i := 0) (oi := ⟨some 32, _, _, _, _, _⟩) (v := ?_) rfl (by kernel_rfl) (by kernel_rfl) (by kernel_rfl) (fun _ _ _ h => h) (Or.inl ⟨by rfl, ?_⟩) hHeld ?_
            rotate_left
            · (intro w hSw; (try dsimp only at hSw); go_simp; (try (with_reducible rfl)))
            (try simp only [Act.put, List.setIfInBounds_toArray, List.set_cons_zero, List.set_cons_succ])
            refine wpAnyH_take (i := 1) (oi := ⟨some 33, _, _, _, _, _⟩) (v := ?_) rfl (by kernel_rfl) (by kernel_rfl) (by kernel_rfl) (fun _ _ _ h => h) (Or.inl ⟨by rfl, ?_⟩) hHeld ?_
            rotate_left
            · (intro w hSw; (try dsimp only at hSw); go_simp; (try (with_reducible rfl)))
            (try simp only [Act.put, List.setIfInBounds_toArray, List.set_cons_zero, List.set_cons_succ])
            refine wpAnyH_take (i := 2) (oi := ⟨some 34, _, _, _, _, _⟩) (v := ?_) rfl (by kernel_rfl) (by kernel_rfl) (by kernel_rfl) (fun _ _ _ h => h) (Or.inl ⟨by rfl, ?_⟩) hHeld ?_
            rotate_left
            · (intro w hSw; (try dsimp only at hSw); go_simp; (try (with_reducible rfl)))
            (try simp only [Act.put, List.setIfInBounds_toArray, List.set_cons_zero, List.set_cons_succ])
            refine wpAnyH_take (i := 6) (oi := ⟨some 38, _, _, _, _, _⟩) (v := ?_) rfl (by kernel_rfl) (by kernel_rfl) (by kernel_rfl) (fun _ _ _ h => h) (Or.inl ⟨by rfl, ?_⟩) hHeld ?_
            rotate_left
            · (intro w hSw; (try dsimp only at hSw); go_simp; (try (with_reducible rfl)))
            (try simp only [Act.put, List.setIfInBounds_toArray, List.set_cons_zero, List.set_cons_succ])
            refine wpAnyH_take (i := 7) (oi := ⟨some 39, _, _, _, _, _⟩) (v := ?_) rfl (by kernel_rfl) (by kernel_rfl) (by kernel_rfl) (fun _ _ _ h => h) (Or.inl ⟨by rfl, ?_⟩) hHeld ?_
            rotate_left
            · (intro w hSw; (try dsimp only at hSw); go_simp; (try (with_reducible rfl)))
            (try simp only [Act.put, List.setIfInBounds_toArray, List.set_cons_zero, List.set_cons_succ])
            refine wpAnyH_take (i := 17) (oi := ⟨some 49, _, _, _, _, _⟩) (v := ?_) rfl (by kernel_rfl) (by kernel_rfl) (by kernel_rfl) (fun _ _ _ h => h) (Or.inl ⟨by rfl, ?_⟩) hHeld ?_
            rotate_left
            · (intro w hSw; (try dsimp only at hSw); go_simp; (try (with_reducible rfl)))
            (try simp only [Act.put, List.setIfInBounds_toArray, List.set_cons_zero, List.set_cons_succ])
            refine wpAnyH_take (i := 18) (oi := ⟨some 50, _, _, _, _, _⟩) (v := ?_) rfl (by kernel_rfl) (by kernel_rfl) (by kernel_rfl) (fun _ _ _ h => h) (Or.inl ⟨by rfl, ?_⟩) hHeld ?_
            rotate_left
            · (intro w hSw; (try dsimp only at hSw); go_simp; (try (with_reducible rfl)))
            (try simp only [Act.put, List.setIfInBounds_toArray, List.set_cons_zero, List.set_cons_succ])
            refine wpAnyH_take (i := 19) (oi := ⟨some 51, _, _, _, _, _⟩) (v := ?_) rfl (by kernel_rfl) (by kernel_rfl) (by kernel_rfl) (fun _ _ _ h => h) (Or.inl ⟨by rfl, ?_⟩) hHeld ?_
            rotate_left
            · (intro w hSw; (try dsimp only at hSw); go_simp; (try (with_reducible rfl)))
            (try simp only [Act.put, List.setIfInBounds_toArray, List.set_cons_zero, List.set_cons_succ])
            refine wpAnyH_take (i := 20) (oi := ⟨some 52, _, _, _, _, _⟩) (v := ?_) rfl (by kernel_rfl) (by kernel_rfl) (by kernel_rfl) (fun _ _ _ h => h) (Or.inl ⟨by rfl, ?_⟩) hHeld ?_
            rotate_left
            · (intro w hSw; (try dsimp only at hSw); go_simp; (try (with_reducible rfl)))
            (try simp only [Act.put, List.setIfInBounds_toArray, List.set_cons_zero, List.set_cons_succ])
            refine wpAnyH_take (i := 21) (oi := ⟨some 53, _, _, _, _, _⟩) (v := ?_) rfl (by kernel_rfl) (by kernel_rfl) (by kernel_rfl) (fun _ _ _ h => h) (Or.inl ⟨by rfl, ?_⟩) hHeld ?_
            rotate_left
            · (intro w hSw; (try dsimp only at hSw); go_simp; (try (with_reducible rfl)))
            (try simp only [Act.put, List.setIfInBounds_toArray, List.set_cons_zero, List.set_cons_succ])
            refine wpAnyH_take (i := 22) (oi := ⟨some 54, _, _, _, _, _⟩) (v := ?_) rfl (by kernel_rfl) (by kernel_rfl) (by kernel_rfl) (fun _ _ _ h => h) (Or.inl ⟨by rfl, ?_⟩) hHeld ?_
            rotate_left
            · (intro w hSw; (try dsimp only at hSw); go_simp; (try (with_reducible rfl)))
            (try simp only [Act.put, List.setIfInBounds_toArray, List.set_cons_zero, List.set_cons_succ])
            refine wpAnyH_take (i := 30) (oi := ⟨some 62, _, _, _, _, _⟩) (v := ?_) rfl (by kernel_rfl) (by kernel_rfl) (by kernel_rfl) (fun _ _ _ h => h) (Or.inl ⟨by rfl, ?_⟩) hHeld ?_
            rotate_left
            · (intro w hSw; (try dsimp only at hSw); go_simp; (try (with_reducible rfl)))
            (try simp only [Act.put, List.setIfInBounds_toArray, List.set_cons_zero, List.set_cons_succ])
            refine wpAnyH_take (i := 31) (oi := ⟨some 63, _, _, _, _, _⟩) (v := ?_) rfl (by kernel_rfl) (by kernel_rfl) (by kernel_rfl) (fun _ _ _ h => h) (Or.inl ⟨by rfl, ?_⟩) hHeld ?_
            rotate_left
            · (intro w hSw; (try dsimp only at hSw); go_simp; (try (with_reducible rfl)))
            (try simp only [Act.put, List.setIfInBounds_toArray, List.set_cons_zero, List.set_cons_succ])
            refine wpAnyH_take (i := 35) (oi := ⟨some 67, _, _, _, _, _⟩) (v := ?_) rfl (by kernel_rfl) (by kernel_rfl) (by kernel_rfl) (fun _ _ _ h => h) (Or.inl ⟨by rfl, ?_⟩) hHeld ?_
            rotate_left
            · (intro w hSw; (try dsimp only at hSw); go_simp; (try (with_reducible rfl)))
            (try simp only [Act.put, List.setIfInBounds_toArray, List.set_cons_zero, List.set_cons_succ])
            refine wpAnyH_take (i := 37) (oi := ⟨some 69, _, _, _, _, _⟩) (v := ?_) rfl (by kernel_rfl) (by kernel_rfl) (by kernel_rfl) (fun _ _ _ h => h) (Or.inl ⟨by rfl, ?_⟩) hHeld ?_
            rotate_left
            · (intro w hSw; (try dsimp only at hSw); go_simp; (try (with_reducible rfl)))
            (try simp only [Act.put, List.setIfInBounds_toArray, List.set_cons_zero, List.set_cons_succ])
            refine wpAnyH_take (i := 38) (oi := ⟨some 70, _, _, _, _, _⟩) (v := ?_) rfl (by kernel_rfl) (by kernel_rfl) (by kernel_rfl) (fun _ _ _ h => h) (Or.inl ⟨by rfl, ?_⟩) hHeld ?_
            rotate_left
            · (intro w hSw; (try dsimp only at hSw); go_simp; (try (with_reducible rfl)))
            (try simp only [Act.put, List.setIfInBounds_toArray, List.set_cons_zero, List.set_cons_succ])
            refine wpAnyH_take (i := 39) (oi := ⟨some 71, _, _, _, _, _⟩) (v := ?_) rfl (by kernel_rfl) (by kernel_rfl) (by kernel_rfl) (fun _ _ _ h => h) (Or.inl ⟨by rfl, ?_⟩) hHeld ?_
            rotate_left
            · (intro w hSw; (try dsimp only at hSw); go_simp; (try (with_reducible rfl)))
            (try simp only [Act.put, List.setIfInBounds_toArray, List.set_cons_zero, List.set_cons_succ])
            refine wpAnyH_take (i := 40) (oi := ⟨some 72, _, _, _, _, _⟩) (v := ?_) rfl (by kernel_rfl) (by kernel_rfl) (by kernel_rfl) (fun _ _ _ h => h) (Or.inl ⟨by rfl, ?_⟩) hHeld ?_
            rotate_left
            · (intro w hSw; (try dsimp only at hSw); go_simp; (try (with_reducible rfl)))
            (try simp only [Act.put, List.setIfInBounds_toArray, List.set_cons_zero, List.set_cons_succ])
            refine wpAnyH_ready (rs := [3]) (by kernel_rfl) (by simp) ?_
            refine AllReadyH.cons (o := ⟨some 35, _, _, _, _, _⟩) rfl (fun K hK => ?_) AllReadyH.nil
            rw [if_pos (by rfl)]
            go_wp2_with fail
            refine Calls.mono (HKY.out _) ?_
            rintro e wq ⟨rfl, hwq⟩
            obtain rfl := hwq
            refine hK.out _ _ hHeld (fun hHeld => ?_)
            clear hK K
            (try simp only [Act.put, List.setIfInBounds_toArray, List.set_cons_zero, List.set_cons_succ])
            refine wpAnyH_take (i := 4) (oi := ⟨some 36, _, _, _, _, _⟩) (v := ?_) rfl (by kernel_rfl) (by kernel_rfl) (by kernel_rfl) (fun _ _ _ h => h) (Or.inl ⟨by rfl, ?_⟩) hHeld ?_
            rotate_left
            · (intro w hSw; (try dsimp only at hSw); go_simp; (try (with_reducible rfl)))
            (try simp only [Act.put, List.setIfInBounds_toArray, List.set_cons_zero, List.set_cons_succ])
            refine wpAnyH_ready (rs := [5]) (by kernel_rfl) (by simp) ?_
            refine AllReadyH.cons (o := ⟨some 37, _, _, _, _, _⟩) rfl (fun K hK => ?_) AllReadyH.nil
            rw [if_pos (by rfl)]
            go_wp2_with fail
            refine Calls.mono (when_none _ _) ?_
            rintro e wq ⟨rfl, hwq⟩
            obtain rfl := hwq.symm
            refine hK.out _ _ hHeld (fun hHeld => ?_)
            clear hK K
            (try simp only [Act.put, List.setIfInBounds_toArray, List.set_cons_zero, List.set_cons_succ])
            refine wpAnyH_take (i := 8) (oi := ⟨some 40, _, _, _, _, _⟩) (v := ?_) rfl (by kernel_rfl) (by kernel_rfl) (by kernel_rfl) (fun _ _ _ h => h) (Or.inl ⟨by rfl, ?_⟩) hHeld ?_
            rotate_left
            · (intro w hSw; (try dsimp only at hSw); go_simp; (try (with_reducible rfl)))
            (try simp only [Act.put, List.setIfInBounds_toArray, List.set_cons_zero, List.set_cons_succ])
            refine wpAnyH_take (i := 9) (oi := ⟨some 41, _, _, _, _, _⟩) (v := undef) rfl (by kernel_rfl) (by kernel_rfl) (by kernel_rfl) (fun _ _ _ h => h) (Or.inr ⟨by rfl, rfl⟩) hHeld ?_
            (try simp only [Act.put, List.setIfInBounds_toArray, List.set_cons_zero, List.set_cons_succ])
            refine wpAnyH_take (i := 10) (oi := ⟨some 42, _, _, _, _, _⟩) (v := undef) rfl (by kernel_rfl) (by kernel_rfl) (by kernel_rfl) (fun _ _ _ h => h) (Or.inr ⟨by rfl, rfl⟩) hHeld ?_
            (try simp only [Act.put, List.setIfInBounds_toArray, List.set_cons_zero, List.set_cons_succ])
            refine wpAnyH_take (i := 11) (oi := ⟨some 43, _, _, _, _, _⟩) (v := undef) rfl (by kernel_rfl) (by kernel_rfl) (by kernel_rfl) (fun _ _ _ h => h) (Or.inr ⟨by rfl, rfl⟩) hHeld ?_
            (try simp only [Act.put, List.setIfInBounds_toArray, List.set_cons_zero, List.set_cons_succ])
            refine wpAnyH_take (i := 12) (oi := ⟨some 44, _, _, _, _, _⟩) (v := undef) rfl (by kernel_rfl) (by kernel_rfl) (by kernel_rfl) (fun _ _ _ h => h) (Or.inr ⟨by rfl, rfl⟩) hHeld ?_
            (try simp only [Act.put, List.setIfInBounds_toArray, List.set_cons_zero, List.set_cons_succ])
            refine wpAnyH_take (i := 13) (oi := ⟨some 45, _, _, _, _, _⟩) (v := undef) rfl (by kernel_rfl) (by kernel_rfl) (by kernel_rfl) (fun _ _ _ h => h) (Or.inr ⟨by rfl, rfl⟩) hHeld ?_
            (try simp only [Act.put, List.setIfInBounds_toArray, List.set_cons_zero, List.set_cons_succ])
            refine wpAnyH_take (i := 14) (oi := ⟨some 46, _, _, _, _, _⟩) (v := undef) rfl (by kernel_rfl) (by kernel_rfl) (by kernel_rfl) (fun _ _ _ h => h) (Or.inr ⟨by rfl, rfl⟩) hHeld ?_
            (try simp only [Act.put, List.setIfInBounds_toArray, List.set_cons_zero, List.set_cons_succ])
            refine wpAnyH_take (i := 15) (oi := ⟨some 47, _, _, _, _, _⟩) (v := ?_) rfl (by kernel_rfl) (by kernel_rfl) (by kernel_rfl) (fun _ _ _ h => h) (Or.inl ⟨by rfl, ?_⟩) hHeld ?_
            rotate_left
            · (intro w hSw; (try dsimp only at hSw); go_simp; (try (with_reducible rfl)))
            (try simp only [Act.put, List.setIfInBounds_toArray, List.set_cons_zero, List.set_cons_succ])
            refine wpAnyH_ready (rs := [16]) (by kernel_rfl) (by simp) ?_
            refine AllReadyH.cons (o := ⟨some 48, _, _, _, _, _⟩) rfl (fun K hK => ?_) AllReadyH.nil
            rw [if_pos (by rfl)]
            go_wp2_with fail
            refine Calls.mono (when_none _ _) ?_
            rintro e wq ⟨rfl, hwq⟩
            obtain rfl := hwq.symm
            refine hK.out _ _ hHeld (fun hHeld => ?_)
            clear hK K
            (try simp only [Act.put, List.setIfInBounds_toArray, List.set_cons_zero, List.set_cons_succ])
            refine wpAnyH_take (i := 23) (oi := ⟨some 55, _, _, _, _, _⟩) (v := ?_) rfl (by kernel_rfl) (by kernel_rfl) (by kernel_rfl) (fun _ _ _ h => h) (Or.inl ⟨by rfl, ?_⟩) hHeld ?_
            rotate_left
            · (intro w hSw; (try dsimp only at hSw); go_simp; (try (with_reducible rfl)))
            (try simp only [Act.put, List.setIfInBounds_toArray, List.set_cons_zero, List.set_cons_succ])
            refine wpAnyH_take (i := 24) (oi := ⟨some 56, _, _, _, _, _⟩) (v := ?_) rfl (by kernel_rfl) (by kernel_rfl) (by kernel_rfl) (fun _ _ _ h => h) (Or.inl ⟨by rfl, ?_⟩) hHeld ?_
            rotate_left
            · (intro w hSw; (try dsimp only at hSw); go_simp; (try (with_reducible rfl)))
            (try simp only [Act.put, List.setIfInBounds_toArray, List.set_cons_zero, List.set_cons_succ])
            refine wpAnyH_take (i := 25) (oi := ⟨some 57, _, _, _, _, _⟩) (v := ?_) rfl (by kernel_rfl) (by kernel_rfl) (by kernel_rfl) (fun _ _ _ h => h) (Or.inl ⟨by rfl, ?_⟩) hHeld ?_
            rotate_left
            · (intro w hSw; (try dsimp only at hSw); go_simp; (try (with_reducible rfl)))
            (try simp only [Act.put, List.setIfInBounds_toArray, List.set_cons_zero, List.set_cons_succ])
            refine wpAnyH_ready (rs := [26]) (by kernel_rfl) (by simp) ?_
            refine AllReadyH.cons (o := ⟨some 58, _, _, _, _, _⟩) rfl (fun K hK => ?_) AllReadyH.nil
            rw [if_pos (by rfl)]
            go_wp2_with fail
            refine Calls.mono (HMO.out _) ?_
            rintro e wq ⟨rfl, hwq⟩
            obtain rfl := hwq.symm
            refine hK.out _ _ hHeld (fun hHeld => ?_)
            clear hK K
            (try simp only [Act.put, List.setIfInBounds_toArray, List.set_cons_zero, List.set_cons_succ])
            refine wpAnyH_take (i := 27) (oi := ⟨some 59, _, _, _, _, _⟩) (v := ?_) rfl (by kernel_rfl) (by kernel_rfl) (by kernel_rfl) (fun _ _ _ h => h) (Or.inl ⟨by rfl, ?_⟩) hHeld ?_
            rotate_left
            · (intro w hSw; (try dsimp only at hSw); go_simp; (try (with_reducible rfl)))
            (try simp only [Act.put, List.setIfInBounds_toArray, List.set_cons_zero, List.set_cons_succ])
            refine wpAnyH_take (i := 28) (oi := ⟨some 60, _, _, _, _, _⟩) (v := ?_) rfl (by kernel_rfl) (by kernel_rfl) (by kernel_rfl) (fun _ _ _ h => h) (Or.inl ⟨by rfl, ?_⟩) hHeld ?_
            rotate_left
            · (intro w hSw; (try dsimp only at hSw); go_simp; (try (with_reducible rfl)))
            (try simp only [Act.put, List.setIfInBounds_toArray, List.set_cons_zero, List.set_cons_succ])
            refine wpAnyH_ready (rs := [29]) (by kernel_rfl) (by simp) ?_
            refine AllReadyH.cons (o := ⟨some 61, _, _, _, _, _⟩) rfl (fun K hK => ?_) AllReadyH.nil
            rw [if_pos (by rfl)]
            go_wp2_with fail
            refine Calls.mono (when_none _ _) ?_
            rintro e wq ⟨rfl, hwq⟩
            obtain rfl := hwq.symm
            refine hK.out _ _ hHeld (fun hHeld => ?_)
            clear hK K
            (try simp only [Act.put, List.setIfInBounds_toArray, List.set_cons_zero, List.set_cons_succ])
            refine wpAnyH_ready (rs := [32]) (by kernel_rfl) (by simp) ?_
            refine AllReadyH.cons (o := ⟨some 64, _, _, _, _, _⟩) rfl (fun K hK => ?_) AllReadyH.nil
            rw [if_pos (by rfl)]
            go_wp2_with fail
            refine Calls.mono (HIN.out _) ?_
            rintro e wq ⟨rfl, hwq⟩
            obtain rfl := hwq.symm
            refine hK.out _ _ hHeld (fun hHeld => ?_)
            clear hK K
            (try simp only [Act.put, List.setIfInBounds_toArray, List.set_cons_zero, List.set_cons_succ])
            refine wpAnyH_take (i := 33) (oi := ⟨some 65, _, _, _, _, _⟩) (v := ?_) rfl (by kernel_rfl) (by kernel_rfl) (by kernel_rfl) (fun _ _ _ h => h) (Or.inl ⟨by rfl, ?_⟩) hHeld ?_
            rotate_left
            · (intro w hSw; (try dsimp only at hSw); go_simp; (try (with_reducible rfl)))
            (try simp only [Act.put, List.setIfInBounds_toArray, List.set_cons_zero, List.set_cons_succ])
            refine wpAnyH_ready (rs := [34]) (by kernel_rfl) (by simp) ?_
            refine AllReadyH.cons (o := ⟨some 66, _, _, _, _, _⟩) rfl (fun K hK => ?_) AllReadyH.nil
            rw [if_pos (by rfl)]
            go_wp2_with fail
            refine Calls.mono (when_none _ _) ?_
            rintro e wq ⟨rfl, hwq⟩
            obtain rfl := hwq.symm
            refine hK.out _ _ hHeld (fun hHeld => ?_)
            clear hK K
            (try simp only [Act.put, List.setIfInBounds_toArray, List.set_cons_zero, List.set_cons_succ])
            refine wpAnyH_ready (rs := [36]) (by kernel_rfl) (by simp) ?_
            refine AllReadyH.cons (o := ⟨some 68, _, _, _, _, _⟩) rfl (fun K hK => ?_) AllReadyH.nil
            rw [if_pos (by rfl)]
            go_wp2_with fail
            refine Calls.mono (HFE.out _ hbx) ?_
            rintro e wx ⟨rfl, hbx⟩
            refine hK.out _ _ (HHELD.out _ hbx) (fun hHeld => ?_)
            clear hK K
            (try simp only [Act.put, List.setIfInBounds_toArray, List.set_cons_zero, List.set_cons_succ])
            refine wpAnyH_ready (rs := [41]) (by kernel_rfl) (by simp) ?_
            refine AllReadyH.cons (o := ⟨some 73, _, _, _, _, _⟩) rfl (fun K hK => ?_) AllReadyH.nil
            rw [if_pos (by rfl)]
            go_wp2_with fail
            refine Calls.mono (HSU.out _ hbx) ?_
            rintro e wx ⟨rfl, hbx⟩
            refine hK.out _ _ (HHELD.out _ hbx) (fun hHeld => ?_)
            clear hK K
            (try simp only [Act.put, List.setIfInBounds_toArray, List.set_cons_zero, List.set_cons_succ])
            refine wpAnyH_take (i := 42) (oi := ⟨some 74, _, _, _, _, _⟩) (v := ?_) rfl (by kernel_rfl) (by kernel_rfl) (by kernel_rfl) (fun _ _ _ h => h) (Or.inl ⟨by rfl, ?_⟩) hHeld ?_
            rotate_left
            · (intro w hSw; (try dsimp only at hSw); go_simp; (try (with_reducible rfl)))
            (try simp only [Act.put, List.setIfInBounds_toArray, List.set_cons_zero, List.set_cons_succ])
            refine wpAnyH_ready (rs := [43]) (by kernel_rfl) (by simp) ?_
            refine AllReadyH.cons (o := ⟨some 75, _, _, _, _, _⟩) rfl (fun K hK => ?_) AllReadyH.nil
            rw [if_pos (by rfl)]
            go_wp2_with fail
            refine Calls.mono (when_none _ _) ?_
            rintro e wq ⟨rfl, hwq⟩
            obtain rfl := hwq.symm
            refine hK.out _ _ hHeld (fun hHeld => ?_)
            clear hK K
            (try simp only [Act.put, List.setIfInBounds_toArray, List.set_cons_zero, List.set_cons_succ])
            refine wpAnyH_ready (rs := [44]) (by kernel_rfl) (by simp) ?_
            refine AllReadyH.cons (o := ⟨some 76, _, _, _, _, _⟩) rfl (fun K hK => ?_) AllReadyH.nil
            rw [if_pos (by rfl)]
            go_simp
            have hbx := hbx.alloc hbx.size (.cells #[.int .i64 0, .int .i64 0, .int .i64 0, .int .i64 0, .int .i64 0, .int .i64 0] 29)
            refine hK.out _ _ (HHELD.out _ hbx) (fun hHeld => ?_)
            clear hK K
            (try simp only [Act.put, List.setIfInBounds_toArray, List.set_cons_zero, List.set_cons_succ])
            refine wpAnyH_ready (rs := [45]) (by kernel_rfl) (by simp) ?_
            refine AllReadyH.cons (o := ⟨some 77, _, _, _, _, _⟩) rfl (fun K hK => ?_) AllReadyH.nil
            rw [if_pos (by rfl)]
            go_wp2_with fail
            refine Calls.mono (first_6z _ _ rfl _) ?_
            rintro e wq ⟨rfl, hwq⟩
            obtain rfl := hwq.symm
            refine hK.out _ _ hHeld (fun hHeld => ?_)
            clear hK K
            (try simp only [Act.put, List.setIfInBounds_toArray, List.set_cons_zero, List.set_cons_succ])
            refine wpAnyH_take (i := 46) (oi := ⟨some 9, _, _, _, _, _⟩) (v := ?_) rfl (by kernel_rfl) (by kernel_rfl) (by kernel_rfl) (fun _ _ _ h => h) (Or.inl ⟨by rfl, ?_⟩) hHeld ?_
            rotate_left
            · (intro w hSw; (try dsimp only at hSw); go_simp; (try (with_reducible rfl)))
            (try simp only [Act.put, List.setIfInBounds_toArray, List.set_cons_zero, List.set_cons_succ])
            refine wpAnyH_done (by kernel_rfl) ?_ _
            go_wp2_with fail
            go_meet
            exact ⟨rfl, hbx⟩
          · have hk0 : (0 : Int) < (k : Int) := by omega
            have hcm := HCP.out (by omega)
            have hcm2 : 0 < cx := by omega
            have hk1 : 0 < k := by omega
            refine wp_region_held_drew (S := fun w' => w'.cell? ⟨P, 0, none⟩ = some (.string x.site) ∧ w'.cell? ⟨P, 1, none⟩ = some (.int .i64 x.no) ∧ w'.cell? ⟨P, 2, none⟩ = some (.int .i64 x.at_) ∧ w'.cell? ⟨P, 3, none⟩ = some (.int .i64 x.kind) ∧ w'.cell? ⟨P, 4, none⟩ = some (.string x.id) ∧ w'.cell? ⟨P, 5, none⟩ = some (.string x.fld) ∧ w'.cell? ⟨P, 6, none⟩ = some (.string x.val) ∧ w'.cell? ⟨P, 7, none⟩ = some (.int .i64 x.from_) ∧ w'.cell? ⟨P, 8, none⟩ = some (.int .i64 x.to_) ∧ w'.cell? ⟨P, 9, none⟩ = some (.string x.osite) ∧ w'.cell? ⟨P, 10, none⟩ = some (.int .i64 x.ono) ∧ w'.cell? ⟨P, 11, none⟩ = some (.string x.sum) ∧ w'.cell? ⟨Q, 0, none⟩ = some (.string p.site) ∧ w'.cell? ⟨Q, 1, none⟩ = some (.int .i64 p.no) ∧ Below wz.heap.size wz w') (by kernel_rfl) (HHELD.out _ hbx) (fun hHeld => ?_)
            refine wpAnyH_take (i := 0) (oi := ⟨some 32, _, _, _, _, _⟩) (v := ?_) rfl (by kernel_rfl) (by kernel_rfl) (by kernel_rfl) (fun _ _ _ h => h) (Or.inl ⟨by rfl, ?_⟩) hHeld ?_
            rotate_left
            · (intro w hSw; (try dsimp only at hSw); go_simp; (try (with_reducible rfl)))
            (try simp only [Act.put, List.setIfInBounds_toArray, List.set_cons_zero, List.set_cons_succ])
            refine wpAnyH_take (i := 1) (oi := ⟨some 33, _, _, _, _, _⟩) (v := ?_) rfl (by kernel_rfl) (by kernel_rfl) (by kernel_rfl) (fun _ _ _ h => h) (Or.inl ⟨by rfl, ?_⟩) hHeld ?_
            rotate_left
            · (intro w hSw; (try dsimp only at hSw); go_simp; (try (with_reducible rfl)))
            (try simp only [Act.put, List.setIfInBounds_toArray, List.set_cons_zero, List.set_cons_succ])
            refine wpAnyH_take (i := 2) (oi := ⟨some 34, _, _, _, _, _⟩) (v := ?_) rfl (by kernel_rfl) (by kernel_rfl) (by kernel_rfl) (fun _ _ _ h => h) (Or.inl ⟨by rfl, ?_⟩) hHeld ?_
            rotate_left
            · (intro w hSw; (try dsimp only at hSw); go_simp; (try (with_reducible rfl)))
            (try simp only [Act.put, List.setIfInBounds_toArray, List.set_cons_zero, List.set_cons_succ])
            refine wpAnyH_take (i := 6) (oi := ⟨some 38, _, _, _, _, _⟩) (v := ?_) rfl (by kernel_rfl) (by kernel_rfl) (by kernel_rfl) (fun _ _ _ h => h) (Or.inl ⟨by rfl, ?_⟩) hHeld ?_
            rotate_left
            · (intro w hSw; (try dsimp only at hSw); go_simp; (try (with_reducible rfl)))
            (try simp only [Act.put, List.setIfInBounds_toArray, List.set_cons_zero, List.set_cons_succ])
            refine wpAnyH_take (i := 7) (oi := ⟨some 39, _, _, _, _, _⟩) (v := .bool true) rfl (by kernel_rfl) (by kernel_rfl) (by kernel_rfl) (fun _ _ _ h => h) (Or.inl ⟨by rfl, ?_⟩) hHeld ?_
            · (intro w hSw; (try dsimp only at hSw); go_simp; (try (with_reducible rfl)))
            (try simp only [Act.put, List.setIfInBounds_toArray, List.set_cons_zero, List.set_cons_succ])
            refine wpAnyH_take (i := 17) (oi := ⟨some 49, _, _, _, _, _⟩) (v := ?_) rfl (by kernel_rfl) (by kernel_rfl) (by kernel_rfl) (fun _ _ _ h => h) (Or.inl ⟨by rfl, ?_⟩) hHeld ?_
            rotate_left
            · (intro w hSw; (try dsimp only at hSw); go_simp; (try (with_reducible rfl)))
            (try simp only [Act.put, List.setIfInBounds_toArray, List.set_cons_zero, List.set_cons_succ])
            refine wpAnyH_take (i := 18) (oi := ⟨some 50, _, _, _, _, _⟩) (v := ?_) rfl (by kernel_rfl) (by kernel_rfl) (by kernel_rfl) (fun _ _ _ h => h) (Or.inl ⟨by rfl, ?_⟩) hHeld ?_
            rotate_left
            · (intro w hSw; (try dsimp only at hSw); go_simp; (try (with_reducible rfl)))
            (try simp only [Act.put, List.setIfInBounds_toArray, List.set_cons_zero, List.set_cons_succ])
            refine wpAnyH_take (i := 19) (oi := ⟨some 51, _, _, _, _, _⟩) (v := ?_) rfl (by kernel_rfl) (by kernel_rfl) (by kernel_rfl) (fun _ _ _ h => h) (Or.inl ⟨by rfl, ?_⟩) hHeld ?_
            rotate_left
            · (intro w hSw; (try dsimp only at hSw); go_simp; (try (with_reducible rfl)))
            (try simp only [Act.put, List.setIfInBounds_toArray, List.set_cons_zero, List.set_cons_succ])
            refine wpAnyH_take (i := 20) (oi := ⟨some 52, _, _, _, _, _⟩) (v := ?_) rfl (by kernel_rfl) (by kernel_rfl) (by kernel_rfl) (fun _ _ _ h => h) (Or.inl ⟨by rfl, ?_⟩) hHeld ?_
            rotate_left
            · (intro w hSw; (try dsimp only at hSw); go_simp; (try (with_reducible rfl)))
            (try simp only [Act.put, List.setIfInBounds_toArray, List.set_cons_zero, List.set_cons_succ])
            refine wpAnyH_take (i := 21) (oi := ⟨some 53, _, _, _, _, _⟩) (v := ?_) rfl (by kernel_rfl) (by kernel_rfl) (by kernel_rfl) (fun _ _ _ h => h) (Or.inl ⟨by rfl, ?_⟩) hHeld ?_
            rotate_left
            · (intro w hSw; (try dsimp only at hSw); go_simp; (try (with_reducible rfl)))
            (try simp only [Act.put, List.setIfInBounds_toArray, List.set_cons_zero, List.set_cons_succ])
            refine wpAnyH_take (i := 22) (oi := ⟨some 54, _, _, _, _, _⟩) (v := ?_) rfl (by kernel_rfl) (by kernel_rfl) (by kernel_rfl) (fun _ _ _ h => h) (Or.inl ⟨by rfl, ?_⟩) hHeld ?_
            rotate_left
            · (intro w hSw; (try dsimp only at hSw); go_simp; (try (with_reducible rfl)))
            (try simp only [Act.put, List.setIfInBounds_toArray, List.set_cons_zero, List.set_cons_succ])
            refine wpAnyH_take (i := 30) (oi := ⟨some 62, _, _, _, _, _⟩) (v := ?_) rfl (by kernel_rfl) (by kernel_rfl) (by kernel_rfl) (fun _ _ _ h => h) (Or.inl ⟨by rfl, ?_⟩) hHeld ?_
            rotate_left
            · (intro w hSw; (try dsimp only at hSw); go_simp; (try (with_reducible rfl)))
            (try simp only [Act.put, List.setIfInBounds_toArray, List.set_cons_zero, List.set_cons_succ])
            refine wpAnyH_take (i := 31) (oi := ⟨some 63, _, _, _, _, _⟩) (v := ?_) rfl (by kernel_rfl) (by kernel_rfl) (by kernel_rfl) (fun _ _ _ h => h) (Or.inl ⟨by rfl, ?_⟩) hHeld ?_
            rotate_left
            · (intro w hSw; (try dsimp only at hSw); go_simp; (try (with_reducible rfl)))
            (try simp only [Act.put, List.setIfInBounds_toArray, List.set_cons_zero, List.set_cons_succ])
            refine wpAnyH_take (i := 35) (oi := ⟨some 67, _, _, _, _, _⟩) (v := ?_) rfl (by kernel_rfl) (by kernel_rfl) (by kernel_rfl) (fun _ _ _ h => h) (Or.inl ⟨by rfl, ?_⟩) hHeld ?_
            rotate_left
            · (intro w hSw; (try dsimp only at hSw); go_simp; (try (with_reducible rfl)))
            (try simp only [Act.put, List.setIfInBounds_toArray, List.set_cons_zero, List.set_cons_succ])
            refine wpAnyH_take (i := 37) (oi := ⟨some 69, _, _, _, _, _⟩) (v := ?_) rfl (by kernel_rfl) (by kernel_rfl) (by kernel_rfl) (fun _ _ _ h => h) (Or.inl ⟨by rfl, ?_⟩) hHeld ?_
            rotate_left
            · (intro w hSw; (try dsimp only at hSw); go_simp; (try (with_reducible rfl)))
            (try simp only [Act.put, List.setIfInBounds_toArray, List.set_cons_zero, List.set_cons_succ])
            refine wpAnyH_take (i := 38) (oi := ⟨some 70, _, _, _, _, _⟩) (v := ?_) rfl (by kernel_rfl) (by kernel_rfl) (by kernel_rfl) (fun _ _ _ h => h) (Or.inl ⟨by rfl, ?_⟩) hHeld ?_
            rotate_left
            · (intro w hSw; (try dsimp only at hSw); go_simp; (try (with_reducible rfl)))
            (try simp only [Act.put, List.setIfInBounds_toArray, List.set_cons_zero, List.set_cons_succ])
            refine wpAnyH_take (i := 39) (oi := ⟨some 71, _, _, _, _, _⟩) (v := ?_) rfl (by kernel_rfl) (by kernel_rfl) (by kernel_rfl) (fun _ _ _ h => h) (Or.inl ⟨by rfl, ?_⟩) hHeld ?_
            rotate_left
            · (intro w hSw; (try dsimp only at hSw); go_simp; (try (with_reducible rfl)))
            (try simp only [Act.put, List.setIfInBounds_toArray, List.set_cons_zero, List.set_cons_succ])
            refine wpAnyH_take (i := 40) (oi := ⟨some 72, _, _, _, _, _⟩) (v := ?_) rfl (by kernel_rfl) (by kernel_rfl) (by kernel_rfl) (fun _ _ _ h => h) (Or.inl ⟨by rfl, ?_⟩) hHeld ?_
            rotate_left
            · (intro w hSw; (try dsimp only at hSw); go_simp; (try (with_reducible rfl)))
            (try simp only [Act.put, List.setIfInBounds_toArray, List.set_cons_zero, List.set_cons_succ])
            refine wpAnyH_ready (rs := [3]) (by kernel_rfl) (by simp) ?_
            refine AllReadyH.cons (o := ⟨some 35, _, _, _, _, _⟩) rfl (fun K hK => ?_) AllReadyH.nil
            rw [if_pos (by rfl)]
            go_wp2_with fail
            refine Calls.mono (HKY.out _) ?_
            rintro e wq ⟨rfl, hwq⟩
            obtain rfl := hwq
            refine hK.out _ _ hHeld (fun hHeld => ?_)
            clear hK K
            (try simp only [Act.put, List.setIfInBounds_toArray, List.set_cons_zero, List.set_cons_succ])
            refine wpAnyH_take (i := 4) (oi := ⟨some 36, _, _, _, _, _⟩) (v := ?_) rfl (by kernel_rfl) (by kernel_rfl) (by kernel_rfl) (fun _ _ _ h => h) (Or.inl ⟨by rfl, ?_⟩) hHeld ?_
            rotate_left
            · (intro w hSw; (try dsimp only at hSw); go_simp; (try (with_reducible rfl)))
            (try simp only [Act.put, List.setIfInBounds_toArray, List.set_cons_zero, List.set_cons_succ])
            refine wpAnyH_ready (rs := [5]) (by kernel_rfl) (by simp) ?_
            refine AllReadyH.cons (o := ⟨some 37, _, _, _, _, _⟩) rfl (fun K hK => ?_) AllReadyH.nil
            rw [if_pos (by rfl)]
            go_wp2_with fail
            refine Calls.mono (when_none _ _) ?_
            rintro e wq ⟨rfl, hwq⟩
            obtain rfl := hwq.symm
            refine hK.out _ _ hHeld (fun hHeld => ?_)
            clear hK K
            (try simp only [Act.put, List.setIfInBounds_toArray, List.set_cons_zero, List.set_cons_succ])
            refine wpAnyH_take (i := 8) (oi := ⟨some 40, _, _, _, _, _⟩) (v := ?_) rfl (by kernel_rfl) (by kernel_rfl) (by kernel_rfl) (fun _ _ _ h => h) (Or.inl ⟨by rfl, ?_⟩) hHeld ?_
            rotate_left
            · (intro w hSw; (try dsimp only at hSw); go_simp; (try (with_reducible rfl)))
            (try simp only [Act.put, List.setIfInBounds_toArray, List.set_cons_zero, List.set_cons_succ])
            refine wpAnyH_take (i := 9) (oi := ⟨some 41, _, _, _, _, _⟩) (v := ?_) rfl (by kernel_rfl) (by kernel_rfl) (by kernel_rfl) (fun _ _ _ h => h) (Or.inl ⟨by rfl, ?_⟩) hHeld ?_
            rotate_left
            · (intro w hSw; (try dsimp only at hSw); go_simp; (try (with_reducible rfl)))
            (try simp only [Act.put, List.setIfInBounds_toArray, List.set_cons_zero, List.set_cons_succ])
            refine wpAnyH_take (i := 10) (oi := ⟨some 42, _, _, _, _, _⟩) (v := ?_) rfl (by kernel_rfl) (by kernel_rfl) (by kernel_rfl) (fun _ _ _ h => h) (Or.inl ⟨by rfl, ?_⟩) hHeld ?_
            rotate_left
            · (intro w hSw; (try dsimp only at hSw); go_simp; (try (with_reducible rfl)))
            (try simp only [Act.put, List.setIfInBounds_toArray, List.set_cons_zero, List.set_cons_succ])
            refine wpAnyH_take (i := 11) (oi := ⟨some 43, _, _, _, _, _⟩) (v := ?_) rfl (by kernel_rfl) (by kernel_rfl) (by kernel_rfl) (fun _ _ _ h => h) (Or.inl ⟨by rfl, ?_⟩) hHeld ?_
            rotate_left
            · (intro w hSw; (try dsimp only at hSw); go_simp; (try (with_reducible rfl)))
            (try simp only [Act.put, List.setIfInBounds_toArray, List.set_cons_zero, List.set_cons_succ])
            refine wpAnyH_take (i := 12) (oi := ⟨some 44, _, _, _, _, _⟩) (v := ?_) rfl (by kernel_rfl) (by kernel_rfl) (by kernel_rfl) (fun _ _ _ h => h) (Or.inl ⟨by rfl, ?_⟩) hHeld ?_
            rotate_left
            · (intro w hSw; (try dsimp only at hSw); go_simp; (try (with_reducible rfl)))
            (try simp only [Act.put, List.setIfInBounds_toArray, List.set_cons_zero, List.set_cons_succ])
            refine wpAnyH_ready (rs := [13]) (by kernel_rfl) (by simp) ?_
            refine AllReadyH.cons (o := ⟨some 45, _, _, _, _, _⟩) rfl (fun K hK => ?_) AllReadyH.nil
            rw [if_pos (by rfl)]
            go_wp2_with fail
            refine Calls.mono (HBS.out _ hbx) ?_
            rintro e wx ⟨rfl, hbx⟩
            refine hK.out _ _ (HHELD.out _ hbx) (fun hHeld => ?_)
            clear hK K
            (try simp only [Act.put, List.setIfInBounds_toArray, List.set_cons_zero, List.set_cons_succ])
            refine wpAnyH_take (i := 14) (oi := ⟨some 46, _, _, _, _, _⟩) (v := .bool false) rfl (by kernel_rfl) (by kernel_rfl) (by kernel_rfl) (fun _ _ _ h => h) (Or.inl ⟨by rfl, ?_⟩) hHeld ?_
            · (intro w hSw; (try dsimp only at hSw); go_simp; (try (with_reducible rfl)))
            (try simp only [Act.put, List.setIfInBounds_toArray, List.set_cons_zero, List.set_cons_succ])
            refine wpAnyH_take (i := 15) (oi := ⟨some 47, _, _, _, _, _⟩) (v := ?_) rfl (by kernel_rfl) (by kernel_rfl) (by kernel_rfl) (fun _ _ _ h => h) (Or.inl ⟨by rfl, ?_⟩) hHeld ?_
            rotate_left
            · (intro w hSw; (try dsimp only at hSw); go_simp; (try (with_reducible rfl)))
            (try simp only [Act.put, List.setIfInBounds_toArray, List.set_cons_zero, List.set_cons_succ])
            refine wpAnyH_ready (rs := [16]) (by kernel_rfl) (by simp) ?_
            refine AllReadyH.cons (o := ⟨some 48, _, _, _, _, _⟩) rfl (fun K hK => ?_) AllReadyH.nil
            rw [if_pos (by rfl)]
            go_wp2_with fail
            refine Calls.mono (when_none _ _) ?_
            rintro e wq ⟨rfl, hwq⟩
            obtain rfl := hwq.symm
            refine hK.out _ _ hHeld (fun hHeld => ?_)
            clear hK K
            (try simp only [Act.put, List.setIfInBounds_toArray, List.set_cons_zero, List.set_cons_succ])
            refine wpAnyH_take (i := 23) (oi := ⟨some 55, _, _, _, _, _⟩) (v := ?_) rfl (by kernel_rfl) (by kernel_rfl) (by kernel_rfl) (fun _ _ _ h => h) (Or.inl ⟨by rfl, ?_⟩) hHeld ?_
            rotate_left
            · (intro w hSw; (try dsimp only at hSw); go_simp; (try (with_reducible rfl)))
            (try simp only [Act.put, List.setIfInBounds_toArray, List.set_cons_zero, List.set_cons_succ])
            refine wpAnyH_take (i := 24) (oi := ⟨some 56, _, _, _, _, _⟩) (v := ?_) rfl (by kernel_rfl) (by kernel_rfl) (by kernel_rfl) (fun _ _ _ h => h) (Or.inl ⟨by rfl, ?_⟩) hHeld ?_
            rotate_left
            · (intro w hSw; (try dsimp only at hSw); go_simp; (try (with_reducible rfl)))
            (try simp only [Act.put, List.setIfInBounds_toArray, List.set_cons_zero, List.set_cons_succ])
            refine wpAnyH_take (i := 25) (oi := ⟨some 57, _, _, _, _, _⟩) (v := ?_) rfl (by kernel_rfl) (by kernel_rfl) (by kernel_rfl) (fun _ _ _ h => h) (Or.inl ⟨by rfl, ?_⟩) hHeld ?_
            rotate_left
            · (intro w hSw; (try dsimp only at hSw); go_simp; (try (with_reducible rfl)))
            (try simp only [Act.put, List.setIfInBounds_toArray, List.set_cons_zero, List.set_cons_succ])
            refine wpAnyH_ready (rs := [26]) (by kernel_rfl) (by simp) ?_
            refine AllReadyH.cons (o := ⟨some 58, _, _, _, _, _⟩) rfl (fun K hK => ?_) AllReadyH.nil
            rw [if_pos (by rfl)]
            go_wp2_with fail
            refine Calls.mono (HMO.out _) ?_
            rintro e wq ⟨rfl, hwq⟩
            obtain rfl := hwq.symm
            refine hK.out _ _ hHeld (fun hHeld => ?_)
            clear hK K
            (try simp only [Act.put, List.setIfInBounds_toArray, List.set_cons_zero, List.set_cons_succ])
            refine wpAnyH_take (i := 27) (oi := ⟨some 59, _, _, _, _, _⟩) (v := ?_) rfl (by kernel_rfl) (by kernel_rfl) (by kernel_rfl) (fun _ _ _ h => h) (Or.inl ⟨by rfl, ?_⟩) hHeld ?_
            rotate_left
            · (intro w hSw; (try dsimp only at hSw); go_simp; (try (with_reducible rfl)))
            (try simp only [Act.put, List.setIfInBounds_toArray, List.set_cons_zero, List.set_cons_succ])
            refine wpAnyH_take (i := 28) (oi := ⟨some 60, _, _, _, _, _⟩) (v := ?_) rfl (by kernel_rfl) (by kernel_rfl) (by kernel_rfl) (fun _ _ _ h => h) (Or.inl ⟨by rfl, ?_⟩) hHeld ?_
            rotate_left
            · (intro w hSw; (try dsimp only at hSw); go_simp; (try (with_reducible rfl)))
            (try simp only [Act.put, List.setIfInBounds_toArray, List.set_cons_zero, List.set_cons_succ])
            refine wpAnyH_ready (rs := [29]) (by kernel_rfl) (by simp) ?_
            refine AllReadyH.cons (o := ⟨some 61, _, _, _, _, _⟩) rfl (fun K hK => ?_) AllReadyH.nil
            rw [if_pos (by rfl)]
            go_wp2_with fail
            refine Calls.mono (when_none _ _) ?_
            rintro e wq ⟨rfl, hwq⟩
            obtain rfl := hwq.symm
            refine hK.out _ _ hHeld (fun hHeld => ?_)
            clear hK K
            (try simp only [Act.put, List.setIfInBounds_toArray, List.set_cons_zero, List.set_cons_succ])
            refine wpAnyH_ready (rs := [32]) (by kernel_rfl) (by simp) ?_
            refine AllReadyH.cons (o := ⟨some 64, _, _, _, _, _⟩) rfl (fun K hK => ?_) AllReadyH.nil
            rw [if_pos (by rfl)]
            go_wp2_with fail
            refine Calls.mono (HIN.out _) ?_
            rintro e wq ⟨rfl, hwq⟩
            obtain rfl := hwq.symm
            refine hK.out _ _ hHeld (fun hHeld => ?_)
            clear hK K
            (try simp only [Act.put, List.setIfInBounds_toArray, List.set_cons_zero, List.set_cons_succ])
            refine wpAnyH_take (i := 33) (oi := ⟨some 65, _, _, _, _, _⟩) (v := ?_) rfl (by kernel_rfl) (by kernel_rfl) (by kernel_rfl) (fun _ _ _ h => h) (Or.inl ⟨by rfl, ?_⟩) hHeld ?_
            rotate_left
            · (intro w hSw; (try dsimp only at hSw); go_simp; (try (with_reducible rfl)))
            (try simp only [Act.put, List.setIfInBounds_toArray, List.set_cons_zero, List.set_cons_succ])
            refine wpAnyH_ready (rs := [34]) (by kernel_rfl) (by simp) ?_
            refine AllReadyH.cons (o := ⟨some 66, _, _, _, _, _⟩) rfl (fun K hK => ?_) AllReadyH.nil
            rw [if_pos (by rfl)]
            go_wp2_with fail
            refine Calls.mono (when_none _ _) ?_
            rintro e wq ⟨rfl, hwq⟩
            obtain rfl := hwq.symm
            refine hK.out _ _ hHeld (fun hHeld => ?_)
            clear hK K
            (try simp only [Act.put, List.setIfInBounds_toArray, List.set_cons_zero, List.set_cons_succ])
            refine wpAnyH_ready (rs := [36]) (by kernel_rfl) (by simp) ?_
            refine AllReadyH.cons (o := ⟨some 68, _, _, _, _, _⟩) rfl (fun K hK => ?_) AllReadyH.nil
            rw [if_pos (by rfl)]
            go_wp2_with fail
            refine Calls.mono (HFE.out _ hbx) ?_
            rintro e wx ⟨rfl, hbx⟩
            refine hK.out _ _ (HHELD.out _ hbx) (fun hHeld => ?_)
            clear hK K
            (try simp only [Act.put, List.setIfInBounds_toArray, List.set_cons_zero, List.set_cons_succ])
            refine wpAnyH_ready (rs := [41]) (by kernel_rfl) (by simp) ?_
            refine AllReadyH.cons (o := ⟨some 73, _, _, _, _, _⟩) rfl (fun K hK => ?_) AllReadyH.nil
            rw [if_pos (by rfl)]
            go_wp2_with fail
            refine Calls.mono (HSU.out _ hbx) ?_
            rintro e wx ⟨rfl, hbx⟩
            refine hK.out _ _ (HHELD.out _ hbx) (fun hHeld => ?_)
            clear hK K
            (try simp only [Act.put, List.setIfInBounds_toArray, List.set_cons_zero, List.set_cons_succ])
            refine wpAnyH_take (i := 42) (oi := ⟨some 74, _, _, _, _, _⟩) (v := ?_) rfl (by kernel_rfl) (by kernel_rfl) (by kernel_rfl) (fun _ _ _ h => h) (Or.inl ⟨by rfl, ?_⟩) hHeld ?_
            rotate_left
            · (intro w hSw; (try dsimp only at hSw); go_simp; (try (with_reducible rfl)))
            (try simp only [Act.put, List.setIfInBounds_toArray, List.set_cons_zero, List.set_cons_succ])
            refine wpAnyH_ready (rs := [43]) (by kernel_rfl) (by simp) ?_
            refine AllReadyH.cons (o := ⟨some 75, _, _, _, _, _⟩) rfl (fun K hK => ?_) AllReadyH.nil
            rw [if_pos (by rfl)]
            go_wp2_with fail
            refine Calls.mono (when_none _ _) ?_
            rintro e wq ⟨rfl, hwq⟩
            obtain rfl := hwq.symm
            refine hK.out _ _ hHeld (fun hHeld => ?_)
            clear hK K
            (try simp only [Act.put, List.setIfInBounds_toArray, List.set_cons_zero, List.set_cons_succ])
            refine wpAnyH_ready (rs := [44]) (by kernel_rfl) (by simp) ?_
            refine AllReadyH.cons (o := ⟨some 76, _, _, _, _, _⟩) rfl (fun K hK => ?_) AllReadyH.nil
            rw [if_pos (by rfl)]
            go_simp
            have hbx := hbx.alloc hbx.size (.cells #[.int .i64 0, .int .i64 0, .int .i64 0, .int .i64 0, .int .i64 0, .int .i64 0] 29)
            refine hK.out _ _ (HHELD.out _ hbx) (fun hHeld => ?_)
            clear hK K
            (try simp only [Act.put, List.setIfInBounds_toArray, List.set_cons_zero, List.set_cons_succ])
            refine wpAnyH_ready (rs := [45]) (by kernel_rfl) (by simp) ?_
            refine AllReadyH.cons (o := ⟨some 77, _, _, _, _, _⟩) rfl (fun K hK => ?_) AllReadyH.nil
            rw [if_pos (by rfl)]
            go_wp2_with fail
            refine Calls.mono (first_6z _ _ rfl _) ?_
            rintro e wq ⟨rfl, hwq⟩
            obtain rfl := hwq.symm
            refine hK.out _ _ hHeld (fun hHeld => ?_)
            clear hK K
            (try simp only [Act.put, List.setIfInBounds_toArray, List.set_cons_zero, List.set_cons_succ])
            refine wpAnyH_take (i := 46) (oi := ⟨some 9, _, _, _, _, _⟩) (v := ?_) rfl (by kernel_rfl) (by kernel_rfl) (by kernel_rfl) (fun _ _ _ h => h) (Or.inl ⟨by rfl, ?_⟩) hHeld ?_
            rotate_left
            · (intro w hSw; (try dsimp only at hSw); go_simp; (try (with_reducible rfl)))
            (try simp only [Act.put, List.setIfInBounds_toArray, List.set_cons_zero, List.set_cons_succ])
            refine wpAnyH_done (by kernel_rfl) ?_ _
            go_wp2_with fail
            go_meet
            exact ⟨rfl, hbx⟩
        case rest =>
          obtain ⟨rfl, HB2⟩ := hcut
          have HX2 := Lib.hid (HX1.out.keep HB2.out)
          have HQ2 := Lib.hid (HQ1.out.keep HB2.out)
          have HB3 := Lib.hid (HW0.out wc HB2.out)
          have hne : Q ≠ P := by have := HQL.out; omega
          clear a0 a1 a2 a3 a4 a5 a6 a7 a8 a9 a10 a11 b0 b1 HKY HBS HMO HIN HFE HSU HCP HHELD HX1 HQ1 HB1 HB2 HW0
          obtain ⟨a0, a1, a2, a3, a4, a5, a6, a7, a8, a9, a10, a11⟩ := HX2.out.c
          obtain ⟨z0, z1, z2, z3, z4, z5, z6, z7, z8, z9, z10, z11⟩ := HQ2.out.f
          obtain ⟨b0, b1, b2, b3, b4, b5, b6, b7, b8, b9, b10, b11⟩ := HQ2.out.c
          go_upto_region 13 with (fail)
          have HS0 : Hid (wc.drew.cell? ⟨P, 0, none⟩ = some (.string x.site) ∧ wc.drew.cell? ⟨P, 1, none⟩ = some (.int .i64 x.no) ∧ wc.drew.cell? ⟨P, 2, none⟩ = some (.int .i64 x.at_) ∧ wc.drew.cell? ⟨P, 3, none⟩ = some (.int .i64 x.kind) ∧ wc.drew.cell? ⟨P, 4, none⟩ = some (.string x.id) ∧ wc.drew.cell? ⟨P, 5, none⟩ = some (.string x.fld) ∧ wc.drew.cell? ⟨P, 6, none⟩ = some (.string x.val) ∧ wc.drew.cell? ⟨P, 7, none⟩ = some (.int .i64 x.from_) ∧ wc.drew.cell? ⟨P, 8, none⟩ = some (.int .i64 x.to_) ∧ wc.drew.cell? ⟨P, 9, none⟩ = some (.string x.osite) ∧ wc.drew.cell? ⟨P, 10, none⟩ = some (.int .i64 x.ono) ∧ wc.drew.cell? ⟨P, 11, none⟩ = some (.string x.sum)) := ⟨a0, a1, a2, a3, a4, a5, a6, a7, a8, a9, a10, a11⟩
          have HS1 : Hid ((((((((((((((wc.setCell ⟨Q, 0, none⟩ (.string x.site)).setCell ⟨Q, 1, none⟩ (.int .i64 x.no)).setCell ⟨Q, 2, none⟩ (.int .i64 x.at_)).setCell ⟨Q, 3, none⟩ (.int .i64 x.kind)).setCell ⟨Q, 4, none⟩ (.string x.id)).setCell ⟨Q, 5, none⟩ (.string x.fld)).setCell ⟨Q, 6, none⟩ (.string x.val)).setCell ⟨Q, 7, none⟩ (.int .i64 x.from_)).setCell ⟨Q, 8, none⟩ (.int .i64 x.to_)).setCell ⟨Q, 9, none⟩ (.string x.osite)).setCell ⟨Q, 10, none⟩ (.int .i64 x.ono)).setCell ⟨Q, 11, none⟩ (.string x.sum))).drew.cell? ⟨P, 0, none⟩ = some (.string x.site) ∧ (((((((((((((wc.setCell ⟨Q, 0, none⟩ (.string x.site)).setCell ⟨Q, 1, none⟩ (.int .i64 x.no)).setCell ⟨Q, 2, none⟩ (.int .i64 x.at_)).setCell ⟨Q, 3, none⟩ (.int .i64 x.kind)).setCell ⟨Q, 4, none⟩ (.string x.id)).setCell ⟨Q, 5, none⟩ (.string x.fld)).setCell ⟨Q, 6, none⟩ (.string x.val)).setCell ⟨Q, 7, none⟩ (.int .i64 x.from_)).setCell ⟨Q, 8, none⟩ (.int .i64 x.to_)).setCell ⟨Q, 9, none⟩ (.string x.osite)).setCell ⟨Q, 10, none⟩ (.int .i64 x.ono)).setCell ⟨Q, 11, none⟩ (.string x.sum))).drew.cell? ⟨P, 1, none⟩ = some (.int .i64 x.no) ∧ (((((((((((((wc.setCell ⟨Q, 0, none⟩ (.string x.site)).setCell ⟨Q, 1, none⟩ (.int .i64 x.no)).setCell ⟨Q, 2, none⟩ (.int .i64 x.at_)).setCell ⟨Q, 3, none⟩ (.int .i64 x.kind)).setCell ⟨Q, 4, none⟩ (.string x.id)).setCell ⟨Q, 5, none⟩ (.string x.fld)).setCell ⟨Q, 6, none⟩ (.string x.val)).setCell ⟨Q, 7, none⟩ (.int .i64 x.from_)).setCell ⟨Q, 8, none⟩ (.int .i64 x.to_)).setCell ⟨Q, 9, none⟩ (.string x.osite)).setCell ⟨Q, 10, none⟩ (.int .i64 x.ono)).setCell ⟨Q, 11, none⟩ (.string x.sum))).drew.cell? ⟨P, 2, none⟩ = some (.int .i64 x.at_) ∧ (((((((((((((wc.setCell ⟨Q, 0, none⟩ (.string x.site)).setCell ⟨Q, 1, none⟩ (.int .i64 x.no)).setCell ⟨Q, 2, none⟩ (.int .i64 x.at_)).setCell ⟨Q, 3, none⟩ (.int .i64 x.kind)).setCell ⟨Q, 4, none⟩ (.string x.id)).setCell ⟨Q, 5, none⟩ (.string x.fld)).setCell ⟨Q, 6, none⟩ (.string x.val)).setCell ⟨Q, 7, none⟩ (.int .i64 x.from_)).setCell ⟨Q, 8, none⟩ (.int .i64 x.to_)).setCell ⟨Q, 9, none⟩ (.string x.osite)).setCell ⟨Q, 10, none⟩ (.int .i64 x.ono)).setCell ⟨Q, 11, none⟩ (.string x.sum))).drew.cell? ⟨P, 3, none⟩ = some (.int .i64 x.kind) ∧ (((((((((((((wc.setCell ⟨Q, 0, none⟩ (.string x.site)).setCell ⟨Q, 1, none⟩ (.int .i64 x.no)).setCell ⟨Q, 2, none⟩ (.int .i64 x.at_)).setCell ⟨Q, 3, none⟩ (.int .i64 x.kind)).setCell ⟨Q, 4, none⟩ (.string x.id)).setCell ⟨Q, 5, none⟩ (.string x.fld)).setCell ⟨Q, 6, none⟩ (.string x.val)).setCell ⟨Q, 7, none⟩ (.int .i64 x.from_)).setCell ⟨Q, 8, none⟩ (.int .i64 x.to_)).setCell ⟨Q, 9, none⟩ (.string x.osite)).setCell ⟨Q, 10, none⟩ (.int .i64 x.ono)).setCell ⟨Q, 11, none⟩ (.string x.sum))).drew.cell? ⟨P, 4, none⟩ = some (.string x.id) ∧ (((((((((((((wc.setCell ⟨Q, 0, none⟩ (.string x.site)).setCell ⟨Q, 1, none⟩ (.int .i64 x.no)).setCell ⟨Q, 2, none⟩ (.int .i64 x.at_)).setCell ⟨Q, 3, none⟩ (.int .i64 x.kind)).setCell ⟨Q, 4, none⟩ (.string x.id)).setCell ⟨Q, 5, none⟩ (.string x.fld)).setCell ⟨Q, 6, none⟩ (.string x.val)).setCell ⟨Q, 7, none⟩ (.int .i64 x.from_)).setCell ⟨Q, 8, none⟩ (.int .i64 x.to_)).setCell ⟨Q, 9, none⟩ (.string x.osite)).setCell ⟨Q, 10, none⟩ (.int .i64 x.ono)).setCell ⟨Q, 11, none⟩ (.string x.sum))).drew.cell? ⟨P, 5, none⟩ = some (.string x.fld) ∧ (((((((((((((wc.setCell ⟨Q, 0, none⟩ (.string x.site)).setCell ⟨Q, 1, none⟩ (.int .i64 x.no)).setCell ⟨Q, 2, none⟩ (.int .i64 x.at_)).setCell ⟨Q, 3, none⟩ (.int .i64 x.kind)).setCell ⟨Q, 4, none⟩ (.string x.id)).setCell ⟨Q, 5, none⟩ (.string x.fld)).setCell ⟨Q, 6, none⟩ (.string x.val)).setCell ⟨Q, 7, none⟩ (.int .i64 x.from_)).setCell ⟨Q, 8, none⟩ (.int .i64 x.to_)).setCell ⟨Q, 9, none⟩ (.string x.osite)).setCell ⟨Q, 10, none⟩ (.int .i64 x.ono)).setCell ⟨Q, 11, none⟩ (.string x.sum))).drew.cell? ⟨P, 6, none⟩ = some (.string x.val) ∧ (((((((((((((wc.setCell ⟨Q, 0, none⟩ (.string x.site)).setCell ⟨Q, 1, none⟩ (.int .i64 x.no)).setCell ⟨Q, 2, none⟩ (.int .i64 x.at_)).setCell ⟨Q, 3, none⟩ (.int .i64 x.kind)).setCell ⟨Q, 4, none⟩ (.string x.id)).setCell ⟨Q, 5, none⟩ (.string x.fld)).setCell ⟨Q, 6, none⟩ (.string x.val)).setCell ⟨Q, 7, none⟩ (.int .i64 x.from_)).setCell ⟨Q, 8, none⟩ (.int .i64 x.to_)).setCell ⟨Q, 9, none⟩ (.string x.osite)).setCell ⟨Q, 10, none⟩ (.int .i64 x.ono)).setCell ⟨Q, 11, none⟩ (.string x.sum))).drew.cell? ⟨P, 7, none⟩ = some (.int .i64 x.from_) ∧ (((((((((((((wc.setCell ⟨Q, 0, none⟩ (.string x.site)).setCell ⟨Q, 1, none⟩ (.int .i64 x.no)).setCell ⟨Q, 2, none⟩ (.int .i64 x.at_)).setCell ⟨Q, 3, none⟩ (.int .i64 x.kind)).setCell ⟨Q, 4, none⟩ (.string x.id)).setCell ⟨Q, 5, none⟩ (.string x.fld)).setCell ⟨Q, 6, none⟩ (.string x.val)).setCell ⟨Q, 7, none⟩ (.int .i64 x.from_)).setCell ⟨Q, 8, none⟩ (.int .i64 x.to_)).setCell ⟨Q, 9, none⟩ (.string x.osite)).setCell ⟨Q, 10, none⟩ (.int .i64 x.ono)).setCell ⟨Q, 11, none⟩ (.string x.sum))).drew.cell? ⟨P, 8, none⟩ = some (.int .i64 x.to_) ∧ (((((((((((((wc.setCell ⟨Q, 0, none⟩ (.string x.site)).setCell ⟨Q, 1, none⟩ (.int .i64 x.no)).setCell ⟨Q, 2, none⟩ (.int .i64 x.at_)).setCell ⟨Q, 3, none⟩ (.int .i64 x.kind)).setCell ⟨Q, 4, none⟩ (.string x.id)).setCell ⟨Q, 5, none⟩ (.string x.fld)).setCell ⟨Q, 6, none⟩ (.string x.val)).setCell ⟨Q, 7, none⟩ (.int .i64 x.from_)).setCell ⟨Q, 8, none⟩ (.int .i64 x.to_)).setCell ⟨Q, 9, none⟩ (.string x.osite)).setCell ⟨Q, 10, none⟩ (.int .i64 x.ono)).setCell ⟨Q, 11, none⟩ (.string x.sum))).drew.cell? ⟨P, 9, none⟩ = some (.string x.osite) ∧ (((((((((((((wc.setCell ⟨Q, 0, none⟩ (.string x.site)).setCell ⟨Q, 1, none⟩ (.int .i64 x.no)).setCell ⟨Q, 2, none⟩ (.int .i64 x.at_)).setCell ⟨Q, 3, none⟩ (.int .i64 x.kind)).setCell ⟨Q, 4, none⟩ (.string x.id)).setCell ⟨Q, 5, none⟩ (.string x.fld)).setCell ⟨Q, 6, none⟩ (.string x.val)).setCell ⟨Q, 7, none⟩ (.int .i64 x.from_)).setCell ⟨Q, 8, none⟩ (.int .i64 x.to_)).setCell ⟨Q, 9, none⟩ (.string x.osite)).setCell ⟨Q, 10, none⟩ (.int .i64 x.ono)).setCell ⟨Q, 11, none⟩ (.string x.sum))).drew.cell? ⟨P, 10, none⟩ = some (.int .i64 x.ono) ∧ (((((((((((((wc.setCell ⟨Q, 0, none⟩ (.string x.site)).setCell ⟨Q, 1, none⟩ (.int .i64 x.no)).setCell ⟨Q, 2, none⟩ (.int .i64 x.at_)).setCell ⟨Q, 3, none⟩ (.int .i64 x.kind)).setCell ⟨Q, 4, none⟩ (.string x.id)).setCell ⟨Q, 5, none⟩ (.string x.fld)).setCell ⟨Q, 6, none⟩ (.string x.val)).setCell ⟨Q, 7, none⟩ (.int .i64 x.from_)).setCell ⟨Q, 8, none⟩ (.int .i64 x.to_)).setCell ⟨Q, 9, none⟩ (.string x.osite)).setCell ⟨Q, 10, none⟩ (.int .i64 x.ono)).setCell ⟨Q, 11, none⟩ (.string x.sum))).drew.cell? ⟨P, 11, none⟩ = some (.string x.sum)) := ((HX2.out.other hne x).drewD).c
          have HQ5 : Hid (∀ wx : World, DeedAt wx Q p → DeedAt ((((((((((((wx.setCell ⟨Q, 0, none⟩ (.string x.site)).setCell ⟨Q, 1, none⟩ (.int .i64 x.no)).setCell ⟨Q, 2, none⟩ (.int .i64 x.at_)).setCell ⟨Q, 3, none⟩ (.int .i64 x.kind)).setCell ⟨Q, 4, none⟩ (.string x.id)).setCell ⟨Q, 5, none⟩ (.string x.fld)).setCell ⟨Q, 6, none⟩ (.string x.val)).setCell ⟨Q, 7, none⟩ (.int .i64 x.from_)).setCell ⟨Q, 8, none⟩ (.int .i64 x.to_)).setCell ⟨Q, 9, none⟩ (.string x.osite)).setCell ⟨Q, 10, none⟩ (.int .i64 x.ono)).setCell ⟨Q, 11, none⟩ (.string x.sum)) Q (prevD l (k + 1)) ∧ DeedAt (((((((((((((wx.setCell ⟨Q, 0, none⟩ (.string x.site)).setCell ⟨Q, 1, none⟩ (.int .i64 x.no)).setCell ⟨Q, 2, none⟩ (.int .i64 x.at_)).setCell ⟨Q, 3, none⟩ (.int .i64 x.kind)).setCell ⟨Q, 4, none⟩ (.string x.id)).setCell ⟨Q, 5, none⟩ (.string x.fld)).setCell ⟨Q, 6, none⟩ (.string x.val)).setCell ⟨Q, 7, none⟩ (.int .i64 x.from_)).setCell ⟨Q, 8, none⟩ (.int .i64 x.to_)).setCell ⟨Q, 9, none⟩ (.string x.osite)).setCell ⟨Q, 10, none⟩ (.int .i64 x.ono)).setCell ⟨Q, 11, none⟩ (.string x.sum))).drew Q (prevD l (k + 1))) := fun wx hx => by
            rw [HPV.out]
            exact ⟨hx.setAll x, (hx.setAll x).drewD⟩
          have HB5 : Hid (∀ wx : World, Below w.heap.size w wx → Below w.heap.size w ((((((((((((wx.setCell ⟨Q, 0, none⟩ (.string x.site)).setCell ⟨Q, 1, none⟩ (.int .i64 x.no)).setCell ⟨Q, 2, none⟩ (.int .i64 x.at_)).setCell ⟨Q, 3, none⟩ (.int .i64 x.kind)).setCell ⟨Q, 4, none⟩ (.string x.id)).setCell ⟨Q, 5, none⟩ (.string x.fld)).setCell ⟨Q, 6, none⟩ (.string x.val)).setCell ⟨Q, 7, none⟩ (.int .i64 x.from_)).setCell ⟨Q, 8, none⟩ (.int .i64 x.to_)).setCell ⟨Q, 9, none⟩ (.string x.osite)).setCell ⟨Q, 10, none⟩ (.int .i64 x.ono)).setCell ⟨Q, 11, none⟩ (.string x.sum)) ∧ Below w.heap.size w (((((((((((((wx.setCell ⟨Q, 0, none⟩ (.string x.site)).setCell ⟨Q, 1, none⟩ (.int .i64 x.no)).setCell ⟨Q, 2, none⟩ (.int .i64 x.at_)).setCell ⟨Q, 3, none⟩ (.int .i64 x.kind)).setCell ⟨Q, 4, none⟩ (.string x.id)).setCell ⟨Q, 5, none⟩ (.string x.fld)).setCell ⟨Q, 6, none⟩ (.string x.val)).setCell ⟨Q, 7, none⟩ (.int .i64 x.from_)).setCell ⟨Q, 8, none⟩ (.int .i64 x.to_)).setCell ⟨Q, 9, none⟩ (.string x.osite)).setCell ⟨Q, 10, none⟩ (.int .i64 x.ono)).setCell ⟨Q, 11, none⟩ (.string x.sum))).drew) := fun wx hx => ⟨below_set12 hx HQE.out x, (below_set12 hx HQE.out x).drew⟩
          have HQ2d := Lib.hid HQ2.out.drewD
          have HB3d := Lib.hid HB3.out.drew
          have HR5 : Hid (x.no = (prevD l (k + 1)).no ∧ x.sum = (prevD l (k + 1)).sum) := by
            show _ ∧ _
            rw [HPV.out]; exact ⟨rfl, rfl⟩
          go_region_held3 (fun w' => w'.cell? ⟨P, 0, none⟩ = some (.string x.site) ∧ w'.cell? ⟨P, 1, none⟩ = some (.int .i64 x.no) ∧ w'.cell? ⟨P, 2, none⟩ = some (.int .i64 x.at_) ∧ w'.cell? ⟨P, 3, none⟩ = some (.int .i64 x.kind) ∧ w'.cell? ⟨P, 4, none⟩ = some (.string x.id) ∧ w'.cell? ⟨P, 5, none⟩ = some (.string x.fld) ∧ w'.cell? ⟨P, 6, none⟩ = some (.string x.val) ∧ w'.cell? ⟨P, 7, none⟩ = some (.int .i64 x.from_) ∧ w'.cell? ⟨P, 8, none⟩ = some (.int .i64 x.to_) ∧ w'.cell? ⟨P, 9, none⟩ = some (.string x.osite) ∧ w'.cell? ⟨P, 10, none⟩ = some (.int .i64 x.ono) ∧ w'.cell? ⟨P, 11, none⟩ = some (.string x.sum))
            (first | (with_reducible assumption) | (with_reducible exact HS0.out) | (with_reducible exact HS1.out))
            (fail)
          all_goals
            go_wp2_with fail
            go_roundg (gk - 1)
            case measure => exact Nat.sub_lt HGK.out.2 Nat.one_pos
            case rel => exact ⟨k + 1, HGK.out.1, by go_num, by rw [← HR5.out.1], by rw [← HR5.out.2], (by first | (with_reducible exact Lib.hid (HQ5.out _ HQ2.out).1) | (with_reducible exact Lib.hid (HQ5.out _ HQ2.out).2) | (with_reducible exact Lib.hid (HQ5.out _ HQ2d.out).1)), (by first | (with_reducible exact Lib.hid (HB5.out _ HB3.out).1) | (with_reducible exact Lib.hid (HB5.out _ HB3.out).2) | (with_reducible exact Lib.hid (HB5.out _ HB3d.out).1))⟩
    · have hnk : ¬ (k : Int) < (n : Int) := by omega
      have HBY := Lib.hid (byStamps_any A n c l wr (ElemsAt.keep HAT.out HB.out) HL.out)
      clear HK HQ
      go_wp2_with fail
      refine HBY.out.mono ?_
      rintro e w2 ⟨M, rfl, hm2, hb2⟩
      have HM2 := Lib.hid hm2
      have HB2 := Lib.hid (HB.out.trans (hb2.mono HB.out.size))
      clear hm2 hb2 HBY HB
      obtain ⟨k0, hk0⟩ : ∃ x, x = k := ⟨k, rfl⟩
      clear hk0 hnk
      go_wp2_with fail
      go_loopg [93] n (fun gk v wr => ∃ k : Nat, Hid (k + gk = n) ∧ v = .int .i64 (k : Int) ∧ Hid (DMapAt wr M l) ∧ Hid (Below w.heap.size w wr))
      case atStart => exact ⟨0, show 0 + n = n by omega, rfl, HM2.out, HB2.out⟩
      case round =>
        obtain ⟨k, HK, rfl, HM, HB⟩ := hrel
        have hkn : k ≤ n := by have := HK.out; omega
        by_cases hlt : k < n
        · have HGK := Lib.hid (show k + 1 + (gk - 1) = n ∧ 0 < gk by have := HK.out; omega)
          obtain ⟨g, off, rfl, hg, hc⟩ := (ElemsAt.keep HAT.out HB.out).deed (by omega)
          have hkl : k < l.length := by have := HN.out; omega
          obtain ⟨x, hx⟩ : ∃ x, l[k]? = some x := ⟨_, List.getElem?_eq_getElem hkl⟩
          obtain ⟨c0, c1, c2, c3, c4, c5, c6, c7, c8, c9, c10, c11⟩ := hc k x hx
          have HXM := Lib.hid (List.mem_of_getElem? hx)
          have hal : Below wr.heap.size wr (wr.alloc (.cells #[.string x.site, .int .i64 x.no, .int .i64 x.at_, .int .i64 x.kind, .string x.id, .string x.fld, .string x.val, .int .i64 x.from_, .int .i64 x.to_, .string x.osite, .int .i64 x.ono, .string x.sum] 40)) := (Below.refl _ _).alloc (Nat.le_refl _) _
          have HX1 : Hid (DeedAt (wr.alloc (.cells #[.string x.site, .int .i64 x.no, .int .i64 x.at_, .int .i64 x.kind, .string x.id, .string x.fld, .string x.val, .int .i64 x.from_, .int .i64 x.to_, .string x.osite, .int .i64 x.ono, .string x.sum] 40)) wr.heap.size x) := deed_new wr x
          have HB1 := Lib.hid (HB.out.trans (hal.mono HB.out.size))
          have HM1 := Lib.hid (HM.out.below hal)
          clear hc hx hg HK hal HB HM
          go_upto_region 19 with (fail)
          obtain ⟨P, hP⟩ : ∃ P, P = wr.heap.size := ⟨_, rfl⟩
          rw [← hP] at HX1 ⊢
          generalize wr.alloc (.cells #[.string x.site, .int .i64 x.no, .int .i64 x.at_, .int .i64 x.kind, .string x.id, .string x.fld, .string x.val, .int .i64 x.from_, .int .i64 x.to_, .string x.osite, .int .i64 x.ono, .string x.sum] 40) = w3 at *
          clear hP c0 c1 c2 c3 c4 c5 c6 c7 c8 c9 c10 c11
          obtain ⟨a0, a1, a2, a3, a4, a5, a6, a7, a8, a9, a10, a11⟩ := HX1.out.c
          have HOE : Hid (Calls Tryz.prog 48 #[.map (some M), .agg #[.string x.site, .int .i64 x.no, .int .i64 x.at_, .int .i64 x.kind, .string x.id, .string x.fld, .string x.val, .int .i64 x.from_, .int .i64 x.to_, .string x.osite, .int .i64 x.ono, .string x.sum]] w3 fun e w' => e = .returned (.int .i64 0) ∧ Below w3.heap.size w3 w') := ofError_ok M l x w3 HM1.out HL.out HXM.out
          go_wp2_with fail
          refine HOE.out.mono ?_
          rintro e w4 ⟨rfl, hb4⟩
          have HM4 := Lib.hid (HM1.out.below hb4)
          have HB4 := Lib.hid (HB1.out.trans (hb4.mono HB1.out.size))
          clear hb4 HOE HM1 HB1 HX1 a0 a1 a2 a3 a4 a5 a6 a7 a8 a9 a10 a11
          go_wp2_with fail
          go_roundg (gk - 1)
          case measure => exact Nat.sub_lt HGK.out.2 Nat.one_pos
          case rel => exact ⟨k + 1, HGK.out.1, by go_num, HM4.out, HB4.out⟩
        · have hnk : ¬ (k : Int) < (n : Int) := by omega
          go_wp2_with fail
          go_ret2
          exact ⟨rfl, HB.out⟩
set_option maxHeartbeats 400000 in
theorem listError_ok (A : Option Addr) (n c : Nat) (w : World) (h : CheckOk w A n c) : Calls Tryz.prog 38 #[.slice A n c] w fun e w' => e = .returned (.int .i64 0) ∧ Below w.heap.size w w' := by
  unfold CheckOk at h
  go_enter Tryz.func38, Tryz.ntmps38
  go_wp2_with fail
  refine h.mono ?_
  rintro e w1 ⟨rfl, hb⟩
  go_wp2_with fail
  go_ret
  exact ⟨rfl, hb⟩
end Go.Proofs.YthogkcgklakibaaGreatDoor
