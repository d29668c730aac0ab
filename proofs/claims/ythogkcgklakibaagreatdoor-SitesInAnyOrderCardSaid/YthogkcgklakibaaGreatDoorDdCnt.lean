
/-
  chaseref1.countsDeed at a right list.
-/
import Derived.Test.YthogkcgklakibaaGreatDoorDdOf
import Derived.Test.YthogkcgklakibaaGreatDoorDdOrd
namespace Go.Proofs.YthogkcgklakibaaGreatDoor
open Go.RowKit
attribute [local go_sem ↓] Go.wp_at_zero Go.wp_at_succ

/-- A deed is about another one. -/
def abtD (x d : Deed) : Bool := decide (x.osite = d.site) && decide (x.ono = d.no)
def cnt1 (l : List Deed) (d : Deed) : Bool := !(l.any fun x => abtD x d && decide (x.kind = 6))
def hitC (l : List Deed) (d x : Deed) : Bool := abtD x d && (decide (x.kind = 6) || (decide (x.kind = 3) && cnt1 l x))
/-- Whether a deed counts. -/
def cntD (l : List Deed) (d : Deed) : Bool := !(l.any (hitC l d))
theorem any_congrD {l : List Deed} {p q : Deed → Bool} (h : ∀ x ∈ l, p x = q x) : l.any p = l.any q := by
  induction l with
  | nil => rfl
  | cons a l ih => rw [List.any_cons, List.any_cons, h a (List.mem_cons_self ..), ih fun x hx => h x (List.mem_cons_of_mem _ hx)]
theorem cnt_drop {l : List Deed} (h : RightD l) {d : Deed} (hd : d ∈ l) (hk : d.kind = 3) : (∀ x ∈ l, ¬ (x.kind = 3 ∧ abtD x d = true)) ∧ cntD l d = cnt1 l d := by
  have key : ∀ x ∈ l, ¬ (x.kind = 3 ∧ abtD x d = true) := by
    rintro x hx ⟨h3, ha⟩
    simp only [abtD, Bool.and_eq_true, decide_eq_true_eq] at ha
    obtain ⟨y, hy, h1, h2, hp⟩ := h.ofs x hx (by simp [backB, h3])
    have e := ord_uniq h.ord hy hd (h1.trans ha.1) (h2.trans ha.2)
    subst e
    unfold PermD at hp
    rw [if_pos h3] at hp
    omega
  refine ⟨key, ?_⟩
  unfold cntD cnt1
  rw [any_congrD fun x hx => ?_]
  unfold hitC
  by_cases ha : abtD x d = true
  · have h3 : ¬ x.kind = 3 := fun e => key x hx ⟨e, ha⟩
    simp [h3]
  · have : abtD x d = false := by simpa using ha
    simp [this]
/-- The header of a row in a box. -/
abbrev RowB (w : World) (P : Nat) (A : Option Addr) (n c : Nat) : Prop := w.heap[P]? = some (.cells #[.slice A n c] 26 (0, 0))
theorem RowB.keep {w w' : World} {P : Nat} {A : Option Addr} {n c : Nat} (h : RowB w P A n c) (hb : Below w.heap.size w w') : RowB w' P A n c := (hb.block P (Array.getElem?_eq_some_iff.1 h).1).trans h
theorem RowB.c {w : World} {P : Nat} {A : Option Addr} {n c : Nat} (h : RowB w P A n c) : w.cell? ⟨P, 0, none⟩ = some (.slice A n c) := by rw [cell_of_row w P _ _ _ _ h]; rfl
set_option maxHeartbeats 1600000 in
set_option maxRecDepth 100000 in
theorem cntClo_any (Pd Pl : Nat) (A : Option Addr) (n c : Nat) (l : List Deed) (d x : Deed) (w : World) (hD : DeedAt w Pd d) (hL : RowB w Pl A n c)
    (hrec : x.kind = 3 → abtD x d = true → ∀ wx, Below w.heap.size w wx → Calls Tryz.prog 88 #[.slice A n c, x.v] wx fun e w' => e = .returned (.bool (cnt1 l x)) ∧ Below wx.heap.size wx w') :
    Calls Tryz.prog 127 (#[x.v] ++ #[.pointer (some ⟨Pd, 0, none⟩), .pointer (some ⟨Pl, 0, none⟩)]) w fun e w' => e = .returned (.bool (hitC l d x)) ∧ Below w.heap.size w w' := by
  have hb1 : Below w.heap.size w (w.alloc (.cells #[.string x.site, .int .i64 x.no, .int .i64 x.at_, .int .i64 x.kind, .string x.id, .string x.fld, .string x.val, .int .i64 x.from_, .int .i64 x.to_, .string x.osite, .int .i64 x.ono, .string x.sum] 40)) := (Below.refl _ _).alloc (Nat.le_refl _) _
  have HD1 : Hid (DeedAt (w.alloc (.cells #[.string x.site, .int .i64 x.no, .int .i64 x.at_, .int .i64 x.kind, .string x.id, .string x.fld, .string x.val, .int .i64 x.from_, .int .i64 x.to_, .string x.osite, .int .i64 x.ono, .string x.sum] 40)) w.heap.size x) := deed_new w x
  have HDD := Lib.hid (hD.keep hb1)
  have HLL := Lib.hid (hL.keep hb1)
  have HB := Lib.hid hb1
  have HREC := Lib.hid hrec
  clear hb1 hD hL hrec
  obtain ⟨hh, hhe⟩ : ∃ b, b = hitC l d x := ⟨_, rfl⟩
  rw [← hhe]
  have HH := Lib.hid hhe
  clear hhe
  have HX : Hid (∃ x', x' = x) := ⟨x, rfl⟩
  obtain ⟨site, no, at_, kind, id, fld, val, from_, to_, osite, ono, sum⟩ := x
  simp only at HD1 HDD HLL HB
  have q := bytes_eqD osite d.site
  unfold Deed.v
  go_enter Tryz.func127, Tryz.ntmps127
  go_upto_region 1 with (fail)
  obtain ⟨P, hP⟩ : ∃ P, P = w.heap.size := ⟨_, rfl⟩
  rw [← hP] at HD1 ⊢
  generalize w.alloc (.cells #[.string site, .int .i64 no, .int .i64 at_, .int .i64 kind, .string id, .string fld, .string val, .int .i64 from_, .int .i64 to_, .string osite, .int .i64 ono, .string sum] 40) = w1 at *
  clear hP
  obtain ⟨a0, a1, a2, a3, a4, a5, a6, a7, a8, a9, a10, a11⟩ := HD1.out.c
  simp only at a0 a1 a2 a3 a4 a5 a6 a7 a8 a9 a10 a11
  obtain ⟨s0, s1, -⟩ := HDD.out.c
  have l0 := HLL.out.c
  have HA : Hid (abtD (⟨site, no, at_, kind, id, fld, val, from_, to_, osite, ono, sum⟩ : Deed) d = (decide (osite = d.site) && decide (ono = d.no))) := rfl
  by_cases h1 : osite = d.site
  · rw [decide_eq_true h1] at q HA
    by_cases h2 : ono = d.no
    · have q2 : (ono == d.no) = true := by simpa using h2
      rw [decide_eq_true h2] at HA
      clear h1 h2
      by_cases h6 : kind = 6
      · subst h6
        have HF : Hid (hh = true) := by show _ = _; rw [HH.out]; unfold hitC; rw [HA.out]; rfl
        go_wp2_with fail
        go_ret
        exact ⟨by (rw [HF.out]; first | done | rfl), HB.out⟩
      · by_cases h3 : kind = 3
        · subst h3
          have HC := Lib.hid (HREC.out rfl HA.out w1 HB.out)
          have HF : Hid (hh = cnt1 l (⟨site, no, at_, 3, id, fld, val, from_, to_, osite, ono, sum⟩ : Deed)) := by show _ = _; rw [HH.out]; unfold hitC; rw [HA.out]; simp
          unfold Deed.v at HC
          simp only at HC
          generalize cnt1 l (⟨site, no, at_, 3, id, fld, val, from_, to_, osite, ono, sum⟩ : Deed) = b at *
          clear h6
          go_wp2_with (go_at_call 88; refine HC.out.mono ?_; rintro e w3 ⟨rfl, hb3⟩; have HB3 := Lib.hid (HB.out.trans (hb3.mono HB.out.size)); clear hb3)
          go_ret
          exact ⟨by (rw [HF.out]; first | done | rfl), HB3.out⟩
        · have HF : Hid (hh = false) := by show _ = _; rw [HH.out]; unfold hitC; rw [HA.out]; simp [h6, h3]
          have q6 : (kind == 6) = false := by simpa using h6
          have q3 : (kind == 3) = false := by simpa using h3
          clear h6 h3
          go_wp2_with fail
          go_ret
          exact ⟨by (rw [HF.out]; first | done | rfl), HB.out⟩
    · have q2 : (ono == d.no) = false := by simpa using h2
      rw [decide_eq_false h2] at HA
      have HF : Hid (hh = false) := by show _ = _; rw [HH.out]; unfold hitC; rw [HA.out]; rfl
      clear h1 h2
      go_wp2_with fail
      go_ret
      exact ⟨by (rw [HF.out]; first | done | rfl), HB.out⟩
  · rw [decide_eq_false h1] at q HA
    have HF : Hid (hh = false) := by show _ = _; rw [HH.out]; unfold hitC; rw [HA.out]; rfl
    clear h1
    go_wp2_with fail
    go_ret
    exact ⟨by (rw [HF.out]; first | done | rfl), HB.out⟩
set_option maxHeartbeats 1600000 in
set_option maxRecDepth 100000 in
theorem idxCnt_any (A : Option Addr) (n c : Nat) (l : List Deed) (Pd Pl : Nat) (d : Deed) (w : World) (hA : DeedsAt w A n c l) (hn : n ≤ 100000)
    (hcl : ∀ x ∈ l, ∀ wx, Below w.heap.size w wx → Calls Tryz.prog 127 (#[x.v] ++ #[.pointer (some ⟨Pd, 0, none⟩), .pointer (some ⟨Pl, 0, none⟩)]) wx fun e w' => e = .returned (.bool (hitC l d x)) ∧ Below wx.heap.size wx w') :
    Calls Tryz.prog 49 #[.slice A n c, .func (.func 127) #[] #[.pointer (some ⟨Pd, 0, none⟩), .pointer (some ⟨Pl, 0, none⟩)]] w fun e w' => (∃ r : Int, e = .returned (.int .i64 r) ∧ ((r = -1 ∧ ∀ x ∈ l, hitC l d x = false) ∨ ∃ (k : Nat) (x : Deed), r = (k : Int) ∧ l[k]? = some x ∧ hitC l d x = true)) ∧ Below w.heap.size w w' := by
  have HN := Lib.hid hA.1
  have HA := Lib.hid hA
  have HCL := Lib.hid hcl
  clear hA hcl
  go_enter Tryz.func49, Tryz.ntmps49
  go_wp2_with fail
  go_loopg [8] n (fun gk v wr => ∃ k : Nat, Hid (k + gk = n) ∧ v = .int .i64 (k : Int) ∧ Hid (∀ x ∈ l.take k, hitC l d x = false) ∧ Hid (Below w.heap.size w wr))
  case atStart => exact ⟨0, show 0 + n = n by omega, rfl, (fun x hx => by simp at hx), Below.refl _ _⟩
  case round =>
    obtain ⟨k, HKK, rfl, HNO, HW⟩ := hrel
    have hkn : k ≤ n := by have := HKK.out; omega
    by_cases hlt : k < n
    · have HGK := Lib.hid (show k + 1 + (gk - 1) = n ∧ 0 < gk by have := HKK.out; omega)
      obtain ⟨gA, off, rfl, hgA, hcA⟩ := (ElemsAt.keep HA.out HW.out).deed (by omega)
      have hkl : k < l.length := by rw [← HN.out]; exact hlt
      obtain ⟨x, hx⟩ : ∃ x, l[k]? = some x := ⟨_, List.getElem?_eq_getElem hkl⟩
      obtain ⟨c0, c1, c2, c3, c4, c5, c6, c7, c8, c9, c10, c11⟩ := hcA k x hx
      have HX := Lib.hid hx
      have HCX := Lib.hid (HCL.out x (List.mem_of_getElem? hx) wr HW.out)
      have HTK : Hid (l.take (k + 1) = l.take k ++ [x]) := by
        show _ = _
        obtain ⟨h1, h2⟩ := List.getElem?_eq_some_iff.1 hx
        rw [List.take_succ_eq_append_getElem h1, h2]
      unfold Deed.v at HCX
      clear hcA hkl hx hgA
      go_wp2_with fail
      refine HCX.out.mono ?_
      rintro e w4 ⟨rfl, hb4⟩
      have HW4 := Lib.hid (HW.out.trans (hb4.mono HW.out.size))
      clear hb4 HCX c0 c1 c2 c3 c4 c5 c6 c7 c8 c9 c10 c11
      cases hp : hitC l d x with
      | true =>
        have HF := Lib.hid hp
        clear hp
        go_wp2_with fail
        go_ret
        exact ⟨⟨(k : Int), rfl, .inr ⟨k, x, rfl, HX.out, HF.out⟩⟩, HW4.out⟩
      | false =>
        have HF := Lib.hid hp
        clear hp
        go_wp2_with fail
        go_roundg (gk - 1)
        case measure => exact Nat.sub_lt HGK.out.2 Nat.one_pos
        case rel => exact ⟨k + 1, HGK.out.1, by go_num, (fun y hy => by
          rw [HTK.out] at hy
          rcases List.mem_append.1 hy with hy | hy
          · exact HNO.out y hy
          · rw [List.mem_singleton.1 hy]; exact HF.out), HW4.out⟩
    · have hnk : ¬ (k : Int) < (n : Int) := by omega
      have hta : l.take k = l := List.take_of_length_le (by have := HN.out; omega)
      rw [hta] at HNO
      clear hta
      go_wp2_with fail
      go_ret
      exact ⟨⟨-1, rfl, .inl ⟨rfl, HNO.out⟩⟩, HW.out⟩
set_option maxHeartbeats 800000 in
theorem hasCnt_any (A : Option Addr) (n c : Nat) (l : List Deed) (Pd Pl : Nat) (d : Deed) (w : World) (hA : DeedsAt w A n c l) (hn : n ≤ 100000)
    (hcl : ∀ x ∈ l, ∀ wx, Below w.heap.size w wx → Calls Tryz.prog 127 (#[x.v] ++ #[.pointer (some ⟨Pd, 0, none⟩), .pointer (some ⟨Pl, 0, none⟩)]) wx fun e w' => e = .returned (.bool (hitC l d x)) ∧ Below wx.heap.size wx w') :
    Calls Tryz.prog 12 #[.slice A n c, .func (.func 127) #[] #[.pointer (some ⟨Pd, 0, none⟩), .pointer (some ⟨Pl, 0, none⟩)]] w fun e w' => e = .returned (.bool (l.any (hitC l d))) ∧ Below w.heap.size w w' := by
  have HI := Lib.hid (idxCnt_any A n c l Pd Pl d w hA hn hcl)
  clear hA hcl
  go_enter Tryz.func12, Tryz.ntmps12
  go_wp2_with fail
  refine HI.out.mono ?_
  rintro e w1 ⟨⟨r, rfl, hr⟩, hb1⟩
  have HB := Lib.hid hb1
  rcases hr with ⟨rfl, hno⟩ | ⟨k, x, rfl, hx, hp⟩
  · have HF : Hid (l.any (hitC l d) = false) := by
      show _ = _
      rw [List.any_eq_false]
      intro x hx
      rw [hno x hx]
      decide
    clear hno hb1 HI
    go_wp2_with fail
    go_ret
    exact ⟨by (rw [HF.out]; first | done | rfl), HB.out⟩
  · have HF : Hid (l.any (hitC l d) = true) := by
      show _ = _
      exact List.any_eq_true.2 ⟨x, List.mem_of_getElem? hx, hp⟩
    have hk : (0 : Int) ≤ (k : Int) := by omega
    clear hx hp hb1 HI
    go_wp2_with fail
    go_ret
    exact ⟨by (rw [HF.out]; first | done | rfl), HB.out⟩
set_option maxHeartbeats 800000 in
theorem counts_of (A : Option Addr) (n c : Nat) (l : List Deed) (d : Deed) (w : World) (hA : DeedsAt w A n c l) (hn : n ≤ 100000)
    (hrec : ∀ x ∈ l, x.kind = 3 → abtD x d = true → ∀ wx, Below w.heap.size w wx → Calls Tryz.prog 88 #[.slice A n c, x.v] wx fun e w' => e = .returned (.bool (cnt1 l x)) ∧ Below wx.heap.size wx w') :
    Calls Tryz.prog 88 #[.slice A n c, d.v] w fun e w' => e = .returned (.bool (cntD l d)) ∧ Below w.heap.size w w' := by
  have hb1 : Below w.heap.size w (w.alloc (.cells #[.slice A n c] 26)) := (Below.refl _ _).alloc (Nat.le_refl _) _
  have hL1 : RowB (w.alloc (.cells #[.slice A n c] 26)) w.heap.size A n c := heap_alloc_new w _
  have hsz : (w.alloc (.cells #[.slice A n c] 26)).heap.size = w.heap.size + 1 := by simp
  have hD2 := deed_new (w.alloc (.cells #[.slice A n c] 26)) d
  rw [hsz] at hD2
  have hb2 : Below w.heap.size w ((w.alloc (.cells #[.slice A n c] 26)).alloc (.cells #[.string d.site, .int .i64 d.no, .int .i64 d.at_, .int .i64 d.kind, .string d.id, .string d.fld, .string d.val, .int .i64 d.from_, .int .i64 d.to_, .string d.osite, .int .i64 d.ono, .string d.sum] 40)) := hb1.alloc hb1.size _
  have HL2 : Hid (RowB _ w.heap.size A n c) := hL1.keep ((Below.refl _ _).alloc (Nat.le_refl _) (.cells #[.string d.site, .int .i64 d.no, .int .i64 d.at_, .int .i64 d.kind, .string d.id, .string d.fld, .string d.val, .int .i64 d.from_, .int .i64 d.to_, .string d.osite, .int .i64 d.ono, .string d.sum] 40))
  have HD2 := Lib.hid hD2
  have HB2 := Lib.hid hb2
  have HA2 := Lib.hid (ElemsAt.keep hA hb2)
  have HREC := Lib.hid hrec
  clear hb1 hL1 hD2 hb2 hA hrec hsz
  unfold Deed.v
  go_enter Tryz.func88, Tryz.ntmps88
  go_upto_region 1 with (fail)
  generalize (w.alloc (.cells #[.slice A n c] 26)).alloc (.cells #[.string d.site, .int .i64 d.no, .int .i64 d.at_, .int .i64 d.kind, .string d.id, .string d.fld, .string d.val, .int .i64 d.from_, .int .i64 d.to_, .string d.osite, .int .i64 d.ono, .string d.sum] 40) = w2 at *
  obtain ⟨P, hP⟩ : ∃ P, P = w.heap.size := ⟨_, rfl⟩
  obtain ⟨Q, hQ⟩ : ∃ Q, Q = w.heap.size + 1 := ⟨_, rfl⟩
  rw [← hQ] at HD2
  rw [← hP] at HL2
  rw [← hQ, ← hP]
  clear hP hQ
  have HI := Lib.hid (hasCnt_any A n c l Q P d w2 HA2.out hn (fun x hx wx hb => cntClo_any Q P A n c l d x wx (HD2.out.keep hb) (HL2.out.keep hb) (fun h3 ha wy hy => HREC.out x hx h3 ha wy ((HB2.out.trans (hb.mono HB2.out.size)).trans (hy.mono (HB2.out.trans (hb.mono HB2.out.size)).size)))))
  have l0 := HL2.out.c
  have HF : Hid (cntD l d = !(l.any (hitC l d))) := rfl
  generalize l.any (hitC l d) = b at *
  go_wp2_with fail
  refine HI.out.mono ?_
  rintro e w3 ⟨rfl, hb3⟩
  have HB3 := Lib.hid (HB2.out.trans (hb3.mono HB2.out.size))
  clear hb3 HI l0
  go_wp2_with fail
  go_ret
  exact ⟨by (rw [HF.out]; first | done | rfl), HB3.out⟩
theorem counts_any (A : Option Addr) (n c : Nat) (l : List Deed) (d : Deed) (w : World) (hA : DeedsAt w A n c l) (hl : RightD l) :
    Calls Tryz.prog 88 #[.slice A n c, d.v] w fun e w' => e = .returned (.bool (cntD l d)) ∧ Below w.heap.size w w' := by
  have hn : n ≤ 100000 := by have := hA.1; have := hl.few; omega
  refine counts_of A n c l d w hA hn fun x hx h3 _ wx hb => ?_
  rw [← (cnt_drop hl hx h3).2]
  exact counts_of A n c l x wx (ElemsAt.keep hA hb) hn fun y hy hy3 ha => ((cnt_drop hl hx h3).1 y hy ⟨hy3, ha⟩).elim
end Go.Proofs.YthogkcgklakibaaGreatDoor
