
/-
  chaseref1.DeedsFault at right lists of deeds: no fault.
-/
import Derived.Test.YthogkcgklakibaaGreatDoorDdSort
import Derived.Test.YthogkcgklakibaaGreatDoorDdOf2
import Derived.Test.YthogkcgklakibaaGreatDoorDdF
import Derived.Test.YthogkcgklakibaaGreatDoorDdSum
import Derived.BigQuiet
namespace Go.Proofs.YthogkcgklakibaaGreatDoor
open Go.RowKit
attribute [local go_sem ↓] Go.wp_at_zero Go.wp_at_succ

theorem i64_small (z : Int) (h0 : 0 ≤ z) (h1 : z ≤ 100000000) : IntKind.i64.wrap z = z := by
  simp [IntKind.wrap, IntKind.bits, IntKind.signed]
  omega
theorem keyL_len {l : List UInt8} (h : keyL l = true) : l.length ≤ 40 := by
  unfold keyL at h
  simp only [Bool.and_eq_true, decide_eq_true_iff] at h
  exact h.1.1.2
theorem keyL_no10 {l : List UInt8} (h : keyL l = true) : ∀ b ∈ l, b ≠ 10 := by
  unfold keyL at h
  simp only [Bool.and_eq_true, List.all_eq_true] at h
  intro b hb e
  have := h.1.2 b hb
  rw [e] at this
  revert this
  decide
theorem plainB_no10 {l : List UInt8} (h : plainB l = true) : ∀ b ∈ l, b ≠ 10 := by
  unfold plainB visB at h
  simp only [Bool.and_eq_true, List.all_eq_true] at h
  intro b hb e
  have := h.1.1 b hb
  rw [e] at this
  revert this
  decide
/-- How long the strings of a right list's deeds are. -/
theorem RightD.small {l : List Deed} (h : RightD l) {d : Deed} (hd : d ∈ l) : SmallD d ∧ SizeD d ∧ (∀ b ∈ byteL d.val, b ≠ 10) := by
  have hg := h.good d hd
  have hno : ∀ x ∈ l, 1 ≤ x.no ∧ x.no ≤ 2001 ∧ x.site.size ≤ 40 := fun x hx => by
    obtain ⟨k, hk⟩ := List.getElem?_of_mem hx
    have h1 := h.no_le k x hk
    have h2 := (List.getElem?_eq_some_iff.1 hk).1
    have h3 := h.few
    have h4 := keyL_len (h.key x hx)
    rw [byteL_len] at h4
    exact ⟨(h.pred x hx).pos, by omega, h4⟩
  have hsum : d.sum.size = 16 := by
    have hp := h.pred d hd
    by_cases h1 : d.no = 1
    · rw [hp.first h1]; exact dgB_size _
    · obtain ⟨p, -, -, -, h2⟩ := hp.next (by have := hp.pos; omega)
      rw [h2]; exact dgB_size _
  have z0 : zeroB.size = 0 := rfl
  have kz : byteL zeroB = [] := rfl
  have hid : d.id.size ≤ 40 := by
    have k := hg.id
    split at k
    · rw [k, z0]; omega
    · rw [← byteL_len]; exact keyL_len k
  have hfl : d.fld.size ≤ 40 := by
    have k := hg.fld
    split at k
    · rw [← byteL_len]; exact keyL_len k
    · rw [k, z0]; omega
  have hva : d.val.size ≤ 200 ∧ ∀ b ∈ byteL d.val, b ≠ 10 := by
    have k := hg.val
    split at k
    · exact ⟨by omega, plainB_no10 k.1⟩
    · split at k
      · exact ⟨by rw [← byteL_len]; have := keyL_len k; omega, keyL_no10 k⟩
      · split at k
        · exact ⟨by omega, plainB_no10 k.1⟩
        · rw [k]; exact ⟨by rw [z0]; omega, fun b hb => by rw [kz] at hb; cases hb⟩
  have hsp : 0 ≤ d.from_ ∧ d.from_ ≤ 20000 ∧ 0 ≤ d.to_ ∧ d.to_ ≤ 20000 := by
    have k := hg.span
    split at k <;> omega
  have hof : 0 ≤ d.ono ∧ d.ono ≤ 2001 ∧ d.osite.size ≤ 40 := by
    cases hb : backB d.kind with
    | false =>
      obtain ⟨k1, k2⟩ := hg.of_ hb
      rw [k1, z0]; omega
    | true =>
      obtain ⟨x, hx, k1, k2, -⟩ := h.ofs d hd hb
      have := hno x hx
      rw [← k1, ← k2]; omega
  have hn := hno d hd
  have hat := hg.at_
  have hki := hg.kind
  exact ⟨⟨by omega, by omega, by omega, by omega, by omega, by omega, by omega, by omega, by omega, by omega, by omega, by omega⟩, ⟨by omega, by omega, by omega⟩, hva.2⟩
set_option maxHeartbeats 1600000 in
set_option maxRecDepth 100000 in
theorem permitted_ok (d x : Deed) (w : World) (h : PermD d x) (hk : d.kind = 3 ∨ d.kind = 6) : Calls Tryz.prog 117 #[d.v, x.v] w fun e w' => e = .returned (.bool true) ∧ Below w.heap.size w w' := by
  have HX : Hid (DeedAt ((w.alloc (.cells #[.string d.site, .int .i64 d.no, .int .i64 d.at_, .int .i64 d.kind, .string d.id, .string d.fld, .string d.val, .int .i64 d.from_, .int .i64 d.to_, .string d.osite, .int .i64 d.ono, .string d.sum] 40)).alloc (.cells #[.string x.site, .int .i64 x.no, .int .i64 x.at_, .int .i64 x.kind, .string x.id, .string x.fld, .string x.val, .int .i64 x.from_, .int .i64 x.to_, .string x.osite, .int .i64 x.ono, .string x.sum] 40)) w.heap.size d) := (deed_new w d).keep ((Below.refl _ _).alloc (Nat.le_refl _) _)
  have HY : Hid (DeedAt ((w.alloc (.cells #[.string d.site, .int .i64 d.no, .int .i64 d.at_, .int .i64 d.kind, .string d.id, .string d.fld, .string d.val, .int .i64 d.from_, .int .i64 d.to_, .string d.osite, .int .i64 d.ono, .string d.sum] 40)).alloc (.cells #[.string x.site, .int .i64 x.no, .int .i64 x.at_, .int .i64 x.kind, .string x.id, .string x.fld, .string x.val, .int .i64 x.from_, .int .i64 x.to_, .string x.osite, .int .i64 x.ono, .string x.sum] 40)) (w.alloc (.cells #[.string d.site, .int .i64 d.no, .int .i64 d.at_, .int .i64 d.kind, .string d.id, .string d.fld, .string d.val, .int .i64 d.from_, .int .i64 d.to_, .string d.osite, .int .i64 d.ono, .string d.sum] 40)).heap.size x) := deed_new _ x
  have hsz : (w.alloc (.cells #[.string d.site, .int .i64 d.no, .int .i64 d.at_, .int .i64 d.kind, .string d.id, .string d.fld, .string d.val, .int .i64 d.from_, .int .i64 d.to_, .string d.osite, .int .i64 d.ono, .string d.sum] 40)).heap.size = w.heap.size + 1 := by simp
  rw [hsz] at HY
  have hb1 : Below w.heap.size w (w.alloc (.cells #[.string d.site, .int .i64 d.no, .int .i64 d.at_, .int .i64 d.kind, .string d.id, .string d.fld, .string d.val, .int .i64 d.from_, .int .i64 d.to_, .string d.osite, .int .i64 d.ono, .string d.sum] 40)) := (Below.refl _ _).alloc (Nat.le_refl _) _
  have HB : Hid (Below w.heap.size w ((w.alloc (.cells #[.string d.site, .int .i64 d.no, .int .i64 d.at_, .int .i64 d.kind, .string d.id, .string d.fld, .string d.val, .int .i64 d.from_, .int .i64 d.to_, .string d.osite, .int .i64 d.ono, .string d.sum] 40)).alloc (.cells #[.string x.site, .int .i64 x.no, .int .i64 x.at_, .int .i64 x.kind, .string x.id, .string x.fld, .string x.val, .int .i64 x.from_, .int .i64 x.to_, .string x.osite, .int .i64 x.ono, .string x.sum] 40))) := hb1.alloc hb1.size _
  clear hsz hb1
  have q := bytes_eqD x.site d.site
  unfold PermD at h
  unfold Deed.v
  go_enter Tryz.func117, Tryz.ntmps117
  go_upto_region 1 with (fail)
  obtain ⟨P, hP⟩ : ∃ P, P = w.heap.size := ⟨_, rfl⟩
  rw [← hP] at HX HY ⊢
  generalize (w.alloc (.cells #[.string d.site, .int .i64 d.no, .int .i64 d.at_, .int .i64 d.kind, .string d.id, .string d.fld, .string d.val, .int .i64 d.from_, .int .i64 d.to_, .string d.osite, .int .i64 d.ono, .string d.sum] 40)).alloc (.cells #[.string x.site, .int .i64 x.no, .int .i64 x.at_, .int .i64 x.kind, .string x.id, .string x.fld, .string x.val, .int .i64 x.from_, .int .i64 x.to_, .string x.osite, .int .i64 x.ono, .string x.sum] 40) = w1 at *
  clear hP
  obtain ⟨a0, a1, a2, a3, a4, a5, a6, a7, a8, a9, a10, a11⟩ := HX.out.c
  obtain ⟨b0, b1, b2, b3, b4, b5, b6, b7, b8, b9, b10, b11⟩ := HY.out.c
  by_cases h3 : d.kind = 3
  · rw [if_pos h3] at h
    rcases h with h | h
    all_goals
      clear q hk
      go_wp2_with fail
      go_ret
      exact ⟨rfl, HB.out⟩
  · rw [if_neg h3] at h
    have h6 : d.kind = 6 := hk.resolve_left h3
    obtain ⟨h1, h2, h4⟩ := h
    rw [decide_eq_true h2] at q
    clear hk h3 h2
    rcases h1 with h1 | h1 | h1
    all_goals
      go_wp2_with fail
      go_ret
      exact ⟨rfl, HB.out⟩
set_option maxHeartbeats 6400000 in
set_option maxRecDepth 100000 in
theorem deedsFault_ok (A : Option Addr) (n c : Nat) (l : List Deed) (w : World) (h : DeedsAt w A n c l) (hl : RightD l) (hT : Tabs w) (hM : MaxAt w) (hP : PowAt w) :
    Calls Tryz.prog 76 #[.slice A n c] w fun e w' => e = .returned (.tuple #[.int .i64 0, .int .i64 0]) ∧ Below w.heap.size w w' := by
  have HN : Hid (n = l.length) := h.1
  have HA := Lib.hid h
  have HL := Lib.hid hl
  have HTM : Hid (∀ wx, Below w.heap.size w wx → Tabs wx ∧ MaxAt wx ∧ PowAt wx) := fun wx hx => ⟨Tabs.below hT hx, MaxAt.below hM hx, hP.below hx⟩
  have hfew := hl.few
  have hn2 : n ≤ 2000 := by have := HN.out; omega
  have hbig : ¬ (2000 : Int) < (n : Int) := by omega
  clear h hl hT hM hP hfew
  go_enter Tryz.func76, Tryz.ntmps76
  go_wp2_with fail
  go_loopg [18] n (fun gk v wr => ∃ k : Nat, Hid (k + gk = n) ∧ v = .int .i64 (k : Int) ∧ Hid (Below w.heap.size w wr))
  case atStart => exact ⟨0, show 0 + n = n by omega, rfl, Below.refl _ _⟩
  case round =>
    obtain ⟨k, HK, rfl, HW⟩ := hrel
    have hkn : k ≤ n := by have := HK.out; omega
    by_cases hlt : k < n
    · have HGK := Lib.hid (show k + 1 + (gk - 1) = n ∧ 0 < gk by have := HK.out; omega)
      obtain ⟨g, off, rfl, hg, hc⟩ := (ElemsAt.keep HA.out HW.out).deed (by omega)
      have hkl : k < l.length := by rw [← HN.out]; exact hlt
      obtain ⟨d, hd⟩ : ∃ d, l[k]? = some d := ⟨_, List.getElem?_eq_getElem hkl⟩
      obtain ⟨c0, c1, c2, c3, c4, c5, c6, c7, c8, c9, c10, c11⟩ := hc k d hd
      have hmem := List.mem_of_getElem? hd
      have HDL := Lib.hid hd
      have HCL := Lib.hid hc
      have HKEY := Lib.hid (HL.out.key d hmem)
      have HGOOD := Lib.hid (HL.out.good d hmem)
      have HSML := Lib.hid (HL.out.small hmem)
      have hal : Below wr.heap.size wr (wr.alloc (.cells #[.string d.site, .int .i64 d.no, .int .i64 d.at_, .int .i64 d.kind, .string d.id, .string d.fld, .string d.val, .int .i64 d.from_, .int .i64 d.to_, .string d.osite, .int .i64 d.ono, .string d.sum] 40)) := (Below.refl _ _).alloc (Nat.le_refl _) _
      have HD5 : Hid (DeedAt (wr.alloc (.cells #[.string d.site, .int .i64 d.no, .int .i64 d.at_, .int .i64 d.kind, .string d.id, .string d.fld, .string d.val, .int .i64 d.from_, .int .i64 d.to_, .string d.osite, .int .i64 d.ono, .string d.sum] 40)) wr.heap.size d) := deed_new wr d
      have HW5 := Lib.hid (HW.out.trans (hal.mono HW.out.size))
      have HB5 := Lib.hid hal
      have HGL := Lib.hid hg
      clear hc hkl hd hg hmem hal HK
      go_upto_region 6 with (fail)
      obtain ⟨P, hP⟩ : ∃ P, P = wr.heap.size := ⟨_, rfl⟩
      rw [← hP] at HD5 ⊢
      generalize wr.alloc (.cells #[.string d.site, .int .i64 d.no, .int .i64 d.at_, .int .i64 d.kind, .string d.id, .string d.fld, .string d.val, .int .i64 d.from_, .int .i64 d.to_, .string d.osite, .int .i64 d.ono, .string d.sum] 40) = w5 at *
      clear hP c0 c1 c2 c3 c4 c5 c6 c7 c8 c9 c10 c11
      obtain ⟨a0, a1, a2, a3, a4, a5, a6, a7, a8, a9, a10, a11⟩ := HD5.out.c
      go_upto_region 7 with (fail)
      obtain ⟨p, hp⟩ : ∃ p, 0 < k → l[k - 1]? = some p := by
        rcases Nat.eq_zero_or_pos k with h0 | h0
        · exact ⟨d, fun h => by omega⟩
        · exact ⟨l[k - 1]'(by have := HN.out; omega), fun _ => List.getElem?_eq_getElem (by have := HN.out; omega)⟩
      have HSTP := Lib.hid (HL.out.step HDL.out p hp)
      have HPC : Hid (0 < k → ∀ wx, Below w5.heap.size w5 wx → wx.cell? ⟨g, off + (k - 1) * 12, none⟩ = some (.string p.site) ∧ wx.cell? ⟨g, off + (k - 1) * 12 + 1, none⟩ = some (.int .i64 p.no) ∧ wx.cell? ⟨g, off + (k - 1) * 12 + 11, none⟩ = some (.string p.sum)) := fun h0 wx hx => by
        obtain ⟨b0, b1, b2, b3, b4, b5, b6, b7, b8, b9, b10, b11⟩ := HCL.out (k - 1) p (hp h0)
        have hgl : g < w5.heap.size := Nat.lt_of_lt_of_le HGL.out HB5.out.size
        exact ⟨(hx.cell (p := ⟨g, _, none⟩) hgl).trans ((HB5.out.cell (p := ⟨g, _, none⟩) HGL.out).trans b0), (hx.cell (p := ⟨g, _, none⟩) hgl).trans ((HB5.out.cell (p := ⟨g, _, none⟩) HGL.out).trans b1), (hx.cell (p := ⟨g, _, none⟩) hgl).trans ((HB5.out.cell (p := ⟨g, _, none⟩) HGL.out).trans b11)⟩
      have HPS : Hid (0 < k → p.sum.size ≤ 1000) := fun h0 => (HL.out.small (List.mem_of_getElem? (hp h0))).1.sum
      have HPN : Hid (0 < k → 0 ≤ p.no ∧ p.no ≤ 100000000) := fun h0 => (HL.out.small (List.mem_of_getElem? (hp h0))).1.no
      have HPD : Hid (0 < k → l[k - 1]? = some p) := hp
      clear hp
      have q0 := bytes_eqD p.site d.site
      go_cut [37] (fun v wx => v = .bool (decide (0 < k) && decide (p.site = d.site)) ∧ ∃ q, wx = w5.drewN q)
      case first =>
        by_cases hk0 : k = 0
        · have hd0 : decide ((0 : Int) < (k : Int)) = false := decide_eq_false (by omega)
          have hd1 : decide (0 < k) = false := decide_eq_false (by omega)
          have HD1 := Lib.hid hd1
          clear hk0
          go_quiet (fail)
          go_wp2_with fail
          go_meet
          exact ⟨by rw [HD1.out]; rfl, ⟨_, rfl⟩⟩
        · have hd0 : decide ((0 : Int) < (k : Int)) = true := decide_eq_true (by omega)
          have hd1 : decide (0 < k) = true := decide_eq_true (by omega)
          obtain ⟨j, hj⟩ : ∃ j : Nat, k - 1 = j := ⟨_, rfl⟩
          have e0 : ∀ q, (w5.drewN q).cell? ⟨g, off + j * 12, none⟩ = some (.string p.site) := fun q => by rw [← hj]; exact (HPC.out (by omega) _ (below_drewN (Below.refl _ _) q)).1
          have f0 : ∀ q, (w5.drewN q).cell? ⟨P, 0, none⟩ = some (.string d.site) := fun _ => a0
          have hsb : (k : Int) - 1 = (j : Int) := by omega
          have hjn : (j : Int) < (n : Int) := by omega
          have HD1 := Lib.hid hd1
          clear hk0 hj
          go_quiet (fail)
          go_wp2_with fail
          go_meet
          exact ⟨by rw [HD1.out, Bool.true_and], ⟨_, rfl⟩⟩
      case rest =>
        obtain ⟨rfl, q1, hq1⟩ := hcut
        have hB6 : Below w5.heap.size w5 wc := by rw [hq1]; exact below_drewN (Below.refl _ _) q1
        have HB6 := Lib.hid hB6
        have HD6 := Lib.hid (HD5.out.keep hB6)
        clear hq1 hB6 a0 a1 a2 a3 a4 a5 a6 a7 a8 a9 a10 a11
        obtain ⟨a0, a1, a2, a3, a4, a5, a6, a7, a8, a9, a10, a11⟩ := HD6.out.c
        go_upto_if 37 with (fail)
        go_cut [6, 7] (fun v6 v7 wx => (∃ before : ByteArray, v6 = .int .i64 d.no ∧ v7 = .string before ∧ d.sum = sumD before d ∧ before.size ≤ 1000) ∧ ∃ q, wx = wc.drewN q)
        case first =>
          cases hsb : (decide (0 < k) && decide (p.site = d.site)) with
          | false =>
            have hst := HSTP.out.2
            rw [if_neg (by rintro ⟨h1, h2⟩; rw [decide_eq_true h1, decide_eq_true h2] at hsb; cases hsb)] at hst
            have HST := Lib.hid hst
            clear hst hsb
            go_wp2_with fail
            go_meet
            exact ⟨⟨⟨#[]⟩, by rw [HST.out.1], rfl, HST.out.2, by decide⟩, ⟨0, rfl⟩⟩
          | true =>
            rw [Bool.and_eq_true, decide_eq_true_iff, decide_eq_true_iff] at hsb
            have hst := HSTP.out.2
            rw [if_pos hsb] at hst
            have HST := Lib.hid hst
            have hpsm := HPS.out hsb.1
            obtain ⟨hpn0, hpn1⟩ := HPN.out hsb.1
            obtain ⟨j, hj⟩ : ∃ j : Nat, k - 1 = j := ⟨_, rfl⟩
            have hpc := fun q => HPC.out hsb.1 (wc.drewN q) (below_drewN HB6.out q)
            rw [hj] at hpc
            have e1 : ∀ q, (wc.drewN q).cell? ⟨g, off + j * 12 + 1, none⟩ = some (.int .i64 p.no) := fun q => (hpc q).2.1
            have e11 : ∀ q, (wc.drewN q).cell? ⟨g, off + j * 12 + 11, none⟩ = some (.string p.sum) := fun q => (hpc q).2.2
            have hsj : (k : Int) - 1 = (j : Int) := by have := hsb.1; omega
            have hjn : (j : Int) < (n : Int) := by have := hsb.1; omega
            clear hst hsb hpc hj
            go_wp2_with fail
            go_quiet (fail)
            go_wp2_with fail
            go_meet
            exact ⟨⟨p.sum, by rw [HST.out.1], rfl, HST.out.2, hpsm⟩, ⟨_, rfl⟩⟩
        case rest =>
          obtain ⟨⟨before, rfl, rfl, hsum, hbsz⟩, q2, hq2⟩ := hcut
          have HSUM := Lib.hid hsum
          obtain ⟨w7, hw7⟩ : ∃ w7, w7 = wc := ⟨_, rfl⟩
          have hB7 : Below w5.heap.size w5 w7 := by rw [hw7, hq2]; exact below_drewN HB6.out q2
          rw [← hw7]
          have HB7 := Lib.hid hB7
          have HD7 := Lib.hid (HD5.out.keep hB7)
          clear hq2 hB7 hw7 hsum a0 a1 a2 a3 a4 a5 a6 a7 a8 a9 a10 a11
          obtain ⟨a0, a1, a2, a3, a4, a5, a6, a7, a8, a9, a10, a11⟩ := HD7.out.c
          have HK7 := keyOf_any d.site w7 (by have := HSML.out.1.site; omega)
          rw [show d.site.data.toList = byteL d.site from rfl, HKEY.out] at HK7
          have HKO := Lib.hid HK7
          clear HK7
          go_wp2_with (go_at_call 110; refine HKO.out.mono ?_; rintro e w8 ⟨rfl, hb8⟩)
          have HB8 := Lib.hid (HB7.out.trans (hb8.mono HB7.out.size))
          have HD8 := Lib.hid (HD7.out.keep hb8)
          clear hb8 HKO a0 a1 a2 a3 a4 a5 a6 a7 a8 a9 a10 a11
          obtain ⟨a0, a1, a2, a3, a4, a5, a6, a7, a8, a9, a10, a11⟩ := HD8.out.c
          go_upto_region 15 with (fail)
          go_cut [70] (fun v wx => v = .bool false ∧ Below w8.heap.size w8 wx)
          case first =>
            by_cases hk0 : k = 0
            · have hd0 : decide ((0 : Int) < (k : Int)) = false := decide_eq_false (by omega)
              have hd1 : decide (0 < k) = false := decide_eq_false (by omega)
              clear hk0
              go_quiet (fail)
              go_wp2_with fail
              go_meet
              exact ⟨rfl, below_drewN (Below.refl _ _) _⟩
            · have h0k : 0 < k := by omega
              have hd0 : (0 : Int) < (k : Int) := by omega
              obtain ⟨j, hj⟩ : ∃ j : Nat, k - 1 = j := ⟨_, rfl⟩
              have hsj : (k : Int) - 1 = (j : Int) := by omega
              have hjn : (j : Int) < (n : Int) := by omega
              have hneg := (cmpD_neg p d).2 (HSTP.out.1 h0k)
              have hng : ¬ (0 : Int) ≤ cmpD p d := by omega
              have HSO := Lib.hid (fun wx => stampOrder_gr p d wx)
              have hPJ := HPD.out h0k
              rw [hj] at hPJ
              have HHELD : Hid (∀ w', Below w8.heap.size w8 w' → w'.cell? ⟨P, 0, none⟩ = some (.string d.site) ∧ w'.cell? ⟨P, 1, none⟩ = some (.int .i64 d.no) ∧ w'.cell? ⟨P, 2, none⟩ = some (.int .i64 d.at_) ∧ w'.cell? ⟨P, 3, none⟩ = some (.int .i64 d.kind) ∧ w'.cell? ⟨P, 4, none⟩ = some (.string d.id) ∧ w'.cell? ⟨P, 5, none⟩ = some (.string d.fld) ∧ w'.cell? ⟨P, 6, none⟩ = some (.string d.val) ∧ w'.cell? ⟨P, 7, none⟩ = some (.int .i64 d.from_) ∧ w'.cell? ⟨P, 8, none⟩ = some (.int .i64 d.to_) ∧ w'.cell? ⟨P, 9, none⟩ = some (.string d.osite) ∧ w'.cell? ⟨P, 10, none⟩ = some (.int .i64 d.ono) ∧ w'.cell? ⟨P, 11, none⟩ = some (.string d.sum) ∧ w'.cell? ⟨g, off + j * 12, none⟩ = some (.string p.site) ∧ w'.cell? ⟨g, off + j * 12 + 1, none⟩ = some (.int .i64 p.no) ∧ w'.cell? ⟨g, off + j * 12 + 2, none⟩ = some (.int .i64 p.at_) ∧ w'.cell? ⟨g, off + j * 12 + 3, none⟩ = some (.int .i64 p.kind) ∧ w'.cell? ⟨g, off + j * 12 + 4, none⟩ = some (.string p.id) ∧ w'.cell? ⟨g, off + j * 12 + 5, none⟩ = some (.string p.fld) ∧ w'.cell? ⟨g, off + j * 12 + 6, none⟩ = some (.string p.val) ∧ w'.cell? ⟨g, off + j * 12 + 7, none⟩ = some (.int .i64 p.from_) ∧ w'.cell? ⟨g, off + j * 12 + 8, none⟩ = some (.int .i64 p.to_) ∧ w'.cell? ⟨g, off + j * 12 + 9, none⟩ = some (.string p.osite) ∧ w'.cell? ⟨g, off + j * 12 + 10, none⟩ = some (.int .i64 p.ono) ∧ w'.cell? ⟨g, off + j * 12 + 11, none⟩ = some (.string p.sum) ∧ Below w8.heap.size w8 w') := fun w' hb => by
                obtain ⟨x0, x1, x2, x3, x4, x5, x6, x7, x8, x9, x10, x11⟩ := (HD8.out.keep hb).c
                obtain ⟨y0, y1, y2, y3, y4, y5, y6, y7, y8, y9, y10, y11⟩ := HCL.out j p hPJ
                have hbb : Below wr.heap.size wr w' := HB5.out.trans ((HB8.out.trans (hb.mono HB8.out.size)).mono HB5.out.size)
                have kk : ∀ i v, wr.cell? ⟨g, i, none⟩ = some v → w'.cell? ⟨g, i, none⟩ = some v := fun i v hv => (hbb.cell (p := ⟨g, i, none⟩) HGL.out).trans hv
                exact ⟨x0, x1, x2, x3, x4, x5, x6, x7, x8, x9, x10, x11, kk _ _ y0, kk _ _ y1, kk _ _ y2, kk _ _ y3, kk _ _ y4, kk _ _ y5, kk _ _ y6, kk _ _ y7, kk _ _ y8, kk _ _ y9, kk _ _ y10, kk _ _ y11, hb⟩
              unfold Deed.v at HSO
              generalize cmpD p d = cc at *
              have hd1 : decide (0 < k) = true := decide_eq_true h0k
              have hj0 : (0 : Int) ≤ (j : Int) := by omega
              have hwj : IntKind.i64.wrap ((k : Int) - 1) = (j : Int) := by rw [hsj]; exact i64_small (j : Int) (by omega) (by omega)
              have hwj2 : IntKind.i64.wrap (j : Int) = (j : Int) := i64_small (j : Int) (by omega) (by omega)
              have hjn2 : j < n := by omega
              clear hk0 hj hneg hPJ
              go_region_held3 (fun w' => w'.cell? ⟨P, 0, none⟩ = some (.string d.site) ∧ w'.cell? ⟨P, 1, none⟩ = some (.int .i64 d.no) ∧ w'.cell? ⟨P, 2, none⟩ = some (.int .i64 d.at_) ∧ w'.cell? ⟨P, 3, none⟩ = some (.int .i64 d.kind) ∧ w'.cell? ⟨P, 4, none⟩ = some (.string d.id) ∧ w'.cell? ⟨P, 5, none⟩ = some (.string d.fld) ∧ w'.cell? ⟨P, 6, none⟩ = some (.string d.val) ∧ w'.cell? ⟨P, 7, none⟩ = some (.int .i64 d.from_) ∧ w'.cell? ⟨P, 8, none⟩ = some (.int .i64 d.to_) ∧ w'.cell? ⟨P, 9, none⟩ = some (.string d.osite) ∧ w'.cell? ⟨P, 10, none⟩ = some (.int .i64 d.ono) ∧ w'.cell? ⟨P, 11, none⟩ = some (.string d.sum) ∧ w'.cell? ⟨g, off + j * 12, none⟩ = some (.string p.site) ∧ w'.cell? ⟨g, off + j * 12 + 1, none⟩ = some (.int .i64 p.no) ∧ w'.cell? ⟨g, off + j * 12 + 2, none⟩ = some (.int .i64 p.at_) ∧ w'.cell? ⟨g, off + j * 12 + 3, none⟩ = some (.int .i64 p.kind) ∧ w'.cell? ⟨g, off + j * 12 + 4, none⟩ = some (.string p.id) ∧ w'.cell? ⟨g, off + j * 12 + 5, none⟩ = some (.string p.fld) ∧ w'.cell? ⟨g, off + j * 12 + 6, none⟩ = some (.string p.val) ∧ w'.cell? ⟨g, off + j * 12 + 7, none⟩ = some (.int .i64 p.from_) ∧ w'.cell? ⟨g, off + j * 12 + 8, none⟩ = some (.int .i64 p.to_) ∧ w'.cell? ⟨g, off + j * 12 + 9, none⟩ = some (.string p.osite) ∧ w'.cell? ⟨g, off + j * 12 + 10, none⟩ = some (.int .i64 p.ono) ∧ w'.cell? ⟨g, off + j * 12 + 11, none⟩ = some (.string p.sum) ∧ Below w8.heap.size w8 w')
                (first | assumption | exact HHELD.out _ (Below.refl _ _).drew | exact HHELD.out _ hbx | exact HHELD.out _ (Below.refl _ _))
                (first | (go_at_call 75; (with_reducible refine Calls.mono (HSO.out _) ?_); rintro e wx ⟨rfl, hgx⟩; have hbx : Below w8.heap.size w8 wx := (by first | exact (Below.refl _ _).drew.trans hgx.below | exact hgx.below); clear hgx))
              all_goals
                go_wp2_with fail
                go_meet
                exact ⟨by rw [decide_eq_false (by omega)], hbx⟩
          case rest =>
            obtain ⟨rfl, hb9⟩ := hcut
            obtain ⟨w9, hw9⟩ : ∃ w9, w9 = wc := ⟨_, rfl⟩
            rw [← hw9] at hb9 ⊢
            have HB9 := Lib.hid (HB8.out.trans (hb9.mono HB8.out.size))
            have HD9 := Lib.hid (HD8.out.keep hb9)
            have HW9 : Hid (Below w.heap.size w w9) := HW5.out.trans (HB9.out.mono HW5.out.size)
            have HDFA := Lib.hid (deedFault_any d w9 HSML.out.2.1 (HTM.out w9 HW9.out).1 (HTM.out w9 HW9.out).2.1)
            unfold Deed.v at HDFA
            clear hb9 hw9 a0 a1 a2 a3 a4 a5 a6 a7 a8 a9 a10 a11
            obtain ⟨a0, a1, a2, a3, a4, a5, a6, a7, a8, a9, a10, a11⟩ := HD9.out.c
            go_upto_region 11 with (go_at_call 69; refine HDFA.out.mono ?_; rintro e w10 ⟨⟨f, rfl, hf⟩, hb10⟩; obtain rfl : f = 0 := hf.2 HGOOD.out; clear hf)
            have HB10 := Lib.hid (HB9.out.trans (hb10.mono HB9.out.size))
            have HD10 := Lib.hid (HD9.out.keep hb10)
            have HW10 : Hid (Below w.heap.size w w10) := HW5.out.trans (HB10.out.mono HW5.out.size)
            clear hb10 HDFA a0 a1 a2 a3 a4 a5 a6 a7 a8 a9 a10 a11
            obtain ⟨a0, a1, a2, a3, a4, a5, a6, a7, a8, a9, a10, a11⟩ := HD10.out.c
            go_cut [63] (fun v wx => v = .bool false ∧ Below w10.heap.size w10 wx)
            case first =>
              have HSA : Hid (∀ wx, Below w10.heap.size w10 wx → Calls Tryz.prog 114 #[.string before, .agg #[.string d.site, .int .i64 d.no, .int .i64 d.at_, .int .i64 d.kind, .string d.id, .string d.fld, .string d.val, .int .i64 d.from_, .int .i64 d.to_, .string d.osite, .int .i64 d.ono, .string d.sum]] wx fun e w' => e = .returned (.string d.sum) ∧ Below w10.heap.size w10 w') := fun wx hx => by
                have h := sumAfter_any before d wx HSML.out.1 hbsz HSML.out.2.2 (HTM.out wx (HW10.out.trans (hx.mono HW10.out.size))).2.2
                rw [← HSUM.out] at h
                exact h.mono fun e w' k => ⟨k.1, hx.trans (k.2.mono hx.size)⟩
              have HHELD : Hid (∀ w', Below w10.heap.size w10 w' → w'.cell? ⟨P, 0, none⟩ = some (.string d.site) ∧ w'.cell? ⟨P, 1, none⟩ = some (.int .i64 d.no) ∧ w'.cell? ⟨P, 2, none⟩ = some (.int .i64 d.at_) ∧ w'.cell? ⟨P, 3, none⟩ = some (.int .i64 d.kind) ∧ w'.cell? ⟨P, 4, none⟩ = some (.string d.id) ∧ w'.cell? ⟨P, 5, none⟩ = some (.string d.fld) ∧ w'.cell? ⟨P, 6, none⟩ = some (.string d.val) ∧ w'.cell? ⟨P, 7, none⟩ = some (.int .i64 d.from_) ∧ w'.cell? ⟨P, 8, none⟩ = some (.int .i64 d.to_) ∧ w'.cell? ⟨P, 9, none⟩ = some (.string d.osite) ∧ w'.cell? ⟨P, 10, none⟩ = some (.int .i64 d.ono) ∧ w'.cell? ⟨P, 11, none⟩ = some (.string d.sum) ∧ Below w10.heap.size w10 w') := fun w' hb => by
                obtain ⟨x0, x1, x2, x3, x4, x5, x6, x7, x8, x9, x10, x11⟩ := (HD10.out.keep hb).c
                exact ⟨x0, x1, x2, x3, x4, x5, x6, x7, x8, x9, x10, x11, hb⟩
              go_region_held3 (fun w' => w'.cell? ⟨P, 0, none⟩ = some (.string d.site) ∧ w'.cell? ⟨P, 1, none⟩ = some (.int .i64 d.no) ∧ w'.cell? ⟨P, 2, none⟩ = some (.int .i64 d.at_) ∧ w'.cell? ⟨P, 3, none⟩ = some (.int .i64 d.kind) ∧ w'.cell? ⟨P, 4, none⟩ = some (.string d.id) ∧ w'.cell? ⟨P, 5, none⟩ = some (.string d.fld) ∧ w'.cell? ⟨P, 6, none⟩ = some (.string d.val) ∧ w'.cell? ⟨P, 7, none⟩ = some (.int .i64 d.from_) ∧ w'.cell? ⟨P, 8, none⟩ = some (.int .i64 d.to_) ∧ w'.cell? ⟨P, 9, none⟩ = some (.string d.osite) ∧ w'.cell? ⟨P, 10, none⟩ = some (.int .i64 d.ono) ∧ w'.cell? ⟨P, 11, none⟩ = some (.string d.sum) ∧ Below w10.heap.size w10 w')
                (first | assumption | exact HHELD.out _ (Below.refl _ _).drew | exact HHELD.out _ hbx | exact HHELD.out _ (Below.refl _ _))
                (first | (go_at_call 114; (with_reducible refine Calls.mono (HSA.out _ ?_) ?_); (first | exact (Below.refl _ _).drew | exact Below.refl _ _); rintro e wx ⟨rfl, hbx⟩))
              all_goals
                go_wp2_with fail
                go_meet
                exact ⟨by first | rfl | simp, hbx⟩
            case rest =>
              obtain ⟨rfl, hb11⟩ := hcut
              have HW11 : Hid (Below w.heap.size w wc) := HW10.out.trans (hb11.mono HW10.out.size)
              clear hb11 a0 a1 a2 a3 a4 a5 a6 a7 a8 a9 a10 a11
              go_wp2_with fail
              go_roundg (gk - 1)
              case measure => exact Nat.sub_lt HGK.out.2 Nat.one_pos
              case rel => exact ⟨k + 1, HGK.out.1, by go_num, HW11.out⟩
    · have hnk : ¬ (k : Int) < (n : Int) := by omega
      obtain ⟨wd, hwd⟩ : ∃ wd : World, wd = wr := ⟨_, rfl⟩
      rw [← hwd] at HW ⊢
      have HWD := Lib.hid HW.out
      clear hwd HK hlt hkn HW
      go_wp2_with fail
      go_loopg [96] n (fun gk v wr => ∃ k : Nat, Hid (k + gk = n) ∧ v = .int .i64 (k : Int) ∧ Hid (Below w.heap.size w wr))
      case atStart => exact ⟨0, show 0 + n = n by omega, rfl, HWD.out⟩
      case round =>
        obtain ⟨k, HK, rfl, HW⟩ := hrel
        have hkn : k ≤ n := by have := HK.out; omega
        by_cases hlt : k < n
        · have HGK := Lib.hid (show k + 1 + (gk - 1) = n ∧ 0 < gk by have := HK.out; omega)
          obtain ⟨g, off, rfl, hg, hc⟩ := (ElemsAt.keep HA.out HW.out).deed (by omega)
          have hkl : k < l.length := by rw [← HN.out]; exact hlt
          obtain ⟨d, hd⟩ : ∃ d, l[k]? = some d := ⟨_, List.getElem?_eq_getElem hkl⟩
          obtain ⟨c0, c1, c2, c3, c4, c5, c6, c7, c8, c9, c10, c11⟩ := hc k d hd
          have hmem := List.mem_of_getElem? hd
          have HOF := Lib.hid (HL.out.ofs d hmem)
          have hal : Below wr.heap.size wr (wr.alloc (.cells #[.string d.site, .int .i64 d.no, .int .i64 d.at_, .int .i64 d.kind, .string d.id, .string d.fld, .string d.val, .int .i64 d.from_, .int .i64 d.to_, .string d.osite, .int .i64 d.ono, .string d.sum] 40)) := (Below.refl _ _).alloc (Nat.le_refl _) _
          have HD5 : Hid (DeedAt (wr.alloc (.cells #[.string d.site, .int .i64 d.no, .int .i64 d.at_, .int .i64 d.kind, .string d.id, .string d.fld, .string d.val, .int .i64 d.from_, .int .i64 d.to_, .string d.osite, .int .i64 d.ono, .string d.sum] 40)) wr.heap.size d) := deed_new wr d
          have HW5 := Lib.hid (HW.out.trans (hal.mono HW.out.size))
          clear hc hkl hd hg hmem hal HK
          go_upto_region 25 with (fail)
          obtain ⟨P, hP⟩ : ∃ P, P = wr.heap.size := ⟨_, rfl⟩
          rw [← hP] at HD5 ⊢
          generalize wr.alloc (.cells #[.string d.site, .int .i64 d.no, .int .i64 d.at_, .int .i64 d.kind, .string d.id, .string d.fld, .string d.val, .int .i64 d.from_, .int .i64 d.to_, .string d.osite, .int .i64 d.ono, .string d.sum] 40) = w5 at *
          clear hP c0 c1 c2 c3 c4 c5 c6 c7 c8 c9 c10 c11 HW
          obtain ⟨a0, a1, a2, a3, a4, a5, a6, a7, a8, a9, a10, a11⟩ := HD5.out.c
          by_cases hbk : d.kind = 3 ∨ d.kind = 6
          · have hbb : backB d.kind = true := by unfold backB; rcases hbk with h | h <;> rw [h] <;> rfl
            obtain ⟨x, hx, hxs, hxn, hpm⟩ := HOF.out hbb
            have HX := Lib.hid (And.intro hx (And.intro hxs (And.intro hxn hpm)))
            have HBK := Lib.hid hbk
            have HDO := Lib.hid (deedOf_any (some ⟨g, off, none⟩) n c l d.osite d.ono w5 (ElemsAt.keep HA.out HW5.out) (by omega))
            clear hbb hx hxs hxn hpm
            rcases hbk with hk3 | hk6
            all_goals
              go_wp2_with fail
              refine HDO.out.mono ?_
              rintro e w6 ⟨hdo, hb6⟩
              rcases hdo with ⟨y, hy, hys, hyn, rfl⟩ | ⟨hno, rfl⟩
              · have hyx : y = x := ord_uniq HL.out.ord hy HX.out.1 (hys.trans HX.out.2.1.symm) (hyn.trans HX.out.2.2.1.symm)
                subst hyx
                have HD6 := Lib.hid (HD5.out.keep hb6)
                have HW6 := Lib.hid (HW5.out.trans (hb6.mono HW5.out.size))
                have hal : Below w6.heap.size w6 (w6.alloc (.cells #[.string y.site, .int .i64 y.no, .int .i64 y.at_, .int .i64 y.kind, .string y.id, .string y.fld, .string y.val, .int .i64 y.from_, .int .i64 y.to_, .string y.osite, .int .i64 y.ono, .string y.sum] 40)) := (Below.refl _ _).alloc (Nat.le_refl _) _
                have HY7 : Hid (DeedAt (w6.alloc (.cells #[.string y.site, .int .i64 y.no, .int .i64 y.at_, .int .i64 y.kind, .string y.id, .string y.fld, .string y.val, .int .i64 y.from_, .int .i64 y.to_, .string y.osite, .int .i64 y.ono, .string y.sum] 40)) w6.heap.size y) := deed_new w6 y
                have HD7 := Lib.hid (HD6.out.keep hal)
                have HW7 := Lib.hid (HW6.out.trans (hal.mono HW6.out.size))
                have HPM := Lib.hid (fun wx => permitted_ok d y wx HX.out.2.2.2 HBK.out)
                clear hy hys hyn hb6 hal HD6 HW6 a0 a1 a2 a3 a4 a5 a6 a7 a8 a9 a10 a11
                unfold Deed.v at HPM ⊢
                first
                  | rw [hk3] at HPM
                  | rw [hk6] at HPM
                  | skip
                go_upto_region 27 with (fail)
                obtain ⟨Q, hQ⟩ : ∃ Q, Q = w6.heap.size := ⟨_, rfl⟩
                rw [← hQ] at HY7 ⊢
                generalize w6.alloc (.cells #[.string y.site, .int .i64 y.no, .int .i64 y.at_, .int .i64 y.kind, .string y.id, .string y.fld, .string y.val, .int .i64 y.from_, .int .i64 y.to_, .string y.osite, .int .i64 y.ono, .string y.sum] 40) = w7 at *
                clear hQ
                obtain ⟨a0, a1, a2, a3, a4, a5, a6, a7, a8, a9, a10, a11⟩ := HD7.out.c
                obtain ⟨b0, b1, b2, b3, b4, b5, b6, b7, b8, b9, b10, b11⟩ := HY7.out.c
                go_wp2_with fail
                refine (HPM.out _).mono ?_
                rintro e w8 ⟨rfl, hb8⟩
                have HW8 := Lib.hid (HW7.out.trans (hb8.mono HW7.out.size))
                clear hb8 a0 a1 a2 a3 a4 a5 a6 a7 a8 a9 a10 a11 b0 b1 b2 b3 b4 b5 b6 b7 b8 b9 b10 b11
                go_wp2_with fail
                go_roundg (gk - 1)
                case measure => exact Nat.sub_lt HGK.out.2 Nat.one_pos
                case rel => exact ⟨k + 1, HGK.out.1, by go_num, HW8.out⟩
              · exact absurd ⟨HX.out.2.1, HX.out.2.2.1⟩ (hno x HX.out.1)
          · have h3 : ¬ d.kind = 3 := fun e => hbk (.inl e)
            have h6 : ¬ d.kind = 6 := fun e => hbk (.inr e)
            have h3b : (d.kind == 3) = false := by simpa using h3
            have h6b : (d.kind == 6) = false := by simpa using h6
            have h3c : (d.kind != 3) = true := by simpa using h3
            have h6c : (d.kind != 6) = true := by simpa using h6
            clear hbk HOF
            go_wp2_with fail
            go_roundg (gk - 1)
            case measure => exact Nat.sub_lt HGK.out.2 Nat.one_pos
            case rel => exact ⟨k + 1, HGK.out.1, by go_num, HW5.out⟩
        · have hnk2 : ¬ (k : Int) < (n : Int) := by omega
          clear HK
          go_wp2_with fail
          go_ret2
          exact ⟨rfl, HW.out⟩
end Go.Proofs.YthogkcgklakibaaGreatDoor
