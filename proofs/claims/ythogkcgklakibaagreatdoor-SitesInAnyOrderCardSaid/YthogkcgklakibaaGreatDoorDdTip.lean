
/-
  chaseref1.TipDeed and siteFault.
-/
import Derived.Test.YthogkcgklakibaaGreatDoorDdOf
import Derived.Test.YthogkcgklakibaaGreatDoorKeyD
import Derived.BigQuiet
namespace Go.Proofs.YthogkcgklakibaaGreatDoor
open Go.RowKit
attribute [local go_sem ↓] Go.wp_at_zero Go.wp_at_succ

set_option maxHeartbeats 1600000 in
set_option maxRecDepth 100000 in
theorem tipDeed_any (A : Option Addr) (n c : Nat) (l : List Deed) (s : ByteArray) (w : World) (h : DeedsAt w A n c l) (hn2 : n ≤ 100000) :
    Calls Tryz.prog 113 #[.slice A n c, .string s] w fun e w' => e = .returned (.tuple #[.int .i64 (tipD l s).1, .string (tipD l s).2]) ∧ Below w.heap.size w w' := by
  have HN : Hid (n = l.length) := h.1
  have HA := Lib.hid h
  clear h
  go_enter Tryz.func113, Tryz.ntmps113
  go_wp2_with fail
  go_loopg [6, 7, 12] n (fun gk v6 v7 v wr => ∃ k : Nat, Hid (k + gk = n) ∧ v = .int .i64 (k : Int) ∧ v6 = .int .i64 (tipD (l.take k) s).1 ∧ v7 = .string (tipD (l.take k) s).2 ∧ Hid (Below w.heap.size w wr))
  case atStart => exact ⟨0, show 0 + n = n by omega, rfl, rfl, rfl, Below.refl _ _⟩
  case round =>
    obtain ⟨k, HK, rfl, rfl, rfl, HW⟩ := hrel
    have hkn : k ≤ n := by have := HK.out; omega
    by_cases hlt : k < n
    · have HGK := Lib.hid (show k + 1 + (gk - 1) = n ∧ 0 < gk by have := HK.out; omega)
      obtain ⟨g, off, rfl, hg, hc⟩ := (ElemsAt.keep HA.out HW.out).deed (by omega)
      have hkl : k < l.length := by rw [← HN.out]; exact hlt
      obtain ⟨d, hd⟩ : ∃ d, l[k]? = some d := ⟨_, List.getElem?_eq_getElem hkl⟩
      obtain ⟨c0, c1, c2, c3, c4, c5, c6, c7, c8, c9, c10, c11⟩ := hc k d hd
      have HTK : Hid (tipD (l.take (k + 1)) s = if byteL d.site = byteL s then (d.no, d.sum) else tipD (l.take k) s) := by
        show _ = _
        obtain ⟨h1, h2⟩ := List.getElem?_eq_some_iff.1 hd
        rw [List.take_succ_eq_append_getElem h1, h2, tipD_snoc]
      have hal : Below wr.heap.size wr (wr.alloc (.cells #[.string d.site, .int .i64 d.no, .int .i64 d.at_, .int .i64 d.kind, .string d.id, .string d.fld, .string d.val, .int .i64 d.from_, .int .i64 d.to_, .string d.osite, .int .i64 d.ono, .string d.sum] 40)) := (Below.refl _ _).alloc (Nat.le_refl _) _
      have HD5 : Hid (DeedAt (wr.alloc (.cells #[.string d.site, .int .i64 d.no, .int .i64 d.at_, .int .i64 d.kind, .string d.id, .string d.fld, .string d.val, .int .i64 d.from_, .int .i64 d.to_, .string d.osite, .int .i64 d.ono, .string d.sum] 40)) wr.heap.size d) := deed_new wr d
      have HW5 := Lib.hid (HW.out.trans (hal.mono HW.out.size))
      clear hc hkl hd hg hal HK
      go_upto_region 5 with (fail)
      obtain ⟨P, hP⟩ : ∃ P, P = wr.heap.size := ⟨_, rfl⟩
      rw [← hP] at HD5 ⊢
      generalize wr.alloc (.cells #[.string d.site, .int .i64 d.no, .int .i64 d.at_, .int .i64 d.kind, .string d.id, .string d.fld, .string d.val, .int .i64 d.from_, .int .i64 d.to_, .string d.osite, .int .i64 d.ono, .string d.sum] 40) = w5 at *
      clear hP c0 c1 c2 c3 c4 c5 c6 c7 c8 c9 c10 c11 HW
      obtain ⟨a0, a1, a2, a3, a4, a5, a6, a7, a8, a9, a10, a11⟩ := HD5.out.c
      have q := bytes_eqD d.site s
      have f1 : ∀ q, (w5.drewN q).cell? ⟨P, 1, none⟩ = some (.int .i64 d.no) := fun _ => a1
      have f11 : ∀ q, (w5.drewN q).cell? ⟨P, 11, none⟩ = some (.string d.sum) := fun _ => a11
      by_cases hs : d.site = s
      · rw [decide_eq_true hs] at q
        have HT2 : Hid (tipD (l.take (k + 1)) s = (d.no, d.sum)) := by show _ = _; rw [HTK.out, if_pos (by rw [hs])]
        clear hs
        go_wp2_with fail
        go_quiet (fail)
        go_wp2_with fail
        go_roundg (gk - 1)
        case measure => exact Nat.sub_lt HGK.out.2 Nat.one_pos
        case rel => exact ⟨k + 1, HGK.out.1, by go_num, by rw [HT2.out], by rw [HT2.out], below_drewN HW5.out _⟩
      · rw [decide_eq_false hs] at q
        have HT2 : Hid (tipD (l.take (k + 1)) s = tipD (l.take k) s) := by show _ = _; rw [HTK.out, if_neg (fun e => hs (byteL_inj e))]
        clear hs
        go_wp2_with fail
        go_roundg (gk - 1)
        case measure => exact Nat.sub_lt HGK.out.2 Nat.one_pos
        case rel => exact ⟨k + 1, HGK.out.1, by go_num, by rw [HT2.out], by rw [HT2.out], HW5.out⟩
    · have hnk : ¬ (k : Int) < (n : Int) := by omega
      have hta : l.take k = l := List.take_of_length_le (by have := HN.out; omega)
      rw [hta]
      clear hta
      go_wp2_with fail
      go_ret2
      exact ⟨rfl, HW.out⟩
set_option maxHeartbeats 800000 in
set_option maxRecDepth 100000 in
theorem siteFault_any (A : Option Addr) (n c : Nat) (s : ByteArray) (z : Int) (w : World) (hs : s.size ≤ 1000) (hk : keyL (byteL s) = true) (hn : n < 2000) :
    Calls Tryz.prog 68 #[.slice A n c, .string s, .int .i64 z] w fun e w' => e = .returned (.int .i64 (if momB z then 0 else 1)) ∧ Below w.heap.size w w' := by
  have HK := keyOf_any s w (by omega)
  rw [show s.data.toList = byteL s from rfl, hk] at HK
  have HKO := Lib.hid HK
  have HMO := Lib.hid (fun wx => moment1_any z wx)
  have hnn : ¬ (n : Int) = 2000 := by omega
  have hnb : ((n : Int) == 2000) = false := by simp; omega
  clear HK hk
  generalize momB z = mb at *
  go_enter Tryz.func68, Tryz.ntmps68
  go_wp2_with fail
  refine HKO.out.mono ?_
  rintro e w2 ⟨rfl, hb2⟩
  have HB2 := Lib.hid hb2
  clear hb2 HKO
  cases mb with
  | true =>
    go_wp2_with (go_at_call 111; refine (HMO.out _).mono ?_; rintro e w3 ⟨rfl, hw⟩; obtain rfl := hw.symm)
    go_ret
    exact ⟨rfl, HB2.out⟩
  | false =>
    go_wp2_with (go_at_call 111; refine (HMO.out _).mono ?_; rintro e w3 ⟨rfl, hw⟩; obtain rfl := hw.symm)
    go_ret
    exact ⟨rfl, HB2.out⟩
end Go.Proofs.YthogkcgklakibaaGreatDoor
