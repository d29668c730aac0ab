
/-
  What overlayError returns.
-/
import Derived.Test.YtbipkkebkddegaaGreatDoorOvFn
namespace Go.Proofs.YtbipkkebkddegaaGreatDoor
open Go.RowKit Go.Maps

theorem TinyT.small {T : Tab} (h : TinyT T) : SmallT T := ⟨by have := h.1; omega, fun r hr => ⟨by have := (h.2 r hr).1; omega, fun s hx => by have := (h.2 r hr).2 s hx; omega⟩⟩
theorem keysL_mem {T : Tab} {s : List UInt8} (h : s ∈ keysL T) : s = [] ∨ ∃ r ∈ T, s ∈ r := by
  unfold keysL at h
  obtain ⟨r, hr, rfl⟩ := List.mem_map.1 h
  cases r with
  | nil => exact .inl rfl
  | cons x r => exact .inr ⟨x :: r, List.mem_of_mem_drop hr, by simp⟩
theorem getD0_head (T : Tab) : T.getD 0 [] = T.headD [] := by cases T <;> rfl
theorem getD0_head' (r : List Str) : r.getD 0 [] = r.headD [] := by cases r <;> rfl
theorem two_slices (w : World) (A A2 : Option Addr) (n c m d : Nat) (t : TypeId) : (w.alloc (.cells #[.slice A n c, .slice A2 m d] t)).cell? ⟨w.heap.size, 0, none⟩ = some (.slice A n c) ∧ (w.alloc (.cells #[.slice A n c, .slice A2 m d] t)).cell? ⟨w.heap.size, 1, none⟩ = some (.slice A2 m d) := by
  constructor <;> rw [World.cell?_alloc_at _ _ _ _ rfl] <;> rfl
theorem when_same (b : Bool) (c : Int) (w : World) : Calls Tryz.prog 54 #[.bool b, .int .i64 c] w fun e w' => e = .returned (.int .i64 (whenE b c)) ∧ w' = w := (when_any b c w).mono fun _ _ h => ⟨h.1, h.2.symm⟩
theorem oveNo {w w' : World} {b o : Tab} (z : Int) (hz : z ≠ 0) (h : ¬ OvPre b o) (hb : Below w.heap.size w w') : OvePost w b o (.returned (.int .i64 z)) w' := ⟨z, rfl, ⟨fun e => absurd e hz, fun e => absurd e h⟩, hb⟩
set_option maxHeartbeats 3200000 in
set_option maxRecDepth 100000 in
theorem overlayError_any (A A2 : Option Addr) (n c m d : Nat) (b o : Tab) (w : World) (h : TabAt w A n c b) (h2 : TabAt w A2 m d o) (hs : TinyT b) (hs2 : TinyT o) (hT : Tabs w) :
    Calls Tryz.prog 46 #[.slice A n c, .slice A2 m d] w (OvePost w b o) := by
  have HR1 := Lib.hid (rowsError_any A n c b w h hs.small hT)
  have HR2 := Lib.hid (fun wx (hb : Below w.heap.size w wx) => rowsError_any A2 m d o wx (h2.keep hb) hs2.small (hT.below hb))
  have HB := Lib.hid h
  have HO := Lib.hid h2
  have HNB := Lib.hid h.len
  have HNO := Lib.hid h2.len
  have HSB := Lib.hid hs
  have HSO := Lib.hid hs2
  have hn : n ≤ 10 := by have := h.len; have := hs.1; omega
  have hm : m ≤ 10 := by have := h2.len; have := hs2.1; omega
  have HZB := Lib.hid (rowsOk_iff b (by have := hs.1; omega))
  have HZO := Lib.hid (rowsOk_iff o (by have := hs2.1; omega))
  clear h h2 hs hs2 hT
  go_enter Tryz.func46, Tryz.ntmps46
  go_wp2_with fail
  refine HR1.out.mono ?_
  rintro e w1 ⟨rfl, hb1⟩
  have HB1 := Lib.hid hb1
  clear hb1 HR1
  go_wp2_with fail
  refine (HR2.out w1 HB1.out).mono ?_
  rintro e w2 ⟨rfl, hb2⟩
  have HB2 := Lib.hid (HB1.out.trans (hb2.mono HB1.out.size))
  have hz2 := HB2.out.size
  clear hb2 HR2 HB1
  generalize rowsE b = z1 at *
  generalize rowsE o = z2 at *
  by_cases hn0 : n = 0
  · subst hn0
    have HNP : Hid (¬ OvPre b o) := fun h => h.nb (List.eq_nil_of_length_eq_zero HNB.out.symm)
    have HZ : Hid (firstE [z1, z2, whenE true 8] ≠ 0) := fun e => by have := (firstE_3 _ _ _).1 e; simp [whenE] at this
    go_wp2_with fail
    refine (when_any _ _ _).mono ?_
    rintro e w' ⟨rfl, hw⟩
    subst hw
    go_wp2_with fail
    refine (first_3' _ _ _ w2 _).mono ?_
    rintro e w' ⟨rfl, hw⟩
    subst hw
    have HF : Hid (OvePost w b o (.returned (.int .i64 (firstE [z1, z2, whenE true 8]))) (w2.alloc (.cells #[.int .i64 z1, .int .i64 z2, .int .i64 (whenE true 8)] 28))) := oveNo _ HZ.out HNP.out (HB2.out.alloc hz2 _)
    have hzb : (firstE [z1, z2, whenE true 8] != 0) = true := by simpa using HZ.out
    generalize firstE [z1, z2, whenE true 8] = z at *
    go_wp2_with fail
    go_ret
    exact HF.out
  · have q1 : ((n : Int) == 0) = false := by simp; omega
    by_cases hm0 : m = 0
    · subst hm0
      have HNP : Hid (¬ OvPre b o) := fun h => h.no (List.eq_nil_of_length_eq_zero HNO.out.symm)
      have HZ : Hid (firstE [z1, z2, whenE true 8] ≠ 0) := fun e => by have := (firstE_3 _ _ _).1 e; simp [whenE] at this
      go_wp2_with fail
      refine (when_any _ _ _).mono ?_
      rintro e w' ⟨rfl, hw⟩
      subst hw
      go_wp2_with fail
      refine (first_3' _ _ _ w2 _).mono ?_
      rintro e w' ⟨rfl, hw⟩
      subst hw
      have HF : Hid (OvePost w b o (.returned (.int .i64 (firstE [z1, z2, whenE true 8]))) (w2.alloc (.cells #[.int .i64 z1, .int .i64 z2, .int .i64 (whenE true 8)] 28))) := oveNo _ HZ.out HNP.out (HB2.out.alloc hz2 _)
      have hzb : (firstE [z1, z2, whenE true 8] != 0) = true := by simpa using HZ.out
      generalize firstE [z1, z2, whenE true 8] = z at *
      go_wp2_with fail
      go_ret
      exact HF.out
    · have q2 : ((m : Int) == 0) = false := by simp; omega
      go_wp2_with fail
      refine (when_any _ _ _).mono ?_
      rintro e w' ⟨rfl, hw⟩
      subst hw
      go_wp2_with fail
      refine (first_3' _ _ _ w2 _).mono ?_
      rintro e w' ⟨rfl, hw⟩
      subst hw
      by_cases hz : firstE [z1, z2, whenE false 8] = 0
      · obtain ⟨e1, e2, -⟩ := (firstE_3 _ _ _).1 hz
        have HOB := Lib.hid (HZB.out.1 e1)
        have HOO := Lib.hid (HZO.out.1 e2)
        have HPI := Lib.hid (ovPre_of HOB.out HOO.out (fun e => hn0 (by rw [HNB.out, e]; rfl)) (fun e => hm0 (by rw [HNO.out, e]; rfl)))
        rw [hz]
        have HB3 : Hid (Below w.heap.size w (w2.alloc (.cells #[.int .i64 z1, .int .i64 z2, .int .i64 (whenE false 8)] 28))) := HB2.out.alloc hz2 _
        generalize w2.alloc (.cells #[.int .i64 z1, .int .i64 z2, .int .i64 (whenE false 8)] 28) = w3 at *
        clear hz e1 e2 HB2 HZB HZO hz2
        have hz3 := HB3.out.size
        have HTS := Lib.hid (two_slices w3 A A2 n c m d 26)
        have HB4 : Hid (Below w.heap.size w (w3.alloc (.cells #[.slice A n c, .slice A2 m d] 26))) := HB3.out.alloc hz3 _
        have hz4 : w3.heap.size < (w3.alloc (.cells #[.slice A n c, .slice A2 m d] 26)).heap.size := by simp
        go_wp2_with fail
        generalize w3.alloc (.cells #[.slice A n c, .slice A2 m d] 26) = w4 at *
        generalize w3.heap.size = B0 at *
        have hn1 : 1 ≤ n := by omega
        have hm1 : 1 ≤ m := by omega
        clear hn0 hm0 HB3
        go_loopg [30] 2 (fun gk v wr => ∃ k : Nat, Hid (k + gk = 2) ∧ v = .int .i64 (k : Int) ∧ Hid (Below w4.heap.size w4 wr) ∧ Hid (1 ≤ k → DiffT b) ∧ Hid (2 ≤ k → DiffT o))
        case atStart => exact ⟨0, show 0 + 2 = 2 by omega, rfl, Below.refl _ _, (show _ → _ from fun h => by omega), (show _ → _ from fun h => by omega)⟩
        case round =>
          obtain ⟨k, HK, rfl, HW, HD1, HD2⟩ := hrel
          have hk2 : k ≤ 2 := by have := HK.out; omega
          have HWW := Lib.hid (HB4.out.trans (HW.out.mono HB4.out.size))
          have hwz := HWW.out.size
          by_cases hlt : k < 2
          · obtain ⟨X, xn, xc, XT, hcX, HXT, HXS, HXO, hx1, hx10, HXN, HXD⟩ : ∃ (X : Option Addr) (xn xc : Nat) (XT : Tab), wr.cell? ⟨B0, k, none⟩ = some (.slice X xn xc) ∧ Hid (TabAt w X xn xc XT) ∧ Hid (TinyT XT) ∧ Hid (rowsOk XT) ∧ 1 ≤ xn ∧ xn ≤ 10 ∧ Hid (¬ DiffT XT → ¬ OvPre b o) ∧ Hid (DiffT XT → (1 ≤ k + 1 → DiffT b) ∧ (2 ≤ k + 1 → DiffT o)) := by
              rcases (show k = 0 ∨ k = 1 by omega) with rfl | rfl
              · exact ⟨A, n, c, b, (HW.out.cell (p := ⟨B0, 0, none⟩) hz4).trans HTS.out.1, HB.out, HSB.out, HOB.out, hn1, hn, fun h1 h2 => h1 ⟨h2.hb, h2.kb⟩, fun h1 => ⟨fun _ => h1, fun h2 => by omega⟩⟩
              · exact ⟨A2, m, d, o, (HW.out.cell (p := ⟨B0, 1, none⟩) hz4).trans HTS.out.2, HO.out, HSO.out, HOO.out, hm1, hm, fun h1 h2 => h1 ⟨h2.ho, h2.ko⟩, fun h1 => ⟨fun _ => HD1.out (by omega), fun _ => h1⟩⟩
            obtain ⟨g, off, rfl, hg, hc⟩ := (TabAt.keep HXT.out HWW.out).row (by omega)
            obtain ⟨R, rn, rc, hck, hRow⟩ := hc 0 (by omega)
            rw [Nat.add_zero] at hck
            rw [getD0_head] at hRow
            have HXT2 := Lib.hid (TabAt.keep HXT.out HWW.out)
            have hhm : XT.headD [] ∈ XT := by
              have := HXT.out.len
              cases XT with
              | nil => simp at this; omega
              | cons r R => simp
            have hhs := HXS.out.2 _ hhm
            have hrl := hRow.1
            have HTW := Lib.hid (twice_any R rn rc (XT.headD []) wr hRow (by omega) (fun s hs => by have := hhs.2 s hs; omega))
            have HKY := Lib.hid (fun wx (hb : Below wr.heap.size wr wx) => keys_any (some ⟨g, off, none⟩) xn xc XT wx (HXT2.out.keep hb) (by omega) hx1 (fun r hr => (HXO.out.2 r hr).1))
            have HKL : Hid (∀ s ∈ keysL XT, s.length ≤ 1000000) := fun s hs => by
              rcases keysL_mem hs with rfl | ⟨r, hr, hs2⟩
              · simp
              · have := (HXS.out.2 r hr).2 s hs2; omega
            have HKN : Hid ((keysL XT).length ≤ 1000) := by
              show _ ≤ _
              unfold keysL
              rw [List.length_map, List.length_drop]
              have := HXS.out.1; omega
            clear hc hRow hhm hhs hrl
            go_wp2_with fail
            refine HTW.out.mono ?_
            rintro e w5 ⟨rfl, hb5⟩
            have HB5 := Lib.hid hb5
            have HW5 := Lib.hid (HWW.out.trans (hb5.mono hwz))
            clear hb5 HTW
            by_cases hd1 : (XT.headD []).Nodup
            · rw [show decide (¬ (XT.headD []).Nodup) = false from decide_eq_false (fun h => h hd1)]
              have HDD := Lib.hid hd1
              clear hd1
              go_wp2_with fail
              refine (HKY.out w5 HB5.out).mono ?_
              rintro e w6 ⟨v6, rfl, ho6, hb6⟩
              obtain ⟨A6, c6, rfl, -, hat6, -⟩ := ho6.at_ strE_ok
              have HB6 := Lib.hid (HB5.out.trans (hb6.mono HB5.out.size))
              have HW6 := Lib.hid (HW5.out.trans (hb6.mono HW5.out.size))
              have HTW2 := Lib.hid (twice_any A6 _ c6 (keysL XT) w6 hat6 HKN.out HKL.out)
              clear ho6 hb6 hat6 HKY
              generalize (keysL XT).length = kn at *
              go_wp2_with fail
              refine HTW2.out.mono ?_
              rintro e w7 ⟨rfl, hb7⟩
              have HW7 := Lib.hid (HW6.out.trans (hb7.mono HW6.out.size))
              have HB7 := Lib.hid (HB6.out.trans (hb7.mono HB6.out.size))
              clear hb7 HTW2
              by_cases hd2 : (keysL XT).Nodup
              · rw [show decide (¬ (keysL XT).Nodup) = false from decide_eq_false (fun h => h hd2)]
                have HDX := Lib.hid (HXD.out ⟨HDD.out, hd2⟩)
                clear hd2
                go_wp2_with fail
                go_roundg (gk - 1)
                case measure => have := HK.out; omega
                case rel => exact ⟨k + 1, show k + 1 + (gk - 1) = 2 by have := HK.out; omega, by go_num, HW.out.trans (HB7.out.mono HW.out.size), HDX.out.1, HDX.out.2⟩
              · rw [show decide (¬ (keysL XT).Nodup) = true from decide_eq_true hd2]
                have HF := Lib.hid (oveNo (w := w) (b := b) (o := o) 6 (by decide) (HXN.out (fun h => hd2 h.2)) HW7.out)
                clear hd2
                go_wp2_with fail
                go_ret
                exact HF.out
            · rw [show decide (¬ (XT.headD []).Nodup) = true from decide_eq_true hd1]
              have HF := Lib.hid (oveNo (w := w) (b := b) (o := o) 6 (by decide) (HXN.out (fun h => hd1 h.1)) HW5.out)
              clear hd1
              go_wp2_with fail
              go_ret
              exact HF.out
          · obtain rfl : k = 2 := by omega
            have HPI2 := Lib.hid (HPI.out (HD1.out (by omega)) (HD2.out (by omega)))
            obtain ⟨g, off, rfl, hg, hc⟩ := (TabAt.keep HB.out HWW.out).row (by omega)
            obtain ⟨R, rn, rc, hck, hRow⟩ := hc 0 (by omega)
            rw [Nat.add_zero] at hck
            rw [getD0_head] at hRow
            obtain ⟨g', off', rfl, hg', hc'⟩ := (TabAt.keep HO.out HWW.out).row (by omega)
            obtain ⟨R', rn', rc', hck', hRow'⟩ := hc' 0 (by omega)
            rw [Nat.add_zero] at hck'
            rw [getD0_head] at hRow'
            have hm1' : b.headD [] ∈ b := by
              have := HNB.out
              cases b with
              | nil => simp at this; omega
              | cons r R => simp
            have hm2' : o.headD [] ∈ o := by
              have := HNO.out
              cases o with
              | nil => simp at this; omega
              | cons r R => simp
            have hr1 := (HOB.out.2 _ hm1').1
            have hr2 := (HOO.out.2 _ hm2').1
            have hl1 := hRow.1
            have hl2 := hRow'.1
            have hrn : 0 < rn := by omega
            have hrn' : 0 < rn' := by omega
            obtain ⟨p, q, rfl, hp, hcp⟩ := hRow.str hrn
            obtain ⟨p', q', rfl, hp', hcp'⟩ := hRow'.str hrn'
            have hx := hcp 0 hrn
            have hx' := hcp' 0 hrn'
            rw [Nat.add_zero, getD0_head'] at hx hx'
            clear hc hc' hRow hRow' hm1' hm2' hr1 hr2 hl1 hl2 hcp hcp' hg hg' hp hp' HD1 HD2 HPI
            generalize (b.headD []).headD [] = x at *
            generalize (o.headD []).headD [] = x' at *
            have h0n : 0 < n := by omega
            have h0m : 0 < m := by omega
            go_wp2_with fail
            go_quiet ((go_at_call 54; with_reducible exact Calls.quiet_of_same (when_same _ _ _)))
            go_wp2_with fail
            go_ret
            refine ⟨whenE (!x == x') 3, rfl, ?_, below_drewN HWW.out _⟩
            rw [HPI2.out]
            by_cases hxx : x = x'
            · subst hxx; simp [whenE]
            · simp [whenE, hxx]
      · have HNP : Hid (¬ OvPre b o) := fun h => hz ((firstE_3 _ _ _).2 ⟨HZB.out.2 h.rb, HZO.out.2 h.ro, rfl⟩)
        have HF : Hid (OvePost w b o (.returned (.int .i64 (firstE [z1, z2, whenE false 8]))) (w2.alloc (.cells #[.int .i64 z1, .int .i64 z2, .int .i64 (whenE false 8)] 28))) := oveNo _ hz HNP.out (HB2.out.alloc hz2 _)
        have hzb : (firstE [z1, z2, whenE false 8] != 0) = true := by simpa using hz
        clear hz
        generalize firstE [z1, z2, whenE false 8] = z at *
        go_wp2_with fail
        go_ret
        exact HF.out
end Go.Proofs.YtbipkkebkddegaaGreatDoor
