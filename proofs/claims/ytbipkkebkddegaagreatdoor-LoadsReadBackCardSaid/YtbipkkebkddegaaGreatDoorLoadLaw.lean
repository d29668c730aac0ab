
/-
  LoadsReadBack returns true.
-/
import Derived.Test.YtbipkkebkddegaaGreatDoorOverlay
import Derived.Test.YtbipkkebkddegaaGreatDoorReadLoad
import Derived.Test.YtbipkkebkddegaaGreatDoorSame
import Derived.Test.YtbipkkebkddegaaGreatDoorNumb
import Derived.Test.YtbipkkebkddegaaGreatDoorStreamNew
namespace Go.Proofs.YtbipkkebkddegaaGreatDoor
open Go.RowKit

theorem over_tiny {b o : Tab} (h : OverOk b o) (hs : TinyT b) (hs2 : TinyT o) : TinyT (overL b o) := by
  refine ⟨by rw [over_len h]; exact hs.1, fun r hr => ⟨by have h1 := over_lens h r hr; have h2 := h.few; omega, ?_⟩⟩
  have hhs : ∀ (o0 b0 : List (List UInt8)), (∀ s ∈ b0, s.length ≤ 20) → (∀ s ∈ o0, s.length ≤ 20) → ∀ s ∈ headsL b0 o0, s.length ≤ 20 := by
    intro o0
    induction o0 with
    | nil => intro b0 h1 _; exact h1
    | cons x o0 ih =>
      intro b0 h1 h2
      show ∀ s ∈ headsL (if x ∈ b0 then b0 else b0 ++ [x]) o0, _
      refine ih _ (fun s hs => ?_) (fun s hs => h2 s (List.mem_cons_of_mem _ hs))
      by_cases hm : x ∈ b0
      · rw [if_pos hm] at hs; exact h1 s hs
      · rw [if_neg hm] at hs
        rcases List.mem_append.1 hs with hs | hs
        · exact h1 s hs
        · rw [List.mem_singleton] at hs; subst hs; exact h2 _ (by simp)
  have hb0 : ∀ s ∈ b.headD [], s.length ≤ 20 := by
    cases b with
    | nil => intro s hs; simp at hs
    | cons r R => exact (hs.2 r (by simp)).2
  have ho0 : ∀ s ∈ o.headD [], s.length ≤ 20 := by
    cases o with
    | nil => intro s hs; simp at hs
    | cons r R => exact (hs2.2 r (by simp)).2
  refine run_strs (fun s => s.length ≤ 20) _ _ (fun r hr => ?_) (fun w hw => ?_) r hr
  · unfold baseT at hr
    rcases List.mem_cons.1 hr with rfl | hr
    · exact hhs _ _ hb0 ho0
    · obtain ⟨q, hq, rfl⟩ := List.mem_map.1 hr
      intro s hx
      unfold padR at hx
      rcases List.mem_append.1 hx with hx | hx
      · exact (hs.2 q (List.mem_of_mem_drop hq)).2 s hx
      · rw [(List.mem_replicate.1 hx).2]; simp
  · obtain ⟨r, hr, i, s, h1, h2, h3, h4, h5, rfl⟩ := overW_mem h hw
    exact (hs2.2 r (List.mem_of_mem_drop hr)).2 s (List.mem_of_getElem? h3)
set_option maxHeartbeats 3200000 in
set_option maxRecDepth 100000 in
theorem loadLaw_any (A : Option Addr) (n c : Nat) (w : World) (hrow : RowAt w A n) (hbig : n ≤ 1000000000000000) (hM : MaxAt w) (hT : Tabs w) :
    Calls Tryz.prog 3 #[.slice A n c] w (LawPost w) := by
  have hst := stream_new w A n c hrow hbig
  have hB : Below w.heap.size w (w.alloc (.cells #[.slice A n c, .int .i64 0] 25)) := (Below.refl _ _).alloc (Nat.le_refl _) _
  have hz0 : w.heap.size < (w.alloc (.cells #[.slice A n c, .int .i64 0] 25)).heap.size := by simp
  have hrr : ∀ k, some w.heap.size = some k → w.heap.size ≤ k := fun k hk => by injection hk with hk; omega
  have HMX := Lib.hid hM
  have HTX := Lib.hid hT
  clear hrow hM hT
  go_enter Tryz.func3, Tryz.ntmps3
  go_upto_region 2 with (fail)
  have HL := Lib.hid (loadRows_any w.heap.size A n c 0 _ hst (by omega))
  have HB := Lib.hid hB
  clear hst hB
  generalize w.alloc (.cells #[.slice A n c, .int .i64 0] 25) = w1 at *
  go_wp2_with fail
  refine HL.out.mono ?_
  rintro e w2 ⟨v2, rs, T, rfl, hp2, ht2, hs2, hg2⟩
  have HB2 := Lib.hid (HB.out.grown hg2 HB.out.size hrr)
  have HP2 := Lib.hid hp2
  have HT2 := Lib.hid ht2
  have HS2 := Lib.hid hs2
  obtain ⟨A2, c2, rfl, -, htab2, -⟩ := hp2.tab
  have HTAB2 := Lib.hid htab2
  have HPR := Lib.hid (printLoad_any A2 T.length c2 T w2 htab2 ht2 (HTX.out.below HB2.out))
  have hgz : w.heap.size < w1.heap.size := hz0
  clear HL hg2 HB hp2 hs2 htab2 ht2 hz0
  go_wp2_with fail
  refine HPR.out.mono ?_
  rintro e w3 ⟨rfl, hb3⟩
  have HB23 := Lib.hid hb3
  have HB3 := Lib.hid (HB2.out.trans (hb3.mono HB2.out.size))
  clear hb3 HPR
  by_cases hz : rowsE T ≠ 0
  · have hzb : (rowsE T != 0) = true := by simpa using hz
    have HLF := Lib.hid (fun wx (hb : Below w3.heap.size w3 wx) => loadFault_any A2 T.length c2 T wx ((HTAB2.out.keep HB23.out).keep hb) HT2.out.small (HTX.out.below (HB3.out.trans (hb.mono HB3.out.size))))
    rw [if_neg hz]
    clear hz
    generalize rowsE T = z at *
    go_wp2_with fail
    refine (produces_any w3).mono ?_
    rintro e w4 ⟨rfl, hb4⟩
    have HB4 := Lib.hid (HB3.out.trans (hb4.mono HB3.out.size))
    have HLF4 := Lib.hid (HLF.out w4 hb4)
    clear hb4 HLF
    go_wp2_with fail
    refine HLF4.out.mono ?_
    rintro e w5 ⟨rfl, hb5⟩
    have HB5 := Lib.hid (HB4.out.trans (hb5.mono HB4.out.size))
    clear hb5 HLF4
    go_wp2_with fail
    go_ret
    exact ⟨by simp, HB5.out⟩
  · have hz' : rowsE T = 0 := Decidable.not_not.1 hz
    rw [if_pos hz', hz']
    have HRD := Lib.hid (readLoad_any T w3 HT2.out hz' (HMX.out.below HB3.out) (HTX.out.below HB3.out))
    clear hz hz'
    generalize bag (loadT T) = t at *
    go_wp2_with fail
    refine HRD.out.mono ?_
    rintro e w4 ⟨v4, rs4, rfl, hp4, hb4⟩
    have HB4 := Lib.hid (HB3.out.trans (hb4.mono HB3.out.size))
    have HB24 := Lib.hid (HB23.out.trans (hb4.mono HB23.out.size))
    obtain ⟨A4, c4, rfl, -, htab4, -⟩ := hp4.tab
    have HSM := Lib.hid (sameTable_any A2 A4 T.length c2 T.length c4 T w4 (HTAB2.out.keep HB24.out) htab4 HT2.out.small)
    clear hp4 hb4 htab4 HRD
    generalize hTl : T.length = tl at *
    have HTL := Lib.hid hTl
    clear hTl
    go_wp2_with fail
    refine HSM.out.mono ?_
    rintro e w5 ⟨rfl, hb5⟩
    have HB5 := Lib.hid (HB4.out.trans (hb5.mono HB4.out.size))
    have HB25 := Lib.hid (HB24.out.trans (hb5.mono HB24.out.size))
    clear hb5 HSM
    have hz25 := HB25.out.size
    have HP5 : Hid (ParasAt w5 w1.heap.size (.slice A2 tl c2) rs T) := HP2.out.below HB25.out
    have HOV := Lib.hid (overRows_any w.heap.size A n c (0 + 100) w1.heap.size _ rs T w5 (HS2.out.below HB25.out) (by omega) HP5.out hgz HT2.out)
    go_wp2_with fail
    refine HOV.out.mono ?_
    rintro e w6 ⟨v6, rs6, O, rfl, hp6, ht6, -, hg6⟩
    have HB6 := Lib.hid (HB5.out.grown hg6 HB5.out.size hrr)
    have HP6 : Hid (ParasAt w6 w1.heap.size (.slice A2 tl c2) rs T) := HP5.out.kept_ hg6 (fun i e => by cases e; omega)
    have HTO := Lib.hid ht6
    obtain ⟨A6, c6, rfl, -, htab6, -⟩ := hp6.tab
    have HTB6 := Lib.hid htab6
    obtain ⟨A2', c2', hv2, -, htabT, -⟩ := HP6.out.tab
    rw [HTL.out] at hv2 htabT
    simp only [Value.slice.injEq, true_and] at hv2
    obtain ⟨rfl, rfl⟩ := hv2
    have HOY := Lib.hid (overlay_any A2 A6 tl c2 O.length c6 T O w6 htabT htab6 HT2.out ht6 (HTX.out.below HB6.out))
    clear HOV hp6 ht6 hg6 htab6 htabT HP5
    generalize hOl : O.length = ol at *
    clear hOl
    go_wp2_with fail
    refine HOY.out.mono ?_
    rintro e w7 ⟨v7, rs7, z, rfl, hz0, -, hb7⟩
    have HB7 := Lib.hid (HB6.out.trans (hb7.mono HB6.out.size))
    by_cases hzz : z ≠ 0
    · have hzb : (z != 0) = true := by simpa using hzz
      clear hz0 hb7 hzz
      go_wp2_with fail
      refine (produces_any w7).mono ?_
      rintro e w8 ⟨rfl, hb8⟩
      have HB8 := Lib.hid (HB7.out.trans (hb8.mono HB7.out.size))
      clear hb8
      go_wp2_with fail
      go_ret
      exact ⟨rfl, HB8.out⟩
    · have hze : z = 0 := Decidable.not_not.1 hzz
      subst hze
      obtain ⟨hok, hp7⟩ := hz0 rfl
      have HOK := Lib.hid hok
      have HTN := Lib.hid (over_tiny hok HT2.out HTO.out)
      obtain ⟨A7, c7, rfl, -, htab7, -⟩ := hp7.tab
      have HTB7 := Lib.hid htab7
      have HOY2 := Lib.hid (overlay_any A7 A6 _ c7 ol c6 (overL T O) O w7 htab7 (HTB6.out.keep hb7) HTN.out HTO.out (HTX.out.below HB7.out))
      clear hok hp7 hb7 htab7 hzz HOY
      generalize (overL T O).length = nl at *
      go_wp2_with fail
      refine HOY2.out.mono ?_
      rintro e w8 ⟨v8, rs8, z8, rfl, hz8, hk8, hb8⟩
      obtain rfl : z8 = 0 := hk8 (over_ok HOK.out)
      obtain ⟨-, hp8⟩ := hz8 rfl
      rw [over_twice HOK.out] at hp8
      obtain ⟨A8, c8, rfl, -, htab8, -⟩ := hp8.tab
      have HB8 := Lib.hid (HB7.out.trans (hb8.mono HB7.out.size))
      have HTB78 := Lib.hid (HTB7.out.keep hb8)
      have HTB8 := Lib.hid htab8
      clear hz8 hk8 hp8 hb8 htab8 HOY2
      generalize hnl2 : (overL T O).length = nl2 at *
      clear hnl2
      go_wp2_with fail
      refine (produces_any w8).mono ?_
      rintro e w9 ⟨rfl, hb9⟩
      have HB9 := Lib.hid (HB8.out.trans (hb9.mono HB8.out.size))
      have HSM := Lib.hid (sameTable_any A7 A8 nl c7 nl2 c8 (overL T O) w9 (HTB78.out.keep hb9) (HTB8.out.keep hb9) HTN.out.small)
      clear hb9
      go_wp2_with fail
      refine HSM.out.mono ?_
      rintro e w10 ⟨rfl, hb10⟩
      have HB10 := Lib.hid (HB9.out.trans (hb10.mono HB9.out.size))
      clear hb10 HSM
      go_wp2_with fail
      go_ret
      exact ⟨rfl, HB10.out⟩
end Go.Proofs.YtbipkkebkddegaaGreatDoor
