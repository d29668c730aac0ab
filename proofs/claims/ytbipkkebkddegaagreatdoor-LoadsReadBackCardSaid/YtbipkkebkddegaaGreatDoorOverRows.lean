
/-
  OverRows makes a small table of the call's own.
-/
import Derived.Test.YtbipkkebkddegaaGreatDoorLoadRows
namespace Go.Proofs.YtbipkkebkddegaaGreatDoor
open Go.RowKit

theorem elem_tab : Tryz.prog.elem 26 = 53 := by kernel_rfl
theorem und_tab : Tryz.prog.underlying 26 = some (.slice (Tryz.prog.elem 26)) := by rw [elem_tab]; exact Tryz.underlying26
theorem sl_rows (B : Option Addr) (m d j : Nat) (hj : j ≤ m) (V : Value) (h : sliced B j m d LineE.size = V) (wx : World) : (Instr.slice 26 (.slice B m d) (some (.int .i64 (j : Int))) none none).run Tryz.prog wx = .ok V wx := by
  rw [run_slice_l (P := Tryz.prog) (w := wx) (t := 26) (a := B) (len := m) (cap := d) (ht := und_tab) (kl := .i64) (l := (j : Int)) (h0 := by omega) (h1 := by omega), elem_tab, Tryz.sizeOf53]
  show Result.ok (sliced B ((j : Int)).toNat m d 1) wx = _
  rw [Int.toNat_natCast, ← h]; rfl
/-- The rows behind the heads, read in whatever world the table is kept. -/
theorem TabAt.from_ {w : World} {A A1 : Option Addr} {n c i : Nat} {T : List (List Str)} (h : TabAt w A n c T) (hi : i ≤ n) (he : sliced A i n c LineE.size = .slice A1 (n - i) (c - i)) : TabAt w A1 (n - i) (c - i) (T.drop i) := by
  obtain ⟨A', e, ht⟩ := h.piece i hi
  rw [he] at e
  simp only [Value.slice.injEq] at e
  rw [e.1]
  exact ht
def ov4 : List Str := [[98], [110, 101, 119], [97], [109, 111, 114, 101]]
theorem ov4_strs (w : World) : StrsAt (w.alloc (.cells #[.string ⟨#[98]⟩, .string ⟨#[110, 101, 119]⟩, .string ⟨#[97]⟩, .string ⟨#[109, 111, 114, 101]⟩] 9)) (some ⟨w.heap.size, 0, none⟩) 4 4 ov4 := by
  refine ⟨rfl, Nat.le_refl _, (fun e => by cases e), fun _ => ⟨w.heap.size, 0, rfl, by simp, fun k x i v hk hv => ?_⟩⟩
  have hi : i = 0 := by have := (List.getElem?_eq_some_iff.1 hv).1; simp [StrE] at this; exact this
  subst hi
  have hk4 : k < 4 := (List.getElem?_eq_some_iff.1 hk).1
  rw [World.cell?_alloc_at _ _ _ _ rfl]
  simp only [StrE, List.getElem?_cons_zero, Option.some.injEq] at hv
  subst hv
  match k, hk4 with
  | 0, _ => cases hk; rfl
  | 1, _ => cases hk; rfl
  | 2, _ => cases hk; rfl
  | 3, _ => cases hk; rfl
theorem ov4_len : ∀ s ∈ ov4, s.length ≤ 20 := by decide +kernel
def ovWords : List ByteArray := [⟨#[110]⟩, ⟨#[]⟩, ⟨#[108, 10, 109]⟩]
theorem ovWords_ok : ∀ s ∈ ovWords, s.data.toList.length ≤ 20 := by decide +kernel
theorem bag_elem (w : World) (s : ByteArray) : ElemsAt StrE (w.alloc (.cells #[.string s] 9)) (some ⟨w.heap.size, 0, none⟩) 1 1 [s.data.toList] := by
  have := one_elem (E := StrE) w s.data.toList
  rwa [show (StrE.enc s.data.toList).toArray = #[Value.string s] by show #[Value.string (bag s.data.toList)] = _; rw [bag_of]] at this
def OverPost (w : World) (g : Nat) (A : Option Addr) (n c K : Nat) (e : Ending) (w' : World) : Prop := ∃ v rs T, e = .returned v ∧ ParasAt w' w.heap.size v rs T ∧ TinyT T ∧ StreamAt w' g A n c (K + 300) ∧ w.grownBy w' (some g)
set_option maxHeartbeats 3200000 in
set_option maxRecDepth 100000 in
theorem overRows_any (g : Nat) (A : Option Addr) (n c K b0 : Nat) (vb : Value) (rsb : List HdS) (T : List (List Str)) (w : World) (hs : StreamAt w g A n c K) (hK : K ≤ 5000) (hp : ParasAt w b0 vb rsb T) (hgb : g < b0) (ht : TinyT T) :
    Calls Tryz.prog 12 #[.pointer (some ⟨g, 0, none⟩), vb] w (OverPost w g A n c K) := by
  have hgw := hs.lt
  obtain ⟨A0, c0, rfl, hc0, htab, hq0⟩ := hp.tab
  have HTT := Lib.hid ht
  have HKP : Hid (∀ w', w.grownBy w' (some g) → ParasAt w' b0 (.slice A0 T.length c0) rsb T) := fun w' hg => hp.kept_ hg (fun i e => by cases e; exact hgb)
  have HEL : Hid (∀ w', w.grownBy w' (some g) → ElemsAt LineE w' A0 T.length c0 rsb) := fun w' hg => by
    have hk := HKP.out w' hg
    obtain ⟨A', c', hv, -, ht', -⟩ := hk.own.at_ lineE_ok
    rw [hk.len] at hv ht'
    simp only [Value.slice.injEq] at hv
    obtain ⟨rfl, _, rfl⟩ := hv
    exact ht'
  have htl : T.length ≤ 10 := ht.1
  clear htab hq0 hc0
  obtain ⟨i0, hi0⟩ : ∃ i0, i0 = min 1 T.length := ⟨_, rfl⟩
  have hi1 : i0 ≤ T.length := by omega
  have hmin : min (1 : Int) (T.length : Int) = (i0 : Int) := by omega
  obtain ⟨A1, hA1, -⟩ := (HEL.out w (World.grownBy.refl _ _)).piece i0 T.length hi1 (Nat.le_refl _)
  have hsl := sl_rows A0 T.length c0 i0 hi1 _ hA1
  obtain ⟨rsD, hrsD⟩ : ∃ rsD, rsD = (rsb.drop i0).take (T.length - i0) := ⟨_, rfl⟩
  have HROW : Hid (∀ w', w.grownBy w' (some g) → ElemsAt LineE w' A1 (T.length - i0) (c0 - i0) rsD ∧ ∀ (k : Nat) (r : HdS) (p : List Str), rsD[k]? = some r → (T.drop i0)[k]? = some p → StrsAt w' r.1 r.2.1 r.2.2 p) := fun w' hg => by
    constructor
    · obtain ⟨A', e, ht'⟩ := (HEL.out w' hg).piece i0 T.length hi1 (Nat.le_refl _)
      rw [hA1] at e
      simp only [Value.slice.injEq] at e
      rw [e.1, hrsD]
      exact ht'
    · intro k r p hr hp'
      rw [hrsD, List.getElem?_take] at hr
      split at hr
      · rw [List.getElem?_drop] at hr hp'
        obtain ⟨A2, c2, hv2, _, hE2, _⟩ := ((HKP.out w' hg).each _ r p hr hp').at_ strE_ok
        obtain ⟨r1, r2, r3⟩ := r
        simp only [HdS.v, Value.slice.injEq] at hv2
        obtain ⟨rfl, rfl, rfl⟩ := hv2
        exact hE2
      · cases hr
  have HDR : Hid (∀ r ∈ T.drop i0, r.length ≤ 40 ∧ ∀ s ∈ r, s.length ≤ 20) := fun r hr => ht.2 r (List.mem_of_mem_drop hr)
  obtain ⟨D, hD⟩ : ∃ D, D = T.drop i0 := ⟨_, rfl⟩
  rw [← hD] at HROW HDR
  obtain ⟨d, hd⟩ : ∃ d, d = T.length - i0 := ⟨_, rfl⟩
  rw [← hd] at HROW hsl
  have HDL : Hid (D.length = d) := by show _ = _; rw [hD, List.length_drop, hd]
  have hd9 : d ≤ 9 := by
    rcases Nat.eq_zero_or_pos T.length with h | h <;> omega
  clear hp ht hA1 hD hd HEL HKP HTT hi0 hi1 hrsD
  generalize T.length = tl at *
  go_enter Tryz.func12, Tryz.ntmps12
  go_upto_region 2 with (fail)
  have HH := Lib.hid (one_str w w.heap.size ⟨#[105, 100]⟩ (Nat.le_refl _))
  have HS1 := Lib.hid (hs.alloc (.cells #[.string ⟨#[105, 100]⟩] 9))
  have HG1 : Hid (w.grownBy (w.alloc (.cells #[.string ⟨#[105, 100]⟩] 9)) (some g)) := grown_alloc (World.grownBy.refl _ _) _
  have hz1 : (w.alloc (.cells #[.string ⟨#[105, 100]⟩] 9)).heap.size = w.heap.size + 1 := by simp
  generalize w.alloc (.cells #[.string ⟨#[105, 100]⟩] 9) = w1 at *
  go_wp2_with fail
  have HOV := Lib.hid (ov4_strs w1)
  have HH2 : Hid (OwnStrs (w1.alloc (.cells #[.string ⟨#[98]⟩, .string ⟨#[110, 101, 119]⟩, .string ⟨#[97]⟩, .string ⟨#[109, 111, 114, 101]⟩] 9)) w.heap.size (.slice (some ⟨w.heap.size, 0, none⟩) 1 1) [(⟨#[105, 100]⟩ : ByteArray).data.toList]) := World.ownsRow.alloc HH.out _
  have HS2 := Lib.hid (HS1.out.alloc (.cells #[.string ⟨#[98]⟩, .string ⟨#[110, 101, 119]⟩, .string ⟨#[97]⟩, .string ⟨#[109, 111, 114, 101]⟩] 9))
  have HG2 := Lib.hid (grown_alloc HG1.out (.cells #[.string ⟨#[98]⟩, .string ⟨#[110, 101, 119]⟩, .string ⟨#[97]⟩, .string ⟨#[109, 111, 114, 101]⟩] 9))
  have hz2 : w1.heap.size < (w1.alloc (.cells #[.string ⟨#[98]⟩, .string ⟨#[110, 101, 119]⟩, .string ⟨#[97]⟩, .string ⟨#[109, 111, 114, 101]⟩] 9)).heap.size := by simp
  generalize w1.alloc (.cells #[.string ⟨#[98]⟩, .string ⟨#[110, 101, 119]⟩, .string ⟨#[97]⟩, .string ⟨#[109, 111, 114, 101]⟩] 9) = w2 at *
  obtain ⟨Bq, hBq⟩ : ∃ Bq, Bq = w.heap.size + 1 := ⟨_, rfl⟩
  rw [hz1, ← hBq] at HOV
  rw [hz1, ← hBq] at hz2
  rw [← hBq]
  have hBw : w.heap.size < Bq := by omega
  have HZ1 := Lib.hid hz1
  clear HH HS1 HG1 hBq hz1 hs
  go_loopg [5, 15] 4 (fun gk v5 v15 wr => ∃ (j : Nat) (hs : List Str), Hid (j + gk = 4) ∧ v15 = .int .i64 (j : Int) ∧ Hid (OwnStrs wr w.heap.size v5 hs) ∧ Hid (v5.ownBlock ≠ some Bq) ∧ Hid (1 ≤ hs.length ∧ hs.length ≤ j + 1) ∧ Hid (∀ s ∈ hs, s.length ≤ 20) ∧ Hid (StrsAt wr (some ⟨Bq, 0, none⟩) 4 4 ov4) ∧ Hid (StreamAt wr g A n c (K + j)) ∧ Hid (w.grownBy wr (some g)) ∧ Hid (Bq < wr.heap.size))
  case atStart => exact ⟨0, _, show 0 + 4 = 4 by omega, rfl, HH2.out, (show _ ≠ _ by simp [Value.ownBlock]; omega), ⟨Nat.le_refl _, Nat.le_refl _⟩, (show ∀ _ _, _ from fun s hm => by rw [List.mem_singleton] at hm; subst hm; decide), HOV.out, HS2.out, HG2.out, hz2⟩
  case round =>
    obtain ⟨j, hs, HJ, rfl, HO, HNB, HLN, HSL, HOVR, HST, HG, HBL⟩ := hrel
    clear HH2 HOV HS2 HG2
    have hj4 : j ≤ 4 := by have := HJ.out; omega
    have hwz := HG.out.size
    have hgl := HST.out.lt
    have hbl := HBL.out
    by_cases hlt : j < 4
    · obtain ⟨gq, oq, hq, hgq, hc⟩ := HOVR.out.str (by omega)
      simp only [Option.some.injEq, Addr.mk.injEq] at hq
      obtain ⟨rfl, rfl, _⟩ := hq
      have hck := hc j hlt
      rw [Nat.zero_add] at hck
      have hsj : (ov4.getD j []).length ≤ 20 := by
        have hjo : j < ov4.length := hlt
        rw [List.getD_eq_getElem?_getD, List.getElem?_eq_getElem hjo]
        exact ov4_len _ (List.getElem_mem hjo)
      clear hc
      generalize ov4.getD j [] = sj at *
      go_wp2_with fail
      refine (flip_any g A n c _ 2 _ HST.out (by omega) (by omega)).mono ?_
      rintro e w3 ⟨b, rfl, hs3, hg3⟩
      have HO3 : Hid (OwnStrs w3 w.heap.size u5 hs) := HO.out.kept_ hg3 (fun i e => by cases e; omega)
      have HOV3 : Hid (StrsAt w3 (some ⟨Bq, 0, none⟩) 4 4 ov4) := HOVR.out.grown hg3 (fun g' off' e => by cases e; intro e2; injection e2 with e2; omega)
      have HG3 := Lib.hid (grown_trans HG.out hg3)
      have hz3 := hg3.size
      have HS3 := Lib.hid hs3
      have hln := HLN.out
      clear hs3 hg3 hck
      cases b with
      | false =>
        go_wp2_with fail
        go_roundg (gk - 1)
        case measure => have := HJ.out; omega
        case rel => exact ⟨j + 1, hs, show j + 1 + (gk - 1) = 4 by have := HJ.out; omega, by go_num, HO3.out, HNB.out, ⟨HLN.out.1, by have := HLN.out.2; omega⟩, HSL.out, HOV3.out, HS3.out.more (by omega), HG3.out, show _ < _ by omega⟩
      | true =>
        go_wp2_with (at_builtin; refine append_elems strE_ok rfl _ _ rfl w.heap.size _ hs rfl (World.ownsRow.alloc HO3.out _) (some ⟨w3.heap.size, 0, none⟩) 1 1 [sj] rfl (one_elem (E := StrE) w3 sj) (by simp; omega) (by simp; omega) ?_; intro v9 w9 hown9 hgrow9 hv9)
        have hz9 := hgrow9.size
        have HO9 := Lib.hid hown9
        have HG9 : Hid (w.grownBy w9 (some g)) := grown_row (grown_alloc HG3.out _) hgrow9 (fun i hi => (HO3.out.lt i hi).1)
        have HS9 : Hid (StreamAt w9 g A n c (K + (j + 1))) := ((HS3.out.alloc _).row_ hgrow9 (fun i hi => by have := (HO3.out.lt i hi).1; omega)).more (by omega)
        have HNB9 : Hid (v9.ownBlock ≠ some Bq) := by
          rcases hv9 with h | h
          · intro e; exact HNB.out (h ▸ e)
          · rw [h]; intro e; injection e with e; simp at e; omega
        have HOV9 : Hid (StrsAt w9 (some ⟨Bq, 0, none⟩) 4 4 ov4) := (HOV3.out.keep ((Below.refl _ _).alloc (Nat.le_refl _) _)).grown hgrow9 (fun g' off' e => by cases e; exact HNB.out)
        have hbl9 : Bq < w9.heap.size := by simp at hz9; omega
        clear hown9 hgrow9 hv9 hz9
        go_wp2_with fail
        go_roundg (gk - 1)
        case measure => have := HJ.out; omega
        case rel => exact ⟨j + 1, _, show j + 1 + (gk - 1) = 4 by have := HJ.out; omega, by go_num, HO9.out, HNB9.out, ⟨by rw [List.length_append]; omega, by rw [List.length_append]; simp; omega⟩, (show ∀ _ _, _ from fun s hm => by rcases List.mem_append.1 hm with hm | hm; exact HSL.out s hm; rw [List.mem_singleton] at hm; subst hm; exact hsj), HOV9.out, HS9.out, HG9.out, hbl9⟩
    · have hln := HLN.out
      obtain ⟨R5, c5, rfl, -, -, -⟩ := HO.out.at_ strE_ok
      obtain ⟨nh, hnh⟩ : ∃ nh, nh = hs.length := ⟨_, rfl⟩
      have HO' := HO.out
      rw [← hnh] at HO' hln ⊢
      have hnh5 : 1 ≤ nh ∧ nh ≤ 5 := by omega
      have HP0 := Lib.hid (one_row wr w.heap.size (R5, nh, c5) hs HO' hwz)
      have hv5 : HdS.v (R5, nh, c5) = .slice R5 nh c5 := rfl
      rw [hv5] at HP0
      have HS0 := Lib.hid (HST.out.alloc (.cells #[.slice R5 nh c5] 53))
      have HG0 := Lib.hid (grown_alloc HG.out (.cells #[.slice R5 nh c5] 53))
      have HTI0 : Hid (TinyT [hs]) := ⟨by simp, fun r hr => by rw [List.mem_singleton] at hr; subst hr; exact ⟨by omega, HSL.out⟩⟩
      obtain ⟨gk1, rfl⟩ : ∃ gk1 : Nat, gk1 = gk := ⟨_, rfl⟩
      clear HO HNB HLN HSL HOVR HST HG HBL hnh hv5 HO' hln
      go_wp2_with fail
      obtain ⟨wq, hwq⟩ : ∃ wq, wq = wr.alloc (.cells #[.slice R5 nh c5] 53) := ⟨_, rfl⟩
      rw [← hwq] at HP0 HS0 HG0 ⊢
      generalize wr.heap.size = Pq at *
      clear hwq
      go_loopg [8, 34] d (fun gk v8 v34 wr => ∃ (k : Nat) (rs : List HdS) (U : List (List Str)), Hid (k + gk = d) ∧ v34 = .int .i64 (k : Int) ∧ Hid (ParasAt wr w.heap.size v8 rs U) ∧ Hid (TinyT U) ∧ Hid (U.length ≤ k + 1) ∧ Hid (StreamAt wr g A n c (K + 4 + 6 * k)) ∧ Hid (w.grownBy wr (some g)))
      case atStart => exact ⟨0, _, _, show 0 + d = d by omega, rfl, HP0.out, HTI0.out, Nat.le_refl _, HS0.out.more (by omega), HG0.out⟩
      case round =>
        obtain ⟨k, rs, U, HK, rfl, HP, HTI, HUL, HST, HG⟩ := hrel
        clear HP0 HS0 HG0 HTI0
        have hkd : k ≤ d := by have := HK.out; omega
        have hgl := HST.out.lt
        have hwz := HG.out.size
        have hrsl : rs.length ≤ 10 := by have := HP.out.len; have := HUL.out; omega
        by_cases hlt : k < d
        · obtain ⟨hEl, hEa⟩ := HROW.out wr HG.out
          obtain ⟨ga, oa, rfl, hga, hca⟩ := hEl.2.2.2 (by omega)
          obtain ⟨r, hr⟩ : ∃ r, rsD[k]? = some r := ⟨_, List.getElem?_eq_getElem (by rw [← hEl.1]; exact hlt)⟩
          obtain ⟨p, hp⟩ : ∃ p, D[k]? = some p := ⟨_, List.getElem?_eq_getElem (by rw [HDL.out]; exact hlt)⟩
          have hck := hca k r 0 _ hr rfl
          rw [show oa + k * LineE.size + 0 = oa + k by show oa + k * 1 + 0 = _; omega] at hck
          have hSt := hEa k r p hr hp
          obtain ⟨r1, r2, r3⟩ := r
          have hck' : wr.cell? ⟨ga, oa + k, none⟩ = some (.slice r1 r2 r3) := hck
          have hdr := HDR.out p (List.mem_of_getElem? hp)
          have hr2 : r2 ≤ 40 := by have h1 : r2 = p.length := hSt.1; omega
          have HRX := Lib.hid hr
          have HPX := Lib.hid hp
          clear hEl hEa hca hck hSt hr hp
          by_cases h0 : r2 = 0
          · subst h0
            go_wp2_with fail
            go_roundg (gk - 1)
            case measure => have := HK.out; omega
            case rel => exact ⟨k + 1, rs, U, show k + 1 + (gk - 1) = d by have := HK.out; omega, by go_num, HP.out, HTI.out, (show _ ≤ _ by have := HUL.out; omega), HST.out.more (by omega), HG.out⟩
          · have h0i : (0 : Int) < (r2 : Int) := by omega
            have h0z : ¬ (r2 : Int) = 0 := by omega
            go_wp2_with fail
            refine (flip_any g A n c _ 3 _ HST.out (by omega) (by omega)).mono ?_
            rintro e w3 ⟨b, rfl, hs3, hg3⟩
            have HP3 := Lib.hid (HP.out.kept_ hg3 (fun i e => by cases e; omega))
            have HG3 := Lib.hid (grown_trans HG.out hg3)
            have HS3 := Lib.hid hs3
            clear hs3 hg3 HP HG HST hck'
            cases b with
            | true =>
              go_wp2_with fail
              go_roundg (gk - 1)
              case measure => have := HK.out; omega
              case rel => exact ⟨k + 1, rs, U, show k + 1 + (gk - 1) = d by have := HK.out; omega, by go_num, HP3.out, HTI.out, (show _ ≤ _ by have := HUL.out; omega), HS3.out.more (by omega), HG3.out⟩
            | false =>
              have hSt := (HROW.out w3 HG3.out).2 k _ p HRX.out HPX.out
              obtain ⟨gr, orr, hgr, hgrl, hcr⟩ := hSt.str (by show 0 < r2; omega)
              have hgr' : r1 = some ⟨gr, orr, none⟩ := hgr
              subst hgr'
              have hc0 := hcr 0 (by show 0 < r2; omega)
              rw [Nat.add_zero] at hc0
              have hp0 : (p.getD 0 []).length ≤ 20 := by
                rcases Nat.eq_zero_or_pos p.length with h | h
                · rw [List.getD_eq_getElem?_getD, List.getElem?_eq_none (by omega)]; simp
                · rw [List.getD_eq_getElem?_getD, List.getElem?_eq_getElem h]; exact hdr.2 _ (List.getElem_mem h)
              clear hSt hgr hcr
              generalize p.getD 0 [] = s0 at *
              have e2 : IntKind.i64.wrap ((nh : Int) - 1) = (nh : Int) - 1 := IntWalk.i64_in _ (by omega)
              go_upto_region 14 with (fail)
              have HR0 := Lib.hid (one_str w3 w3.heap.size ⟨s0.toArray⟩ (Nat.le_refl _))
              rw [show (⟨s0.toArray⟩ : ByteArray).data.toList = s0 by simp] at HR0
              have HST0 := Lib.hid (HS3.out.alloc (.cells #[.string ⟨s0.toArray⟩] 9))
              have HGA : Hid (w3.grownBy (w3.alloc (.cells #[.string ⟨s0.toArray⟩] 9)) (some g)) := grown_alloc (World.grownBy.refl _ _) _
              generalize w3.alloc (.cells #[.string ⟨s0.toArray⟩] 9) = w7 at *
              obtain ⟨gko, rfl⟩ : ∃ gko : Nat, gko = gk := ⟨_, rfl⟩
              have hwz3 := HG3.out.size
              have hgl3 := HS3.out.lt
              clear hc0 HRX HPX
              go_wp2_with fail
              go_loopg [11, 53] (nh - 1) (fun gk v7 v30 wx => ∃ (j : Nat) (row : List Str), Hid (j + gk = nh - 1) ∧ v30 = .int .i64 (j : Int) ∧ Hid (OwnStrs wx w3.heap.size v7 row) ∧ Hid (row.length = j + 1) ∧ Hid (∀ s ∈ row, s.length ≤ 20) ∧ Hid (StreamAt wx g A n c (K + 4 + 6 * k + 1 + j)) ∧ Hid (w3.grownBy wx (some g)))
              case atStart => exact ⟨0, _, show 0 + (nh - 1) = nh - 1 by omega, rfl, HR0.out, show _ = _ from rfl, (show ∀ _ _, _ from fun s hm => by rw [List.mem_singleton] at hm; subst hm; exact hp0), HST0.out, HGA.out⟩
              case round =>
                obtain ⟨j, row, HJ, rfl, HR, HRL, HRS, HST, HGX⟩ := hrel
                clear HR0 HST0 HGA
                have hjN : j ≤ nh - 1 := by have := HJ.out; omega
                by_cases hlt2 : j < nh - 1
                · have hji : (j : Int) < (nh : Int) - 1 := by omega
                  have hglx := HST.out.lt
                  go_wp2_with fail
                  refine (one_any g A n c _ ovWords _ 3 3 _ (HST.out.alloc _) (by omega) rfl (by omega) (by omega) (by omega) (fun j hj => cells_strings _ ovWords _ j hj)).mono ?_
                  rintro e w8 ⟨s8, rfl, hs8m, hs8, hg8⟩
                  have HSL := Lib.hid (ovWords_ok s8 hs8m)
                  have hg8' := grown_trans (grown_alloc HGX.out _) hg8
                  have HR8 : Hid (OwnStrs w8 w3.heap.size u11 row) := World.ownsRow.kept (World.ownsRow.alloc HR.out _) hg8 (by rcases hb : u11.ownBlock with _ | b; exact .inl rfl; exact .inr (fun e => by cases e; have := (HR.out.lt g hb).1; omega))
                  have hz8 := hg8'.size
                  have hrl := HRL.out
                  have HS8 := Lib.hid hs8
                  have HG8 := Lib.hid hg8'
                  clear hs8m hs8 hg8 hg8'
                  go_wp2_with (at_builtin; refine append_elems strE_ok rfl _ _ rfl w3.heap.size _ row rfl (World.ownsRow.alloc HR8.out _) (some ⟨w8.heap.size, 0, none⟩) 1 1 [s8.data.toList] rfl (bag_elem w8 s8) (by simp; omega) (by simp; omega) ?_; intro v9 w9 hown9 hgrow9 _)
                  have HR9 := Lib.hid hown9
                  have HG9 : Hid (w3.grownBy w9 (some g)) := grown_row (grown_alloc HG8.out _) hgrow9 (fun i hi => (HR8.out.lt i hi).1)
                  have HS9 : Hid (StreamAt w9 g A n c (K + 4 + 6 * k + 1 + (j + 1))) := ((HS8.out.alloc _).row_ hgrow9 (fun i hi => by have := (HR8.out.lt i hi).1; omega)).more (by omega)
                  clear hown9 hgrow9
                  go_wp2_with fail
                  go_roundg (gk - 1)
                  case measure => have := HJ.out; omega
                  case rel => exact ⟨j + 1, _, show j + 1 + (gk - 1) = nh - 1 by have := HJ.out; omega, by go_num, HR9.out, (show _ = _ by rw [List.length_append, hrl]; rfl), (show ∀ _ _, _ from fun s hm => by rcases List.mem_append.1 hm with hm | hm; exact HRS.out s hm; rw [List.mem_singleton] at hm; subst hm; exact HSL.out), HS9.out, HG9.out⟩
                · obtain ⟨R7, c7, rfl, -, -, -⟩ := HR.out.at_ strE_ok
                  have HPX := Lib.hid (HP3.out.kept_ HGX.out (fun i e => by cases e; omega))
                  have HAP := Lib.hid (HP3.out.newer (r := (R7, row.length, c7)) (fun b hb => (HR.out.lt b hb).1))
                  have hwx := HGX.out.size
                  have hji : ¬ (j : Int) < (nh : Int) - 1 := by omega
                  have HLEN : Hid (row.length ≤ 40) := by show _ ≤ _; have := HRL.out; omega
                  clear HRL
                  generalize hrl : row.length = rl at *
                  have HRW := Lib.hid hrl
                  clear hrl
                  go_wp2_with (at_builtin; refine append_elems lineE_ok rfl _ _ rfl w.heap.size _ rs rfl (World.ownsRow.alloc HPX.out.own _) (some ⟨wr.heap.size, 0, none⟩) 1 1 [(R7, rl, c7)] rfl (one_elem (E := LineE) wr (R7, rl, c7)) (by simp; omega) (by simp; omega) ?_; intro v9 w9 hown9 hgrow9 _)
                  have HB1 := (Below.refl wr.heap.size wr).alloc (Nat.le_refl _) (.cells (LineE.enc (R7, rl, c7)).toArray LineE.t)
                  have hrw : HdS.v (R7, rl, c7) = .slice R7 rl c7 := rfl
                  have HPN : Hid (ParasAt w9 w.heap.size v9 (rs ++ [(R7, rl, c7)]) (U ++ [row])) := (HPX.out.below HB1).push (by rw [hrw]; exact World.ownsRow.alloc (HR.out.base_ hwz3) _) HAP.out hown9 hgrow9
                  have HTN : Hid (TinyT (U ++ [row])) := HTI.out.push HUL.out (by omega) ⟨by rw [HRW.out]; exact HLEN.out, HRS.out⟩
                  have HSN : Hid (StreamAt w9 g A n c (K + 4 + 6 * (k + 1))) := ((HST.out.alloc _).row_ hgrow9 (fun i hi => by have := (HPX.out.own.lt i hi).1; omega)).more (by omega)
                  have HGN : Hid (w.grownBy w9 (some g)) := grown_row (grown_alloc (grown_trans HG3.out HGX.out) _) hgrow9 (fun i hi => (HPX.out.own.lt i hi).1)
                  clear hown9 hgrow9 hrw
                  go_wp2_with fail
                  go_roundg (gko - 1)
                  case measure => have := HK.out; omega
                  case rel => exact ⟨k + 1, _, _, show k + 1 + (gko - 1) = d by have := HK.out; omega, by go_num, HPN.out, HTN.out, (show _ ≤ _ by rw [List.length_append]; have := HUL.out; simp; omega), HSN.out, HGN.out⟩
        · go_wp2_with fail
          refine (flip_any g A n c _ 12 _ HST.out (by omega) (by omega)).mono ?_
          rintro e w3 ⟨b, rfl, hs3, hg3⟩
          have HP3 := Lib.hid (HP.out.kept_ hg3 (fun i e => by cases e; omega))
          have HG3 := Lib.hid (grown_trans HG.out hg3)
          have HS3 := Lib.hid hs3
          have hwz3 := HG3.out.size
          clear hs3 hg3 HP HG HST
          cases b with
          | false =>
            have HF : Hid (OverPost w g A n c K (.returned u8) w3) := ⟨u8, rs, U, rfl, HP3.out, HTI.out, HS3.out.more (by omega), HG3.out⟩
            go_wp2_with fail
            go_ret
            exact HF.out
          | true =>
            go_wp2_with fail
            refine (loadRows_any g A n c _ w3 HS3.out (by omega)).mono ?_
            rintro e w4 ⟨v4, rs4, T4, rfl, hp4, ht4, hs4, hg4⟩
            have HF : Hid (OverPost w g A n c K (.returned v4) w4) := ⟨v4, rs4, T4, rfl, hp4.base_ hwz3, ht4, hs4.more (by omega), grown_trans HG3.out hg4⟩
            clear hp4 ht4 hs4 hg4
            go_wp2_with fail
            go_ret
            exact HF.out
end Go.Proofs.YtbipkkebkddegaaGreatDoor
