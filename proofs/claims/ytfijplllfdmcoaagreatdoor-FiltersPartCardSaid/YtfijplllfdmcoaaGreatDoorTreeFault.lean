
/-
  returns, treeFault and ItemsFault of the references: no error only where the items are right.
-/
import Derived.Test.YtfijplllfdmcoaaGreatDoorItemFault
import Derived.Test.YtfijplllfdmcoaaGreatDoorAbove
namespace Go.Proofs.YtfijplllfdmcoaaGreatDoor
open Go.RowKit

theorem containsI_any (A : Option Addr) (n c : Nat) (l : List Int) (x : Int) (w : World) (h : ElemsAt IntE w A n c l) (hn : n ≤ 100000) :
    Calls Tryz.prog 86 #[.slice A n c, .int .i64 x] w fun e w' => e = .returned (.bool (l.contains x)) ∧ w' = w := by
  have hl := h.1
  rcases Nat.eq_zero_or_pos n with h0 | h0
  · subst h0
    have e1 : l = [] := List.eq_nil_of_length_eq_zero hl.symm
    subst e1
    exact Tryz.slices_Contains_int_empty A c x w
  · obtain ⟨g, off, rfl, hg, hc⟩ := h.2.2.2 h0
    refine (Tryz.slices_Contains_int g off n c l x w (by omega) (by omega) (fun j hj => ?_)).mono ?_
    · have := hc j (l.getD j 0) 0 (.int .i64 (l.getD j 0)) (by simp [hj]) rfl
      rwa [show off + j * IntE.size + 0 = off + j by show off + j * 1 + 0 = _; omega] at this
    · rintro e w' ⟨rfl, rfl⟩
      exact ⟨by rw [List.take_of_length_le (by omega)], rfl⟩
theorem intsOf_contains (C : List Nat) (i : Nat) : (intsOf C).contains (i : Int) = decide (i ∈ C) := by
  unfold intsOf
  induction C with
  | nil => simp
  | cons a C ih =>
    rw [List.map_cons, List.contains_cons, ih]
    by_cases h : i = a
    · subst h; simp
    · have h2 : ¬ ((i : Int) = (a : Int)) := by omega
      have h3 : ((i : Int) == Int.ofNat a) = false := beq_eq_false_iff_ne.2 h2
      rw [h3]; simp [h]
theorem returns_any (A : Option Addr) (n c i : Nat) (l : List Itm) (w : World) (h : ItemsAt w A n c l) (hn : n ≤ 2000) (hi : i < n) :
    Calls Tryz.prog 128 #[.slice A n c, .int .i64 (i : Int)] w (BoolPost w (decide (i ∈ chainI l (n + 1) i))) := by
  have HA := Lib.hid (above_any A n c i l w h hn hi)
  have HL := Lib.hid (chainI_len l (n + 1) i)
  clear h
  generalize chainI l (n + 1) i = C at *
  go_enter Tryz.func128, Tryz.ntmps128
  go_wp2_with fail
  refine HA.out.mono ?_
  rintro e w1 ⟨v, b, rfl, hown, hb⟩
  obtain ⟨A1, c1, rfl, _, hat, _⟩ := hown.at_ intE_ok
  have HC := Lib.hid (containsI_any A1 _ c1 _ (i : Int) w1 hat (by have := HL.out; simp [intsOf]; omega))
  rw [intsOf_contains] at HC
  clear hown hat HA
  go_wp2_with fail
  refine HC.out.mono ?_
  rintro e w2 ⟨rfl, hw⟩
  obtain rfl := hw
  go_wp2_with fail
  go_ret
  exact ⟨rfl, hb⟩
def FaultTo (w : World) (P : Prop) (e : Ending) (w' : World) : Prop := ∃ z : Int, e = .returned (.int .i64 z) ∧ (z = 0 → P) ∧ Below w.heap.size w w'
theorem faultTo (w w' : World) (P : Prop) (z : Int) (hz : z ≠ 0) (hb : Below w.heap.size w w') : FaultTo w P (.returned (.int .i64 z)) w' := ⟨z, rfl, fun e => absurd e hz, hb⟩
theorem par_emptyL {s : ByteArray} (h : s.data.toList = []) : s.toList = [] ∧ (s.toList == []) = true ∧ s.toList.isEmpty = true := by
  have q : s.toList = [] := by rw [Lib.toList_data]; exact h
  exact ⟨q, by rw [q]; rfl, by rw [q]; rfl⟩
theorem par_fullL {s : ByteArray} (h : ¬ s.data.toList = []) : (¬ s.toList = []) ∧ (s.toList == []) = false ∧ s.toList.isEmpty = false := by
  have q : ¬ s.toList = [] := by rw [Lib.toList_data]; exact h
  exact ⟨q, by simpa using q, by simpa using q⟩
set_option maxHeartbeats 3200000 in
set_option maxRecDepth 100000 in
theorem treeFault_any (A : Option Addr) (n c : Nat) (l : List Itm) (w : World) (h : ItemsAt w A n c l) (hn : n ≤ 2000) :
    Calls Tryz.prog 73 #[.slice A n c] w (FaultTo w (TreeOk l)) := by
  have HN := Lib.hid h.1
  have HH := Lib.hid h
  have HRT := Lib.hid (fun i (hi : i < n) wx (hb : Below w.heap.size w wx) => returns_any A n c i l wx (h.keep hb) hn hi)
  have HPL := Lib.hid (fun (id : ByteArray) wx (hb : Below w.heap.size w wx) => place_any id A n c l wx (h.keep hb) (by omega))
  have HAB := Lib.hid (fun i (hi : i < n) wx (hb : Below w.heap.size w wx) => above_any A n c i l wx (h.keep hb) hn hi)
  have HBAD : Hid (∀ (z : Int) w', z ≠ 0 → Below w.heap.size w w' → FaultTo w (TreeOk l) (.returned (.int .i64 z)) w') := fun z w' hz hb => faultTo w w' _ z hz hb
  have HGOOD : Hid (∀ w', TreeOk l → Below w.heap.size w w' → FaultTo w (TreeOk l) (.returned (.int .i64 0)) w') := fun w' ht hb => ⟨0, rfl, fun _ => ht, hb⟩
  clear h
  go_enter Tryz.func73, Tryz.ntmps73
  go_wp2_with fail
  go_loopg [10] n (fun gk v wr => ∃ k : Nat, Hid (k + gk = n) ∧ v = .int .i64 (k : Int) ∧ Hid (Below w.heap.size w wr) ∧ Hid (∀ j, j < k → j ∉ chainI l (n + 1) j))
  case atStart => exact ⟨0, show 0 + n = n by omega, rfl, Below.refl _ _, show ∀ _ _, _ from fun j hj => by omega⟩
  case round =>
    obtain ⟨k, HG, rfl, HW, HB⟩ := hrel
    have hkn : k ≤ n := by have := HG.out; omega
    by_cases hlt : k < n
    · have HR := Lib.hid (HRT.out k hlt wr HW.out)
      have HGK := Lib.hid (show k + 1 + (gk - 1) = n ∧ 0 < gk by have := HG.out; omega)
      go_wp2_with fail
      refine HR.out.mono ?_
      rintro e w' ⟨rfl, hw⟩
      have HW2 := Lib.hid (HW.out.trans (hw.mono HW.out.size))
      clear hw HR HG
      by_cases hm : k ∈ chainI l (n + 1) k
      · rw [decide_eq_true hm]
        have HF := Lib.hid (HBAD.out 14 w' (by decide) HW2.out)
        clear hm
        go_wp2_with fail
        go_ret
        exact HF.out
      · rw [decide_eq_false hm]
        have HB2 : Hid (∀ j, j < k + 1 → j ∉ chainI l (n + 1) j) := fun j hj => by
          rcases Nat.lt_succ_iff_lt_or_eq.1 hj with h1 | h1
          · exact HB.out j h1
          · subst h1; exact hm
        clear hm
        go_wp2_with fail
        go_roundg (gk - 1)
        case measure => exact Nat.sub_lt HGK.out.2 Nat.one_pos
        case rel => exact ⟨k + 1, HGK.out.1, by go_num, HW2.out, HB2.out⟩
    · have hnk : ¬ (k : Int) < (n : Int) := by omega
      have HLOOP : Hid (∀ j, j < n → j ∉ chainI l (n + 1) j) := fun j hj => HB.out j (by omega)
      obtain ⟨w0, rfl⟩ : ∃ w0, w0 = wr := ⟨_, rfl⟩
      obtain ⟨ko, rfl⟩ : ∃ ko, ko = k := ⟨_, rfl⟩
      have HW0 := Lib.hid HW.out
      clear HG HB HW
      go_wp2_with fail
      go_loopg [19] n (fun gk v wr => ∃ k : Nat, Hid (k + gk = n) ∧ v = .int .i64 (k : Int) ∧ Hid (Below w.heap.size w wr) ∧ Hid (∀ j, j < k → (∀ q, parI l j = some q → KindAt l q) ∧ (chainI l (n + 1) j).length ≤ 4))
      case atStart => exact ⟨0, show 0 + n = n by omega, rfl, HW0.out, show ∀ _ _, _ from fun j hj => by omega⟩
      case round =>
        obtain ⟨k, HG, rfl, HW, HB⟩ := hrel
        clear HW0 hnk hkn
        have hkn : k ≤ n := by have := HG.out; omega
        by_cases hlt : k < n
        · have HGK := Lib.hid (show k + 1 + (gk - 1) = n ∧ 0 < gk by have := HG.out; omega)
          obtain ⟨g, off, hA, hg, hc⟩ := HH.out.item (by omega)
          have hkl : k < l.length := by have := HN.out; omega
          obtain ⟨x, hx⟩ : ∃ x, l[k]? = some x := ⟨_, List.getElem?_eq_getElem hkl⟩
          have HX := Lib.hid hx
          have HCP : Hid (∀ wx, Below w.heap.size w wx → wx.cell? ⟨g, off + k * 7 + 5, none⟩ = some (.string x.par)) := fun wx hb => (hb.cell (p := ⟨g, off + k * 7 + 5, none⟩) hg).trans (hc k x hx).2.2.2.2.2.1
          have HCK : Hid (∀ wx, Below w.heap.size w wx → ∀ q y, l[q]? = some y → wx.cell? ⟨g, off + q * 7 + 2, none⟩ = some (.int .i64 y.kind)) := fun wx hb q y hy => (hb.cell (p := ⟨g, off + q * 7 + 2, none⟩) hg).trans (hc q y hy).2.2.1
          subst hA
          have cp := HCP.out wr HW.out
          have HPX := Lib.hid (HPL.out x.par wr HW.out)
          clear hc hx hkl HG hg
          go_wp2_with fail
          refine HPX.out.mono ?_
          rintro e w1 ⟨rfl, hb1⟩
          have HW1 := Lib.hid (HW.out.trans (hb1.mono HW.out.size))
          have HABX := Lib.hid (HAB.out k hlt w1 HW1.out)
          have HNEXT : Hid (∀ w', Below w.heap.size w w' → (∀ q, parI l k = some q → KindAt l q) → (chainI l (n + 1) k).length ≤ 4 → (∀ j, j < k + 1 → (∀ q, parI l j = some q → KindAt l q) ∧ (chainI l (n + 1) j).length ≤ 4)) := fun w' hb h1 h2 j hj => by
            rcases Nat.lt_succ_iff_lt_or_eq.1 hj with h3 | h3
            · exact HB.out j h3
            · subst h3; exact ⟨h1, h2⟩
          clear hb1 HPX cp HB
          have cp := HCP.out w1 HW1.out
          go_upto_region 11 with (fail)
          have HZC := Lib.hid (placeI_cases l x.par)
          generalize placeI l x.par = z at *
          go_cut [54] (fun v wx => wx = w1 ∧ ∃ b : Bool, v = .bool b ∧ (b = false → ∀ q, parI l k = some q → KindAt l q))
          case first =>
            by_cases hp : x.par.data.toList = []
            · have hpn := parI_nil HX.out hp
              have HF : Hid (∀ q, parI l k = some q → KindAt l q) := fun q hq => by rw [hpn] at hq; cases hq
              obtain ⟨q1, q2, q3⟩ := par_emptyL hp
              clear hpn hp HZC
              go_wp2_with fail
              go_meet
              exact ⟨rfl, false, rfl, fun _ => HF.out⟩
            · have hpo := parI_of HX.out hp
              obtain ⟨q1, q2, q3⟩ := par_fullL hp
              rcases HZC.out with ⟨q, hq1, hq2⟩ | ⟨hq1, hq2⟩
              · subst hq2
                rw [hq1] at hpo
                have hql := parI_lt hpo
                obtain ⟨y, hy⟩ : ∃ y, l[q]? = some y := ⟨_, List.getElem?_eq_getElem hql⟩
                have hqn : q < n := by rw [HN.out]; exact hql
                have ck := HCK.out w1 HW1.out q y hy
                have HF : Hid (y.kind = 1 ∨ y.kind = 3 → ∀ q, parI l k = some q → KindAt l q) := fun hk q' hq' => by
                  rw [hpo] at hq'
                  cases hq'
                  exact ⟨y, hy, hk⟩
                have hq0 : (0 : Int) ≤ (q : Int) := by omega
                generalize y.kind = kd at *
                clear hpo hql hy hp hq1 HZC
                by_cases k1 : kd = 1
                · have HF2 := Lib.hid (HF.out (.inl k1))
                  subst k1
                  go_wp2_with fail
                  go_meet
                  exact ⟨rfl, false, rfl, fun _ => HF2.out⟩
                · by_cases k3 : kd = 3
                  · have HF2 := Lib.hid (HF.out (.inr k3))
                    subst k3
                    clear k1
                    go_wp2_with fail
                    go_meet
                    exact ⟨rfl, false, rfl, fun _ => HF2.out⟩
                  · have KB : Hid ((kd != 1 && kd != 3) = true) := by show _ = true; simp [k1, k3]
                    go_wp2_with fail
                    go_meet
                    exact ⟨rfl, _, rfl, fun e => by rw [KB.out] at e; cases e⟩
              · subst hq2
                rw [hq1] at hpo
                have HF : Hid (∀ q, parI l k = some q → KindAt l q) := fun q hq => by rw [hpo] at hq; cases hq
                clear hpo hp hq1 HZC
                go_wp2_with fail
                go_meet
                exact ⟨rfl, false, rfl, fun _ => HF.out⟩
          case rest =>
            obtain ⟨rfl, b, rfl, hbk⟩ := hcut
            cases b with
            | true =>
              have HF := Lib.hid (HBAD.out 16 wc (by decide) HW1.out)
              clear hbk
              go_wp2_with fail
              go_ret
              exact HF.out
            | false =>
              have HKD := Lib.hid (hbk rfl)
              clear hbk cp
              go_wp2_with fail
              refine HABX.out.mono ?_
              rintro e w2 ⟨v, b, rfl, hown, hb2⟩
              have HW2 := Lib.hid (HW1.out.trans (hb2.mono HW1.out.size))
              have HLC : Hid ((intsOf (chainI l (n + 1) k)).length = (chainI l (n + 1) k).length) := by show _ = _; unfold intsOf; rw [List.length_map]
              obtain ⟨A1, c1, rfl, _, _, _⟩ := hown.at_ intE_ok
              rw [HLC.out]
              clear hown hb2 HABX
              by_cases h4 : (chainI l (n + 1) k).length ≤ 4
              · have HB2 := Lib.hid (HNEXT.out w2 HW2.out HKD.out h4)
                have h4i : ¬ (4 : Int) < ((chainI l (n + 1) k).length : Int) := by omega
                generalize (chainI l (n + 1) k).length = len at *
                clear h4
                go_wp2_with fail
                go_roundg (gk - 1)
                case measure => exact Nat.sub_lt HGK.out.2 Nat.one_pos
                case rel => exact ⟨k + 1, HGK.out.1, by go_num, HW2.out, HB2.out⟩
              · have HF := Lib.hid (HBAD.out 2 w2 (by decide) HW2.out)
                have h4i : (4 : Int) < ((chainI l (n + 1) k).length : Int) := by omega
                generalize (chainI l (n + 1) k).length = len at *
                clear h4
                go_wp2_with fail
                go_ret
                exact HF.out
        · have hnk : ¬ (k : Int) < (n : Int) := by omega
          have HF := Lib.hid (HGOOD.out wr ⟨fun i hi => by rw [← HN.out]; exact HLOOP.out i (by rw [HN.out]; exact hi), fun i q hi hq => (HB.out i (by have := HN.out; omega)).1 q hq, fun i hi => by rw [← HN.out]; exact (HB.out i (by have := HN.out; omega)).2⟩ HW.out)
          go_wp2_with fail
          go_ret
          exact HF.out
end Go.Proofs.YtfijplllfdmcoaaGreatDoor
