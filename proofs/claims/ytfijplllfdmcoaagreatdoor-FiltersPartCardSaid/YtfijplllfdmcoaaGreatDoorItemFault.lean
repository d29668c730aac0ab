
/-
  What ItemFault and ItemsFault of the references return.
-/
import Derived.Test.YtfijplllfdmcoaaGreatDoorItemFn
import Derived.Test.YtfijplllfdmcoaaGreatDoorAbove
namespace Go.Proofs.YtfijplllfdmcoaaGreatDoor
open Go.RowKit Go.Shelf Go.Lib

structure ItemOk (x : Itm) : Prop where
  id : keyL x.id.data.toList = true
  cu : keyL x.cu.data.toList = true
  kind : 1 ≤ x.kind ∧ x.kind ≤ 4
  short : x.name.size ≤ 120
  plain : plainB x.name.data.toList = true
  at_ : 0 ≤ x.at_ ∧ x.at_ ≤ 5761439
  par : x.par.data.toList = [] ∨ keyL x.par.data.toList = true
  own : x.par ≠ x.id
  size : x.text.size ≤ 20000
  text : textB x.text.data.toList = true
/-- How long the strings of an item may be. -/
def SmallI (x : Itm) : Prop := x.id.size ≤ 1000000 ∧ x.cu.size ≤ 1000000 ∧ x.name.size ≤ 1000000 ∧ x.par.size ≤ 1000000 ∧ x.text.size ≤ 1000000
def FaultIs (w : World) (P : Prop) (e : Ending) (w' : World) : Prop := ∃ z : Int, e = .returned (.int .i64 z) ∧ (z = 0 ↔ P) ∧ Below w.heap.size w w'
theorem faultNo {w w' : World} {P : Prop} (z : Int) (hz : z ≠ 0) (h : ¬ P) (hb : Below w.heap.size w w') : FaultIs w P (.returned (.int .i64 z)) w' := ⟨z, rfl, ⟨fun e => absurd e hz, fun e => absurd e h⟩, hb⟩
theorem bytes_eq (a b : ByteArray) : (a.toList == b.toList) = decide (a = b) := by
  rw [Lib.toList_data, Lib.toList_data]
  by_cases h : a = b
  · subst h; simp
  · have h2 : ¬ a.data.toList = b.data.toList := fun e => h (ByteArray.ext (Array.toList_inj.1 e))
    rw [decide_eq_false h]
    exact beq_eq_false_iff_ne.2 h2
set_option maxHeartbeats 3200000 in
set_option maxRecDepth 100000 in
theorem itemFault_any (x : Itm) (w : World) (hs : SmallI x) (hT : Tabs w) (hM : MaxAt w) :
    Calls Tryz.prog 26 #[x.v] w (FaultIs w (ItemOk x)) := by
  obtain ⟨s1, s2, s3, s4, s5⟩ := hs
  have hb0 : Below w.heap.size w (w.alloc (.cells x.cells.toArray 60)) := (Below.refl _ _).alloc (Nat.le_refl _) _
  have HI0 : Hid (ItemAt (w.alloc (.cells x.cells.toArray 60)) w.heap.size x) := item_new w x
  have HB0 := Lib.hid hb0
  have HTX := Lib.hid (hT.below hb0)
  have HMX := Lib.hid (hM.below hb0)
  have HPOST : Hid (∀ (z : Int) w', z ≠ 0 → ¬ ItemOk x → Below w.heap.size w w' → FaultIs w (ItemOk x) (.returned (.int .i64 z)) w') := fun z w' hz h hb => faultNo z hz h hb
  have HGOOD : Hid (∀ w', ItemOk x → Below w.heap.size w w' → FaultIs w (ItemOk x) (.returned (.int .i64 0)) w') := fun w' h hb => ⟨0, rfl, ⟨fun _ => h, fun _ => rfl⟩, hb⟩
  have HF1 := Lib.hid (fun h : ItemOk x => h.id)
  have HF2 := Lib.hid (fun h : ItemOk x => h.cu)
  have HF3 := Lib.hid (fun h : ItemOk x => h.kind)
  have HF4 := Lib.hid (fun h : ItemOk x => h.short)
  have HF5 := Lib.hid (fun h : ItemOk x => h.plain)
  have HF6 := Lib.hid (fun h : ItemOk x => h.at_)
  have HF7 := Lib.hid (fun h : ItemOk x => h.par)
  have HF8 := Lib.hid (fun h : ItemOk x => h.own)
  have HF9 := Lib.hid (fun h : ItemOk x => h.size)
  have HF10 := Lib.hid (fun h : ItemOk x => h.text)
  have HMK := Lib.hid (@ItemOk.mk x)
  obtain ⟨xid, cu, kind, name, at_, par, text⟩ := x
  clear hb0 hT hM
  simp only at s1 s2 s3 s4 s5 HF1 HF2 HF3 HF4 HF5 HF6 HF7 HF8 HF9 HF10 HMK
  have HCC : Hid (∀ w', Below (w.alloc (.cells #[.string xid, .string cu, .int .i64 kind, .string name, .int .i64 at_, .string par, .string text] 60)).heap.size (w.alloc (.cells #[.string xid, .string cu, .int .i64 kind, .string name, .int .i64 at_, .string par, .string text] 60)) w' → ItemAt w' w.heap.size ⟨xid, cu, kind, name, at_, par, text⟩) := fun w' hb => ItemAt.keep HI0.out hb
  have HBB : Hid (∀ w', Below (w.alloc (.cells #[.string xid, .string cu, .int .i64 kind, .string name, .int .i64 at_, .string par, .string text] 60)).heap.size (w.alloc (.cells #[.string xid, .string cu, .int .i64 kind, .string name, .int .i64 at_, .string par, .string text] 60)) w' → Below w.heap.size w w') := fun w' hb => HB0.out.trans (hb.mono HB0.out.size)
  have HTT : Hid (∀ w', Below (w.alloc (.cells #[.string xid, .string cu, .int .i64 kind, .string name, .int .i64 at_, .string par, .string text] 60)).heap.size (w.alloc (.cells #[.string xid, .string cu, .int .i64 kind, .string name, .int .i64 at_, .string par, .string text] 60)) w' → Tabs w' ∧ MaxAt w') := fun w' hb => ⟨Tabs.below HTX.out hb, MaxAt.below HMX.out hb⟩
  clear HI0 HB0 HTX HMX
  unfold Itm.v
  simp only
  go_enter Tryz.func26, Tryz.ntmps26
  go_upto_region 1 with (fail)
  obtain ⟨P, hP⟩ : ∃ P, P = w.heap.size := ⟨_, rfl⟩
  rw [← hP] at HCC ⊢
  generalize w.alloc (.cells #[.string xid, .string cu, .int .i64 kind, .string name, .int .i64 at_, .string par, .string text] 60) = w0 at *
  clear hP
  have hbr := Below.refl w0.heap.size w0
  obtain ⟨c0, c1, c2, c3, c4, c5, c6⟩ := (HCC.out w0 hbr).c
  simp only at c0 c1 c2 c3 c4 c5 c6
  go_wp2_with fail
  refine (key2_any xid w0 s1).mono ?_
  rintro e w1 ⟨rfl, hb1⟩
  cases k1 : keyL xid.data.toList with
  | false =>
    have HF := Lib.hid (HPOST.out 5 w1 (by decide) (fun h => by have := HF1.out h; rw [k1] at this; cases this) (HBB.out w1 hb1))
    clear k1
    go_wp2_with fail
    go_ret
    exact HF.out
  | true =>
    have K1 := Lib.hid k1
    clear k1 c0 c1 c2 c3 c4 c5 c6
    obtain ⟨c0, c1, c2, c3, c4, c5, c6⟩ := (HCC.out w1 hb1).c
    simp only at c0 c1 c2 c3 c4 c5 c6
    go_wp2_with fail
    refine (key2_any cu w1 s2).mono ?_
    rintro e w2 ⟨rfl, hb2'⟩
    have hb2 := below_trans' hb1 hb2'
    cases k2 : keyL cu.data.toList with
    | false =>
      have HF := Lib.hid (HPOST.out 5 w2 (by decide) (fun h => by have := HF2.out h; rw [k2] at this; cases this) (HBB.out w2 hb2))
      clear k2
      go_wp2_with fail
      go_ret
      exact HF.out
    | true =>
      have K2 := Lib.hid k2
      clear k2 c0 c1 c2 c3 c4 c5 c6 hb1 hb2'
      obtain ⟨c0, c1, c2, c3, c4, c5, c6⟩ := (HCC.out w2 hb2).c
      simp only at c0 c1 c2 c3 c4 c5 c6
      go_wp2_with fail
      refine (in2_any kind 1 4 w2).mono ?_
      rintro e w' ⟨rfl, hw⟩
      subst hw
      cases k3 : inB kind 1 4 with
      | false =>
        have HF := Lib.hid (HPOST.out 4 w' (by decide) (fun h => by have := HF3.out h; simp only [inB, decide_eq_false_iff_not] at k3; exact k3 this) (HBB.out w' hb2))
        clear k3
        go_wp2_with fail
        go_ret
        exact HF.out
      | true =>
        have K3 : Hid (1 ≤ kind ∧ kind ≤ 4) := by show _ ∧ _; simpa [inB] using k3
        clear k3
        by_cases k4 : name.size ≤ 120
        · have k4i : ¬ (120 : Int) < (name.size : Int) := by omega
          have K4 := Lib.hid k4
          clear k4
          go_wp2_with fail
          refine (plain2_any name w' s3 (HTT.out w' hb2).1 (HTT.out w' hb2).2).mono ?_
          rintro e w3 ⟨rfl, hb3'⟩
          have hb3 := below_trans' hb2 hb3'
          cases k5 : plainB name.data.toList with
          | false =>
            have HF := Lib.hid (HPOST.out 3 w3 (by decide) (fun h => by have := HF5.out h; rw [k5] at this; cases this) (HBB.out w3 hb3))
            clear k5
            go_wp2_with fail
            go_ret
            exact HF.out
          | true =>
            have K5 := Lib.hid k5
            clear k5 c0 c1 c2 c3 c4 c5 c6 hb2 hb3'
            obtain ⟨c0, c1, c2, c3, c4, c5, c6⟩ := (HCC.out w3 hb3).c
            simp only at c0 c1 c2 c3 c4 c5 c6
            go_wp2_with fail
            refine (in2_any at_ 0 5761439 w3).mono ?_
            rintro e w' ⟨rfl, hw⟩
            subst hw
            cases k6 : inB at_ 0 5761439 with
            | false =>
              have HF := Lib.hid (HPOST.out 1 w' (by decide) (fun h => by have := HF6.out h; simp only [inB, decide_eq_false_iff_not] at k6; exact k6 this) (HBB.out w' hb3))
              clear k6
              go_wp2_with fail
              go_ret
              exact HF.out
            | true =>
              have K6 : Hid (0 ≤ at_ ∧ at_ ≤ 5761439) := by show _ ∧ _; simpa [inB] using k6
              clear k6
              by_cases k7 : par.data.toList = []
              · have q1 : par.toList = [] := by rw [Lib.toList_data]; exact k7
                have q2 : (par.toList == []) = true := by rw [q1]; rfl
                have q3 : par.toList.isEmpty = true := by rw [q1]; rfl
                have K7 : Hid (par.data.toList = [] ∨ keyL par.data.toList = true) := .inl k7
                clear k7
                go_upto_region 13 with (fail)
                clear q1 q2 q3
                cases k8 : decide (par = xid) with
                | true =>
                  have k8' := of_decide_eq_true k8
                  have HF := Lib.hid (HPOST.out 14 w' (by decide) (fun h => HF8.out h k8') (HBB.out w' hb3))
                  have q8 : (par.toList == xid.toList) = true := by rw [bytes_eq]; exact k8
                  clear k8 k8'
                  go_wp2_with fail
                  go_ret
                  exact HF.out
                | false =>
                  have K8 : Hid (par ≠ xid) := of_decide_eq_false k8
                  have q8 : (par.toList == xid.toList) = false := by rw [bytes_eq]; exact k8
                  clear k8
                  by_cases k9 : text.size ≤ 20000
                  · have k9i : ¬ (20000 : Int) < (text.size : Int) := by omega
                    have K9 := Lib.hid k9
                    clear k9
                    go_wp2_with fail
                    refine (isText_any text w' s5 (HTT.out w' hb3).1).mono ?_
                    rintro e w9 ⟨rfl, hb9'⟩
                    have hb9 := below_trans' hb3 hb9'
                    cases k10 : textB text.data.toList with
                    | false =>
                      have HF := Lib.hid (HPOST.out 3 w9 (by decide) (fun h => by have := HF10.out h; rw [k10] at this; cases this) (HBB.out w9 hb9))
                      clear k10
                      go_wp2_with fail
                      go_ret
                      exact HF.out
                    | true =>
                      have HF := Lib.hid (HGOOD.out w9 (HMK.out K1.out K2.out K3.out K4.out K5.out K6.out K7.out K8.out K9.out k10) (HBB.out w9 hb9))
                      clear k10
                      go_wp2_with fail
                      go_ret
                      exact HF.out
                  · have k9i : (20000 : Int) < (text.size : Int) := by omega
                    have HF := Lib.hid (HPOST.out 2 w' (by decide) (fun h => k9 (HF9.out h)) (HBB.out w' hb3))
                    clear k9
                    go_wp2_with fail
                    go_ret
                    exact HF.out
              · have q1 : ¬ par.toList = [] := by rw [Lib.toList_data]; exact k7
                have q2 : (par.toList == []) = false := by simpa using q1
                have q3 : par.toList.isEmpty = false := by simpa using q1
                have K7' := Lib.hid k7
                clear k7
                go_wp2_with fail
                refine (key2_any par w' s4).mono ?_
                rintro e w7 ⟨rfl, hb7'⟩
                have hb7 := below_trans' hb3 hb7'
                cases k7 : keyL par.data.toList with
                | false =>
                  have HF := Lib.hid (HPOST.out 5 w7 (by decide) (fun h => by rcases HF7.out h with h | h; exact K7'.out h; rw [k7] at h; cases h) (HBB.out w7 hb7))
                  clear k7
                  go_wp2_with fail
                  go_ret
                  exact HF.out
                | true =>
                  have K7 : Hid (par.data.toList = [] ∨ keyL par.data.toList = true) := .inr k7
                  clear k7 c0 c1 c2 c3 c4 c5 c6 hb3 hb7'
                  obtain ⟨c0, c1, c2, c3, c4, c5, c6⟩ := (HCC.out w7 hb7).c
                  simp only at c0 c1 c2 c3 c4 c5 c6
                  cases k8 : decide (par = xid) with
                  | true =>
                    have k8' := of_decide_eq_true k8
                    have HF := Lib.hid (HPOST.out 14 w7 (by decide) (fun h => HF8.out h k8') (HBB.out w7 hb7))
                    have q8 : (par.toList == xid.toList) = true := by rw [bytes_eq]; exact k8
                    clear k8 k8'
                    go_wp2_with fail
                    go_ret
                    exact HF.out
                  | false =>
                    have K8 : Hid (par ≠ xid) := of_decide_eq_false k8
                    have q8 : (par.toList == xid.toList) = false := by rw [bytes_eq]; exact k8
                    clear k8
                    by_cases k9 : text.size ≤ 20000
                    · have k9i : ¬ (20000 : Int) < (text.size : Int) := by omega
                      have K9 := Lib.hid k9
                      clear k9
                      go_wp2_with fail
                      refine (isText_any text w7 s5 (HTT.out w7 hb7).1).mono ?_
                      rintro e w9 ⟨rfl, hb9'⟩
                      have hb9 := below_trans' hb7 hb9'
                      cases k10 : textB text.data.toList with
                      | false =>
                        have HF := Lib.hid (HPOST.out 3 w9 (by decide) (fun h => by have := HF10.out h; rw [k10] at this; cases this) (HBB.out w9 hb9))
                        clear k10
                        go_wp2_with fail
                        go_ret
                        exact HF.out
                      | true =>
                        have HF := Lib.hid (HGOOD.out w9 (HMK.out K1.out K2.out K3.out K4.out K5.out K6.out K7.out K8.out K9.out k10) (HBB.out w9 hb9))
                        clear k10
                        go_wp2_with fail
                        go_ret
                        exact HF.out
                    · have k9i : (20000 : Int) < (text.size : Int) := by omega
                      have HF := Lib.hid (HPOST.out 2 w7 (by decide) (fun h => k9 (HF9.out h)) (HBB.out w7 hb7))
                      clear k9
                      go_wp2_with fail
                      go_ret
                      exact HF.out
        · have k4i : (120 : Int) < (name.size : Int) := by omega
          have HF := Lib.hid (HPOST.out 2 w' (by decide) (fun h => k4 (HF4.out h)) (HBB.out w' hb2))
          clear k4
          go_wp2_with fail
          go_ret
          exact HF.out
end Go.Proofs.YtfijplllfdmcoaaGreatDoor
