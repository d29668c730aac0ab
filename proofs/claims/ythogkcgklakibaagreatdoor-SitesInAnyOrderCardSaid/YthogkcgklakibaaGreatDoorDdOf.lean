
/-
  chaseref1.deedOf: the deed with a stamp.
-/
import Derived.Test.YthogkcgklakibaaGreatDoorDdE
namespace Go.Proofs.YthogkcgklakibaaGreatDoor
open Go.RowKit
attribute [local go_sem ↓] Go.wp_at_zero Go.wp_at_succ

theorem bytes_eqD (a b : ByteArray) : (a.toList == b.toList) = decide (a = b) := by
  rw [Lib.toList_data, Lib.toList_data]
  by_cases h : a = b
  · subst h; simp
  · have h2 : ¬ a.data.toList = b.data.toList := fun e => h (ByteArray.ext (Array.toList_inj.1 e))
    rw [decide_eq_false h]
    exact beq_eq_false_iff_ne.2 h2
/-- Whether a deed has a stamp. -/
def hasSt (s : ByteArray) (z : Int) (x : Deed) : Bool := decide (x.site = s) && decide (x.no = z)
/-- A stamp's cells. -/
abbrev StB (w : World) (B : Nat) (s : ByteArray) (z : Int) : Prop := w.heap[B]? = some (.cells #[.string s, .int .i64 z] 36 (0, 0))
theorem StB.c {w : World} {B : Nat} {s : ByteArray} {z : Int} (h : StB w B s z) : w.cell? ⟨B, 0, none⟩ = some (.string s) ∧ w.cell? ⟨B, 1, none⟩ = some (.int .i64 z) := by
  refine ⟨?_, ?_⟩ <;> (rw [cell_of_row w B _ _ _ _ h]; rfl)
theorem StB.keep {w w' : World} {B : Nat} {s : ByteArray} {z : Int} (h : StB w B s z) (hb : Below w.heap.size w w') : StB w' B s z := (hb.block B (Array.getElem?_eq_some_iff.1 h).1).trans h
set_option maxHeartbeats 800000 in
set_option maxRecDepth 100000 in
theorem deedOf1_any (B : Nat) (s : ByteArray) (z : Int) (x : Deed) (w : World) (hB : StB w B s z) :
    Calls Tryz.prog 116 #[x.v, .pointer (some ⟨B, 0, none⟩)] w fun e w' => e = .returned (.bool (hasSt s z x)) ∧ Below w.heap.size w w' := by
  have hb1 : Below w.heap.size w (w.alloc (.cells #[.string x.site, .int .i64 x.no, .int .i64 x.at_, .int .i64 x.kind, .string x.id, .string x.fld, .string x.val, .int .i64 x.from_, .int .i64 x.to_, .string x.osite, .int .i64 x.ono, .string x.sum] 40)) := (Below.refl _ _).alloc (Nat.le_refl _) _
  have HD1 : Hid (DeedAt (w.alloc (.cells #[.string x.site, .int .i64 x.no, .int .i64 x.at_, .int .i64 x.kind, .string x.id, .string x.fld, .string x.val, .int .i64 x.from_, .int .i64 x.to_, .string x.osite, .int .i64 x.ono, .string x.sum] 40)) w.heap.size x) := deed_new w x
  have HS1 := Lib.hid (hB.keep hb1)
  have HB := Lib.hid hb1
  have q := bytes_eqD x.site s
  clear hb1 hB
  unfold Deed.v
  go_enter Tryz.func116, Tryz.ntmps116
  go_upto_region 1 with (fail)
  obtain ⟨P, hP⟩ : ∃ P, P = w.heap.size := ⟨_, rfl⟩
  rw [← hP] at HD1 ⊢
  generalize w.alloc (.cells #[.string x.site, .int .i64 x.no, .int .i64 x.at_, .int .i64 x.kind, .string x.id, .string x.fld, .string x.val, .int .i64 x.from_, .int .i64 x.to_, .string x.osite, .int .i64 x.ono, .string x.sum] 40) = w1 at *
  clear hP
  obtain ⟨a0, a1, a2, a3, a4, a5, a6, a7, a8, a9, a10, a11⟩ := HD1.out.c
  obtain ⟨s0, s1⟩ := HS1.out.c
  by_cases h1 : x.site = s <;> by_cases h2 : x.no = z
  all_goals
    have HF : Hid (hasSt s z x = (decide (x.site = s) && decide (x.no = z))) := rfl
    first
      | rw [decide_eq_true h1] at q HF
      | rw [decide_eq_false h1] at q HF
    first
      | (have q2 : (x.no == z) = true := by simpa using h2); rw [decide_eq_true h2] at HF
      | (have q2 : (x.no == z) = false := by simpa using h2); rw [decide_eq_false h2] at HF
    clear h1 h2
    go_wp2_with fail
    go_ret
    exact ⟨ret_bool (by rw [HF.out]; first | rfl | simp_all), HB.out⟩
set_option maxHeartbeats 1600000 in
set_option maxRecDepth 100000 in
theorem idxOf_any (A : Option Addr) (n c : Nat) (l : List Deed) (B : Nat) (s : ByteArray) (z : Int) (w : World) (hA : DeedsAt w A n c l) (hn : n ≤ 100000)
    (hcl : ∀ x ∈ l, ∀ wx, Below w.heap.size w wx → Calls Tryz.prog 116 (#[x.v] ++ #[.pointer (some ⟨B, 0, none⟩)]) wx fun e w' => e = .returned (.bool (hasSt s z x)) ∧ Below wx.heap.size wx w') :
    Calls Tryz.prog 49 #[.slice A n c, .func (.func 116) #[] #[.pointer (some ⟨B, 0, none⟩)]] w fun e w' => (∃ r : Int, e = .returned (.int .i64 r) ∧ ((r = -1 ∧ ∀ x ∈ l, hasSt s z x = false) ∨ ∃ (k : Nat) (x : Deed), r = (k : Int) ∧ l[k]? = some x ∧ hasSt s z x = true)) ∧ Below w.heap.size w w' := by
  have HN := Lib.hid hA.1
  have HA := Lib.hid hA
  have HCL := Lib.hid hcl
  clear hA hcl
  go_enter Tryz.func49, Tryz.ntmps49
  go_wp2_with fail
  go_loopg [8] n (fun gk v wr => ∃ k : Nat, Hid (k + gk = n) ∧ v = .int .i64 (k : Int) ∧ Hid (∀ x ∈ l.take k, hasSt s z x = false) ∧ Hid (Below w.heap.size w wr))
  case atStart => exact ⟨0, show 0 + n = n by omega, rfl, (fun x hx => by simp at hx), Below.refl _ _⟩
  case round =>
    obtain ⟨k, HKK, rfl, HNO, HW⟩ := hrel
    have hkn : k ≤ n := by have := HKK.out; omega
    by_cases hlt : k < n
    · have HGK := Lib.hid (show k + 1 + (gk - 1) = n ∧ 0 < gk by have := HKK.out; omega)
      obtain ⟨gA, off, rfl, hgA, hcA⟩ := (ElemsAt.keep HA.out HW.out).deed (by omega)
      have hkl : k < l.length := by rw [← HN.out]; exact hlt
      obtain ⟨x, hx⟩ : ∃ x, l[k]? = some x := ⟨_, List.getElem?_eq_getElem hkl⟩
      obtain ⟨c0, c1, c2, c3, c4, c5, c6, c7, c8, c9, c10, c11⟩ := hcA k x hx
      have HX := Lib.hid hx
      have HCX := Lib.hid (HCL.out x (List.mem_of_getElem? hx) wr HW.out)
      have HTK : Hid (l.take (k + 1) = l.take k ++ [x]) := by
        show _ = _
        obtain ⟨h1, h2⟩ := List.getElem?_eq_some_iff.1 hx
        rw [List.take_succ_eq_append_getElem h1, h2]
      unfold Deed.v at HCX
      clear hcA hkl hx hgA
      go_wp2_with fail
      refine HCX.out.mono ?_
      rintro e w4 ⟨rfl, hb4⟩
      have HW4 := Lib.hid (HW.out.trans (hb4.mono HW.out.size))
      clear hb4 HCX c0 c1 c2 c3 c4 c5 c6 c7 c8 c9 c10 c11
      cases hp : hasSt s z x with
      | true =>
        have HF := Lib.hid hp
        clear hp
        go_wp2_with fail
        go_ret
        exact ⟨⟨(k : Int), rfl, .inr ⟨k, x, rfl, HX.out, HF.out⟩⟩, HW4.out⟩
      | false =>
        have HF := Lib.hid hp
        clear hp
        go_wp2_with fail
        go_roundg (gk - 1)
        case measure => exact Nat.sub_lt HGK.out.2 Nat.one_pos
        case rel => exact ⟨k + 1, HGK.out.1, by go_num, (fun y hy => by
          rw [HTK.out] at hy
          rcases List.mem_append.1 hy with hy | hy
          · exact HNO.out y hy
          · rw [List.mem_singleton.1 hy]; exact HF.out), HW4.out⟩
    · have hnk : ¬ (k : Int) < (n : Int) := by omega
      have hta : l.take k = l := List.take_of_length_le (by have := HN.out; omega)
      rw [hta] at HNO
      clear hta
      go_wp2_with fail
      go_ret
      exact ⟨⟨-1, rfl, .inl ⟨rfl, HNO.out⟩⟩, HW.out⟩
/-- A deed stored over another one. -/
theorem cells_setD {w : World} {Z : Nat} {cs : Array Value} {t : TypeId} {fr : Nat × Nat} (h : w.heap[Z]? = some (.cells cs t fr)) (i : Nat) (v : Value) : (w.setCell ⟨Z, i, none⟩ v).heap[Z]? = some (.cells (cs.setIfInBounds i v) t fr) := by
  simp [World.setCell, Array.getElem?_modify, h]
theorem DeedAt.setAll {w : World} {Z : Nat} {y : Deed} (h : DeedAt w Z y) (x : Deed) : DeedAt ((((((((((((w.setCell ⟨Z, 0, none⟩ (.string x.site)).setCell ⟨Z, 1, none⟩ (.int .i64 x.no)).setCell ⟨Z, 2, none⟩ (.int .i64 x.at_)).setCell ⟨Z, 3, none⟩ (.int .i64 x.kind)).setCell ⟨Z, 4, none⟩ (.string x.id)).setCell ⟨Z, 5, none⟩ (.string x.fld)).setCell ⟨Z, 6, none⟩ (.string x.val)).setCell ⟨Z, 7, none⟩ (.int .i64 x.from_)).setCell ⟨Z, 8, none⟩ (.int .i64 x.to_)).setCell ⟨Z, 9, none⟩ (.string x.osite)).setCell ⟨Z, 10, none⟩ (.int .i64 x.ono)).setCell ⟨Z, 11, none⟩ (.string x.sum)) Z x := by
  unfold DeedAt at *
  unfold Deed.cells at *
  have h0 := cells_setD h 0 (.string x.site)
  simp only [List.setIfInBounds_toArray, List.set_cons_zero] at h0
  have h1 := cells_setD h0 1 (.int .i64 x.no)
  simp only [List.setIfInBounds_toArray, List.set_cons_zero, List.set_cons_succ] at h1
  have h2 := cells_setD h1 2 (.int .i64 x.at_)
  simp only [List.setIfInBounds_toArray, List.set_cons_zero, List.set_cons_succ] at h2
  have h3 := cells_setD h2 3 (.int .i64 x.kind)
  simp only [List.setIfInBounds_toArray, List.set_cons_zero, List.set_cons_succ] at h3
  have h4 := cells_setD h3 4 (.string x.id)
  simp only [List.setIfInBounds_toArray, List.set_cons_zero, List.set_cons_succ] at h4
  have h5 := cells_setD h4 5 (.string x.fld)
  simp only [List.setIfInBounds_toArray, List.set_cons_zero, List.set_cons_succ] at h5
  have h6 := cells_setD h5 6 (.string x.val)
  simp only [List.setIfInBounds_toArray, List.set_cons_zero, List.set_cons_succ] at h6
  have h7 := cells_setD h6 7 (.int .i64 x.from_)
  simp only [List.setIfInBounds_toArray, List.set_cons_zero, List.set_cons_succ] at h7
  have h8 := cells_setD h7 8 (.int .i64 x.to_)
  simp only [List.setIfInBounds_toArray, List.set_cons_zero, List.set_cons_succ] at h8
  have h9 := cells_setD h8 9 (.string x.osite)
  simp only [List.setIfInBounds_toArray, List.set_cons_zero, List.set_cons_succ] at h9
  have h10 := cells_setD h9 10 (.int .i64 x.ono)
  simp only [List.setIfInBounds_toArray, List.set_cons_zero, List.set_cons_succ] at h10
  have h11 := cells_setD h10 11 (.string x.sum)
  simp only [List.setIfInBounds_toArray, List.set_cons_zero, List.set_cons_succ] at h11
  exact h11
theorem below_set12 {w0 w : World} {Z : Nat} (hb : Below w0.heap.size w0 w) (hz : w0.heap.size ≤ Z) (x : Deed) : Below w0.heap.size w0 ((((((((((((w.setCell ⟨Z, 0, none⟩ (.string x.site)).setCell ⟨Z, 1, none⟩ (.int .i64 x.no)).setCell ⟨Z, 2, none⟩ (.int .i64 x.at_)).setCell ⟨Z, 3, none⟩ (.int .i64 x.kind)).setCell ⟨Z, 4, none⟩ (.string x.id)).setCell ⟨Z, 5, none⟩ (.string x.fld)).setCell ⟨Z, 6, none⟩ (.string x.val)).setCell ⟨Z, 7, none⟩ (.int .i64 x.from_)).setCell ⟨Z, 8, none⟩ (.int .i64 x.to_)).setCell ⟨Z, 9, none⟩ (.string x.osite)).setCell ⟨Z, 10, none⟩ (.int .i64 x.ono)).setCell ⟨Z, 11, none⟩ (.string x.sum)) :=
  ((((((((((((hb.setCell hz _).setCell hz _).setCell hz _).setCell hz _).setCell hz _).setCell hz _).setCell hz _).setCell hz _).setCell hz _).setCell hz _).setCell hz _).setCell hz _)
end Go.Proofs.YthogkcgklakibaaGreatDoor
