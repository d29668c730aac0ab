
/-
  place, above, returns and treeFault of the references.
-/
import Derived.Test.YtfijplllfdmcoaaGreatDoorItm
import Derived.Test.YtfijplllfdmcoaaGreatDoorOrder
import Derived.Test.YtfijplllfdmcoaaGreatDoorStrLib
namespace Go.Proofs.YtfijplllfdmcoaaGreatDoor
open Go.RowKit

def EqIdPost (w : World) (a b : ByteArray) (e : Ending) (w' : World) : Prop := e = .returned (.bool (decide (a = b))) ∧ Below w.heap.size w w'
set_option maxHeartbeats 400000 in
theorem placeEq_any (P : Nat) (x : Itm) (id : ByteArray) (w : World) (h : w.cell? ⟨P, 0, none⟩ = some (.string id)) (hP : P < w.heap.size) :
    Calls Tryz.prog 121 #[x.v, .pointer (some ⟨P, 0, none⟩)] w (EqIdPost w x.id id) := by
  obtain ⟨xid, cu, kind, name, at_, par, text⟩ := x
  have hb : Below w.heap.size w (w.alloc (.cells #[.string xid, .string cu, .int .i64 kind, .string name, .int .i64 at_, .string par, .string text] 60)) := (Below.refl _ _).alloc (Nat.le_refl _) _
  have hc := (hb.cell (p := ⟨P, 0, none⟩) hP).trans h
  unfold Itm.v
  simp only
  have HQ : Hid ((xid.toList == id.toList) = decide (xid = id)) := by
    show _ = _
    rw [Lib.toList_data, Lib.toList_data]
    by_cases e : xid = id
    · subst e; simp
    · have h2 : ¬ xid.data.toList = id.data.toList := fun e2 => e (by rw [← bag_of xid, ← bag_of id, e2])
      rw [decide_eq_false e]
      exact beq_eq_false_iff_ne.2 h2
  go_enter Tryz.func121, Tryz.ntmps121
  go_wp2_with fail
  go_ret
  exact ⟨by rw [← HQ.out]; rfl, hb⟩
theorem enters_place : ∀ args w, (callFunc 121 args).run Tryz.prog w = .ok (.enter 121 args) w := enters_of Tryz.func121 (by kernel_rfl) rfl
def IntPost (w : World) (z : Int) (e : Ending) (w' : World) : Prop := e = .returned (.int .i64 z) ∧ Below w.heap.size w w'
theorem placeI_take {l : List Itm} {id : ByteArray} {k : Nat} {x : Itm} (hx : l[k]? = some x) (hn : ∀ j y, j < k → l[j]? = some y → y.id ≠ id) (he : x.id = id) : placeI l id = (k : Int) := by
  unfold placeI
  have : findI l id = some k := by
    unfold findI
    rw [List.findIdx?_eq_some_iff_getElem]
    obtain ⟨hk, rfl⟩ := List.getElem?_eq_some_iff.1 hx
    refine ⟨hk, by simpa using he, fun j hj => ?_⟩
    have := hn j _ hj (List.getElem?_eq_getElem (by omega))
    simpa using this
  rw [this]
theorem placeI_none {l : List Itm} {id : ByteArray} (hn : ∀ j y, j < l.length → l[j]? = some y → y.id ≠ id) : placeI l id = -1 := by
  unfold placeI
  have : findI l id = none := by
    unfold findI
    rw [List.findIdx?_eq_none_iff]
    intro x hx
    obtain ⟨j, hj⟩ := List.getElem?_of_mem hx
    have := hn j x (List.getElem?_eq_some_iff.1 hj).1 hj
    simpa using this
  rw [this]
set_option maxHeartbeats 800000 in
set_option maxRecDepth 100000 in
theorem indexItem_any (P : Nat) (id : ByteArray) (A : Option Addr) (n c : Nat) (l : List Itm) (w : World) (h : ItemsAt w A n c l) (hn : n ≤ 100000) (hp : w.cell? ⟨P, 0, none⟩ = some (.string id)) (hP : P < w.heap.size) :
    Calls Tryz.prog 120 #[.slice A n c, .func (.func 121) #[] #[.pointer (some ⟨P, 0, none⟩)]] w (IntPost w (placeI l id)) := by
  have HN := Lib.hid h.1
  have HH := Lib.hid h
  have HP := Lib.hid hp
  have HPL := Lib.hid hP
  have eg := enters_place
  clear h hp hP
  go_enter Tryz.func120, Tryz.ntmps120
  go_wp2_with fail
  go_loopg [8] n (fun gk v wr => ∃ k : Nat, Hid (k + gk = n) ∧ v = .int .i64 (k : Int) ∧ Hid (Below w.heap.size w wr) ∧ Hid (∀ j y, j < k → l[j]? = some y → y.id ≠ id))
  case atStart => exact ⟨0, show 0 + n = n by omega, rfl, Below.refl _ _, show ∀ _ _, _ from fun j y hj => by omega⟩
  case round =>
    obtain ⟨k, HG, rfl, HW, HB⟩ := hrel
    have hkn : k ≤ n := by have := HG.out; omega
    by_cases hlt : k < n
    · obtain ⟨g, off, rfl, hg, hc⟩ := (ElemsAt.keep HH.out HW.out).item (by omega)
      have hkl : k < l.length := by have := HN.out; omega
      obtain ⟨x, hx⟩ : ∃ x, l[k]? = some x := ⟨_, List.getElem?_eq_getElem hkl⟩
      obtain ⟨c0, c1, c2, c3, c4, c5, c6⟩ := hc k x hx
      have HC := Lib.hid (placeEq_any P x id wr ((HW.out.cell (p := ⟨P, 0, none⟩) HPL.out).trans HP.out) (Nat.lt_of_lt_of_le HPL.out HW.out.size))
      have HX := Lib.hid hx
      unfold Itm.v at HC
      clear hc hkl hx
      go_wp2_with fail
      refine HC.out.mono ?_
      rintro e w' ⟨rfl, hw⟩
      have HW2 := Lib.hid (HW.out.trans (hw.mono HW.out.size))
      clear hw HC c0 c1 c2 c3 c4 c5 c6
      by_cases he : x.id = id
      · rw [decide_eq_true he]
        have HF : Hid (placeI l id = (k : Int)) := placeI_take HX.out HB.out he
        clear he
        go_wp2_with fail
        go_ret
        exact ⟨by (rw [HF.out]) <;> rfl, HW2.out⟩
      · rw [decide_eq_false he]
        have HB2 : Hid (∀ j y, j < k + 1 → l[j]? = some y → y.id ≠ id) := fun j y hj hy => by
          by_cases hjk : j = k
          · subst hjk; have := HX.out; rw [hy] at this; cases this; exact he
          · exact HB.out j y (by omega) hy
        clear he
        go_wp2_with fail
        go_roundg (gk - 1)
        case measure => have := HG.out; omega
        case rel => exact ⟨k + 1, show k + 1 + (gk - 1) = n by have := HG.out; omega, by go_num, HW2.out, HB2.out⟩
    · have hnk : ¬ (k : Int) < (n : Int) := by omega
      have HF : Hid (placeI l id = -1) := placeI_none (fun j y hj hy => HB.out j y (by have := HN.out; omega) hy)
      go_wp2_with fail
      go_ret
      exact ⟨by (rw [HF.out]) <;> rfl, HW.out⟩
set_option maxHeartbeats 400000 in
theorem place_any (id : ByteArray) (A : Option Addr) (n c : Nat) (l : List Itm) (w : World) (h : ItemsAt w A n c l) (hn : n ≤ 100000) :
    Calls Tryz.prog 64 #[.slice A n c, .string id] w (IntPost w (placeI l id)) := by
  have hb : Below w.heap.size w (w.alloc (.cells #[.string id] 9)) := (Below.refl _ _).alloc (Nat.le_refl _) _
  have hx := cells_strings w [id] 9 0 (by simp)
  have HI := Lib.hid (indexItem_any w.heap.size id A n c l (w.alloc (.cells #[.string id] 9)) (h.keep hb) hn hx (by simp))
  have hmf : ∀ (fn : Fn) (first cap : Array Value) (w : World), (Instr.makeFunc fn first cap).run Tryz.prog w = .ok (.func fn first cap) w := fun _ _ _ _ => rfl
  have HB := Lib.hid hb
  clear h hx hb
  go_enter Tryz.func64, Tryz.ntmps64
  go_wp2_with fail
  refine HI.out.mono ?_
  rintro e w' ⟨rfl, hw⟩
  have HW := Lib.hid (HB.out.trans (hw.mono HB.out.size))
  generalize placeI l id = z at *
  clear hw HI
  go_wp2_with fail
  go_ret
  exact ⟨rfl, HW.out⟩
end Go.Proofs.YtfijplllfdmcoaaGreatDoor
