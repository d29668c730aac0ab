
/-
  Sets of strings that are made by the call: a map[string]bool in which each value is true.
-/
import Derived.Test.YthogkcgklakibaaGreatDoorElems
import Derived.Maps.OwnSet
import Derived.Maps.StringElems
import Derived.Maps.Ext
import Derived.StringKeys
namespace Go.Proofs.YthogkcgklakibaaGreatDoor
open Go.RowKit Go.Maps

theorem keyS : Keyed Tryz.prog 9 := string_keyed Tryz.underlying9
theorem keyS_mk (s : ByteArray) (hs : s.size ≤ 1000000) : keyOf Tryz.prog 9 (.string s) = some (.string s.data.toList) := WideMaps.keyOf_string_mk Tryz.underlying9 (by simp only [maxLen]; omega)
theorem str_key (x : List UInt8) : WideAt.IsKeyLit (.string x) := by first | trivial | exact Or.inl trivial | simp [WideAt.IsKeyLit]
/-- What was put in. -/
def setD (l : List (List UInt8)) : DataW Unit := l.foldl (fun D x => D.put (.string x) (.lit (.bool true))) (.map [])
theorem setD_snoc (l : List (List UInt8)) (x : List UInt8) : setD (l ++ [x]) = (setD l).put (.string x) (.lit (.bool true)) := by simp [setD]
theorem setD_at (k : List UInt8) (l : List (List UInt8)) : IsMap (setD l) ∧ (setD l).atKey (.string k) (.lit (.bool false)) = .lit (.bool (l.contains k)) := by
  have h : ∀ (l : List (List UInt8)) (D : DataW Unit) (b : Bool), IsMap D → D.atKey (.string k) (.lit (.bool false)) = .lit (.bool b) → IsMap (l.foldl (fun D x => D.put (.string x) (.lit (.bool true))) D) ∧ (l.foldl (fun D x => D.put (.string x) (.lit (.bool true))) D).atKey (.string k) (.lit (.bool false)) = .lit (.bool (b || l.contains k)) := by
    intro l
    induction l with
    | nil => intro D b h1 h2; exact ⟨h1, by simpa using h2⟩
    | cons x l ih =>
      intro D b h1 h2
      rw [List.foldl_cons, List.contains_cons]
      by_cases hx : k = x
      · have := ih (D.put (.string x) (.lit (.bool true))) true (h1.put _ _) (by rw [← hx]; exact atKey_put_same h1 (str_key _) _ _)
        refine ⟨this.1, this.2.trans ?_⟩
        simp [hx]
      · have hne : (Lit.string k) ≠ .string x := fun e => hx (by simpa using e)
        have := ih (D.put (.string x) (.lit (.bool true))) b (h1.put _ _) (by rw [atKey_put_other hne]; exact h2)
        refine ⟨this.1, this.2.trans ?_⟩
        rw [show (k == x) = false by simpa using hx, Bool.false_or]
  have h2 := h l (.map []) false isMap_empty rfl
  rw [Bool.false_or] at h2
  exact h2
theorem elem_bool_inv {P : Program} {e : TypeId} (he : P.underlying e = some .bool) {v : Value} {z : DataW Unit × List MemPlace} (h : plainElem P e v = some z) : ∃ b, v = .bool b ∧ z = (.lit (.bool b), []) := by
  unfold plainElem at h
  rw [he] at h
  cases v <;> simp at h
  exact ⟨_, rfl, h.symm⟩
/-- Block M holds the set of l. -/
def SetAt (w : World) (M : Nat) (l : List (List UInt8)) : Prop := w.ownsMap Tryz.prog 9 (plainElem Tryz.prog 4) M l.length (setD l)
theorem SetAt.look {w : World} {M : Nat} {l : List (List UInt8)} (h : SetAt w M l) (id : ByteArray) (hid : id.size ≤ 1000000) (q : Nat) :
    (Instr.lookup 124 (.map (some M)) (.string id) false).run Tryz.prog (w.drewN q) = .ok (.bool (l.contains id.data.toList)) (w.drewN q) := by
  have hd : (w.drewN q).ownsMap Tryz.prog 9 (plainElem Tryz.prog 4) M l.length (setD l) := h
  obtain ⟨v, ps, hrun, hv⟩ := hd.lookup keyS Tryz.underlying124 (z := .bool false) (by kernel_rfl) (zd := .lit (.bool false)) (zp := []) (by kernel_rfl) (keyS_mk id hid)
  rw [(setD_at id.data.toList l).2] at hv
  obtain ⟨b', rfl, hz⟩ := elem_bool_inv Tryz.underlying4 hv
  simp only [Prod.mk.injEq, DataW.lit.injEq, Lit.bool.injEq] at hz
  rw [hz.1]
  exact hrun
theorem SetAt.look0 {w : World} {M : Nat} {l : List (List UInt8)} (h : SetAt w M l) (id : ByteArray) (hid : id.size ≤ 1000000) :
    (Instr.lookup 124 (.map (some M)) (.string id) false).run Tryz.prog w = .ok (.bool (l.contains id.data.toList)) w := h.look id hid 0
theorem SetAt.lt {w : World} {M : Nat} {l : List (List UInt8)} (h : SetAt w M l) : M < w.heap.size := World.ownsMap.lt h
end Go.Proofs.YthogkcgklakibaaGreatDoor
