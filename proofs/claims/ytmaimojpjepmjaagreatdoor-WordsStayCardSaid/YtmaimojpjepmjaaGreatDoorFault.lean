
/-
  What made, KeyOf, Key and BodiesFault return.
-/
import Derived.Test.YtmaimojpjepmjaaGreatDoorBodies
import Derived.Shelf.Strings.SlTrimAscii
import Derived.Shelf.SlicesQ.IndexFunc
namespace Go.Proofs.YtmaimojpjepmjaaGreatDoor
open Go.RowKit Go.Shelf Go.Lib

theorem trim_any (s cs : ByteArray) (w : World) (hs : s.size ≤ 1000000) (hcs : cs.size ≤ 1000) (ha : cs.data.toList.all (fun b => decide (b.toNat < 128)) = true) :
    Calls Tryz.prog 63 #[.string s, .string cs] w fun e w' => e = .returned (.string ⟨(Lib.trimS s.data.toList cs.data.toList).toArray⟩) ∧ Below w.heap.size w w' :=
  Any.strings_Trim_laid Tryz.laysTrim (by kernel_rfl) s cs w (by omega) (by omega) (ascii_of_all ha)

theorem toList_beq (a b : ByteArray) : (a.toList == b.toList) = decide (a = b) := by
  rw [Lib.toList_data, Lib.toList_data]
  by_cases h : a = b
  · subst h; simp
  · have h2 : ¬ a.data.toList = b.data.toList := fun e => h (ByteArray.ext (Array.toList_inj.1 e))
    rw [decide_eq_false h]
    exact beq_eq_false_iff_ne.2 h2
theorem empty_list (s : ByteArray) (h : s.data.toList = []) : s.toList = [] := by rw [Lib.toList_data]; exact h
theorem keySet_b : (⟨#[97, 98, 99, 100, 101, 102, 103, 104, 105, 106, 107, 108, 109, 110, 111, 112, 113, 114, 115, 116, 117, 118, 119, 120, 121, 122, 48, 49, 50, 51, 52, 53, 54, 55, 56, 57, 45, 95]⟩ : ByteArray).data.toList = keySet := rfl
theorem smallSet_b : (⟨#[97, 98, 99, 100, 101, 102, 103, 104, 105, 106, 107, 108, 109, 110, 111, 112, 113, 114, 115, 116, 117, 118, 119, 120, 121, 122]⟩ : ByteArray).data.toList = smallSet := rfl
theorem extract1 (s : ByteArray) : (s.extract 0 1).data.toList = s.data.toList.take 1 := by
  rw [ByteArray.data_extract, Array.toList_extract]
  simp [List.extract]

theorem ElemsAt.cellsQ {α : Type} [Inhabited α] {E : Elem α} {w : World} {g off n c : Nat} {l : List α} (h : ElemsAt E w (some ⟨g, off, none⟩) n c l) : ∀ j, j < l.length → ∀ i v, (E.enc l[j]!)[i]? = some v → w.cell? ⟨g, off + j * E.size + i, none⟩ = some v := by
  intro j hj i v hv
  have hn := h.1
  obtain ⟨g', off', hA, _, hc⟩ := h.2.2.2 (by omega)
  cases hA
  have e : l[j]? = some l[j]! := by simp [hj]
  exact hc j _ i v e hv

def FaultPost (w : World) (l : List Body2) (e : Ending) (w' : World) : Prop := e = .returned (.int .i64 (faultL l)) ∧ Below w.heap.size w w'
end Go.Proofs.YtmaimojpjepmjaaGreatDoor
