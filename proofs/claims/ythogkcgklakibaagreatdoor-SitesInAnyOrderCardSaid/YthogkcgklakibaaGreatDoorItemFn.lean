
/-
  What Key, Plain and IsText of the references return.
-/
import Derived.Test.YthogkcgklakibaaGreatDoorText
import Derived.Test.YthogkcgklakibaaGreatDoorStrLib
import Derived.Test.YthogkcgklakibaaGreatDoorFaultPlain
import Derived.Shelf.Strings.SlTrimAscii
namespace Go.Proofs.YthogkcgklakibaaGreatDoor
open Go.RowKit Go.Shelf Go.Lib

def BoolPost (w : World) (b : Bool) (e : Ending) (w' : World) : Prop := e = .returned (.bool b) ∧ Below w.heap.size w w'
theorem trim_any (s cs : ByteArray) (w : World) (hs : s.size ≤ 1000000) (hcs : cs.size ≤ 1000) (ha : cs.data.toList.all (fun b => decide (b.toNat < 128)) = true) :
    Calls Tryz.prog 155 #[.string s, .string cs] w fun e w' => e = .returned (.string ⟨(Lib.trimS s.data.toList cs.data.toList).toArray⟩) ∧ Below w.heap.size w w' :=
  Any.strings_Trim_laid Tryz.laysTrim (by kernel_rfl) s cs w (by omega) (by omega) (ascii_of_all ha)
theorem keySet2_b : (⟨#[97, 98, 99, 100, 101, 102, 103, 104, 105, 106, 107, 108, 109, 110, 111, 112, 113, 114, 115, 116, 117, 118, 119, 120, 121, 122, 48, 49, 50, 51, 52, 53, 54, 55, 56, 57, 45, 95]⟩ : ByteArray).data.toList = keySet := rfl
theorem smallSet2_b : (⟨#[97, 98, 99, 100, 101, 102, 103, 104, 105, 106, 107, 108, 109, 110, 111, 112, 113, 114, 115, 116, 117, 118, 119, 120, 121, 122]⟩ : ByteArray).data.toList = smallSet := rfl
theorem extractOne (s : ByteArray) : (s.extract 0 1).data.toList = s.data.toList.take 1 := by
  rw [ByteArray.data_extract, Array.toList_extract]
  simp [List.extract]
theorem strContains_any (s sub : ByteArray) (w : World) (hs : s.size ≤ 1000000) (hM : MaxAt w) : Calls Tryz.prog 122 #[.string s, .string sub] w (BoolPost w (Lib.contains s.data.toList sub.data.toList)) := by
  obtain ⟨m, hm⟩ := hM
  refine (Tryz.strings_Contains s sub m w (by omega) hm).mono ?_
  rintro e w' ⟨rfl, rfl⟩
  exact ⟨rfl, Below.refl _ _⟩
/-- A plain string. -/
def plainB (l : List UInt8) : Bool := visB false l && (decide (Lib.trimB l 32 = l) && !Lib.contains l [32, 32])
end Go.Proofs.YthogkcgklakibaaGreatDoor
