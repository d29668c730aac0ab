
/-
  Lines of a text whose last line is ended; pieces, textError and Wrap.
-/
import Derived.Test.YtbipkkebkddegaaGreatDoorWrapFn
import Derived.Test.YtbipkkebkddegaaGreatDoorText
namespace Go.Proofs.YtbipkkebkddegaaGreatDoor
open Go.RowKit

theorem first_two' (a b : Int) (w : World) (t : TypeId) : Calls Tryz.prog 52 #[.slice (some ⟨w.heap.size, 0, none⟩) 2 2] (w.alloc (.cells #[.int .i64 a, .int .i64 b] t)) fun e w' => e = .returned (.int .i64 (firstE [a, b])) ∧ (w.alloc (.cells #[.int .i64 a, .int .i64 b] t)) = w' := by
  refine first_any _ 2 2 [a, b] _ rfl (by omega) (fun j hj => ?_)
  rw [World.cell?_alloc_at _ _ _ _ rfl]
  match j, hj with
  | 0, _ => rfl
  | 1, _ => rfl
def OkPost (r : Value) (w : World) (e : Ending) (w' : World) : Prop := e = .returned r ∧ Below w.heap.size w w'
/-- The lines of a text. -/
def lineL (l : List UInt8) : List (List UInt8) := if l.isEmpty then [] else splitC 10 l.dropLast
def LineW (w : World) (l : List (List UInt8)) (e : Ending) (w' : World) : Prop := ∃ A n c, e = .returned (.tuple #[.slice A n c, .bool true]) ∧ StrsAt w' A n c l ∧ Below w.heap.size w w'
theorem trim_nl {l : List UInt8} (h : [10].isSuffixOf l = true) : Lib.trimSuffix l [10] = l.dropLast ∧ Lib.hasSuffix l [10] = true := by
  have h2 : Lib.hasSuffix l [10] = true := h
  refine ⟨?_, h2⟩
  unfold Lib.trimSuffix
  rw [if_pos h2, List.dropLast_eq_take]
  rfl
set_option maxHeartbeats 1600000 in
theorem lineW_any (s : ByteArray) (w : World) (hs : s.size ≤ 1000000) (hM : MaxAt w) (hT : s.data.toList.isEmpty = true ∨ [10].isSuffixOf s.data.toList = true) :
    Calls Tryz.prog 42 #[.string s] w (LineW w (lineL s.data.toList)) := by
  by_cases h0 : s.data.toList = []
  · have e1 : s.toList = [] := by rw [Lib.toList_data]; exact h0
    have HF : Hid (lineL s.data.toList = []) := by show _ = _; rw [h0]; rfl
    clear hT
    go_enter Tryz.func42, Tryz.ntmps42
    go_wp2_with fail
    go_ret2
    exact ⟨none, 0, 0, rfl, by rw [HF.out]; exact ⟨rfl, Nat.le_refl _, fun _ => rfl, fun h => by omega⟩, Below.refl _ _⟩
  · have e1 : (s.toList == []) = false := by rw [Lib.toList_data]; simpa using h0
    have e2 : ¬ s.toList = [] := by rw [Lib.toList_data]; exact h0
    have hsf : [10].isSuffixOf s.data.toList = true := by
      rcases hT with h | h
      · exact absurd (List.isEmpty_iff.1 h) h0
      · exact h
    obtain ⟨h1, h2⟩ := trim_nl hsf
    have HC := Lib.hid (Tryz.strings_CutSuffix s ⟨#[10]⟩ w (by omega))
    rw [show (⟨#[10]⟩ : ByteArray).data.toList = [10] from rfl, h1, h2] at HC
    have HF : Hid (lineL s.data.toList = splitC 10 s.data.toList.dropLast) := by
      show _ = _
      unfold lineL
      rw [if_neg (by simpa using h0)]
    have hdl : s.data.toList.dropLast.length ≤ 1000000 := by rw [List.length_dropLast, ← size_list']; omega
    have HS := Lib.hid (fun wx (h : MaxAt wx) => split_any (⟨s.data.toList.dropLast.toArray⟩ : ByteArray) 10 wx (show (bag s.data.toList.dropLast).size ≤ 1000000 by rw [bag_size]; exact hdl) h)
    have HMX := Lib.hid hM
    clear hT hsf h1 h2 hdl hM h0
    generalize s.data.toList.dropLast = tr at *
    go_enter Tryz.func42, Tryz.ntmps42
    go_wp2_with fail
    refine HC.out.mono ?_
    rintro e w' ⟨rfl, hw'⟩
    obtain rfl := hw'.symm
    go_wp2_with fail
    refine (HS.out w HMX.out).mono ?_
    rintro e w2 ⟨A, n, c, rfl, hst, hb, _⟩
    have HST := Lib.hid hst
    clear hst
    go_wp2_with fail
    go_ret2
    exact ⟨A, n, c, rfl, by rw [HF.out]; exact HST.out, hb⟩
theorem linesL_eq {l : List UInt8} (h : l.isEmpty = true ∨ [10].isSuffixOf l = true) : linesL l = lineL l := by
  unfold linesL lineL
  by_cases h0 : l = []
  · simp [h0]
  · rcases h with h | h
    · exact absurd (List.isEmpty_iff.1 h) h0
    · rw [if_neg h0, if_pos h]
      cases l with
      | nil => exact absurd rfl h0
      | cons a l => rfl
theorem flat_count : ∀ L : List (List UInt8), (∀ x ∈ L, NoRun x) → (L.flatMap wrapL).length ≤ lensL L + L.length
  | [], _ => by simp
  | x :: L, h => by
    have h1 := (wrapL_count x (h x (by simp))).1
    have h2 := flat_count L (fun y hy => h y (by simp [hy]))
    rw [List.flatMap_cons, List.length_append]
    simp only [lensL, List.map_cons, List.sum_cons, List.length_cons] at *
    omega
theorem lineL_sum (l : List UInt8) : lensL (lineL l) + (lineL l).length ≤ l.length + 1 := by
  unfold lineL
  split
  · simp [lensL]
  · have := splitC_sum 10 l.dropLast
    rw [List.length_dropLast] at this
    unfold lensL
    omega
theorem sum_mem {L : List (List UInt8)} {x : List UInt8} (h : x ∈ L) : x.length ≤ lensL L := lensL_mem L x h
theorem flat_take (L : List (List UInt8)) (k : Nat) (hk : k < L.length) : (L.take (k + 1)).flatMap wrapL = (L.take k).flatMap wrapL ++ wrapL L[k] := by
  rw [List.take_succ_eq_append_getElem hk, List.flatMap_append]; simp
theorem take_count (L : List (List UInt8)) (h : ∀ x ∈ L, NoRun x) (k : Nat) : ((L.take k).flatMap wrapL).length ≤ lensL L + L.length := by
  have h1 := flat_count (L.take k) (fun x hx => h x (List.mem_of_mem_take hx))
  have h2 : lensL (L.take k) ≤ lensL L := by
    conv => rhs; rw [← List.take_append_drop k L, lensL_append]
    omega
  have h3 : (L.take k).length ≤ L.length := by rw [List.length_take]; omega
  omega
def PiecesPost (w : World) (L : List UInt8) (e : Ending) (w' : World) : Prop := ∃ v, e = .returned v ∧ OwnStrs w' w.heap.size v (pieceL L) ∧ Below w.heap.size w w'
def WrapsPost (w : World) (s : ByteArray) (e : Ending) (w' : World) : Prop := ∃ v, e = .returned (.tuple #[v, .int .i64 (bodyE s)]) ∧ (bodyE s = 0 → OwnStrs w' w.heap.size v (pieceL s.data.toList)) ∧ Below w.heap.size w w'
theorem body_ok {s : ByteArray} (h : bodyE s = 0) : s.size ≤ 20000 ∧ NoRun s.data.toList ∧ (s.data.toList.isEmpty = true ∨ [10].isSuffixOf s.data.toList = true) := by
  unfold bodyE at h
  split at h
  · cases h
  · split at h
    · rename_i h1 h2
      simp only [textB, visB, Bool.and_eq_true, Bool.or_eq_true] at h2
      exact ⟨by omega, valid_norun _ _ rfl h2.1.2, h2.2⟩
    · cases h
theorem bodyE_cases (s : ByteArray) : bodyE s = 0 ∨ bodyE s = 2 ∨ bodyE s = 3 := by
  unfold bodyE
  split
  · exact .inr (.inl rfl)
  · split
    · exact .inl rfl
    · exact .inr (.inr rfl)
end Go.Proofs.YtbipkkebkddegaaGreatDoor
