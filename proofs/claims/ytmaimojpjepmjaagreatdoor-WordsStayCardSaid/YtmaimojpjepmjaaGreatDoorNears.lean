
/-
  What Shingles returns; nears holds.
-/
import Derived.Test.YtmaimojpjepmjaaGreatDoorNearShin
namespace Go.Proofs.YtmaimojpjepmjaaGreatDoor
open Go.RowKit

set_option maxHeartbeats 800000 in
theorem kError_any (k : Int) (w : World) (h1 : 1 ≤ k) (h2 : k ≤ 10) :
    Calls Tryz.prog 43 #[.int .i64 k] w fun e w' => e = .returned (.int .i64 0) ∧ w = w' := by
  have hi : inB k 1 10 = true := by simp [inB, h1, h2]
  go_enter Tryz.func43, Tryz.ntmps43
  go_wp2_with fail
  refine (in_any k 1 10 w).mono ?_
  rintro e w' ⟨rfl, rfl⟩
  rw [hi]
  go_wp2_with fail
  refine (when_any _ _ _).mono ?_
  rintro e w' ⟨rfl, rfl⟩
  go_wp2_with fail
  go_ret
  exact ⟨rfl, rfl⟩

def ShinglesPost (w : World) (L : List UInt8) (k : Nat) (e : Ending) (w' : World) : Prop := ∃ v, e = .returned (.tuple #[v, .int .i64 0]) ∧ OwnStrs w' w.heap.size v (shinL L k) ∧ Below w.heap.size w w'
set_option maxHeartbeats 800000 in
theorem shinglesE_any (s : ByteArray) (k : Nat) (w : World) (hs : s.size ≤ 20000) (hk : 1 ≤ k) (hk2 : k ≤ 10) (hwl : ∀ i, (winL (wordsL s.data.toList) (min k (wordsL s.data.toList).length) i).length ≤ 1000000) :
    Calls Tryz.prog 50 #[.string s, .int .i64 k] w (ShinglesPost w s.data.toList k) := by
  have HWL := Lib.hid hwl; clear hwl
  go_enter Tryz.func50, Tryz.ntmps50
  go_wp2_with fail
  refine (nlarge_any s w hs).mono ?_
  rintro e w' ⟨rfl, rfl⟩
  go_wp2_with fail
  refine (kError_any k w (by omega) (by omega)).mono ?_
  rintro e w' ⟨rfl, rfl⟩
  go_wp2_with fail
  refine (first_any w.heap.size 2 2 [0, 0] _ rfl (by omega) (fun j hj => ?_)).mono ?_
  · rw [World.cell?_alloc_at _ _ _ _ rfl]
    match j, hj with
    | 0, _ => rfl
    | 1, _ => rfl
  rintro e w' ⟨rfl, rfl⟩
  rw [show firstE [0, 0] = 0 from rfl]
  have hb1 : Below w.heap.size w (w.alloc (.cells #[.int .i64 0, .int .i64 0] 33)) := (Below.refl _ _).alloc (Nat.le_refl _) _
  generalize w.alloc (.cells #[.int .i64 0, .int .i64 0] 33) = w1 at *
  go_wp2_with fail
  refine (shingles_any s k w1 hs hk (by omega) HWL.out).mono ?_
  rintro e w2 ⟨v, rfl, hown, hb2⟩
  go_wp2_with fail
  go_ret2
  exact ⟨_, rfl, hown.base_ hb1.size, below_trans' hb1 hb2⟩

theorem words_abc : wordsL [97, 32, 98, 32, 99] = [[97], [98], [99]] := by decide +kernel
theorem shin_abc : shinL [97, 32, 98, 32, 99] 2 = [[97, 32, 98], [98, 32, 99]] := by
  unfold shinL
  rw [words_abc]
  have e0 : winsTo [[97], [98], [99]] (min 2 3) (3 - min 2 3 + 1) = [[97, 32, 98], [98, 32, 99]] := by decide +kernel
  have e : sortL [[97, 32, 98], [98, 32, 99]] = [[97, 32, 98], [98, 32, 99]] := by
    unfold sortL
    first
      | exact List.mergeSort_of_pairwise (by decide +kernel)
      | exact List.mergeSort_of_sorted (by decide +kernel)
  show (if (3 : Nat) = 0 then [] else Lib.compact (sortL (winsTo [[97], [98], [99]] (min 2 3) (3 - min 2 3 + 1)))) = _
  rw [e0, e]
  decide +kernel
theorem join_le (l : List (List UInt8)) : (Lib.join l [32]).length ≤ lensL l + l.length := by
  cases l with
  | nil => exact Nat.le_refl _
  | cons x r =>
    have e : Lib.lens (x :: r) = lensL (x :: r) := rfl
    rw [Lib.join_length, e]; simp only [List.length_cons, List.length_nil]; omega
theorem win_le (L : List (List UInt8)) (k i : Nat) (h : lensL L + L.length ≤ 1000000) : (winL L k i).length ≤ 1000000 := by
  have h1 := join_le ((L.drop i).take k)
  have h2 : lensL (L.drop i) ≤ lensL L := by have := lensL_append (L.take i) (L.drop i); rw [List.take_append_drop] at this; omega
  have h3 : lensL ((L.drop i).take k) ≤ lensL (L.drop i) := by have := lensL_append ((L.drop i).take k) ((L.drop i).drop k); rw [List.take_append_drop] at this; omega
  have h4 : ((L.drop i).take k).length ≤ L.length := by rw [List.length_take, List.length_drop]; omega
  unfold winL
  omega

theorem abc_data : (⟨#[97, 32, 98, 32, 99]⟩ : ByteArray).data.toList = [97, 32, 98, 32, 99] := rfl
set_option maxHeartbeats 800000 in
theorem nears_any (w : World) : Calls Tryz.prog 19 #[] w fun e w' => e = .returned (.bool true) ∧ Below w.heap.size w w' := by
  go_enter Tryz.func19, Tryz.ntmps19
  go_wp2_with fail
  refine (shinglesE_any ⟨#[97, 32, 98, 32, 99]⟩ 2 w (by decide) (by omega) (by omega) (fun i => by rw [abc_data, words_abc]; exact win_le _ _ _ (by decide))).mono ?_
  rintro e w1 ⟨v, rfl, hown, hb1⟩
  rw [abc_data, shin_abc] at hown
  obtain ⟨A, c, rfl, q1, hat, q2⟩ := hown.at_ strE_ok
  clear q1 q2 hown
  have hz1 := hb1.size
  have hb2 : Below w1.heap.size w1 (w1.alloc (.cells #[.string ⟨#[97, 32, 98]⟩, .string ⟨#[98, 32, 99]⟩] 9)) := (Below.refl _ _).alloc (Nat.le_refl _) _
  have hat2 : StrsAt (w1.alloc (.cells #[.string ⟨#[97, 32, 98]⟩, .string ⟨#[98, 32, 99]⟩] 9)) (some ⟨w1.heap.size, 0, none⟩) 2 2 [[97, 32, 98], [98, 32, 99]] := by
    refine ⟨rfl, by omega, (fun h => by cases h), fun _ => ⟨w1.heap.size, 0, rfl, by simp, fun k x i v hk hv => ?_⟩⟩
    rw [World.cell?_alloc_at _ _ _ _ rfl]
    have hi : i = 0 := by have := (List.getElem?_eq_some_iff.1 hv).1; simp [StrE] at this; exact this
    subst hi
    match k, hk with
    | 0, hk => simp at hk; subst hk; simp [StrE] at hv ⊢; exact hv
    | 1, hk => simp at hk; subst hk; simp [StrE] at hv ⊢; exact hv
    | k + 2, hk => simp at hk
  go_wp2_with fail
  refine (equal_any A (some ⟨w1.heap.size, 0, none⟩) 2 c 2 2 [[97, 32, 98], [98, 32, 99]] [[97, 32, 98], [98, 32, 99]] _ (hat.keep hb2) hat2 (by omega) (by omega)).mono ?_
  rintro e w3 ⟨rfl, q, rfl⟩
  go_wp2_with fail
  go_ret
  exact ⟨by simp, below_drewN (below_trans' hb1 hb2) q⟩

end Go.Proofs.YtmaimojpjepmjaaGreatDoor
