
/-
  What Paragraphs returns, and LinesOf.
-/
import Derived.Test.YtmaimojpjepmjaaGreatDoorParas
namespace Go.Proofs.YtmaimojpjepmjaaGreatDoor
open Go.RowKit

def ParagraphsPost (w : World) (e : Ending) (w' : World) : Prop := ∃ A n c ss, e = .returned (.tuple #[.slice A n c, .int .i64 0]) ∧ StrsAt w' A n c ss ∧ ss.Nodup ∧ [] ∉ ss ∧ n ≤ 1001 ∧ Below w.heap.size w w'
set_option maxHeartbeats 800000 in
theorem paragraphs_fn (s : ByteArray) (w : World) (h : BodyOk s w) :
    Calls Tryz.prog 7 #[.string s] w (ParagraphsPost w) := by
  have HCB := Lib.hid (checkBody_any s w (by have := h.size; omega) h.tabs h.text)
  have HPA := Lib.hid (fun wx (hx : BodyOk s wx) => paras_any s wx hx)
  have HOK := Lib.hid h
  clear h
  go_enter Tryz.func7, Tryz.ntmps7
  go_wp2_with fail
  refine HCB.out.mono ?_
  rintro e w1 ⟨rfl, hb1⟩
  have HB1 := Lib.hid hb1
  clear hb1 HCB
  go_wp2_with fail
  refine (HPA.out w1 (HOK.out.below HB1.out)).mono ?_
  rintro e w2 ⟨A, n, c, ss, rfl, hat, hnd, hne, hn, hb2⟩
  have HAT := Lib.hid hat
  have HB2 := Lib.hid (HB1.out.trans (hb2.mono HB1.out.size))
  have HG := Lib.hid (And.intro hnd hne)
  clear hat hb2 HPA hnd hne
  go_wp2_with fail
  go_ret2
  exact ⟨A, n, c, ss, rfl, HAT.out, HG.out.1, HG.out.2, hn, HB2.out⟩
def LinesOfPost (w : World) (l : List Str) (e : Ending) (w' : World) : Prop := ∃ A n c, e = .returned (.slice A n c) ∧ StrsAt w' A n c l ∧ Below w.heap.size w w'
set_option maxHeartbeats 800000 in
theorem linesOf_any (s : ByteArray) (w : World) (hs : s.size ≤ 20000) (hM : MaxAt w) :
    Calls Tryz.prog 36 #[.string s] w (LinesOfPost w (splitC 10 s.data.toList).dropLast) := by
  have HSP := Lib.hid (split_any s 10 w (by omega) hM)
  have hds : s.data.toList.length = s.size := by simp
  have HLN : Hid ((splitC 10 s.data.toList).length ≤ 20001) := by
    show _ ≤ _
    have := costT_splitC s.data.toList 10
    unfold costT at this
    omega
  have HPOS : Hid (0 < (splitC 10 s.data.toList).length) := by
    show 0 < _
    obtain ⟨t, ts, h⟩ := splitC_ne 10 s.data.toList
    rw [h]; simp
  clear hds hM hs
  go_enter Tryz.func36, Tryz.ntmps36
  go_wp2_with fail
  refine HSP.out.mono ?_
  rintro e w2 ⟨A, n, c, rfl, hat, hb2, _⟩
  generalize splitC 10 s.data.toList = l at *
  have hn := hat.1
  have hpos := HPOS.out
  have hln := HLN.out
  have hcn := hat.2.1
  obtain ⟨B, hsl0, hpc⟩ := hat.piece 0 (n - 1) (by omega) (by omega)
  rw [List.drop_zero, Nat.sub_zero, Nat.sub_zero] at hpc
  have hsl := sl_toS A n c (n - 1) (by omega) _ hsl0
  have e1 : IntKind.i64.wrap ((n : Int) - 1) = ((n - 1 : Nat) : Int) := by rw [IntWalk.i64_in _ (by omega)]; omega
  have HPC := Lib.hid hpc
  have HB2 := Lib.hid hb2
  have HTK : Hid (l.take (n - 1) = l.dropLast) := by show _ = _; rw [List.dropLast_eq_take, hn]
  clear hsl0 hpc hat hn hb2 HSP
  go_wp2_with fail
  go_ret
  exact ⟨B, n - 1, c, rfl, by rw [← HTK.out]; exact HPC.out, HB2.out⟩
set_option maxHeartbeats 800000 in
theorem linesOf_fn (s : ByteArray) (w : World) (hs : s.size ≤ 20000) (hM : MaxAt w) :
    Calls Tryz.prog 12 #[.string s] w (LinesOfPost w (splitC 10 s.data.toList).dropLast) := by
  have HL := Lib.hid (linesOf_any s w hs hM)
  clear hs hM
  go_enter Tryz.func12, Tryz.ntmps12
  go_wp2_with fail
  refine HL.out.mono ?_
  rintro e w2 ⟨A, n, c, rfl, hat, hb2⟩
  have HAT := Lib.hid hat
  have HB2 := Lib.hid hb2
  clear hat hb2 HL
  go_wp2_with fail
  go_ret
  exact ⟨A, n, c, rfl, HAT.out, HB2.out⟩
theorem split_endL (T : List Str) (h : ∀ x ∈ T, (10 : UInt8) ∉ x) : (splitC 10 (endL T)).dropLast = T := by
  have key : ∀ (T : List Str), T ≠ [] → (∀ x ∈ T, (10 : UInt8) ∉ x) → splitC 10 (Lib.join T [10] ++ [10]) = T ++ [[]] := by
    intro T
    induction T with
    | nil => intro h; exact absurd rfl h
    | cons x r ih =>
      intro _ h
      have hx := h x (by simp)
      cases r with
      | nil =>
        have h1 : splitC 10 ((10 : UInt8) :: []) = [] :: splitC 10 [] := splitC_eq 10 []
        have h2 := splitC_word h1 x hx
        simpa [Lib.join, splitC] using h2
      | cons y r =>
        have ih' := ih (by simp) (fun z hz => h z (List.mem_cons_of_mem _ hz))
        have h1 : splitC 10 ((10 : UInt8) :: (Lib.join (y :: r) [10] ++ [10])) = [] :: splitC 10 (Lib.join (y :: r) [10] ++ [10]) := splitC_eq 10 _
        have h2 := splitC_word h1 x hx
        rw [ih'] at h2
        have e : Lib.join (x :: y :: r) [10] ++ [10] = x ++ ((10 : UInt8) :: (Lib.join (y :: r) [10] ++ [10])) := by
          simp [Lib.join, List.intercalate, List.intersperse]
        rw [e, h2]
        simp
  unfold endL
  by_cases h0 : T = []
  · subst h0; rfl
  · rw [if_neg h0, key T h0 h]
    simp
end Go.Proofs.YtmaimojpjepmjaaGreatDoor
