/-
  Right spans are accepted.
-/
import Derived.Test.YtldngebikgendaaDoorText
import Derived.Test.YtldngebikgendaaDoorSpanPlain
import Derived.Deep.QuietTactic
import Derived.BigQuiet
import Derived.StillTailTactics
namespace Go.Proofs.YtldngebikgendaaDoor
open Go.RowKit

theorem still_skip {P : Program} {ops : Array Oper} {w : World} {Q : Act → Prop} {a : Act} {o : Oper} {rest : List Oper} (h : Region.wanted o (yielded ops a.tmps) = false)
    (h2 : wpStill P ops w Q rest (a.put o.dst undef)) : wpStill P ops w Q (o :: rest) a := by
  unfold wpStill
  rw [if_neg (by rw [h]; exact Bool.false_ne_true)]
  exact h2

theorem when_no (c : Int) (w : World) : Calls Tryd.prog 46 #[.bool false, .int .i64 c] w fun e w' => e = .returned (.int .i64 0) ∧ w = w' := when_any false c w
theorem when_yes (c : Int) (w : World) : Calls Tryd.prog 46 #[.bool true, .int .i64 c] w fun e w' => e = .returned (.int .i64 c) ∧ w = w' := when_any true c w
theorem when_no_still (c : Int) (w : World) : Calls Tryd.prog 46 #[.bool false, .int .i64 c] w fun e w' => e = .returned (.int .i64 0) ∧ w' = w := (when_any false c w).mono fun _ _ h => ⟨h.1, h.2.symm⟩
theorem first_two (g : Nat) (w : World) (h : g = w.heap.size) (t : TypeId) : Calls Tryd.prog 25 #[.slice (some ⟨g, 0, none⟩) 2 2] (w.alloc (.cells #[.int .i64 0, .int .i64 0] t)) fun e w' => e = .returned (.int .i64 0) ∧ (w.alloc (.cells #[.int .i64 0, .int .i64 0] t)) = w' := by
  subst h
  refine first_any _ 2 2 [0, 0] _ rfl (by omega) (fun j hj => ?_)
  rw [World.cell?_alloc_at _ _ _ _ rfl]
  match j, hj with
  | 0, _ => rfl
  | 1, _ => rfl
theorem first_three (g : Nat) (w : World) (h : g = w.heap.size) (t : TypeId) : Calls Tryd.prog 25 #[.slice (some ⟨g, 0, none⟩) 3 3] (w.alloc (.cells #[.int .i64 0, .int .i64 0, .int .i64 0] t)) fun e w' => e = .returned (.int .i64 0) ∧ (w.alloc (.cells #[.int .i64 0, .int .i64 0, .int .i64 0] t)) = w' := by
  subst h
  refine first_any _ 3 3 [0, 0, 0] _ rfl (by omega) (fun j hj => ?_)
  rw [World.cell?_alloc_at _ _ _ _ rfl]
  match j, hj with
  | 0, _ => rfl
  | 1, _ => rfl
  | 2, _ => rfl

/-- The slice value '.slice A n c' reads as the spans l. -/
def SpansAt (w : World) (A : Option Addr) (n : Nat) (l : List (Int × Int)) : Prop :=
  n = l.length ∧ (0 < n → ∃ g, A = some ⟨g, 0, none⟩ ∧ g < w.heap.size ∧ ∀ k, k < n → w.cell? ⟨g, k * 2, none⟩ = some (.int .i64 (l.getD k (0, 0)).1) ∧ w.cell? ⟨g, k * 2 + 1, none⟩ = some (.int .i64 (l.getD k (0, 0)).2))

theorem SpansAt.keep {w w' : World} {A : Option Addr} {n : Nat} {l : List (Int × Int)} (h : SpansAt w A n l) (hb : Below w.heap.size w w') : SpansAt w' A n l :=
  ⟨h.1, fun hn => by
    obtain ⟨g, h1, h2, h3⟩ := h.2 hn
    exact ⟨g, h1, Nat.lt_of_lt_of_le h2 hb.size, fun k hk => ⟨(hb.cell (p := ⟨g, k * 2, none⟩) h2).trans (h3 k hk).1, (hb.cell (p := ⟨g, k * 2 + 1, none⟩) h2).trans (h3 k hk).2⟩⟩⟩

theorem Right.at_ {size : Int} : ∀ {lo : Int} {l : List (Int × Int)} (_ : Right size lo l) (k : Nat), k < l.length →
    lo < (l.getD k (0, 0)).1 ∧ (l.getD k (0, 0)).1 < (l.getD k (0, 0)).2 ∧ (l.getD k (0, 0)).2 ≤ size ∧ (1 ≤ k → (l.getD (k - 1) (0, 0)).2 < (l.getD k (0, 0)).1)
  | _, [], _, k, hk => by simp at hk
  | lo, x :: l, ⟨a, b, c, d⟩, k, hk => by
    cases k with
    | zero => exact ⟨a, b, c, fun h => by omega⟩
    | succ k =>
      obtain ⟨e1, e2, e3, e4⟩ := Right.at_ d k (by simpa using hk)
      simp only [List.getD_cons_succ]
      refine ⟨by omega, e2, e3, fun _ => ?_⟩
      cases k with
      | zero => simpa using e1
      | succ k => simpa using e4 (by omega)

set_option maxHeartbeats 1600000 in
set_option maxRecDepth 100000 in
theorem checkSpans_any (A : Option Addr) (n c : Nat) (l : List (Int × Int)) (size : Int) (w : World) (h : SpansAt w A n l) (hR : Right size (-1) l) (hn : n ≤ 1000) (h0 : 0 ≤ size) (h1 : size ≤ 200000) :
    Calls Tryd.prog 26 #[.slice A n c, .int .i64 size] w fun e w' => e = .returned (.int .i64 0) ∧ Below w.heap.size w w' := by
  have hin : inB size 0 200000 = true := by simp [inB, h0, h1]
  have hgt : decide (1000 < (n : Int)) = false := by simp; omega
  go_enter Tryd.func26, Tryd.ntmps26
  go_wp2_with fail
  refine (in_any _ _ _ _).mono ?_
  rintro e w' ⟨rfl, rfl⟩
  rw [hin]
  go_wp2_with fail
  refine (when_no _ _).mono ?_
  rintro e w' ⟨rfl, rfl⟩
  go_wp2_with fail
  refine (when_no _ _).mono ?_
  rintro e w' ⟨rfl, rfl⟩
  go_wp2_with fail
  refine (first_two _ _ rfl _).mono ?_
  rintro e w' ⟨rfl, rfl⟩
  go_wp2_with fail
  clear hin hgt
  have hbel : Below w.heap.size w (w.alloc (Obj.cells #[.int .i64 0, .int .i64 0] 27)) := (Below.refl _ _).alloc (Nat.le_refl _) _
  go_loopw [24] (fun i wr => ∃ k : Nat, k ≤ n ∧ i = .int .i64 k ∧ Below w.heap.size w wr) (fun i _ => n - (intOf i).toNat)
  case atStart => exact ⟨0, Nat.zero_le _, rfl, hbel⟩
  case round =>
    obtain ⟨k, hk, rfl, hb⟩ := hrel
    clear hbel
    by_cases hlt : k < n
    · obtain ⟨g, rfl, hg, hcs⟩ := h.2 (by omega)
      obtain ⟨r1, r2, r3, r4⟩ := hR.at_ k (by have := h.1; omega)
      have hgr : g < wr.heap.size := Nat.lt_of_lt_of_le hg hb.size
      have c1 := (hb.cell (p := ⟨g, k * 2, none⟩) hg).trans (hcs k hlt).1
      have c2 := (hb.cell (p := ⟨g, k * 2 + 1, none⟩) hg).trans (hcs k hlt).2
      have c3 : wr.cell? ⟨g, (k - 1) * 2 + 1, none⟩ = some (.int .i64 (l.getD (k - 1) (0, 0)).2) := (hb.cell (p := ⟨g, (k - 1) * 2 + 1, none⟩) hg).trans (hcs (k - 1) (by omega)).2
      have H := Lib.hid h; clear h
      have HC := Lib.hid hcs; clear hcs
      generalize (l.getD k (0, 0)).1 = fr at *
      generalize (l.getD k (0, 0)).2 = tu at *
      generalize (l.getD (k - 1) (0, 0)).2 = pr at *
      have hf1 : decide (fr < 0) = false := by simp; omega
      have hf2 : decide (tu ≤ fr) = false := by simp; omega
      have hf3 : decide (size < tu) = false := by simp; omega
      go_wp2_with fail
      generalize hw1 : wr.alloc (Obj.cells #[.int .i64 fr, .int .i64 tu] 38) = w1
      have hb1 : Below w.heap.size w w1 := by rw [← hw1]; exact hb.alloc hb.size _
      have d1 : w1.cell? ⟨wr.heap.size, 0, none⟩ = some (.int .i64 fr) := by rw [← hw1, World.cell?_alloc_at _ _ _ _ rfl]; rfl
      have d2 : w1.cell? ⟨wr.heap.size, 1, none⟩ = some (.int .i64 tu) := by rw [← hw1, World.cell?_alloc_at _ _ _ _ rfl]; rfl
      have d3 : w1.cell? ⟨g, (k - 1) * 2 + 1, none⟩ = some (.int .i64 pr) := by rw [← hw1, World.cell?_alloc_lt _ _ _ hgr]; exact c3
      clear hw1 c1 c2 c3
      by_cases hk0 : 1 ≤ k
      · have r5 := r4 hk0
        have hf4 : 0 < k := by omega
        have hf6 : decide (0 < k) = true := by simp; omega
        have hx1 : max (k : Int) 1 = (k : Int) := by omega
        have hx2 : IntKind.i64.wrap ((k : Int) - 1) = (k : Int) - 1 := IntWalk.i64_in _ (by omega)
        have hx3 : (1 : Int) ≤ (k : Int) := by omega
        have hx4 : (k : Int) - 1 < (n : Int) := by omega
        have hx5 : ((k : Int) - 1).toNat = k - 1 := by omega
        have hf5 : decide (fr ≤ pr) = false := by simp; omega
        clear r4
        refine wp_region_still_tail 32 (by kernel_rfl) (by kernel_rfl) ?_
        simp only [List.take_succ_cons, List.take_zero, List.drop_succ_cons, List.drop_zero]
        repeat still_step
        still_call (when_no_still _ _)
        repeat still_step
        still_call (when_no_still _ _)
        repeat still_step
        refine wpStill_nil ?_
        change wpList _ _ _ _ _ w1.drew
        have hb2 : Below w.heap.size w w1.drew := hb1.drew
        generalize w1.drew = w2 at *
        go_wp2_with (go_at_call 25; refine (first_two _ _ rfl _).mono ?_; rintro e w' ⟨rfl, rfl⟩)
        go_roundw
        case rel => exact ⟨k + 1, by omega, by go_num, hb2.alloc hb2.size _⟩
        case measure => simp [intOf]; omega
      · have hf4 : ¬ 0 < k := by omega
        have hf6 : decide (0 < k) = false := by simp; omega
        clear r4
        refine wp_region_still_tail 32 (by kernel_rfl) (by kernel_rfl) ?_
        simp only [List.take_succ_cons, List.take_zero, List.drop_succ_cons, List.drop_zero]
        repeat still_step
        still_call (when_no_still _ _)
        iterate 3 still_step
        iterate 10 ((with_reducible refine still_skip ?_ ?_); (kernel_rfl))
        (with_reducible refine wpStill_step (fun K hK => ?_))
        go_simp
        refine hK _ ?_
        clear hK K
        still_call (when_no_still _ _)
        repeat still_step
        refine wpStill_nil ?_
        change wpList _ _ _ _ _ w1.drew
        have hb2 : Below w.heap.size w w1.drew := hb1.drew
        generalize w1.drew = w2 at *
        go_wp2_with (go_at_call 25; refine (first_two _ _ rfl _).mono ?_; rintro e w' ⟨rfl, rfl⟩)
        go_roundw
        case rel => exact ⟨k + 1, by omega, by go_num, hb2.alloc hb2.size _⟩
        case measure => simp [intOf]; omega
    · go_wp2_with fail
      go_ret
      exact ⟨rfl, hb⟩

end Go.Proofs.YtldngebikgendaaDoor
