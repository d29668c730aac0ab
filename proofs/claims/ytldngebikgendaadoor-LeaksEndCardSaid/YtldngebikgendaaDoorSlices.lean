/-
  slices.Equal and slices.ContainsFunc at spans; privileges.
-/
import Derived.Test.YtldngebikgendaaDoorUnion
import Derived.Laws.StructEq
namespace Go.Proofs.YtldngebikgendaaDoor
open Go.RowKit Go.Shelf Go.Lib

def encS (x : Int × Int) : List Value := [.int .i64 x.1, .int .i64 x.2]

theorem neqS : NeqAt Tryd.prog 38 (fun x => .agg (encS x).toArray) (fun x y => x.1 == y.1 && x.2 == y.2) := by
  refine ⟨fun x y w => ?_, GuardAt.agg _ (by kernel_rfl)⟩
  have u3 := Tryd.underlying3
  have a3 := Tryd.isAgg3
  have z3 := Tryd.sizeOf3
  have hS : Tryd.prog.underlying 38 = some (.struct (Tryd.prog.fieldsOf 38)) := by kernel_rfl
  have hp : Tryd.prog.stoodInHeld 38 = false := by kernel_rfl
  simp only [encS]
  rw [run_neq_struct, show (10000 : Nat) = 9999 + 1 from rfl, run_equalIn_agg w 9999 38 _ _ hS hp]
  simp only [Program.fieldsOf, Tryd.underlying38]
  go_simp
  by_cases h1 : x.fst = y.fst <;> by_cases h2 : x.snd = y.snd <;> simp [h1, h2]

theorem allEq_self : ∀ l : List (Int × Int), Lib.allEq (fun x y : Int × Int => x.1 == y.1 && x.2 == y.2) l l = true
  | [] => rfl
  | x :: l => by simp [Lib.allEq, allEq_self l]

theorem enc_cells {w : World} {g n : Nat} {l : List (Int × Int)} (hn : n = l.length) (hc : ∀ k, k < n → w.cell? ⟨g, k * 2, none⟩ = some (.int .i64 (l.getD k (0, 0)).1) ∧ w.cell? ⟨g, k * 2 + 1, none⟩ = some (.int .i64 (l.getD k (0, 0)).2)) :
    ∀ j, j < l.length → ∀ i v, (encS l[j]!)[i]? = some v → w.cell? ⟨g, 0 + j * 2 + i, none⟩ = some v := by
  intro j hj i v hv
  have h := hc j (by omega)
  have e : l.getD j (0, 0) = l[j]! := by simp [hj]
  rw [e] at h
  rw [Nat.zero_add]
  generalize l[j]! = y at h hv
  match i, hv with
  | 0, hv => simp [encS] at hv; rw [← hv]; exact h.1
  | 1, hv => simp [encS] at hv; rw [← hv]; exact h.2
  | i + 2, hv => simp [encS] at hv

set_option maxHeartbeats 400000 in
theorem equal_spans (A B : Option Addr) (n c d : Nat) (l : List (Int × Int)) (w : World) (hA : SpansAt w A n l) (hB : SpansAt w B n l) (hn : n ≤ 10000) :
    Calls Tryd.prog 14 #[.slice A n c, .slice B n d] w fun e w' => e = .returned (.bool true) ∧ Below w.heap.size w w' := by
  rcases Nat.eq_zero_or_pos n with h0 | h0
  · subst h0
    go_enter Tryd.func14, Tryd.ntmps14
    go_wp2_with fail
    refine wp_loop_rounds 1 ?_
    rw [rounds_succ]
    go_wp2_with fail
    go_ret
    exact ⟨rfl, Below.refl _ _⟩
  · obtain ⟨g1, rfl, hg1, hc1⟩ := hA.2 h0
    obtain ⟨g2, rfl, hg2, hc2⟩ := hB.2 h0
    have hl := hA.1
    refine (AnyQ.slices_Equal Tryd.eqQ14 2 Tryd.isAgg38 Tryd.sizeOf38 encS (fun _ => rfl) _ neqS g1 0 n c g2 0 n d l l w (by omega) (by omega) (by omega) (by omega) (enc_cells hl hc1) (enc_cells hl hc2)).mono ?_
    rintro e w' ⟨rfl, q, rfl⟩
    exact ⟨ret_bool (allEq_self _), below_drewN (Below.refl _ _) q⟩

theorem any_inS (l : List (Int × Int)) (i : Nat) : (l.any fun x => decide (x.1 ≤ (i : Int)) && decide ((i : Int) < x.2)) = inS l i := by
  simp [inS]

set_option maxHeartbeats 400000 in
theorem pred_in (i : Nat) (B : Nat) (w : World) (hB : B < w.heap.size) (hcell : w.cell? ⟨B, 0, none⟩ = some (.int .i64 i)) :
    PredBelow Tryd.prog 12 #[.pointer (some ⟨B, 0, none⟩)] (fun x => .agg (encS x).toArray) (fun x => decide (x.1 ≤ (i : Int)) && decide ((i : Int) < x.2)) w := fun W x hb => by
  have hc : W.cell? ⟨B, 0, none⟩ = some (.int .i64 i) := (hb.cell (p := ⟨B, 0, none⟩) hB).trans hcell
  have hBW : B < W.heap.size := Nat.lt_of_lt_of_le hB hb.size
  have hne : B ≠ W.heap.size := by omega
  show Calls Tryd.prog 12 #[.agg #[.int .i64 x.1, .int .i64 x.2], .pointer (some ⟨B, 0, none⟩)] W _
  obtain ⟨a, b⟩ := x
  simp only
  by_cases h1 : a ≤ (i : Int)
  · go_enter Tryd.func12, Tryd.ntmps12
    go_wp2
    all_goals go_ret
    all_goals exact ⟨ret_bool (by simp [h1]), hb.alloc hb.size _⟩
  · go_enter Tryd.func12, Tryd.ntmps12
    go_wp2
    all_goals go_ret
    all_goals exact ⟨ret_bool (by simp; omega), hb.alloc hb.size _⟩

set_option maxHeartbeats 400000 in
theorem contains_spans (A : Option Addr) (n c : Nat) (l : List (Int × Int)) (i B : Nat) (w : World) (hA : SpansAt w A n l) (hn : n ≤ 10000) (hB : B < w.heap.size) (hcell : w.cell? ⟨B, 0, none⟩ = some (.int .i64 i)) :
    Calls Tryd.prog 11 #[.slice A n c, .func (.func 12) #[] #[.pointer (some ⟨B, 0, none⟩)]] w fun e w' => e = .returned (.bool (inS l i)) ∧ Below w.heap.size w w' := by
  rcases Nat.eq_zero_or_pos n with h0 | h0
  · subst h0
    have hl : l = [] := List.eq_nil_of_length_eq_zero hA.1.symm
    subst hl
    go_enter Tryd.func11, Tryd.ntmps11
    go_wp2
    refine wp_loop_rounds 1 ?_
    rw [rounds_succ]
    go_wp2
    go_ret
    exact ⟨ret_bool rfl, Below.refl _ _⟩
  · obtain ⟨g1, rfl, hg1, hc1⟩ := hA.2 h0
    have hl := hA.1
    have eg : ∀ args w, (callFunc 12 args).run Tryd.prog w = .ok (.enter 12 args) w := enters_of Tryd.func12 (by kernel_rfl) rfl
    refine (AnyQ.slices_ContainsFunc Tryd.cfQ11 2 Tryd.isAgg38 Tryd.sizeOf38 encS (fun _ => rfl) _ 12 _ eg g1 0 n c l w (pred_in i B w hB hcell) (by omega) (by omega) hg1 (enc_cells hl hc1)).mono ?_
    rintro e w' ⟨rfl, hb⟩
    exact ⟨ret_bool (by rw [List.take_of_length_le (by omega), any_inS]), hb⟩


theorem priv_text : textB [97, 98, 10] = true := by decide +kernel
theorem priv_redact : redactL [97, 98, 10] [(0, 1)] = [35, 98, 10] := by decide +kernel

set_option maxHeartbeats 400000 in
theorem privileges_any (w : World) (hT : Tabs w) : Calls Tryd.prog 7 #[] w fun e w' => e = .returned (.bool true) ∧ Below w.heap.size w w' := by
  have hTa : Tabs (w.alloc (.cells #[.int .i64 0, .int .i64 1] 38)) := hT.below ((Below.refl _ _).alloc (Nat.le_refl _) _)
  have HS := Lib.hid (span_one w 0 1 38)
  have HR : Hid (Right ((⟨#[97, 98, 10]⟩ : ByteArray).size : Int) (-1) [(0, 1)]) := ⟨by decide, by decide, by decide, trivial⟩
  have hb := (Below.refl w.heap.size w).alloc (Nat.le_refl _) (.cells #[.int .i64 0, .int .i64 1] 38)
  go_enter Tryd.func7, Tryd.ntmps7
  go_wp2_with fail
  refine (redact_any ⟨#[97, 98, 10]⟩ _ 1 1 [(0, 1)] _ HS.out HR.out (by omega) (by decide) priv_text hTa).mono ?_
  rintro e w1 ⟨rfl, hb1⟩
  have e1 : (redactL [97, 98, 10] [(0, 1)]) = [35, 98, 10] := priv_redact
  rw [e1]
  clear e1
  go_wp2_with fail
  go_ret
  exact ⟨rfl, hb.trans (hb1.mono hb.size)⟩

end Go.Proofs.YtldngebikgendaaDoor
