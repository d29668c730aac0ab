/-
  slices.Concat of two slices of spans.
-/
import Derived.Test.YtldngebikgendaaDoorRedact
import Derived.Laws.AppendOwnNone
import Derived.Maps.AppendAt
namespace Go.Proofs.YtldngebikgendaaDoor
open Go.RowKit

theorem SpansAt.cells_ {w : World} {A : Option Addr} {n : Nat} {l : List (Int × Int)} (h : SpansAt w A n l) (ad : Addr) (hA : A = some ad) : ∀ j u, (spanCells l)[j]? = some u → w.cell? (ad.add j) = some u := by
  intro j u hu
  have hj : j < (spanCells l).length := (List.getElem?_eq_some_iff.1 hu).1
  rw [spanCells_length] at hj
  obtain ⟨g, hg, _, hc⟩ := h.2 (by have := h.1; omega)
  rw [hA] at hg
  injection hg with hg
  subst hg
  have hadd : ∀ i, (⟨g, 0, none⟩ : Addr).add i = ⟨g, i, none⟩ := fun i => by unfold Addr.add; split <;> simp_all
  rw [hadd]
  have hk : j / 2 < l.length := by omega
  have := spanCells_at l (j / 2) hk
  rcases Nat.mod_two_eq_zero_or_one j with h0 | h0
  · have e : j / 2 * 2 = j := by omega
    rw [e] at this
    have h3 := (hc (j / 2) (by have := h.1; omega)).1
    rw [e] at h3
    rw [h3, ← this.1, hu]
  · have e : j / 2 * 2 + 1 = j := by omega
    rw [e] at this
    have h3 := (hc (j / 2) (by have := h.1; omega)).2
    rw [e] at h3
    rw [h3, ← this.2, hu]

theorem append_spans {ops : Array Oper} {rest : List Oper} {o : Oper} {a : Act} {Q : Exit → Act → World → Prop} {w : World} (hgd : o.guard = none) (s x : Operand)
    (ho : o.op = .call { callee := .builtin .append, args := #[s, x], argTypes := #[30, 30] })
    (base : Nat) (v : Value) (l : List (Int × Int)) (hs : a.eval s = v) (hown : OwnSpans w base v l)
    (A : Option Addr) (m c : Nat) (l2 : List (Int × Int)) (hx : a.eval x = .slice A m c) (hr : SpansAt w A m l2) (hc : A = none → c = 0) (hsz : l.length + l2.length ≤ 10000) (hbase : base ≤ w.heap.size)
    (h : ∀ v' w', OwnSpans w' base v' (l ++ l2) → w.grownBy w' v.ownBlock → (v'.ownBlock = v.ownBlock ∨ v'.ownBlock = some w.heap.size) → wpList Tryd.prog ops Q rest (a.put o.dst v') w') : wpList Tryd.prog ops Q (o :: rest) a w := by
  obtain ⟨i0, hi, hz0, hz1, hz2⟩ := info_parts span_info
  have hm := hr.1
  cases A with
  | none =>
    have hc0 := hc rfl
    subst hc0
    have hm0 : m = 0 := by
      rcases Nat.eq_zero_or_pos m with h0 | h0
      · exact h0
      · obtain ⟨g, hg, _⟩ := hr.2 h0
        cases hg
    subst hm0
    have hl2 : l2 = [] := List.eq_nil_of_length_eq_zero hm.symm
    subst hl2
    refine wpList_append_own_none hgd s x 30 ho base 38 i0 2 Tryd.underlying30 hi v l.length (spanCells l) hs hown hx ?_
    exact h v w (by rw [List.append_nil]; exact hown) (World.grownBy.refl _ _) (.inl rfl)
  | some ad =>
    refine wpList_append_own_at w hgd s x 30 ho base 38 i0 _ 2 16 Tryd.underlying30 hi hz0 hz1 hz2 rfl (by decide) v l.length (spanCells l) hs hown ad m c (spanCells l2) hx (by rw [spanCells_length, hm]) (hr.cells_ ad rfl) (spanCells_one l2) (by simp only [maxLen]; omega) (by omega) hbase ?_
    intro v' w' h1 h2 _ h3
    refine h v' w' ?_ h2 h3
    unfold OwnSpans
    rw [spanCells_append, List.length_append, ← hm]
    exact h1


theorem OwnSpans.atc {w : World} {base : Nat} {v : Value} {l : List (Int × Int)} (h : OwnSpans w base v l) : ∃ A c, v = .slice A l.length c ∧ (A = none → c = 0) ∧ l.length ≤ c ∧ SpansAt w A l.length l := by
  obtain ⟨A, c, rfl, hs⟩ := h.at_
  refine ⟨A, c, rfl, fun hA => ?_, ?_, hs⟩
  · subst hA
    rcases h.2 with ⟨hv, _⟩ | ⟨g, cap, cur, hv, _⟩
    · injection hv
    · injection hv with h1; cases h1
  · rcases h.2 with ⟨hv, h0⟩ | ⟨g, cap, cur, hv, _, _, h3, _⟩
    · omega
    · injection hv with h1 h2 h4; omega

theorem grow_zero (w : World) : Calls Tryd.prog 51 #[.slice none 0 0, .int .i64 0] w fun e w' => e = .returned (.slice none 0 0) ∧ w' = w :=
  Any8.slices_Grow_room Tryd.grQ51 none 0 0 0 w (by omega) (by omega) (by omega) (by omega)

theorem grow_some (n : Nat) (w : World) (h0 : 0 < n) (h1 : n ≤ 10000) : Calls Tryd.prog 51 #[.slice none 0 0, .int .i64 n] w fun e w' => ∃ v, e = .returned v ∧ OwnSpans w' w.heap.size v [] ∧ Below w.heap.size w w' := by
  obtain ⟨i0, hi, hz0, hz1, hz2⟩ := info_parts span_info
  refine (Any8.slices_Grow_grow Tryd.grQ51 i0 _ hi hz0 (by omega) none 0 0 n [] w (by omega) (by omega) (by rw [hz2]; omega) (by omega) (by simp) (fun _ => rfl) (fun a ha => by cases ha)).mono ?_
  rintro e w' ⟨rfl, rfl⟩
  refine ⟨_, rfl, ?_, (Below.refl _ _).drew.alloc (Nat.le_refl _) _⟩
  have hcap := grownCap_ge w (0 + n) 0 38
  have hcm := grownCap_le_maxLen w (0 + n) 0 38 (by simp only [maxLen]; omega)
  refine World.ownsRow_made (base := w.heap.size) w.drew _ _ (Nat.le_refl _) hcm ?_
  simp only [Array.size_append, List.size_toArray, size_zeroCells, List.length_nil]
  show 0 + (0 + n - 0) * 2 + (grownCap w (0 + n) 0 38 - (0 + n)) * 2 = grownCap w (0 + n) 0 38 * 2
  omega

theorem grow_any (n : Nat) (w : World) (h1 : n ≤ 10000) : Calls Tryd.prog 51 #[.slice none 0 0, .int .i64 n] w fun e w' => ∃ v, e = .returned v ∧ OwnSpans w' w.heap.size v [] ∧ Below w.heap.size w w' := by
  rcases Nat.eq_zero_or_pos n with h0 | h0
  · subst h0
    exact (grow_zero w).mono fun _ _ ⟨he, hw⟩ => ⟨_, he, World.ownsRow_nil _ _ _ _, by rw [hw]; exact Below.refl _ _⟩
  · exact grow_some n w h0 h1

def ConcatPost (w : World) (la lb : List (Int × Int)) (e : Ending) (w' : World) : Prop := ∃ v, e = .returned v ∧ OwnSpans w' w.heap.size v (la ++ lb) ∧ Below w.heap.size w w'

set_option maxHeartbeats 1600000 in
set_option maxRecDepth 100000 in
theorem concat_any (h : Nat) (A B : Option Addr) (na nb ca cb : Nat) (la lb : List (Int × Int)) (w : World) (hA : SpansAt w A na la) (hB : SpansAt w B nb lb) (hca : A = none → ca = 0) (hcb : B = none → cb = 0) (hn : na + nb ≤ 5000)
    (c0 : w.cell? ⟨h, 0, none⟩ = some (.slice A na ca)) (c1 : w.cell? ⟨h, 1, none⟩ = some (.slice B nb cb)) :
    Calls Tryd.prog 29 #[.slice (some ⟨h, 0, none⟩) 2 2] w (ConcatPost w la lb) := by
  have HA := Lib.hid hA.1
  have HB := Lib.hid hB.1
  go_enter Tryd.func29, Tryd.ntmps29
  go_wp2_with fail
  refine wp_loop_rounds 3 ?_
  rw [rounds_succ]
  go_wp2_with fail
  rw [rounds_succ]
  go_wp2_with fail
  rw [rounds_succ]
  go_wp2_with fail
  have hh : h < w.heap.size := World.block_lt_of_cell? w ⟨h, 0, none⟩ c0
  have hcast : ((na : Int) + (nb : Int)) = ((na + nb : Nat) : Int) := by omega
  rw [hcast]
  refine (grow_any (na + nb) w (by omega)).mono ?_
  rintro e w2 ⟨v, rfl, hown, hb2⟩
  have d0 := (hb2.cell (p := ⟨h, 0, none⟩) hh).trans c0
  have d1 := (hb2.cell (p := ⟨h, 1, none⟩) hh).trans c1
  have HO := Lib.hid hown; clear hown c0 c1 hcast
  have HSA := Lib.hid (hA.keep hb2)
  have HSB := Lib.hid hB
  clear hA hB
  have hz2 := hb2.size
  go_wp2_with fail
  refine wp_loop_rounds 3 ?_
  rw [rounds_succ]
  go_wp2_with (at_builtin; refine append_spans rfl _ _ rfl w.heap.size _ _ rfl HO.out _ _ _ la rfl HSA.out hca (by simp; have := HA.out; omega) hz2 ?_; intro v3 w3 hown3 hgrow3 _)
  have hb3 : Below w.heap.size w w3 := hb2.grown hgrow3 hz2 (fun i hi => (HO.out.lt i hi).1)
  have e1 := (hb3.cell (p := ⟨h, 1, none⟩) hh).trans ((hb2.cell (p := ⟨h, 1, none⟩) hh).symm.trans d1)
  clear d0 d1
  have HO3 := Lib.hid hown3; clear hown3
  have hz3 := hb3.size
  rw [rounds_succ]
  go_wp2_with (at_builtin; refine append_spans rfl _ _ rfl w.heap.size _ _ rfl HO3.out _ _ _ lb rfl (HSB.out.keep hb3) hcb (by simp; have := HA.out; have := HB.out; omega) hz3 ?_; intro v4 w4 hown4 hgrow4 _)
  have hb4 : Below w.heap.size w w4 := hb3.grown hgrow4 hz3 (fun i hi => (HO3.out.lt i hi).1)
  have HO4 := Lib.hid hown4; clear hown4
  rw [rounds_succ]
  go_wp2_with fail
  go_ret
  exact ⟨v4, rfl, by have := HO4.out; rwa [List.nil_append] at this, hb4⟩

end Go.Proofs.YtldngebikgendaaDoor
