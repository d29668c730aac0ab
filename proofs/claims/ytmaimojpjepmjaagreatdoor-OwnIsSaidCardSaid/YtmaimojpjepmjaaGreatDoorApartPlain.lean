
/-
  A body taken apart: lines, their quotes and attributions; slices that are made.
-/
import Derived.Test.YtmaimojpjepmjaaGreatDoorThreadFn
import Derived.Test.YtmaimojpjepmjaaGreatDoorOwnSet
import Derived.Laws.MakeOwn
namespace Go.Proofs.YtmaimojpjepmjaaGreatDoor
open Go.RowKit

/-- The depth of a line, and what stands behind its signs. -/
def stripL : Nat → List UInt8 → Nat × List UInt8
  | 0, s => (0, s)
  | n + 1, s => if Lib.hasPrefix s [62] = true then ((stripL n (Lib.trimPrefix (s.drop 1) [32])).1 + 1, (stripL n (Lib.trimPrefix (s.drop 1) [32])).2) else (0, s)
theorem trimPrefix_len (l p : List UInt8) : (Lib.trimPrefix l p).length ≤ l.length := by
  unfold Lib.trimPrefix
  split <;> simp
theorem prefix_pos {s : List UInt8} (h : Lib.hasPrefix s [62] = true) : 0 < s.length := by
  cases s with
  | nil => simp [Lib.hasPrefix] at h
  | cons a s => simp
theorem stripL_fuel : ∀ (n m : Nat) (s : List UInt8), s.length ≤ n → s.length ≤ m → stripL n s = stripL m s
  | 0, m, s, h, _ => by
    have : s = [] := List.eq_nil_of_length_eq_zero (by omega)
    subst this
    cases m <;> simp [stripL, Lib.hasPrefix]
  | n + 1, 0, s, _, h => by
    have : s = [] := List.eq_nil_of_length_eq_zero (by omega)
    subst this
    simp [stripL, Lib.hasPrefix]
  | n + 1, m + 1, s, h1, h2 => by
    unfold stripL
    by_cases hp : Lib.hasPrefix s [62] = true
    · have h0 := prefix_pos hp
      have h3 := trimPrefix_len (s.drop 1) [32]
      rw [List.length_drop] at h3
      rw [if_pos hp, if_pos hp, stripL_fuel n m _ (by omega) (by omega)]
    · rw [if_neg hp, if_neg hp]
def strip (s : List UInt8) : Nat × List UInt8 := stripL s.length s
theorem strip_yes {s : List UInt8} (h : Lib.hasPrefix s [62] = true) : strip s = ((strip (Lib.trimPrefix (s.drop 1) [32])).1 + 1, (strip (Lib.trimPrefix (s.drop 1) [32])).2) := by
  have h0 := prefix_pos h
  have h3 := trimPrefix_len (s.drop 1) [32]
  rw [List.length_drop] at h3
  have e : strip s = stripL (s.length - 1 + 1) s := by unfold strip; rw [show s.length - 1 + 1 = s.length by omega]
  rw [e, stripL, if_pos h, stripL_fuel (s.length - 1) (Lib.trimPrefix (s.drop 1) [32]).length _ (by omega) (Nat.le_refl _)]
  rfl
theorem strip_no {s : List UInt8} (h : Lib.hasPrefix s [62] = false) : strip s = (0, s) := by
  unfold strip
  cases s with
  | nil => rfl
  | cons a s => rw [List.length_cons, stripL, if_neg (by rw [h]; simp)]
theorem strip_len : ∀ (n : Nat) (s : List UInt8), s.length ≤ n → (strip s).1 + (strip s).2.length ≤ s.length
  | 0, s, h => by
    have : s = [] := List.eq_nil_of_length_eq_zero (by omega)
    subst this
    simp [strip, stripL]
  | n + 1, s, h => by
    cases hp : Lib.hasPrefix s [62] with
    | false => rw [strip_no hp]; simp
    | true =>
      have h0 := prefix_pos hp
      have h3 := trimPrefix_len (s.drop 1) [32]
      rw [List.length_drop] at h3
      have ih := strip_len n (Lib.trimPrefix (s.drop 1) [32]) (by omega)
      rw [strip_yes hp]
      simp only
      omega
/-- The depth of the next line that has more signs, if only blank lines stand between. -/
def seek (a : Nat) : List (Nat × List UInt8) → Option Nat
  | [] => none
  | (d, t) :: r => if a < d then some d else if blankB t = true then seek a r else none
abbrev Qt := Nat × List UInt8 × Bool
def oneQ (p : Nat × List UInt8) (r : List (Nat × List UInt8)) : Qt := if saysB p.2 = true then (match seek p.1 r with | some e => (e, p.2, true) | none => (p.1, p.2, false)) else (p.1, p.2, false)
def apartQ : List (Nat × List UInt8) → List Qt
  | [] => []
  | p :: r => oneQ p r :: apartQ r
def rawQ (p : Nat × List UInt8) : Qt := (p.1, p.2, false)
theorem apartQ_length : ∀ D, (apartQ D).length = D.length
  | [] => rfl
  | _ :: r => by simp [apartQ, apartQ_length r]
theorem apartQ_at : ∀ (D : List (Nat × List UInt8)) (i : Nat) (p : Nat × List UInt8), D[i]? = some p → (apartQ D)[i]? = some (oneQ p (D.drop (i + 1)))
  | [], i, p, h => by simp at h
  | q :: r, 0, p, h => by
    simp at h; subst h
    simp [apartQ]
  | q :: r, i + 1, p, h => by
    simp at h
    simpa [apartQ] using apartQ_at r i p h
/-- After so many lines. -/
def midQ (D : List (Nat × List UInt8)) (i : Nat) : List Qt := (apartQ D).take i ++ (D.drop i).map rawQ
theorem midQ_length (D : List (Nat × List UInt8)) (i : Nat) (h : i ≤ D.length) : (midQ D i).length = D.length := by
  simp [midQ, apartQ_length]; omega
theorem midQ_zero (D : List (Nat × List UInt8)) : midQ D 0 = D.map rawQ := by simp [midQ]
theorem midQ_all (D : List (Nat × List UInt8)) : midQ D D.length = apartQ D := by
  unfold midQ
  rw [List.drop_length, List.map_nil, List.append_nil, List.take_of_length_le (by rw [apartQ_length]; exact Nat.le_refl _)]
theorem midQ_at {D : List (Nat × List UInt8)} {i : Nat} {p : Nat × List UInt8} (hp : D[i]? = some p) : (midQ D i)[i]? = some (rawQ p) := by
  obtain ⟨hi, _⟩ := List.getElem?_eq_some_iff.1 hp
  unfold midQ
  rw [List.getElem?_append_right (by simp [apartQ_length]; omega)]
  simp only [List.length_take, apartQ_length]
  rw [show i - min i D.length = 0 by omega, List.getElem?_map, List.getElem?_drop, Nat.add_zero, hp]
  rfl
theorem midQ_succ {D : List (Nat × List UInt8)} {i : Nat} {p : Nat × List UInt8} (hp : D[i]? = some p) : midQ D (i + 1) = (midQ D i).set i (oneQ p (D.drop (i + 1))) := by
  obtain ⟨hi, hpe⟩ := List.getElem?_eq_some_iff.1 hp
  have ha := apartQ_at D i p hp
  obtain ⟨hi2, ha2⟩ := List.getElem?_eq_some_iff.1 ha
  unfold midQ
  rw [List.take_succ_eq_append_getElem hi2, ha2]
  have hl : ((apartQ D).take i).length = i := by simp [apartQ_length]; omega
  rw [List.set_append_right _ _ (by omega), hl, Nat.sub_self, List.drop_eq_getElem_cons hi, List.map_cons, List.set_cons_zero, List.append_assoc]
  simp
theorem oneQ_text (p : Nat × List UInt8) (r : List (Nat × List UInt8)) : (oneQ p r).2.1 = p.2 := by
  unfold oneQ
  split
  · split <;> rfl
  · rfl
theorem midQ_text {D : List (Nat × List UInt8)} {i k : Nat} {p : Nat × List UInt8} (hp : D[k]? = some p) (_ : i ≤ D.length) : ∃ q, (midQ D i)[k]? = some q ∧ q.2.1 = p.2 := by
  obtain ⟨hk, _⟩ := List.getElem?_eq_some_iff.1 hp
  rcases Nat.lt_or_ge k i with h | h
  · refine ⟨oneQ p (D.drop (k + 1)), ?_, oneQ_text _ _⟩
    unfold midQ
    rw [List.getElem?_append_left (by simp [apartQ_length]; omega), List.getElem?_take_of_lt h]
    exact apartQ_at D k p hp
  · refine ⟨rawQ p, ?_, rfl⟩
    unfold midQ
    rw [List.getElem?_append_right (by simp [apartQ_length]; omega)]
    simp only [List.length_take, apartQ_length]
    rw [List.getElem?_map, List.getElem?_drop, show i + (k - min i D.length) = k by omega, hp]
    rfl
def apartL (l : List UInt8) : List Qt := apartQ ((lineL l).map strip)

section
variable {α : Type} {E : Elem α}
theorem made_owns (hE : E.Ok) (x0 : α) (hz : E.zero.cells = (E.enc x0).toArray) (w : World) (N : Nat) (hN : N ≤ 100000) : ∃ wb, (Instr.makeSlice E.ts (.int .i64 (N : Int)) (.int .i64 (N : Int))).run Tryz.prog w = .ok (.slice (some ⟨w.heap.size, 0, none⟩) N N) wb ∧
    Owns E wb w.heap.size (.slice (some ⟨w.heap.size, 0, none⟩) N N) (List.replicate N x0) ∧ Below w.heap.size w wb ∧ wb.heap.size = w.heap.size + 1 := by
  obtain ⟨i0, hi, hz0, hz1, hz2⟩ := info_parts hE.info
  have hf := hE.few
  have hpos := hE.pos
  have hb : (E.bytes : Int) * (N : Int) ≤ 281474976710656 := by
    have : E.bytes * N ≤ 1000 * 100000 := Nat.mul_le_mul hf hN
    have h2 : ((E.bytes * N : Nat) : Int) ≤ 100000000 := by omega
    push_cast at h2
    omega
  have hr := run_make (P := Tryz.prog) w E.ts E.t i0 E.zero hE.und hi hz0 .i64 .i64 (N : Int) (N : Int) (by omega) (by omega) (by rw [hz2]; exact hb) (by omega)
  rw [hz1] at hr
  simp only [Int.toNat_natCast] at hr
  refine ⟨_, hr, ?_, (Below.refl _ _).alloc (Nat.le_refl _) _, by simp⟩
  have hlen := Elem.cells_length hE (List.replicate N x0)
  rw [List.length_replicate] at hlen
  refine ⟨by rw [hlen, List.length_replicate], .inr ⟨w.heap.size, N, _, by rw [List.length_replicate], Nat.le_refl _, heap_alloc_new _ _, by rw [List.length_replicate]; exact Nat.le_refl _, by simp only [maxLen]; omega, size_madeCells _ _, ?_⟩⟩
  rw [List.length_replicate, List.take_of_length_le (by rw [Array.length_toList, size_madeCells]; exact Nat.le_refl _)]
  have hzs : E.zero.cells.size = E.size := hE.zcells
  apply List.ext_getElem?
  intro j
  rcases Nat.lt_or_ge j (N * E.size) with hj | hj
  · have hm : j % E.size < E.size := Nat.mod_lt _ hpos
    have hk : j / E.size < N := (Nat.div_lt_iff_lt_mul hpos).2 hj
    have h1 := Elem.cells_at hE (List.replicate N x0) (j / E.size) x0 (j % E.size) (by simp [hk]) hm
    have e : j / E.size * E.size + j % E.size = j := by rw [Nat.mul_comm]; exact Nat.div_add_mod _ _
    rw [e] at h1
    rw [h1]
    have hl : (E.enc x0).length = E.size := hE.len x0
    have hmm : j % E.size < (E.enc x0).length := by omega
    simp only [madeCells, hz, Array.getElem?_toList, Array.getElem?_map]
    rw [Array.getElem?_range, if_pos hj]
    simp only [Option.map_some]
    rw [show (E.enc x0).toArray.size = E.size by simp [hl]]
    rw [List.getElem?_eq_getElem hmm]
    simp [hmm]
  · rw [List.getElem?_eq_none (by rw [Array.length_toList, size_madeCells]; exact hj), List.getElem?_eq_none (by rw [hlen]; exact hj)]
end
end Go.Proofs.YtmaimojpjepmjaaGreatDoor
