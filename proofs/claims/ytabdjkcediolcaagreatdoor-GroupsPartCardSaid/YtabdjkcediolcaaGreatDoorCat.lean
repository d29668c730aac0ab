
/-
  What Key, New, Add, Remove and Ids of a catalog do.
-/
import Derived.Test.YtabdjkcediolcaaGreatDoorIds
import Derived.Test.YtabdjkcediolcaaGreatDoorFault
import Derived.Test.YtabdjkcediolcaaGreatDoorNears
import Derived.Maps.OwnSet
import Derived.Maps.StringElems
import Derived.Maps.Ext
import Derived.StringKeys
import Derived.Deep.QuietTactic
import Derived.BigQuiet
import Derived.StillTailTactics
namespace Go.Proofs.YtabdjkcediolcaaGreatDoor
open Go.RowKit Go.Maps

set_option maxHeartbeats 400000 in
theorem small_any (c : UInt8) (w : World) :
    Calls Tryz.prog 77 #[.int .u8 (c.toNat : Int)] w fun e w' => e = .returned (.bool (smallU c)) ∧ w = w' := by
  have hs : smallU c = (decide (97 ≤ c.toNat) && decide (c.toNat ≤ 122)) := by simp [smallU, UInt8.le_iff_toNat_le]
  rw [hs]; clear hs
  generalize c.toNat = k
  by_cases h1 : 97 ≤ k
  · have h1i : (97 : Int) ≤ (k : Int) := by omega
    go_enter Tryz.func77, Tryz.ntmps77
    go_wp2
    go_ret
    exact ⟨ret_bool (by simp [h1]; try omega), rfl⟩
  · have h1i : ¬ (97 : Int) ≤ (k : Int) := by omega
    go_enter Tryz.func77, Tryz.ntmps77
    go_wp2
    go_ret
    exact ⟨ret_bool rfl, rfl⟩

theorem digU_b (c : UInt8) : digB (c.toNat : Int) = digU c := by
  simp only [digB, digU, UInt8.le_iff_toNat_le]
  have : (48 : UInt8).toNat = 48 := rfl
  have : (57 : UInt8).toNat = 57 := rfl
  by_cases h1 : 48 ≤ c.toNat <;> by_cases h2 : c.toNat ≤ 57 <;> simp [*] <;> omega
theorem keyC_b (c : UInt8) : keyC c = (smallU c || digU c || decide ((c.toNat : Int) = 45) || decide ((c.toNat : Int) = 95)) := by
  have h1 : (c == 45) = decide ((c.toNat : Int) = 45) := by
    by_cases h : c = 45
    · subst h; rfl
    · have h2 : ¬ (c.toNat : Int) = 45 := fun e => h (UInt8.toNat_inj.1 (by have : (45 : UInt8).toNat = 45 := rfl; omega))
      simp [h, h2]
  have h2 : (c == 95) = decide ((c.toNat : Int) = 95) := by
    by_cases h : c = 95
    · subst h; rfl
    · have h2 : ¬ (c.toNat : Int) = 95 := fun e => h (UInt8.toNat_inj.1 (by have : (95 : UInt8).toNat = 95 := rfl; omega))
      simp [h, h2]
  rw [← h1, ← h2]; rfl

set_option maxHeartbeats 1600000 in
set_option maxRecDepth 100000 in
theorem key_any (s : ByteArray) (w : World) (hk : keyL s.data.toList = true) :
    Calls Tryz.prog 53 #[.string s] w fun e w' => e = .returned (.bool true) ∧ w = w' := by
  have hlen : s.data.toList.length = s.size := by simp
  unfold keyL at hk
  simp only [Bool.and_eq_true, decide_eq_true_eq] at hk
  obtain ⟨⟨⟨h1, h2⟩, h3⟩, h4⟩ := hk
  rw [hlen] at h1 h2
  have hin : inB (s.size : Int) 1 40 = true := by simp [inB]; omega
  have HAT : Hid (∀ j, (hj : j < s.size) → keyC s[j] = true) := fun j hj => by
    have h : keyC (s.data[j]'hj) = true := by
      have := List.all_eq_true.1 h3 (s.data.toList[j]'(by omega)) (List.getElem_mem _)
      simpa using this
    exact h
  have h0 : 0 < s.size := by omega
  have H0 : smallU s[0] = true := by
    have h : smallU (s.data[0]'h0) = true := by
      have := List.all_eq_true.1 h4 (s.data.toList[0]'(by omega)) (List.mem_take_iff_getElem.2 ⟨0, by rw [hlen]; omega, rfl⟩)
      simpa using this
    exact h
  clear h3 h4 hlen
  go_enter Tryz.func53, Tryz.ntmps53
  go_wp2_with fail
  refine (in_any _ 1 40 w).mono ?_
  rintro e w' ⟨rfl, rfl⟩
  rw [hin]
  go_wp2_with fail
  refine (small_any _ w).mono ?_
  rintro e w' ⟨rfl, rfl⟩
  rw [H0]
  go_wp2_with fail
  go_loopg [17] s.size (fun gk i wr => ∃ k : Nat, Hid (k + gk = s.size) ∧ i = .int .i64 k ∧ w = wr)
  case atStart => exact ⟨0, show 0 + s.size = s.size by omega, rfl, rfl⟩
  case round =>
    obtain ⟨k, HK, rfl, rfl⟩ := hrel
    have hkn : k ≤ s.size := by have := HK.out; omega
    by_cases hlt : k < s.size
    · have hc := HAT.out k hlt
      rw [keyC_b] at hc
      have HC := Lib.hid hc; clear hc
      have hd := digU_b s[k]
      go_wp2_with fail
      refine (small_any _ w).mono ?_
      rintro e w' ⟨rfl, rfl⟩
      cases h5 : smallU s[k] with
      | true =>
        go_wp2_with fail
        go_roundg (gk - 1)
        case measure => have := HK.out; omega
        case rel => exact ⟨k + 1, show k + 1 + (gk - 1) = s.size by have := HK.out; omega, by go_num, rfl⟩
      | false =>
        go_wp2_with fail
        refine (digit_any _ w).mono ?_
        rintro e w' ⟨rfl, rfl⟩
        rw [hd]
        cases h6 : digU s[k] with
        | true =>
          go_wp2_with fail
          go_roundg (gk - 1)
          case measure => have := HK.out; omega
          case rel => exact ⟨k + 1, show k + 1 + (gk - 1) = s.size by have := HK.out; omega, by go_num, rfl⟩
        | false =>
          have h7 := HC.out
          rw [h5, h6] at h7
          simp only [Bool.false_or, Bool.or_eq_true, decide_eq_true_eq] at h7
          clear h5 h6 HC hd
          rcases h7 with h7 | h7
          · have h8 : ((s[k].toNat : Int) != 45) = false := by simp [h7]
            go_wp2_with fail
            go_roundg (gk - 1)
            case measure => have := HK.out; omega
            case rel => exact ⟨k + 1, show k + 1 + (gk - 1) = s.size by have := HK.out; omega, by go_num, rfl⟩
          · have h8 : ((s[k].toNat : Int) != 95) = false := by simp [h7]
            have h9 : ((s[k].toNat : Int) != 45) = true := by simp [h7]
            go_wp2_with fail
            go_roundg (gk - 1)
            case measure => have := HK.out; omega
            case rel => exact ⟨k + 1, show k + 1 + (gk - 1) = s.size by have := HK.out; omega, by go_num, rfl⟩
    · go_wp2_with fail
      go_ret
      exact ⟨rfl, rfl⟩
/-- All but two blocks stay. -/
structure But2 (P M : Nat) (w w' : World) : Prop where
  os : w'.os = w.os
  tape : w'.tape = w.tape
  output : w'.output = w.output
  size : w.heap.size ≤ w'.heap.size
  block : ∀ i, i < w.heap.size → i ≠ P → i ≠ M → w'.heap[i]? = w.heap[i]?
theorem But2.of_below {P M : Nat} {w w' : World} (h : Below w.heap.size w w') : But2 P M w w' := ⟨h.os, h.tape, h.output, h.size, fun i hi _ _ => h.block i hi⟩
theorem But2.of_grown {P M g : Nat} {w w' : World} (h : w.grownBy w' (some g)) (hg : g = P ∨ g = M) : But2 P M w w' := ⟨h.os, h.tape, h.output, h.size, fun i hi h1 h2 => h.block i hi (fun e => by cases e; rcases hg with rfl | rfl; exact h1 rfl; exact h2 rfl)⟩
theorem But2.trans {P M : Nat} {a b c : World} (h : But2 P M a b) (k : But2 P M b c) : But2 P M a c :=
  ⟨k.os.trans h.os, k.tape.trans h.tape, k.output.trans h.output, Nat.le_trans h.size k.size, fun i hi h1 h2 => (k.block i (Nat.lt_of_lt_of_le hi h.size) h1 h2).trans (h.block i hi h1 h2)⟩
theorem But2.below {P M B : Nat} {w0 w w' : World} (h : But2 P M w w') (hb : Below B w0 w) (hP : B ≤ P) (hM : B ≤ M) (hB : B ≤ w0.heap.size) : Below B w0 w' :=
  hb.trans ⟨h.os, h.tape, h.output, h.size, fun i hi => h.block i (by have := hb.size; omega) (by omega) (by omega)⟩
theorem keyS : Keyed Tryz.prog 9 := string_keyed Tryz.underlying9
theorem keyS_mk (s : ByteArray) (hs : s.size ≤ 1000000) : keyOf Tryz.prog 9 (.string s) = some (.string s.data.toList) := WideMaps.keyOf_string_mk Tryz.underlying9 (by simp only [maxLen]; omega)

theorem three_cell {w : World} {P : Nat} {a b c : Value} {t : TypeId} (h : w.heap[P]? = some (.cells #[a, b, c] t (0, 0))) : w.cell? ⟨P, 0, none⟩ = some a ∧ w.cell? ⟨P, 1, none⟩ = some b ∧ w.cell? ⟨P, 2, none⟩ = some c ∧ ∀ j, w.frozen? ⟨P, j, none⟩ = false :=
  ⟨by rw [cell_of_row w P 0 _ _ _ h]; rfl, by rw [cell_of_row w P 1 _ _ _ h]; rfl, by rw [cell_of_row w P 2 _ _ _ h]; rfl, fun j => by simp [World.frozen?, h]⟩
theorem three_set1 {w : World} {P : Nat} {a b c : Value} {t : TypeId} {fr : Nat × Nat} (h : w.heap[P]? = some (.cells #[a, b, c] t fr)) (v : Value) : (w.setCell ⟨P, 1, none⟩ v).heap[P]? = some (.cells #[a, v, c] t fr) := by
  simp [World.setCell, Array.getElem?_modify, h]

theorem when_no_still (c : Int) (w : World) : Calls Tryz.prog 28 #[.bool false, .int .i64 c] w fun e w' => e = .returned (.int .i64 0) ∧ w' = w := (when_any false c w).mono fun _ _ h => ⟨h.1, h.2.symm⟩
theorem key_still (s : ByteArray) (hk : keyL s.data.toList = true) (w : World) : Calls Tryz.prog 53 #[.string s] w fun e w' => e = .returned (.bool true) ∧ w' = w := (key_any s w hk).mono fun _ _ h => ⟨h.1, h.2.symm⟩
theorem nlarge_still (s : ByteArray) (hs : s.size ≤ 20000) (w : World) : Calls Tryz.prog 36 #[.string s] w fun e w' => e = .returned (.int .i64 0) ∧ w' = w := (nlarge_any s w hs).mono fun _ _ h => ⟨h.1, h.2.symm⟩
theorem first_four (g : Nat) (w : World) (h : g = w.heap.size) (t : TypeId) : Calls Tryz.prog 26 #[.slice (some ⟨g, 0, none⟩) 4 4] (w.alloc (.cells #[.int .i64 0, .int .i64 0, .int .i64 0, .int .i64 0] t)) fun e w' => e = .returned (.int .i64 0) ∧ (w.alloc (.cells #[.int .i64 0, .int .i64 0, .int .i64 0, .int .i64 0] t)) = w' := by
  subst h
  refine first_any _ 4 4 [0, 0, 0, 0] _ rfl (by omega) (fun j hj => ?_)
  rw [World.cell?_alloc_at _ _ _ _ rfl]
  match j, hj with
  | 0, _ => rfl
  | 1, _ => rfl
  | 2, _ => rfl
  | 3, _ => rfl

end Go.Proofs.YtabdjkcediolcaaGreatDoor
