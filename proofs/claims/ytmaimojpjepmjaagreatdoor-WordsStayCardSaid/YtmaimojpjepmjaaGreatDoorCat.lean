
/-
  What Key, New, Add, Remove and Ids of a catalog do.
-/
import Derived.Test.YtmaimojpjepmjaaGreatDoorIds
import Derived.Test.YtmaimojpjepmjaaGreatDoorFault
import Derived.Test.YtmaimojpjepmjaaGreatDoorNears
import Derived.Maps.OwnSet
import Derived.Maps.StringElems
import Derived.Maps.Ext
import Derived.StringKeys
import Derived.Deep.QuietTactic
import Derived.BigQuiet
import Derived.StillTailTactics
namespace Go.Proofs.YtmaimojpjepmjaaGreatDoor
open Go.RowKit Go.Maps

set_option maxHeartbeats 400000 in
theorem small_any (c : UInt8) (w : World) :
    Calls Tryz.prog 80 #[.int .u8 (c.toNat : Int)] w fun e w' => e = .returned (.bool (smallU c)) ∧ w = w' := by
  have hs : smallU c = (decide (97 ≤ c.toNat) && decide (c.toNat ≤ 122)) := by simp [smallU, UInt8.le_iff_toNat_le]
  rw [hs]; clear hs
  generalize c.toNat = k
  by_cases h1 : 97 ≤ k
  · have h1i : (97 : Int) ≤ (k : Int) := by omega
    go_enter Tryz.func80, Tryz.ntmps80
    go_wp2
    go_ret
    exact ⟨ret_bool (by simp [h1]; try omega), rfl⟩
  · have h1i : ¬ (97 : Int) ≤ (k : Int) := by omega
    go_enter Tryz.func80, Tryz.ntmps80
    go_wp2
    go_ret
    exact ⟨ret_bool rfl, rfl⟩

theorem digU_b (c : UInt8) : digB (c.toNat : Int) = digU c := by
  simp only [digB, digU, UInt8.le_iff_toNat_le]
  have : (48 : UInt8).toNat = 48 := rfl
  have : (57 : UInt8).toNat = 57 := rfl
  by_cases h1 : 48 ≤ c.toNat <;> by_cases h2 : c.toNat ≤ 57 <;> simp [*] <;> omega
theorem keyC_b (c : UInt8) : keyC c = (smallU c || digU c || decide ((c.toNat : Int) = 45) || decide ((c.toNat : Int) = 95)) := by
  have h1 : (c == 45) = decide ((c.toNat : Int) = 45) := by
    by_cases h : c = 45
    · subst h; rfl
    · have h2 : ¬ (c.toNat : Int) = 45 := fun e => h (UInt8.toNat_inj.1 (by have : (45 : UInt8).toNat = 45 := rfl; omega))
      simp [h, h2]
  have h2 : (c == 95) = decide ((c.toNat : Int) = 95) := by
    by_cases h : c = 95
    · subst h; rfl
    · have h2 : ¬ (c.toNat : Int) = 95 := fun e => h (UInt8.toNat_inj.1 (by have : (95 : UInt8).toNat = 95 := rfl; omega))
      simp [h, h2]
  rw [← h1, ← h2]; rfl

set_option maxHeartbeats 1600000 in
set_option maxRecDepth 100000 in
theorem key_any (s : ByteArray) (w : World) (hk : keyL s.data.toList = true) :
    Calls Tryz.prog 46 #[.string s] w fun e w' => e = .returned (.bool true) ∧ w = w' := by
  have hlen : s.data.toList.length = s.size := by simp
  unfold keyL at hk
  simp only [Bool.and_eq_true, decide_eq_true_eq] at hk
  obtain ⟨⟨⟨h1, h2⟩, h3⟩, h4⟩ := hk
  rw [hlen] at h1 h2
  have hin : inB (s.size : Int) 1 40 = true := by simp [inB]; omega
  have HAT : Hid (∀ j, (hj : j < s.size) → keyC s[j] = true) := fun j hj => by
    have h : keyC (s.data[j]'hj) = true := by
      have := List.all_eq_true.1 h3 (s.data.toList[j]'(by omega)) (List.getElem_mem _)
      simpa using this
    exact h
  have h0 : 0 < s.size := by omega
  have H0 : smallU s[0] = true := by
    have h : smallU (s.data[0]'h0) = true := by
      have := List.all_eq_true.1 h4 (s.data.toList[0]'(by omega)) (List.mem_take_iff_getElem.2 ⟨0, by rw [hlen]; omega, rfl⟩)
      simpa using this
    exact h
  clear h3 h4 hlen
  go_enter Tryz.func46, Tryz.ntmps46
  go_wp2_with fail
  refine (in_any _ 1 40 w).mono ?_
  rintro e w' ⟨rfl, rfl⟩
  rw [hin]
  go_wp2_with fail
  refine (small_any _ w).mono ?_
  rintro e w' ⟨rfl, rfl⟩
  rw [H0]
  go_wp2_with fail
  go_loopg [17] s.size (fun gk i wr => ∃ k : Nat, Hid (k + gk = s.size) ∧ i = .int .i64 k ∧ w = wr)
  case atStart => exact ⟨0, show 0 + s.size = s.size by omega, rfl, rfl⟩
  case round =>
    obtain ⟨k, HK, rfl, rfl⟩ := hrel
    have hkn : k ≤ s.size := by have := HK.out; omega
    by_cases hlt : k < s.size
    · have hc := HAT.out k hlt
      rw [keyC_b] at hc
      have HC := Lib.hid hc; clear hc
      have hd := digU_b s[k]
      go_wp2_with fail
      refine (small_any _ w).mono ?_
      rintro e w' ⟨rfl, rfl⟩
      cases h5 : smallU s[k] with
      | true =>
        go_wp2_with fail
        go_roundg (gk - 1)
        case measure => have := HK.out; omega
        case rel => exact ⟨k + 1, show k + 1 + (gk - 1) = s.size by have := HK.out; omega, by go_num, rfl⟩
      | false =>
        go_wp2_with fail
        refine (digit_any _ w).mono ?_
        rintro e w' ⟨rfl, rfl⟩
        rw [hd]
        cases h6 : digU s[k] with
        | true =>
          go_wp2_with fail
          go_roundg (gk - 1)
          case measure => have := HK.out; omega
          case rel => exact ⟨k + 1, show k + 1 + (gk - 1) = s.size by have := HK.out; omega, by go_num, rfl⟩
        | false =>
          have h7 := HC.out
          rw [h5, h6] at h7
          simp only [Bool.false_or, Bool.or_eq_true, decide_eq_true_eq] at h7
          clear h5 h6 HC hd
          rcases h7 with h7 | h7
          · have h8 : ((s[k].toNat : Int) != 45) = false := by simp [h7]
            go_wp2_with fail
            go_roundg (gk - 1)
            case measure => have := HK.out; omega
            case rel => exact ⟨k + 1, show k + 1 + (gk - 1) = s.size by have := HK.out; omega, by go_num, rfl⟩
          · have h8 : ((s[k].toNat : Int) != 95) = false := by simp [h7]
            have h9 : ((s[k].toNat : Int) != 45) = true := by simp [h7]
            go_wp2_with fail
            go_roundg (gk - 1)
            case measure => have := HK.out; omega
            case rel => exact ⟨k + 1, show k + 1 + (gk - 1) = s.size by have := HK.out; omega, by go_num, rfl⟩
    · go_wp2_with fail
      go_ret
      exact ⟨rfl, rfl⟩
/-- All but two blocks stay. -/
structure But2 (P M : Nat) (w w' : World) : Prop where
  os : w'.os = w.os
  tape : w'.tape = w.tape
  output : w'.output = w.output
  size : w.heap.size ≤ w'.heap.size
  block : ∀ i, i < w.heap.size → i ≠ P → i ≠ M → w'.heap[i]? = w.heap[i]?
theorem But2.of_below {P M : Nat} {w w' : World} (h : Below w.heap.size w w') : But2 P M w w' := ⟨h.os, h.tape, h.output, h.size, fun i hi _ _ => h.block i hi⟩
theorem But2.of_grown {P M g : Nat} {w w' : World} (h : w.grownBy w' (some g)) (hg : g = P ∨ g = M) : But2 P M w w' := ⟨h.os, h.tape, h.output, h.size, fun i hi h1 h2 => h.block i hi (fun e => by cases e; rcases hg with rfl | rfl; exact h1 rfl; exact h2 rfl)⟩
theorem But2.trans {P M : Nat} {a b c : World} (h : But2 P M a b) (k : But2 P M b c) : But2 P M a c :=
  ⟨k.os.trans h.os, k.tape.trans h.tape, k.output.trans h.output, Nat.le_trans h.size k.size, fun i hi h1 h2 => (k.block i (Nat.lt_of_lt_of_le hi h.size) h1 h2).trans (h.block i hi h1 h2)⟩
theorem But2.below {P M B : Nat} {w0 w w' : World} (h : But2 P M w w') (hb : Below B w0 w) (hP : B ≤ P) (hM : B ≤ M) (hB : B ≤ w0.heap.size) : Below B w0 w' :=
  hb.trans ⟨h.os, h.tape, h.output, h.size, fun i hi => h.block i (by have := hb.size; omega) (by omega) (by omega)⟩
structure CatAt (w : World) (P M k tot m : Nat) (D : DataW Unit) : Prop where
  row : w.heap[P]? = some (.cells #[.int .i64 (k : Int), .int .i64 (tot : Int), .map (some M)] 91 (0, 0))
  map : w.ownsMap Tryz.prog 9 (plainElem Tryz.prog 9) M m D
theorem CatAt.ne {w : World} {P M k tot m : Nat} {D : DataW Unit} (h : CatAt w P M k tot m D) : P ≠ M := by
  intro e
  obtain ⟨es, clock, hb, _⟩ := h.map
  have := h.row
  rw [e, hb] at this
  cases this
theorem CatAt.lt {w : World} {P M k tot m : Nat} {D : DataW Unit} (h : CatAt w P M k tot m D) : P < w.heap.size ∧ M < w.heap.size := ⟨(Array.getElem?_eq_some_iff.1 h.row).1, h.map.lt⟩
theorem CatAt.but {w w' : World} {P M k tot m P' M' : Nat} {D : DataW Unit} (h : CatAt w P M k tot m D) (hb : But2 P' M' w w') (h1 : P ≠ P') (h2 : P ≠ M') (h3 : M ≠ P') (h4 : M ≠ M') : CatAt w' P M k tot m D := by
  refine ⟨(hb.block P h.lt.1 h1 h2).trans h.row, ?_⟩
  have hl := h.lt.2
  obtain ⟨es, clock, hm, r⟩ := h.map
  exact ⟨es, clock, (hb.block M hl h3 h4).trans hm, r⟩
theorem CatAt.keep {w w' : World} {P M k tot m : Nat} {D : DataW Unit} (h : CatAt w P M k tot m D) (hb : Below w.heap.size w w') : CatAt w' P M k tot m D := by
  refine ⟨(hb.block P h.lt.1).trans h.row, ?_⟩
  have hl := h.lt.2
  obtain ⟨es, clock, hm, r⟩ := h.map
  exact ⟨es, clock, (hb.block M hl).trans hm, r⟩
theorem CatAt.grown {w w' : World} {P M k tot m g : Nat} {D : DataW Unit} (h : CatAt w P M k tot m D) (hb : w.grownBy w' (some g)) (h1 : P ≠ g) (h2 : M ≠ g) : CatAt w' P M k tot m D := by
  refine ⟨(hb.block P h.lt.1 (fun e => h1 (by cases e; rfl))).trans h.row, h.map.kept hb (fun e => h2 (by cases e; rfl))⟩

theorem keyS : Keyed Tryz.prog 9 := string_keyed Tryz.underlying9
theorem keyS_mk (s : ByteArray) (hs : s.size ≤ 1000000) : keyOf Tryz.prog 9 (.string s) = some (.string s.data.toList) := WideMaps.keyOf_string_mk Tryz.underlying9 (by simp only [maxLen]; omega)

def NewPost (w : World) (k : Nat) (e : Ending) (w' : World) : Prop := ∃ P M, e = .returned (.tuple #[.pointer (some ⟨P, 0, none⟩), .int .i64 0]) ∧ w.heap.size ≤ P ∧ w.heap.size ≤ M ∧ CatAt w' P M k 0 0 (.map []) ∧ Below w.heap.size w w'
set_option maxHeartbeats 800000 in
theorem catNew_any (k : Nat) (w : World) (h1 : 1 ≤ k) (h2 : k ≤ 10) : Calls Tryz.prog 16 #[.int .i64 k] w (NewPost w k) := by
  have hmm := @run_makeMap Tryz.prog
  go_enter Tryz.func16, Tryz.ntmps16
  go_wp2_with fail
  refine (kError_any k w (by omega) (by omega)).mono ?_
  rintro e w' ⟨rfl, rfl⟩
  go_wp2_with fail
  go_ret2
  refine ⟨_, _, rfl, ?_, ?_, ⟨?_, World.ownsMap.alloc (World.ownsMap_made w _ _ _) _⟩, ((Below.refl _ _).alloc (Nat.le_refl _) _).alloc (by simp) _⟩
  · simp
  · simp
  · have := heap_alloc_new (w.alloc (.map #[] 0)) (.cells #[.int .i64 (k : Int), .int .i64 0, .map (some w.heap.size)] 91)
    simpa using this

theorem three_cell {w : World} {P : Nat} {a b c : Value} {t : TypeId} (h : w.heap[P]? = some (.cells #[a, b, c] t (0, 0))) : w.cell? ⟨P, 0, none⟩ = some a ∧ w.cell? ⟨P, 1, none⟩ = some b ∧ w.cell? ⟨P, 2, none⟩ = some c ∧ ∀ j, w.frozen? ⟨P, j, none⟩ = false :=
  ⟨by rw [cell_of_row w P 0 _ _ _ h]; rfl, by rw [cell_of_row w P 1 _ _ _ h]; rfl, by rw [cell_of_row w P 2 _ _ _ h]; rfl, fun j => by simp [World.frozen?, h]⟩
theorem three_set1 {w : World} {P : Nat} {a b c : Value} {t : TypeId} {fr : Nat × Nat} (h : w.heap[P]? = some (.cells #[a, b, c] t fr)) (v : Value) : (w.setCell ⟨P, 1, none⟩ v).heap[P]? = some (.cells #[a, v, c] t fr) := by
  simp [World.setCell, Array.getElem?_modify, h]

theorem CatAt.drewN {w : World} {P M k tot m : Nat} {D : DataW Unit} (h : CatAt w P M k tot m D) (q : Nat) : CatAt (w.drewN q) P M k tot m D := ⟨h.row, h.map⟩
theorem CatAt.look2 {w : World} {P M k tot m : Nat} {D : DataW Unit} (h : CatAt w P M k tot m D) (id : ByteArray) (hid : id.size ≤ 1000000) (t : ByteArray) (ht : D.atKey (.string id.data.toList) (.lit (.string [])) = .lit (.string t.data.toList)) (q : Nat) :
    (Instr.lookup 89 (.map (some M)) (.string id) true).run Tryz.prog (w.drewN q) = .ok (.tuple #[.string t, .bool (has D (.string id.data.toList))]) (w.drewN q) := by
  obtain ⟨v, ps, hrun, hv⟩ := (h.drewN q).map.look_ok keyS Tryz.underlying89 (z := .string ⟨#[]⟩) (by kernel_rfl) (zd := .lit (.string [])) (zp := []) (by kernel_rfl) (keyS_mk id hid)
  obtain ⟨s, rfl, hz, _⟩ := plainElem_string_inv Tryz.underlying9 hv
  rw [ht] at hz
  simp only [Prod.mk.injEq, DataW.lit.injEq, Lit.string.injEq] at hz
  have e : t = s := ByteArray.ext (Array.toList_inj.1 hz.1)
  rw [e]; exact hrun
theorem CatAt.look1 {w : World} {P M k tot m : Nat} {D : DataW Unit} (h : CatAt w P M k tot m D) (id : ByteArray) (hid : id.size ≤ 1000000) (t : ByteArray) (ht : D.atKey (.string id.data.toList) (.lit (.string [])) = .lit (.string t.data.toList)) (q : Nat) :
    (Instr.lookup 89 (.map (some M)) (.string id) false).run Tryz.prog (w.drewN q) = .ok (.string t) (w.drewN q) := by
  obtain ⟨v, ps, hrun, hv⟩ := (h.drewN q).map.lookup keyS Tryz.underlying89 (z := .string ⟨#[]⟩) (by kernel_rfl) (zd := .lit (.string [])) (zp := []) (by kernel_rfl) (keyS_mk id hid)
  obtain ⟨s, rfl, hz, _⟩ := plainElem_string_inv Tryz.underlying9 hv
  rw [ht] at hz
  simp only [Prod.mk.injEq, DataW.lit.injEq, Lit.string.injEq] at hz
  have e : t = s := ByteArray.ext (Array.toList_inj.1 hz.1)
  rw [e]; exact hrun
theorem CatAt.len_ {w : World} {P M k tot m : Nat} {D : DataW Unit} (h : CatAt w P M k tot m D) (q : Nat) (ty : TypeId) : (Builtin.len_ #[89] ty #[.map (some M)]).run Tryz.prog (w.drewN q) = .ok (.int .i64 (Maps.size D)) (w.drewN q) := (h.drewN q).map.len Tryz.underlying89 ty

theorem when_no_still (c : Int) (w : World) : Calls Tryz.prog 45 #[.bool false, .int .i64 c] w fun e w' => e = .returned (.int .i64 0) ∧ w' = w := (when_any false c w).mono fun _ _ h => ⟨h.1, h.2.symm⟩
theorem key_still (s : ByteArray) (hk : keyL s.data.toList = true) (w : World) : Calls Tryz.prog 46 #[.string s] w fun e w' => e = .returned (.bool true) ∧ w' = w := (key_any s w hk).mono fun _ _ h => ⟨h.1, h.2.symm⟩
theorem nlarge_still (s : ByteArray) (hs : s.size ≤ 20000) (w : World) : Calls Tryz.prog 47 #[.string s] w fun e w' => e = .returned (.int .i64 0) ∧ w' = w := (nlarge_any s w hs).mono fun _ _ h => ⟨h.1, h.2.symm⟩
theorem first_four (g : Nat) (w : World) (h : g = w.heap.size) (t : TypeId) : Calls Tryz.prog 44 #[.slice (some ⟨g, 0, none⟩) 4 4] (w.alloc (.cells #[.int .i64 0, .int .i64 0, .int .i64 0, .int .i64 0] t)) fun e w' => e = .returned (.int .i64 0) ∧ (w.alloc (.cells #[.int .i64 0, .int .i64 0, .int .i64 0, .int .i64 0] t)) = w' := by
  subst h
  refine first_any _ 4 4 [0, 0, 0, 0] _ rfl (by omega) (fun j hj => ?_)
  rw [World.cell?_alloc_at _ _ _ _ rfl]
  match j, hj with
  | 0, _ => rfl
  | 1, _ => rfl
  | 2, _ => rfl
  | 3, _ => rfl

def AddPost (w : World) (P M k tot m : Nat) (D : DataW Unit) (e : Ending) (w' : World) : Prop := e = .returned (.int .i64 0) ∧ CatAt w' P M k tot (m + 1) D ∧ But2 P M w w'
set_option maxHeartbeats 1600000 in
set_option maxRecDepth 100000 in
theorem add_any (P M k tot m : Nat) (D : DataW Unit) (id text : ByteArray) (w : World) (hc : CatAt w P M k tot m D) (hk : keyL id.data.toList = true) (ht : text.size ≤ 20000) (hm : m ≤ 100) (htot : tot + text.size ≤ 500000) (hnew : has D (.string id.data.toList) = false) :
    Calls Tryz.prog 17 #[.pointer (some ⟨P, 0, none⟩), .agg #[.string id, .string text]] w (AddPost w P M k (tot + text.size) m (D.put (.string id.data.toList) (.lit (.string text.data.toList)))) := by
  have hid : id.size ≤ 1000000 := by
    have hlen : id.data.toList.length = id.size := by simp
    unfold keyL at hk
    simp only [Bool.and_eq_true, decide_eq_true_eq] at hk
    omega
  have HK := Lib.hid hk; clear hk
  have hne := hc.ne
  have hltP := hc.lt.1
  have hltM := hc.lt.2
  have hsz : Maps.size D ≤ m := hc.map.size_le
  have hB : But2 P M w (w.alloc (.cells #[.string id, .string text] 61)) := But2.of_below ((Below.refl _ _).alloc (Nat.le_refl _) _)
  have hrow := heap_alloc_new w (.cells #[.string id, .string text] 61)
  have hcW := hc.keep ((Below.refl _ _).alloc (Nat.le_refl _) (.cells #[.string id, .string text] 61))
  have HC := Lib.hid hc; clear hc
  go_enter Tryz.func17, Tryz.ntmps17
  go_wp2_with fail
  generalize w.alloc (.cells #[.string id, .string text] 61) = W at *
  generalize hBq : w.heap.size = B at *
  obtain ⟨c0, c1, c2, cf⟩ := three_cell hcW.row
  obtain ⟨b0, b1, bf0, bf1⟩ := two_cell hrow
  have hlook := hcW.look2 id hid ⟨#[]⟩ (by rw [atKey_of_not_has hnew])
  rw [hnew] at hlook
  have hlen := hcW.len_
  have HCW := Lib.hid hcW; clear hcW
  have HROW := Lib.hid hrow; clear hrow
  go_quiet (fail)
  go_wp2_with fail
  have h300 : (((Maps.size D : Nat) : Int) == 300) = false := by simp; omega
  have h500 : ¬ (500000 : Int) < (tot : Int) + (text.size : Int) := by omega
  obtain ⟨nq1, rfl⟩ : ∃ nq1 : Nat, nq1 = nq := ⟨_, rfl⟩
  go_quiet (fail)
  go_wp2_with fail
  have HCX : Hid (CatAt (W.drewN (nq1 + nq)) P M k tot m D) := HCW.out.drewN _
  have HRX : Hid ((W.drewN (nq1 + nq)).heap[B]? = some (.cells #[.string id, .string text] 61 (0, 0))) := HROW.out
  have hBX : But2 P M w (W.drewN (nq1 + nq)) := hB.trans (But2.of_below (below_drewN (Below.refl _ _) _))
  clear hlook hlen HCW HROW c0 c1 c2 cf b0 b1 bf0 bf1 hB
  generalize W.drewN (nq1 + nq) = X at *
  obtain ⟨b0, b1, bf0, bf1⟩ := two_cell HRX.out
  refine wp_region_still_tail 12 (by kernel_rfl) (by kernel_rfl) ?_
  simp only [List.take_succ_cons, List.take_zero, List.drop_succ_cons, List.drop_zero]
  repeat still_step
  still_call (key_still id HK.out _)
  repeat still_step
  still_call (when_no_still _ _)
  repeat still_step
  still_call (nlarge_still text ht _)
  repeat still_step
  still_call (when_no_still _ _)
  repeat still_step
  still_call (when_no_still _ _)
  repeat still_step
  refine wpStill_nil ?_
  change wpList _ _ _ _ _ X.drew
  have HCY : Hid (CatAt X.drew P M k tot m D) := ⟨HCX.out.row, HCX.out.map⟩
  have HRY : Hid (X.drew.heap[B]? = some (.cells #[.string id, .string text] 61 (0, 0))) := HRX.out
  have hBY : But2 P M w X.drew := hBX.trans (But2.of_below ((Below.refl _ _).drew))
  clear HCX HRX hBX b0 b1 bf0 bf1 h300
  generalize X.drew = Y at *
  go_wp2_with (go_at_call 44; refine (first_four _ _ rfl _).mono ?_; rintro e w' ⟨rfl, rfl⟩)
  have hal : Below Y.heap.size Y (Y.alloc (.cells #[.int .i64 0, .int .i64 0, .int .i64 0, .int .i64 0] 33)) := (Below.refl _ _).alloc (Nat.le_refl _) _
  have HCZ := Lib.hid (HCY.out.keep hal)
  have HRZ := Lib.hid ((hal.block B (Array.getElem?_eq_some_iff.1 HRY.out).1).trans HRY.out)
  have hBZ := hBY.trans (But2.of_below hal)
  clear HCY HRY hBY hal
  generalize Y.alloc (.cells #[.int .i64 0, .int .i64 0, .int .i64 0, .int .i64 0] 33) = Z at *
  obtain ⟨c0, c1, c2, cf⟩ := three_cell HCZ.out.row
  obtain ⟨b0, b1, bf0, bf1⟩ := two_cell HRZ.out
  refine wp_region_still_tail 8 (by kernel_rfl) (by kernel_rfl) ?_
  simp only [List.take_succ_cons, List.take_zero, List.drop_succ_cons, List.drop_zero]
  repeat still_step
  refine wpStill_nil ?_
  change wpList _ _ _ _ _ Z.drew
  have HCV : Hid (CatAt Z.drew P M k tot m D) := ⟨HCZ.out.row, HCZ.out.map⟩
  have HRV : Hid (Z.drew.heap[B]? = some (.cells #[.string id, .string text] 61 (0, 0))) := HRZ.out
  have hBV : But2 P M w Z.drew := hBZ.trans (But2.of_below ((Below.refl _ _).drew))
  clear HCZ HRZ hBZ b0 b1 bf0 bf1 c0 c1 c2 cf
  generalize Z.drew = V at *
  refine wpList_mapUpdate_own _ rfl _ _ _ 89 rfl 9 9 keyS Tryz.underlying89 _ M m D rfl HCV.out.map (by simp only [maxLen]; omega) _ _ (.string id.data.toList) rfl rfl (keyS_mk id hid) (.lit (.string text.data.toList)) [] (plainElem_string Tryz.underlying9 (by simp only [maxLen]; omega)) ?_
  intro w5 hown5 hgrow5
  have hrow5 := (hgrow5.block P HCV.out.lt.1 (fun e => hne (by cases e; rfl))).trans HCV.out.row
  have HR5 := Lib.hid ((hgrow5.block B (Array.getElem?_eq_some_iff.1 HRV.out).1 (fun e => by cases e; omega)).trans HRV.out)
  have hB5 := hBV.trans (But2.of_grown hgrow5 (.inr rfl))
  have HC5 : Hid (CatAt w5 P M k tot (m + 1) (D.put (.string id.data.toList) (.lit (.string text.data.toList)))) := ⟨hrow5, hown5⟩
  clear hrow5 hown5 hgrow5 HCV HRV hBV
  generalize D.put (.string id.data.toList) (.lit (.string text.data.toList)) = D2 at *
  obtain ⟨c0, c1, c2, cf⟩ := three_cell HC5.out.row
  obtain ⟨b0, b1, bf0, bf1⟩ := two_cell HR5.out
  have e1 : IntKind.i64.wrap ((tot : Int) + (text.size : Int)) = (tot : Int) + (text.size : Int) := IntWalk.i64_in _ (by omega)
  go_wp2_with fail
  refine wp_region_still_tail 10 (by kernel_rfl) (by kernel_rfl) ?_
  simp only [List.take_succ_cons, List.take_zero, List.drop_succ_cons, List.drop_zero]
  repeat still_step
  refine wpStill_nil ?_
  change wpList _ _ _ _ _ w5.drew
  have HCU : Hid (CatAt w5.drew P M k tot (m + 1) D2) := ⟨HC5.out.row, HC5.out.map⟩
  have hBU : But2 P M w w5.drew := hB5.trans (But2.of_below ((Below.refl _ _).drew))
  clear HC5 HR5 hB5 b0 b1 bf0 bf1 c0 c1 c2 cf
  generalize w5.drew = U at *
  obtain ⟨c0, c1, c2, cf⟩ := three_cell HCU.out.row
  have cf1 := cf 1
  clear cf
  go_wp2_with fail
  go_ret
  refine ⟨rfl, ⟨?_, HCU.out.map.setCell (fun e => hne e.symm) _⟩, hBU.trans (But2.of_grown (grown_setCell _ _ _ _) (.inl rfl))⟩
  rw [three_set1 HCU.out.row]
  rfl

end Go.Proofs.YtmaimojpjepmjaaGreatDoor
