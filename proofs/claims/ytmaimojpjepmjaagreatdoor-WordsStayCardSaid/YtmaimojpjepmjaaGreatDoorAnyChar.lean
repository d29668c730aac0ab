
/-
  A token has no blank and no line feed among its bytes, whatever the bytes are: ContainsAny at " \n", isToken.
-/
import Derived.Test.YtmaimojpjepmjaaGreatDoorTokens
import Derived.Laws.RangeAny
import Derived.Laws.Runes
import Derived.Lib.OthersKept
namespace Go.Proofs.YtmaimojpjepmjaaGreatDoor
open Go.RowKit

def blanks : ByteArray := ⟨#[32, 10]⟩
theorem iter_below (w : World) (s : ByteArray) (p : Nat) : Below w.heap.size w (w.iter s p) := (Below.refl _ _).alloc (Nat.le_refl _) _

set_option maxHeartbeats 3200000 in
set_option maxRecDepth 100000 in
theorem indexRune_high (r : Int) (w : World) (h : 128 ≤ r) (hr : r ≤ 2147483647) :
    Calls Tryz.prog 150 #[.string ⟨#[32, 10]⟩, .int .i32 r] w fun e w' => e = .returned (.int .i64 (-1)) ∧ Below w.heap.size w w' := by
  have h0 : (0 : Int) ≤ r := by omega
  have h1 : ¬ r < 128 := by omega
  by_cases hE : r = 65533
  · subst hE
    have n0 := fun ty => run_next_ascii (P := Tryz.prog) w ⟨#[32, 10]⟩ 0 ty (by decide) (by decide)
    have n1 := fun ty => run_next_ascii (P := Tryz.prog) w ⟨#[32, 10]⟩ 1 ty (by decide) (by decide)
    have n2 := fun ty => run_next_end (P := Tryz.prog) w ⟨#[32, 10]⟩ 2 ty (by decide)
    go_enter Tryz.func150, Tryz.ntmps150
    go_wp2_with fail
    refine wp_loop_rounds 3 ?_
    rw [rounds_succ]
    go_wp2_with fail
    rw [rounds_succ]
    go_wp2_with fail
    rw [rounds_succ]
    go_wp2_with fail
    go_ret
    exact ⟨rfl, iter_below _ _ _⟩
  · have hE' : (r == 65533) = false := by simpa using hE
    cases hv : Lib.validRune r
    · go_enter Tryz.func150, Tryz.ntmps150
      go_wp2_with fail
      refine (Tryz.utf8_ValidRune r w).mono ?_
      rintro e w' ⟨rfl, hw⟩
      obtain rfl := hw.symm
      rw [hv]
      go_wp2_with fail
      go_ret
      exact ⟨rfl, Below.refl _ _⟩
    · have hv' : Utf8.valid r = true := by
        simp only [Lib.validRune, decide_eq_true_eq] at hv
        simp [Utf8.valid]; omega
      obtain ⟨e1, e2, e3⟩ := encode_facts r hv' h
      by_cases hs2 : (Utf8.encode r).size = 2
      · have e4 := e3 (by omega)
        have HS2 := Lib.hid hs2
        obtain ⟨x, hx⟩ : ∃ x : UInt8, (Utf8.encode r)[(Utf8.encode r).size - 1]'(by omega) = x := ⟨_, rfl⟩
        rw [hx] at e4
        have hix : ∀ wx : World, (Instr.index 9 (.string (Utf8.encode r)) (.int .i64 1)).run Tryz.prog wx = .ok (.int .u8 (x.toNat : Int)) wx := fun wx => by
          have hb : (1 : Nat) < (Utf8.encode r).size := by omega
          have hg : (Utf8.encode r)[1]'hb = x := by rw [← hx]; congr 1; omega
          have hq : (Utf8.encode r)[1]? = some x := by rw [getElem?_pos _ 1 hb, hg]
          simp [Instr.index, run_underlying Tryz.underlying9, asIntOf, hq]
        have hne : ((((⟨#[32, 10]⟩ : ByteArray)[1]'(by decide)).toNat : Int) != (x.toNat : Int)) = true := by
          show ((10 : Int) != (x.toNat : Int)) = true
          simp; omega
        have hsl := slice_from ⟨#[32, 10]⟩ 2 2 rfl (by decide)
        clear e3 hx
        go_enter Tryz.func150, Tryz.ntmps150
        go_wp2_with fail
        refine (Tryz.utf8_ValidRune r w).mono ?_
        rintro e w' ⟨rfl, hw⟩
        obtain rfl := hw.symm
        rw [hv]
        go_wp2_with fail
        go_step3
        go_wp2_with fail
        refine wp_loop_rounds 1 ?_
        rw [rounds_succ]
        go_wp2_with fail
        go_step3
        go_wp2_with fail
        go_quiet (fail)
        go_wp2_with fail
        have hbq : Below w.heap.size w (w.drewN nq) := below_drewN (Below.refl _ _) _
        generalize w.drewN nq = w2 at *
        go_quiet ((go_at_call 165; exact Calls.quiet_of_same (Tryz.strings_IndexByte _ _ _)))
        go_wp2_with fail
        rw [Exit.noGoto_ret]
        go_simp
        try rw [Exit.noGoto_ret]
        go_ret
        exact ⟨rfl, below_drewN hbq _⟩
      · have hb : ¬ (((Utf8.encode r).size : Int) - 1 < 2) := by omega
        go_enter Tryz.func150, Tryz.ntmps150
        go_wp2_with fail
        refine (Tryz.utf8_ValidRune r w).mono ?_
        rintro e w' ⟨rfl, hw⟩
        obtain rfl := hw.symm
        rw [hv]
        go_wp2_with fail
        go_step3
        go_wp2_with fail
        refine wp_loop_rounds 1 ?_
        rw [rounds_succ]
        go_wp2_with fail
        repeat rw [Exit.noGoto_ret]
        go_ret
        exact ⟨rfl, Below.refl _ _⟩

theorem idx_none (x : UInt8) (h1 : x ≠ 10) (h2 : x ≠ 32) : Lib.indexByte [32, 10] x = -1 := by
  simp [Lib.indexByte, h1.symm, h2.symm]
theorem blanks_data : (⟨#[32, 10]⟩ : ByteArray).data.toList = [32, 10] := rfl

set_option maxHeartbeats 3200000 in
set_option maxRecDepth 100000 in
theorem indexAny_short (t : List UInt8) (w : World) (h8 : t.length ≤ 8) (h1 : 10 ∉ t) (h2 : 32 ∉ t) :
    Calls Tryz.prog 135 #[.string (bag t), .string ⟨#[32, 10]⟩] w fun e w' => e = .returned (.int .i64 (-1)) ∧ Below w.heap.size w w' := by
  have hsz := bag_size t
  have hat : ∀ i (hi : i < (bag t).size), (bag t)[i] ∈ t := fun i hi => by
    have : (bag t)[i] = t[i]'(by rw [← hsz]; exact hi) := by simp [bag, ByteArray.getElem_eq_getElem_data]
    rw [this]; exact List.getElem_mem _
  generalize bag t = s at *
  have hs8 : s.size ≤ 8 := by omega
  have h8z : decide ((8 : Int) < (s.size : Int)) = false := decide_eq_false (by omega)
  have HAT := Lib.hid hat; clear hat hsz
  go_enter Tryz.func135, Tryz.ntmps135
  go_wp2_with fail
  refine (Tryz.strings_shouldUseASCIISet _ _).mono ?_
  rintro e w' ⟨rfl, hw⟩
  obtain rfl := hw.symm
  rw [h8z]
  clear hw
  go_wp2_with fail
  go_loopg [9, 10] (s.size + 1) (fun g _ _ wx => ∃ (i : Nat), s.size + 1 ≤ i + g ∧ wx.heap[w.heap.size]? = some (.stringIter s i) ∧ Below w.heap.size w wx)
  case atStart => exact ⟨0, by omega, World.iter_heap _ _ _, iter_below _ _ _⟩
  case round =>
    obtain ⟨i, hig, hit, hb⟩ := hrel
    have HIG := Lib.hid hig; clear hig
    by_cases hi : i < s.size
    · have hmem := HAT.out i hi
      by_cases ha : (s[i]'hi).toNat < 128
      · have hnx := fun ty => Lib.run_next_ascii_at (P := Tryz.prog) wr w.heap.size s i ty hit hi ha
        have hit2 := Lib.iterAt_heap wr w.heap.size s i (i + 1) hit
        have hb2 := Lib.below_iterAt hb (Nat.le_refl _) s (i + 1)
        have hidx := idx_none (s[i]'hi) (fun e => h1 (e ▸ hmem)) (fun e => h2 (e ▸ hmem))
        generalize s[i]'hi = x at *
        have hback : ((x.toNat : Int)).toNat.toUInt8 = x := by simp
        clear hit
        generalize wr.iterAt w.heap.size s (i + 1) = w2 at *
        go_wp2_with fail
        refine (Tryz.strings_IndexRune_ascii _ _ _ (by omega) (by omega)).mono ?_
        rintro e w' ⟨rfl, hw⟩
        obtain rfl := hw.symm
        rw [hback, blanks_data, hidx]
        go_wp2_with fail
        go_roundg (gk - 1)
        case measure => have := HIG.out; omega
        case rel => exact ⟨i + 1, by have := HIG.out; omega, hit2, hb2⟩
      · have hnx := fun ty => Lib.run_next_any_at (P := Tryz.prog) wr w.heap.size s i ty hit hi
        obtain ⟨d1, d2⟩ := decode_high s i hi (by omega)
        have d3 := decode_le s i
        have hit2 := Lib.iterAt_heap wr w.heap.size s i (i + (Utf8.decode s i).2) hit
        have hb2 := Lib.below_iterAt hb (Nat.le_refl _) s (i + (Utf8.decode s i).2)
        generalize (Utf8.decode s i).2 = sz at *
        generalize (Utf8.decode s i).1 = rn at *
        clear hit
        generalize wr.iterAt w.heap.size s (i + sz) = w2 at *
        have hr1 : (128 : Int) ≤ (rn : Int) := by omega
        have hr2 : (rn : Int) ≤ 2147483647 := by omega
        go_wp2_with fail
        refine (indexRune_high (rn : Int) w2 hr1 hr2).mono ?_
        rintro e w3 ⟨rfl, hb3⟩
        have hit3 : w3.heap[w.heap.size]? = some (.stringIter s (i + sz)) := (hb3.block _ (Array.getElem?_eq_some_iff.1 hit2).1).trans hit2
        have hb4 : Below w.heap.size w w3 := hb2.trans (hb3.mono hb2.size)
        go_wp2_with fail
        go_roundg (gk - 1)
        case measure => have := HIG.out; omega
        case rel => exact ⟨i + sz, by have := HIG.out; omega, hit3, hb4⟩
    · have hnx := fun ty => Lib.run_next_end_at (P := Tryz.prog) wr w.heap.size s i ty hit hi
      go_wp2_with fail
      go_ret
      exact ⟨rfl, hb⟩

theorem noAny {t : List UInt8} (h1 : 10 ∉ t) (h2 : 32 ∉ t) : ∀ n, Lib.NoAny t [32, 10] n := by
  intro n j b _ hb
  have hm := List.mem_of_getElem? hb
  simp only [List.contains_cons, List.contains_nil, Bool.or_false, Bool.or_eq_false_iff, beq_eq_false_iff_ne, ne_eq]
  exact ⟨fun e => h2 (e ▸ hm), fun e => h1 (e ▸ hm)⟩
theorem containsAny_none (t : List UInt8) (w : World) (hl : t.length ≤ 100000) (h1 : 10 ∉ t) (h2 : 32 ∉ t) :
    Calls Tryz.prog 109 #[.string (bag t), .string ⟨#[32, 10]⟩] w fun e w' => e = .returned (.bool false) ∧ Below w.heap.size w w' := by
  by_cases h8 : t.length ≤ 8
  · go_enter Tryz.func109, Tryz.ntmps109
    go_wp2_with fail
    refine (indexAny_short t w h8 h1 h2).mono ?_
    rintro e w1 ⟨rfl, hb⟩
    go_wp2_with fail
    go_ret
    exact ⟨rfl, hb⟩
  · have hz : ∀ w, (zeroValue 146).run Tryz.prog w = .ok (.agg (Array.replicate 256 (.bool false))) w := fun w => by kernel_rfl
    have hnone : Lib.indexAny t [32, 10] = -1 := Lib.indexAny_none (noAny h1 h2 _)
    have hsz := bag_size t
    have hdt := bag_data t
    go_enter Tryz.func109, Tryz.ntmps109
    go_wp2_with fail
    refine (Tryz.strings_IndexAny_long hz (bag t) ⟨#[32, 10]⟩ w (by decide) (by omega) (by omega) (by decide) (fun j b hb => by
      rw [blanks_data] at hb
      have := List.mem_of_getElem? hb
      simp at this
      rcases this with rfl | rfl <;> decide)).mono ?_
    rintro e w1 ⟨rfl, rfl⟩
    rw [hdt, blanks_data, hnone]
    go_wp2_with fail
    go_ret
    exact ⟨rfl, ((Below.refl _ _).alloc (Nat.le_refl _) _).alloc (by simp) _⟩

set_option maxHeartbeats 800000 in
theorem isToken_any (t : List UInt8) (w : World) (hl : t.length ≤ 100000) (h : isTok t) :
    Calls Tryz.prog 76 #[.string (bag t)] w fun e w' => e = .returned (.bool true) ∧ Below w.heap.size w w' := by
  by_cases h10 : t = [10]
  · subst h10
    have e1 : bag [10] = ⟨#[10]⟩ := rfl
    rw [e1]
    go_enter Tryz.func76, Tryz.ntmps76
    go_wp2_with fail
    go_ret
    exact ⟨rfl, Below.refl _ _⟩
  · obtain ⟨h0, h1, h2⟩ : t ≠ [] ∧ 10 ∉ t ∧ 32 ∉ t := by
      rcases h with h | h
      · exact absurd h h10
      · exact h
    have e0 : (!t.isEmpty) = true := by cases t with | nil => exact absurd rfl h0 | cons => rfl
    have e1 : bag t = ⟨t.toArray⟩ := rfl
    have hc := containsAny_none t w hl h1 h2
    rw [e1] at hc ⊢
    go_enter Tryz.func76, Tryz.ntmps76
    go_wp2_with fail
    refine hc.mono ?_
    rintro e w1 ⟨rfl, hb⟩
    go_wp2_with fail
    go_ret
    exact ⟨rfl, hb⟩
set_option maxHeartbeats 800000 in
theorem wrong_any (t : List UInt8) (w : World) (hl : t.length ≤ 100000) (h : isTok t) :
    Calls Tryz.prog 75 #[.string (bag t)] w fun e w' => e = .returned (.bool false) ∧ Below w.heap.size w w' := by
  go_enter Tryz.func75, Tryz.ntmps75
  go_wp2_with fail
  refine (isToken_any t w hl h).mono ?_
  rintro e w1 ⟨rfl, hb⟩
  go_wp2_with fail
  go_ret
  exact ⟨rfl, hb⟩

end Go.Proofs.YtmaimojpjepmjaaGreatDoor
