
/-
  What the reader's parts, and the words between them, give at the search 'a and b'.
-/
import Derived.Test.YtfijplllfdmcoaaGreatDoorReader
namespace Go.Proofs.YtfijplllfdmcoaaGreatDoor
open Go.RowKit

abbrev textAB : ByteArray := ⟨#[97, 32, 97, 110, 100, 32, 98]⟩
theorem idx_ab (s : ByteArray) (w : World) (k : Int) (h8 : decide (s.size ≤ 8) = true) (ha : s.data.toList.all (fun b => decide (b.toNat < 128)) = true) (hk : Lib.indexAny s.data.toList [32, 10, 40, 41, 34] = k) :
    Calls Tryz.prog 139 #[.string s, .string ⟨#[32, 10, 40, 41, 34]⟩] w fun e w' => e = .returned (.int .i64 k) ∧ Below w.heap.size w w' := by
  refine Calls.mono (Tryz.strings_IndexAny_short s ⟨#[32, 10, 40, 41, 34]⟩ w (show 2 ≤ 5 by omega) (of_decide_eq_true h8) (fun j b hb => by
    have := List.all_eq_true.1 ha b (List.mem_of_getElem? hb)
    simpa using this)) ?_
  rintro e w' ⟨rfl, pos, rfl⟩
  exact ⟨by rw [← hk], (Below.refl _ w).alloc (Nat.le_refl _) _⟩
theorem low_ab (s t : ByteArray) (w : World) (hs : decide (s.size ≤ 20000) = true) (h : (s.data.toList.map lowB).toArray = t.data) : Calls Tryz.prog 141 #[.string s] w fun e w' => e = .returned (.string t) ∧ Below w.heap.size w w' := by
  refine Calls.mono (lower_any s w (of_decide_eq_true hs)) ?_
  rintro e w' ⟨rfl, hb⟩
  exact ⟨by rw [h], hb⟩
theorem word_a : WordIs textAB 0 0 1 ⟨#[97]⟩ where
  size := by show 7 ≤ 1000; omega
  blank := fun j hj h => by omega
  inside := by show 0 + 0 + 1 ≤ 7; omega
  pos := by omega
  first := fun c h hc => by
    have e : ((textAB[0 + 0]'h).toNat : Int) = 97 := rfl
    rw [e] at hc; subst hc; decide
  idx := fun w => (idx_ab (textAB.extract 0 7) w 1 (by kernel_rfl) (by kernel_rfl) (by kernel_rfl)).mono fun e w' h => ⟨⟨1, h.1, .inl rfl⟩, h.2⟩
  low := fun w => low_ab (textAB.extract 0 1) _ w (by kernel_rfl) (by kernel_rfl)
theorem word_and : WordIs textAB 1 1 3 ⟨#[97, 110, 100]⟩ where
  size := by show 7 ≤ 1000; omega
  blank := fun j hj h => by
    obtain rfl : j = 0 := by omega
    rfl
  inside := by show 1 + 1 + 3 ≤ 7; omega
  pos := by omega
  first := fun c h hc => by
    have e : ((textAB[1 + 1]'h).toNat : Int) = 97 := rfl
    rw [e] at hc; subst hc; decide
  idx := fun w => (idx_ab (textAB.extract 2 7) w 3 (by kernel_rfl) (by kernel_rfl) (by kernel_rfl)).mono fun e w' h => ⟨⟨3, h.1, .inl rfl⟩, h.2⟩
  low := fun w => low_ab (textAB.extract 2 5) _ w (by kernel_rfl) (by kernel_rfl)
theorem word_b : WordIs textAB 5 1 1 ⟨#[98]⟩ where
  size := by show 7 ≤ 1000; omega
  blank := fun j hj h => by
    obtain rfl : j = 0 := by omega
    rfl
  inside := by show 5 + 1 + 1 ≤ 7; omega
  pos := by omega
  first := fun c h hc => by
    have e : ((textAB[5 + 1]'h).toNat : Int) = 98 := rfl
    rw [e] at hc; subst hc; decide
  idx := fun w => (idx_ab (textAB.extract 6 7) w (-1) (by kernel_rfl) (by kernel_rfl) (by kernel_rfl)).mono fun e w' h => ⟨⟨-1, h.1, .inr ⟨rfl, rfl⟩⟩, h.2⟩
  low := fun w => low_ab (textAB.extract 6 7) _ w (by kernel_rfl) (by kernel_rfl)
theorem pieceIs_word (c : UInt8) (h1 : 97 ≤ c.toNat) (h2 : c.toNat ≤ 122) : PieceIs ⟨#[c]⟩ 3 2 [[c]] := fun w => (piece_word c w h1 h2).mono fun e w' h => by
  obtain ⟨G, rfl, hG, hS, hb⟩ := h
  exact ⟨some ⟨G, 0, none⟩, rfl, hS, fun g off h => by injection h with h; injection h with h; omega, hb⟩
theorem pieceIs_and : PieceIs ⟨#[97, 110, 100]⟩ 4 0 [] := fun w => (piece_and w).mono fun e w' h => by
  obtain ⟨rfl, hb⟩ := h
  exact ⟨none, rfl, ⟨rfl, Nat.le_refl _, fun _ => rfl, fun h => by simp at h⟩, fun _ _ h => (by cases h), hb⟩

/-- The reader has gone on: where it is, and its token. -/
def NextW (w : World) (R : Nat) (T : ByteArray) (at' k tat qk : Int) (x : List (List UInt8)) (w' : World) : Prop :=
  ∃ A, ReaderAt w' R T at' k tat qk (.slice A x.length x.length) ∧ StrsAt w' A x.length x.length x ∧ (∀ g off, A = some ⟨g, off, none⟩ → w.heap.size ≤ g) ∧ w.grownBy w' (some R)
theorem NextW.after {w w' w'' : World} {R : Nat} {T : ByteArray} {at' k tat qk : Int} {x : List (List UInt8)} (h : NextW w R T at' k tat qk x w') (hb : Below w'.heap.size w' w'') : NextW w R T at' k tat qk x w'' := by
  obtain ⟨A, h1, h2, h3, h4⟩ := h
  exact ⟨A, h1.keep hb, h2.keep hb, h3, grown_belowR h4 hb⟩
theorem NextW.before {w0 w w' : World} {R : Nat} {T : ByteArray} {at' k tat qk : Int} {x : List (List UInt8)} (h : NextW w R T at' k tat qk x w') (hg : w0.grownBy w (some R)) : NextW w0 R T at' k tat qk x w' := by
  obtain ⟨A, h1, h2, h3, h4⟩ := h
  exact ⟨A, h1, h2, fun g off e => Nat.le_trans hg.size (h3 g off e), grown_trans hg h4⟩
/-- At each world in which the reader stands so, next goes on so. -/
def Steps (R : Nat) (T : ByteArray) (a k tat qk : Int) (a' k' tat' qk' : Int) (x' : List (List UInt8)) : Prop :=
  ∀ w qw, ReaderAt w R T a k tat qk qw → Calls Tryz.prog 91 #[.pointer (some ⟨R, 0, none⟩)] w fun e w' => e = .returned (.tuple #[]) ∧ NextW w R T a' k' tat' qk' x' w'
theorem steps_a (R : Nat) : Steps R textAB 0 0 0 0 1 3 0 2 [[97]] := fun w qw h => (next_word R textAB _ 0 0 1 0 0 0 qw 3 2 [[97]] w h word_a (pieceIs_word 97 (by decide) (by decide)))
theorem steps_and (R : Nat) : Steps R textAB 1 3 0 2 5 4 2 0 [] := fun w qw h => (next_word R textAB _ 1 1 3 3 0 2 qw 4 0 [] w h word_and pieceIs_and)
theorem steps_b (R : Nat) : Steps R textAB 5 4 2 0 7 3 6 2 [[98]] := fun w qw h => (next_word R textAB _ 5 1 1 4 2 0 qw 3 2 [[98]] w h word_b (pieceIs_word 98 (by decide) (by decide)))
theorem steps_end (R : Nat) : Steps R textAB 7 3 6 2 7 0 7 0 [] := fun w qw h => (next_end R textAB 3 6 2 qw w h)

theorem four_cells {w : World} {b : Nat} {a0 a1 a2 a3 : Value} {t : TypeId} (h : w.heap[b]? = some (.cells #[a0, a1, a2, a3] t (0, 0))) :
    w.cell? ⟨b, 0, none⟩ = some a0 ∧ w.cell? ⟨b, 1, none⟩ = some a1 ∧ w.cell? ⟨b, 2, none⟩ = some a2 ∧ w.cell? ⟨b, 3, none⟩ = some a3 ∧ w.frozen? ⟨b, 0, none⟩ = false ∧ w.frozen? ⟨b, 1, none⟩ = false ∧ w.frozen? ⟨b, 2, none⟩ = false ∧ w.frozen? ⟨b, 3, none⟩ = false ∧ b < w.heap.size := by
  refine ⟨?_, ?_, ?_, ?_, ?_, ?_, ?_, ?_, (Array.getElem?_eq_some_iff.1 h).1⟩
  · rw [cell_of_row w b _ _ _ _ h]; rfl
  · rw [cell_of_row w b _ _ _ _ h]; rfl
  · rw [cell_of_row w b _ _ _ _ h]; rfl
  · rw [cell_of_row w b _ _ _ _ h]; rfl
  all_goals simp [World.frozen?, h]
/-- A query's block stays where the reader goes on. -/
theorem NextW.blk {w w' : World} {R : Nat} {T : ByteArray} {at' k tat qk : Int} {x : List (List UInt8)} (h : NextW w R T at' k tat qk x w') {b : Nat} {o : Obj} (hb : w.heap[b]? = some o) (hne : b ≠ R) : w'.heap[b]? = some o := by
  obtain ⟨A, h1, h2, h3, h4⟩ := h
  have hl := (Array.getElem?_eq_some_iff.1 hb).1
  exact (h4.block b hl (fun e => hne (Option.some.inj e))).trans hb
theorem NextW.store {w0 w1 w2 w3 : World} {R b : Nat} {T : ByteArray} {at' k tat qk : Int} {x : List (List UInt8)} (h : NextW w1 R T at' k tat qk x w2) (hb : Below w0.heap.size w0 w1) (hg : w2.grownBy w3 (some b)) (h1 : w0.heap.size ≤ b) (h2 : b < w1.heap.size) (hR : R < w0.heap.size) : NextW w0 R T at' k tat qk x w3 := by
  obtain ⟨A, k1, k2, k3, k4⟩ := h
  refine ⟨A, ?_, ElemsAt.grown k2 hg (fun g off e he => ?_), fun g off e => Nat.le_trans hb.size (k3 g off e), ?_⟩
  · exact (hg.block R k1.lt (fun e => by have := Option.some.inj e; omega)).trans k1
  · have := k3 g off e
    have := Option.some.inj he
    omega
  · have hs := hb.size
    refine ⟨hg.os.trans (k4.os.trans hb.os), hg.tape.trans (k4.tape.trans hb.tape), hg.output.trans (k4.output.trans hb.output), Nat.le_trans hs (Nat.le_trans k4.size hg.size), fun i hi hne => ?_⟩
    have hi2 := Nat.lt_of_lt_of_le hi hs
    rw [hg.block i (Nat.lt_of_lt_of_le hi2 k4.size) (fun e => by have := Option.some.inj e; omega), k4.block i hi2 hne, hb.block i hi]
theorem grown_row4 (w : World) (b : Nat) (v0 v1 v2 v3 : Value) : w.grownBy ((((w.setCell ⟨b, 0, none⟩ v0).setCell ⟨b, 1, none⟩ v1).setCell ⟨b, 2, none⟩ v2).setCell ⟨b, 3, none⟩ v3) (some b) :=
  grown_trans (grown_setCell _ _ _ _) (grown_trans (grown_setCell _ _ _ _) (grown_trans (grown_setCell _ _ _ _) (grown_setCell _ _ _ _)))
def PartPost (w : World) (R : Nat) (T : ByteArray) (q : Value) (at' k tat qk : Int) (x : List (List UInt8)) (e : Ending) (w' : World) : Prop := e = .returned (.tuple #[q, .bool true]) ∧ NextW w R T at' k tat qk x w'
abbrev leafQ (A : Option Addr) : Value := .agg #[.int .i64 2, .slice A 1 1, .int .i64 0, .slice none 0 0]
set_option maxHeartbeats 1600000 in
set_option maxRecDepth 100000 in
theorem part_word (R : Nat) (T : ByteArray) (A : Option Addr) (a tat a' k' tat' qk' : Int) (x' : List (List UInt8)) (w : World) (h : ReaderAt w R T a 3 tat 2 (.slice A 1 1)) (hst : Steps R T a 3 tat 2 a' k' tat' qk' x') :
    Calls Tryz.prog 221 #[.pointer (some ⟨R, 0, none⟩)] w (PartPost w R T (leafQ A) a' k' tat' qk' x') := by
  obtain ⟨c0, c1, c2, c3, c4, c5, c6, c7, cf⟩ := h.cells
  have hRl := h.lt
  have HR := Lib.hid h; clear h
  have HST := Lib.hid hst; clear hst
  clear c0 c1 c3 cf
  go_enter Tryz.func221, Tryz.ntmps221
  go_wp2_with fail
  have hb1 := heap_alloc_new (w.alloc (.cells #[.int .i64 0, .slice none 0 0, .int .i64 0, .slice none 0 0] 94)) (.cells #[.int .i64 2, .slice A 1 1, .int .i64 0, .slice none 0 0] 94)
  have hb0 := (Below.heap_alloc (w.alloc (.cells #[.int .i64 0, .slice none 0 0, .int .i64 0, .slice none 0 0] 94)) (.cells #[.int .i64 2, .slice A 1 1, .int .i64 0, .slice none 0 0] 94) w.heap.size (by simp)).trans (heap_alloc_new w (.cells #[.int .i64 0, .slice none 0 0, .int .i64 0, .slice none 0 0] 94))
  have hB : Below w.heap.size w ((w.alloc (.cells #[.int .i64 0, .slice none 0 0, .int .i64 0, .slice none 0 0] 94)).alloc (.cells #[.int .i64 2, .slice A 1 1, .int .i64 0, .slice none 0 0] 94)) := ((Below.refl _ _).alloc (Nat.le_refl _) _).alloc (by simp) _
  have es : (w.alloc (.cells #[.int .i64 0, .slice none 0 0, .int .i64 0, .slice none 0 0] 94)).heap.size = w.heap.size + 1 := by simp
  rw [es] at hb1
  clear es c2 c4 c5 c6 c7
  generalize (w.alloc (.cells #[.int .i64 0, .slice none 0 0, .int .i64 0, .slice none 0 0] 94)).alloc (.cells #[.int .i64 2, .slice A 1 1, .int .i64 0, .slice none 0 0] 94) = w1 at *
  refine (HST.out w1 _ (HR.out.keep hB)).mono ?_
  rintro e w2 ⟨rfl, hN⟩
  obtain ⟨d0, d1, d2, d3, e0, e1, e2, e3, hd⟩ := four_cells (hN.blk hb0 (by omega))
  obtain ⟨p0, p1, p2, p3, q0, q1, q2, q3, hp⟩ := four_cells (hN.blk hb1 (by omega))
  have HN := Lib.hid (hN.store hB (grown_row4 w2 w.heap.size (.int .i64 2) (.slice A 1 1) (.int .i64 0) (.slice none 0 0)) (Nat.le_refl _) (Nat.lt_of_lt_of_le (Nat.lt_succ_self _) (by have := (Array.getElem?_eq_some_iff.1 hb1).1; omega)) hRl)
  clear hN hb0 hb1 HST HR hB q0 q1 q2 q3
  go_wp2_with fail
  exact bodyPost_ret (v := .tuple #[leafQ A, .bool true]) (by simp [results, Tryz.results221, go_sem, d0, d1, d2, d3, leafQ]) rfl ⟨rfl, HN.out⟩

set_option maxHeartbeats 1600000 in
set_option maxRecDepth 100000 in
theorem near_word (R : Nat) (T : ByteArray) (A : Option Addr) (a tat a' k' tat' qk' : Int) (x' : List (List UInt8)) (w : World) (h : ReaderAt w R T a 3 tat 2 (.slice A 1 1)) (hst : Steps R T a 3 tat 2 a' k' tat' qk' x') (hk : (k' == 7) = false) :
    Calls Tryz.prog 189 #[.pointer (some ⟨R, 0, none⟩)] w (PartPost w R T (leafQ A) a' k' tat' qk' x') := by
  have hRl := h.lt
  have HR := Lib.hid h; clear h
  have HST := Lib.hid hst; clear hst
  have hb1 := heap_alloc_new w (.cells #[.int .i64 0, .slice none 0 0, .int .i64 0, .slice none 0 0] 94)
  have hB : Below w.heap.size w (w.alloc (.cells #[.int .i64 0, .slice none 0 0, .int .i64 0, .slice none 0 0] 94)) := (Below.refl _ _).alloc (Nat.le_refl _) _
  have HHB := Lib.hid hb1; clear hb1
  go_enter Tryz.func189, Tryz.ntmps189
  go_wp2_with fail
  generalize w.alloc (.cells #[.int .i64 0, .slice none 0 0, .int .i64 0, .slice none 0 0] 94) = w1 at *
  refine (part_word R T A a tat a' k' tat' qk' x' w1 (HR.out.keep hB) HST.out).mono ?_
  rintro e w2 ⟨rfl, hN⟩
  have hbk := hN.blk HHB.out (by omega)
  obtain ⟨d0, d1, d2, d3, e0, e1, e2, e3, hd⟩ := four_cells hbk
  obtain ⟨A2, hrd, _⟩ := id hN
  obtain ⟨c0, c1, c2, c3, c4, c5, c6, c7, cf⟩ := hrd.cells
  have hRl2 := hrd.lt
  clear c0 c1 c3 c4 c5 c6 c7 cf
  have HN : Hid (∀ v0 v1 v2 v3, NextW w R T a' k' tat' qk' x' (((((w2.setCell ⟨w.heap.size, 0, none⟩ v0).setCell ⟨w.heap.size, 1, none⟩ v1).setCell ⟨w.heap.size, 2, none⟩ v2).setCell ⟨w.heap.size, 3, none⟩ v3).alloc (.cells #[.int .i64 2, .slice A 1 1, .int .i64 0, .slice none 0 0] 94))) := fun v0 v1 v2 v3 => (hN.store hB (grown_row4 _ _ _ _ _ _) (Nat.le_refl _) ((Array.getElem?_eq_some_iff.1 HHB.out).1) hRl).after ((Below.refl _ _).alloc (Nat.le_refl _) _)
  clear hbk hN hrd HR HST HHB hB
  go_wp2_with fail
  refine wp_loop_rounds 1 ?_
  rw [rounds_succ]
  go_wp2_with fail
  exact bodyPost_ret (v := .tuple #[leafQ A, .bool true]) (by simp [results, Tryz.results189, go_sem, d0, d1, d2, d3, hd, leafQ]) rfl ⟨rfl, HN.out _ _ _ _⟩
set_option maxHeartbeats 1600000 in
set_option maxRecDepth 100000 in
theorem not_word (R : Nat) (T : ByteArray) (A : Option Addr) (a tat a' k' tat' qk' : Int) (x' : List (List UInt8)) (w : World) (h : ReaderAt w R T a 3 tat 2 (.slice A 1 1)) (hst : Steps R T a 3 tat 2 a' k' tat' qk' x') (hk : (k' == 7) = false) :
    Calls Tryz.prog 144 #[.pointer (some ⟨R, 0, none⟩)] w (PartPost w R T (leafQ A) a' k' tat' qk' x') := by
  have hRl := h.lt
  have HR := Lib.hid h
  have HST := Lib.hid hst; clear hst
  have hb1 := heap_alloc_new w (.cells #[.int .i64 0, .slice none 0 0, .int .i64 0, .slice none 0 0] 94)
  have hB : Below w.heap.size w (w.alloc (.cells #[.int .i64 0, .slice none 0 0, .int .i64 0, .slice none 0 0] 94)) := (Below.refl _ _).alloc (Nat.le_refl _) _
  have HHB := Lib.hid hb1; clear hb1
  obtain ⟨c0, c1, c2, c3, c4, c5, c6, c7, cf⟩ := h.cells
  clear c0 c1 c3 c4 c5 c6 c7 cf h
  go_enter Tryz.func144, Tryz.ntmps144
  go_wp2_with fail
  refine wp_loop_rounds 1 ?_
  rw [rounds_succ]
  go_wp2_with fail
  clear c2
  generalize w.alloc (.cells #[.int .i64 0, .slice none 0 0, .int .i64 0, .slice none 0 0] 94) = w1 at *
  refine (near_word R T A a tat a' k' tat' qk' x' w1 (HR.out.keep hB) HST.out hk).mono ?_
  rintro e w2 ⟨rfl, hN⟩
  have hbk := hN.blk HHB.out (by omega)
  obtain ⟨d0, d1, d2, d3, e0, e1, e2, e3, hd⟩ := four_cells hbk
  have HN : Hid (∀ v0 v1 v2 v3, NextW w R T a' k' tat' qk' x' (((((w2.setCell ⟨w.heap.size, 0, none⟩ v0).setCell ⟨w.heap.size, 1, none⟩ v1).setCell ⟨w.heap.size, 2, none⟩ v2).setCell ⟨w.heap.size, 3, none⟩ v3).alloc (.cells #[.int .i64 2, .slice A 1 1, .int .i64 0, .slice none 0 0] 94))) := fun v0 v1 v2 v3 => (hN.store hB (grown_row4 _ _ _ _ _ _) (Nat.le_refl _) ((Array.getElem?_eq_some_iff.1 HHB.out).1) hRl).after ((Below.refl _ _).alloc (Nat.le_refl _) _)
  clear hbk hN HR HST HHB hB hk
  go_wp2_with fail
  refine wp_loop_rounds 1 ?_
  rw [rounds_succ]
  go_wp2_with fail
  exact bodyPost_ret (v := .tuple #[leafQ A, .bool true]) (by simp [results, Tryz.results144, go_sem, d0, d1, d2, d3, hd, leafQ]) rfl ⟨rfl, HN.out _ _ _ _⟩
end Go.Proofs.YtfijplllfdmcoaaGreatDoor
