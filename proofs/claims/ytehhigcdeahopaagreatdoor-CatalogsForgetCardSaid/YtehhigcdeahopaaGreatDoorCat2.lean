
/-
  What Remove and Ids of a catalog do; leastError, enough, greater.
-/
import Derived.Test.YtehhigcdeahopaaGreatDoorCat
import Derived.Test.YtehhigcdeahopaaGreatDoorFrac
namespace Go.Proofs.YtehhigcdeahopaaGreatDoor
open Go.RowKit Go.Maps

def RemovePost (w : World) (P M k tot m : Nat) (D : DataW Unit) (e : Ending) (w' : World) : Prop := e = .returned (.int .i64 0) ∧ CatAt w' P M k tot m D ∧ But2 P M w w'
set_option maxHeartbeats 1600000 in
set_option maxRecDepth 100000 in
theorem remove_any (P M k tot m : Nat) (D : DataW Unit) (id t : ByteArray) (w : World) (hc : CatAt w P M k (tot + t.size) m D) (hid : id.size ≤ 1000000) (htot : tot + t.size ≤ 1000000) (hhas : has D (.string id.data.toList) = true) (ht : D.atKey (.string id.data.toList) (.lit (.string [])) = .lit (.string t.data.toList)) :
    Calls Tryz.prog 20 #[.pointer (some ⟨P, 0, none⟩), .string id] w (RemovePost w P M k tot m (D.del (.string id.data.toList))) := by
  have hne := hc.ne
  have hlook : (Instr.lookup 85 (.map (some M)) (.string id) true).run Tryz.prog w = .ok (.tuple #[.string t, .bool (has D (.string id.data.toList))]) w := hc.look2 id hid t ht 0
  rw [hhas] at hlook
  obtain ⟨c0, c1, c2, cf⟩ := three_cell hc.row
  have HC := Lib.hid hc; clear hc
  go_enter Tryz.func20, Tryz.ntmps20
  have e1 : ((tot : Int) + (t.size : Int)) - (t.size : Int) = (tot : Int) := by omega
  have e2 : IntKind.i64.wrap (tot : Int) = (tot : Int) := IntWalk.i64_in _ (by omega)
  go_wp2_with (at_delete; refine wpList_delete_own _ rfl _ _ 85 9 rfl 9 keyS Tryz.underlying85 _ M m D rfl HC.out.map _ _ rfl (keyS_mk id hid) ?_; intro w1 hown1 hturn1; have hg1 := hturn1.grown; have hrow1 := (hg1.block P HC.out.lt.1 (fun e => hne (by cases e; rfl))).trans HC.out.row; have HC1 : Hid (CatAt w1 P M k (tot + t.size) m (D.del (.string id.data.toList))) := ⟨hrow1, hown1⟩; have hB1 : But2 P M w w1 := But2.of_grown hg1 (.inr rfl); clear hlook c0 c1 c2 cf hrow1 hg1 hturn1 hown1; obtain ⟨c0, c1, c2, cf⟩ := three_cell HC1.out.row; have cf1 := cf 1; clear cf; rw [Int.natCast_add] at c1)
  go_ret
  refine ⟨rfl, ⟨?_, HC1.out.map.setCell (fun e => hne e.symm) _⟩, hB1.trans (But2.of_grown (grown_setCell _ _ _ _) (.inl rfl))⟩
  rw [three_set1 HC1.out.row]

set_option maxHeartbeats 800000 in
theorem ids_any (P M k tot m : Nat) (D : DataW Unit) (w : World) (hc : CatAt w P M k tot m D) (hm : m ≤ 1000) :
    Calls Tryz.prog 12 #[.pointer (some ⟨P, 0, none⟩)] w (SortedPost w.heap.size w D) := by
  obtain ⟨c0, c1, c2, cf⟩ := three_cell hc.row
  have hsz : Maps.size D ≤ 1000 := Nat.le_trans hc.map.size_le hm
  have HM := Lib.hid hc.map
  clear hc cf
  go_enter Tryz.func12, Tryz.ntmps12
  go_wp2_with fail
  refine (keysS_any (some M) w).mono ?_
  rintro e w' ⟨rfl, rfl⟩
  go_wp2_with fail
  refine (sortedS_any M m D _ w HM.out hsz).mono ?_
  rintro e w' ⟨v, rfl, h1, h2⟩
  go_wp2_with fail
  go_ret
  exact ⟨v, rfl, h1, h2⟩

set_option maxHeartbeats 800000 in
theorem leastError_any (k : Int) (w : World) (h1 : 1 ≤ k) (h2 : k ≤ 100) :
    Calls Tryz.prog 51 #[.int .i64 k] w fun e w' => e = .returned (.int .i64 0) ∧ w = w' := by
  have hi : inB k 1 100 = true := by simp [inB, h1, h2]
  go_enter Tryz.func51, Tryz.ntmps51
  go_wp2_with fail
  refine (in_any k 1 100 w).mono ?_
  rintro e w' ⟨rfl, rfl⟩
  rw [hi]
  go_wp2_with fail
  refine (when_any _ _ _).mono ?_
  rintro e w' ⟨rfl, rfl⟩
  go_wp2_with fail
  go_ret
  exact ⟨rfl, rfl⟩

def enoughL (f : Nat × Nat) (least : Nat) : Bool := decide (least * f.2 ≤ f.1 * 100)
set_option maxHeartbeats 800000 in
theorem enough_any (f : Nat × Nat) (least : Nat) (w : World) (h1 : f.1 ≤ 1000000) (h2 : f.2 ≤ 1000000) (h3 : least ≤ 100) :
    Calls Tryz.prog 54 #[.agg #[.int .i64 (f.1 : Int), .int .i64 (f.2 : Int)], .int .i64 least] w fun e w' => e = .returned (.bool (enoughL f least)) ∧ Below w.heap.size w w' := by
  obtain ⟨a, b⟩ := f
  simp only at *
  have hle : least * b ≤ 100 * 1000000 := Nat.mul_le_mul h3 h2
  have e1 : IntKind.i64.wrap ((a : Int) * 100) = (a : Int) * 100 := IntWalk.i64_in _ (by omega)
  have e2 : IntKind.i64.wrap ((least : Int) * (b : Int)) = (least : Int) * (b : Int) := IntWalk.i64_in _ (by rw [← Int.natCast_mul]; omega)
  go_enter Tryz.func54, Tryz.ntmps54
  go_wp2_with fail
  go_ret
  refine ⟨ret_bool ?_, (Below.refl _ _).alloc (Nat.le_refl _) _⟩
  unfold enoughL
  exact decide_eq_decide.2 ⟨fun h => by exact_mod_cast h, fun h => by exact_mod_cast h⟩

def cmpI (a b : Int) : Int := if a < b then -1 else if b < a then 1 else 0
set_option maxHeartbeats 800000 in
theorem isNaNI_any (a : Int) (w : World) : Calls Tryz.prog 124 #[.int .i64 a] w fun e w' => e = .returned (.bool false) ∧ w' = w := by
  go_enter Tryz.func124, Tryz.ntmps124
  go_wp2_with fail
  go_ret
  exact ⟨by simp, rfl⟩
set_option maxHeartbeats 800000 in
theorem compareI_any (a b : Int) (w : World) : Calls Tryz.prog 96 #[.int .i64 a, .int .i64 b] w fun e w' => e = .returned (.int .i64 (cmpI a b)) ∧ w' = w := by
  by_cases h1 : a < b
  · have HC : Hid (cmpI a b = -1) := by show _ = _; simp [cmpI, h1]
    go_enter Tryz.func96, Tryz.ntmps96
    go_wp2_with fail
    refine (isNaNI_any _ _).mono ?_
    rintro e w' ⟨rfl, hw⟩
    obtain rfl := hw.symm
    go_wp2_with fail
    refine (isNaNI_any _ _).mono ?_
    rintro e w' ⟨rfl, hw⟩
    obtain rfl := hw.symm
    go_wp2_with fail
    go_ret
    exact ⟨ret_int (by rw [HC.out]), rfl⟩
  · by_cases h2 : b < a
    · have HC : Hid (cmpI a b = 1) := by show _ = _; simp [cmpI, h1, h2]
      go_enter Tryz.func96, Tryz.ntmps96
      go_wp2_with fail
      refine (isNaNI_any _ _).mono ?_
      rintro e w' ⟨rfl, hw⟩
      obtain rfl := hw.symm
      go_wp2_with fail
      refine (isNaNI_any _ _).mono ?_
      rintro e w' ⟨rfl, hw⟩
      obtain rfl := hw.symm
      go_wp2_with fail
      go_ret
      exact ⟨ret_int (by rw [HC.out]), rfl⟩
    · have HC : Hid (cmpI a b = 0) := by show _ = _; simp [cmpI, h1, h2]
      go_enter Tryz.func96, Tryz.ntmps96
      go_wp2_with fail
      refine (isNaNI_any _ _).mono ?_
      rintro e w' ⟨rfl, hw⟩
      obtain rfl := hw.symm
      go_wp2_with fail
      refine (isNaNI_any _ _).mono ?_
      rintro e w' ⟨rfl, hw⟩
      obtain rfl := hw.symm
      go_wp2_with fail
      go_ret
      exact ⟨ret_int (by rw [HC.out]), rfl⟩

def greatL (f g : Nat × Nat) : Int := cmpI ((g.1 * f.2 : Nat) : Int) ((f.1 * g.2 : Nat) : Int)
set_option maxHeartbeats 800000 in
theorem greater_any (f g : Nat × Nat) (w : World) (h1 : f.1 ≤ 1000000) (h2 : f.2 ≤ 1000000) (h3 : g.1 ≤ 1000000) (h4 : g.2 ≤ 1000000) :
    Calls Tryz.prog 57 #[.agg #[.int .i64 (f.1 : Int), .int .i64 (f.2 : Int)], .agg #[.int .i64 (g.1 : Int), .int .i64 (g.2 : Int)]] w fun e w' => e = .returned (.int .i64 (greatL f g)) ∧ Below w.heap.size w w' := by
  obtain ⟨a, b⟩ := f
  obtain ⟨c, d⟩ := g
  simp only at *
  have hl1 : c * b ≤ 1000000 * 1000000 := Nat.mul_le_mul h3 h2
  have hl2 : a * d ≤ 1000000 * 1000000 := Nat.mul_le_mul h1 h4
  have e1 : IntKind.i64.wrap ((c : Int) * (b : Int)) = (c : Int) * (b : Int) := IntWalk.i64_in _ (by rw [← Int.natCast_mul]; omega)
  have e2 : IntKind.i64.wrap ((a : Int) * (d : Int)) = (a : Int) * (d : Int) := IntWalk.i64_in _ (by rw [← Int.natCast_mul]; omega)
  go_enter Tryz.func57, Tryz.ntmps57
  go_wp2_with fail
  refine (compareI_any _ _ _).mono ?_
  rintro e w' ⟨rfl, hw⟩
  obtain rfl := hw.symm
  go_wp2_with fail
  go_ret
  exact ⟨ret_int (by simp [greatL]), ((Below.refl _ _).alloc (Nat.le_refl _) _).alloc (by simp) _⟩

end Go.Proofs.YtehhigcdeahopaaGreatDoor
