
/-
  Indices sorted by what is left over at each, the most first: what SortStableFunc does with them.
-/
import Derived.Test.YtiegbbngfojjoaaGreatDoorISort
import Derived.Sort.OwnSortedInts
import Derived.Laws.EntriesVeiled
namespace Go.Proofs.YtiegbbngfojjoaaGreatDoor
open Go.RowKit Go.Sort Go.Shelf Go.Lib

abbrev IxT (m : Nat) : Type := {x : Nat // x < m + 1}
instance (m : Nat) : Inhabited (IxT m) := ⟨⟨0, by omega⟩⟩
def mkIx (m k : Nat) : IxT m := if h : k < m + 1 then ⟨k, h⟩ else ⟨0, by omega⟩
theorem mkIx_val {m k : Nat} (h : k < m + 1) : (mkIx m k).1 = k := by simp [mkIx, h]
def encIx {m : Nat} (x : IxT m) : Value := .int .i64 (x.1 : Int)
def cfI (m n tot : Nat) (L : List Nat) (x y : IxT m) : Int := (remN n tot L y.1 : Int) - (remN n tot L x.1 : Int)
theorem cfI_swo (m n tot : Nat) (L : List Nat) : SWO (ltOf (cfI m n tot L)) := by
  refine ⟨fun x => decide_eq_false (by unfold cfI; omega), fun x y z h1 h2 => decide_eq_true (by have a := of_decide_eq_true h1; have b := of_decide_eq_true h2; unfold cfI at *; omega), fun x y z h1 h2 => decide_eq_false (by have a := of_decide_eq_false h1; have b := of_decide_eq_false h2; unfold cfI at *; omega)⟩
def startI (m : Nat) : Array (IxT m) := ((List.range (m + 1)).map (mkIx m)).toArray
def sortIA (m n tot : Nat) (L : List Nat) : Array (IxT m) := insertionSort (ltOf (cfI m n tot L)) (startI m) 0 (m + 1)
def sortI (m n tot : Nat) (L : List Nat) : List Nat := (sortIA m n tot L).toList.map (·.1)
theorem startI_size (m : Nat) : (startI m).size = m + 1 := by simp [startI]
theorem sortIA_size (m n tot : Nat) (L : List Nat) : (sortIA m n tot L).size = m + 1 := by
  have hp := (insertionSort_holds (lt := ltOf (cfI m n tot L)) (cfI_swo m n tot L) (startI m) 0 (m + 1) (Nat.zero_le _) (by rw [startI_size]; exact Nat.le_refl _)).1.1
  exact hp.trans (startI_size m)
theorem sortI_length (m n tot : Nat) (L : List Nat) : (sortI m n tot L).length = m + 1 := by unfold sortI; rw [List.length_map, Array.length_toList, sortIA_size]
theorem start_map (m : Nat) : ((List.range (m + 1)).map (mkIx m)).map (·.1) = List.range (m + 1) := by
  rw [List.map_map]
  conv => rhs; rw [← List.map_id (List.range (m + 1))]
  exact List.map_congr_left fun k hk => mkIx_val (List.mem_range.1 hk)
theorem sortI_perm (m n tot : Nat) (L : List Nat) : (sortI m n tot L).Perm (List.range (m + 1)) := by
  have hp := (insertionSort_holds (lt := ltOf (cfI m n tot L)) (cfI_swo m n tot L) (startI m) 0 (m + 1) (Nat.zero_le _) (by rw [startI_size]; exact Nat.le_refl _)).1
  have hs := sortIA_size m n tot L
  obtain ⟨_, _, h3⟩ := hp
  have e1 : ((startI m).extract 0 (m + 1)).toList = (List.range (m + 1)).map (mkIx m) := by
    rw [Array.toList_extract]; simp [startI]; exact List.take_of_length_le (by simp)
  have e2 : ((sortIA m n tot L).extract 0 (m + 1)).toList = (sortIA m n tot L).toList := by rw [← hs]; simp
  have h4 : (sortIA m n tot L).toList.Perm ((List.range (m + 1)).map (mkIx m)) := by
    rw [← e1, ← e2]; exact h3
  have h5 := h4.map (·.1)
  rw [start_map] at h5
  exact h5
theorem sortI_sorted (m n tot : Nat) (L : List Nat) : (sortI m n tot L).Pairwise fun x y => remN n tot L y ≤ remN n tot L x := by
  have hp := (insertionSort_holds (lt := ltOf (cfI m n tot L)) (cfI_swo m n tot L) (startI m) 0 (m + 1) (Nat.zero_le _) (by rw [startI_size]; exact Nat.le_refl _)).2
  have hs := sortIA_size m n tot L
  unfold sortI
  rw [List.pairwise_map, List.pairwise_iff_getElem]
  intro i j hi hj hij
  have hi' : i < (sortIA m n tot L).size := by simpa using hi
  have hj' : j < (sortIA m n tot L).size := by simpa using hj
  have h := hp i j (Nat.zero_le _) hij (by omega)
  have hlt := of_decide_eq_false h
  change ¬ cfI m n tot L (sortIA m n tot L)[j]! (sortIA m n tot L)[i]! < 0 at hlt
  rw [getElem!_pos _ j hj', getElem!_pos _ i hi'] at hlt
  unfold cfI at hlt
  simp only [Array.getElem_toList]
  omega

theorem grown_sortX {α : Type} [Inhabited α] (enc : α → Value) (w : World) (blk off m : Nat) (d : Array α) (os : Array Obj) : w.grownBy (sortWorld enc w blk off m d os) (some blk) := by
  refine ⟨rfl, rfl, rfl, by simp [sortWorld, grow, putRow, mapBlock, Sort.ahead], fun i hi hne => ?_⟩
  have hne' : blk ≠ i := fun e => hne (by rw [e])
  unfold sortWorld
  rw [heap_grow_old _ _ (by simpa [putRow, mapBlock, Sort.ahead] using hi)]
  simp [putRow, mapBlock, Sort.ahead, Array.getElem?_modify, hne']
/-- The sizes lie in blocks, none of which is blk. -/
def SizesIn (w : World) (Pn Ps Pt : Nat) (A : Option Addr) (c n tot : Nat) (L : List Nat) (b : Nat) : Prop :=
  SizesAt w Pn Ps Pt A c n tot L ∧ Pn < w.heap.size ∧ Ps < w.heap.size ∧ Pt < w.heap.size ∧ Pn < b ∧ Ps < b ∧ Pt < b ∧ ∀ g off, A = some ⟨g, off, none⟩ → g < b ∧ g < w.heap.size
theorem SizesIn.grown {w w' : World} {Pn Ps Pt c n tot b blk : Nat} {A : Option Addr} {L : List Nat} (h : SizesIn w Pn Ps Pt A c n tot L b) (hg : w.grownBy w' (some blk)) (hb : b ≤ blk) : SizesIn w' Pn Ps Pt A c n tot L b := by
  obtain ⟨⟨h1, h2, h3, h4⟩, l1, l2, l3, l4, l5, l6, l7⟩ := h
  have hz := hg.size
  have k : ∀ i o, i < w.heap.size → i < b → w'.cell? ⟨i, o, none⟩ = w.cell? ⟨i, o, none⟩ := fun i o hi hib => World.cell?_of_block (hg.block i hi (fun e => by have := Option.some.inj e; omega))
  refine ⟨⟨(k _ _ l1 l4).trans h1, (k _ _ l2 l5).trans h2, (k _ _ l3 l6).trans h3, fun j hj => ?_⟩, by omega, by omega, by omega, l4, l5, l6, fun g off e => by have := l7 g off e; omega⟩
  obtain ⟨g, off, rfl, hc⟩ := h4 j hj
  have := l7 g off rfl
  exact ⟨g, off, rfl, (k _ _ this.2 this.1).trans hc⟩
theorem cmpA_reads {m n tot Pn Ps Pt c b blk : Nat} {A : Option Addr} {L : List Nat} {w : World} (h : SizesIn w Pn Ps Pt A c n tot L b) (hb : b ≤ blk) (hm : L.length = m + 1) (ht : 0 < tot) (ht2 : tot ≤ 100000000) (hn : n ≤ 2000) (hL : ∀ k, L.getD k 0 ≤ 2000) :
    CmpReads Tryz.prog 139 #[.pointer (some ⟨Pn, 0, none⟩), .pointer (some ⟨Ps, 0, none⟩), .pointer (some ⟨Pt, 0, none⟩)] (encIx (m := m)) (cfI m n tot L) blk 0 (m + 1) w := fun mm os dk _ x y => by
  have hg := grown_sortX (encIx (m := m)) w blk 0 mm dk os
  exact cmpA_closure x.1 y.1 Pn Ps Pt c n tot A L _ (h.grown hg hb).1 (by rw [hm]; exact x.2) (by rw [hm]; exact y.2) ht ht2 hn hL
theorem putCells_ix {m : Nat} (d : Array (IxT m)) (c : Array Value) : putCells encIx 0 d c = putCells (Value.int .i64) 0 (d.toList.map (fun x => (x.1 : Int))).toArray c := by
  unfold putCells
  congr 1
  funext k x
  simp only [Nat.zero_le, true_and, Nat.zero_add, Nat.sub_zero, List.size_toArray, List.length_map, Array.length_toList]
  split
  · rename_i hk
    have : (d.toList.map (fun x => (x.1 : Int))).toArray[k]! = ((d[k]!).1 : Int) := by simp [hk]
    rw [this]; rfl
  · rfl
def SortIPost (w : World) (base : Nat) (v : Value) (l : List Nat) (e : Ending) (w' : World) : Prop := e = .returned (.tuple #[]) ∧ Owns IntE w' base v (l.map Int.ofNat) ∧ w.grownBy w' v.ownBlock
theorem insI_any {m n tot Pn Ps Pt c b base : Nat} {A : Option Addr} {L : List Nat} {w : World} (h : SizesIn w Pn Ps Pt A c n tot L b) (hm : L.length = m + 1) (ht : 0 < tot) (ht2 : tot ≤ 100000000) (hn : n ≤ 2000) (hL : ∀ k, L.getD k 0 ≤ 2000) (hm2 : m < 1000) (hbb : b ≤ base) (v : Value) (ho : Owns IntE w base v ((List.range (m + 1)).map Int.ofNat)) :
    Calls Tryz.prog 233 #[v, .int .i64 0, .int .i64 ((m + 1 : Nat) : Int), .func (.func 139) #[] #[.pointer (some ⟨Pn, 0, none⟩), .pointer (some ⟨Ps, 0, none⟩), .pointer (some ⟨Pt, 0, none⟩)]] w (SortIPost w base v (sortI m n tot L)) := by
  rcases ho.2 with ⟨rfl, hn0⟩ | ⟨g, cap, cur, rfl, hbase, hb, h1, h2, h3, h4⟩
  · simp at hn0
  · have hl0 : ((List.range (m + 1)).map Int.ofNat).length = m + 1 := by simp
    have hH0 : Holds (Value.int .i64) w g 0 ((List.range (m + 1)).map Int.ofNat).toArray := holds_of_blockI hb (by rw [show ((List.range (m + 1)).map Int.ofNat).length * IntE.size = ((List.range (m + 1)).map Int.ofNat).length from Nat.mul_one _, intE_cells] at h4; exact h4)
    have hH : Holds (encIx (m := m)) w g 0 (startI m) := by
      intro j hj
      have hj' : j < m + 1 := by rw [startI_size] at hj; exact hj
      have h5 := hH0 j (by simpa using hj')
      have e : encIx (startI m)[j]! = Value.int .i64 ((List.range (m + 1)).map Int.ofNat).toArray[j]! := by
        simp [startI, hj', encIx, mkIx_val hj']
      rw [e]
      exact h5
    have eg : ∀ args w, (callFunc 139 args).run Tryz.prog w = .ok (.enter 139 args) w := enters_of Tryz.func139 (by kernel_rfl) rfl
    have hcon := Tryz.insertionSortCmpFunc_one_f233 (encIx (m := m)) (fun _ => rfl) (cfI m n tot L) 139 #[.pointer (some ⟨Pn, 0, none⟩), .pointer (some ⟨Ps, 0, none⟩), .pointer (some ⟨Pt, 0, none⟩)] g 0 cap 0 (m + 1) (startI m) w eg (by rw [startI_size]; exact cmpA_reads h (by omega) hm ht ht2 hn hL) hH (Nat.zero_le _) (by rw [startI_size]; exact Nat.le_refl _) (by rw [startI_size]; omega)
    rw [startI_size] at hcon
    rw [hl0]
    refine Calls.mono hcon ?_
    rintro e w' ⟨rfl, q, rfl⟩
    have em : (sortI m n tot L).map Int.ofNat = (sortIA m n tot L).toList.map (fun x => (x.1 : Int)) := by unfold sortI; rw [List.map_map]; rfl
    have e1 : (putRow encIx w g 0 (insertionSort (ltOf (cfI m n tot L)) (startI m) 0 (m + 1))).drewN q = grow (putRow (Value.int .i64) (Sort.ahead w q) g 0 ((sortI m n tot L).map Int.ofNat).toArray) #[] := by
      rw [← sortWorld_none, em]
      unfold sortWorld putRow
      rw [show putCells encIx 0 (insertionSort (ltOf (cfI m n tot L)) (startI m) 0 (m + 1)) = putCells (Value.int .i64) 0 ((sortIA m n tot L).toList.map (fun x => (x.1 : Int))).toArray from funext fun c => putCells_ix _ c]
    rw [e1]
    refine ⟨rfl, ?_, grownBy_sortedI _⟩
    unfold Owns
    rw [intE_cells]
    have hll : ((sortI m n tot L).map Int.ofNat).length = ((List.range (m + 1)).map Int.ofNat).length := by simp [sortI_length]
    have k := ownsRow_sortedI (n := q) (os := #[]) (ss := (List.range (m + 1)).map Int.ofNat) (ts := (sortI m n tot L).map Int.ofNat) hll hbase hb h1 h2 h3
    rw [hl0] at k
    rw [hll, hl0]
    exact k
set_option maxHeartbeats 1600000 in
set_option maxRecDepth 100000 in
theorem stableI_any {m n tot Pn Ps Pt c b base : Nat} {A : Option Addr} {L : List Nat} {w : World} (h : SizesIn w Pn Ps Pt A c n tot L b) (hm : L.length = m + 1) (ht : 0 < tot) (ht2 : tot ≤ 100000000) (hn : n ≤ 2000) (hL : ∀ k, L.getD k 0 ≤ 2000) (hm2 : m + 1 < 20) (hbb : b ≤ base) (v : Value) (ho : Owns IntE w base v ((List.range (m + 1)).map Int.ofNat)) :
    Calls Tryz.prog 182 #[v, .int .i64 ((m + 1 : Nat) : Int), .func (.func 139) #[] #[.pointer (some ⟨Pn, 0, none⟩), .pointer (some ⟨Ps, 0, none⟩), .pointer (some ⟨Pt, 0, none⟩)]] w (SortIPost w base v (sortI m n tot L)) := by
  have HI := Lib.hid (insI_any h hm ht ht2 hn hL (by omega) hbb v ho)
  clear ho h hL
  generalize sortI m n tot L = S at *
  generalize m + 1 = q at *
  have h20 : ¬ (20 : Int) ≤ (q : Int) := by omega
  have h21 : ¬ (20 : Int) < (q : Int) := by omega
  go_enter Tryz.func182, Tryz.ntmps182
  go_wp2_with fail
  refine wp_loop_rounds 1 ?_
  rw [rounds_succ]
  go_wp2_with fail
  refine HI.out.mono ?_
  rintro e w' ⟨rfl, h1, h2⟩
  clear HI
  go_wp2_with fail
  refine wp_loop_rounds 1 ?_
  rw [rounds_succ]
  go_wp2_with fail
  go_end0
  exact ⟨rfl, h1, h2⟩
set_option maxHeartbeats 800000 in
theorem sortStableI_any {m n tot Pn Ps Pt c b base d : Nat} {A B : Option Addr} {L : List Nat} {w : World} (h : SizesIn w Pn Ps Pt A c n tot L b) (hm : L.length = m + 1) (ht : 0 < tot) (ht2 : tot ≤ 100000000) (hn : n ≤ 2000) (hL : ∀ k, L.getD k 0 ≤ 2000) (hm2 : m + 1 < 20) (hbb : b ≤ base) (ho : Owns IntE w base (.slice B (m + 1) d) ((List.range (m + 1)).map Int.ofNat)) :
    Calls Tryz.prog 138 #[.slice B (m + 1) d, .func (.func 139) #[] #[.pointer (some ⟨Pn, 0, none⟩), .pointer (some ⟨Ps, 0, none⟩), .pointer (some ⟨Pt, 0, none⟩)]] w (SortIPost w base (.slice B (m + 1) d) (sortI m n tot L)) := by
  have HI := Lib.hid (stableI_any h hm ht ht2 hn hL hm2 hbb _ ho)
  clear ho h hL
  generalize sortI m n tot L = S at *
  generalize m + 1 = q at *
  go_enter Tryz.func138, Tryz.ntmps138
  go_wp2_with fail
  refine HI.out.mono ?_
  rintro e w' ⟨rfl, h1, h2⟩
  go_wp2_with fail
  go_end0
  exact ⟨rfl, h1, h2⟩
end Go.Proofs.YtiegbbngfojjoaaGreatDoor
