
/-
  Ids sorted, those with most numbers first: what SortStableFunc does with them.
-/
import Derived.Test.YtabdjkcediolcaaGreatDoorNum
import Derived.Sort.LotA
namespace Go.Proofs.YtabdjkcediolcaaGreatDoor
open Go.RowKit Go.Maps Go.Sort Go.Shelf Go.Lib

abbrev KeyT : Type := {x : Str // x.length ≤ 1000}
instance : Inhabited KeyT := ⟨⟨[], by simp⟩⟩
def mkKey (s : Str) : KeyT := if h : s.length ≤ 1000 then ⟨s, h⟩ else ⟨[], by simp⟩
theorem mkKey_val {s : Str} (h : s.length ≤ 1000) : (mkKey s).1 = s := by simp [mkKey, h]
def encKey (x : KeyT) : Value := .string (bag x.1)
def cfN (num : Str → List Int) (x y : KeyT) : Int := ((num y.1).length : Int) - ((num x.1).length : Int)
def sortGA (num : Str → List Int) (ids : List Str) : Array KeyT := insertionSort (ltOf (cfN num)) (ids.map mkKey).toArray 0 ids.length
def sortG (num : Str → List Int) (ids : List Str) : List Str := (sortGA num ids).toList.map (·.1)
theorem cfN_swo (num : Str → List Int) : SWO (ltOf (cfN num)) := by
  refine ⟨fun x => decide_eq_false (by unfold cfN; omega), fun x y z h1 h2 => decide_eq_true (by have a := of_decide_eq_true h1; have b := of_decide_eq_true h2; unfold cfN at *; omega), fun x y z h1 h2 => decide_eq_false (by have a := of_decide_eq_false h1; have b := of_decide_eq_false h2; unfold cfN at *; omega)⟩
theorem sortGA_size (num : Str → List Int) (ids : List Str) : (sortGA num ids).size = ids.length := by
  unfold sortGA; rw [size_insertionSort]; simp
theorem sortG_length (num : Str → List Int) (ids : List Str) : (sortG num ids).length = ids.length := by
  unfold sortG; rw [List.length_map, Array.length_toList, sortGA_size]
theorem keys_map {ids : List Str} (h : ∀ s ∈ ids, s.length ≤ 1000) : (ids.map mkKey).map (·.1) = ids := by
  rw [List.map_map]
  conv => rhs; rw [← List.map_id ids]
  exact List.map_congr_left fun s hs => mkKey_val (h s hs)
theorem sortG_perm (num : Str → List Int) (ids : List Str) (h : ∀ s ∈ ids, s.length ≤ 1000) : (sortG num ids).Perm ids := by
  have hp := (insertionSort_holds (lt := ltOf (cfN num)) (cfN_swo num) (ids.map mkKey).toArray 0 ids.length (Nat.zero_le _) (by simp)).1
  have hs := sortGA_size num ids
  obtain ⟨_, _, h3⟩ := hp
  have e1 : ((ids.map mkKey).toArray.extract 0 ids.length).toList = ids.map mkKey := by
    simp
    exact List.take_of_length_le (by simp)
  have e2 : ((sortGA num ids).extract 0 ids.length).toList = (sortGA num ids).toList := by rw [← hs]; simp
  have h4 : (sortGA num ids).toList.Perm (ids.map mkKey) := by
    rw [← e1, ← e2]; exact h3
  have h5 := h4.map (·.1)
  rw [keys_map h] at h5
  exact h5

set_option maxHeartbeats 800000 in
theorem cmpG_closure (x y : Str) (W : World) (B N a b cx cy : Nat) (Ax Ay : Option Addr) (hB : W.cell? ⟨B, 0, none⟩ = some (.map (some N)))
    (hx : ∀ q, (Instr.lookup 82 (.map (some N)) (.string (bag x)) false).run Tryz.prog (W.drewN q) = .ok (.slice Ax a cx) (W.drewN q))
    (hy : ∀ q, (Instr.lookup 82 (.map (some N)) (.string (bag y)) false).run Tryz.prog (W.drewN q) = .ok (.slice Ay b cy) (W.drewN q)) (ha : a ≤ 100000) (hb : b ≤ 100000) :
    Calls Tryz.prog 66 #[.string (bag x), .string (bag y), .pointer (some ⟨B, 0, none⟩)] W fun e w' => e = .returned (.int .i64 ((b : Int) - (a : Int))) ∧ ∃ q, w' = W.drewN q := by
  have hx0 : (Instr.lookup 82 (.map (some N)) (.string (bag x)) false).run Tryz.prog W = .ok (.slice Ax a cx) W := hx 0
  have hy0 : (Instr.lookup 82 (.map (some N)) (.string (bag y)) false).run Tryz.prog W = .ok (.slice Ay b cy) W := hy 0
  go_enter Tryz.func66, Tryz.ntmps66
  go_wp2_with fail
  go_ret
  exact ⟨rfl, 0, rfl⟩

theorem grown_sortW {α : Type} [Inhabited α] (enc : α → Value) (w : World) (blk off m : Nat) (d : Array α) (os : Array Obj) : w.grownBy (sortWorld enc w blk off m d os) (some blk) := by
  refine ⟨rfl, rfl, rfl, by simp [sortWorld, grow, putRow, mapBlock, Sort.ahead], fun i hi hne => ?_⟩
  have hne' : blk ≠ i := fun e => hne (by rw [e])
  unfold sortWorld
  rw [heap_grow_old _ _ (by simpa [putRow, mapBlock, Sort.ahead] using hi)]
  simp [putRow, mapBlock, Sort.ahead, Array.getElem?_modify, hne']
theorem NumAt.lookG {w w' : World} {N m : Nat} {D : DataW Value} {hd : Str → Value} {num : Str → List Int} (h : NumAt w N m D hd num) {row : Option Nat} (hg : w.grownBy w' row) (hr : some N ≠ row) (id : Str) (hid : id.length ≤ 1000) : ∃ A c, ∀ q, (Instr.lookup 82 (.map (some N)) (.string (bag id)) false).run Tryz.prog (w'.drewN q) = .ok (.slice A (num id).length c) (w'.drewN q) := by
  obtain ⟨A, c, h1, _⟩ := h.row id
  refine ⟨A, c, fun q => ?_⟩
  have hm : (w'.drewN q).ownsMap Tryz.prog 9 holdE N m D := h.map.kept (grown_drewN hg q) hr
  obtain ⟨v, ps, hrun, hv⟩ := hm.lookup keyS Tryz.underlying82 (z := .slice none 0 0) (by kernel_rfl) (zd := .held (.slice none 0 0)) (zp := []) rfl (key_le (x := id) (by simp only [maxLen]; omega))
  rw [h.at_ id] at hv
  simp only [holdE, Option.some.injEq, Prod.mk.injEq, DataW.held.injEq] at hv
  rw [hv.1, h1] at hrun
  exact hrun
theorem cmpG_reads {w : World} {N m : Nat} {D : DataW Value} {hd : Str → Value} {num : Str → List Int} (h : NumAt w N m D hd num) (hlen : ∀ id, (num id).length ≤ 100000) (B blk size : Nat) (T : TypeId) (hB : w.heap[B]? = some (.cells #[.map (some N)] T (0, 0))) (h1 : B ≠ blk) (h2 : N ≠ blk) :
    CmpReads Tryz.prog 66 #[.pointer (some ⟨B, 0, none⟩)] encKey (cfN num) blk 0 size w := fun mm os dk _ x y => by
  have hg := grown_sortW encKey w blk 0 mm dk os
  obtain ⟨Ax, cx, hx⟩ := h.lookG hg (fun e => h2 (by cases e; rfl)) x.1 x.2
  obtain ⟨Ay, cy, hy⟩ := h.lookG hg (fun e => h2 (by cases e; rfl)) y.1 y.2
  have hBw := (hg.block B (Array.getElem?_eq_some_iff.1 hB).1 (fun e => h1 (by cases e; rfl))).trans hB
  have hc : (sortWorld encKey w blk 0 mm dk os).cell? ⟨B, 0, none⟩ = some (.map (some N)) := by rw [cell_of_row _ B 0 _ _ _ hBw]; rfl
  exact cmpG_closure x.1 y.1 _ B N _ _ cx cy Ax Ay hc hx hy (hlen _) (hlen _)

def SortGPost (w : World) (base : Nat) (v : Value) (l : List Str) (e : Ending) (w' : World) : Prop := e = .returned (.tuple #[]) ∧ OwnStrs w' base v l ∧ w.grownBy w' v.ownBlock
theorem putCells_key (d : Array KeyT) (c : Array Value) : putCells encKey 0 d c = putCells encStr 0 (d.toList.map (·.1)).toArray c := by
  unfold putCells
  congr 1
  funext k x
  simp only [Nat.zero_le, true_and, Nat.zero_add, Nat.sub_zero, List.size_toArray, List.length_map, Array.length_toList]
  split
  · rename_i hk
    have : (d.toList.map (·.1)).toArray[k]! = (d[k]!).1 := by simp [hk]
    rw [this]; rfl
  · rfl
set_option maxHeartbeats 800000 in
theorem insG_zero (A : Option Addr) (c : Nat) (w : World) (F : Value) : Calls Tryz.prog 116 #[.slice A 0 c, .int .i64 0, .int .i64 0, F] w fun e w' => e = .returned (.tuple #[]) ∧ w' = w := by
  go_enter Tryz.func116, Tryz.ntmps116
  go_wp2_with fail
  refine wp_loop_rounds 1 ?_
  rw [rounds_succ]
  go_wp2_with fail
  go_end0
  exact ⟨rfl, rfl⟩
theorem insG_any {w : World} {N m : Nat} {D : DataW Value} {hd : Str → Value} {num : Str → List Int} (h : NumAt w N m D hd num) (hlen : ∀ id, (num id).length ≤ 100000) (B base : Nat) (v : Value) (l : List Str) (T : TypeId) (hB : w.heap[B]? = some (.cells #[.map (some N)] T (0, 0))) (hT : T ≠ 9) (ho : OwnStrs w base v l) (hl : ∀ s ∈ l, s.length ≤ 1000) (hl2 : l.length ≤ 1000) :
    Calls Tryz.prog 116 #[v, .int .i64 0, .int .i64 l.length, .func (.func 66) #[] #[.pointer (some ⟨B, 0, none⟩)]] w (SortGPost w base v (sortG num l)) := by
  have hbN := ownsMap_block h.map
  have hob := ho.ne_block hB hT
  rcases ho.2 with ⟨rfl, hn⟩ | ⟨g, cap, cur, rfl, hbase, hb, h1, h2, h3, h4⟩
  · have : l = [] := List.eq_nil_of_length_eq_zero hn
    subst this
    refine (insG_zero none 0 w _).mono ?_
    rintro e w' ⟨rfl, hw⟩
    rw [hw]
    refine ⟨rfl, ?_, World.grownBy.refl _ _⟩
    rw [List.eq_nil_of_length_eq_zero (sortG_length num [])]
    exact Owns.nil _ _
  · have hgB : B ≠ g := fun e => hob (by rw [e]; rfl)
    have hgN : N ≠ g := fun e => by
      obtain ⟨es, cl, hm⟩ := hbN
      rw [e, hb] at hm
      cases hm
    have hH0 : Holds encStr w g 0 l.toArray := holds_of_block hb (by rw [show l.length * StrE.size = l.length from Nat.mul_one _, strE_cells'] at h4; exact h4)
    have hH : Holds encKey w g 0 (l.map mkKey).toArray := by
      intro j hj
      have hj' : j < l.length := by simpa using hj
      have h5 := hH0 j (by simpa using hj')
      have e : encKey (l.map mkKey).toArray[j]! = encStr l.toArray[j]! := by
        simp [hj', encKey, mkKey_val (hl l[j] (List.getElem_mem _)), bag]
      rw [e]
      exact h5
    have hsz : (l.map mkKey).toArray.size = l.length := by simp
    have eg : ∀ args w, (callFunc 66 args).run Tryz.prog w = .ok (.enter 66 args) w := enters_of Tryz.func66 (by kernel_rfl) rfl
    have hcon := Tryz.insertionSortCmpFunc_one encKey (fun _ => rfl) (cfN num) 66 #[.pointer (some ⟨B, 0, none⟩)] g 0 cap 0 l.length (l.map mkKey).toArray w eg (cmpG_reads h hlen B g _ T hB hgB hgN) hH (Nat.zero_le _) (by simp) (by simp; omega)
    rw [hsz] at hcon
    refine Calls.mono hcon ?_
    rintro e w' ⟨rfl, q, rfl⟩
    have e1 : (putRow encKey w g 0 (insertionSort (ltOf (cfN num)) (l.map mkKey).toArray 0 l.length)).drewN q = grow (putRow encStr (Sort.ahead w q) g 0 (sortG num l).toArray) #[] := by
      rw [← sortWorld_none]
      unfold sortWorld putRow
      rw [show putCells encKey 0 (insertionSort (ltOf (cfN num)) (l.map mkKey).toArray 0 l.length) = putCells encStr 0 (sortG num l).toArray from funext fun c => putCells_key _ c]
    rw [e1]
    refine ⟨rfl, ?_, grownBy_sorted _⟩
    unfold OwnStrs Owns
    rw [strE_cells', sortG_length]
    exact ownsRow_sorted (ss := l) (ts := sortG num l) (sortG_length num l) hbase hb h1 h2 h3
set_option maxHeartbeats 1600000 in
set_option maxRecDepth 100000 in
theorem stableG_any {w : World} {N m : Nat} {D : DataW Value} {hd : Str → Value} {num : Str → List Int} (h : NumAt w N m D hd num) (hlen : ∀ id, (num id).length ≤ 100000) (B base : Nat) (v : Value) (l : List Str) (T : TypeId) (hB : w.heap[B]? = some (.cells #[.map (some N)] T (0, 0))) (hT : T ≠ 9) (ho : OwnStrs w base v l) (hl : ∀ s ∈ l, s.length ≤ 1000) (hl2 : l.length < 20) :
    Calls Tryz.prog 94 #[v, .int .i64 l.length, .func (.func 66) #[] #[.pointer (some ⟨B, 0, none⟩)]] w (SortGPost w base v (sortG num l)) := by
  have HI := Lib.hid (insG_any h hlen B base v l T hB hT ho hl (by omega))
  clear ho h hB hl hlen
  generalize sortG num l = S at *
  generalize l.length = n at *
  have h20 : ¬ (20 : Int) ≤ (n : Int) := by omega
  have h21 : ¬ (20 : Int) < (n : Int) := by omega
  go_enter Tryz.func94, Tryz.ntmps94
  go_wp2_with fail
  refine wp_loop_rounds 1 ?_
  rw [rounds_succ]
  go_wp2_with fail
  refine HI.out.mono ?_
  rintro e w' ⟨rfl, h1, h2⟩
  clear HI
  go_wp2_with fail
  refine wp_loop_rounds 1 ?_
  rw [rounds_succ]
  go_wp2_with fail
  go_end0
  exact ⟨rfl, h1, h2⟩
set_option maxHeartbeats 800000 in
theorem sortStableG_any {w : World} {N m : Nat} {D : DataW Value} {hd : Str → Value} {num : Str → List Int} (h : NumAt w N m D hd num) (hlen : ∀ id, (num id).length ≤ 100000) (B base c : Nat) (A : Option Addr) (l : List Str) (T : TypeId) (hB : w.heap[B]? = some (.cells #[.map (some N)] T (0, 0))) (hT : T ≠ 9) (ho : OwnStrs w base (.slice A l.length c) l) (hl : ∀ s ∈ l, s.length ≤ 1000) (hl2 : l.length < 20) :
    Calls Tryz.prog 65 #[.slice A l.length c, .func (.func 66) #[] #[.pointer (some ⟨B, 0, none⟩)]] w (SortGPost w base (.slice A l.length c) (sortG num l)) := by
  have HI := Lib.hid (stableG_any h hlen B base (.slice A l.length c) l T hB hT ho hl hl2)
  clear ho h hB hl hlen
  generalize sortG num l = S at *
  generalize l.length = n at *
  go_enter Tryz.func65, Tryz.ntmps65
  go_wp2_with fail
  refine HI.out.mono ?_
  rintro e w' ⟨rfl, h1, h2⟩
  go_wp2_with fail
  go_end0
  exact ⟨rfl, h1, h2⟩
end Go.Proofs.YtabdjkcediolcaaGreatDoor
