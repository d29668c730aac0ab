
/-
  What shingles and Shingles return; nears.
-/
import Derived.Test.YtmaimojpjepmjaaGreatDoorNearWords
import Derived.Test.YtmaimojpjepmjaaGreatDoorBoth
import Derived.Sort.OwnSorted
namespace Go.Proofs.YtmaimojpjepmjaaGreatDoor
open Go.RowKit Go.Sort

def sortL (l : List (List UInt8)) : List (List UInt8) := l.mergeSort fun x y => decide (x ≤ y)
theorem sortL_length (l : List (List UInt8)) : (sortL l).length = l.length := by simp [sortL]
theorem strE_cells' (l : List (List UInt8)) : StrE.cells l = l.map encStr := by
  rw [strE_cells, List.map_map]; rfl
def SortPost (w : World) (base : Nat) (v : Value) (l : List (List UInt8)) (e : Ending) (w' : World) : Prop := e = .returned (.tuple #[]) ∧ OwnStrs w' base v l ∧ Below base w w'
theorem sortS_any (base : Nat) (v : Value) (l : List (List UInt8)) (w : World) (h : OwnStrs w base v l) (hl : l.length ≤ 100000) (hbs : base ≤ w.heap.size) :
    Calls Tryz.prog 83 #[v] w (SortPost w base v (sortL l)) := by
  rcases h.2 with ⟨rfl, hn⟩ | ⟨g, cap, cur, rfl, hbase, hb, h1, h2, h3, h4⟩
  · have : l = [] := List.eq_nil_of_length_eq_zero hn
    subst this
    refine (Tryz.slices_Sort_string_none none 0 w).mono ?_
    rintro e w' ⟨rfl, rfl⟩
    exact ⟨rfl, by rw [show sortL [] = [] by simp [sortL]]; exact Owns.nil _ _, Below.refl _ _⟩
  · have hH : Holds encStr w g 0 l.toArray := holds_of_block hb (by rw [show l.length * StrE.size = l.length from Nat.mul_one _, strE_cells'] at h4; exact h4)
    refine (Tryz.slices_Sort_string g 0 cap l w hH (Array.getElem?_eq_some_iff.1 hb).1 (by omega)).mono ?_
    rintro e w' ⟨rfl, nn, os, rfl⟩
    refine ⟨rfl, ?_, ?_⟩
    · unfold OwnStrs Owns
      rw [strE_cells', sortL_length]
      exact ownsRow_sorted (ss := l) (ts := sortL l) (sortL_length l) hbase hb h1 h2 h3
    · exact (Below.refl _ _).grown (grownBy_sorted _) hbs (fun j hj => by cases hj; exact hbase)

theorem own_shorter {w : World} {base : Nat} {A : Option Addr} {c : Nat} {l r : List (List UInt8)} (h : OwnStrs w base (.slice A (l ++ r).length c) (l ++ r)) (hp : A ≠ none ∨ c = 0) : OwnStrs w base (.slice A l.length c) l := by
  refine ⟨by rw [Elem.cells_length strE_ok], ?_⟩
  rcases h.2 with ⟨h0, hn⟩ | ⟨g, cap, cur, he, hbase, hb, h1, h2, h3, h4⟩
  · simp only [Value.slice.injEq] at h0
    obtain ⟨rfl, hl, rfl⟩ := h0
    have : l = [] := by rw [hl] at hn; rw [List.length_append] at hl; exact List.eq_nil_of_length_eq_zero (by omega)
    subst this
    exact .inl ⟨rfl, rfl⟩
  · simp only [Value.slice.injEq] at he
    obtain ⟨rfl, _, rfl⟩ := he
    refine .inr ⟨g, c, cur, rfl, hbase, hb, by rw [List.length_append] at h1; omega, h2, h3, ?_⟩
    rw [Elem.cells_append] at h4
    have h5 := congrArg (List.take (l.length * StrE.size)) h4
    rw [List.take_take, List.take_left' (by rw [Elem.cells_length strE_ok])] at h5
    rw [show min (l.length * StrE.size) ((l ++ r).length * StrE.size) = l.length * StrE.size by rw [List.length_append, Nat.add_mul]; omega] at h5
    exact h5

def CompactPost (w : World) (base : Nat) (l : List (List UInt8)) (e : Ending) (w' : World) : Prop := ∃ v, e = .returned v ∧ OwnStrs w' base v l ∧ Below base w w'
theorem compactS_any (base : Nat) (v : Value) (l : List (List UInt8)) (w : World) (h : OwnStrs w base v l) (hl : l.length ≤ 100000) (hbs : base ≤ w.heap.size) :
    Calls Tryz.prog 116 #[v] w (CompactPost w base (Lib.compact l)) := by
  rcases h.2 with ⟨rfl, hn⟩ | ⟨g, cap, cur, rfl, hbase, hb, h1, h2, h3, h4⟩
  · have : l = [] := List.eq_nil_of_length_eq_zero hn
    subst this
    refine (Tryz.slices_Compact_string_empty none 0 w).mono ?_
    rintro e w' ⟨rfl, rfl⟩
    exact ⟨_, rfl, Owns.nil _ _, Below.refl _ _⟩
  · have hH : Holds encStr w g 0 l.toArray := holds_of_block hb (by rw [show l.length * StrE.size = l.length from Nat.mul_one _, strE_cells'] at h4; exact h4)
    have hcl := Lib.compact_length_le l
    refine (Tryz.slices_Compact_string g 0 cap l w hH (by omega) h1).mono ?_
    rintro e w' ⟨rfl, nn, rfl⟩
    have hlen : (Lib.compact l ++ List.replicate (l.length - (Lib.compact l).length) []).length = l.length := by simp; omega
    have hg := ownsRow_sorted (n := nn) (os := #[]) (ss := l) (ts := Lib.compact l ++ List.replicate (l.length - (Lib.compact l).length) []) hlen hbase hb h1 h2 h3
    have hgr := grownBy_sorted (w := w) (g := g) (n := nn) (os := #[]) (Lib.compact l ++ List.replicate (l.length - (Lib.compact l).length) []).toArray
    rw [grow_empty] at hg hgr
    refine ⟨_, rfl, own_shorter (r := List.replicate (l.length - (Lib.compact l).length) []) ?_ (.inl (by simp)), (Below.refl _ _).grown hgr hbs (fun j hj => by cases hj; exact hbase)⟩
    unfold OwnStrs Owns
    rw [strE_cells', hlen]
    exact hg

def JoinSPost (w : World) (l : List (List UInt8)) (e : Ending) (w' : World) : Prop := e = .returned (.string (bag (Lib.join l [32]))) ∧ Below w.heap.size w w'
theorem bags_data (l : List (List UInt8)) : (l.map bag).map (·.data.toList) = l := by
  rw [List.map_map]
  have : ((fun b : ByteArray => b.data.toList) ∘ bag) = id := by funext x; exact bag_data x
  rw [this, List.map_id]
theorem joinS_any (A : Option Addr) (n c : Nat) (l : List (List UInt8)) (w : World) (h : StrsAt w A n c l) (h0 : 0 < n) (hn : n ≤ 100000) (hl : (Lib.join l [32]).length ≤ 1000000) :
    Calls Tryz.prog 28 #[.slice A n c, .string ⟨#[32]⟩] w (JoinSPost w l) := by
  obtain ⟨g, off, rfl, hg, hc⟩ := h.str h0
  have hnl := h.1
  subst hnl
  have hb := bags_data l
  refine ((show Calls _ _ #[.slice (some ⟨g, off, none⟩) l.length c, .string ⟨#[32]⟩] w _ from ?_))
  have hj := Tryz.strings_Join g off c (l.map bag) ⟨#[32]⟩ w (fun j x hx => by
    have hjl : j < (l.map bag).length := (List.getElem?_eq_some_iff.1 hx).1
    rw [h.bags j hjl, List.getD_eq_getElem?_getD, hx]; rfl) hg (by simp; omega) (by simp; exact h.2.1) (by rw [hb]; show (Lib.join l [32]).length ≤ _; omega)
  rw [hb, List.length_map] at hj
  exact hj

/-- The shingles of words, in their order. -/
def winL (W : List (List UInt8)) (k i : Nat) : List UInt8 := Lib.join ((W.drop i).take k) [32]
def winsTo (W : List (List UInt8)) (k m : Nat) : List (List UInt8) := (List.range m).map (winL W k)
theorem winsTo_succ (W : List (List UInt8)) (k m : Nat) : winsTo W k (m + 1) = winsTo W k m ++ [winL W k m] := by simp [winsTo, List.range_succ]
/-- The shingles of a string. -/
def shinL (L : List UInt8) (k : Nat) : List (List UInt8) := if (wordsL L).length = 0 then [] else Lib.compact (sortL (winsTo (wordsL L) (min k (wordsL L).length) ((wordsL L).length - min k (wordsL L).length + 1)))
theorem words_le (L : List UInt8) : (wordsL L).length ≤ L.length + 1 := by
  unfold wordsL wordsTo; rw [List.length_map]; exact scan_length L _

def ShinPost (w : World) (L : List UInt8) (k : Nat) (e : Ending) (w' : World) : Prop := ∃ v, e = .returned v ∧ OwnStrs w' w.heap.size v (shinL L k) ∧ Below w.heap.size w w'

set_option maxHeartbeats 3200000 in
set_option maxRecDepth 100000 in
theorem shingles_any (s : ByteArray) (k : Nat) (w : World) (hs : s.size ≤ 20000) (hk : 1 ≤ k) (hk2 : k ≤ 100) (hwl : ∀ i, (winL (wordsL s.data.toList) (min k (wordsL s.data.toList).length) i).length ≤ 1000000) :
    Calls Tryz.prog 85 #[.string s, .int .i64 k] w (ShinPost w s.data.toList k) := by
  have hwn := words_le s.data.toList
  have e1 : s.data.toList.length = s.size := by simp
  rw [e1] at hwn
  clear e1
  have HS : Hid (shinL s.data.toList k = if (wordsL s.data.toList).length = 0 then [] else Lib.compact (sortL (winsTo (wordsL s.data.toList) (min k (wordsL s.data.toList).length) ((wordsL s.data.toList).length - min k (wordsL s.data.toList).length + 1)))) := rfl
  have HWL := Lib.hid hwl; clear hwl
  go_enter Tryz.func85, Tryz.ntmps85
  go_wp2_with fail
  refine (words_any s w hs).mono ?_
  rintro e w1 ⟨v1, rfl, hown1, hb1⟩
  obtain ⟨A1, c1, rfl, q1, hat1, q2⟩ := hown1.at_ strE_ok
  clear q1 q2 hown1
  generalize wordsL s.data.toList = W at *
  have hz1 := hb1.size
  by_cases hW : W.length = 0
  · have hq : ((W.length : Int) == 0) = true := by simp; exact List.eq_nil_of_length_eq_zero hW
    rw [if_pos hW] at HS
    clear hW
    go_wp2_with fail
    go_ret
    exact ⟨_, rfl, by rw [HS.out]; exact Owns.nil _ _, hb1⟩
  · have hq : ((W.length : Int) == 0) = false := by simp; intro h; exact hW (by rw [h]; rfl)
    rw [if_neg hW] at HS
    obtain ⟨m, hm⟩ : ∃ m : Nat, m = min k W.length := ⟨_, rfl⟩
    rw [← hm] at HS HWL
    have hm1 : 1 ≤ m := by omega
    have hm2 : m ≤ W.length := by omega
    have hmi : min (k : Int) (W.length : Int) = (m : Int) := by omega
    clear hm
    obtain ⟨N, hN⟩ : ∃ N : Nat, N = W.length - m + 1 := ⟨_, rfl⟩
    rw [← hN] at HS
    have hNi : (W.length : Int) - (m : Int) + 1 = (N : Int) := by omega
    have hNm : N + m = W.length + 1 := by omega
    clear hN
    go_wp2_with fail
    go_loopg [6, 22] N (fun gk v i wr => ∃ j : Nat, Hid (j + gk = N) ∧ i = .int .i64 j ∧ OwnStrs wr w1.heap.size v (winsTo W m j) ∧ Below w1.heap.size w1 wr)
    case atStart => exact ⟨0, show 0 + N = N by omega, rfl, Owns.nil _ _, Below.refl _ _⟩
    case round =>
      obtain ⟨j, HJ, rfl, hown, hb⟩ := hrel
      have hjn : j ≤ N := by have := HJ.out; omega
      have HO := Lib.hid hown; clear hown
      have hzr := hb.size
      have hwj : (winsTo W m j).length = j := by simp [winsTo]
      have HWJ := Lib.hid hwj; clear hwj
      by_cases hlt : j < N
      · obtain ⟨A2, hs2, hp2⟩ := (hat1.keep hb).piece j (j + m) (by omega) (by omega)
        have hsl := sl_mid A1 W.length c1 j (j + m) (by omega) (by have := hat1.2.1; omega) _ hs2
        have ec : ((j + m : Nat) : Int) = (j : Int) + (m : Int) := by omega
        have el : j + m - j = m := by omega
        rw [ec, el] at hsl
        rw [el] at hp2
        clear ec el hs2
        have HP2 := Lib.hid hp2; clear hp2
        have HJW := Lib.hid (HWL.out j)
        have HSU := Lib.hid (winsTo_succ W m j)
        go_wp2_with fail
        refine (joinS_any A2 m (c1 - j) ((W.drop j).take m) wr HP2.out (by omega) (by omega) HJW.out).mono ?_
        rintro e w2 ⟨rfl, hb2⟩
        have HO2 : Hid (OwnStrs w2 w1.heap.size u6 (winsTo W m j)) := HO.out.below_ hb2
        have hb12 : Below w1.heap.size w1 w2 := hb.trans (hb2.mono hb.size)
        have hz2 := hb12.size
        have HWD : Hid (Lib.join ((W.drop j).take m) [32] = winL W m j) := rfl
        rw [HWD.out]
        clear HWD HJW
        generalize winL W m j = x at *
        go_wp2_with (at_builtin; refine append_elems strE_ok rfl _ _ rfl w1.heap.size _ (winsTo W m j) rfl (World.ownsRow.alloc HO2.out _) (some ⟨w2.heap.size, 0, none⟩) 1 1 [x] rfl (one_elem w2 x) (by rw [HWJ.out]; simp only [List.length_singleton]; omega) (by simp; omega) ?_; intro v' w4 hown4 hgrow4 _)
        have hb4 : Below w1.heap.size w1 w4 := (hb12.alloc hb12.size _).grown hgrow4 (by simp; omega) (fun i hi => (HO2.out.lt i hi).1)
        have HO4 := Lib.hid hown4; clear hown4
        go_wp2_with fail
        go_roundg (gk - 1)
        case measure => have := HJ.out; omega
        case rel => exact ⟨j + 1, show j + 1 + (gk - 1) = N by have := HJ.out; omega, by go_num, by rw [HSU.out]; exact HO4.out, hb4⟩
      · have hje : j = N := by omega
        rw [hje] at HO HWJ
        clear hje
        obtain ⟨A3, c3, rfl, q1, q2, q3⟩ := HO.out.at_ strE_ok
        clear q1 q2 q3
        rw [HWJ.out] at HO ⊢
        go_wp2_with fail
        refine (sortS_any w1.heap.size (.slice A3 N c3) (winsTo W m N) wr HO.out (by rw [HWJ.out]; omega) hzr).mono ?_
        rintro e w2 ⟨rfl, hown2, hb2⟩
        have hsl : (sortL (winsTo W m N)).length ≤ 100000 := by rw [sortL_length, HWJ.out]; omega
        have hb12 : Below w1.heap.size w1 w2 := hb.trans hb2
        go_wp2_with fail
        refine (compactS_any w1.heap.size (.slice A3 N c3) (sortL (winsTo W m N)) w2 hown2 hsl hb12.size).mono ?_
        rintro e w3 ⟨v3, rfl, hown3, hb3⟩
        go_wp2_with fail
        go_ret
        exact ⟨_, rfl, by rw [HS.out]; exact hown3.base_ hz1, hb1.trans ((hb12.trans hb3).mono hz1)⟩

end Go.Proofs.YtmaimojpjepmjaaGreatDoor
