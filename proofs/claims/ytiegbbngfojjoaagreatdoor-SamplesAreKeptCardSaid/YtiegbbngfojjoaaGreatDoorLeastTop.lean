
/-
  What least and Least return: memory of their own.
-/
import Derived.Test.YtiegbbngfojjoaaGreatDoorLeastSort
import Derived.Test.YtiegbbngfojjoaaGreatDoorPartErr
namespace Go.Proofs.YtiegbbngfojjoaaGreatDoor
open Go.RowKit Go.Sort
attribute [local go_sem ↓] Go.wp_at_zero Go.wp_at_succ

def sortLN (l : List (List UInt8)) : List (List UInt8) := l.mergeSort fun x y => decide (x ≤ y)
theorem sortLN_length (l : List (List UInt8)) : (sortLN l).length = l.length := by simp [sortLN]
def SortNPost (w : World) (base : Nat) (v : Value) (l : List (List UInt8)) (e : Ending) (w' : World) : Prop := e = .returned (.tuple #[]) ∧ OwnStrs w' base v l ∧ Below base w w'
theorem sortN_any (base : Nat) (v : Value) (l : List (List UInt8)) (w : World) (h : OwnStrs w base v l) (hl : l.length ≤ 100000) (hbs : base ≤ w.heap.size) :
    Calls Tryz.prog 27 #[v] w (SortNPost w base v (sortLN l)) := by
  rcases h.2 with ⟨rfl, hn⟩ | ⟨g, cap, cur, rfl, hbase, hb, h1, h2, h3, h4⟩
  · have : l = [] := List.eq_nil_of_length_eq_zero hn
    subst this
    refine (Tryz.slices_Sort_string_none none 0 w).mono ?_
    rintro e w' ⟨rfl, rfl⟩
    exact ⟨rfl, by rw [show sortLN [] = [] by simp [sortLN]]; exact Owns.nil _ _, Below.refl _ _⟩
  · have hH : Holds encStr w g 0 l.toArray := holds_of_block hb (by rw [show l.length * StrE.size = l.length from Nat.mul_one _, strE_cellsN] at h4; exact h4)
    refine (Tryz.slices_Sort_string g 0 cap l w hH (Array.getElem?_eq_some_iff.1 hb).1 (by omega)).mono ?_
    rintro e w' ⟨rfl, nn, os, rfl⟩
    refine ⟨rfl, ?_, ?_⟩
    · unfold OwnStrs Owns
      rw [strE_cellsN, sortLN_length]
      exact ownsRow_sorted (ss := l) (ts := sortLN l) (sortLN_length l) hbase hb h1 h2 h3
    · exact (Below.refl _ _).grown (grownBy_sorted _) hbs (fun j hj => by cases hj; exact hbase)
theorem sl_up {w : World} {base n c j : Nat} {A : Option Addr} {l : List (List UInt8)} (h : OwnStrs w base (.slice A n c) l) (hj : j ≤ n) (wx : World) : (Instr.slice 32 (.slice A n c) none (some (.int .i64 (j : Int))) none).run Tryz.prog wx = .ok (.slice A j c) wx := by
  rcases h.2 with ⟨e, hn⟩ | ⟨g, cap, cur, e, hbase, hb, h1, h2, h3, h4⟩
  · simp only [Value.slice.injEq] at e
    obtain ⟨rfl, rfl, rfl⟩ := e
    obtain rfl : j = 0 := by omega
    rw [run_slice_h wx 32 none 0 0 und_strs .i64 ((0 : Nat) : Int) (by omega) (by omega), elem_strs, Tryz.sizeOf9]
    rfl
  · simp only [Value.slice.injEq] at e
    obtain ⟨rfl, rfl, rfl⟩ := e
    rw [run_slice_h wx 32 (some ⟨g, 0, none⟩) l.length c und_strs .i64 (j : Int) (by omega) (by omega), elem_strs, Tryz.sizeOf9]
    simp only [Result.andThen, sliced, Int.toNat_natCast]
    split <;> simp [addr_add]
def LeastFPost (w : World) (n : Nat) (e : Ending) (w' : World) : Prop := ∃ v l', e = .returned v ∧ OwnStrs w' w.heap.size v l' ∧ l'.length ≤ n ∧ Below w.heap.size w w'
set_option maxHeartbeats 1600000 in
set_option maxRecDepth 100000 in
theorem leastF_any (A : Option Addr) (n c m : Nat) (l : List (List UInt8)) (w : World) (h : StrsAt w A n c l) (hn : n ≤ 100) (hk : ∀ x ∈ l, x.length ≤ 1000) (_hm : m ≤ 2000) :
    Calls Tryz.prog 75 #[.slice A n c, .string ⟨#[111, 110, 101]⟩, .int .i64 (m : Int)] w (LeastFPost w n) := by
  obtain rfl : n = l.length := h.1
  have HH := Lib.hid h
  have HK := Lib.hid hk
  clear h hk
  go_enter Tryz.func75, Tryz.ntmps75
  go_upto_region 1 with (fail)
  have hp := heap_alloc_new w (.cells #[.string ⟨#[111, 110, 101]⟩] 9)
  have hB : Below w.heap.size w (w.alloc (.cells #[.string ⟨#[111, 110, 101]⟩] 9)) := (Below.refl _ _).alloc (Nat.le_refl _) _
  have hz1 : (w.alloc (.cells #[.string ⟨#[111, 110, 101]⟩] 9)).heap.size = w.heap.size + 1 := by simp
  generalize w.alloc (.cells #[.string ⟨#[111, 110, 101]⟩] 9) = w1 at *
  have hc1 : w1.cell? ⟨w.heap.size, 0, none⟩ = some (.string ⟨#[111, 110, 101]⟩) := by rw [cell_of_row w1 _ 0 _ _ _ hp]; rfl
  have HC1 := Lib.hid hc1
  have HZ1 := Lib.hid hz1
  have HCL := Lib.hid (clone_any A l.length c l w1 (HH.out.keep hB) (by omega))
  have HB := Lib.hid hB
  clear hp hB hz1 hc1
  go_wp2_with fail
  refine HCL.out.mono ?_
  rintro e w2 ⟨v2, rfl, hown, hb2⟩
  obtain ⟨A2, c2, rfl, hc2, _, _⟩ := hown.at_ strE_ok
  have HS := Lib.hid (sortF_any w1.heap.size c2 w.heap.size A2 l w2 hown HK.out (by omega) ((hb2.cell (p := ⟨w.heap.size, 0, none⟩) (by rw [HZ1.out]; exact Nat.lt_succ_self _)).trans HC1.out) (by rw [HZ1.out]; exact Nat.lt_succ_self _) hb2.size)
  have HB2 := Lib.hid hb2
  clear hown hb2 HCL hc2
  go_wp2_with fail
  refine HS.out.mono ?_
  rintro e w3 ⟨rfl, l3, hl3, ho3, hb3⟩
  obtain ⟨j, hj⟩ : ∃ j : Nat, j = min m l.length := ⟨_, rfl⟩
  have hjl : j ≤ l.length := by omega
  have hsl := fun wx => sl_up ho3 hjl wx
  rw [show (j : Int) = min (m : Int) (l.length : Int) by omega] at hsl
  have ho4 := Owns.shrink ho3 j (by omega)
  have hbs : w1.heap.size ≤ w3.heap.size := Nat.le_trans HB2.out.size hb3.size
  have htl : (l3.take j).length ≤ 100000 := by rw [List.length_take]; omega
  have HSN := Lib.hid (sortN_any w1.heap.size _ _ w3 ho4 htl hbs)
  have HB3 : Hid (Below w1.heap.size w1 w3) := HB2.out.trans hb3
  have HLT : Hid ((sortLN (l3.take j)).length ≤ l.length) := by show _ ≤ _; rw [sortLN_length, List.length_take]; omega
  clear ho3 ho4 hb3 HS hbs htl hj
  go_wp2_with fail
  refine HSN.out.mono ?_
  rintro e w4 ⟨rfl, ho5, hb5⟩
  have HF : Hid (LeastFPost w l.length (.returned (.slice A2 j c2)) w4) := ⟨_, _, rfl, ho5.base_ HB.out.size, HLT.out, HB.out.trans ((HB3.out.trans hb5).mono HB.out.size)⟩
  clear ho5 hb5 hsl HSN
  go_wp2_with fail
  go_ret
  exact HF.out
theorem manyS_ok (v : Nat) (h : v ≤ 2000) (w : World) : Calls Tryz.prog 74 #[.int .i64 (v : Int)] w fun e w' => e = .returned (.int .i64 0) ∧ w' = w := by
  have hi := in_any (v : Int) 0 2000 w
  rw [inB_in _ _ _ (by omega) (by omega)] at hi
  go_enter Tryz.func74, Tryz.ntmps74
  go_wp2_with fail
  refine hi.mono ?_
  rintro e w' ⟨rfl, hw⟩
  obtain rfl := hw
  go_wp2_with fail
  refine (when_any false 1 w).mono ?_
  rintro e w' ⟨rfl, hw⟩
  obtain rfl := hw
  go_wp2_with fail
  go_ret
  exact ⟨rfl, rfl⟩
def LeastTopPost (w : World) (n : Nat) (e : Ending) (w' : World) : Prop := ∃ v l', e = .returned (.tuple #[v, .int .i64 0]) ∧ OwnStrs w' w.heap.size v l' ∧ l'.length ≤ n ∧ Below w.heap.size w w'
set_option maxHeartbeats 1600000 in
set_option maxRecDepth 100000 in
theorem leastTop_any (A : Option Addr) (n c m : Nat) (l : List (List UInt8)) (w : World) (h : StrsAt w A n c l) (hn : n ≤ 100) (hk : ∀ x ∈ l, keyL x = true) (hr : Rising l) (hm : m ≤ 2000) :
    Calls Tryz.prog 31 #[.slice A n c, .string ⟨#[111, 110, 101]⟩, .int .i64 (m : Int)] w (LeastTopPost w n) := by
  have HI := Lib.hid (idsError_ok A n c l w h (by omega) hk hr)
  have HKO := Lib.hid (fun w => keyError_ok ⟨#[111, 110, 101]⟩ w (by decide +kernel))
  have HM := Lib.hid (fun w => manyS_ok m hm w)
  have HL := Lib.hid (fun wx (hb : Below w.heap.size w wx) => leastF_any A n c m l wx (h.keep hb) hn (fun x hx => by have := keyL_len (hk x hx); omega) hm)
  clear h hk hr
  go_enter Tryz.func31, Tryz.ntmps31
  go_wp2_with fail
  refine HI.out.mono ?_
  rintro e w1 ⟨rfl, hb1⟩
  have HB1 := Lib.hid hb1
  clear hb1
  go_wp2_with fail
  refine (HKO.out _).mono ?_
  rintro e w' ⟨rfl, hw⟩
  obtain rfl := hw
  go_wp2_with fail
  refine (HM.out _).mono ?_
  rintro e w'' ⟨rfl, hw⟩
  obtain rfl := hw
  go_wp2_with fail
  refine (first_3z _ _ rfl _).mono ?_
  rintro e w2 ⟨rfl, hw⟩
  subst hw
  have HB2 := Lib.hid (HB1.out.alloc HB1.out.size (.cells #[.int .i64 0, .int .i64 0, .int .i64 0] 29))
  go_wp2_with fail
  refine (HL.out _ HB2.out).mono ?_
  rintro e w3 ⟨v, l', rfl, ho, hl', hb3⟩
  have HF : Hid (LeastTopPost w n (.returned (.tuple #[v, .int .i64 0])) w3) := ⟨v, l', rfl, ho.base_ HB2.out.size, hl', HB2.out.trans (hb3.mono HB2.out.size)⟩
  clear ho hl' hb3
  go_wp2_with fail
  go_ret2
  exact HF.out
end Go.Proofs.YtiegbbngfojjoaaGreatDoor
