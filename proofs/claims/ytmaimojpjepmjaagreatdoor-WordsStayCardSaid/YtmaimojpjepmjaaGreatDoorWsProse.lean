
/-
  Prose and Changed, as functions of the numbers.
-/
import Derived.Test.YtmaimojpjepmjaaGreatDoorWsStream
import Derived.Test.YtmaimojpjepmjaaGreatDoorProse
namespace Go.Proofs.YtmaimojpjepmjaaGreatDoor
open Go.RowKit

def oneF (zs : List Int) (k : Nat) (ss : List ByteArray) : ByteArray := ss.getD (nextN zs k ss.length) ByteArray.empty
theorem oneF_mem (zs : List Int) (k : Nat) (ss : List ByteArray) (h : 1 ≤ ss.length) : oneF zs k ss ∈ ss := by
  have := nextN_lt zs k ss.length h
  unfold oneF
  rw [List.getD_eq_getElem?_getD, List.getElem?_eq_getElem this]
  exact List.getElem_mem _
/-- Words and what stands behind them, from the k-th number on. -/
def proseT (zs : List Int) (k : Nat) : Nat → ByteArray
  | 0 => ⟨#[]⟩
  | j + 1 => proseT zs k j ++ (oneF zs (k + 2 * j) proseWords ++ oneF zs (k + 2 * j + 1) proseSeps)
theorem proseT_size (zs : List Int) (k : Nat) : ∀ j, (proseT zs k j).size ≤ 6 * j
  | 0 => by simp [proseT, ByteArray.size]
  | j + 1 => by
    have h1 := proseWords_le _ (oneF_mem zs (k + 2 * j) proseWords (by decide))
    have h2 := proseSeps_le _ (oneF_mem zs (k + 2 * j + 1) proseSeps (by decide))
    have h3 := proseT_size zs k j
    simp only [proseT, ByteArray.size_append]; omega
def proseN (zs : List Int) (k most : Nat) : Nat := nextN zs k (most + 1)
def proseF (zs : List Int) (k most : Nat) : ByteArray := proseT zs (k + 1) (proseN zs k most)
theorem proseF_size (zs : List Int) (k most : Nat) : (proseF zs k most).size ≤ 6 * most ∧ proseN zs k most ≤ most := by
  have h := nextN_lt zs k (most + 1) (by omega)
  have h2 := proseT_size zs (k + 1) (nextN zs k (most + 1))
  unfold proseF proseN; omega
def ProseIs (w : World) (g : Nat) (A : Option Addr) (n c k : Nat) (zs : List Int) (most : Nat) (e : Ending) (w' : World) : Prop :=
  e = .returned (.string (proseF zs k most)) ∧ StreamIs w' g A n c (k + 1 + 2 * proseN zs k most) zs ∧ w.grownBy w' (some g)

set_option maxHeartbeats 800000 in
set_option maxRecDepth 100000 in
theorem prose_is (g : Nat) (A : Option Addr) (n c K : Nat) (zs : List Int) (most : Nat) (w : World) (hs : StreamIs w g A n c K zs) (hK : K ≤ 100000) (hm : most ≤ 1000) :
    Calls Tryz.prog 13 #[.pointer (some ⟨g, 0, none⟩), .int .i64 most] w (ProseIs w g A n c K zs most) := by
  have HX := Lib.hid (next_is g A n c K zs ((most : Int) + 1) w hs (by omega) (by omega))
  have hN := (proseF_size zs K most).2
  have HN : Hid (nextF zs K ((most : Int) + 1) = (proseN zs K most : Int)) := by
    show _ = _
    unfold proseN
    rw [← nextN_eq]; push_cast; rfl
  have HP : Hid (∀ e w', (e = Ending.returned (.string (proseT zs (K + 1) (proseN zs K most))) ∧ StreamIs w' g A n c (K + 1 + 2 * proseN zs K most) zs ∧ w.grownBy w' (some g)) → ProseIs w g A n c K zs most e w') := fun e w' h => h
  generalize proseN zs K most = N at *
  clear hs
  go_enter Tryz.func13, Tryz.ntmps13
  go_wp2_with fail
  refine HX.out.mono ?_
  rintro e w1 ⟨rfl, hs1, hg1⟩
  rw [HN.out]
  clear HX HN
  go_wp2_with fail
  go_loopw [5, 10] (fun t i wr => ∃ (k : Nat), k ≤ N ∧ i = .int .i64 k ∧ t = .string (proseT zs (K + 1) k) ∧ StreamIs wr g A n c (K + 1 + 2 * k) zs ∧ w.grownBy wr (some g)) (fun _ i _ => N - (intOf i).toNat)
  case atStart => exact ⟨0, Nat.zero_le _, rfl, rfl, hs1, hg1⟩
  case round =>
    obtain ⟨k, hk, rfl, rfl, hsr, hgr⟩ := hrel
    have hsz := proseT_size zs (K + 1) k
    by_cases hlt : k < N
    · have HT : Hid (proseT zs (K + 1) (k + 1) = proseT zs (K + 1) k ++ (oneF zs (K + 1 + 2 * k) proseWords ++ oneF zs (K + 1 + 2 * k + 1) proseSeps)) := rfl
      have hr1 := proseWords_le _ (oneF_mem zs (K + 1 + 2 * k) proseWords (by decide))
      have hr2 := proseSeps_le _ (oneF_mem zs (K + 1 + 2 * k + 1) proseSeps (by decide))
      have hgl := hsr.lt
      have e1 : oneF zs (K + 1 + 2 * k) proseWords = proseWords.getD (nextN zs (K + 1 + 2 * k) proseWords.length) ByteArray.empty := rfl
      have e2 : oneF zs (K + 1 + 2 * k + 1) proseSeps = proseSeps.getD (nextN zs (K + 1 + 2 * k + 1) proseSeps.length) ByteArray.empty := rfl
      have HE1 := Lib.hid e1; have HE2 := Lib.hid e2; clear e1 e2
      generalize proseT zs (K + 1) k = s at *
      go_wp2_with fail
      refine (one_is g A n c (K + 1 + 2 * k) zs proseWords wr.heap.size 11 11 _ (hsr.alloc _) (by omega) rfl (by omega) (by omega) (by omega) (fun j hj => cells_strings wr proseWords _ j hj)).mono ?_
      rintro e w2 ⟨rfl, hs2, hg2⟩
      rw [← HE1.out]
      generalize oneF zs (K + 1 + 2 * k) proseWords = r1 at *
      have hgl2 := hs2.lt
      go_wp2_with fail
      refine (one_is g A n c (K + 1 + 2 * k + 1) zs proseSeps w2.heap.size 8 8 _ (hs2.alloc _) (by omega) rfl (by omega) (by omega) (by omega) (fun j hj => cells_strings w2 proseSeps _ j hj)).mono ?_
      rintro e w3 ⟨rfl, hs3, hg3⟩
      rw [← HE2.out]
      generalize oneF zs (K + 1 + 2 * k + 1) proseSeps = r2 at *
      have hgf : w.grownBy w3 (some g) := grown_trans (grown_alloc (grown_trans (grown_alloc hgr _) hg2) _) hg3
      go_wp2_with fail
      go_roundw
      case rel => exact ⟨k + 1, by omega, by go_num, by rw [HT.out], hs3, hgf⟩
      case measure => simp [intOf]; omega
    · obtain rfl : k = N := by omega
      generalize proseT zs (K + 1) k = s at *
      go_wp2_with fail
      go_ret
      exact HP.out _ _ ⟨rfl, hsr, hgr⟩

/-- A text with a byte changed, added or removed. -/
def chgF (t : ByteArray) (i : Nat) (x r : Int) : ByteArray :=
  if r = 0 then t.extract 0 i ++ Utf8.encode x ++ t.extract (i + 1) t.size else if r = 1 then t.extract 0 i ++ Utf8.encode x ++ t.extract i t.size else t.extract 0 i ++ t.extract (i + 1) t.size
theorem chgF_size (t : ByteArray) (i : Nat) (x r : Int) (hi : i < t.size) : (chgF t i x r).size ≤ t.size + 4 := by
  have h1 := size_ch t i (i + 1) 0 x (by omega) (by omega)
  have h2 := size_ch t i i 0 x (by omega) (by omega)
  unfold chgF
  split
  · omega
  · split
    · omega
    · rw [ByteArray.size_append]; simp only [ByteArray.size_extract]; omega
def changedF (zs : List Int) (k : Nat) (t v : ByteArray) : ByteArray := if t.size = 0 then v else chgF t (nextN zs k t.size) (((v.data.getD (nextN zs (k + 1) v.size) 0).toNat : Nat) : Int) (nextF zs (k + 2) 3)
def changedK (k : Nat) (t : ByteArray) : Nat := if t.size = 0 then k else k + 3
theorem changedF_size (zs : List Int) (k : Nat) (t v : ByteArray) : (changedF zs k t v).size ≤ max (t.size + 4) v.size := by
  unfold changedF
  split
  · omega
  · have := chgF_size t (nextN zs k t.size) (((v.data.getD (nextN zs (k + 1) v.size) 0).toNat : Nat) : Int) (nextF zs (k + 2) 3) (nextN_lt _ _ _ (by omega))
    omega
theorem byte_wrap (v : ByteArray) (j : Nat) (h : j < v.size) : wrap32 (v[j].toNat : Int) = (((v.data.getD j 0).toNat : Nat) : Int) := by
  have e : v.data.getD j 0 = v[j] := by
    show v.data.getD j 0 = v.data[j]
    simp [Array.getD, h]
  rw [e]
  have := v[j].toNat_lt
  exact IntWalk.wrap32_in _ (by omega)
def ChangedIs (w : World) (g : Nat) (A : Option Addr) (n c k : Nat) (zs : List Int) (t v : ByteArray) (e : Ending) (w' : World) : Prop :=
  e = .returned (.string (changedF zs k t v)) ∧ StreamIs w' g A n c (changedK k t) zs ∧ w.grownBy w' (some g)

set_option maxHeartbeats 1600000 in
set_option maxRecDepth 100000 in
theorem changed_is (g : Nat) (A : Option Addr) (n c K : Nat) (zs : List Int) (t v : ByteArray) (w : World) (hs : StreamIs w g A n c K zs) (hK : K ≤ 100000) (ht : t.size ≤ 1000000) (hv : v.size ≤ 100) (hv0 : 0 < v.size) :
    Calls Tryz.prog 39 #[.pointer (some ⟨g, 0, none⟩), .string t, .string v] w (ChangedIs w g A n c K zs t v) := by
  have hve : v.toList.isEmpty = false := by
    rw [Lib.toList_data]; cases h : v.data.toList with
    | nil => have : v.data.toList.length = v.size := by simp
             rw [h] at this; simp at this; omega
    | cons => rfl
  have hvn : ¬ v.toList = [] := by intro e; rw [e] at hve; cases hve
  by_cases h0 : t.size = 0
  · have hte : t.toList = [] := by
      rw [Lib.toList_data]; exact List.eq_nil_of_length_eq_zero (by simpa using h0)
    have htm : t.toList.isEmpty = true := by rw [hte]; rfl
    have HP : Hid (∀ e w', (e = Ending.returned (.string v) ∧ StreamIs w' g A n c K zs ∧ w.grownBy w' (some g)) → ChangedIs w g A n c K zs t v e w') := fun e w' h => by
      unfold ChangedIs changedF changedK; rw [if_pos h0, if_pos h0]; exact h
    go_enter Tryz.func39, Tryz.ntmps39
    go_wp2_with fail
    go_ret
    exact HP.out _ _ ⟨rfl, hs, World.grownBy.refl _ _⟩
  · have hte : t.toList.isEmpty = false := by
      rw [Lib.toList_data]; cases h : t.data.toList with
      | nil => have : t.data.toList.length = t.size := by simp
               rw [h] at this; simp at this; omega
      | cons => rfl
    have htn : ¬ t.toList = [] := by intro e; rw [e] at hte; cases hte
    have HP : Hid (∀ e w', (e = Ending.returned (.string (chgF t (nextN zs K t.size) (((v.data.getD (nextN zs (K + 1) v.size) 0).toNat : Nat) : Int) (nextF zs (K + 2) 3))) ∧ StreamIs w' g A n c (K + 3) zs ∧ w.grownBy w' (some g)) → ChangedIs w g A n c K zs t v e w') := fun e w' h => by
      unfold ChangedIs changedF changedK; rw [if_neg h0, if_neg h0]; exact h
    have H1 := Lib.hid (fun wx (h : StreamIs wx g A n c K zs) => next_ns g A n c K zs t.size wx h (by omega) (by omega))
    have H2 := Lib.hid (fun wx (h : StreamIs wx g A n c (K + 1) zs) => next_ns g A n c (K + 1) zs v.size wx h (by omega) (by omega))
    have H3 : Hid (∀ wx (_ : StreamIs wx g A n c (K + 2) zs), Calls Tryz.prog 37 #[.pointer (some ⟨g, 0, none⟩), .int .i64 3] wx fun e w' => e = .returned (.int .i64 (nextF zs (K + 2) 3)) ∧ StreamIs w' g A n c (K + 2 + 1) zs ∧ wx.grownBy w' (some g)) := fun wx h => next_is g A n c (K + 2) zs 3 wx h (by omega) (by omega)
    have hi1 := nextN_lt zs K t.size (by omega)
    have hj1 := nextN_lt zs (K + 1) v.size (by omega)
    have hr0 := (nextF_range zs (K + 2) 3).1
    have hr1 := (nextF_range zs (K + 2) 3).2 (by omega)
    generalize nextN zs K t.size = i at *
    generalize nextN zs (K + 1) v.size = j at *
    generalize nextF zs (K + 2) 3 = r at *
    go_enter Tryz.func39, Tryz.ntmps39
    go_wp2_with fail
    refine (H1.out w hs).mono ?_
    rintro e w1 ⟨rfl, hs1, hg1⟩
    go_wp2_with fail
    refine (H2.out w1 hs1).mono ?_
    rintro e w2 ⟨rfl, hs2, hg2⟩
    go_wp2_with fail
    refine (H3.out w2 hs2).mono ?_
    rintro e w3 ⟨rfl, hs3, hg3⟩
    have hgf : w.grownBy w3 (some g) := grown_trans (grown_trans hg1 hg2) hg3
    clear hs hs1 hs2 hg1 hg2 hg3 H1 H2 H3
    have hw1 : IntKind.i64.wrap ((i : Int) + 1) = (i : Int) + 1 := IntWalk.i64_in _ (by omega)
    have hw2 : (0 : Int) ≤ (i : Int) + 1 := by omega
    have hw3 : ((i : Int) + 1).toNat = i + 1 := by omega
    have s1 := slice_to t i (by omega)
    have s2 := slice_from t i (i : Int) rfl (by omega)
    have s3 := slice_from t (i + 1) ((i : Int) + 1) (by omega) (by omega)
    have he : ∀ x : Int, (Utf8.encode x).size ≤ 4 := encode_size_le
    have p1 : ∀ (x : Int) (wx : World), (Op.stringOp .add (t.extract 0 i) (Utf8.encode x)).run Tryz.prog wx = .ok (.string (t.extract 0 i ++ Utf8.encode x)) wx := fun x wx => run_string_add_sum wx _ _ (by have := he x; simp only [ByteArray.size_extract]; omega)
    have p2 : ∀ (x : Int) (wx : World), (Op.stringOp .add (t.extract 0 i ++ Utf8.encode x) (t.extract (i + 1) t.size)).run Tryz.prog wx = .ok (.string (t.extract 0 i ++ Utf8.encode x ++ t.extract (i + 1) t.size)) wx := fun x wx => run_string_add_sum wx _ _ (by have := he x; simp only [ByteArray.size_append, ByteArray.size_extract]; omega)
    have p3 : ∀ (x : Int) (wx : World), (Op.stringOp .add (t.extract 0 i ++ Utf8.encode x) (t.extract i t.size)).run Tryz.prog wx = .ok (.string (t.extract 0 i ++ Utf8.encode x ++ t.extract i t.size)) wx := fun x wx => run_string_add_sum wx _ _ (by have := he x; simp only [ByteArray.size_append, ByteArray.size_extract]; omega)
    have p4 : ∀ (wx : World), (Op.stringOp .add (t.extract 0 i) (t.extract (i + 1) t.size)).run Tryz.prog wx = .ok (.string (t.extract 0 i ++ t.extract (i + 1) t.size)) wx := fun wx => run_string_add_sum wx _ _ (by simp only [ByteArray.size_extract]; omega)
    clear he
    by_cases hr : r = 0
    · subst hr
      have HC : Hid (∀ x, chgF t i x 0 = t.extract 0 i ++ Utf8.encode x ++ t.extract (i + 1) t.size) := fun x => by unfold chgF; rw [if_pos rfl]
      go_wp2_with fail
      go_quiet (fail)
      go_wp2_with fail
      go_ret
      refine HP.out _ _ ⟨?_, hs3.drew_ _, grown_drewN hgf _⟩
      rw [HC.out, ← byte_wrap v j hj1]
      rfl
    · by_cases hr2 : r = 1
      · subst hr2
        have HC : Hid (∀ x, chgF t i x 1 = t.extract 0 i ++ Utf8.encode x ++ t.extract i t.size) := fun x => by unfold chgF; rw [if_neg (by decide), if_pos rfl]
        go_wp2_with fail
        go_quiet (fail)
        go_wp2_with fail
        go_ret
        refine HP.out _ _ ⟨?_, hs3.drew_ _, grown_drewN hgf _⟩
        rw [HC.out, ← byte_wrap v j hj1]
        rfl
      · have q0 : (r == 0) = false := by simpa using hr
        have q1 : (r == 1) = false := by simpa using hr2
        have HC : Hid (∀ x, chgF t i x r = t.extract 0 i ++ t.extract (i + 1) t.size) := fun x => by unfold chgF; rw [if_neg hr, if_neg hr2]
        go_wp2_with fail
        go_quiet (fail)
        go_wp2_with fail
        go_ret
        exact HP.out _ _ ⟨by rw [HC.out]; rfl, hs3.drew_ _, grown_drewN hgf _⟩
end Go.Proofs.YtmaimojpjepmjaaGreatDoor
