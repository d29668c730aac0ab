
/-
  What keys, twice and overlayError return.
-/
import Derived.Test.YtbipkkebkddegaaGreatDoorOvPlain
import Derived.Test.YtbipkkebkddegaaGreatDoorOverRows
import Derived.Test.YtbipkkebkddegaaGreatDoorSetMap
import Derived.BigQuiet
namespace Go.Proofs.YtbipkkebkddegaaGreatDoor
open Go.RowKit Go.Maps

def KeysPost (w : World) (T : List (List Str)) (e : Ending) (w' : World) : Prop := ∃ v, e = .returned v ∧ OwnStrs w' w.heap.size v (keysL T) ∧ Below w.heap.size w w'
set_option maxHeartbeats 1600000 in
set_option maxRecDepth 100000 in
theorem keys_any (A : Option Addr) (n c : Nat) (T : List (List Str)) (w : World) (h : TabAt w A n c T) (hn : n ≤ 1000) (h1 : 1 ≤ n) (hr : ∀ r ∈ T, 1 ≤ r.length) :
    Calls Tryz.prog 47 #[.slice A n c] w (KeysPost w T) := by
  obtain ⟨A1, hA1, hP0⟩ := h.piece 1 h1
  have hsl : ∀ wx : World, (Instr.slice 26 (.slice A n c) (some (.int .i64 1)) none none).run Tryz.prog wx = .ok (.slice A1 (n - 1) (c - 1)) wx := fun wx => sl_rows A n c 1 h1 _ hA1 wx
  obtain ⟨D, hD⟩ : ∃ D, D = T.drop 1 := ⟨_, rfl⟩
  have HKL : Hid (keysL T = D.map fun r => r.headD []) := by show _ = _; rw [hD]; rfl
  have HDR : Hid (∀ r ∈ D, 1 ≤ r.length) := fun r hm => hr r (by rw [hD] at hm; exact List.mem_of_mem_drop hm)
  obtain ⟨m, hm⟩ : ∃ m, m = n - 1 := ⟨_, rfl⟩
  rw [← hm] at hsl hP0
  rw [← hD] at hP0
  have HP := Lib.hid hP0
  have HDL := Lib.hid hP0.len
  have hm1 : m ≤ 1000 := by omega
  clear hP0 hD hm hA1 h hr
  go_enter Tryz.func47, Tryz.ntmps47
  go_wp2_with fail
  go_loopg [3, 9] m (fun gk v3 v9 wr => ∃ k : Nat, Hid (k + gk = m) ∧ v9 = .int .i64 (k : Int) ∧ Hid (OwnStrs wr w.heap.size v3 ((D.take k).map fun r => r.headD [])) ∧ Hid (Below w.heap.size w wr))
  case atStart => exact ⟨0, show 0 + m = m by omega, rfl, Owns.nil _ _, Below.refl _ _⟩
  case round =>
    obtain ⟨k, HK, rfl, HO, HW⟩ := hrel
    have hkm : k ≤ m := by have := HK.out; omega
    have hwz := HW.out.size
    by_cases hlt : k < m
    · obtain ⟨g, off, rfl, hg, hc⟩ := (TabAt.keep HP.out HW.out).row (by omega)
      obtain ⟨R, rn, rc, hck, hRow⟩ := hc k hlt
      have hkl : k < D.length := by have := HDL.out; omega
      have hgd : D.getD k [] = D[k] := by rw [List.getD_eq_getElem?_getD, List.getElem?_eq_getElem hkl]; rfl
      rw [hgd] at hRow
      have hr1 := HDR.out D[k] (List.getElem_mem hkl)
      have hrl := hRow.1
      have hrn : 0 < rn := by omega
      obtain ⟨g2, off2, rfl, hg2, hc2⟩ := hRow.str hrn
      have hc0 := hc2 0 hrn
      rw [Nat.add_zero] at hc0
      have hdl : ((D.take k).map fun r => r.headD []).length ≤ 1000 := by rw [List.length_map, List.length_take]; omega
      have HTK : Hid (((D.take (k + 1)).map fun r => r.headD []) = ((D.take k).map fun r => r.headD []) ++ [(D[k]).getD 0 []]) := by
        show _ = _
        rw [List.take_succ_eq_append_getElem hkl, List.map_append]
        simp only [List.map_cons, List.map_nil]
        congr 2
        cases D[k] <;> rfl
      clear hc hc2 hgd hr1 hrl hRow
      generalize (D[k]).getD 0 [] = x at *
      go_wp2_with (at_builtin; refine append_elems strE_ok rfl _ _ rfl w.heap.size _ _ rfl (World.ownsRow.alloc HO.out _) (some ⟨wr.heap.size, 0, none⟩) 1 1 [x] rfl (one_elem (E := StrE) wr x) (by simp only [List.length_singleton]; omega) (by simp; omega) ?_; intro v9 w9 hown9 hgrow9 _)
      have HO9 : Hid (OwnStrs w9 w.heap.size v9 ((D.take (k + 1)).map fun r => r.headD [])) := by show Owns _ _ _ _ _; rw [HTK.out]; exact hown9
      have HW9 : Hid (Below w.heap.size w w9) := (HW.out.alloc hwz _).grown hgrow9 (by simp; omega) (fun i hi => (HO.out.lt i hi).1)
      clear hown9 hgrow9
      go_wp2_with fail
      go_roundg (gk - 1)
      case measure => have := HK.out; omega
      case rel => exact ⟨k + 1, show k + 1 + (gk - 1) = m by have := HK.out; omega, by go_num, HO9.out, HW9.out⟩
    · have hnk : ¬ (k : Int) < (m : Int) := by omega
      have HF : Hid (KeysPost w T (.returned u3) wr) := ⟨u3, rfl, by
        have := HO.out
        rw [List.take_of_length_le (by rw [← HDL.out]; omega), ← HKL.out] at this
        exact this, HW.out⟩
      go_wp2_with fail
      go_ret
      exact HF.out
def TwicePost (w : World) (l : List Str) (e : Ending) (w' : World) : Prop := e = .returned (.bool (decide (¬ l.Nodup))) ∧ Below w.heap.size w w'
set_option maxHeartbeats 1600000 in
set_option maxRecDepth 100000 in
theorem twice_any (A : Option Addr) (n c : Nat) (l : List Str) (w : World) (h : StrsAt w A n c l) (hn : n ≤ 1000) (hs : ∀ s ∈ l, s.length ≤ 1000000) :
    Calls Tryz.prog 80 #[.slice A n c] w (TwicePost w l) := by
  have HN := Lib.hid h.1
  have HH := Lib.hid h
  have HS := Lib.hid hs
  have hmm := @run_makeMap Tryz.prog
  clear h hs
  go_enter Tryz.func80, Tryz.ntmps80
  go_wp2_with fail
  go_loopg [9] n (fun gk v9 wr => ∃ k : Nat, Hid (k + gk = n) ∧ v9 = .int .i64 (k : Int) ∧ Hid (SetAt wr w.heap.size (l.take k)) ∧ Hid ((l.take k).Nodup) ∧ Hid (Below w.heap.size w wr))
  case atStart => exact ⟨0, show 0 + n = n by omega, rfl, World.ownsMap_made w _ _ _, (show List.Nodup _ from List.nodup_nil), (Below.refl _ _).alloc (Nat.le_refl _) _⟩
  case round =>
    obtain ⟨k, HK, rfl, HM, HND, HW⟩ := hrel
    clear hmm
    have hkn : k ≤ n := by have := HK.out; omega
    have hwz := HW.out.size
    by_cases hlt : k < n
    · obtain ⟨g, off, rfl, hg, hc⟩ := (HH.out.keep HW.out).str (by omega)
      have hck := hc k hlt
      have hkl : k < l.length := by have := HN.out; omega
      obtain ⟨x, hx⟩ : ∃ x, l[k]? = some x := ⟨_, List.getElem?_eq_getElem hkl⟩
      have hgd : l.getD k [] = x := by rw [List.getD_eq_getElem?_getD, hx]; rfl
      rw [hgd] at hck
      have hxs := HS.out x (List.mem_of_getElem? hx)
      have hxb : (⟨x.toArray⟩ : ByteArray).size ≤ 1000000 := by simp [ByteArray.size]; exact hxs
      have hxd : (⟨x.toArray⟩ : ByteArray).data.toList = x := by simp
      have hlk := HM.out.look0 ⟨x.toArray⟩ hxb
      have hkey := keyS_mk ⟨x.toArray⟩ hxb
      rw [hxd] at hlk hkey
      have htl : (l.take k).length ≤ 1000 := by rw [List.length_take]; omega
      by_cases hm : x ∈ l.take k
      · have HF : Hid (decide (¬ l.Nodup) = true) := decide_eq_true (not_nodup_of hx hm)
        rw [show (l.take k).contains x = true by simpa using hm] at hlk
        clear hc hx hgd hm hxs hxd hkey
        go_wp2_with fail
        go_ret
        exact ⟨by (rw [HF.out]) <;> rfl, HW.out⟩
      · have HN2 := Lib.hid (nodup_take_succ hx HND.out hm)
        have HT2 : Hid (l.take (k + 1) = l.take k ++ [x]) := by
          obtain ⟨h1, h2⟩ := List.getElem?_eq_some_iff.1 hx
          show _ = _
          rw [List.take_succ_eq_append_getElem h1, h2]
        rw [show (l.take k).contains x = false by simpa using hm] at hlk
        clear hc hx hgd hm hxs hxd
        go_wp2_with (at_mapUpdate; refine wpList_mapUpdate_own _ rfl _ _ _ 117 rfl 9 4 keyS Tryz.underlying117 _ w.heap.size (l.take k).length _ rfl HM.out (by simp only [maxLen]; omega) _ _ (.string x) rfl rfl hkey (.lit (.bool true)) [] (plainElem_bool Tryz.underlying4 true) ?_; intro w5 hown5 hgrow5)
        have HM5 : Hid (SetAt w5 w.heap.size (l.take (k + 1))) := by
          show World.ownsMap _ _ _ _ _ _ _
          rw [HT2.out, setD_snoc, List.length_append]
          exact hown5
        have HW5 : Hid (Below w.heap.size w w5) := HW.out.grown hgrow5 hwz (fun i hi => by cases hi; exact Nat.le_refl _)
        clear hown5 hgrow5 hlk
        go_wp2_with fail
        go_roundg (gk - 1)
        case measure => have := HK.out; omega
        case rel => exact ⟨k + 1, show k + 1 + (gk - 1) = n by have := HK.out; omega, by go_num, HM5.out, HN2.out, HW5.out⟩
    · have hnk : ¬ (k : Int) < (n : Int) := by omega
      have HF : Hid (decide (¬ l.Nodup) = false) := by
        have := HND.out
        rw [List.take_of_length_le (by rw [← HN.out]; omega)] at this
        exact decide_eq_false (fun h => h this)
      go_wp2_with fail
      go_ret
      exact ⟨by (rw [HF.out]) <;> rfl, HW.out⟩
theorem first_3' (a b c : Int) (w : World) (t : TypeId) : Calls Tryz.prog 52 #[.slice (some ⟨w.heap.size, 0, none⟩) 3 3] (w.alloc (.cells #[.int .i64 a, .int .i64 b, .int .i64 c] t)) fun e w' => e = .returned (.int .i64 (firstE [a, b, c])) ∧ (w.alloc (.cells #[.int .i64 a, .int .i64 b, .int .i64 c] t)) = w' := by
  refine first_any w.heap.size 3 3 [a, b, c] _ rfl (by omega) (fun j hj => ?_)
  rw [World.cell?_alloc_at _ _ _ _ rfl]
  match j, hj with
  | 0, _ => rfl
  | 1, _ => rfl
  | 2, _ => rfl
theorem firstE_3 (a b c : Int) : firstE [a, b, c] = 0 ↔ a = 0 ∧ b = 0 ∧ c = 0 := by
  simp only [firstE]
  by_cases h1 : a = 0 <;> by_cases h2 : b = 0 <;> by_cases h3 : c = 0 <;> simp [h1, h2, h3]
/-- The keys and the heads of a table are different. -/
def DiffT (T : Tab) : Prop := (T.headD []).Nodup ∧ (keysL T).Nodup
theorem ovPre_of {b o : Tab} (hb : rowsOk b) (ho : rowsOk o) (h1 : b ≠ []) (h2 : o ≠ []) (h3 : DiffT b) (h4 : DiffT o) : OvPre b o ↔ (b.headD []).headD [] = (o.headD []).headD [] :=
  ⟨fun h => h.first, fun h => ⟨hb, ho, h1, h2, h3.1, h3.2, h4.1, h4.2, h⟩⟩
def OvePost (w : World) (b o : Tab) (e : Ending) (w' : World) : Prop := ∃ z : Int, e = .returned (.int .i64 z) ∧ (z = 0 ↔ OvPre b o) ∧ Below w.heap.size w w'
end Go.Proofs.YtbipkkebkddegaaGreatDoor
