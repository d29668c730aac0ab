
/-
  What base.Single returns.
-/
import Derived.Test.YtmaimojpjepmjaaGreatDoorOwnFn2
namespace Go.Proofs.YtmaimojpjepmjaaGreatDoor
open Go.RowKit

def keepN (L : List Str) : List Str := L.filter fun x => !x.isEmpty
theorem keepN_snoc (L : List Str) (x : Str) : keepN (L ++ [x]) = keepN L ++ (if x = [] then [] else [x]) := by
  unfold keepN
  rw [List.filter_append]
  congr 1
  cases x <;> simp
def singleL (L : Str) : Str := Lib.join (keepN (splitC 32 L)) [32]
theorem costT_keep (L : List Str) : costT (keepN L) ≤ costT L := by
  induction L with
  | nil => exact Nat.le_refl _
  | cons x L ih =>
    unfold keepN at ih ⊢
    rw [List.filter_cons, costT_cons]
    split
    · rw [costT_cons]; omega
    · omega
theorem keepN_len (L : List Str) : (keepN L).length ≤ L.length := List.length_filter_le _ _
theorem joinD_cost (d : UInt8) : ∀ (L : List Str), (Lib.join L [d]).length ≤ costT L
  | [] => by simp [Lib.join]
  | [x] => by simp [Lib.join, costT]
  | x :: y :: L => by
    have ih := joinD_cost d (y :: L)
    rw [costT_cons]
    simp only [Lib.join] at ih ⊢
    simp at ih ⊢
    omega
theorem costT_splitC (L : Str) (c : UInt8) : costT (splitC c L) = L.length + 1 := splitC_sum c L
theorem singleL_len (L : Str) : (singleL L).length ≤ L.length + 1 := by
  refine Nat.le_trans (joinD_cost 32 _) (Nat.le_trans (costT_keep _) ?_)
  rw [costT_splitC]
  exact Nat.le_refl _
def SinglePost (w : World) (J : Str) (e : Ending) (w' : World) : Prop := e = .returned (.string (bag J)) ∧ Below w.heap.size w w'
set_option maxHeartbeats 3200000 in
set_option maxRecDepth 100000 in
theorem single_any (s : ByteArray) (w : World) (hs : s.size ≤ 20000) (hM : MaxAt w) :
    Calls Tryz.prog 66 #[.string s] w (SinglePost w (singleL s.data.toList)) := by
  have HSP := Lib.hid (split_any s 32 w (by omega) hM)
  have hds : s.data.toList.length = s.size := by simp
  have HSU : Hid (costT (splitC 32 s.data.toList) ≤ 20001) := by show _ ≤ _; rw [costT_splitC]; omega
  have HLN : Hid ((splitC 32 s.data.toList).length ≤ 20001) := Nat.le_trans (Nat.le_add_left _ _) HSU.out
  have HJN : Hid (singleL s.data.toList = Lib.join (keepN (splitC 32 s.data.toList)) [32]) := rfl
  obtain ⟨l, hl⟩ : ∃ l, splitC 32 s.data.toList = l := ⟨_, rfl⟩
  have HL0 := Lib.hid hl
  rw [hl] at HSU HLN HJN
  clear hl
  generalize singleL s.data.toList = jn at *
  clear hds hM
  go_enter Tryz.func66, Tryz.ntmps66
  go_wp2_with fail
  refine HSP.out.mono ?_
  rintro e w2 ⟨A, n, c, rfl, hat, hb2, _⟩
  rw [HL0.out] at hat
  have HN := Lib.hid hat.1
  have hn1 : n ≤ 20001 := by have := HLN.out; have := hat.1; omega
  have HAT := Lib.hid hat
  have HB2 := Lib.hid hb2
  clear hat hb2 HSP
  go_wp2_with fail
  go_loopg [3, 9] n (fun gk v i wr => ∃ k : Nat, Hid (k + gk = n) ∧ i = .int .i64 (k : Int) ∧ Hid (OwnStrs wr w2.heap.size v (keepN (l.take k))) ∧ Hid (Below w2.heap.size w2 wr))
  case atStart => exact ⟨0, show 0 + n = n by omega, rfl, Owns.nil _ _, Below.refl _ _⟩
  case round =>
    obtain ⟨k, HK, rfl, HO, HB⟩ := hrel
    have hkn : k ≤ n := by have := HK.out; omega
    by_cases hlt : k < n
    · obtain ⟨x, hx⟩ : ∃ x, l[k]? = some x := ⟨_, List.getElem?_eq_getElem (by rw [← HN.out]; exact hlt)⟩
      obtain ⟨g, off, rfl, hg, hc⟩ := HAT.out.str (by omega)
      have hck := hc k hlt
      have hgd : l.getD k [] = x := by rw [List.getD_eq_getElem?_getD, hx]; rfl
      rw [hgd] at hck
      have d0 := (HB.out.cell (p := ⟨g, off + k, none⟩) hg).trans hck
      have HT := Lib.hid (take_next hx)
      have hbl : (keepN (l.take k)).length ≤ k := Nat.le_trans (keepN_len _) (List.length_take_le _ _)
      clear hc hck hgd hx
      have HSN : Hid (keepN (l.take (k + 1)) = keepN (l.take k) ++ (if x = [] then [] else [x])) := by show _ = _; rw [HT.out, keepN_snoc]
      have hz := HB.out.size
      cases x with
      | nil =>
        go_wp2_with fail
        go_roundg (gk - 1)
        case measure => have := HK.out; omega
        case rel => exact ⟨k + 1, show k + 1 + (gk - 1) = n by have := HK.out; omega, by go_num, by show Owns _ _ _ _ _; rw [HSN.out, if_pos trivial, List.append_nil]; exact HO.out, HB⟩
      | cons b x =>
        go_upto_region 6 with (fail)
        have HSN2 : Hid (keepN (l.take (k + 1)) = keepN (l.take k) ++ [b :: x]) := by show _ = _; rw [HSN.out, if_neg (by simp)]
        clear HSN
        generalize b :: x = y at *
        go_wp2_with (at_builtin; refine append_elems strE_ok rfl _ _ rfl w2.heap.size u3 (keepN (l.take k)) rfl (World.ownsRow.alloc HO.out _) (some ⟨wr.heap.size, 0, none⟩) 1 1 [y] rfl (one_elem (E := StrE) wr y) (by simp; omega) (by simp; omega) ?_; intro v5 w5 hown5 hgrow5 hv5; have HO5 := Lib.hid hown5; have HG5 : Hid ((wr.alloc (.cells #[.string ⟨y.toArray⟩] 9)).grownBy w5 u3.ownBlock) := hgrow5; clear hown5 hgrow5 hv5)
        have HB5 : Hid (Below w2.heap.size w2 w5) := (HB.out.alloc HB.out.size _).grown HG5.out (by simp; omega) (fun i e => (HO.out.lt i e).1)
        go_roundg (gk - 1)
        case measure => have := HK.out; omega
        case rel => exact ⟨k + 1, show k + 1 + (gk - 1) = n by have := HK.out; omega, by go_num, by show Owns _ _ _ _ _; rw [HSN2.out]; exact HO5.out, HB5⟩
    · have hall : l.take k = l := List.take_of_length_le (by have := HN.out; omega)
      have hnk : ¬ (k : Int) < (n : Int) := by omega
      rw [hall] at HO
      have hsum := Nat.le_trans (costT_keep l) HSU.out
      have hlen := Nat.le_trans (keepN_len l) HLN.out
      have hjl := Nat.le_trans (joinD_cost 32 (keepN l)) hsum
      generalize keepN l = KL at *
      obtain ⟨A7, c7, rfl, hc7, hat7, _⟩ := HO.out.at_ strE_ok
      have HJ := Lib.hid (joinC_any A7 KL.length c7 KL 32 wr hat7 (by omega) (by omega))
      have HBW := Lib.hid (HB2.out.trans (HB.out.mono HB2.out.size))
      have HJ2 : Hid (jn = Lib.join KL [32]) := HJN.out
      clear hat7 HO hsum hall hjl HAT HB2 HB hlt
      go_wp2_with fail
      refine HJ.out.mono ?_
      rintro e w9 ⟨rfl, hb9⟩
      have HB9 := Lib.hid (HBW.out.trans (hb9.mono HBW.out.size))
      clear hb9 HJ
      go_wp2_with fail
      go_ret
      exact ⟨by rw [HJ2.out]; rfl, HB9.out⟩
end Go.Proofs.YtmaimojpjepmjaaGreatDoor
