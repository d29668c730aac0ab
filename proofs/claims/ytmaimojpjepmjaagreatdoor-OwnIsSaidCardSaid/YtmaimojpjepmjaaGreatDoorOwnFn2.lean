
/-
  What Own returns.
-/
import Derived.Test.YtmaimojpjepmjaaGreatDoorOwnFn
namespace Go.Proofs.YtmaimojpjepmjaaGreatDoor
open Go.RowKit

theorem sl_toS (B : Option Addr) (m d j : Nat) (hj : j ≤ d) (V : Value) (h : sliced B 0 j d StrE.size = V) (wx : World) : (Instr.slice 29 (.slice B m d) none (some (.int .i64 (j : Int))) none).run Tryz.prog wx = .ok V wx := by
  rw [run_slice_h (P := Tryz.prog) (w := wx) (t := 29) (a := B) (len := m) (cap := d) (ht := und_strs) (kh := .i64) (h := (j : Int)) (h0 := by omega) (h2 := by omega), elem_strs, Tryz.sizeOf9]
  show Result.ok (sliced B 0 ((j : Int)).toNat d 1) wx = _
  rw [Int.toNat_natCast, ← h]; rfl
/-- The texts that stand without signs. -/
def bareQ (l : List Qt) : List (List UInt8) := (l.filter fun q => q.1 == 0).map fun q => q.2.1
theorem bareQ_snoc (l : List Qt) (q : Qt) : bareQ (l ++ [q]) = bareQ l ++ (if q.1 = 0 then [q.2.1] else []) := by
  unfold bareQ
  rw [List.filter_append, List.map_append]
  congr 1
  by_cases h : q.1 = 0 <;> simp [h]
theorem bareQ_len (l : List Qt) : (bareQ l).length ≤ l.length := by
  unfold bareQ
  rw [List.length_map]
  exact List.length_filter_le _ _
/-- Lines that are ended. -/
def endL (L : List (List UInt8)) : List UInt8 := if L = [] then [] else Lib.join L [10] ++ [10]
theorem apartQ_texts : ∀ D, (apartQ D).map (fun q => q.2.1) = D.map (fun p => p.2)
  | [] => rfl
  | p :: r => by
    simp only [apartQ, List.map_cons, apartQ_texts r, oneQ_text]
/-- How many bytes lines have, with their ends. -/
def costT (L : List (List UInt8)) : Nat := (L.map List.length).sum + L.length
theorem costT_cons (x : List UInt8) (L : List (List UInt8)) : costT (x :: L) = x.length + 1 + costT L := by simp [costT]; omega
theorem costT_strip : ∀ L : List (List UInt8), costT ((L.map strip).map fun p => p.2) ≤ costT L
  | [] => Nat.le_refl _
  | x :: L => by
    have ih := costT_strip L
    have h := strip_len x.length x (Nat.le_refl _)
    simp only [List.map_cons, costT_cons]
    omega
theorem costT_lines (l : List UInt8) : costT (lineL l) ≤ l.length := lineL_sum l
theorem costT_bare (l : List Qt) : costT (bareQ l) ≤ costT (l.map fun q => q.2.1) := by
  induction l with
  | nil => exact Nat.le_refl _
  | cons q l ih =>
    have e : bareQ (q :: l) = (if q.1 = 0 then [q.2.1] else []) ++ bareQ l := by
      unfold bareQ
      by_cases h0 : q.1 = 0 <;> simp [h0]
    rw [e, List.map_cons, costT_cons]
    by_cases h0 : q.1 = 0
    · rw [if_pos h0, List.singleton_append, costT_cons]; omega
    · rw [if_neg h0, List.nil_append]; omega
theorem costT_own (l : List UInt8) : costT (bareQ (apartL l)) ≤ l.length := by
  refine Nat.le_trans (costT_bare _) ?_
  unfold apartL
  rw [apartQ_texts]
  exact Nat.le_trans (costT_strip _) (costT_lines l)
theorem costT_take (L : List (List UInt8)) (m : Nat) : costT (L.take m) ≤ costT L := by
  conv => rhs; rw [← List.take_append_drop m L]
  simp only [costT, List.map_append, List.sum_append, List.length_append]
  omega
theorem costT_mem {L : List (List UInt8)} {x : List UInt8} (h : x ∈ L) : x.length ≤ costT L := by
  have := le_sum_len L x h
  unfold costT
  omega
theorem join_cost : ∀ (L : List (List UInt8)), L ≠ [] → (Lib.join L [10]).length + 1 ≤ costT L
  | [], h => absurd rfl h
  | [x], _ => by simp [Lib.join, costT]
  | x :: y :: L, _ => by
    have ih := join_cost (y :: L) (by simp)
    rw [costT_cons]
    simp only [Lib.join] at ih ⊢
    simp at ih ⊢
    omega
theorem endL_len (L : List (List UInt8)) : (endL L).length ≤ costT L := by
  unfold endL
  by_cases h : L = []
  · rw [if_pos h]; exact Nat.zero_le _
  · rw [if_neg h]
    have h2 := join_cost L h
    simp
    omega
def OwnPost (w : World) (K : List (List UInt8)) (e : Ending) (w' : World) : Prop := ∃ m, m ≤ K.length ∧ e = .returned (.tuple #[.string (bag (endL (K.take m))), .int .i64 0]) ∧ Below w.heap.size w w'
set_option maxHeartbeats 3200000 in
set_option maxRecDepth 100000 in
theorem own_any (s : ByteArray) (w : World) (h : BodyOk s w) :
    Calls Tryz.prog 6 #[.string s] w (OwnPost w (bareQ (apartL s.data.toList))) := by
  have HCB := Lib.hid (checkBody_any s w (by have := h.size; omega) h.tabs h.text)
  have HAP := Lib.hid (fun wx (hx : BodyOk s wx) => apart_any s wx hx.size hx.max hx.endd)
  have hab := apartL_bound s.data.toList (by have := h.size; simpa using this)
  have HCO : Hid (costT (bareQ (apartL s.data.toList)) ≤ 1000) := Nat.le_trans (costT_own _) (by have := h.size; simpa using this)
  have HOK := Lib.hid h
  clear h
  generalize apartL s.data.toList = l at *
  have HAB := Lib.hid hab
  clear hab
  go_enter Tryz.func6, Tryz.ntmps6
  go_wp2_with fail
  refine HCB.out.mono ?_
  rintro e w1 ⟨rfl, hb1⟩
  have HB1 := Lib.hid hb1
  clear hb1 HCB
  go_wp2_with fail
  refine (HAP.out w1 (HOK.out.below HB1.out)).mono ?_
  rintro e w2 ⟨A, n, c, rfl, hat, hb2⟩
  have HN := Lib.hid hat.1
  have hn1 : n ≤ 1000 := by have := HAB.out.1; have := hat.1; omega
  have HAT := Lib.hid hat
  have HB2 := Lib.hid (HB1.out.trans (hb2.mono HB1.out.size))
  clear hat hb2 HAP
  go_wp2_with fail
  go_loopg [5, 16] n (fun gk v i wr => ∃ k : Nat, Hid (k + gk = n) ∧ i = .int .i64 (k : Int) ∧ Hid (OwnStrs wr w2.heap.size v (bareQ (l.take k))) ∧ Hid (Below w2.heap.size w2 wr))
  case atStart => exact ⟨0, show 0 + n = n by omega, rfl, Owns.nil _ _, Below.refl _ _⟩
  case round =>
    obtain ⟨k, HK, rfl, HO, HB⟩ := hrel
    have hkn : k ≤ n := by have := HK.out; omega
    by_cases hlt : k < n
    · obtain ⟨q, hq⟩ : ∃ q, l[k]? = some q := ⟨_, List.getElem?_eq_getElem (by rw [← HN.out]; exact hlt)⟩
      have hqb := HAB.out.2 q (List.mem_of_getElem? hq)
      obtain ⟨g, off, rfl, hg, c0, c1, c2⟩ := HAT.out.q hq
      have d0 := (HB.out.cell (p := ⟨g, off + k * 3, none⟩) hg).trans c0
      have d1 := (HB.out.cell (p := ⟨g, off + k * 3 + 1, none⟩) hg).trans c1
      have d2 := (HB.out.cell (p := ⟨g, off + k * 3 + 2, none⟩) hg).trans c2
      have HT := Lib.hid (take_next hq)
      have hbl : (bareQ (l.take k)).length ≤ k := Nat.le_trans (bareQ_len _) (List.length_take_le _ _)
      clear c0 c1 c2 hq
      obtain ⟨qd, qt, qb⟩ := q
      simp only at hqb d0 d1 d2
      have HSN : Hid (bareQ (l.take (k + 1)) = bareQ (l.take k) ++ (if qd = 0 then [qt] else [])) := by show _ = _; rw [HT.out, bareQ_snoc]
      have hba : Below w2.heap.size w2 (wr.alloc (.cells #[.int .i64 (qd : Int), .string ⟨qt.toArray⟩, .bool qb] 76)) := HB.out.alloc HB.out.size _
      have HO1 : Hid (OwnStrs (wr.alloc (.cells #[.int .i64 (qd : Int), .string ⟨qt.toArray⟩, .bool qb] 76)) w2.heap.size u5 (bareQ (l.take k))) := World.ownsRow.alloc HO.out _
      have hz := HB.out.size
      have hz1 : w2.heap.size ≤ (wr.alloc (.cells #[.int .i64 (qd : Int), .string ⟨qt.toArray⟩, .bool qb] 76)).heap.size := by simp; omega
      have hx0 : (wr.alloc (.cells #[.int .i64 (qd : Int), .string ⟨qt.toArray⟩, .bool qb] 76)).cell? ⟨wr.heap.size, 0, none⟩ = some (.int .i64 (qd : Int)) := by rw [World.cell?_alloc_at _ _ _ _ rfl]; rfl
      have hx1 : (wr.alloc (.cells #[.int .i64 (qd : Int), .string ⟨qt.toArray⟩, .bool qb] 76)).cell? ⟨wr.heap.size, 1, none⟩ = some (.string ⟨qt.toArray⟩) := by rw [World.cell?_alloc_at _ _ _ _ rfl]; rfl
      have HBA := Lib.hid hba
      clear hba
      go_upto_region 8 with (fail)
      clear HO d0 d1 d2
      generalize wr.alloc (.cells #[.int .i64 (qd : Int), .string ⟨qt.toArray⟩, .bool qb] 76) = w4 at *
      by_cases h0 : qd = 0
      · have h0i : ((qd : Int) == 0) = true := by simp; exact h0
        have HZ0 := Lib.hid h0
        clear h0
        go_wp2_with (at_builtin; refine append_elems strE_ok rfl _ _ rfl w2.heap.size u5 (bareQ (l.take k)) rfl (World.ownsRow.alloc HO1.out _) (some ⟨w4.heap.size, 0, none⟩) 1 1 [qt] rfl (one_elem (E := StrE) w4 qt) (by simp; omega) (by simp; omega) ?_; intro v5 w5 hown5 hgrow5 hv5; have HO5 := Lib.hid hown5; have HG5 : Hid ((w4.alloc (.cells #[.string ⟨qt.toArray⟩] 9)).grownBy w5 u5.ownBlock) := hgrow5; clear hown5 hgrow5 hv5)
        have HB5 : Hid (Below w2.heap.size w2 w5) := (HBA.out.alloc HBA.out.size _).grown HG5.out (by simp; omega) (fun i e => (HO1.out.lt i e).1)
        go_roundg (gk - 1)
        case measure => have := HK.out; omega
        case rel => exact ⟨k + 1, show k + 1 + (gk - 1) = n by have := HK.out; omega, by go_num, by show Owns _ _ _ _ _; rw [HSN.out, if_pos HZ0.out]; exact HO5.out, HB5⟩
      · have h0i : ((qd : Int) == 0) = false := by simp; exact h0
        have HZ0 := Lib.hid h0
        clear h0
        go_wp2_with fail
        go_roundg (gk - 1)
        case measure => have := HK.out; omega
        case rel => exact ⟨k + 1, show k + 1 + (gk - 1) = n by have := HK.out; omega, by go_num, by show Owns _ _ _ _ _; rw [HSN.out, if_neg HZ0.out, List.append_nil]; exact HO1.out, HBA⟩
    · have hall : l.take k = l := List.take_of_length_le (by have := HN.out; omega)
      have hnk : ¬ (k : Int) < (n : Int) := by omega
      rw [hall] at HO
      have hsum := HCO.out
      have hlen := bareQ_len l
      have hl1 := HAB.out.1
      generalize bareQ l = KL at *
      have hKB : costT KL ≤ 1000 := hsum
      obtain ⟨A7, c7, rfl, hc7, hat7, _⟩ := HO.out.at_ strE_ok
      have HAT7 := Lib.hid hat7
      have HBW := Lib.hid (HB2.out.trans (HB.out.mono HB2.out.size))
      have hKn : KL.length ≤ 1000 := by omega
      have hcc := hat7.2.1
      clear hat7 HO HB hsum hlen hl1 hlt HAT HB2 HB1 hall
      go_wp2_with fail
      generalize wr = w3 at *
      generalize gk = gk1 at *
      go_loopg [5] KL.length (fun gk v wr => ∃ (B : Option Addr) (m : Nat), Hid (m ≤ gk) ∧ m ≤ KL.length ∧ v = .slice B m c7 ∧ Hid (StrsAt w3 B m c7 (KL.take m)) ∧ Hid (∃ q, wr = w3.drewN q))
      case atStart => exact ⟨A7, KL.length, Nat.le_refl _, Nat.le_refl _, rfl, by show StrsAt _ _ _ _ _; rw [List.take_of_length_le (Nat.le_refl _)]; exact HAT7.out, ⟨0, rfl⟩⟩
      case round =>
        obtain ⟨B, m, HM, hmK, rfl, HBS, HW⟩ := hrel
        have hbw : Below w.heap.size w wr := by obtain ⟨q, hq⟩ := HW.out; rw [hq]; exact below_drewN HBW.out q
        have HBX := Lib.hid hbw
        clear hbw
        cases m with
        | zero =>
          have HF : Hid (endL (KL.take 0) = []) := rfl
          go_wp2_with fail
          go_ret2
          exact ⟨0, Nat.zero_le _, by rw [HF.out]; rfl, HBX.out⟩
        | succ m =>
          obtain ⟨g, off, rfl, hg, hc⟩ := HBS.out.str (by omega)
          have hcm : wr.cell? ⟨g, off + m, none⟩ = some (.string ⟨((KL.take (m + 1)).getD m []).toArray⟩) := by obtain ⟨q, hq⟩ := HW.out; rw [hq]; exact hc m (by omega)
          have hxm : ((KL.take (m + 1)).getD m []).length ≤ 1000000 := by
            have hml : m < (KL.take (m + 1)).length := by simp; omega
            rw [List.getD_eq_getElem?_getD, List.getElem?_eq_getElem hml]
            exact Nat.le_trans (Nat.le_trans (costT_mem (List.mem_of_mem_take (List.getElem_mem hml))) hKB) (by omega)
          obtain ⟨B', hsl0, hpc⟩ := HBS.out.piece 0 m (by omega) (by omega)
          rw [List.drop_zero, Nat.sub_zero, Nat.sub_zero, List.take_take, Nat.min_eq_left (by omega)] at hpc
          have hsl := sl_toS (some ⟨g, off, none⟩) (m + 1) c7 m (by omega) _ hsl0
          have HPC := Lib.hid hpc
          generalize (KL.take (m + 1)).getD m [] = x at *
          have HBL := Lib.hid (blank_any (⟨x.toArray⟩ : ByteArray) wr (by show (bag x).size ≤ _; rw [bag_size]; exact hxm))
          obtain ⟨bb, hbb⟩ : ∃ bb, blankB (⟨x.toArray⟩ : ByteArray).data.toList = bb := ⟨_, rfl⟩
          rw [hbb] at HBL
          clear hc hpc hsl0 hbb
          go_wp2_with fail
          refine HBL.out.mono ?_
          rintro e w8 ⟨rfl, q8, hw8⟩
          have HW8 : Hid (∃ q, w8 = w3.drewN q) := by obtain ⟨q, hq⟩ := HW.out; exact ⟨q + q8, by rw [hw8, hq, World.drewN_drewN]⟩
          have HBX8 : Hid (Below w.heap.size w w8) := by show Below _ _ _; rw [hw8]; exact below_drewN HBX.out q8
          have HAT8 : Hid (StrsAt w8 (some ⟨g, off, none⟩) (m + 1) c7 (KL.take (m + 1))) := by obtain ⟨q, hq⟩ := HW8.out; show StrsAt _ _ _ _ _; rw [hq]; exact HBS.out
          clear hw8 hcm HBL
          cases bb
          · have hel := Nat.le_trans (endL_len (KL.take (m + 1))) (Nat.le_trans (costT_take KL (m + 1)) hKB)
            have HJN : Hid (endL (KL.take (m + 1)) = Lib.join (KL.take (m + 1)) [10] ++ [10]) := by
              show _ = _
              unfold endL
              rw [if_neg (by intro h; have := congrArg List.length h; rw [List.length_take, List.length_nil] at this; omega)]
            rw [HJN.out, List.length_append] at hel
            have hjl : (Lib.join (KL.take (m + 1)) [10]).length ≤ 1000 := by omega
            have HJ := Lib.hid (joinC_any (some ⟨g, off, none⟩) (m + 1) c7 (KL.take (m + 1)) 10 w8 HAT8.out (by omega) (by omega))
            clear hel
            have hjs : (bag (Lib.join (KL.take (m + 1)) [10])).size ≤ 1000 := by rw [bag_size]; exact hjl
            have HJE : Hid (bag (endL (KL.take (m + 1))) = bag (Lib.join (KL.take (m + 1)) [10]) ++ (⟨#[10]⟩ : ByteArray)) := by
              show _ = _
              rw [HJN.out]
              apply ByteArray.ext
              simp [bag]
            generalize Lib.join (KL.take (m + 1)) [10] = jn at *
            go_wp2_with fail
            refine HJ.out.mono ?_
            rintro e w9 ⟨rfl, hb9⟩
            have HB9 := Lib.hid (HBX8.out.trans (hb9.mono HBX8.out.size))
            clear hb9 HJ
            generalize bag jn = bj at *
            go_wp2_with fail
            go_ret2
            exact ⟨m + 1, hmK, by rw [HJE.out]; rfl, HB9.out⟩
          · go_wp2_with fail
            go_roundg (gk - 1)
            case measure => have := HM.out; omega
            case rel => exact ⟨B', m, show m ≤ gk - 1 by have := HM.out; omega, by omega, rfl, HPC, HW8⟩
end Go.Proofs.YtmaimojpjepmjaaGreatDoor
