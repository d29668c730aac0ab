
/-
  What pairsError, Groups and Pivot return.
-/
import Derived.Test.YtabdjkcediolcaaGreatDoorGroups
namespace Go.Proofs.YtabdjkcediolcaaGreatDoor
open Go.RowKit Go.Maps Go.Sort Go.Shelf

set_option maxHeartbeats 1600000 in
theorem pairsError_any (A : Option Addr) (n c : Nat) (l : List Body2) (k least : Nat) (w : World) (h : ElemsAt BodyE w A n c l) (hn : n ≤ 1000) (hs : ∀ x ∈ l, TextOk x) (hk1 : 1 ≤ k) (hk2 : k ≤ 10) (hl1 : 1 ≤ least) (hl2 : least ≤ 100) :
    Calls Tryz.prog 39 #[.slice A n c, .int .i64 k, .int .i64 least] w (FaultPost w l) := by
  have HC := Lib.hid (checkBodies_any A n c l w h hn hs)
  clear h hs
  go_enter Tryz.func39, Tryz.ntmps39
  go_wp2_with fail
  refine HC.out.mono ?_
  rintro e w1 ⟨rfl, hb1⟩
  generalize hE : faultL l = E at *
  have HF : Hid (firstE [E, 0, 0] = E) := by show _ = _; by_cases h : E = 0 <;> simp [firstE, h]
  go_wp2_with fail
  refine (kError_any k w1 (by omega) (by omega)).mono ?_
  rintro e w' ⟨rfl, rfl⟩
  go_wp2_with fail
  refine (leastError_any least w1 (by omega) (by omega)).mono ?_
  rintro e w' ⟨rfl, rfl⟩
  go_wp2_with fail
  refine (first_3 E 0 0 _ w1 rfl _).mono ?_
  rintro e w' ⟨rfl, rfl⟩
  rw [HF.out]
  have hal : Below w.heap.size w (w1.alloc (.cells #[.int .i64 E, .int .i64 0, .int .i64 0] 34)) := hb1.alloc hb1.size _
  go_wp2_with fail
  go_ret
  exact ⟨ret_int (by rw [hE]), hal⟩

def numL (l : List Body2) (k : Nat) : Str → List Int := lookN (numAcc k l).2
def clsL (l : List Body2) (k least : Nat) : List (Str × List Str) := groupsL (numL l k) least (sortG (numL l k) (sortK (idsL l)))
theorem idsL_nodup {l : List Body2} (h : RightB l) : (idsL l).Nodup := by
  refine List.pairwise_map.2 (h.apart.imp fun {a b} hne e => hne ?_)
  exact ByteArray.ext (Array.toList_inj.1 e)
theorem idsL_short {l : List Body2} (h : RightB l) : ∀ s ∈ idsL l, s.length ≤ 1000 := by
  intro s hs
  obtain ⟨x, hx, rfl⟩ := List.mem_map.1 hs
  have := h.key x hx
  unfold keyL at this
  simp only [Bool.and_eq_true, decide_eq_true_eq] at this
  have h2 := this.1.1.2
  omega
theorem keys_perm {w : World} {N m : Nat} {D : DataW Value} {hd : Str → Value} {num : Str → List Int} {l : List Body2} (h : NumAt w N m D hd num) (hh : ∀ id, has D (.string id) = decide (id ∈ idsL l)) (hr : RightB l) : (strKeys D).Perm (idsL l) := by
  obtain ⟨h1, h2, _⟩ := keysH_of h.map
  exact (List.perm_ext_iff_of_nodup h1 (idsL_nodup hr)).2 fun x => by rw [h2 x, hh x]; simp
theorem numL_len {l : List Body2} (hr : RightB l) (k : Nat) (id : Str) : (numL l k id).length ≤ 100000 := lookN_len hr.small id

set_option maxHeartbeats 1600000 in
theorem groups_bad (A : Option Addr) (n c : Nat) (l : List Body2) (k least : Nat) (w : World) (h : ElemsAt BodyE w A n c l) (hn : n ≤ 1000) (hs : ∀ x ∈ l, TextOk x) (hk1 : 1 ≤ k) (hk2 : k ≤ 10) (hl1 : 1 ≤ least) (hl2 : least ≤ 100) (hf : faultL l ≠ 0) :
    Calls Tryz.prog 14 #[.slice A n c, .int .i64 k, .int .i64 least] w fun e w' => e = .returned (.tuple #[.slice none 0 0, .int .i64 (faultL l)]) ∧ Below w.heap.size w w' := by
  have HC := Lib.hid (pairsError_any A n c l k least w h hn hs hk1 hk2 hl1 hl2)
  clear h hs
  go_enter Tryz.func14, Tryz.ntmps14
  go_wp2_with fail
  refine HC.out.mono ?_
  rintro e w1 ⟨rfl, hb1⟩
  generalize hEq : faultL l = E at *
  have hE : (E != 0) = true := by simpa using hf
  go_wp2_with fail
  go_ret2
  exact ⟨by rw [hEq]; rfl, hb1⟩
def GroupsEPost (w : World) (cl : List (Str × List Str)) (e : Ending) (w' : World) : Prop := ∃ v rs, e = .returned (.tuple #[v, .int .i64 0]) ∧ ClusAt w' w.heap.size v rs cl ∧ Below w.heap.size w w'
set_option maxHeartbeats 1600000 in
theorem groupsE_any (A : Option Addr) (n c : Nat) (l : List Body2) (k least : Nat) (w : World) (h : ElemsAt BodyE w A n c l) (hn : n ≤ 10) (hs : ∀ x ∈ l, TextOk x) (hk1 : 1 ≤ k) (hk2 : k ≤ 10) (hl1 : 1 ≤ least) (hl2 : least ≤ 100) (hf : faultL l = 0) :
    Calls Tryz.prog 14 #[.slice A n c, .int .i64 k, .int .i64 least] w (GroupsEPost w (clsL l k least)) := by
  have HC := Lib.hid (pairsError_any A n c l k least w h (by omega) hs hk1 hk2 hl1 hl2)
  have HR := Lib.hid (faultL_ok l hf)
  have HH := Lib.hid h
  have HF := Lib.hid hf
  have hll : l.length ≤ 10 := by rw [← h.1]; exact hn
  clear h hs hf
  go_enter Tryz.func14, Tryz.ntmps14
  go_wp2_with fail
  refine HC.out.mono ?_
  rintro e w1 ⟨rfl, hb1⟩
  rw [HF.out]
  go_wp2_with fail
  refine (numbered_any A n c l k w1 (HH.out.keep hb1) hn HR.out hk1 hk2).mono ?_
  rintro e w2 ⟨N, D, hd, rfl, hN, hna, hhas, hb2⟩
  have HNA := Lib.hid hna
  have HP := Lib.hid (keys_perm hna hhas HR.out)
  have hb2' := below_trans' hb1 hb2
  clear hna hhas hb1 hb2
  go_wp2_with fail
  refine (groups_any HNA.out (numL_len HR.out k) least (idsL l) HP.out (idsL_short HR.out) hll hl2).mono ?_
  rintro e w3 ⟨v, rs, rfl, hcl, hb3⟩
  have hz := hb2'.size
  have HCL : Hid (ClusAt w3 w.heap.size v rs (clsL l k least)) := hcl.base_ hz
  have hb3' := below_trans' hb2' hb3
  clear hcl
  go_wp2_with fail
  go_ret2
  exact ⟨v, rs, rfl, HCL.out, hb3'⟩
theorem idxS_neg (x : Str) : ∀ (l : List Str) (i : Nat), decide (0 ≤ Lib.idxFromS (l.map bag) (bag x) i) = l.contains x
  | [], i => by simp [Lib.idxFromS]
  | y :: l, i => by
    by_cases h : y = x
    · subst h
      simp [Lib.idxFromS]
    · have h' : ¬ bag y = bag x := fun e => h (bag_inj.1 e)
      have ih := idxS_neg x l (i + 1)
      have h'' : ¬ x = y := fun e => h e.symm
      simp only [List.map_cons, Lib.idxFromS, h', if_false]
      rw [ih]
      simp [h'']
theorem containsS_bag (x : Str) (l : List Str) : Lib.containsS (l.map bag) (bag x) = l.contains x := by
  have := idxS_neg x l 0
  unfold Lib.containsS
  first | exact this | (unfold Lib.idxOfS; exact this) | (rw [← this]; simp [Lib.idxOfS])
theorem containsS_any (A : Option Addr) (n c : Nat) (l : List Str) (x : Str) (w : World) (h : StrsAt w A n c l) (hn : n ≤ 100000) :
    Calls Tryz.prog 15 #[.slice A n c, .string (bag x)] w fun e w' => e = .returned (.bool (l.contains x)) ∧ w' = w := by
  have hl := h.1
  rcases Nat.eq_zero_or_pos n with h0 | h0
  · subst h0
    have e1 : l = [] := List.eq_nil_of_length_eq_zero hl.symm
    subst e1
    exact Tryz.slices_Contains_string_empty A c (bag x) w
  · obtain ⟨g1, o1, rfl, _, _⟩ := h.str h0
    refine (Tryz.slices_Contains_string g1 o1 n c (l.map bag) (bag x) w (by simp; omega) (by omega) h.bags).mono ?_
    rintro e w' ⟨rfl, rfl⟩
    refine ⟨ret_bool ?_, rfl⟩
    rw [List.take_of_length_le (by simp; omega)]
    exact containsS_bag x l
theorem find_at {cl : List (Str × List Str)} {id : Str} {c0 c : Str × List Str} {j : Nat} (hf : cl.find? (fun x => x.2.contains id) = some c0) (hj : cl[j]? = some c) (hlt : ∀ i x, i < j → cl[i]? = some x → x.2.contains id = false) (hc : c.2.contains id = true) : c0 = c := by
  induction cl generalizing j with
  | nil => simp at hj
  | cons d cl ih =>
    cases j with
    | zero =>
      simp at hj
      subst hj
      rw [List.find?_cons_of_pos (by exact hc)] at hf
      exact (Option.some.inj hf).symm
    | succ j =>
      have h0 := hlt 0 d (by omega) rfl
      rw [List.find?_cons_of_neg (by rw [h0]; exact Bool.noConfusion)] at hf
      exact ih hf (by simpa using hj) (fun i x hi hx => hlt (i + 1) x (by omega) (by simpa using hx))
theorem NumAt.lookH {w w' : World} {N m : Nat} {D : DataW Value} {hd : Str → Value} {num : Str → List Int} (h : NumAt w N m D hd num) {row : Option Nat} (hg : w.grownBy w' row) (hr : some N ≠ row) (id : Str) (hid : id.length ≤ 1000) : (Instr.lookup 82 (.map (some N)) (.string (bag id)) false).run Tryz.prog w' = .ok (hd id) w' := by
  have hm : w'.ownsMap Tryz.prog 9 holdE N m D := h.map.kept hg hr
  obtain ⟨v, ps, hrun, hv⟩ := hm.lookup keyS Tryz.underlying82 (z := .slice none 0 0) (by kernel_rfl) (zd := .held (.slice none 0 0)) (zp := []) rfl (key_le (x := id) (by simp only [maxLen]; omega))
  rw [h.at_ id] at hv
  simp only [holdE, Option.some.injEq, Prod.mk.injEq, DataW.held.injEq] at hv
  rw [hv.1] at hrun
  exact hrun
def PivotPost (w : World) (p : Str) (f : Nat × Nat) (e : Ending) (w' : World) : Prop := e = .returned (.tuple #[.string (bag p), .agg #[.int .i64 (f.1 : Int), .int .i64 (f.2 : Int)], .int .i64 0]) ∧ Below w.heap.size w w'
set_option maxHeartbeats 6400000 in
set_option maxRecDepth 100000 in
theorem pivot_any (A : Option Addr) (n c : Nat) (l : List Body2) (k least : Nat) (id : Str) (w : World) (h : ElemsAt BodyE w A n c l) (hn : n ≤ 10) (hs : ∀ x ∈ l, TextOk x) (hk1 : 1 ≤ k) (hk2 : k ≤ 10) (hl1 : 1 ≤ least) (hl2 : least ≤ 100) (hf : faultL l = 0) (hid : id.length ≤ 1000) (c0 : Str × List Str) (hc0 : (clsL l k least).find? (fun x => x.2.contains id) = some c0) (hp0 : c0.1.length ≤ 1000) (hcs : ∀ x ∈ clsL l k least, x.2.length ≤ 1000) (hcl : (clsL l k least).length ≤ 1000) :
    Calls Tryz.prog 16 #[.slice A n c, .int .i64 k, .int .i64 least, .string (bag id)] w (PivotPost w c0.1 (likeZ (numL l k id) (numL l k c0.1))) := by
  have hb0 : Below w.heap.size w (w.alloc (.cells #[.int .i64 0, .int .i64 0] 50)) := (Below.refl _ _).alloc (Nat.le_refl _) _
  have HRF := Lib.hid (heap_alloc_new w (.cells #[.int .i64 0, .int .i64 0] 50))
  have HR := Lib.hid (faultL_ok l hf)
  have HH := Lib.hid (h.keep hb0)
  have HF := Lib.hid hf
  have HS := Lib.hid hs
  have hll : l.length ≤ 10 := by rw [← h.1]; exact hn
  have HC0 := Lib.hid hc0
  have HCS := Lib.hid hcs
  clear h hs hf hc0 hcs
  go_enter Tryz.func16, Tryz.ntmps16
  go_wp2_with fail
  generalize w.alloc (.cells #[.int .i64 0, .int .i64 0] 50) = X0 at *
  refine (pairsError_any A n c l k least X0 HH.out (by omega) HS.out hk1 hk2 hl1 hl2).mono ?_
  rintro e w1 ⟨rfl, hb1⟩
  rw [HF.out]
  go_wp2_with fail
  refine (numbered_any A n c l k w1 (HH.out.keep hb1) hn HR.out hk1 hk2).mono ?_
  rintro e w2 ⟨N, D, hd, rfl, hN, hna, hhas, hb2⟩
  have HNA := Lib.hid hna
  have HP := Lib.hid (keys_perm hna hhas HR.out)
  have hb2' := below_trans' hb1 hb2
  clear hna hhas
  go_wp2_with fail
  refine (groups_any HNA.out (numL_len HR.out k) least (idsL l) HP.out (idsL_short HR.out) hll hl2).mono ?_
  rintro e w3 ⟨v, rs, rfl, hclu, hb3⟩
  have HCL : Hid (ClusAt w3 w2.heap.size v rs (clsL l k least)) := hclu
  have hb3' := below_trans' hb2' hb3
  have hb3w := below_trans' hb0 hb3'
  have HNA3 : Hid (NumAt w3 N l.length D hd (numL l k)) := HNA.out.keep hb3
  have HRF3 := Lib.hid (row_on hb3' HRF.out)
  obtain ⟨Ac, cc, rfl⟩ := HCL.out.slice_
  have HLX := Lib.hid (numL_len HR.out k)
  have hFN : w.heap.size < N := by have := hb1.size; have := (Array.getElem?_eq_some_iff.1 HRF.out).1; omega
  clear hclu HP HNA hb1 hb2 hb2' hb3 hb3' HRF hb0 HH HF HS HR
  generalize clsL l k least = cl at *
  generalize numL l k = num at *
  go_wp2_with fail
  go_loopg [30] cl.length (fun gk i wr => ∃ j : Nat, Hid (j + gk = cl.length) ∧ i = .int .i64 j ∧ Hid (∀ i x, i < j → cl[i]? = some x → x.2.contains id = false) ∧ Below w3.heap.size w3 wr)
  case atStart => exact ⟨0, show 0 + cl.length = cl.length by omega, rfl, show ∀ i, _ from fun i x hi => absurd hi (by omega), Below.refl _ _⟩
  case round =>
    obtain ⟨j, HJ, rfl, HLT, hb⟩ := hrel
    have hjn : j ≤ cl.length := by have := HJ.out; omega
    have hzb := hb.size
    by_cases hlt : j < cl.length
    · obtain ⟨g, hg⟩ : ∃ g, cl[j]? = some g := ⟨_, List.getElem?_eq_getElem hlt⟩
      obtain ⟨G, cG, Ag, cg, hv, hGl, hc0', hc1', hatg⟩ := (HCL.out.below hb).at_ j g hg
      simp only [Value.slice.injEq] at hv
      obtain ⟨rfl, hvl, rfl⟩ := hv
      clear hvl
      have hgl := HCS.out g (List.mem_of_getElem? hg)
      have HAG := Lib.hid hatg
      have HFA : Hid (g.2.contains id = true → c0 = g) := fun hc => find_at HC0.out hg HLT.out hc
      have HLT2 : Hid (g.2.contains id = false → ∀ i x, i < j + 1 → cl[i]? = some x → x.2.contains id = false) := fun hc i x hi hx => by
        rcases Nat.lt_or_ge i j with h1 | h1
        · exact HLT.out i x h1 hx
        · obtain rfl : i = j := by omega
          rw [hg] at hx
          cases hx
          exact hc
      clear hatg hg
      obtain ⟨g1, g2⟩ := g
      simp only at *
      go_wp2_with fail
      have HRC := Lib.hid (heap_alloc_new wr (.cells #[.string (bag g1), .slice Ag g2.length cg] 47))
      have hbX : Below wr.heap.size wr (wr.alloc (.cells #[.string (bag g1), .slice Ag g2.length cg] 47)) := (Below.refl _ _).alloc (Nat.le_refl _) _
      generalize wr.alloc (.cells #[.string (bag g1), .slice Ag g2.length cg] 47) = X at *
      refine (containsS_any Ag g2.length cg g2 id X (HAG.out.keep hbX) (by omega)).mono ?_
      rintro e w' ⟨rfl, hw'⟩
      subst hw'
      have hbn : Below w3.heap.size w3 w' := hb.trans (hbX.mono hzb)
      cases hcon : g2.contains id with
      | false =>
        have HLT3 := Lib.hid (HLT2.out hcon)
        go_wp2_with fail
        go_roundg (gk - 1)
        case measure => have := HJ.out; omega
        case rel => exact ⟨j + 1, show j + 1 + (gk - 1) = cl.length by have := HJ.out; omega, by go_num, HLT3.out, hbn⟩
      | true =>
        have hcg := HFA.out hcon
        subst hcg
        clear HFA HLT2 HLT hcon HC0 HCL HAG
        simp only at *
        go_upto_region 9 with (fail)
        have HNX := Lib.hid (HNA3.out.keep hbn)
        obtain ⟨Ax, cx, hx1, hx2⟩ := HNX.out.row id
        obtain ⟨Ay, cy, hy1, hy2⟩ := HNX.out.row g1
        have HX2 := Lib.hid hx2
        have HY2 := Lib.hid hy2
        have hlx1 := HLX.out id
        have hly1 := HLX.out g1
        have HRFx := Lib.hid (row_on hbn HRF3.out)
        have hFl := (Array.getElem?_eq_some_iff.1 HRF3.out).1
        have hCl := (Array.getElem?_eq_some_iff.1 HRC.out).1
        have HHELD : Hid (∀ w'', w'.grownBy w'' (some w.heap.size) → w''.cell? ⟨wr.heap.size, 0, none⟩ = some (.string (bag g1)) ∧ (Instr.lookup 82 (.map (some N)) (.string (bag id)) false).run Tryz.prog w'' = .ok (.slice Ax (num id).length cx) w'' ∧ (Instr.lookup 82 (.map (some N)) (.string (bag g1)) false).run Tryz.prog w'' = .ok (.slice Ay (num g1).length cy) w'' ∧ w'.grownBy w'' (some w.heap.size)) := fun w'' hg => by
          refine ⟨?_, by rw [← hx1]; exact HNX.out.lookH hg (fun e => by have := Option.some.inj e; omega) id hid, by rw [← hy1]; exact HNX.out.lookH hg (fun e => by have := Option.some.inj e; omega) g1 hp0, hg⟩
          have hC := (hg.block wr.heap.size hCl (fun e => by have := Option.some.inj e; omega)).trans HRC.out
          rw [cell_of_row _ wr.heap.size 0 _ _ _ hC]; rfl
        have hbw : Below w.heap.size w w' := below_trans' hb3w hbn
        generalize hq : likeZ (num id) (num g1) = fq at *
        obtain ⟨hh1, hh2, hh3, _⟩ := HHELD.out w' (World.grownBy.refl _ _)
        clear hx1 hx2 hy1 hy2 HNX HNA3 hbn hbX hb3w HRC hc0' hc1'
        go_region_held3 (fun w'' => w''.cell? ⟨wr.heap.size, 0, none⟩ = some (.string (bag g1)) ∧ (Instr.lookup 82 (.map (some N)) (.string (bag id)) false).run Tryz.prog w'' = .ok (.slice Ax (num id).length cx) w'' ∧ (Instr.lookup 82 (.map (some N)) (.string (bag g1)) false).run Tryz.prog w'' = .ok (.slice Ay (num g1).length cy) w'' ∧ w'.grownBy w'' (some w.heap.size))
          (first | assumption | exact HHELD.out _ ⟨rfl, rfl, rfl, Nat.le_refl _, fun _ _ _ => rfl⟩ | exact HHELD.out _ (below_grown hy0 _) | exact HHELD.out _ (grown_trans (below_grown hy0 _) (grown_trans (grown_setCell _ _ _ _) (grown_setCell _ _ _ _))))
          (first
            | (go_at_call 43; (with_reducible refine Calls.mono (likeI_any Ax Ay (num id).length cx (num g1).length cy (num id) (num g1) _ ?_ ?_ hlx1 hly1) ?_); (first | exact HX2.out | exact HX2.out.keep (below_undrew (Below.refl _ _))); (first | exact HY2.out | exact HY2.out.keep (below_undrew (Below.refl _ _))); rw [hq]; rintro e wy ⟨rfl, hby⟩; have hy0 : Below w'.heap.size w' wy := (by first | exact hby | exact below_undrew hby); have hFy := row_on hy0 HRFx.out; obtain ⟨f0, f1, ff0, ff1⟩ := two_cell hFy))
        all_goals
          go_wp2_with fail
          have hR2 := two_set1 (two_set0 hFy (.int .i64 (fq.1 : Int))) (.int .i64 (fq.2 : Int))
          obtain ⟨k0, k1, _, _⟩ := two_cell hR2
          refine bodyPost_ret (v := .tuple #[.string (bag g1), .agg #[.int .i64 (fq.1 : Int), .int .i64 (fq.2 : Int)], .int .i64 0]) (by simp [results, Tryz.results16, go_sem, k0, k1]) rfl ⟨rfl, ?_⟩
          exact ((below_trans' hbw hy0).setCell (Nat.le_refl _) _).setCell (Nat.le_refl _) _
    · exfalso
      have hnone : cl.find? (fun x => x.2.contains id) = none := by
        rw [List.find?_eq_none]
        intro x hx
        obtain ⟨i, hi⟩ := List.getElem?_of_mem hx
        have := HLT.out i x (by have := (List.getElem?_eq_some_iff.1 hi).1; omega) hi
        rw [this]
        exact Bool.noConfusion
      rw [HC0.out] at hnone
      cases hnone
end Go.Proofs.YtabdjkcediolcaaGreatDoor
