
/-
  What paragraphs returns.
-/
import Derived.Test.YtabdjkcediolcaaGreatDoorPara
namespace Go.Proofs.YtabdjkcediolcaaGreatDoor
open Go.RowKit

theorem trim_blank (s : ByteArray) : decide ((⟨(Lib.trimS s.data.toList [32]).toArray⟩ : ByteArray) = ⟨#[]⟩) = blankL s.data.toList := by
  have h := trimS_nil s.data.toList [32]
  have e : blankL s.data.toList = s.data.toList.all (([32] : List UInt8).contains ·) := by
    unfold blankL
    congr 1
    funext c
    by_cases h : c = 32 <;> simp [h]
  rw [e, ← h]
  generalize Lib.trimS s.data.toList [32] = L
  cases L with
  | nil => rfl
  | cons a r =>
    simp only [List.isEmpty_cons, decide_eq_false_iff_not]
    intro e
    have := congrArg (fun b : ByteArray => b.data.toList) e
    simp at this
theorem ParasAt.base_ {w : World} {base base' : Nat} {v : Value} {rs : List HdS} {ps : List (List Str)} (h : ParasAt w base v rs ps) (hb : base' ≤ base) : ParasAt w base' v rs ps := ⟨h.own.base_ hb, h.len, fun k r p hr hp => (h.each k r p hr hp).base_ hb, h.apart⟩
theorem Owns.alloc_ {α : Type} {E : Elem α} {w : World} {base : Nat} {v : Value} {l : List α} (h : Owns E w base v l) (o : Obj) : Owns E (w.alloc o) base v l := World.ownsRow.alloc h o
theorem costP_len (p : List Str) : p.length ≤ costP p := by
  induction p with
  | nil => simp
  | cons a p ih => simp only [costP, List.map_cons, List.sum_cons, List.length_cons] at *; omega
theorem line_cell {w : World} {base G c n : Nat} {rs : List HdS} {r : HdS} (h : Owns LineE w base (.slice (some ⟨G, 0, none⟩) n c) (rs ++ [r])) : w.cell? ⟨G, rs.length, none⟩ = some r.v ∧ w.frozen? ⟨G, rs.length, none⟩ = false := by
  obtain ⟨G', c', he, _, _, hc⟩ := h.where_ lineE_ok (by simp)
  have := hc rs.length r 0 r.v (by simp) rfl
  have e1 : rs.length * LineE.size + 0 = rs.length := by show rs.length * 1 + 0 = _; omega
  rw [e1] at this
  simp only [Value.slice.injEq, Option.some.injEq, Addr.mk.injEq] at he
  rw [he.1.1]
  exact this
theorem ParasAt.at_last {w : World} {base : Nat} {v : Value} {rs : List HdS} {r : HdS} {ps : List (List Str)} {p : List Str} (h : ParasAt w base v (rs ++ [r]) (ps ++ [p])) : ∃ G c, v = .slice (some ⟨G, 0, none⟩) (rs.length + 1) c ∧ base ≤ G ∧ G < w.heap.size ∧ OwnStrs w base r.v p := by
  obtain ⟨G, c, he, h1, h2, _⟩ := h.own.where_ lineE_ok (by simp)
  have hlen : rs.length = ps.length := by have := h.len; simpa using this
  exact ⟨G, c, by rw [he]; simp, h1, h2, h.each rs.length r p (by simp) (by rw [hlen]; simp)⟩
def ParasPost (w : World) (ps : List (List Str)) (e : Ending) (w' : World) : Prop := ∃ v rs, e = .returned v ∧ ParasAt w' w.heap.size v rs ps ∧ Below w.heap.size w w'
set_option maxHeartbeats 3200000 in
set_option maxRecDepth 100000 in
theorem paragraphs_any (s : ByteArray) (w : World) (hs : s.size ≤ 20000) (hM : MaxAt w) :
    Calls Tryz.prog 30 #[.string s] w (ParasPost w (parasL s.data.toList)) := by
  have HP : Hid (parasL s.data.toList = (paraGo (splitC 10 s.data.toList) (false, [])).2) := rfl
  have HSUM := Lib.hid (splitC_sum 10 s.data.toList)
  have HLEN : Hid (s.data.toList.length = s.size) := by show _ = _; simp
  have HLE : Hid (∀ x ∈ splitC 10 s.data.toList, x.length ≤ 20000) := fun x hx => by
    have h1 := lensL_mem (splitC 10 s.data.toList) x hx
    have h2 := HSUM.out
    have h3 := HLEN.out
    unfold lensL at h1
    have h4 : 0 < (splitC 10 s.data.toList).length := List.length_pos_of_mem hx
    omega
  have HCOST : Hid (∀ k, costL (paraGo ((splitC 10 s.data.toList).take k) (false, [])).2 ≤ 20002) := fun k => by
    have h1 := paraGo_cost ((splitC 10 s.data.toList).take k) (false, []) 0 (fun h => by cases h) (by simp [costL])
    have h2 : costP (splitC 10 s.data.toList) = costP ((splitC 10 s.data.toList).take k) + costP ((splitC 10 s.data.toList).drop k) := by rw [← costP_append, List.take_append_drop]
    have h3 := splitC_cost s.data.toList
    have h4 := HLEN.out
    omega
  go_enter Tryz.func30, Tryz.ntmps30
  go_wp2_with fail
  refine (split_any s 10 w (by omega) hM).mono ?_
  rintro e w1 ⟨A8, n8, c8, rfl, hat, hb1, hnew⟩
  have hn8 : n8 ≤ 20001 := by have := hat.1; have := HSUM.out; have := HLEN.out; omega
  have HN8 := Lib.hid hat.1
  have HAT := Lib.hid hat
  generalize splitC 10 s.data.toList = ls at *
  clear hat hnew hM HSUM HLEN
  go_wp2_with fail
  go_loopg [3, 4, 10] n8 (fun gk v3 v4 v10 wr => ∃ (k : Nat) (rs : List HdS), Hid (k + gk = n8) ∧ v10 = .int .i64 k ∧ v4 = .bool (paraGo (ls.take k) (false, [])).1 ∧ ParasAt wr w1.heap.size v3 rs (paraGo (ls.take k) (false, [])).2 ∧ Hid ((paraGo (ls.take k) (false, [])).1 = true → (paraGo (ls.take k) (false, [])).2 ≠ []) ∧ rs.length ≤ k ∧ Below w1.heap.size w1 wr)
  case atStart => exact ⟨0, [], show 0 + n8 = n8 by omega, rfl, rfl, ParasAt.nil _ _, show _ → _ from (fun h => by cases h), Nat.le_refl _, Below.refl _ _⟩
  case round =>
    obtain ⟨k, rs, HK, rfl, rfl, hpar, HNE, hrk, hb⟩ := hrel
    have hkn : k ≤ n8 := by have := HK.out; omega
    have HPAR := Lib.hid hpar; clear hpar
    have hzb := hb.size
    have hz1 := hb1.size
    by_cases hlt : k < n8
    · have hkl : k < ls.length := by have := HN8.out; omega
      obtain ⟨g8, o8, hA8, hg8, hc8⟩ := HAT.out.str (by omega)
      subst hA8
      have c0 := (hb.cell (p := ⟨g8, o8 + k, none⟩) hg8).trans (hc8 k hlt)
      have hgd : ls.getD k [] = ls[k] := by simp [hkl]
      rw [hgd] at c0
      have HST : Hid (paraGo (ls.take (k + 1)) (false, []) = paraStep (paraGo (ls.take k) (false, [])) ls[k]) := by
        show _ = _
        rw [List.take_succ_eq_append_getElem hkl, paraGo_snoc]
      have hxl := HLE.out ls[k] (List.getElem_mem _)
      have hcost := HCOST.out k
      generalize ls[k] = x at *
      generalize hst : paraGo (ls.take k) (false, []) = st at *
      obtain ⟨op, ps⟩ := st
      clear hc8 hgd hst
      simp only at *
      go_wp2_with fail
      refine (trim_any (bag x) ⟨#[32]⟩ wr (by rw [bag_size]; omega) (by decide) (by decide)).mono ?_
      rintro e w2 ⟨rfl, hb2⟩
      have HTB := Lib.hid (trim_blank (bag x))
      rw [bag_data] at *
      have hb2' : Below w1.heap.size w1 w2 := hb.trans (hb2.mono hb.size)
      have HPAR2 := Lib.hid (HPAR.out.below hb2)
      clear HPAR hb c0
      cases hbl : blankL x with
      | true =>
        have he : (⟨(Lib.trimS x [32]).toArray⟩ : ByteArray) = ⟨#[]⟩ := by have := HTB.out; rw [hbl] at this; simpa using this
        rw [he]
        have HST2 : Hid (paraGo (ls.take (k + 1)) (false, []) = (false, ps)) := by show _ = _; rw [HST.out, paraStep, hbl]; rfl
        clear HTB he HST
        go_wp2_with fail
        go_roundg (gk - 1)
        case measure => have := HK.out; omega
        case rel => exact ⟨k + 1, rs, show k + 1 + (gk - 1) = n8 by have := HK.out; omega, by go_num, by rw [HST2.out], by rw [HST2.out]; exact HPAR2.out, (show _ → _ from (fun h => by rw [HST2.out] at h; cases h)), by omega, hb2'⟩
      | false =>
        have he : ¬ (⟨(Lib.trimS x [32]).toArray⟩ : ByteArray) = ⟨#[]⟩ := by have := HTB.out; rw [hbl] at this; simpa using this
        generalize (⟨(Lib.trimS x [32]).toArray⟩ : ByteArray) = T at *
        have HST2 : Hid (paraGo (ls.take (k + 1)) (false, []) = (true, putLast (if op then ps else ps ++ [[]]) x)) := by show _ = _; rw [HST.out, paraStep, hbl]; rfl
        have he2 : T.toList.isEmpty = false := by
          rw [Lib.toList_data]
          cases hd : T.data.toList with
          | nil => exact absurd (ByteArray.ext (Array.toList_inj.1 (by simpa using hd))) he
          | cons a r => rfl
        clear HTB HST he
        cases op with
        | true =>
            obtain ⟨ps0, p, hps⟩ : ∃ ps0 p, ps = ps0 ++ [p] := ⟨_, _, (List.dropLast_concat_getLast (HNE.out rfl)).symm⟩
            have hrl := HPAR2.out.len
            have hrne : rs ≠ [] := fun e => by rw [e, hps] at hrl; simp at hrl
            obtain ⟨rs0, r, hrs⟩ : ∃ rs0 r, rs = rs0 ++ [r] := ⟨_, _, (List.dropLast_concat_getLast hrne).symm⟩
            subst hrs hps
            have hlen0 : rs0.length ≤ k := by rw [List.length_append] at hrk; omega
            have HST3 : Hid (paraGo (ls.take (k + 1)) (false, []) = (true, ps0 ++ [p ++ [x]])) := by show _ = _; rw [HST2.out, if_pos rfl, putLast_snoc]
            obtain ⟨wx, rfl⟩ : ∃ wx, wx = w2 := ⟨_, rfl⟩
            have HPX := Lib.hid HPAR2.out
            have hpl : p.length ≤ 20002 := by have h1 := costP_mem (show p ∈ ps0 ++ [p] by simp); have h2 := costP_len p; omega
            have hbx := hb2'
            clear hrl hrne hrk HNE HST2 HPAR2 hb2' hb2
            go_upto_region 11 with (fail)
            obtain ⟨G, cG, hu, hG1, hG2, HR⟩ := HPX.out.at_last
            rw [hu] at HPX
            try rw [hu]
            try subst hu
            have HRH := Lib.hid HR; clear HR
            obtain ⟨cc, cf⟩ := line_cell HPX.out.own
            obtain ⟨rA, rn, rc⟩ := r
            have cc' : wx.cell? ⟨G, rs0.length, none⟩ = some (.slice rA rn rc) := cc
            clear cc
            have hal5 := (hbx.alloc hbx.size (.cells #[.string ⟨x.toArray⟩] 9))
            have hszx := hbx.size
            have e1 : IntKind.i64.wrap (((rs0.length : Int) + 1) - 1) = (rs0.length : Int) := by rw [IntWalk.i64_in _ (by omega)]; omega
            have e2 : ((rs0.length : Int) + 1) - 1 = (rs0.length : Int) := by omega
            have HRS : Hid (OwnStrs wx w1.heap.size (.slice rA rn rc) p) := HRH.out
            go_wp2_with (at_builtin; refine append_elems strE_ok rfl _ _ rfl w1.heap.size _ p rfl (World.ownsRow.alloc HRS.out _) (some ⟨wx.heap.size, 0, none⟩) 1 1 [x] rfl (one_elem (E := StrE) wx x) (by simp only [List.length_singleton]; omega) (by simp; omega) ?_; intro v5 w5 hown5 hgrow5 hnew5; have hO5 := (HPX.out.own.alloc_ (.cells #[.string ⟨x.toArray⟩] 9)).beside (HRS.out.alloc_ _) line_ne.symm hgrow5; obtain ⟨cc5, cf5⟩ := line_cell hO5; obtain ⟨A5, c5, rfl, z1, z2, z3⟩ := hown5.at_ strE_ok; clear z1 z2 z3 hO5)
            have hb5 : Below w1.heap.size w1 w5 := hal5.grown hgrow5 hal5.size (fun i hi => (HRS.out.lt i hi).1)
            have HFIN := Lib.hid (ParasAt.last (r' := (A5, (p ++ [x]).length, c5)) (HPX.out.below ((Below.refl _ _).alloc (Nat.le_refl _) _)) rfl hown5 hgrow5 (hnew5.imp id (fun h => ⟨_, h, Nat.le_refl _⟩)))
            go_roundg (gk - 1)
            case measure => have := HK.out; omega
            case rel => exact ⟨k + 1, rs0 ++ [(A5, p.length + 1, c5)], show k + 1 + (gk - 1) = n8 by have := HK.out; omega, by go_num, by rw [HST3.out], by rw [HST3.out]; have h := HFIN.out; rw [List.length_append] at h; exact h, (show _ → _ from fun _ => by rw [HST3.out]; simp), by simp; omega, hb5.setCell hG1 _⟩
        | false =>
            have hal := (hb2'.alloc hb2'.size (.cells #[.slice none 0 0] 33))
            have hsz2 := hb2'.size
            go_upto_region 11 with (at_builtin; go_loud (refine append_elems lineE_ok rfl _ _ rfl w1.heap.size _ rs rfl (HPAR2.out.own.alloc _) (some ⟨w2.heap.size, 0, none⟩) 1 1 [(none, 0, 0)] rfl (one_elem (E := LineE) w2 (none, 0, 0)) (by simp only [List.length_singleton]; omega) (by simp; omega) ?_; intro v' w4 hown4 hgrow4 _))
            have HPX := Lib.hid ((HPAR2.out.below ((Below.refl _ _).alloc (Nat.le_refl _) _)).more hown4 hgrow4)
            have hbx : Below w1.heap.size w1 w4 := hal.grown hgrow4 hal.size (fun i hi => (HPAR2.out.own.lt i hi).1)
            obtain ⟨r, hr⟩ : ∃ r : HdS, r = (none, 0, 0) := ⟨_, rfl⟩
            obtain ⟨p, hp⟩ : ∃ p : List Str, p = [] := ⟨_, rfl⟩
            rw [← hr, ← hp] at HPX
            have HST3 : Hid (paraGo (ls.take (k + 1)) (false, []) = (true, ps ++ [p ++ [x]])) := by show _ = _; rw [HST2.out, if_neg (by decide), putLast_snoc, hp]
            have hpl : p.length ≤ 20002 := by rw [hp]; simp
            have hlen0 := hrk
            obtain ⟨rs0, rfl⟩ : ∃ rs0, rs0 = rs := ⟨_, rfl⟩
            obtain ⟨ps0, rfl⟩ : ∃ ps0, ps0 = ps := ⟨_, rfl⟩
            obtain ⟨wx, rfl⟩ : ∃ wx, wx = w4 := ⟨_, rfl⟩
            clear hr hp hown4 hgrow4 hal hsz2 HPAR2 HST2 hb2' hb2 hrk HNE
            obtain ⟨G, cG, hu, hG1, hG2, HR⟩ := HPX.out.at_last
            rw [hu] at HPX
            try rw [hu]
            try subst hu
            have HRH := Lib.hid HR; clear HR
            obtain ⟨cc, cf⟩ := line_cell HPX.out.own
            obtain ⟨rA, rn, rc⟩ := r
            have cc' : wx.cell? ⟨G, rs0.length, none⟩ = some (.slice rA rn rc) := cc
            clear cc
            have hal5 := (hbx.alloc hbx.size (.cells #[.string ⟨x.toArray⟩] 9))
            have hszx := hbx.size
            have e1 : IntKind.i64.wrap (((rs0.length : Int) + 1) - 1) = (rs0.length : Int) := by rw [IntWalk.i64_in _ (by omega)]; omega
            have e2 : ((rs0.length : Int) + 1) - 1 = (rs0.length : Int) := by omega
            have HRS : Hid (OwnStrs wx w1.heap.size (.slice rA rn rc) p) := HRH.out
            go_wp2_with (at_builtin; refine append_elems strE_ok rfl _ _ rfl w1.heap.size _ p rfl (World.ownsRow.alloc HRS.out _) (some ⟨wx.heap.size, 0, none⟩) 1 1 [x] rfl (one_elem (E := StrE) wx x) (by simp only [List.length_singleton]; omega) (by simp; omega) ?_; intro v5 w5 hown5 hgrow5 hnew5; have hO5 := (HPX.out.own.alloc_ (.cells #[.string ⟨x.toArray⟩] 9)).beside (HRS.out.alloc_ _) line_ne.symm hgrow5; obtain ⟨cc5, cf5⟩ := line_cell hO5; obtain ⟨A5, c5, rfl, z1, z2, z3⟩ := hown5.at_ strE_ok; clear z1 z2 z3 hO5)
            have hb5 : Below w1.heap.size w1 w5 := hal5.grown hgrow5 hal5.size (fun i hi => (HRS.out.lt i hi).1)
            have HFIN := Lib.hid (ParasAt.last (r' := (A5, (p ++ [x]).length, c5)) (HPX.out.below ((Below.refl _ _).alloc (Nat.le_refl _) _)) rfl hown5 hgrow5 (hnew5.imp id (fun h => ⟨_, h, Nat.le_refl _⟩)))
            go_roundg (gk - 1)
            case measure => have := HK.out; omega
            case rel => exact ⟨k + 1, rs0 ++ [(A5, p.length + 1, c5)], show k + 1 + (gk - 1) = n8 by have := HK.out; omega, by go_num, by rw [HST3.out], by rw [HST3.out]; have h := HFIN.out; rw [List.length_append] at h; exact h, (show _ → _ from fun _ => by rw [HST3.out]; simp), by simp; omega, hb5.setCell hG1 _⟩
    · have hke : ls.take k = ls := List.take_of_length_le (by have := HN8.out; omega)
      rw [hke] at HPAR
      have hbf := below_trans' hb1 hb
      go_wp2_with fail
      go_ret
      exact ⟨_, rs, rfl, by rw [HP.out]; exact HPAR.out.base_ hz1, hbf⟩
end Go.Proofs.YtabdjkcediolcaaGreatDoor
