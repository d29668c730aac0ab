
/-
  RightItems makes items that are right.
-/
import Derived.Test.YtfijplllfdmcoaaGreatDoorItemId
import Derived.Test.YtfijplllfdmcoaaGreatDoorOwnSet
import Derived.Deep.RegionHeld3
import Derived.Deep.QuietTactic
import Derived.BigQuiet
import Derived.StillTailTactics
namespace Go.Proofs.YtfijplllfdmcoaaGreatDoor
open Go.RowKit

theorem still_skipI {P : Program} {ops : Array Oper} {w : World} {Q : Act → Prop} {a : Act} {o : Oper} {rest : List Oper} (h : Region.wanted o (yielded ops a.tmps) = false)
    (h2 : wpStill P ops w Q rest (a.put o.dst undef)) : wpStill P ops w Q (o :: rest) a := by
  unfold wpStill
  rw [if_neg (by rw [h]; exact Bool.false_ne_true)]
  exact h2
theorem belowUI {w w' : World} (h : Below w.drew.heap.size w.drew w') : Below w.heap.size w w' := ⟨h.os, h.tape, h.output, h.size, h.block⟩
/-- Items that are made: right ones, without parents. -/
structure MadeI (k : Nat) (l : List Itm) : Prop where
  each : ∀ x ∈ l, ItemOk x
  nopar : ∀ x ∈ l, x.par.data.toList = []
  ids : (l.map fun x => x.id.data.toList).Sublist ((List.range k).map idL)
theorem MadeI.next {k : Nat} {l : List Itm} (h : MadeI k l) : MadeI (k + 1) l := ⟨h.each, h.nopar, by rw [List.range_succ, List.map_append]; exact h.ids.trans (List.sublist_append_left _ _)⟩
theorem MadeI.snoc {k : Nat} {l : List Itm} {x : Itm} (h : MadeI k l) (h1 : ItemOk x) (h2 : x.par.data.toList = []) (h3 : x.id = idB k) : MadeI (k + 1) (l ++ [x]) := by
  refine ⟨fun y hy => ?_, fun y hy => ?_, ?_⟩
  · rcases List.mem_append.1 hy with hy | hy
    · exact h.each y hy
    · rw [List.mem_singleton.1 hy]; exact h1
  · rcases List.mem_append.1 hy with hy | hy
    · exact h.nopar y hy
    · rw [List.mem_singleton.1 hy]; exact h2
  · rw [List.range_succ, List.map_append, List.map_append]
    refine List.Sublist.append h.ids ?_
    simp only [List.map_cons, List.map_nil, h3, idB_data]
    exact List.Sublist.refl _
theorem MadeI.len {k : Nat} {l : List Itm} (h : MadeI k l) : l.length ≤ k := by
  have := h.ids.length_le
  simpa using this
theorem MadeI.good {k : Nat} {l : List Itm} (h : MadeI k l) (hk : k ≤ 12) : GoodI l := by
  have hp : ∀ i, parI l i = none := fun i => by
    unfold parI
    split
    · rename_i x hx
      rw [if_pos (h.nopar x (List.mem_of_getElem? hx))]
    · rfl
  refine ⟨⟨h.each, fun x hx => .inl (h.nopar x hx), ⟨fun i _ => (by rw [chainI_none (hp i)]; simp), fun i q _ hq => (by rw [hp] at hq; cases hq), fun i _ => (by rw [chainI_none (hp i)]; simp)⟩⟩, ?_⟩
  refine h.ids.trans ?_
  refine List.Sublist.map _ ?_
  have : List.range 12 = List.range k ++ (List.range (12 - k)).map (k + ·) := by
    rw [← List.range_add]
    congr 1
    omega
  rw [this]
  exact List.sublist_append_left _ _
theorem keyL_le {x : ByteArray} (h : keyL x.data.toList = true) : x.size ≤ 1000 := by
  have e : x.data.toList.length = x.size := by simp
  unfold keyL at h
  simp only [Bool.and_eq_true, decide_eq_true_eq] at h
  have := h.1.1.2
  omega
theorem ItemOk.small {x : Itm} (h : ItemOk x) : SmallI x := by
  refine ⟨by have := keyL_le h.id; omega, by have := keyL_le h.cu; omega, by have := h.short; omega, ?_, by have := h.size; omega⟩
  rcases h.par with h | h
  · have e : x.par.data.toList.length = x.par.size := by simp
    rw [h] at e
    have : x.par.size = 0 := e.symm
    omega
  · have := keyL_le h; omega
theorem mem_set_or {l : List Itm} {k : Nat} {x y : Itm} (h : y ∈ l.set k x) : y ∈ l ∨ y = x := List.mem_or_eq_of_mem_set h
theorem map_set_id (l : List Itm) (k : Nat) (x x' : Itm) (hk : l[k]? = some x) (he : x'.id = x.id) : (l.set k x').map (fun x => x.id.data.toList) = l.map fun x => x.id.data.toList := by
  rw [List.map_set, he]
  apply List.ext_getElem?
  intro j
  by_cases hj : k = j
  · subst hj
    have hl := (List.getElem?_eq_some_iff.1 hk).1
    rw [List.getElem?_set_self (by simpa using hl), List.getElem?_map, hk]
    rfl
  · rw [List.getElem?_set_ne hj]
theorem set_back {l : List Itm} {k : Nat} {x x' : Itm} (hk : l[k]? = some x) : (l.set k x').set k x = l := by
  rw [List.set_set]
  apply List.ext_getElem?
  intro j
  by_cases hj : k = j
  · subst hj
    have hl := (List.getElem?_eq_some_iff.1 hk).1
    rw [List.getElem?_set_self hl, hk]
  · rw [List.getElem?_set_ne hj]
def RightPost (w : World) (g : Nat) (A : Option Addr) (n c K many : Nat) (e : Ending) (w' : World) : Prop :=
  ∃ (v : Value) (l : List Itm), e = .returned v ∧ Owns ItemE w' w.heap.size v l ∧ GoodI l ∧ l.length ≤ many ∧ StreamAt w' g A n c (K + 210 * many) ∧ w.grownBy w' (some g)
set_option maxHeartbeats 6400000 in
set_option maxRecDepth 100000 in
theorem rightItems_any (g : Nat) (A : Option Addr) (n c K many : Nat) (w : World) (hs : StreamAt w g A n c K) (hK : K ≤ 1000) (hm : many ≤ 12) (hTg : ∀ w', w.grownBy w' (some g) → Tabs w' ∧ MaxAt w') :
    Calls Tryz.prog 5 #[.pointer (some ⟨g, 0, none⟩), .int .i64 (many : Int)] w (RightPost w g A n c K many) := by
  have HGW := Lib.hid hs.lt
  have HS0 := Lib.hid hs
  have HTT := Lib.hid hTg
  clear hs hTg
  go_enter Tryz.func5, Tryz.ntmps5
  go_wp2_with fail
  go_loopg [5, 12] many (fun gk v5 i wr => ∃ (k : Nat) (l : List Itm), Hid (k + gk = many) ∧ i = .int .i64 k ∧ Hid (Owns ItemE wr w.heap.size v5 l) ∧ Hid (MadeI k l) ∧ Hid (StreamAt wr g A n c (K + 200 * k)) ∧ Hid (w.grownBy wr (some g)))
  case atStart => exact ⟨0, [], show 0 + many = many by omega, rfl, Owns.nil _ _, ⟨fun x hx => (by cases hx), fun x hx => (by cases hx), List.Sublist.refl _⟩, HS0.out, World.grownBy.refl _ _⟩
  case round =>
    obtain ⟨k, l, HK, rfl, HO, HMD, HS, HG⟩ := hrel
    have hkm : k ≤ many := by have := HK.out; omega
    by_cases hlt : k < many
    · have HGK := Lib.hid (show k + 1 + (gk - 1) = many ∧ 0 < gk by have := HK.out; omega)
      have HID := Lib.hid (fun wx => itemId_any k (by omega) wx)
      have HIS := Lib.hid (idB_size k)
      have HBK : Hid (idB k = idB k) := rfl
      clear HK
      go_wp2_with fail
      refine (HID.out wr).mono ?_
      rintro e w' ⟨rfl, hw⟩
      obtain rfl := hw
      go_wp2_with fail
      refine (item_any (idB k) g A n c _ w' (by rw [HIS.out]; omega) HS.out (by omega)).mono ?_
      rintro e w1 ⟨x, rfl, hsm, hs1, hg1⟩
      have HSM := Lib.hid hsm
      have hgl1 := hs1.lt
      have HS1 : Hid (StreamAt (w1.alloc (.cells #[.string x.id, .string x.cu, .int .i64 x.kind, .string x.name, .int .i64 x.at_, .string x.par, .string x.text] 60)) g A n c (K + 200 * (k + 1))) := (hs1.more (by omega)).alloc _
      have hgw : w.grownBy w1 (some g) := grown_trans HG.out hg1
      have HG1 : Hid (w.grownBy (w1.alloc (.cells #[.string x.id, .string x.cu, .int .i64 x.kind, .string x.name, .int .i64 x.at_, .string x.par, .string x.text] 60)) (some g)) := grown_alloc hgw _
      have HO1 : Hid (Owns ItemE (w1.alloc (.cells #[.string x.id, .string x.cu, .int .i64 x.kind, .string x.name, .int .i64 x.at_, .string x.par, .string x.text] 60)) w.heap.size u5 l) := (HO.out.kept_ hg1 (fun i e => by have := Option.some.inj e; have := HGW.out; omega)).below_ ((Below.refl _ _).alloc (Nat.le_refl _) _)
      have HI1 : Hid (ItemAt (w1.alloc (.cells #[.string x.id, .string x.cu, .int .i64 x.kind, .string x.name, .int .i64 x.at_, .string x.par, .string x.text] 60)) w1.heap.size x) := item_new w1 x
      have hzz := hg1.size
      have hz0 := HG.out.size
      clear hsm hs1 hg1 HS HG HO
      unfold Itm.v
      go_upto_region 6 with (fail)
      obtain ⟨P, hP⟩ : ∃ P, P = w1.heap.size := ⟨_, rfl⟩
      rw [← hP] at HI1 ⊢
      have HPW : Hid (w.heap.size ≤ P) := by show _ ≤ _; omega
      generalize w1.alloc (.cells #[.string x.id, .string x.cu, .int .i64 x.kind, .string x.name, .int .i64 x.at_, .string x.par, .string x.text] 60) = w2 at *
      clear hP hgw hgl1 hzz hz0
      obtain ⟨c0, c1, c2, c3, c4, c5, c6⟩ := HI1.out.c
      have hTM := HTT.out w2 HG1.out
      have HIF := Lib.hid (fun wx (hb : Below w2.heap.size w2 wx) => itemFault_any x wx HSM.out (Tabs.below hTM.1 hb) (MaxAt.below hTM.2 hb))
      clear hTM
      go_cut [33] (fun v wx => ∃ b : Bool, v = .bool b ∧ Hid (Below w2.heap.size w2 wx) ∧ (b = false → x.id = idB k ∧ x.par.data.toList = [] ∧ ItemOk x))
      case first =>
        have HB2 := Lib.hid (Below.refl w2.heap.size w2)
        generalize hb0 : idB k = b0 at *
        have HB0 := Lib.hid hb0
        clear hb0
        by_cases hid : x.id = b0
        · by_cases hp : x.par.data.toList = []
          · have HHELD : Hid (∀ w', Below w2.heap.size w2 w' → w'.cell? ⟨P, 0, none⟩ = some (.string x.id) ∧ w'.cell? ⟨P, 1, none⟩ = some (.string x.cu) ∧ w'.cell? ⟨P, 2, none⟩ = some (.int .i64 x.kind) ∧ w'.cell? ⟨P, 3, none⟩ = some (.string x.name) ∧ w'.cell? ⟨P, 4, none⟩ = some (.int .i64 x.at_) ∧ w'.cell? ⟨P, 5, none⟩ = some (.string x.par) ∧ w'.cell? ⟨P, 6, none⟩ = some (.string x.text) ∧ Below w2.heap.size w2 w') := fun w' hb => by
              obtain ⟨d0, d1, d2, d3, d4, d5, d6⟩ := (HI1.out.keep hb).c
              exact ⟨d0, d1, d2, d3, d4, d5, d6, hb⟩
            have e0 : (x.id.toList == b0.toList) = true := by rw [hid]; simp
            have e1 : x.id.toList = b0.toList := by rw [hid]
            have HE := Lib.hid (And.intro hid hp)
            obtain ⟨q1, q2, q3⟩ := par_emptyL hp
            unfold Itm.v at HIF
            clear hid hp
            obtain ⟨hh1, hh2, hh3, hh4, hh5, hh6, hh7, _⟩ := HHELD.out w2 (Below.refl _ _)
            go_region_held3 (fun w' => w'.cell? ⟨P, 0, none⟩ = some (.string x.id) ∧ w'.cell? ⟨P, 1, none⟩ = some (.string x.cu) ∧ w'.cell? ⟨P, 2, none⟩ = some (.int .i64 x.kind) ∧ w'.cell? ⟨P, 3, none⟩ = some (.string x.name) ∧ w'.cell? ⟨P, 4, none⟩ = some (.int .i64 x.at_) ∧ w'.cell? ⟨P, 5, none⟩ = some (.string x.par) ∧ w'.cell? ⟨P, 6, none⟩ = some (.string x.text) ∧ Below w2.heap.size w2 w')
              (first | assumption | exact HHELD.out _ ((Below.refl _ _).drew) | exact HHELD.out _ hx0)
              (first
                | (go_at_call 25; (with_reducible refine Calls.mono (HID.out _) ?_); rintro e wk ⟨rfl, hwk⟩; obtain rfl := hwk.symm)
                | (go_at_call 26; (with_reducible refine Calls.mono (HIF.out _ ?_) ?_); (first | exact Below.refl _ _ | exact (Below.refl _ _).drew | fail); rintro e wx ⟨z, rfl, hz, hbx⟩; have hx0 : Below w2.heap.size w2 wx := (by first | exact hbx | exact belowUI hbx | fail); clear hbx)
                | fail)
            all_goals
              go_wp2_with fail
              go_meet
              exact ⟨_, rfl, hx0, fun e => ⟨HE.out.1, HE.out.2, hz.1 (by simpa using e)⟩⟩
          · obtain ⟨q1, q2, q3⟩ := par_fullL hp
            have e0 : (x.id.toList == b0.toList) = true := by rw [hid]; simp
            have e1 : x.id.toList = b0.toList := by rw [hid]
            clear hp hid
            refine wp_region_still_tail 14 (by kernel_rfl) (by kernel_rfl) ?_
            simp only [List.take_succ_cons, List.take_zero, List.drop_succ_cons, List.drop_zero]
            iterate 3 still_step
            still_call (HID.out _)
            iterate 5 still_step
            (with_reducible refine wpStill_step (fun K hK => ?_))
            go_simp
            refine hK _ ?_
            clear hK K
            still_step
            iterate 3 ((with_reducible refine still_skipI ?_ ?_); (kernel_rfl))
            refine wpStill_nil ?_
            change wpList _ _ _ _ _ w2.drew
            have HBD : Hid (Below w2.heap.size w2 w2.drew) := (Below.refl _ _).drew
            generalize w2.drew = w3 at *
            go_wp2_with fail
            go_meet
            exact ⟨true, rfl, HBD.out, fun e => by cases e⟩
        · have e0 : (x.id.toList == b0.toList) = false := by rw [bytes_eq]; exact decide_eq_false hid
          have e1 : ¬ x.id.toList = b0.toList := fun e => hid (ByteArray.ext (Array.toList_inj.1 (by rw [← Lib.toList_data, ← Lib.toList_data]; exact e)))
          clear hid
          refine wp_region_still_tail 14 (by kernel_rfl) (by kernel_rfl) ?_
          simp only [List.take_succ_cons, List.take_zero, List.drop_succ_cons, List.drop_zero]
          iterate 3 still_step
          still_call (HID.out _)
          iterate 2 still_step
          iterate 3 ((with_reducible refine still_skipI ?_ ?_); (kernel_rfl))
          (with_reducible refine wpStill_step (fun K hK => ?_))
          go_simp
          refine hK _ ?_
          clear hK K
          still_step
          iterate 3 ((with_reducible refine still_skipI ?_ ?_); (kernel_rfl))
          refine wpStill_nil ?_
          change wpList _ _ _ _ _ w2.drew
          have HBD : Hid (Below w2.heap.size w2 w2.drew) := (Below.refl _ _).drew
          generalize w2.drew = w3 at *
          go_wp2_with fail
          go_meet
          exact ⟨true, rfl, HBD.out, fun e => by cases e⟩
      case rest =>
        obtain ⟨b, rfl, HBC, hbk⟩ := hcut
        have HGC := Lib.hid (grown_below HG1.out HBC.out)
        have HSC := Lib.hid (HS1.out.below HBC.out)
        have HOC := Lib.hid (HO1.out.below_ HBC.out)
        have HIC := Lib.hid (HI1.out.keep HBC.out)
        clear HBC HG1 HS1 HO1 HI1 HIF c0 c1 c2 c3 c4 c5 c6
        cases b with
        | true =>
          clear hbk
          have HMN := Lib.hid HMD.out.next
          go_wp2_with fail
          go_roundg (gk - 1)
          case measure => exact Nat.sub_lt HGK.out.2 Nat.one_pos
          case rel => exact ⟨k + 1, l, HGK.out.1, by go_num, HOC.out, HMN.out, HSC.out, HGC.out⟩
        | false =>
          obtain ⟨hb1, hb2, hb3⟩ := hbk rfl
          have HMN := Lib.hid (HMD.out.snoc hb3 hb2 hb1)
          have hll := HMD.out.len
          clear hbk hb1 hb2 hb3
          obtain ⟨c0, c1, c2, c3, c4, c5, c6⟩ := HIC.out.c
          have hzc := HGC.out.size
          go_wp2_with (at_builtin; refine append_elems itemE_ok rfl _ _ rfl w.heap.size u5 l rfl (World.ownsRow.alloc HOC.out _) (some ⟨wc.heap.size, 0, none⟩) 1 1 [x] rfl (one_elem (E := ItemE) wc x) (by simp; omega) (by simp; omega) ?_; intro v9 w9 hown9 hgrow9 _)
          have HG9 : Hid (w.grownBy w9 (some g)) := grown_row (grown_alloc HGC.out _) hgrow9 (fun i hi => (HOC.out.lt i hi).1)
          have HS9 : Hid (StreamAt w9 g A n c (K + 200 * (k + 1))) := (HSC.out.alloc _).row_ hgrow9 (fun i hi => by have := (HOC.out.lt i hi).1; have := HGW.out; omega)
          have HO9 := Lib.hid hown9
          clear hown9 hgrow9
          go_wp2_with fail
          go_roundg (gk - 1)
          case measure => exact Nat.sub_lt HGK.out.2 Nat.one_pos
          case rel => exact ⟨k + 1, l ++ [x], HGK.out.1, by go_num, HO9.out, HMN.out, HS9.out, HG9.out⟩
    · have hnk : ¬ (k : Int) < (many : Int) := by omega
      obtain rfl : k = many := by omega
      have HGD := Lib.hid (HMD.out.good hm)
      have hlm := HMD.out.len
      obtain ⟨A2, c2, hv, _, _, _⟩ := HO.out.at_ itemE_ok
      subst hv
      obtain ⟨n2, hn2⟩ : ∃ n2, n2 = l.length := ⟨_, rfl⟩
      have HL2 : Hid (l.length = n2) := hn2.symm
      rw [← hn2] at hlm HO ⊢
      have HO2 : Hid (Owns ItemE wr w.heap.size (.slice A2 n2 c2) l) := HO.out
      have HS2 := Lib.hid HS.out
      have HG2 := Lib.hid HG.out
      clear hn2 HO HS HG HK HMD hnk hlt hkm HS0
      go_wp2_with fail
      go_loopg [41] n2 (fun gk i wr => ∃ (q : Nat) (l : List Itm), Hid (q + gk = n2) ∧ i = .int .i64 (q : Int) ∧ Hid (l.length = n2) ∧ Hid (Owns ItemE wr w.heap.size (.slice A2 n2 c2) l) ∧ Hid (GoodI l) ∧ Hid (StreamAt wr g A n c (K + 200 * k + 2 * q)) ∧ Hid (w.grownBy wr (some g)))
      case atStart => exact ⟨0, l, show 0 + n2 = n2 by omega, rfl, HL2.out, HO2.out, HGD.out, HS2.out, HG2.out⟩
      case round =>
        obtain ⟨q, l, HQ, rfl, HL, HO, HGI, HS, HG⟩ := hrel
        clear HL2 HO2 HGD HS2 HG2
        have hqn : q ≤ n2 := by have := HQ.out; omega
        by_cases hlt : q < n2
        · have HGK := Lib.hid (show q + 1 + (gk - 1) = n2 ∧ 0 < gk by have := HQ.out; omega)
          clear HQ
          go_wp2_with fail
          refine (flip_any g A n c _ 2 wr HS.out (by omega) (by omega)).mono ?_
          rintro e w1 ⟨b, rfl, hs1, hg1⟩
          have HS1 := Lib.hid hs1
          have HG1 := Lib.hid (grown_trans HG.out hg1)
          have HO1 := Lib.hid (HO.out.kept_ hg1 (fun i e => by have := Option.some.inj e; have := HGW.out; omega))
          clear hs1 hg1 HS HG HO
          cases b with
          | true =>
            have HS3 : Hid (StreamAt w1 g A n c (K + 200 * k + 2 * (q + 1))) := HS1.out.more (by omega)
            go_wp2_with fail
            go_roundg (gk - 1)
            case measure => exact Nat.sub_lt HGK.out.2 Nat.one_pos
            case rel => exact ⟨q + 1, l, HGK.out.1, by go_num, HL.out, HO1.out, HGI.out, HS3.out, HG1.out⟩
          | false =>
            go_wp2_with fail
            refine (next_any g A n c _ n2 w1 HS1.out (by omega) (by omega)).mono ?_
            rintro e w2 ⟨r, rfl, hr0, hr1, hs2, hg2⟩
            have hr1 := hr1 (by omega)
            obtain ⟨p, rfl⟩ := Int.eq_ofNat_of_zero_le hr0
            have hpn : p < n2 := by omega
            have HS2 : Hid (StreamAt w2 g A n c (K + 200 * k + 2 * (q + 1))) := hs2.more (by omega)
            have HG2 := Lib.hid (grown_trans HG1.out hg2)
            have ho2 := HO1.out.kept_ hg2 (fun i e => by have := Option.some.inj e; have := HGW.out; omega)
            clear hr0 hr1 hs2 hg2 HS1 HG1 HO1
            obtain ⟨G, c3, hv, hGb, hGl, hcell⟩ := Owns.where_ itemE_ok ho2 (by rw [HL.out]; omega)
            rw [HL.out] at hv
            simp only [Value.slice.injEq] at hv
            obtain ⟨rfl, _, rfl⟩ := hv
            have HO2 := Lib.hid ho2
            have HGB := Lib.hid hGb
            obtain ⟨x, hx⟩ : ∃ x, l[q]? = some x := ⟨_, List.getElem?_eq_getElem (by rw [HL.out]; omega)⟩
            obtain ⟨y, hy⟩ : ∃ y, l[p]? = some y := ⟨_, List.getElem?_eq_getElem (by rw [HL.out]; omega)⟩
            obtain ⟨d5, f5⟩ := hcell q x 5 (.string x.par) hx rfl
            obtain ⟨d0, f0⟩ := hcell p y 0 (.string y.id) hy rfl
            have e7 : ItemE.size = 7 := rfl
            rw [e7] at d5 f5 d0 f0
            rw [Nat.add_zero] at d0 f0
            have HO3 : Hid (Owns ItemE (w2.setCell ⟨G, q * 7 + 5, none⟩ (.string y.id)) w.heap.size (.slice (some ⟨G, 0, none⟩) n2 c2) (l.set q { x with par := y.id })) := Owns.set_ itemE_ok ho2 q x { x with par := y.id } 5 (.string y.id) hx (by decide) rfl
            have HG3 : Hid (w.grownBy (w2.setCell ⟨G, q * 7 + 5, none⟩ (.string y.id)) (some g)) := grown_setC HG2.out hGb _
            have HS3 : Hid (StreamAt (w2.setCell ⟨G, q * 7 + 5, none⟩ (.string y.id)) g A n c (K + 200 * k + 2 * (q + 1))) := HS2.out.setC (by have := HGW.out; omega) _
            have HX := Lib.hid hx
            have HSMA : Hid (∀ z ∈ l.set q { x with par := y.id }, SmallI z) := fun z hz => by
              rcases mem_set_or hz with hz | hz
              · exact (HGI.out.ok.each z hz).small
              · have h1 := (HGI.out.ok.each x (List.mem_of_getElem? hx)).small
                have h2 := (HGI.out.ok.each y (List.mem_of_getElem? hy)).small
                rw [hz]
                exact ⟨h1.1, h1.2.1, h1.2.2.1, h2.1, h1.2.2.2.2⟩
            have HID3 : Hid ((l.set q { x with par := y.id }).map (fun x => x.id.data.toList) = l.map fun x => x.id.data.toList) := map_set_id l q x _ hx rfl
            have HLS : Hid ((l.set q { x with par := y.id }).length = n2) := by show _ = _; rw [List.length_set]; exact HL.out
            have HGOOD3 : Hid (ItemsOk (l.set q { x with par := y.id }) → GoodI (l.set q { x with par := y.id })) := fun h => ⟨h, by rw [HID3.out]; exact HGI.out.ids⟩
            have HBACK : Hid (∀ wx, Owns ItemE wx w.heap.size (.slice (some ⟨G, 0, none⟩) n2 c2) (l.set q { x with par := y.id }) → Owns ItemE (wx.setCell ⟨G, q * 7 + 5, none⟩ (.string x.par)) w.heap.size (.slice (some ⟨G, 0, none⟩) n2 c2) l) := fun wx ho => by
              have hq : (l.set q { x with par := y.id })[q]? = some { x with par := y.id } := by rw [List.getElem?_set_self (by rw [HL.out]; exact hlt)]
              have := Owns.set_ itemE_ok ho q { x with par := y.id } x 5 (.string x.par) hq (by decide) rfl
              rwa [set_back HX.out] at this
            have HC5 : Hid (∀ wx, Owns ItemE wx w.heap.size (.slice (some ⟨G, 0, none⟩) n2 c2) (l.set q { x with par := y.id }) → wx.cell? ⟨G, q * 7 + 5, none⟩ = some (.string y.id) ∧ wx.frozen? ⟨G, q * 7 + 5, none⟩ = false) := fun wx ho => by
              obtain ⟨G', c', hv', _, _, hc'⟩ := Owns.where_ itemE_ok ho (by rw [HLS.out]; omega)
              simp only [Value.slice.injEq, Option.some.injEq, Addr.mk.injEq] at hv'
              obtain ⟨⟨rfl, _⟩, _, _⟩ := hv'
              have hq : (l.set q { x with par := y.id })[q]? = some { x with par := y.id } := by rw [List.getElem?_set_self (by rw [HL.out]; exact hlt)]
              exact hc' q _ 5 (.string y.id) hq rfl
            have HOP := Lib.hid (fun wx (h : Owns ItemE wx w.heap.size (.slice (some ⟨G, 0, none⟩) n2 c2) (l.set q { x with par := y.id })) => h.at_ itemE_ok)
            clear ho2 hcell hx hy hGb hGl e7
            generalize l.set q { x with par := y.id } = l3 at *
            generalize y.id = yid at *
            generalize x.par = xpar at *
            go_upto_region 16 with (fail)
            generalize w2.setCell ⟨G, q * 7 + 5, none⟩ (.string yid) = w3 at *
            clear d5 f5 d0 f0 HO2 HG2 HS2
            by_cases hpq : p = q
            · subst hpq
              obtain ⟨d5, f5⟩ := HC5.out w3 HO3.out
              have HO4 := Lib.hid (HBACK.out w3 HO3.out)
              have HG4 : Hid (w.grownBy (w3.setCell ⟨G, p * 7 + 5, none⟩ (.string xpar)) (some g)) := grown_setC HG3.out HGB.out _
              have HS4 : Hid (StreamAt (w3.setCell ⟨G, p * 7 + 5, none⟩ (.string xpar)) g A n c (K + 200 * k + 2 * (p + 1))) := HS3.out.setC (by have := HGW.out; have := HGB.out; omega) _
              clear HC5 HBACK HOP HO3 HG3 HS3
              go_wp2_with fail
              go_roundg (gk - 1)
              case measure => exact Nat.sub_lt HGK.out.2 Nat.one_pos
              case rel => exact ⟨p + 1, l, HGK.out.1, by go_num, HL.out, HO4.out, HGI.out, HS4.out, HG4.out⟩
            · have hpqi : ((p : Int) == (q : Int)) = false := beq_eq_false_iff_ne.2 (by omega)
              clear hpq
              obtain ⟨A4, c4, hv4, _, hat4, _⟩ := HOP.out w3 HO3.out
              rw [HLS.out] at hv4 hat4
              simp only [Value.slice.injEq] at hv4
              obtain ⟨rfl, _, rfl⟩ := hv4
              have htm := HTT.out w3 HG3.out
              have HIF := Lib.hid (itemsFault_any (some ⟨G, 0, none⟩) n2 c2 l3 w3 hat4 (by omega) HSMA.out htm.1 htm.2)
              clear hat4 htm HOP
              go_wp2_with fail
              refine HIF.out.mono ?_
              rintro e w4 ⟨z, rfl, hz, hb4⟩
              have HO4 := Lib.hid (HO3.out.below_ hb4)
              have HG4 := Lib.hid (grown_below HG3.out hb4)
              have HS4 := Lib.hid (HS3.out.below hb4)
              clear hb4 HIF HO3 HG3 HS3
              by_cases hz0 : z = 0
              · have HGI3 := Lib.hid (HGOOD3.out (hz hz0))
                subst hz0
                clear hz HBACK HC5
                go_wp2_with fail
                go_roundg (gk - 1)
                case measure => exact Nat.sub_lt HGK.out.2 Nat.one_pos
                case rel => exact ⟨q + 1, l3, HGK.out.1, by go_num, HLS.out, HO4.out, HGI3.out, HS4.out, HG4.out⟩
              · have hz1 : (z == 0) = false := by simpa using hz0
                obtain ⟨d5, f5⟩ := HC5.out w4 HO4.out
                have HO5 := Lib.hid (HBACK.out w4 HO4.out)
                have HG5 : Hid (w.grownBy (w4.setCell ⟨G, q * 7 + 5, none⟩ (.string xpar)) (some g)) := grown_setC HG4.out HGB.out _
                have HS5 : Hid (StreamAt (w4.setCell ⟨G, q * 7 + 5, none⟩ (.string xpar)) g A n c (K + 200 * k + 2 * (q + 1))) := HS4.out.setC (by have := HGW.out; have := HGB.out; omega) _
                clear hz HBACK HC5
                go_wp2_with fail
                go_roundg (gk - 1)
                case measure => exact Nat.sub_lt HGK.out.2 Nat.one_pos
                case rel => exact ⟨q + 1, l, HGK.out.1, by go_num, HL.out, HO5.out, HGI.out, HS5.out, HG5.out⟩
        · have hnq : ¬ (q : Int) < (n2 : Int) := by omega
          go_wp2_with fail
          go_ret
          exact ⟨_, l, rfl, HO.out, HGI.out, by rw [HL.out]; exact hlm, HS.out.more (by omega), HG.out⟩
end Go.Proofs.YtfijplllfdmcoaaGreatDoor
