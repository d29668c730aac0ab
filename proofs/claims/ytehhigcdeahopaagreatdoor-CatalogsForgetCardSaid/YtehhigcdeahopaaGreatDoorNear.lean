
/-
  What Near of a catalog returns.
-/
import Derived.Test.YtehhigcdeahopaaGreatDoorMatch
namespace Go.Proofs.YtehhigcdeahopaaGreatDoor
open Go.RowKit Go.Maps

theorem word_len (L : List UInt8) : ∀ x ∈ wordsL L, x.length ≤ L.length := by
  intro x hx
  unfold wordsL wordsTo at hx
  obtain ⟨p, _, rfl⟩ := List.mem_map.1 hx
  simp only [lowL, cutL, List.length_map, List.length_take, List.length_drop]
  omega
theorem lensL_le (m : Nat) : ∀ l : List (List UInt8), (∀ x ∈ l, x.length ≤ m) → lensL l ≤ m * l.length
  | [], _ => by simp [lensL]
  | x :: l, h => by
    have h1 := lensL_le m l (fun y hy => h y (List.mem_cons_of_mem _ hy))
    have h2 := h x List.mem_cons_self
    have h3 := lensL_append [x] l
    have h4 : lensL [x] = x.length := by simp [lensL]
    simp only [List.singleton_append] at h3
    rw [h3, h4, List.length_cons, Nat.mul_add, Nat.mul_one]
    omega
theorem win_small (L : List UInt8) (k : Nat) (hL : L.length ≤ 20000) (hk : k ≤ 10) (i : Nat) : (winL (wordsL L) (min k (wordsL L).length) i).length ≤ 1000000 := by
  have h1 := join_le (((wordsL L).drop i).take (min k (wordsL L).length))
  have h2 := lensL_le L.length (((wordsL L).drop i).take (min k (wordsL L).length)) (fun x hx => word_len L x (List.mem_of_mem_drop (List.mem_of_mem_take hx)))
  have h3 : (((wordsL L).drop i).take (min k (wordsL L).length)).length ≤ 10 := by rw [List.length_take]; omega
  have h4 : L.length * (((wordsL L).drop i).take (min k (wordsL L).length)).length ≤ 20000 * 10 := Nat.mul_le_mul hL h3
  unfold winL
  omega
theorem shin_len (L : List UInt8) (k : Nat) (hL : L.length ≤ 20000) : (shinL L k).length ≤ 100000 := by
  have h1 := words_le L
  unfold shinL
  split
  · simp
  · refine Nat.le_trans (Lib.compact_length_le _) ?_
    unfold sortL winsTo
    rw [List.length_mergeSort, List.length_map, List.length_range]
    omega
theorem like_le (x y : List (List UInt8)) (hx : x.length ≤ 100000) (hy : y.length ≤ 100000) : (likeL x y).1 ≤ 1000000 ∧ (likeL x y).2 ≤ 1000000 := by
  have h := sharedL_le _ x y (Nat.le_refl _)
  unfold likeL fracL
  generalize sharedL x y = s at *
  split
  · exact ⟨by decide, by decide⟩
  · have h1 := Nat.div_le_self s (Nat.gcd s (x.length + y.length - s))
    have h2 := Nat.div_le_self (x.length + y.length - s) (Nat.gcd s (x.length + y.length - s))
    exact ⟨by simp only; omega, by simp only; omega⟩

/-- The text of a document of a catalog. -/
def textD (D : DataW Unit) (id : List UInt8) : List UInt8 := match D.atKey (.string id) (.lit (.string [])) with
  | .lit (.string t) => t
  | _ => []
/-- Documents of a catalog are not too long. -/
def SmallD (D : DataW Unit) : Prop := ∀ id, has D (.string id) = true → id.length ≤ 1000000 ∧ ∃ t, D.atKey (.string id) (.lit (.string [])) = .lit (.string t) ∧ t.length ≤ 20000
def nearOne (D : DataW Unit) (k : Nat) (t : List UInt8) (least : Nat) (id : List UInt8) : List MatchT :=
  if enoughL (likeL (shinL t k) (shinL (textD D id) k)) least = true then [(id, likeL (shinL t k) (shinL (textD D id) k))] else []
def nearTo (D : DataW Unit) (k : Nat) (t : List UInt8) (least j : Nat) : List MatchT := ((sortK (strKeys D)).take j).flatMap (nearOne D k t least)
def nearL (D : DataW Unit) (k : Nat) (t : List UInt8) (least : Nat) : List MatchT := (sortK (strKeys D)).flatMap (nearOne D k t least)
theorem nearTo_succ (D : DataW Unit) (k : Nat) (t : List UInt8) (least j : Nat) (id : List UInt8) (h : (sortK (strKeys D))[j]? = some id) : nearTo D k t least (j + 1) = nearTo D k t least j ++ nearOne D k t least id := by
  obtain ⟨hj, rfl⟩ := List.getElem?_eq_some_iff.1 h
  unfold nearTo
  rw [List.take_succ_eq_append_getElem hj, List.flatMap_append]
  simp
theorem nearTo_length (D : DataW Unit) (k : Nat) (t : List UInt8) (least : Nat) : ∀ j, (nearTo D k t least j).length ≤ j
  | 0 => by simp [nearTo]
  | j + 1 => by
    have ih := nearTo_length D k t least j
    cases hh : (sortK (strKeys D))[j]? with
    | none =>
      have : nearTo D k t least (j + 1) = nearTo D k t least j := by
        have := List.getElem?_eq_none_iff.1 hh
        unfold nearTo
        rw [List.take_of_length_le (by omega), List.take_of_length_le (by omega)]
      rw [this]; omega
    | some id =>
      rw [nearTo_succ D k t least j id hh, List.length_append]
      have : (nearOne D k t least id).length ≤ 1 := by unfold nearOne; split <;> simp
      omega
theorem sameKey_str (x : List UInt8) : (Lit.string x).sameKey (.string x) = true := WideAt.sameKey_self (by first | trivial | exact Or.inl trivial | simp [WideAt.IsKeyLit])
theorem strKeys_has {D : DataW Unit} {w : World} {M m : Nat} (hown : w.ownsMap Tryz.prog 9 (plainElem Tryz.prog 9) M m D) (id : List UInt8) (h : id ∈ strKeys D) : has D (.string id) = true := by
  obtain ⟨es, rfl, hk⟩ := hown.keysOf
  obtain ⟨p, hp, he⟩ := List.mem_map.1 h
  obtain ⟨v, hv⟩ := hk p hp
  obtain ⟨x, _, hx, _⟩ := Maps.keyOf_str Tryz.underlying9 hv
  refine List.any_eq_true.2 ⟨p, hp, ?_⟩
  rw [hx] at he
  have he' : x = id := he
  rw [hx, he']
  exact sameKey_str id
theorem strKeys_len (D : DataW Unit) : (strKeys D).length ≤ Maps.size D := by
  cases D <;> simp [strKeys, Maps.size]

theorem below_undrew {w w' : World} (h : Below w.drew.heap.size w.drew w') : Below w.heap.size w w' := ⟨h.os, h.tape, h.output, h.size, h.block⟩
theorem below_unalloc {w w' : World} {o : Obj} (h : Below (w.alloc o).heap.size (w.alloc o) w') : Below w.heap.size w w' := below_trans' ((Below.refl _ _).alloc (Nat.le_refl _) o) h
theorem row_through {w w' : World} {cs : Array Value} {T : TypeId} (h : Below (w.alloc (.cells cs T)).heap.size (w.alloc (.cells cs T)) w') : w'.heap[w.heap.size]? = some (.cells cs T (0, 0)) := by
  have h1 := heap_alloc_new w (.cells cs T)
  exact (h.block _ (Array.getElem?_eq_some_iff.1 h1).1).trans h1
theorem row_on {w w' : World} {F : Nat} {o : Obj} (h : Below w.heap.size w w') (hr : w.heap[F]? = some o) : w'.heap[F]? = some o := (h.block _ (Array.getElem?_eq_some_iff.1 hr).1).trans hr
theorem frac_meet {wr wx : World} {F : Nat} {a b a' b' : Value} (hr : wx.heap[F]? = some (.cells #[a, b] 57 (0, 0))) (hF : wr.heap.size ≤ F) (hb : Below wr.heap.size wr wx) :
    ((wx.setCell ⟨F, 0, none⟩ a').setCell ⟨F, 1, none⟩ b').heap[F]? = some (.cells #[a', b'] 57 (0, 0)) ∧ Below wr.heap.size wr ((wx.setCell ⟨F, 0, none⟩ a').setCell ⟨F, 1, none⟩ b') :=
  ⟨two_set1 (two_set0 hr a') b', (hb.setCell hF _).setCell hF _⟩
theorem held_of {wr w' : World} {P M k tot m : Nat} {D : DataW Unit} (hc : CatAt wr P M k tot m D) {id tx : List UInt8} (hidl : id.length ≤ 1000000) (htx : D.atKey (.string id) (.lit (.string [])) = .lit (.string tx)) (hb : Below wr.heap.size wr w') :
    w'.cell? ⟨P, 0, none⟩ = some (.int .i64 (k : Int)) ∧ w'.cell? ⟨P, 2, none⟩ = some (.map (some M)) ∧ (Instr.lookup 85 (.map (some M)) (.string (bag id)) false).run Tryz.prog w' = .ok (.string (bag tx)) w' ∧ Below wr.heap.size wr w' := by
  have h := hc.keep hb
  obtain ⟨c0, _, c2, _⟩ := three_cell h.row
  exact ⟨c0, c2, h.look1 (bag id) (by rw [bag_size]; exact hidl) (bag tx) (by rw [bag_data, bag_data]; exact htx) 0, hb⟩

def NearPost (w : World) (L : List MatchT) (e : Ending) (w' : World) : Prop := ∃ A n c, e = .returned (.tuple #[.slice A n c, .int .i64 0]) ∧ n ≤ 1000 ∧ ElemsAt MatchE w' A n c L ∧ Below w.heap.size w w'
set_option maxHeartbeats 3200000 in
set_option maxRecDepth 100000 in
theorem near_any (P M k tot m : Nat) (D : DataW Unit) (t : ByteArray) (least : Nat) (w : World) (hc : CatAt w P M k tot m D) (hm : m ≤ 19) (hD : SmallD D) (ht : t.size ≤ 20000) (hk1 : 1 ≤ k) (hk2 : k ≤ 10) (hl1 : 1 ≤ least) (hl2 : least ≤ 100) :
    Calls Tryz.prog 21 #[.pointer (some ⟨P, 0, none⟩), .string t, .int .i64 least] w (NearPost w (sortM (nearL D k t.data.toList least))) := by
  have htl : t.data.toList.length = t.size := by simp
  have HT := Lib.hid (win_small t.data.toList k (by omega) hk2)
  have HTL := Lib.hid (shin_len t.data.toList k (by omega))
  have HSK : Hid (∀ id ∈ sortK (strKeys D), has D (.string id) = true) := fun id hid => strKeys_has hc.map id ((List.mergeSort_perm _ _).mem_iff.1 hid)
  have hkl : (sortK (strKeys D)).length ≤ 19 := by
    have h1 := strKeys_len D
    have h2 := hc.map.size_le
    unfold sortK
    rw [List.length_mergeSort]
    omega
  have HC := Lib.hid hc; clear hc
  clear htl
  go_enter Tryz.func21, Tryz.ntmps21
  go_wp2_with fail
  refine (nlarge_any t w ht).mono ?_
  rintro e w' ⟨rfl, rfl⟩
  go_wp2_with fail
  refine (leastError_any least w (by omega) (by omega)).mono ?_
  rintro e w' ⟨rfl, rfl⟩
  go_wp2_with fail
  refine (first_any w.heap.size 2 2 [0, 0] _ rfl (by omega) (fun j hj => ?_)).mono ?_
  · rw [World.cell?_alloc_at _ _ _ _ rfl]
    match j, hj with
    | 0, _ => rfl
    | 1, _ => rfl
  rintro e w' ⟨rfl, rfl⟩
  rw [show firstE [0, 0] = 0 from rfl]
  have hb1 : Below w.heap.size w (w.alloc (.cells #[.int .i64 0, .int .i64 0] 29)) := (Below.refl _ _).alloc (Nat.le_refl _) _
  generalize w.alloc (.cells #[.int .i64 0, .int .i64 0] 29) = w1 at *
  have HC1 := Lib.hid (HC.out.keep hb1)
  clear HC
  obtain ⟨c0, c1, c2, cf⟩ := three_cell HC1.out.row
  go_wp2_with fail
  refine (shingles_any t k w1 ht hk1 (by omega) HT.out).mono ?_
  rintro e w2 ⟨v9, rfl, hown9, hb2⟩
  obtain ⟨A9, c9, rfl, q1, hat9, q2⟩ := hown9.at_ strE_ok
  have HAT9 := Lib.hid hat9
  have HC2 := Lib.hid (HC1.out.keep hb2)
  have hb2' := below_trans' hb1 hb2
  clear q1 q2 hown9 hat9 HC1 hb1 hb2 c0 c1 c2 cf
  go_wp2_with fail
  refine (ids_any P M k tot m D w2 HC2.out (by omega)).mono ?_
  rintro e w3 ⟨v30, rfl, hown30, hb3⟩
  obtain ⟨A30, c30, rfl, q1, hat30, q2⟩ := hown30.at_ strE_ok
  have HAT30 := Lib.hid hat30
  have HC3 := Lib.hid (HC2.out.keep hb3)
  have HAT93 := Lib.hid (HAT9.out.keep hb3)
  have hb3' := below_trans' hb2' hb3
  clear q1 q2 hown30 hat30 HC2 HAT9 hb2' hb3
  go_wp2_with fail
  generalize hids : sortK (strKeys D) = ids at *
  go_loopg [10, 32] ids.length (fun gk v i wr => ∃ j : Nat, Hid (j + gk = ids.length) ∧ i = .int .i64 j ∧ Owns MatchE wr w3.heap.size v (nearTo D k t.data.toList least j) ∧ Below w3.heap.size w3 wr)
  case atStart => exact ⟨0, show 0 + ids.length = ids.length by omega, rfl, Owns.nil _ _, Below.refl _ _⟩
  case round =>
    obtain ⟨j, HJ, rfl, hown, hb⟩ := hrel
    have hjn : j ≤ ids.length := by have := HJ.out; omega
    have hnl := nearTo_length D k t.data.toList least j
    have hzb := hb.size
    have HO := Lib.hid hown; clear hown
    by_cases hlt : j < ids.length
    · obtain ⟨id, hid⟩ : ∃ id, ids[j]? = some id := ⟨_, List.getElem?_eq_getElem hlt⟩
      obtain ⟨hidl, tx, htx, htxl⟩ := hD id (HSK.out id (List.mem_of_getElem? hid))
      have HSU := Lib.hid (nearTo_succ D k t.data.toList least j id (by rw [hids]; exact hid))
      have HTX : Hid (textD D id = tx) := by show _ = _; unfold textD; rw [htx]
      have HCR := Lib.hid (HC3.out.keep hb)
      obtain ⟨g30, o30, hA, hg30, hc30⟩ := HAT30.out.2.2.2 (by omega)
      subst hA
      have cid := (hb.cell (p := ⟨g30, o30 + j * StrE.size + 0, none⟩) hg30).trans (hc30 j id 0 _ hid rfl)
      have hsz : StrE.size = 1 := rfl
      rw [hsz, Nat.mul_one, Nat.add_zero] at cid
      clear hsz hc30 hid
      have cid' : wr.cell? ⟨g30, o30 + j, none⟩ = some (.string (bag id)) := cid
      clear cid
      have HHELD : Hid (∀ w', Below wr.heap.size wr w' → w'.cell? ⟨P, 0, none⟩ = some (.int .i64 (k : Int)) ∧ w'.cell? ⟨P, 2, none⟩ = some (.map (some M)) ∧ (Instr.lookup 85 (.map (some M)) (.string (bag id)) false).run Tryz.prog w' = .ok (.string (bag tx)) w' ∧ Below wr.heap.size wr w') := fun w' hw => held_of HCR.out hidl htx hw
      clear htx
      have HTX2 := Lib.hid (win_small tx k htxl hk2)
      have HTXL := Lib.hid (shin_len tx k htxl)
      have htb : (bag tx).size ≤ 20000 := by rw [bag_size]; exact htxl
      have HAT9R := Lib.hid (HAT93.out.keep hb)
      go_upto_region 9 with (fail)
      generalize hq : likeL (shinL t.data.toList k) (shinL tx k) = q at *
      go_cut [13] (fun v wx => ∃ F, v = .pointer (some ⟨F, 0, none⟩) ∧ wx.heap[F]? = some (.cells #[.int .i64 (q.1 : Int), .int .i64 (q.2 : Int)] 57 (0, 0)) ∧ Below wr.heap.size wr wx)
      case first =>
        have hh0 := HHELD.out wr (Below.refl _ _)
        obtain ⟨hh1, hh2, hh3, _⟩ := hh0
        go_region_held3 (fun w' => w'.cell? ⟨P, 0, none⟩ = some (.int .i64 (k : Int)) ∧ w'.cell? ⟨P, 2, none⟩ = some (.map (some M)) ∧ (Instr.lookup 85 (.map (some M)) (.string (bag id)) false).run Tryz.prog w' = .ok (.string (bag tx)) w' ∧ Below wr.heap.size wr w')
          (first | assumption | exact HHELD.out _ (((Below.refl _ _).drew).alloc (Nat.le_refl _) _) | exact HHELD.out _ (hx0.alloc hx0.size _) | exact HHELD.out _ ((hy0.setCell hx0.size _).setCell hx0.size _) | exact HHELD.out _ ((hy0.setCell (Nat.le_refl _) _).setCell (Nat.le_refl _) _) | exact HHELD.out _ (((hy0.alloc hy0.size _).setCell hy0.size _).setCell hy0.size _) | exact HHELD.out _ (hy0.alloc hy0.size _) | exact HHELD.out _ ((Below.refl _ _).drew) | exact HHELD.out _ (by assumption) | exact HHELD.out _ (Below.alloc (by assumption) (by have := Below.size (by assumption : Below wr.heap.size wr _); omega) _))
          (first
            | (go_at_call 52; (with_reducible refine Calls.mono (shingles_any (bag tx) k _ htb hk1 (by omega) (by rw [bag_data]; exact HTX2.out)) ?_); rintro e wx ⟨vx, rfl, hownx, hbx⟩; obtain ⟨Ax, cx, rfl, hq1, hatx, hq2⟩ := hownx.at_ strE_ok; rw [bag_data] at hatx; clear hq1 hq2 hownx; have hx0 : Below wr.heap.size wr wx := (by first | exact below_undrew hbx | exact below_unalloc (below_undrew hbx) | exact below_undrew (below_unalloc hbx)); (first | have hFx := row_through hbx | have hFx := row_through (below_undrew hbx) | skip); have HATX := Lib.hid hatx; clear hatx; rw [bag_data])
            | (go_at_call 53; (with_reducible refine Calls.mono (likeS_any A9 Ax (shinL t.data.toList k).length c9 (shinL tx k).length cx (shinL t.data.toList k) (shinL tx k) _ ?_ ?_ HTL.out HTXL.out) ?_); (first | exact HAT9R.out.keep hx0 | exact HAT9R.out.keep (hx0.alloc hx0.size _)); (first | exact HATX.out | exact HATX.out.keep ((Below.refl _ _).alloc (Nat.le_refl _) _)); rw [hq]; rintro e wy ⟨rfl, hby⟩; have hy0 : Below wr.heap.size wr wy := (by first | exact below_trans' hx0 hby | exact below_trans' hx0 (below_unalloc hby)); (first | have hFy := row_on hby hFx | skip); (first | have hFy := row_through hby | skip); (first | (have hcc := two_cell hFy; obtain ⟨f0, f1, ff0, ff1⟩ := hcc) | skip)))
        all_goals
          go_wp2_with fail
          go_meet
          first
            | exact ⟨_, rfl, heap_alloc_new _ _, hy0.alloc hy0.size _⟩
            | exact ⟨_, rfl, frac_meet hFy hx0.size hy0⟩
            | exact ⟨_, rfl, frac_meet hFy (Nat.le_refl _) hy0⟩
      case rest =>
        obtain ⟨F, rfl, hrow, hbc⟩ := hcut
        obtain ⟨f0, f1, ff0, ff1⟩ := two_cell hrow
        have hql : q.1 ≤ 1000000 ∧ q.2 ≤ 1000000 := by rw [← hq]; exact like_le _ _ HTL.out HTXL.out
        have HON : Hid (nearOne D k t.data.toList least id = if enoughL q least = true then [(id, q)] else []) := by show _ = _; unfold nearOne; rw [HTX.out, hq]
        have hzc := hbc.size
        go_wp2_with fail
        refine (enough_any q least wc hql.1 hql.2 hl2).mono ?_
        rintro e w5 ⟨rfl, hb5⟩
        have hrow5 := row_on hb5 hrow
        have hb5' : Below wr.heap.size wr w5 := below_trans' hbc hb5
        have HO5 := Lib.hid (HO.out.below_ hb5')
        have hbw5 : Below w3.heap.size w3 w5 := below_trans' hb hb5'
        have hz5 := hbw5.size
        clear HO hbc hb5 f0 f1 ff0 ff1 hrow HHELD HCR
        cases hen : enoughL q least with
        | false =>
          have HSU2 : Hid (nearTo D k t.data.toList least (j + 1) = nearTo D k t.data.toList least j) := by show _ = _; rw [HSU.out, HON.out, hen]; simp
          go_wp2_with fail
          go_roundg (gk - 1)
          case measure => have := HJ.out; omega
          case rel => exact ⟨j + 1, show j + 1 + (gk - 1) = ids.length by have := HJ.out; omega, by go_num, by rw [HSU2.out]; exact HO5.out, hbw5⟩
        | true =>
          have HSU2 : Hid (nearTo D k t.data.toList least (j + 1) = nearTo D k t.data.toList least j ++ [(id, q)]) := by show _ = _; rw [HSU.out, HON.out, hen]; simp
          obtain ⟨f0, f1, ff0, ff1⟩ := two_cell hrow5
          clear hrow5 hen HON HSU
          go_wp2_with (at_builtin; refine append_elems matchE_ok rfl _ _ rfl w3.heap.size _ (nearTo D k t.data.toList least j) rfl (World.ownsRow.alloc HO5.out _) (some ⟨w5.heap.size, 0, none⟩) 1 1 [(id, q)] rfl (one_elem (E := MatchE) w5 (id, q)) (by simp; omega) (by simp; omega) ?_; intro v7 w7 hown7 hgrow7 _)
          have hb7 : Below w3.heap.size w3 w7 := (hbw5.alloc hbw5.size _).grown hgrow7 (by simp; omega) (fun i hi => (HO5.out.lt i hi).1)
          have HO7 := Lib.hid hown7; clear hown7 hgrow7
          go_wp2_with fail
          go_roundg (gk - 1)
          case measure => have := HJ.out; omega
          case rel => exact ⟨j + 1, show j + 1 + (gk - 1) = ids.length by have := HJ.out; omega, by go_num, by rw [HSU2.out]; exact HO7.out, hb7⟩
    · have hfin : nearTo D k t.data.toList least j = nearL D k t.data.toList least := by unfold nearTo nearL; rw [hids, List.take_of_length_le (by omega)]
      rw [hfin] at HO hnl
      clear hfin
      generalize nearL D k t.data.toList least = L at *
      obtain ⟨A10, c10, rfl, q1, hat10, q2⟩ := HO.out.at_ matchE_ok
      clear q1 q2 hat10
      go_wp2_with fail
      refine (sortStableM_any w3.heap.size L.length c10 A10 L wr rfl (by omega) HO.out).mono ?_
      rintro e w5 ⟨rfl, hat5, hgrow5⟩
      have hb5 : Below w3.heap.size w3 w5 := hb.grown hgrow5 hzb (fun i hi => (HO.out.lt i hi).1)
      go_wp2_with fail
      go_ret2
      exact ⟨_, _, _, rfl, by omega, hat5, below_trans' hb3' hb5⟩
end Go.Proofs.YtehhigcdeahopaaGreatDoor
