
/-
  What Common returns.
-/
import Derived.Test.YtabdjkcediolcaaGreatDoorPara2
import Derived.Test.YtabdjkcediolcaaGreatDoorCommonPlain
import Derived.Test.YtabdjkcediolcaaGreatDoorCheckB
namespace Go.Proofs.YtabdjkcediolcaaGreatDoor
open Go.RowKit Go.Maps

theorem ParasAt.kept_ {w w' : World} {base : Nat} {v : Value} {rs : List HdS} {ps : List (List Str)} {row : Option Nat} (h : ParasAt w base v rs ps) (hg : w.grownBy w' row) (hr : ∀ i, row = some i → i < base) : ParasAt w' base v rs ps :=
  ⟨h.own.kept_ hg hr, h.len, fun k r p hk hp => (h.each k r p hk hp).kept_ hg hr, h.apart⟩
/-- One of the paragraphs: its header's cell, and its lines. -/
theorem ParasAt.at_ {w : World} {base : Nat} {v : Value} {rs : List HdS} {ps : List (List Str)} (h : ParasAt w base v rs ps) (j : Nat) (p : List Str) (hp : ps[j]? = some p) :
    ∃ G c A c2, v = .slice (some ⟨G, 0, none⟩) ps.length c ∧ G < w.heap.size ∧ w.cell? ⟨G, j, none⟩ = some (.slice A p.length c2) ∧ StrsAt w A p.length c2 p := by
  have hj : j < ps.length := (List.getElem?_eq_some_iff.1 hp).1
  have hl := h.len
  obtain ⟨r, hr⟩ : ∃ r, rs[j]? = some r := ⟨_, List.getElem?_eq_getElem (by omega)⟩
  obtain ⟨G, c, he, _, h2, hc⟩ := h.own.where_ lineE_ok (by omega)
  have h3 := (hc j r 0 r.v hr rfl).1
  have e1 : j * LineE.size + 0 = j := by show j * 1 + 0 = _; omega
  rw [e1] at h3
  obtain ⟨A, c2, hv, _, hat, _⟩ := (h.each j r p hr hp).at_ strE_ok
  rw [hv] at h3
  exact ⟨G, c, A, c2, by rw [he, hl], h2, h3, hat⟩
theorem ParasAt.slice_ {w : World} {base : Nat} {v : Value} {rs : List HdS} {ps : List (List Str)} (h : ParasAt w base v rs ps) : ∃ A c, v = .slice A ps.length c := by
  obtain ⟨A, c, hv, _⟩ := h.own.at_ lineE_ok
  exact ⟨A, c, by rw [hv, h.len]⟩
theorem join_para {L : Str} {p : List Str} (hp : p ∈ parasL L) : (Lib.join p [10]).length ≤ L.length ∧ p.length ≤ L.length + 1 ∧ (formL p).length ≤ L.length := by
  have h1 := costP_mem hp
  have h2 := parasL_cost L
  have hne := (parasL_right L p hp).1
  have h3 := congrArg List.length (join_lines p hne)
  rw [linesT_length, List.length_append] at h3
  have h4 := costP_len p
  have h5 := formL_size p
  simp at h3
  omega
theorem costL_len (ps : List (List Str)) : ps.length ≤ costL ps := by
  induction ps with
  | nil => simp
  | cons p ps ih => simp only [costL, List.map_cons, List.sum_cons, List.length_cons] at *; omega
theorem parasL_few (L : Str) : 3 * (parasL L).length ≤ L.length + 2 := by
  refine Nat.le_trans ?_ (parasL_cost L)
  have h := parasL_right L
  generalize parasL L = ps at *
  induction ps with
  | nil => simp
  | cons p ps ih =>
    have ih := ih (fun q hq => h q (List.mem_cons_of_mem _ hq))
    have e : costL (p :: ps) = costP p + 1 + costL ps := by simp [costL]
    obtain ⟨h1, h2⟩ := h p (by simp)
    have h3 : 2 ≤ costP p := by
      cases p with
      | nil => exact absurd rfl h1
      | cons s p =>
        have hs := (h2 s (by simp)).1
        have : 1 ≤ s.length := by
          cases s with
          | nil => simp [blankL] at hs
          | cons a s => simp
        simp only [costP, List.map_cons, List.sum_cons]
        omega
    rw [e, List.length_cons]
    omega
theorem parasL_len (L : Str) : (parasL L).length ≤ L.length + 2 := Nat.le_trans (costL_len _) (parasL_cost L)

def textsL (l : List Body2) : List Str := l.map fun x => x.2.data.toList
def CommonPost (w : World) (ts : List Str) (e : Ending) (w' : World) : Prop := ∃ A n c out, e = .returned (.tuple #[.slice A n c, .int .i64 0]) ∧ n ≤ 100000 ∧ StrsAt w' A n c out ∧ CommonOf ts 2 out ∧ Below w.heap.size w w' ∧ NewAt A w.heap.size
theorem first_2 (a b : Int) (g : Nat) (w : World) (h : g = w.heap.size) (t : TypeId) : Calls Tryz.prog 26 #[.slice (some ⟨g, 0, none⟩) 2 2] (w.alloc (.cells #[.int .i64 a, .int .i64 b] t)) fun e w' => e = .returned (.int .i64 (firstE [a, b])) ∧ (w.alloc (.cells #[.int .i64 a, .int .i64 b] t)) = w' := by
  refine first_any g 2 2 [a, b] _ rfl (by omega) (fun j hj => ?_)
  rw [h, World.cell?_alloc_at _ _ _ _ rfl]
  match j, hj with
  | 0, _ => rfl
  | 1, _ => rfl

theorem strKeys_len' (D : DataW Unit) : (strKeys D).length ≤ Maps.size D := by
  cases D <;> simp [strKeys, Maps.size]
theorem key_le {x : Str} (h : x.length ≤ maxLen) : keyOf Tryz.prog 9 (.string (bag x)) = some (.string x) := by
  have := WideMaps.keyOf_string_mk (P := Tryz.prog) Tryz.underlying9 (s := bag x) (by rw [bag_size]; exact h)
  rw [bag_data] at this
  exact this
theorem wf64 (z : Int) (h1 : 0 ≤ z) (h2 : z ≤ 1000000) : (Lit.int .i64 z).wf = true := by
  have e1 : IntKind.i64.min = -9223372036854775808 := by decide
  have e2 : IntKind.i64.max = 9223372036854775807 := by decide
  simp only [Lit.wf, e1, e2, Bool.and_eq_true, decide_eq_true_eq]
  omega
theorem lookI {w : World} {M m : Nat} {D : DataW Unit} (h : w.ownsMap Tryz.prog 9 (plainElem Tryz.prog 3) M m D) (id : Str) (hid : keyOf Tryz.prog 9 (.string (bag id)) = some (.string id)) (z : Int) (hb : D.atKey (.string id) (.lit (.int .i64 0)) = .lit (.int .i64 z)) (q : Nat) :
    (Instr.lookup 66 (.map (some M)) (.string (bag id)) false).run Tryz.prog (w.drewN q) = .ok (.int .i64 z) (w.drewN q) := by
  have hd : (w.drewN q).ownsMap Tryz.prog 9 (plainElem Tryz.prog 3) M m D := h
  obtain ⟨c, hrun, hat, _⟩ := hd.lookup_int keyS Tryz.underlying66 Tryz.underlying3 (by kernel_rfl) hid
  rw [hb] at hat
  simp only [DataW.lit.injEq, Lit.int.injEq, true_and] at hat
  rw [hat]
  exact hrun
theorem invK_str : ∀ key kl, keyOf Tryz.prog 9 key = some kl → ∃ x : Str, key = .string (bag x) := fun key kl h => by
  obtain ⟨x, hx, _⟩ := Maps.keyOf_str Tryz.underlying9 h
  exact ⟨x, hx⟩
theorem invV_bool : ∀ v y, plainElem (H := Unit) Tryz.prog 4 v = some y → ∃ c : Bool, v = .bool c := fun v y h => by
  obtain ⟨b, hb, _⟩ := elem_bool_inv Tryz.underlying4 h
  exact ⟨b, hb⟩
theorem key_bag {x : Str} {kl : Lit} (h : keyOf Tryz.prog 9 (.string (bag x)) = some kl) : kl = .string x := by
  obtain ⟨y, hy, hk, _⟩ := Maps.keyOf_str Tryz.underlying9 h
  have : bag x = bag y := by simpa [encStr, bag] using hy
  rw [hk, bag_inj.1 this]
theorem outL_snoc (ks : List Str) (g : Str → Nat) (j : Nat) (f : Str) (h : ks[j]? = some f) : outL (ks.take (j + 1)) g 2 = outL (ks.take j) g 2 ++ (if !decide (f = []) && decide (2 ≤ g f) then [f] else []) := by
  obtain ⟨hj, rfl⟩ := List.getElem?_eq_some_iff.1 h
  unfold outL
  rw [List.take_succ_eq_append_getElem hj, List.filter_append]
  congr 1
  simp only [List.filter_cons, List.filter_nil]
theorem outL_len (ks : List Str) (g : Str → Nat) (j : Nat) : (outL (ks.take j) g 2).length ≤ j := by
  unfold outL
  exact Nat.le_trans (List.length_filter_le _ _) (by rw [List.length_take]; omega)

set_option maxHeartbeats 1600000 in
set_option maxRecDepth 100000 in
theorem common_bad (A : Option Addr) (n c : Nat) (l : List Body2) (w : World) (h : ElemsAt BodyE w A n c l) (hn : n ≤ 1000) (hs : ∀ x ∈ l, TextOk x) (hf : faultL l ≠ 0) :
    Calls Tryz.prog 9 #[.slice A n c, .int .i64 2] w fun e w' => e = .returned (.tuple #[.slice none 0 0, .int .i64 (faultL l)]) ∧ Below w.heap.size w w' := by
  have HC := Lib.hid (checkBodies_any A n c l w h hn hs)
  have hin : inB 2 2 300 = true := by decide
  clear h hs
  go_enter Tryz.func9, Tryz.ntmps9
  go_wp2_with fail
  refine HC.out.mono ?_
  rintro e w1 ⟨rfl, hb1⟩
  clear HC
  generalize hEq : faultL l = E at *
  have hE : (E != 0) = true := by simpa using hf
  have HF : Hid (firstE [E, 0] = E) := by show _ = _; simp [firstE, hf]
  have hal : Below w.heap.size w (w1.alloc (.cells #[.int .i64 E, .int .i64 0] 34)) := hb1.alloc hb1.size _
  clear hf
  go_wp2_with fail
  refine (in_any 2 2 300 w1).mono ?_
  rintro e w' ⟨rfl, rfl⟩
  rw [hin]
  go_wp2_with fail
  refine (when_any false 1 w1).mono ?_
  rintro e w' ⟨rfl, rfl⟩
  go_wp2_with fail
  refine (first_2 E 0 _ w1 rfl _).mono ?_
  rintro e w' ⟨rfl, rfl⟩
  rw [HF.out]
  go_wp2_with fail
  go_ret2
  exact ⟨by rw [hEq]; rfl, hal⟩
set_option maxHeartbeats 6400000 in
set_option maxRecDepth 100000 in
theorem common_any (A : Option Addr) (n c : Nat) (l : List Body2) (w : World) (h : ElemsAt BodyE w A n c l) (hn : n ≤ 6) (hs : ∀ x ∈ l, TextOk x) (hf : faultL l = 0) (hM : MaxAt w) :
    Calls Tryz.prog 9 #[.slice A n c, .int .i64 2] w (CommonPost w (textsL l)) := by
  have HC := Lib.hid (checkBodies_any A n c l w h (by omega) hs)
  have HR := Lib.hid (faultL_ok l hf)
  have HN := Lib.hid h.1
  have HH := Lib.hid h
  have HM := Lib.hid hM
  have hin : inB 2 2 300 = true := by decide
  have HF0 := Lib.hid hf
  have hmm := @run_makeMap Tryz.prog
  clear h hs hf hM
  go_enter Tryz.func9, Tryz.ntmps9
  go_wp2_with fail
  refine HC.out.mono ?_
  rintro e w1' ⟨rfl, hb1'⟩
  rw [HF0.out]
  have hal : Below w.heap.size w (w1'.alloc (.cells #[.int .i64 0, .int .i64 0] 34)) := hb1'.alloc hb1'.size _
  go_wp2_with fail
  refine (in_any 2 2 300 w1').mono ?_
  rintro e w' ⟨rfl, rfl⟩
  rw [hin]
  go_wp2_with fail
  refine (when_any false 1 w1').mono ?_
  rintro e w' ⟨rfl, rfl⟩
  go_wp2_with fail
  refine (first_2 0 0 _ w1' rfl _).mono ?_
  rintro e w' ⟨rfl, rfl⟩
  rw [show firstE [0, 0] = 0 from rfl]
  generalize w1'.alloc (.cells #[.int .i64 0, .int .i64 0] 34) = w1 at *
  have hHw := Lib.hid (HH.out.keep hal)
  have HM1 := Lib.hid (HM.out.below hal)
  clear hb1' HC HM hin HH HF0
  go_wp2_with fail
  go_loopg [31] n (fun gk i wr => ∃ (k : Nat) (D : DataW Unit), Hid (k + gk = n) ∧ i = .int .i64 k ∧ Hid (wr.ownsMap Tryz.prog 9 (plainElem Tryz.prog 3) w1.heap.size (6668 * k) D) ∧ Hid (Many D (cntF ((textsL l).take k))) ∧ Below w1.heap.size w1 wr)
  case atStart => exact ⟨0, .map [], show 0 + n = n by omega, rfl, World.ownsMap_made w1 _ _ _, Many.start.congr (fun f => rfl), (Below.refl _ _).alloc (Nat.le_refl _) _⟩
  case round =>
    obtain ⟨k, D, HK, rfl, HD, HMA, hb⟩ := hrel
    have hkn : k ≤ n := by have := HK.out; omega
    have hzb := hb.size
    by_cases hlt : k < n
    · obtain ⟨x, hx⟩ : ∃ x, l[k]? = some x := ⟨_, List.getElem?_eq_getElem (by have := HN.out; omega)⟩
      obtain ⟨gA, oA, hA, hgA, hcA⟩ := hHw.out.2.2.2 (by omega)
      subst hA
      have c0 := (hb.cell (p := ⟨gA, oA + k * BodyE.size + 0, none⟩) hgA).trans (hcA k x 0 _ hx rfl)
      have c1 := (hb.cell (p := ⟨gA, oA + k * BodyE.size + 1, none⟩) hgA).trans (hcA k x 1 _ hx rfl)
      have hsz : BodyE.size = 2 := rfl
      rw [hsz] at c0 c1
      rw [Nat.add_zero] at c0
      have hx20 := HR.out.small x (List.mem_of_getElem? hx)
      have HTS : Hid ((textsL l).take (k + 1) = (textsL l).take k ++ [x.2.data.toList]) := by
        show _ = _
        obtain ⟨h1, h2⟩ := List.getElem?_eq_some_iff.1 hx
        have h3 : k < (textsL l).length := by simpa [textsL] using h1
        rw [List.take_succ_eq_append_getElem h3]
        congr 2
        simp [textsL, h2]
      clear hcA hsz hx
      obtain ⟨x1, x2⟩ := x
      simp only at *
      have HMR := Lib.hid ((HM1.out.below (hb.mono (Nat.le_refl _))))
      have hx2l : x2.data.toList.length = x2.size := by simp
      have HPL : Hid ((parasL x2.data.toList).length ≤ 6668) := by show _ ≤ _; have := parasL_few x2.data.toList; omega
      have HJP : Hid (∀ p ∈ parasL x2.data.toList, (Lib.join p [10]).length ≤ 20000 ∧ p.length ≤ 20001 ∧ (formL p).length ≤ 20000) := fun p hp => by have := join_para hp; omega
      have HEND : Hid (∀ left : Lit → Bool, (∀ k, left k = false) → ∀ f, partG ((textsL l).take k) (inD (parasL x2.data.toList)) left f = cntF ((textsL l).take (k + 1)) f) := fun left hl f => by rw [HTS.out]; exact partG_end _ _ left hl f
      have HCB : Hid (∀ (Din : DataW Unit) (left : Lit → Bool) (f : Str), partG ((textsL l).take k) Din left f ≤ 100) := fun Din left f => by
        have h1 : cntF ((textsL l).take k) f ≤ k := Nat.le_trans (List.countP_le_length) (by rw [List.length_take]; omega)
        unfold partG
        split <;> omega
      clear HTS hx2l
      go_wp2_with fail
      have hX : Below wr.heap.size wr ((wr.alloc (.cells #[.string x1, .string x2] 30)).alloc (.map #[] 0)) := ((Below.refl _ _).alloc (Nat.le_refl _) _).alloc (by simp) _
      have HIN0 : Hid (((wr.alloc (.cells #[.string x1, .string x2] 30)).alloc (.map #[] 0)).ownsMap Tryz.prog 9 (plainElem Tryz.prog 4) (wr.heap.size + 1) 0 (.map [] : DataW Unit)) := by
        have h := World.ownsMap_made (H := Unit) (wr.alloc (.cells #[.string x1, .string x2] 30)) Tryz.prog 9 (plainElem Tryz.prog 4)
        have e : (wr.alloc (.cells #[.string x1, .string x2] 30)).heap.size = wr.heap.size + 1 := by simp
        rw [e] at h
        exact h
      have hXs : ((wr.alloc (.cells #[.string x1, .string x2] 30)).alloc (.map #[] 0)).heap.size = wr.heap.size + 2 := by simp
      generalize ((wr.alloc (.cells #[.string x1, .string x2] 30)).alloc (.map #[] 0)) = X at *
      refine (paragraphs_any x2 X hx20 (HMR.out.below hX)).mono ?_
      rintro e w3 ⟨v38, rs, rfl, hpar, hb3⟩
      obtain ⟨A38, c38, rfl⟩ := hpar.slice_
      have HPAR := Lib.hid hpar; clear hpar
      have HIN3 := Lib.hid (HIN0.out.kept (below_grown hb3 none) (by simp))
      have HD3 := Lib.hid ((HD.out.kept (below_grown hX none) (by simp)).kept (below_grown hb3 none) (by simp))
      have hb3' : Below w1.heap.size w1 w3 := hb.trans ((below_trans' hX hb3).mono hzb)
      have hMl : w1.heap.size < wr.heap.size := HD.out.lt
      have hz3 := hb3.size
      generalize parasL x2.data.toList = ps at *
      have hpl : ps.length ≤ 6668 := HPL.out
      clear HIN0 HD hX hb3 c0 c1 hb HPL HMR hx20
      obtain ⟨wo, rfl⟩ : ∃ wo : World, wo = wr := ⟨_, rfl⟩
      obtain ⟨ko, rfl⟩ : ∃ ko : Nat, ko = gk := ⟨_, rfl⟩
      go_wp2_with fail
      go_loopg [40] ps.length (fun gk v40 wq => ∃ j : Nat, Hid (j + gk = ps.length) ∧ v40 = .int .i64 j ∧ Hid (wq.ownsMap Tryz.prog 9 (plainElem Tryz.prog 4) (wo.heap.size + 1) j (inD (ps.take j))) ∧ Hid (w3.grownBy wq (some (wo.heap.size + 1))))
      case atStart => exact ⟨0, show 0 + ps.length = ps.length by omega, rfl, HIN3.out, World.grownBy.refl _ _⟩
      case round =>
        obtain ⟨j, HJ, rfl, HIN, HG⟩ := hrel
        have hjn : j ≤ ps.length := by have := HJ.out; omega
        have HPQ := Lib.hid (HPAR.out.kept_ HG.out (fun i hi => by cases hi; omega))
        by_cases hjl : j < ps.length
        · obtain ⟨p, hp⟩ : ∃ p, ps[j]? = some p := ⟨_, List.getElem?_eq_getElem hjl⟩
          obtain ⟨G, cG, Ap, cp, hv, hGl, hcell, hat⟩ := HPQ.out.at_ j p hp
          simp only [Value.slice.injEq] at hv
          obtain ⟨rfl, _, rfl⟩ := hv
          obtain ⟨hq1, hq2, hq3⟩ := HJP.out p (List.mem_of_getElem? hp)
          have HSN : Hid (inD (ps.take (j + 1)) = (inD (ps.take j)).put (.string (formL p)) (.lit (.bool true))) := by
            show _ = _
            obtain ⟨h1, h2⟩ := List.getElem?_eq_some_iff.1 hp
            rw [List.take_succ_eq_append_getElem h1, inD_snoc, h2]
          have HATP := Lib.hid hat; clear hat hp HPQ
          go_wp2_with fail
          refine (form_any Ap p.length cp p wr HATP.out (by omega) hq1).mono ?_
          rintro e w4 ⟨rfl, hb4⟩
          have HIN4 := Lib.hid (HIN.out.kept (below_grown hb4 none) (by simp))
          have HG4 := Lib.hid (grown_below HG.out hb4)
          have HKF := Lib.hid (key_le (x := formL p) (by simp only [maxLen]; omega))
          generalize formL p = f at *
          clear HIN HG hcell hq1 hq2 HATP hb4 hGl
          go_wp2_with (at_mapUpdate; refine wpList_mapUpdate_own _ rfl _ _ _ 67 rfl 9 4 keyS Tryz.underlying67 _ (wo.heap.size + 1) j _ rfl HIN4.out (by simp only [maxLen]; omega) _ _ (.string f) rfl rfl HKF.out (.lit (.bool true)) [] (plainElem_bool Tryz.underlying4 true) ?_; intro w5 hown5 hgrow5)
          go_roundg (gk - 1)
          case measure => have := HJ.out; omega
          case rel => exact ⟨j + 1, show j + 1 + (gk - 1) = ps.length by have := HJ.out; omega, by go_num, (by show World.ownsMap _ _ _ _ _ _ _; rw [HSN.out]; exact hown5), grown_trans HG4.out hgrow5⟩
        · have hje : ps.take j = ps := List.take_of_length_le (by omega)
          rw [hje] at HIN
          have HD4 := Lib.hid (HD3.out.kept HG.out (by simp; omega))
          have hb4 : Below w1.heap.size w1 wr := hb3'.grown HG.out hb3'.size (fun i hi => by cases hi; omega)
          have hsz4 : Maps.size (inD ps) ≤ j := HIN.out.size_le
          have hz4 : wo.heap.size + 1 < wr.heap.size := HIN.out.lt
          clear HPQ HG HD3 hb3' hje HIN3 HPAR
          obtain ⟨wq, rfl⟩ : ∃ wq : World, wq = wr := ⟨_, rfl⟩
          obtain ⟨kq, rfl⟩ : ∃ kq : Nat, kq = gk := ⟨_, rfl⟩
          generalize hDI : inD ps = DI at *
          go_wp2_with (at_range; refine wpList_range_own _ rfl _ 67 rfl 9 4 keyS Tryz.underlying67 _ (wo.heap.size + 1) j _ rfl HIN.out ?_; intro w6 hrg6 hg6 hs6)
          go_frame
          go_loopg [13] (Maps.size DI) (fun gk _ wr => ∃ (left : Lit → Bool) (D' : DataW Unit), Hid (wr.ranges Tryz.prog 9 (plainElem Tryz.prog 4) (wo.heap.size + 1) wq.heap.size j DI left gk) ∧ Hid (gk ≤ Maps.size DI) ∧ Hid (wr.ownsMap Tryz.prog 9 (plainElem Tryz.prog 3) w1.heap.size (6668 * k + (Maps.size DI - gk)) D') ∧ Hid (Many D' (partG ((textsL l).take k) DI left)) ∧ Below w1.heap.size w1 wr)
          case atStart => exact ⟨_, D, hrg6, Nat.le_refl _, ((HD4.out.kept hg6 (by simp)).mono (by omega)), HMA.out.congr (fun f => partG_start _ _ f), hb4.grown hg6 hb4.size (fun i hi => by cases hi)⟩
          case round =>
            obtain ⟨left, D', HRG, HGS, HD', HMA', hb'⟩ := hrel
            have hgs := HGS.out
            go_wp2_with (at_next; refine wpList_next_ranges _ rfl _ rfl 9 keyS _ (fun x : Str => Value.string (bag x)) (fun v : Value => v) invK_str (fun v _ _ => ⟨v, rfl⟩) (wo.heap.size + 1) wq.heap.size j _ _ _ rfl HRG.out (Hid.out ?_) (Hid.out ?_))
            · refine Lib.hid ?_
              intro hc0 hl0
              have HM2 : Hid (Many D' (cntF ((textsL l).take (k + 1)))) := HMA'.out.congr (fun f => (HEND.out left hl0 f).symm)
              have HD2 : Hid (wr.ownsMap Tryz.prog 9 (plainElem Tryz.prog 3) w1.heap.size (6668 * (k + 1)) D') := HD'.out.mono (by omega)
              clear hl0 HMA' HRG HEND HCB HD' HD4
              go_wp2_with fail
              go_roundg (ko - 1)
              case measure => have := HK.out; omega
              case rel => exact ⟨k + 1, D', show k + 1 + (ko - 1) = n by have := HK.out; omega, by go_num, HD2.out, HM2.out, hb'⟩
            · refine Lib.hid ?_
              intro x cb kl ya yb w7 cnt7 hkey hlk hRv hat hrg7 hlt7 hg7 hs7 hen
              obtain rfl := key_bag hkey
              have hhas := has_true_of_atKey hat
              have HD7 := Lib.hid (HD'.out.kept hg7 (by simp; omega))
              have hb7 : Below w1.heap.size w1 w7 := hb'.grown hg7 hb'.size (fun i hi => by cases hi; omega)
              have HST := Lib.hid (Many.step HMA'.out x hlk hhas)
              have hlkI := lookI HD7.out x hkey _ (HMA'.out.at_ x) 0
              have hgx := HCB.out DI left x
              generalize partG ((textsL l).take k) DI left x = gx at *
              have HRG7 := Lib.hid hrg7
              have HKEY := Lib.hid hkey
              clear hat hlk hRv hhas hrg7 hkey HRG HMA' HD' HEND
              have hlkI' : (Instr.lookup 66 (.map (some w1.heap.size)) (.string (bag x)) false).run Tryz.prog w7 = .ok (.int .i64 (gx : Int)) w7 := hlkI
              clear hlkI
              go_wp2_with (at_mapUpdate; refine wpList_mapUpdate_own _ rfl _ _ _ 66 rfl 9 3 keyS Tryz.underlying66 _ w1.heap.size _ _ rfl HD7.out (by simp only [maxLen]; omega) _ _ (.string x) rfl rfl HKEY.out (.lit (.int .i64 ((gx : Int) + 1))) [] (plainElem_int Tryz.underlying3 (wf64 _ (by omega) (by omega))) ?_; intro w8 hown8 hgrow8; go_frame)
              have hrg8 := HRG7.out.kept hgrow8 (by simp; omega) (by simp; omega)
              go_roundg cnt7
              case measure => exact hlt7
              case rel => exact ⟨_, _, hrg8, show cnt7 ≤ _ by omega, hown8.mono (by omega), HST.out, hb7.grown hgrow8 hb7.size (fun i hi => by cases hi; exact Nat.le_refl _)⟩
    · have hke : (textsL l).take k = textsL l := List.take_of_length_le (by have := HN.out; simp [textsL]; omega)
      rw [hke] at HMA
      have hsz := HD.out.size_le
      have hkl := strKeys_len' D
      have HKL := Lib.hid (strKeys_le HD.out Tryz.underlying9)
      have HCO := Lib.hid (outL_common HD.out HMA.out 2 (by omega))
      have hMl : w1.heap.size < wr.heap.size := HD.out.lt
      clear hke hmm
      go_wp2_with fail
      refine (keysI_any (some w1.heap.size) wr).mono ?_
      rintro e w' ⟨rfl, rfl⟩
      go_wp2_with fail
      refine (sortedI_any w1.heap.size (6668 * k) D _ wr HD.out (by omega)).mono ?_
      rintro e w2 ⟨v61, rfl, hown61, hb2⟩
      obtain ⟨A61, c61, rfl, q1, hat61, q2⟩ := hown61.at_ strE_ok
      have HAT := Lib.hid hat61
      have HD2 := Lib.hid (HD.out.kept (below_grown hb2 none) (by simp))
      have hb2' : Below w1.heap.size w1 w2 := hb.trans (hb2.mono hzb)
      have hz2 := hb2.size
      have hksl : (sortK (strKeys D)).length ≤ 50000 := by unfold sortK; rw [List.length_mergeSort]; omega
      have HKM : Hid (∀ x ∈ sortK (strKeys D), x.length ≤ maxLen) := fun x hx => HKL.out x ((List.mergeSort_perm _ _).mem_iff.1 hx)
      have HAT1 := Lib.hid HMA.out.at_
      have HCB : Hid (∀ f : Str, cntF (textsL l) f ≤ 100) := fun f => Nat.le_trans (List.countP_le_length) (by have := HN.out; simp [textsL]; omega)
      clear q1 q2 hown61 hat61 HD hb2 hb hzb HKL HMA hsz hkl
      generalize sortK (strKeys D) = ks at *
      go_wp2_with fail
      obtain ⟨wo, rfl⟩ : ∃ wo : World, wo = wr := ⟨_, rfl⟩
      obtain ⟨ko, rfl⟩ : ∃ ko : Nat, ko = gk := ⟨_, rfl⟩
      go_loopg [14, 63] ks.length (fun gk v14 i wr => ∃ j : Nat, Hid (j + gk = ks.length) ∧ i = .int .i64 j ∧ Hid (Owns StrE wr w2.heap.size v14 (outL (ks.take j) (cntF (textsL l)) 2)) ∧ Below w2.heap.size w2 wr)
      case atStart => exact ⟨0, show 0 + ks.length = ks.length by omega, rfl, Owns.nil _ _, Below.refl _ _⟩
      case round =>
        obtain ⟨j, HJ, rfl, HO, hbr⟩ := hrel
        have hjn : j ≤ ks.length := by have := HJ.out; omega
        have hzr := hbr.size
        by_cases hjl : j < ks.length
        · obtain ⟨f, hf⟩ : ∃ f, ks[j]? = some f := ⟨_, List.getElem?_eq_getElem hjl⟩
          obtain ⟨g61, o61, hA61, hg61, hc61⟩ := HAT.out.2.2.2 (by omega)
          subst hA61
          have cf := (hbr.cell (p := ⟨g61, o61 + j * StrE.size + 0, none⟩) hg61).trans (hc61 j f 0 _ hf rfl)
          have hss : StrE.size = 1 := rfl
          rw [hss, Nat.mul_one, Nat.add_zero] at cf
          have cf' : wr.cell? ⟨g61, o61 + j, none⟩ = some (.string (bag f)) := cf
          have HSU := Lib.hid (outL_snoc ks (cntF (textsL l)) j f hf)
          have hol := outL_len ks (cntF (textsL l)) j
          have hkey := key_le (HKM.out f (List.mem_of_getElem? hf))
          have HDR := Lib.hid (HD2.out.kept (below_grown hbr none) (by simp))
          have HLK : Hid (∀ q, (Instr.lookup 66 (.map (some w1.heap.size)) (.string (bag f)) false).run Tryz.prog (wr.drewN q) = .ok (.int .i64 (cntF (textsL l) f : Nat)) (wr.drewN q)) := fun q => lookI HDR.out f hkey _ (HAT1.out f) q
          have hcb := HCB.out f
          clear cf hss hc61 hf hkey HDR
          generalize hcn : cntF (textsL l) f = cn at *
          by_cases hf0 : f = []
          · subst hf0
            have HSU2 : Hid (outL (ks.take (j + 1)) (cntF (textsL l)) 2 = outL (ks.take j) (cntF (textsL l)) 2) := by show _ = _; rw [HSU.out]; simp
            have cf2 : wr.cell? ⟨g61, o61 + j, none⟩ = some (.string ⟨#[]⟩) := cf'
            clear cf' HSU
            go_wp2_with fail
            go_roundg (gk - 1)
            case measure => have := HJ.out; omega
            case rel => exact ⟨j + 1, show j + 1 + (gk - 1) = ks.length by have := HJ.out; omega, by go_num, (by show Owns _ _ _ _ _; rw [HSU2.out]; exact HO.out), hbr⟩
          · have he2 : (bag f).toList.isEmpty = false := by
              rw [Lib.toList_data, bag_data]
              cases f with
              | nil => exact absurd rfl hf0
              | cons a r => rfl
            have hlk := HLK.out 0
            have hlk0 : (Instr.lookup 66 (.map (some w1.heap.size)) (.string (bag f)) false).run Tryz.prog wr = .ok (.int .i64 (cn : Nat)) wr := hlk
            clear hlk
            by_cases hc2 : 2 ≤ cn
            · have hc2i : (2 : Int) ≤ (cn : Int) := by omega
              have HSU2 : Hid (outL (ks.take (j + 1)) (cntF (textsL l)) 2 = outL (ks.take j) (cntF (textsL l)) 2 ++ [f]) := by show _ = _; rw [HSU.out, if_pos (by simp [hf0, hc2])]
              go_wp2_with (at_builtin; refine append_elems strE_ok rfl _ _ rfl w2.heap.size _ (outL (ks.take j) (cntF (textsL l)) 2) rfl (World.ownsRow.alloc HO.out _) (some ⟨wr.heap.size, 0, none⟩) 1 1 [f] rfl (one_elem (E := StrE) wr f) (by simp only [List.length_singleton]; omega) (by simp; omega) ?_; intro v4 w4 hown4 hgrow4 _)
              have hb4 : Below w2.heap.size w2 w4 := (hbr.alloc hbr.size _).grown hgrow4 (by simp; omega) (fun i hi => (HO.out.lt i hi).1)
              go_roundg (gk - 1)
              case measure => have := HJ.out; omega
              case rel => exact ⟨j + 1, show j + 1 + (gk - 1) = ks.length by have := HJ.out; omega, by go_num, (by show Owns _ _ _ _ _; rw [HSU2.out]; exact hown4), hb4⟩
            · have hc2i : ¬ (2 : Int) ≤ (cn : Int) := by omega
              have HSU2 : Hid (outL (ks.take (j + 1)) (cntF (textsL l)) 2 = outL (ks.take j) (cntF (textsL l)) 2) := by show _ = _; rw [HSU.out, if_neg (by simp [hc2])]; simp
              go_wp2_with fail
              go_roundg (gk - 1)
              case measure => have := HJ.out; omega
              case rel => exact ⟨j + 1, show j + 1 + (gk - 1) = ks.length by have := HJ.out; omega, by go_num, (by show Owns _ _ _ _ _; rw [HSU2.out]; exact HO.out), hbr⟩
        · have hje : ks.take j = ks := List.take_of_length_le (by omega)
          have hol := outL_len ks (cntF (textsL l)) j
          rw [hje] at HO hol
          generalize outL ks (cntF (textsL l)) 2 = out at *
          obtain ⟨Ao, co, rfl, q1, hato, q2⟩ := HO.out.at_ strE_ok
          have HATO := Lib.hid hato
          have HQ2 := Lib.hid q2
          clear q1 q2 hato
          have hbf : Below w.heap.size w wr := below_trans' hal (hb2'.trans (hbr.mono (by omega)))
          go_wp2_with fail
          go_ret2
          exact ⟨_, _, _, _, rfl, by omega, HATO.out, HCO.out, hbf, fun g off e => by have := (HQ2.out g off e).2; have := hal.size; have := hb2'.size; omega⟩
end Go.Proofs.YtabdjkcediolcaaGreatDoor
