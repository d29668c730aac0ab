
/-
  What numbered returns: the shingles of documents as sorted numbers.
-/
import Derived.Test.YtabdjkcediolcaaGreatDoorNumPlain
import Derived.Sort.OwnSortedInts
namespace Go.Proofs.YtabdjkcediolcaaGreatDoor
open Go.RowKit Go.Maps Go.Sort

theorem cell_no_map {w : World} {M : Nat} {es : Array MapEntry} {cl : Nat} (h : w.heap[M]? = some (.map es cl)) (o : Nat) : w.cell? ⟨M, o, none⟩ = none := by
  unfold World.cell?
  simp [h]
/-- Slices that are read stay while a map is turned. -/
theorem ElemsAt.beside_map {α : Type} {E : Elem α} (hE : E.Ok) {w w' : World} {A : Option Addr} {n c M : Nat} {l : List α} (h : ElemsAt E w A n c l) {es : Array MapEntry} {cl : Nat} (hm : w.heap[M]? = some (.map es cl)) (hg : w.grownBy w' (some M)) : ElemsAt E w' A n c l := by
  refine ⟨h.1, h.2.1, h.2.2.1, fun h0 => ?_⟩
  obtain ⟨g, off, rfl, hgl, hc⟩ := h.2.2.2 h0
  have hl := h.1
  have hne : g ≠ M := by
    intro e
    subst e
    have hx : l[0]? = some (l[0]'(by omega)) := List.getElem?_eq_getElem (by omega)
    have hp := hE.pos
    have hu : (E.enc (l[0]'(by omega)))[0]? = some ((E.enc (l[0]'(by omega)))[0]'(by rw [hE.len]; exact hp)) := List.getElem?_eq_getElem _
    have := hc 0 _ 0 _ hx hu
    rw [cell_no_map hm] at this
    cases this
  exact ⟨g, off, rfl, Nat.lt_of_lt_of_le hgl hg.size, fun k x i v hk hv => (World.cell?_of_block (hg.block g hgl (fun e => hne (by cases e; rfl)))).trans (hc k x i v hk hv)⟩
theorem ownsMap_block {H : Type} {w : World} {k : TypeId} {R : Value → Option (DataW H × List MemPlace)} {M m : Nat} {D : DataW H} (h : w.ownsMap Tryz.prog k R M m D) : ∃ es cl, w.heap[M]? = some (.map es cl) := by
  obtain ⟨es, cl, hb, _⟩ := h
  exact ⟨es, cl, hb⟩
theorem ownsMap_same {H : Type} {w w' : World} {k : TypeId} {R : Value → Option (DataW H × List MemPlace)} {M m : Nat} {D : DataW H} (h : w.ownsMap Tryz.prog k R M m D) (e : w'.heap[M]? = w.heap[M]?) : w'.ownsMap Tryz.prog k R M m D := by
  obtain ⟨es, cl, hb, r⟩ := h
  exact ⟨es, cl, e.trans hb, r⟩
theorem grown_belowB {a b c : World} {row : Option Nat} (h : a.grownBy b row) (k : Below a.heap.size b c) : a.grownBy c row :=
  ⟨k.os.trans h.os, k.tape.trans h.tape, k.output.trans h.output, Nat.le_trans h.size k.size, fun i hi hne => (k.block i hi).trans (h.block i hi hne)⟩
theorem sortI_any (base : Nat) (v : Value) (l : List Int) (w : World) (h : Owns IntE w base v l) (hl : l.length ≤ 100000) (hbs : base ≤ w.heap.size) :
    Calls Tryz.prog 68 #[v] w fun e w' => e = .returned (.tuple #[]) ∧ Owns IntE w' base v (sortZ l) ∧ Below base w w' := by
  rcases h.2 with ⟨rfl, hn⟩ | ⟨g, cap, cur, rfl, hbase, hb, h1, h2, h3, h4⟩
  · have : l = [] := List.eq_nil_of_length_eq_zero hn
    subst this
    refine (Tryz.slices_Sort_int_none none 0 w).mono ?_
    rintro e w' ⟨rfl, rfl⟩
    exact ⟨rfl, by rw [show sortZ [] = [] by simp [sortZ]]; exact Owns.nil _ _, Below.refl _ _⟩
  · have hH : Holds (Value.int .i64) w g 0 l.toArray := holds_of_blockI hb (by rw [show l.length * IntE.size = l.length from Nat.mul_one _, intE_cells] at h4; exact h4)
    refine (Tryz.slices_Sort_int g 0 cap l w hH (Array.getElem?_eq_some_iff.1 hb).1 (by omega)).mono ?_
    rintro e w' ⟨rfl, nn, os, rfl⟩
    refine ⟨rfl, ?_, ?_⟩
    · unfold Owns
      rw [intE_cells, sortZ_length]
      exact ownsRow_sortedI (ss := l) (ts := sortZ l) (sortZ_length l) hbase hb h1 h2 h3
    · exact (Below.refl _ _).grown (grownBy_sortedI _) hbs (fun j hj => by cases hj; exact hbase)

/-- A value as it is. -/
def holdE : Value → Option (DataW Value × List MemPlace) := fun v => some (.held v, [])
structure NumAt (w : World) (N m : Nat) (D : DataW Value) (hd : Str → Value) (num : Str → List Int) : Prop where
  map : w.ownsMap Tryz.prog 9 holdE N m D
  at_ : ∀ id, D.atKey (.string id) (.held (.slice none 0 0)) = .held (hd id)
  row : ∀ id, ∃ A c, hd id = .slice A (num id).length c ∧ ElemsAt IntE w A (num id).length c (num id)
theorem NumAt.keep {w w' : World} {N m : Nat} {D : DataW Value} {hd : Str → Value} {num : Str → List Int} (h : NumAt w N m D hd num) (hb : Below w.heap.size w w') : NumAt w' N m D hd num :=
  ⟨h.map.kept (below_grown hb none) (by simp), h.at_, fun id => by obtain ⟨A, c, h1, h2⟩ := h.row id; exact ⟨A, c, h1, h2.keep hb⟩⟩
theorem NumAt.beside {w w' : World} {N m M : Nat} {D : DataW Value} {hd : Str → Value} {num : Str → List Int} (h : NumAt w N m D hd num) (hne : N ≠ M) {es : Array MapEntry} {cl : Nat} (hm : w.heap[M]? = some (.map es cl)) (hg : w.grownBy w' (some M)) : NumAt w' N m D hd num :=
  ⟨h.map.kept hg (fun e => hne (by cases e; rfl)), h.at_, fun id => by obtain ⟨A, c, h1, h2⟩ := h.row id; exact ⟨A, c, h1, h2.beside_map intE_ok hm hg⟩⟩
theorem NumAt.look {w : World} {N m : Nat} {D : DataW Value} {hd : Str → Value} {num : Str → List Int} (h : NumAt w N m D hd num) (id : Str) (hid : keyOf Tryz.prog 9 (.string (bag id)) = some (.string id)) (q : Nat) :
    (Instr.lookup 82 (.map (some N)) (.string (bag id)) false).run Tryz.prog (w.drewN q) = .ok (hd id) (w.drewN q) := by
  have hd' : (w.drewN q).ownsMap Tryz.prog 9 holdE N m D := h.map
  obtain ⟨v, ps, hrun, hv⟩ := hd'.lookup keyS Tryz.underlying82 (z := .slice none 0 0) (by kernel_rfl) (zd := .held (.slice none 0 0)) (zp := []) rfl hid
  rw [h.at_ id] at hv
  simp only [holdE, Option.some.injEq, Prod.mk.injEq, DataW.held.injEq] at hv
  rw [hv.1] at hrun
  exact hrun
theorem NumAt.put {w w' : World} {N m : Nat} {D : DataW Value} {hd : Str → Value} {num : Str → List Int} (h : NumAt w N m D hd num) (i : Str) (A : Option Addr) (c : Nat) (l : List Int) (hl : ElemsAt IntE w A l.length c l) (hm : w'.ownsMap Tryz.prog 9 holdE N (m + 1) (D.put (.string i) (.held (.slice A l.length c)))) (hg : w.grownBy w' (some N)) :
    NumAt w' N (m + 1) (D.put (.string i) (.held (.slice A l.length c))) (fun id => if id = i then .slice A l.length c else hd id) (fun id => if id = i then l else num id) := by
  obtain ⟨es, cl, hb⟩ := ownsMap_block h.map
  refine ⟨hm, fun id => ?_, fun id => ?_⟩
  · by_cases e : id = i
    · subst e
      rw [atKey_put_same h.map.isMap (str_key' _)]
      simp
    · rw [atKey_put_other (str_ne e), h.at_ id]
      simp [e]
  · by_cases e : id = i
    · simp only [e, if_true]
      exact ⟨A, c, rfl, hl.beside_map intE_ok hb hg⟩
    · simp only [e, if_false]
      obtain ⟨A', c', h1, h2⟩ := h.row id
      exact ⟨A', c', h1, h2.beside_map intE_ok hb hg⟩
theorem NumAt.congr {w : World} {N m : Nat} {D : DataW Value} {hd : Str → Value} {num num' : Str → List Int} (h : NumAt w N m D hd num) (e : ∀ id, num' id = num id) : NumAt w N m D hd num' := by
  obtain rfl : num' = num := funext e
  exact h
theorem lookI2 {w : World} {M m : Nat} {D : DataW Unit} (h : w.ownsMap Tryz.prog 9 (plainElem Tryz.prog 3) M m D) (id : Str) (hid : keyOf Tryz.prog 9 (.string (bag id)) = some (.string id)) (q : Nat) :
    ∃ z : Int, (Instr.lookup 66 (.map (some M)) (.string (bag id)) true).run Tryz.prog (w.drewN q) = .ok (.tuple #[.int .i64 z, .bool (has D (.string id))]) (w.drewN q) := by
  have hd : (w.drewN q).ownsMap Tryz.prog 9 (plainElem Tryz.prog 3) M m D := h
  obtain ⟨v, ps, hrun, hv⟩ := hd.look_ok keyS Tryz.underlying66 (z := .int .i64 0) (by kernel_rfl) (zd := .lit (.int .i64 0)) (zp := []) (by kernel_rfl) hid
  obtain ⟨z, rfl, _, _⟩ := plainElem_int_inv Tryz.underlying3 hv
  exact ⟨z, hrun⟩
theorem wfN (z : Nat) (h2 : z ≤ 10000000) : (Lit.int .i64 (z : Int)).wf = true := by
  have e1 : IntKind.i64.min = -9223372036854775808 := by decide
  have e2 : IntKind.i64.max = 9223372036854775807 := by decide
  simp only [Lit.wf, e1, e2, Bool.and_eq_true, decide_eq_true_eq]
  omega

def NumPost (w : World) (l : List Body2) (k : Nat) (e : Ending) (w' : World) : Prop := ∃ N D hd, e = .returned (.map (some N)) ∧ w.heap.size ≤ N ∧ NumAt w' N l.length D hd (lookN (numAcc k l).2) ∧ (∀ id, has D (.string id) = decide (id ∈ idsL l)) ∧ Below w.heap.size w w'
set_option maxHeartbeats 6400000 in
set_option maxRecDepth 100000 in
theorem numbered_any (A : Option Addr) (n c : Nat) (l : List Body2) (k : Nat) (w : World) (h : ElemsAt BodyE w A n c l) (hn : n ≤ 10) (hr : RightB l) (hk1 : 1 ≤ k) (hk2 : k ≤ 10) :
    Calls Tryz.prog 41 #[.slice A n c, .int .i64 k] w (NumPost w l k) := by
  have HN := Lib.hid h.1
  have HH := Lib.hid h
  have HR := Lib.hid hr
  have hmm := @run_makeMap Tryz.prog
  clear h hr
  go_enter Tryz.func41, Tryz.ntmps41
  go_wp2_with fail
  have h00 : Below w.heap.size w ((w.alloc (.map #[] 0)).alloc (.map #[] 0)) := ((Below.refl _ _).alloc (Nat.le_refl _) _).alloc (by simp) _
  have hN0 : ((w.alloc (.map #[] 0)).alloc (.map #[] 0)).ownsMap Tryz.prog 9 holdE (w.heap.size + 1) 0 (.map [] : DataW Value) := by
    have h := World.ownsMap_made (H := Value) (w.alloc (.map #[] 0)) Tryz.prog 9 holdE
    have e : (w.alloc (.map #[] 0)).heap.size = w.heap.size + 1 := by simp
    rw [e] at h
    exact h
  go_loopg [18] n (fun gk i wr => ∃ (j : Nat) (Dn : DataW Unit) (D : DataW Value) (hd : Str → Value), Hid (j + gk = n) ∧ i = .int .i64 j ∧ Hid (wr.ownsMap Tryz.prog 9 (plainElem Tryz.prog 3) w.heap.size (100000 * j) Dn) ∧ Hid (NumD Dn (numAcc k (l.take j)).1) ∧ Hid (NumAt wr (w.heap.size + 1) j D hd (lookN (numAcc k (l.take j)).2)) ∧ Hid (∀ id, has D (.string id) = decide (id ∈ idsL (l.take j))) ∧ Below w.heap.size w wr)
  case atStart =>
    refine ⟨0, .map [], .map [], fun _ => .slice none 0 0, show 0 + n = n by omega, rfl, World.ownsMap.alloc (World.ownsMap_made w _ _ _) _, NumD.start, ⟨hN0, fun _ => rfl, fun id => ⟨none, 0, rfl, ?_⟩⟩, show ∀ _, _ from fun _ => rfl, h00⟩
    exact ⟨rfl, Nat.le_refl _, fun _ => rfl, fun h => by cases h⟩
  case round =>
    obtain ⟨j, Dn, D, hd, HJ, rfl, HDN, HND, HNA, HHAS, hb⟩ := hrel
    have hjn : j ≤ n := by have := HJ.out; omega
    have hzb := hb.size
    by_cases hlt : j < n
    · obtain ⟨x, hx⟩ : ∃ x, l[j]? = some x := ⟨_, List.getElem?_eq_getElem (by have := HN.out; omega)⟩
      have hmem := List.mem_of_getElem? hx
      obtain ⟨gA, oA, hA, hgA, hcA⟩ := HH.out.2.2.2 (by omega)
      subst hA
      have c0 := (hb.cell (p := ⟨gA, oA + j * BodyE.size + 0, none⟩) hgA).trans (hcA j x 0 _ hx rfl)
      have c1 := (hb.cell (p := ⟨gA, oA + j * BodyE.size + 1, none⟩) hgA).trans (hcA j x 1 _ hx rfl)
      have hsz : BodyE.size = 2 := rfl
      rw [hsz] at c0 c1
      rw [Nat.add_zero] at c0
      have hx20 := HR.out.small x hmem
      have HTK : Hid (l.take (j + 1) = l.take j ++ [x]) := by show _ = _; obtain ⟨h1, h2⟩ := List.getElem?_eq_some_iff.1 hx; rw [List.take_succ_eq_append_getElem h1, h2]
      have HNEW : Hid (x.1.data.toList ∉ idsL (l.take j)) := by
        show ¬ _
        intro hm
        obtain ⟨y, hy, he⟩ := List.mem_map.1 hm
        obtain ⟨i, hi, rfl⟩ := List.mem_take_iff_getElem.1 hy
        obtain ⟨h1, h2⟩ := List.getElem?_eq_some_iff.1 hx
        have hap := (List.pairwise_iff_getElem.1 HR.out.apart) i j (by omega) h1 (by omega)
        rw [h2] at hap
        exact hap (ByteArray.ext (Array.toList_inj.1 he))
      have hx2l : x.2.data.toList.length = x.2.size := by simp
      have HW := Lib.hid (win_small x.2.data.toList k (by omega) hk2)
      have hsl := shin_len x.2.data.toList k (by omega)
      have HSM := Lib.hid (shin_small x.2.data.toList k (by omega) hk2)
      have HACC : Hid (numAcc k (l.take (j + 1)) = accStep k (numAcc k (l.take j)) x) := by show _ = _; rw [HTK.out, numAcc_snoc]
      have HIDS : Hid (idsL (l.take (j + 1)) = idsL (l.take j) ++ [x.1.data.toList]) := by show _ = _; rw [HTK.out]; simp [idsL]
      have HKEY : Hid (x.1.size ≤ 40) := by
        have := HR.out.key x hmem
        unfold keyL at this
        simp only [Bool.and_eq_true, decide_eq_true_eq] at this
        have h2 := this.1.1.2
        simp at h2
        exact h2
      have HAI := Lib.hid (numAcc_ids k (l.take j))
      clear hcA hsz hx hmem hx2l HTK
      obtain ⟨x1, x2⟩ := x
      simp only at *
      go_wp2_with fail
      have hX : Below wr.heap.size wr (wr.alloc (.cells #[.string x1, .string x2] 30)) := (Below.refl _ _).alloc (Nat.le_refl _) _
      have HRW := Lib.hid (heap_alloc_new wr (.cells #[.string x1, .string x2] 30))
      have hXs : (wr.alloc (.cells #[.string x1, .string x2] 30)).heap.size = wr.heap.size + 1 := by simp
      generalize wr.alloc (.cells #[.string x1, .string x2] 30) = X at *
      refine (shingles_any x2 k X hx20 hk1 (by omega) HW.out).mono ?_
      rintro e w3 ⟨v25, rfl, hown25, hb3⟩
      obtain ⟨A25, c25, rfl, q1, hat25, q2⟩ := hown25.at_ strE_ok
      have HSS := Lib.hid hat25
      have hb03 := below_trans' hX hb3
      have HDN3 := Lib.hid (HDN.out.kept (below_grown hb03 none) (by simp))
      have HNA3 := Lib.hid (HNA.out.keep hb03)
      have HRW3 := Lib.hid (row_on hb3 HRW.out)
      have hb3' : Below w.heap.size w w3 := hb.trans (hb03.mono hzb)
      have hz3 := hb3.size
      have hMl : w.heap.size + 1 < wr.heap.size := HNA.out.map.lt
      clear q1 q2 hat25 hown25 HDN HNA HRW hb03 hX hb3 hb c0 c1 HW hx20
      generalize hss : shinL x2.data.toList k = ss at *
      generalize hst : numAcc k (l.take j) = st at *
      obtain ⟨seen, out⟩ := st
      have HACC2 : Hid (numAcc k (l.take (j + 1)) = ((numDoc seen ss).1, out ++ [(x1.data.toList, sortZ (numDoc seen ss).2)])) := by show _ = _; rw [HACC.out]; simp only [accStep, hss]
      clear HACC hss hst
      simp only at *
      go_wp2_with fail
      obtain ⟨esM, clM, hMb⟩ := ownsMap_block HDN3.out
      have HMB := Lib.hid hMb; clear hMb
      obtain ⟨wo, rfl⟩ : ∃ wo : World, wo = wr := ⟨_, rfl⟩
      obtain ⟨ko, rfl⟩ : ∃ ko : Nat, ko = gk := ⟨_, rfl⟩
      go_loopg [9, 27] ss.length (fun gk v9 v27 wr => ∃ (i : Nat) (D' : DataW Unit), Hid (i + gk = ss.length) ∧ v27 = .int .i64 i ∧ Hid (wr.ownsMap Tryz.prog 9 (plainElem Tryz.prog 3) w.heap.size (100000 * j + i) D') ∧ Hid (NumD D' (numDoc seen (ss.take i)).1) ∧ Hid (Owns IntE wr w3.heap.size v9 (numDoc seen (ss.take i)).2) ∧ Hid (w3.grownBy wr (some w.heap.size)))
      case atStart => exact ⟨0, Dn, show 0 + ss.length = ss.length by omega, rfl, HDN3.out, HND.out, Owns.nil _ _, World.grownBy.refl _ _⟩
      case round =>
        obtain ⟨i, D', HI, rfl, HDN', HND', HOI, HG⟩ := hrel
        have hin : i ≤ ss.length := by have := HI.out; omega
        have hdl : (numDoc seen (ss.take i)).2.length ≤ i := by rw [numDoc_len, List.length_take]; omega
        have hzq := HG.out.size
        by_cases hil : i < ss.length
        · obtain ⟨s, hs⟩ : ∃ s, ss[i]? = some s := ⟨_, List.getElem?_eq_getElem hil⟩
          have HSQ := HSS.out.beside_map strE_ok HMB.out HG.out
          obtain ⟨g25, o25, hA25, hg25, hc25⟩ := HSQ.2.2.2 (by omega)
          subst hA25
          have cs := hc25 i s 0 _ hs rfl
          have hss1 : StrE.size = 1 := rfl
          rw [hss1, Nat.mul_one, Nat.add_zero] at cs
          have cs' : wr.cell? ⟨g25, o25 + i, none⟩ = some (.string (bag s)) := cs
          have HSN : Hid (numDoc seen (ss.take (i + 1)) = numStep (numDoc seen (ss.take i)) s) := by
            show _ = _
            obtain ⟨h1, h2⟩ := List.getElem?_eq_some_iff.1 hs
            rw [List.take_succ_eq_append_getElem h1, h2, numDoc_snoc]
          have hkl := HSM.out s (List.mem_of_getElem? hs)
          have HKS := Lib.hid (key_le (x := s) (by simp only [maxLen]; omega))
          clear cs hss1 hc25 hs HSQ hkl
          generalize numDoc seen (ss.take i) = nd at *
          obtain ⟨sn, nl⟩ := nd
          simp only at *
          have hsz := HDN'.out.size_le
          rw [HND'.out.size_] at hsz
          obtain ⟨z0, hlk2⟩ := lookI2 HDN'.out s HKS.out 0
          have hlk2' : (Instr.lookup 66 (.map (some w.heap.size)) (.string (bag s)) true).run Tryz.prog wr = .ok (.tuple #[.int .i64 z0, .bool (decide (s ∈ sn))]) wr := by rw [← HND'.out.has_]; exact hlk2
          clear hlk2
          by_cases hsm : s ∈ sn
          · rw [decide_eq_true hsm] at hlk2'
            have HST : Hid (numDoc seen (ss.take (i + 1)) = (sn, nl ++ [((sn.idxOf s : Nat) : Int)])) := by show _ = _; rw [HSN.out, numStep, if_pos hsm]
            have hlk3 := lookI HDN'.out s HKS.out _ (HND'.out.at_ s hsm) 0
            have hlk3' : (Instr.lookup 66 (.map (some w.heap.size)) (.string (bag s)) false).run Tryz.prog wr = .ok (.int .i64 ((sn.idxOf s : Nat) : Int)) wr := hlk3
            clear hlk3 hsm
            generalize sn.idxOf s = ix at *
            go_wp2_with (at_builtin; refine append_elems intE_ok rfl _ _ rfl w3.heap.size _ nl rfl (World.ownsRow.alloc HOI.out _) (some ⟨wr.heap.size, 0, none⟩) 1 1 [(ix : Int)] rfl (one_elem (E := IntE) wr (ix : Int)) (by simp only [List.length_singleton]; omega) (by simp; omega) ?_; intro v4 w4 hown4 hgrow4 _)
            have HB4 : Hid (w3.grownBy w4 (some w.heap.size)) := grown_row (grown_alloc HG.out _) hgrow4 (fun q hq => (HOI.out.lt q hq).1)
            have hD4 : w4.ownsMap Tryz.prog 9 (plainElem Tryz.prog 3) w.heap.size (100000 * j + (i + 1)) D' := ((HDN'.out.alloc _).kept hgrow4 (fun e => by have := (HOI.out.lt _ e.symm).1; omega)).mono (by omega)
            go_roundg (gk - 1)
            case measure => have := HI.out; omega
            case rel => exact ⟨i + 1, D', show i + 1 + (gk - 1) = ss.length by have := HI.out; omega, by go_num, hD4, (by show NumD _ _; rw [HST.out]; exact HND'.out), (by show Owns _ _ _ _ _; rw [HST.out]; exact hown4), HB4.out⟩
          · rw [decide_eq_false hsm] at hlk2'
            have HST : Hid (numDoc seen (ss.take (i + 1)) = (sn ++ [s], nl ++ [((sn.length : Nat) : Int)])) := by show _ = _; rw [HSN.out, numStep, if_neg hsm]
            have hlen : ∀ ty, (Builtin.len_ #[66] ty #[.map (some w.heap.size)]).run Tryz.prog wr = .ok (.int .i64 ((sn.length : Nat) : Int)) wr := fun ty => by rw [← HND'.out.size_]; exact HDN'.out.len Tryz.underlying66 ty
            have HND2 := Lib.hid (HND'.out.more (HDN'.out.tidy keyS) hsm)
            have HIX : Hid ((sn ++ [s]).idxOf s = sn.length) := by show _ = _; rw [List.idxOf_append, if_neg hsm]; simp
            clear hsm
            go_upto_region 13 with (at_mapUpdate; refine wpList_mapUpdate_own _ rfl _ _ _ 66 rfl 9 3 keyS Tryz.underlying66 _ w.heap.size _ _ rfl HDN'.out (by simp only [maxLen]; omega) _ _ (.string s) rfl rfl HKS.out (.lit (.int .i64 ((sn.length : Nat) : Int))) [] (plainElem_int Tryz.underlying3 (wfN _ (by omega))) ?_; intro w5 hown5 hgrow5)
            have HOI5 := Lib.hid (HOI.out.kept_ hgrow5 (fun q hq => by cases hq; omega))
            have hlk5 := lookI hown5 s HKS.out _ (HND2.out.at_ s (by simp)) 0
            rw [HIX.out] at hlk5
            have hlk5' : (Instr.lookup 66 (.map (some w.heap.size)) (.string (bag s)) false).run Tryz.prog w5 = .ok (.int .i64 ((sn.length : Nat) : Int)) w5 := hlk5
            have HG5 := Lib.hid (grown_trans HG.out hgrow5)
            have HD5 := Lib.hid hown5
            have hz5 := HG5.out.size
            clear hlk5 hlen hlk2' cs' HG hgrow5 hown5 HOI HDN'
            generalize sn.length = ix at *
            go_wp2_with (at_builtin; refine append_elems intE_ok rfl _ _ rfl w3.heap.size _ nl rfl (World.ownsRow.alloc HOI5.out _) (some ⟨w5.heap.size, 0, none⟩) 1 1 [(ix : Int)] rfl (one_elem (E := IntE) w5 (ix : Int)) (by simp only [List.length_singleton]; omega) (by simp; omega) ?_; intro v4 w4 hown4 hgrow4 _)
            have HB4 : Hid (w3.grownBy w4 (some w.heap.size)) := grown_row (grown_alloc HG5.out _) hgrow4 (fun q hq => (HOI5.out.lt q hq).1)
            have hD4 := ((HD5.out.alloc (.cells #[.int .i64 (ix : Int)] 3)).kept hgrow4 (fun e => by have := (HOI5.out.lt _ e.symm).1; omega)).mono (show 100000 * j + i + 1 ≤ 100000 * j + (i + 1) by omega)
            go_roundg (gk - 1)
            case measure => have := HI.out; omega
            case rel => exact ⟨i + 1, _, show i + 1 + (gk - 1) = ss.length by have := HI.out; omega, by go_num, hD4, (by show NumD _ _; rw [HST.out]; exact HND2.out), (by show Owns _ _ _ _ _; rw [HST.out]; exact hown4), HB4.out⟩
        · have hie : ss.take i = ss := List.take_of_length_le (by omega)
          rw [hie] at HND' HOI hdl
          have hPl : wo.heap.size < w3.heap.size := by omega
          have HRWr : Hid (wr.heap[wo.heap.size]? = some (.cells #[.string x1, .string x2] 30 (0, 0))) := (HG.out.block wo.heap.size hPl (fun e => by have := Option.some.inj e; omega)).trans HRW3.out
          generalize numDoc seen ss = nd at *
          obtain ⟨sn, nl⟩ := nd
          simp only at *
          clear hie
          go_wp2_with fail
          refine (sortI_any w3.heap.size _ nl wr HOI.out (by omega) hzq).mono ?_
          rintro e w6 ⟨rfl, hown6, hb6⟩
          have HRW6 : Hid (w6.heap[wo.heap.size]? = some (.cells #[.string x1, .string x2] 30 (0, 0))) := (hb6.block _ hPl).trans HRWr.out
          have HG6 := Lib.hid (grown_belowB HG.out hb6)
          have HNA6 := Lib.hid (HNA3.out.beside (by omega) HMB.out HG6.out)
          have HDN6 := Lib.hid (ownsMap_same HDN'.out (hb6.block _ (by omega)))
          obtain ⟨A9, c9, hv9, q1, hat9, q2⟩ := hown6.at_ intE_ok
          subst hv9
          have HAT9 := Lib.hid hat9
          obtain ⟨b0, b1, bf0, bf1⟩ := two_cell HRW6.out
          clear q1 q2 hat9 hown6 hb6 HG HDN' HNA3 HRWr HOI
          go_wp2_with (at_mapUpdate; refine wpList_mapUpdate_own _ rfl _ _ _ 82 rfl 9 22 keyS Tryz.underlying82 _ (w.heap.size + 1) j _ rfl HNA6.out.map (by simp only [maxLen]; omega) _ _ (.string x1.data.toList) rfl rfl (keyS_mk x1 (by have := HKEY.out; omega)) (.held (.slice A9 (sortZ nl).length c9)) [] rfl ?_; intro w7 hown7 hgrow7)
          have HNA7 := Lib.hid (HNA6.out.put x1.data.toList A9 c9 (sortZ nl) HAT9.out hown7 hgrow7)
          have HDN7 := Lib.hid (HDN6.out.kept hgrow7 (by simp))
          have hb6' : Below w.heap.size w w6 := hb3'.grown HG6.out hb3'.size (fun q hq => by cases hq; exact Nat.le_refl _)
          have hb7 : Below w.heap.size w w7 := hb6'.grown hgrow7 hb6'.size (fun q hq => by cases hq; omega)
          go_roundg (ko - 1)
          case measure => have := HJ.out; omega
          case rel =>
            refine ⟨j + 1, D', D.put (.string x1.data.toList) (.held (.slice A9 (sortZ nl).length c9)), fun id => if id = x1.data.toList then .slice A9 (sortZ nl).length c9 else hd id, show j + 1 + (ko - 1) = n by have := HJ.out; omega, by go_num, HDN7.out.mono (by omega), ?_, ?_, ?_, hb7⟩
            · show NumD _ _
              rw [HACC2.out]; exact HND'.out
            · show NumAt _ _ _ _ _ _
              rw [HACC2.out]
              exact HNA7.out.congr (fun id => lookN_snoc (by rw [HAI.out]; exact HNEW.out) id)
            · show ∀ id, _
              intro id
              rw [HIDS.out]
              by_cases e : id = x1.data.toList
              · subst e
                rw [has_put_same HNA6.out.map.isMap (str_key' _)]
                simp
              · rw [has_put_other (str_ne e), HHAS.out]
                simp [e]
    · have hjl : j = l.length := by have := HN.out; omega
      have hje : l.take j = l := List.take_of_length_le (by omega)
      rw [hje] at HNA HHAS
      have HJL := Lib.hid hjl; clear hjl
      go_wp2_with fail
      go_ret
      exact ⟨w.heap.size + 1, D, hd, rfl, by omega, by rw [← HJL.out]; exact HNA.out, HHAS.out, hb⟩
end Go.Proofs.YtabdjkcediolcaaGreatDoor
