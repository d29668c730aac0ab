
/-
  What Allocate returns.
-/
import Derived.Test.YtiegbbngfojjoaaGreatDoorISort2
import Derived.Test.YtiegbbngfojjoaaGreatDoorAllocPlain2
import Derived.Laws.OwnMore
import Derived.Laws.IdiomCopy
import Derived.Test.YtiegbbngfojjoaaGreatDoorParse3
namespace Go.Proofs.YtiegbbngfojjoaaGreatDoor
open Go.RowKit

abbrev natI (l : List Nat) : List Int := l.map Int.ofNat
theorem natI_get (l : List Nat) (k : Nat) : (natI l).getD k 0 = ((l.getD k 0 : Nat) : Int) := by
  rw [List.getD_eq_getElem?_getD, List.getElem?_map, List.getD_eq_getElem?_getD]
  cases l[k]? <;> simp
theorem natI_set (l : List Nat) (k z : Nat) : (natI l).set k (z : Int) = natI (l.set k z) := by
  exact List.map_set.symm
theorem ElemsAt.intc {w : World} {A : Option Addr} {n c : Nat} {l : List Int} (h : ElemsAt IntE w A n c l) : ∀ k, k < n → ∃ g off, A = some ⟨g, off, none⟩ ∧ g < w.heap.size ∧ w.cell? ⟨g, off + k, none⟩ = some (.int .i64 (l.getD k 0)) := by
  intro k hk
  obtain ⟨g, off, rfl, hg, hc⟩ := h.2.2.2 (by omega)
  refine ⟨g, off, rfl, hg, ?_⟩
  have hl : k < l.length := by rw [← h.1]; exact hk
  have := hc k _ 0 (.int .i64 (l.getD k 0)) (List.getElem?_eq_getElem hl) (by simp [IntE, hl])
  simpa [IntE] using this
theorem int_info : (Tryz.prog.info? 3).map (fun i => (i.zero, i.size, i.bytes)) = some (some (.int .i64 0), 1, 8) := by kernel_rfl
theorem make_ints (w : World) (N : Nat) (hN : N ≤ 10000) : ∃ wb, (Instr.makeSlice 22 (.int .i64 (N : Int)) (.int .i64 (N : Int))).run Tryz.prog w = .ok (.slice (some ⟨w.heap.size, 0, none⟩) N N) wb ∧
    Owns IntE wb w.heap.size (.slice (some ⟨w.heap.size, 0, none⟩) N N) (natI (List.replicate N 0)) ∧ Below w.heap.size w wb ∧ wb.heap.size = w.heap.size + 1 := by
  obtain ⟨i0, hi, hz0, hz1, hz2⟩ := info_parts int_info
  have hr := run_make (P := Tryz.prog) w 22 3 i0 (.int .i64 0) Tryz.underlying22 hi hz0 .i64 .i64 (N : Int) (N : Int) (by omega) (by omega) (by rw [hz2]; omega) (by omega)
  rw [hz1] at hr
  simp only [Int.toNat_natCast, Nat.mul_one] at hr
  refine ⟨_, hr, ?_, (Below.refl _ _).alloc (Nat.le_refl _) _, by simp⟩
  have hmax : N ≤ maxLen := by simp only [maxLen]; omega
  have e1 : (natI (List.replicate N 0)).length = N := by simp
  have e2 : N * IntE.size = N := Nat.mul_one N
  refine ⟨by rw [intE_cells, List.length_map, e1, e2], .inr ⟨w.heap.size, N, _, by rw [e1], Nat.le_refl _, heap_alloc_new _ _, by rw [e1]; exact Nat.le_refl _, hmax, by rw [size_madeCells]; exact e2.symm, ?_⟩⟩
  rw [intE_cells, e1, e2]
  apply List.ext_getElem
  · simp [size_madeCells]
  · intro j h1 h2
    simp [madeCells, Value.cells, Nat.mod_one]
def AllocPost (w : World) (L : List Nat) (n : Nat) (e : Ending) (w' : World) : Prop := ∃ v G, e = .returned v ∧ Owns IntE w' w.heap.size v (natI G) ∧ G.length = L.length ∧ (∀ k, G.getD k 0 ≤ L.getD k 0) ∧ G.sum = min L.sum n ∧ Below w.heap.size w w'
theorem SizesIn.any {w w' : World} {Pn Ps Pt c n tot b : Nat} {A : Option Addr} {L : List Nat} {row : Option Nat} (h : SizesIn w Pn Ps Pt A c n tot L b) (hg : w.grownBy w' row) (hb : ∀ i, row = some i → b ≤ i) : SizesIn w' Pn Ps Pt A c n tot L b := by
  obtain ⟨⟨h1, h2, h3, h4⟩, l1, l2, l3, l4, l5, l6, l7⟩ := h
  have hz := hg.size
  have k : ∀ i o, i < w.heap.size → i < b → w'.cell? ⟨i, o, none⟩ = w.cell? ⟨i, o, none⟩ := fun i o hi hib => World.cell?_of_block (hg.block i hi (fun e => by have := hb i e.symm; omega))
  refine ⟨⟨(k _ _ l1 l4).trans h1, (k _ _ l2 l5).trans h2, (k _ _ l3 l6).trans h3, fun j hj => ?_⟩, by omega, by omega, by omega, l4, l5, l6, fun g off e => by have := l7 g off e; omega⟩
  obtain ⟨g, off, rfl, hc⟩ := h4 j hj
  have := l7 g off rfl
  exact ⟨g, off, rfl, (k _ _ this.2 this.1).trans hc⟩
theorem _root_.Go.World.grownBy.row_none {a b : World} {row : Option Nat} (h : a.grownBy b none) : a.grownBy b row := ⟨h.os, h.tape, h.output, h.size, fun i hi _ => h.block i hi (fun e => by cases e)⟩
theorem elem_ints : Tryz.prog.elem 22 = 3 := by kernel_rfl
theorem und_ints : Tryz.prog.underlying 22 = some (.slice (Tryz.prog.elem 22)) := by rw [elem_ints]; exact Tryz.underlying22
theorem sl_upto (G m d j : Nat) (hj : j ≤ d) (wx : World) : (Instr.slice 22 (.slice (some ⟨G, 0, none⟩) m d) none (some (.int .i64 (j : Int))) none).run Tryz.prog wx = .ok (.slice (some ⟨G, 0, none⟩) j d) wx := by
  have hz : (sizeOf 3).run Tryz.prog wx = .ok 1 wx := by go_simp
  rw [run_slice_h wx 22 (some ⟨G, 0, none⟩) m d und_ints .i64 (j : Int) (by omega) (by omega), elem_ints, hz]
  simp only [Result.andThen, sliced, Int.toNat_natCast]
  split <;> simp [addr_add]
theorem getD_le_sum : ∀ (l : List Nat) (k : Nat), l.getD k 0 ≤ l.sum
  | [], k => by simp
  | x :: l, 0 => by simp
  | x :: l, k + 1 => by have := getD_le_sum l k; simp only [List.getD_cons_succ, List.sum_cons]; omega
theorem one_c {w : World} {b : Nat} {a0 : Value} {t : TypeId} (h : w.heap[b]? = some (.cells #[a0] t (0, 0))) : w.cell? ⟨b, 0, none⟩ = some a0 ∧ w.frozen? ⟨b, 0, none⟩ = false ∧ b < w.heap.size := by
  refine ⟨?_, ?_, (Array.getElem?_eq_some_iff.1 h).1⟩
  · rw [cell_of_row w b _ _ _ _ h]; rfl
  · simp [World.frozen?, h]
theorem sum_take_le (L : List Nat) : ∀ k, (L.take k).sum ≤ L.sum := fun k => by
  conv => rhs; rw [← List.take_append_drop k L]
  rw [List.sum_append]; omega
theorem Owns.cellAt {w : World} {base G n c : Nat} {l : List Int} (h : Owns IntE w base (.slice (some ⟨G, 0, none⟩) n c) l) : base ≤ G ∧ G < w.heap.size ∧ n = l.length ∧ n ≤ c ∧ ∀ k, k < l.length → w.cell? ⟨G, k, none⟩ = some (.int .i64 (l.getD k 0)) ∧ w.frozen? ⟨G, k, none⟩ = false := by
  have h0 := h
  rcases h.2 with ⟨e, _⟩ | ⟨g, cap, cur, e, hbase, hb, h1, h2, h3, h4⟩
  · cases e
  · simp only [Value.slice.injEq, Option.some.injEq, Addr.mk.injEq] at e
    obtain ⟨⟨rfl, _⟩, hn, rfl⟩ := e
    refine ⟨hbase, (Array.getElem?_eq_some_iff.1 hb).1, hn, by omega, fun k hk => ?_⟩
    obtain ⟨G', c', e', _, _, hc⟩ := h0.ints (by omega)
    simp only [Value.slice.injEq, Option.some.injEq, Addr.mk.injEq] at e'
    obtain ⟨⟨rfl, _⟩, _, _⟩ := e'
    exact hc k hk
theorem Owns.setAll {base G n c : Nat} : ∀ (zs l : List Int) (o : Nat) (w : World), Owns IntE w base (.slice (some ⟨G, 0, none⟩) n c) l → o + zs.length = l.length → Owns IntE (w.setCells G o (zs.map (Value.int .i64))) base (.slice (some ⟨G, 0, none⟩) n c) (l.take o ++ zs)
  | [], l, o, w, h, hl => by
    rw [List.append_nil, List.take_of_length_le (by simp at hl; omega)]
    exact h
  | z :: r, l, o, w, h, hl => by
    have ih := Owns.setAll r (l.set o z) (o + 1) (w.setCell ⟨G, o, none⟩ (.int .i64 z)) (h.setInt o z) (by simp at hl ⊢; omega)
    have e : (l.set o z).take (o + 1) ++ r = l.take o ++ z :: r := by
      have ho : o < (l.set o z).length := by simp at hl ⊢; omega
      rw [List.take_succ_eq_append_getElem ho, List.append_assoc, List.take_set, List.set_eq_of_length_le (by simp; omega)]
      simp
    rw [e] at ih
    exact ih
theorem grown_setCells (G : Nat) : ∀ (vs : List Value) (o : Nat) (w : World), w.grownBy (w.setCells G o vs) (some G)
  | [], _, _ => World.grownBy.refl _ _
  | v :: r, o, w => grown_trans (grown_setCell w G o v) (grown_setCells G r (o + 1) _)
theorem copy_ints (w : World) (A : Option Addr) (G c base : Nat) (L : List Nat) (ty : TypeId) (hA : ElemsAt IntE w A L.length c (natI L)) (l : List Int) (ho : Owns IntE w base (.slice (some ⟨G, 0, none⟩) L.length L.length) l) :
    (Builtin.copy_ #[22, 22] ty #[.slice (some ⟨G, 0, none⟩) L.length L.length, .slice A L.length c]).run Tryz.prog w = .ok (goInt L.length) (w.setCells G 0 ((natI L).map (Value.int .i64))) := by
  obtain ⟨i0, hi, hz0, hz1, hz2⟩ := info_parts int_info
  have hs : (Tryz.prog.info? 3).map (·.size) = some 1 := by rw [hi]; simp [hz1]
  obtain ⟨hb, hG, hl, hc, hcells⟩ := ho.cellAt
  rcases Nat.eq_zero_or_pos L.length with h0 | h0
  · have : L = [] := List.eq_nil_of_length_eq_zero h0
    subst this
    exact run_copy_none (P := Tryz.prog) w 22 22 ty 3 (some ⟨G, 0, none⟩) A 0 0 0 c Tryz.underlying22 hs rfl
  · obtain ⟨g, off, rfl, hg, hce⟩ := hA.2.2.2 h0
    have k := run_copy_cells (P := Tryz.prog) w 22 22 ty 3 G 0 L.length L.length ⟨g, off, none⟩ L.length c ((natI L).map (Value.int .i64)) Tryz.underlying22 hs (by simp) (fun j v hj => by
      rw [List.getElem?_map] at hj
      obtain ⟨x, hx, rfl⟩ := Option.map_eq_some_iff.1 hj
      rw [addr_add]
      have := hce j x 0 (.int .i64 x) hx rfl
      simpa [IntE] using this) (fun j hj => by
      have := (hcells j (by simp at hj; omega)).1
      rw [Nat.zero_add, this]; rfl) (fun j hj => by
      have := (hcells j (by simp at hj; omega)).2
      rw [Nat.zero_add, this]) (fun v hv => by
      obtain ⟨x, _, rfl⟩ := List.mem_map.1 hv
      rfl)
    rw [show ((natI L).map (Value.int .i64)).length = L.length by simp] at k
    exact k
theorem floors_le (n tot : Nat) (L : List Nat) (k : Nat) : (floors n tot L k).sum ≤ (L.map (quoP n tot)).sum := by
  unfold floors
  have hz : ∀ m, (List.replicate m 0).sum = 0 := fun m => by simp
  rw [List.sum_append, hz, List.map_take]
  exact sum_take_le _ _
theorem three_new (w : World) (o1 o2 o3 : Obj) : (((w.alloc o1).alloc o2).alloc o3).heap[w.heap.size]? = some o1 ∧ (((w.alloc o1).alloc o2).alloc o3).heap[w.heap.size + 1]? = some o2 ∧ (((w.alloc o1).alloc o2).alloc o3).heap[w.heap.size + 1 + 1]? = some o3 ∧ Below w.heap.size w (((w.alloc o1).alloc o2).alloc o3) := by
  have z1 : (w.alloc o1).heap.size = w.heap.size + 1 := by simp
  have z2 : ((w.alloc o1).alloc o2).heap.size = w.heap.size + 1 + 1 := by simp
  refine ⟨?_, ?_, ?_, (((Below.refl _ _).alloc (Nat.le_refl _) _).alloc (by omega) _).alloc (by omega) _⟩
  · exact (Below.heap_alloc _ o3 _ (by omega)).trans ((Below.heap_alloc _ o2 _ (by omega)).trans (heap_alloc_new w o1))
  · have h := heap_alloc_new (w.alloc o1) o2
    rw [z1] at h
    exact (Below.heap_alloc _ o3 _ (by omega)).trans h
  · have h := heap_alloc_new ((w.alloc o1).alloc o2) o3
    rw [z2] at h
    exact h
set_option maxHeartbeats 3200000 in
set_option maxRecDepth 100000 in
theorem allocate_any (A : Option Addr) (c n : Nat) (L : List Nat) (w : World) (hA : ElemsAt IntE w A L.length c (natI L)) (hn : n ≤ 2000) (hM : L.length < 20) (hL : ∀ k, L.getD k 0 ≤ 2000) (hs : L.sum ≤ 100000) :
    Calls Tryz.prog 77 #[.slice A L.length c, .int .i64 (n : Int)] w (AllocPost w L n) := by
  have HAI := Lib.hid hA.intc
  have hMc := hA.2.1
  have HL := Lib.hid hL; clear hL
  have HA := Lib.hid hA; clear hA
  obtain ⟨M, hMe⟩ : ∃ M, M = L.length := ⟨_, rfl⟩
  have HM := Lib.hid hMe
  rw [← hMe] at hM hMc ⊢
  clear hMe
  go_enter Tryz.func77, Tryz.ntmps77
  go_upto_region 2 with (fail)
  obtain ⟨hPs, hPn, hPt, hB⟩ := three_new w (.cells #[.slice A M c] 22) (.cells #[.int .i64 (n : Int)] 3) (.cells #[.int .i64 0] 3)
  generalize ((w.alloc (.cells #[.slice A M c] 22)).alloc (.cells #[.int .i64 (n : Int)] 3)).alloc (.cells #[.int .i64 0] 3) = w3 at *
  have HPT := Lib.hid hPt
  have HPN := Lib.hid hPn
  have HPS := Lib.hid hPs
  obtain ⟨s0, s1, s2⟩ := one_c hPs
  clear hPt hPn hPs
  obtain ⟨Pn, hPne⟩ : ∃ Pn, Pn = w.heap.size + 1 := ⟨_, rfl⟩
  rw [← hPne] at HPN HPT ⊢
  obtain ⟨Pt, hPte⟩ : ∃ Pt, Pt = Pn + 1 := ⟨_, rfl⟩
  rw [← hPte] at HPT ⊢
  have hp1 : w.heap.size < Pn := by omega
  have hp2 : Pn < Pt := by omega
  have hp3 : w3.heap.size = Pt + 1 ∨ Pt < w3.heap.size := .inr (Array.getElem?_eq_some_iff.1 HPT.out).1
  have hp4 : Pt < w3.heap.size := (Array.getElem?_eq_some_iff.1 HPT.out).1
  clear hPne hPte hp3
  go_wp2_with fail
  clear s0 s1
  go_loopg [17] M (fun gk v wr => ∃ k : Nat, Hid (k + gk = M) ∧ v = .int .i64 (k : Int) ∧ Hid (wr.heap[Pt]? = some (.cells #[.int .i64 (((L.take k).sum : Nat) : Int)] 3 (0, 0))) ∧ Hid (w3.grownBy wr (some Pt)))
  case atStart => exact ⟨0, show 0 + M = M by omega, rfl, HPT, World.grownBy.refl _ _⟩
  case round =>
    obtain ⟨k, HK, rfl, HT, HG⟩ := hrel
    clear HPT
    have hkM : k ≤ M := by have := HK.out; omega
    obtain ⟨t0, t1, t2⟩ := one_c HT.out
    have hsum := sum_take_le L k
    by_cases hlt : k < M
    · obtain ⟨g, off, rfl, hg, hcg⟩ := HAI.out k (by rw [← HM.out]; exact hlt)
      have hcr : wr.cell? ⟨g, off + k, none⟩ = some (.int .i64 ((L.getD k 0 : Nat) : Int)) := by
        rw [← natI_get]
        exact (World.cell?_of_block (HG.out.block g (Nat.lt_of_lt_of_le hg hB.size) (fun e => by have := Option.some.inj e; omega))).trans ((hB.cell (p := ⟨g, off + k, none⟩) hg).trans hcg)
      have hLk := HL.out k
      have HTK : Hid ((L.take (k + 1)).sum = (L.take k).sum + L.getD k 0) := by
        show _ = _
        have hkl : k < L.length := by rw [← HM.out]; exact hlt
        rw [List.take_succ_eq_append_getElem hkl, List.sum_append]
        simp [hkl, -List.take_append_getElem]
      have hgP : g ≠ Pt := by omega
      generalize hS : (L.take k).sum = S at *
      generalize L.getD k 0 = s at *
      go_wp2_with fail
      go_roundg (gk - 1)
      case measure => have := HK.out; omega
      case rel =>
        refine ⟨k + 1, show k + 1 + (gk - 1) = M by have := HK.out; omega, by go_num, ?_, grown_trans HG.out (grown_setCell _ _ _ _)⟩
        rw [HTK.out]
        show _ = _
        simp [World.setCell, Array.getElem?_modify, HT.out]
    · obtain rfl : k = M := by omega
      have hall : (L.take k).sum = L.sum := by rw [List.take_of_length_le (by rw [← HM.out]; omega)]
      rw [hall] at HT hsum t0
      have HPNr := Lib.hid (blk_row HPN.out HG.out (ne_some (show Pt ≠ Pn by omega)))
      have HPSr := Lib.hid (blk_row HPS.out HG.out (ne_some (show Pt ≠ w.heap.size by omega)))
      obtain ⟨n0, n1, n2⟩ := one_c HPNr.out
      obtain ⟨s0, s1, s3⟩ := one_c HPSr.out
      have HBr : Hid (Below w.heap.size w wr) := hB.grown HG.out hB.size (fun i e => by have := Option.some.inj e; omega)
      clear hB HG HPN HPS hall
      generalize hTot : L.sum = tot at *
      obtain ⟨wb, hmk, hown, hbm, hzb⟩ := make_ints wr k (by omega)
      obtain rfl : k = L.length := HM.out
      have HB2 : Hid (Below w.heap.size w wb) := below_trans' HBr.out hbm
      have c0 := (hbm.cell (p := ⟨Pn, 0, none⟩) n2).trans n0
      have c1 := (hbm.cell (p := ⟨w.heap.size, 0, none⟩) s3).trans s0
      have c2 := (hbm.cell (p := ⟨Pt, 0, none⟩) t2).trans t0
      obtain ⟨G, hGe⟩ : ∃ G, G = wr.heap.size := ⟨_, rfl⟩
      by_cases hle : tot ≤ n
      · have hlei : (tot : Int) ≤ n := by omega
        have hA2 : ElemsAt IntE wb A L.length c (natI L) := HA.out.keep HB2.out
        have hcp := fun ty => copy_ints wb A wr.heap.size c wr.heap.size L ty hA2 _ hown
        have ho2 := hown.setAll (natI L) _ 0 wb (by simp)
        rw [List.take_zero, List.nil_append] at ho2
        have hgs := grown_setCells wr.heap.size ((natI L).map (Value.int .i64)) 0 wb
        have hb3 := HB2.out.grown hgs (HB2.out.size) (fun i e => by have := Option.some.inj e; omega)
        have HO2 := Lib.hid ho2
        have HB3 := Lib.hid hb3
        clear hown hbm HAI HA hA2 ho2 hgs hb3 HL
        generalize wb.setCells wr.heap.size 0 ((natI L).map (Value.int .i64)) = w5 at *
        go_wp2_with fail
        go_ret
        exact ⟨_, L, rfl, HO2.out.base_ (by omega), rfl, fun k => Nat.le_refl _, by rw [hTot]; omega, HB3.out⟩
      · have hlei : ¬ (tot : Int) ≤ n := by omega
        have h0L : 0 < L.length := by
          rcases Nat.eq_zero_or_pos L.length with h | h
          · have : L = [] := List.eq_nil_of_length_eq_zero h
            subst this
            simp at hTot
            omega
          · exact h
        have HSI : Hid (SizesIn wb Pn w.heap.size Pt A c n tot L G) := by
          refine ⟨⟨c0, c1, c2, fun j hj => ?_⟩, by omega, by omega, by omega, by omega, by omega, by omega, fun g off e => ?_⟩
          · obtain ⟨g, off, rfl, hg, hcg⟩ := HAI.out j hj
            refine ⟨g, off, rfl, ?_⟩
            rw [← natI_get]
            exact (HB2.out.cell (p := ⟨g, off + j, none⟩) hg).trans hcg
          · obtain ⟨g', off', e', hg, _⟩ := HAI.out 0 h0L
            rw [e] at e'
            cases e'
            omega
        have HGO : Hid (Owns IntE wb G (.slice (some ⟨G, 0, none⟩) L.length L.length) (natI (floors n tot L 0))) := by
          show Owns _ _ _ _ _
          rw [floors_zero, hGe]
          exact hown
        rw [← hGe] at hmk hzb
        clear hown hbm HA n0 t0 HT HPSr HPNr HK hlt hkM hsum t1 n1 s1
        go_wp2_with fail
        clear hmk c0 c1 c2 s0
        rw [← hGe]
        have hwG : w.heap.size < G := by omega
        have HZB := Lib.hid hzb
        clear hGe hzb
        have hsn : ∀ k, (floors n tot L k).sum ≤ n := fun k => by
          rcases left_sum n tot L (List.range L.length) hTot (List.Perm.refl _) with ⟨_, h⟩ | h
          · exact Nat.le_trans (floors_le n tot L k) h
          · omega
        have HSN := Lib.hid hsn; clear hsn
        go_loopg [9, 10, 38] L.length (fun gk v9 v10 i wx => ∃ k : Nat, Hid (k + gk = L.length) ∧ i = .int .i64 (k : Int) ∧ v9 = .int .i64 ((n : Int) - (((floors n tot L k).sum : Nat) : Int)) ∧ Hid (Owns IntE wx (G + 1) v10 ((List.range k).map Int.ofNat)) ∧ Hid (Owns IntE wx G (.slice (some ⟨G, 0, none⟩) L.length L.length) (natI (floors n tot L k))) ∧ Hid (SizesIn wx Pn w.heap.size Pt A c n tot L G) ∧ Hid (wb.grownBy wx (some G)))
        case atStart => exact ⟨0, show 0 + L.length = L.length by omega, rfl, by rw [floors_zero]; simp, Owns.nil _ _, HGO, HSI, World.grownBy.refl _ _⟩
        case round =>
          obtain ⟨k, HK, rfl, rfl, HOR, HOG, HSX, HGX⟩ := hrel
          clear HGO HSI
          have hkL : k ≤ L.length := by have := HK.out; omega
          have hsk := HSN.out k
          obtain ⟨hb1, hb2, hb3, hb4, hcell⟩ := HOG.out.cellAt
          have hfl := floors_length n tot L k hkL
          obtain ⟨⟨d0, d1, d2, d3⟩, _, _, _, l4, l5, l6, l7⟩ := HSX.out
          by_cases hlt : k < L.length
          · obtain ⟨g, off, rfl, hcL⟩ := d3 k hlt
            have hl7 := l7 g off rfl
            obtain ⟨hc1, hc2⟩ := hcell k (by rw [List.length_map, hfl]; exact hlt)
            have hLk := HL.out k
            have hquo : ((n : Int) * ((L.getD k 0 : Nat) : Int)).tdiv (tot : Int) = ((quoP n tot (L.getD k 0) : Nat) : Int) := by
              rw [show (n : Int) * ((L.getD k 0 : Nat) : Int) = ((n * L.getD k 0 : Nat) : Int) by simp, Int.tdiv_eq_ediv_of_nonneg (by omega)]
              unfold quoP; simp
            have hpr : n * L.getD k 0 ≤ 2000 * 2000 := Nat.mul_le_mul hn hLk
            have hpi : (n : Int) * ((L.getD k 0 : Nat) : Int) ≤ 4000000 ∧ 0 ≤ (n : Int) * ((L.getD k 0 : Nat) : Int) := by
              rw [show (n : Int) * ((L.getD k 0 : Nat) : Int) = ((n * L.getD k 0 : Nat) : Int) by simp]
              omega
            have hp5 := hpi.1
            have hp6 := hpi.2
            have HFS := Lib.hid (floors_sum n tot L k hlt)
            have HFSet := Lib.hid (floors_set n tot L k hlt)
            have hs1 := HSN.out (k + 1)
            rw [HFS.out] at hs1
            have HNS : Hid ((natI (floors n tot L k)).set k ((quoP n tot (L.getD k 0) : Nat) : Int) = natI (floors n tot L (k + 1))) := by show _ = _; rw [natI_set, HFSet.out]
            generalize (floors n tot L k).sum = fs at *
            generalize quoP n tot (L.getD k 0) = qk at *
            generalize L.getD k 0 = s at *
            generalize (natI (floors n tot L k)).getD k 0 = z0 at *
            have hgG : g ≠ G := by omega
            clear hpr hpi hcell hfl d3 hb3 hb4
            go_upto_region 18 with (fail)
            have hgs := grown_setCell wr G k (.int .i64 (qk : Int))
            have HG4 := Lib.hid (grown_trans HGX.out hgs)
            have HS4 := Lib.hid (HSX.out.any hgs (fun i e => Nat.le_of_eq (Option.some.inj e)))
            have ho4 := HOG.out.setInt k (qk : Int)
            rw [HNS.out] at ho4
            have HO4 := Lib.hid ho4
            have HR4 := Lib.hid (HOR.out.kept_ hgs (fun i e => by have := Option.some.inj e; omega))
            have HR : Hid ((List.range (k + 1)).map Int.ofNat = (List.range k).map Int.ofNat ++ [(k : Int)]) := by show _ = _; rw [List.range_succ, List.map_append]; rfl
            have hz4 := hgs.size
            have hzb4 : G + 1 ≤ (wr.setCell ⟨G, k, none⟩ (.int .i64 (qk : Int))).heap.size := by omega
            clear ho4 hgs d0 d1 d2 hcL hc1 hc2 HOR HOG HSX HGX hz4
            generalize wr.setCell ⟨G, k, none⟩ (.int .i64 (qk : Int)) = w4 at *
            go_wp2_with (at_builtin; refine append_elems intE_ok rfl _ _ rfl (G + 1) _ ((List.range k).map Int.ofNat) rfl (World.ownsRow.alloc HR4.out _) (some ⟨w4.heap.size, 0, none⟩) 1 1 [(k : Int)] rfl (one_elem (E := IntE) w4 (k : Int)) (by simp; omega) (by simp; omega) ?_; intro v5 w5 hown5 hgrow5 hv5; have HO5 := Lib.hid hown5; have HGW := Lib.hid hgrow5; clear hown5 hgrow5 hv5)
            have hga := grown_alloc (World.grownBy.refl w4 none) (.cells #[.int .i64 (k : Int)] 3)
            have hrow : ∀ i, u10.ownBlock = some i → G + 1 ≤ i := fun i e => (HR4.out.lt i e).1
            go_roundg (gk - 1)
            case measure => have := HK.out; omega
            case rel =>
              refine ⟨k + 1, show k + 1 + (gk - 1) = _ by have := HK.out; omega, by go_num, by rw [HFS.out]; go_num, by rw [HR.out]; exact HO5.out, ?_, ?_, ?_⟩
              · exact (Owns.kept_ HO4.out hga (fun i e => by cases e)).kept HGW.out (.inr (fun e => by have := hrow G e.symm; omega))
              · exact (HS4.out.any hga (fun i e => by cases e)).any HGW.out (fun i e => by have := hrow i e; omega)
              · exact grown_row (grown_trans HG4.out hga.row_none) HGW.out (fun i e => by have := hrow i e; have := HZB.out; omega)
          · obtain rfl : k = L.length := by omega
            have hnl : ¬ ((L.length : Nat) : Int) < ((L.length : Nat) : Int) := by omega
            obtain ⟨m, hm⟩ : ∃ m, L.length = m + 1 := ⟨L.length - 1, by omega⟩
            have hrl : ((List.range L.length).map Int.ofNat).length = L.length := by simp
            obtain ⟨OB, oc, rfl, hoc, hoat, hob⟩ := HOR.out.at_ intE_ok
            rw [hrl] at HOR hoat ⊢
            have HSRT := Lib.hid (sortStableI_any (m := m) (base := G + 1) (b := G) (d := oc) (B := OB) HSX.out hm (by omega) (by omega) hn HL.out (by omega) (by omega) (by rw [hm] at HOR; exact HOR.out))
            have hleft := left_le n tot L (sortI m n tot L) hTot (by omega) (by rw [hm]; exact sortI_perm m n tot L)
            have HSH := Lib.hid (shared_right n tot L (sortI m n tot L) hTot (by omega) (by rw [hm]; exact sortI_perm m n tot L) (sortI_sorted m n tot L) _ rfl)
            rw [floors_all] at HOG hsk ⊢
            have hslen := sortI_length m n tot L
            have hsmem : ∀ i ∈ sortI m n tot L, i < L.length := fun i hi => by rw [hm]; exact List.mem_range.1 ((sortI_perm m n tot L).mem_iff.1 hi)
            rw [← hm] at HSRT hslen
            have hcap : L.length ≤ oc := hoat.2.1
            obtain ⟨q, hq⟩ : ∃ q, q = n - (L.map (quoP n tot)).sum := ⟨_, rfl⟩
            have hqi : (n : Int) - (((L.map (quoP n tot)).sum : Nat) : Int) = (q : Int) := by omega
            rw [← hq] at HSH hleft
            rw [hqi]
            generalize sortI m n tot L = O at *
            have HSL := Lib.hid hslen
            have HSM := Lib.hid hsmem
            have HFL : Hid ((L.map (quoP n tot)).length = L.length ∧ (L.map (quoP n tot)).sum ≤ n) := ⟨by simp, hsk⟩
            generalize L.map (quoP n tot) = F at *
            clear hoat hob hrl hcell hfl hb3 hb4 d0 d1 d2 d3 HOR hm hslen hsmem hq hqi hsk HSN hkL hlt
            go_wp2_with fail
            refine HSRT.out.mono ?_
            rintro e w6 ⟨rfl, hS6, hg6⟩
            have hl6 : (O.map Int.ofNat).length = L.length := by rw [List.length_map, HSL.out]
            obtain ⟨G2, c2, e2, hG2, hG2l, hcel2⟩ := hS6.ints (by omega)
            simp only [Value.slice.injEq] at e2
            obtain ⟨rfl, hjunk, rfl⟩ := e2
            clear hjunk
            have HG6 : Hid (wb.grownBy w6 (some G)) := grown_row HGX.out hg6 (fun i e => by have : G2 = i := Option.some.inj e; have := HZB.out; omega)
            have HO6 : Hid (Owns IntE w6 G (.slice (some ⟨G, 0, none⟩) L.length L.length) (natI F)) := HOG.out.kept hg6 (.inr (fun e => by have : G = G2 := Option.some.inj e; omega))
            have HC6 : Hid (∀ k, k < L.length → w6.cell? ⟨G2, k, none⟩ = some (.int .i64 ((O.getD k 0 : Nat) : Int))) := fun k hk => by rw [← natI_get]; exact (hcel2 k (by omega)).1
            have hsl := sl_upto G2 L.length oc q (by omega)
            clear hS6 hg6 hcel2 HSRT hl6 HGX HOG
            go_wp2_with fail
            go_loopg [69] q (fun gk v wx => ∃ k : Nat, Hid (k + gk = q) ∧ v = .int .i64 (k : Int) ∧ Hid (Owns IntE wx G (.slice (some ⟨G, 0, none⟩) L.length L.length) (natI (bump F (O.take k)))) ∧ Hid (w6.grownBy wx (some G)))
            case atStart => exact ⟨0, show 0 + q = q by omega, rfl, HO6, World.grownBy.refl _ _⟩
            case round =>
              obtain ⟨k, HK, rfl, HOX, HGY⟩ := hrel
              clear HO6
              have hkq : k ≤ q := by have := HK.out; omega
              obtain ⟨hb1, hb2, hb3, hb4, hcell⟩ := HOX.out.cellAt
              by_cases hlt : k < q
              · have hO : w6.cell? ⟨G2, k, none⟩ = _ := HC6.out k (by omega)
                have hOx := (World.cell?_of_block (HGY.out.block G2 (World.block_lt_of_cell? w6 ⟨G2, k, none⟩ hO) (fun e => by have : G = G2 := (Option.some.inj e).symm; omega))).trans hO
                have hkO : k < O.length := by rw [HSL.out]; omega
                have hom := HSM.out (O.getD k 0) (by rw [List.getD_eq_getElem?_getD, List.getElem?_eq_getElem hkO]; exact List.getElem_mem hkO)
                have hbl : (natI (bump F (O.take k))).length = L.length := hb3.symm
                obtain ⟨hc1, hc2⟩ := hcell (O.getD k 0) (by rw [hbl]; exact hom)
                rw [natI_get] at hc1
                have HBM : Hid ((natI (bump F (O.take k))).set (O.getD k 0) (((bump F (O.take k)).getD (O.getD k 0) 0 : Nat) + 1 : Int) = natI (bump F (O.take (k + 1)))) := by
                  show _ = _
                  rw [List.take_succ_eq_append_getElem hkO]
                  unfold bump
                  rw [List.foldl_append]
                  have e : O.getD k 0 = O[k] := by simp [hkO]
                  rw [e]
                  exact natI_set _ _ _
                have hbig : (bump F (O.take k)).getD (O.getD k 0) 0 ≤ 100000 := by
                  have e1 := getD_le_sum (bump F (O.take k)) (O.getD k 0)
                  have e2 := bump_sum (O.take k) F (fun i hi => by rw [HFL.out.1]; exact HSM.out i (List.mem_of_mem_take hi))
                  have e3 := HFL.out.2
                  have e4 : (O.take k).length ≤ k := by simp; omega
                  omega
                generalize (bump F (O.take k)).getD (O.getD k 0) 0 = z at *
                generalize O.getD k 0 = o at *
                clear hO hcell hb3 hb4 hbl
                go_wp2_with fail
                go_roundg (gk - 1)
                case measure => have := HK.out; omega
                case rel =>
                  refine ⟨k + 1, show k + 1 + (gk - 1) = _ by have := HK.out; omega, by go_num, ?_, grown_trans HGY.out (grown_setCell _ _ _ _)⟩
                  have hset := HOX.out.setInt o ((z : Int) + 1)
                  rw [HBM.out] at hset
                  exact hset
              · obtain rfl : k = q := by omega
                obtain ⟨r1, r2, r3⟩ := HSH.out
                have hgf := grown_trans HG6.out HGY.out
                have hfin := HB2.out.grown hgf HB2.out.size (fun i e => by have := Option.some.inj e; omega)
                have HFIN : Hid (AllocPost w L n (.returned (.slice (some ⟨G, 0, none⟩) L.length L.length)) wr) := ⟨_, bump F (O.take k), rfl, HOX.out.base_ (by omega), r1, r2, by rw [hTot, r3]; omega, hfin⟩
                clear hcell hb3 hb4 r1 r2 r3 hfin hgf
                go_wp2_with fail
                go_ret
                exact HFIN.out
end Go.Proofs.YtiegbbngfojjoaaGreatDoor
