
/-
  What apart returns.
-/
import Derived.Test.YtmaimojpjepmjaaGreatDoorApartPlain
import Derived.Deep.QuietTactic
import Derived.BigQuiet
namespace Go.Proofs.YtmaimojpjepmjaaGreatDoor
open Go.RowKit

def IntE : Elem Int := ⟨3, 22, 1, 8, .int .i64 0, fun z => [.int .i64 z]⟩
theorem intE_ok : IntE.Ok := ⟨fun _ => rfl, fun x u hu => by simp [IntE] at hu; subst hu; rfl, by decide, by decide, by kernel_rfl, by kernel_rfl, Tryz.underlying22⟩
def QE : Elem Qt := ⟨76, 73, 3, 32, .agg #[.int .i64 0, .string ⟨#[]⟩, .bool false], fun q => [.int .i64 (q.1 : Int), .string ⟨q.2.1.toArray⟩, .bool q.2.2]⟩
theorem qE_ok : QE.Ok := ⟨fun _ => rfl, fun x u hu => by simp [QE] at hu; rcases hu with rfl | rfl | rfl <;> rfl, by decide, by decide, by kernel_rfl, by kernel_rfl, Tryz.underlying73⟩
theorem splitC_sums (c : UInt8) : ∀ s : List UInt8, ((splitC c s).map List.length).sum + (splitC c s).length = s.length + 1
  | [] => by simp [splitC]
  | b :: s => by
    have ih := splitC_sums c s
    unfold splitC
    by_cases h : b = c
    · rw [if_pos h]; simp; omega
    · rw [if_neg h]
      obtain ⟨t, ts, e⟩ := splitC_ne c s
      rw [e] at ih ⊢
      simp at ih ⊢
      omega
theorem lineL_sum (l : List UInt8) : ((lineL l).map List.length).sum + (lineL l).length ≤ l.length := by
  unfold lineL
  cases h : l.isEmpty with
  | true => simp
  | false =>
    simp only [Bool.false_eq_true, if_false]
    have := splitC_sums 10 l.dropLast
    rw [List.length_dropLast] at this
    have h0 : 0 < l.length := by cases l <;> simp at h ⊢
    omega
theorem le_sum_len : ∀ (L : List (List UInt8)) (x : List UInt8), x ∈ L → x.length ≤ (L.map List.length).sum
  | y :: L, x, h => by
    simp only [List.map_cons, List.sum_cons]
    rcases List.mem_cons.1 h with rfl | h
    · omega
    · have := le_sum_len L x h; omega
theorem lineL_le (l : List UInt8) : (lineL l).length ≤ l.length ∧ ∀ x ∈ lineL l, x.length ≤ l.length := by
  have h := lineL_sum l
  exact ⟨by omega, fun x hx => by have := le_sum_len _ x hx; omega⟩
theorem Owns.q {w : World} {base G n c : Nat} {M : List Qt} (h : Owns QE w base (.slice (some ⟨G, 0, none⟩) n c) M) {k : Nat} {q : Qt} (hk : M[k]? = some q) :
    w.cell? ⟨G, k * 3, none⟩ = some (.int .i64 (q.1 : Int)) ∧ w.cell? ⟨G, k * 3 + 1, none⟩ = some (.string ⟨q.2.1.toArray⟩) ∧ w.cell? ⟨G, k * 3 + 2, none⟩ = some (.bool q.2.2) ∧ w.frozen? ⟨G, k * 3, none⟩ = false ∧ w.frozen? ⟨G, k * 3 + 1, none⟩ = false ∧ w.frozen? ⟨G, k * 3 + 2, none⟩ = false := by
  obtain ⟨G', c', e', _, _, hc⟩ := Owns.where_ qE_ok h (by have := (List.getElem?_eq_some_iff.1 hk).1; omega)
  simp only [Value.slice.injEq, Option.some.injEq, Addr.mk.injEq] at e'
  obtain ⟨⟨rfl, _⟩, _, _⟩ := e'
  have h0 := hc k q 0 _ hk rfl
  have h1 := hc k q 1 _ hk rfl
  have h2 := hc k q 2 _ hk rfl
  exact ⟨h0.1, h1.1, h2.1, h0.2, h1.2, h2.2⟩
theorem Owns.qd {w : World} {base G n c : Nat} {M : List Qt} (h : Owns QE w base (.slice (some ⟨G, 0, none⟩) n c) M) {k : Nat} {q : Qt} (hk : M[k]? = some q) (d : Nat) (z : Int) (hz : z = d) : Owns QE (w.setCell ⟨G, k * 3, none⟩ (.int .i64 z)) base (.slice (some ⟨G, 0, none⟩) n c) (M.set k (d, q.2.1, q.2.2)) := by
  subst hz
  exact Owns.set_ qE_ok h k q (d, q.2.1, q.2.2) 0 _ hk (by decide) rfl
theorem Owns.qt {w : World} {base G n c : Nat} {M : List Qt} (h : Owns QE w base (.slice (some ⟨G, 0, none⟩) n c) M) {k : Nat} {q : Qt} (hk : M[k]? = some q) (t : List UInt8) : Owns QE (w.setCell ⟨G, k * 3 + 1, none⟩ (.string ⟨t.toArray⟩)) base (.slice (some ⟨G, 0, none⟩) n c) (M.set k (q.1, t, q.2.2)) :=
  Owns.set_ qE_ok h k q (q.1, t, q.2.2) 1 _ hk (by decide) rfl
theorem Owns.qb {w : World} {base G n c : Nat} {M : List Qt} (h : Owns QE w base (.slice (some ⟨G, 0, none⟩) n c) M) {k : Nat} {q : Qt} (hk : M[k]? = some q) (b : Bool) : Owns QE (w.setCell ⟨G, k * 3 + 2, none⟩ (.bool b)) base (.slice (some ⟨G, 0, none⟩) n c) (M.set k (q.1, q.2.1, b)) :=
  Owns.set_ qE_ok h k q (q.1, q.2.1, b) 2 _ hk (by decide) rfl
theorem _root_.List.set_getElem?_self_ {α : Type} : ∀ {l : List α} {k : Nat} {x : α}, l[k]? = some x → l.set k x = l
  | [], k, x, h => by simp at h
  | y :: l, 0, x, h => by simp at h; simp [h]
  | y :: l, k + 1, x, h => by simp at h; simp [List.set_getElem?_self_ h]
/-- Lines that were read, and those that were not. -/
def fillQ (D : List (Nat × List UInt8)) (n k : Nat) : List Qt := (D.take k).map rawQ ++ List.replicate (n - k) (0, [], false)
theorem fillQ_at {D : List (Nat × List UInt8)} {n k : Nat} (hk : k < n) (hn : D.length = n) : (fillQ D n k)[k]? = some (0, [], false) := by
  unfold fillQ
  rw [List.getElem?_append_right (by simp; omega)]
  simp only [List.length_map, List.length_take, List.getElem?_replicate]
  rw [if_pos (by omega)]
theorem fillQ_succ {D : List (Nat × List UInt8)} {n k : Nat} {p : Nat × List UInt8} (hk : k < n) (hn : D.length = n) (hp : D[k]? = some p) : fillQ D n (k + 1) = (fillQ D n k).set k (rawQ p) := by
  obtain ⟨hi, hpe⟩ := List.getElem?_eq_some_iff.1 hp
  unfold fillQ
  have hl : ((D.take k).map rawQ).length = k := by simp; omega
  rw [List.set_append_right _ _ (by omega), hl, Nat.sub_self, List.take_succ_eq_append_getElem hi, hpe, List.map_append]
  obtain ⟨m, hm⟩ : ∃ m, n - k = m + 1 := ⟨n - k - 1, by omega⟩
  rw [hm, show n - (k + 1) = m by omega, List.replicate_succ, List.set_cons_zero]
  simp
theorem fillQ_all (D : List (Nat × List UInt8)) : fillQ D D.length D.length = midQ D 0 := by
  rw [midQ_zero]; simp [fillQ]
theorem extract1 (s : List UInt8) (n : Nat) (hn : s.length = n) : (⟨s.toArray⟩ : ByteArray).extract 1 n = ⟨(s.drop 1).toArray⟩ := by
  apply ByteArray.ext
  rw [ByteArray.data_extract]
  simp only [List.extract_toArray]
  rw [List.extract_eq_take_drop]
  congr 1
  rw [List.take_of_length_le (by rw [List.length_drop]; omega)]
theorem slice1 (s : List UInt8) (h : 1 ≤ s.length) (wx : World) : (Instr.slice 9 (.string ⟨s.toArray⟩) (some (.int .i64 1)) none none).run Tryz.prog wx = .ok (.string ⟨(s.drop 1).toArray⟩) wx := by
  have hz : (⟨s.toArray⟩ : ByteArray).size = s.length := bag_size s
  have h1 := slice_from (⟨s.toArray⟩ : ByteArray) 1 1 rfl (by rw [hz]; exact h) wx
  rw [hz] at h1
  rw [h1, extract1 s s.length rfl]
theorem Owns.intq {w : World} {base G n c : Nat} {M : List Int} (h : Owns IntE w base (.slice (some ⟨G, 0, none⟩) n c) M) {k : Nat} {z : Int} (hk : M[k]? = some z) : w.cell? ⟨G, k, none⟩ = some (.int .i64 z) ∧ w.frozen? ⟨G, k, none⟩ = false := by
  obtain ⟨G', c', e', _, _, hc⟩ := Owns.where_ intE_ok h (by have := (List.getElem?_eq_some_iff.1 hk).1; omega)
  simp only [Value.slice.injEq, Option.some.injEq, Addr.mk.injEq] at e'
  obtain ⟨⟨rfl, _⟩, _, _⟩ := e'
  have h0 := hc k z 0 _ hk rfl
  rw [show k * IntE.size + 0 = k by rw [Nat.add_zero]; exact Nat.mul_one k] at h0
  exact h0
theorem Owns.intset {w : World} {base G n c : Nat} {M : List Int} (h : Owns IntE w base (.slice (some ⟨G, 0, none⟩) n c) M) {k : Nat} {z : Int} (hk : M[k]? = some z) (y : Int) : Owns IntE (w.setCell ⟨G, k, none⟩ (.int .i64 y)) base (.slice (some ⟨G, 0, none⟩) n c) (M.set k y) := by
  have r := Owns.set_ intE_ok h k z y 0 (.int .i64 y) hk (by decide) rfl
  rw [show k * IntE.size + 0 = k by rw [Nat.add_zero]; exact Nat.mul_one k] at r
  exact r
theorem Owns.kept_apart {α : Type} {E : Elem α} {w w' : World} {base G n c S : Nat} {M : List α} (h : Owns E w base (.slice (some ⟨G, 0, none⟩) n c) M) (hg : w.grownBy w' (some S)) (hne : G ≠ S) : Owns E w' base (.slice (some ⟨G, 0, none⟩) n c) M :=
  World.ownsRow.kept h hg (.inr (fun e => hne (Option.some.inj e)))
theorem Owns.blk {α : Type} {E : Elem α} {w : World} {base G n c : Nat} {M : List α} (h : Owns E w base (.slice (some ⟨G, 0, none⟩) n c) M) : G < w.heap.size := by
  rcases h.2 with ⟨e, _⟩ | ⟨g, cap, cur, e, _, hh, _⟩
  · cases e
  · simp only [Value.slice.injEq, Option.some.injEq, Addr.mk.injEq] at e
    obtain ⟨⟨rfl, _⟩, _, _⟩ := e
    exact (Array.getElem?_eq_some_iff.1 hh).1
def depthI (p : Nat × List UInt8) : Int := (p.1 : Int)
def ApartPost (w : World) (l : List Qt) (e : Ending) (w' : World) : Prop := ∃ A n c, e = .returned (.slice A n c) ∧ ElemsAt QE w' A n c l ∧ Below w.heap.size w w'
set_option maxHeartbeats 12800000 in
set_option maxRecDepth 100000 in
theorem apart_any (s : ByteArray) (w : World) (hs : s.size ≤ 1000) (hM : MaxAt w) (hT : s.data.toList.isEmpty = true ∨ [10].isSuffixOf s.data.toList = true) :
    Calls Tryz.prog 31 #[.string s] w (ApartPost w (apartL s.data.toList)) := by
  have HLP := Lib.hid (lineP_any s w (by omega) hM hT)
  obtain ⟨hln, hll⟩ := lineL_le s.data.toList
  have hsl : s.data.toList.length = s.size := by simp
  have HAL : Hid (apartL s.data.toList = apartQ ((lineL s.data.toList).map strip)) := rfl
  have hln2 : (lineL s.data.toList).length ≤ 1000 := by omega
  have HLL : Hid (∀ x ∈ lineL s.data.toList, x.length ≤ 1000) := fun x hx => by have := hll x hx; omega
  clear hM hT hln hll hsl
  generalize lineL s.data.toList = LL at *
  go_enter Tryz.func31, Tryz.ntmps31
  go_wp2_with fail
  refine HLP.out.mono ?_
  rintro e w1 ⟨A, n, c, b, rfl, hst, hb1⟩
  have hnl : n = LL.length := hst.1
  have hn1 : n ≤ 1000 := by omega
  have hcap := hst.2.1
  have HST := Lib.hid hst
  have HB1 := Lib.hid hb1
  obtain ⟨wb, hrun, hO, hbb, hsz⟩ := made_owns qE_ok (0, [], false) rfl w1 n (by omega)
  have hrun' : (Instr.makeSlice 73 (.int .i64 (n : Int)) (.int .i64 (n : Int))).run Tryz.prog w1 = .ok (.slice (some ⟨w1.heap.size, 0, none⟩) n n) wb := hrun
  have HNL := Lib.hid hnl
  have HO := Lib.hid hO
  have HBB := Lib.hid hbb
  clear hnl hst hb1 hrun hO hbb HLP hsz
  go_wp2_with fail
  generalize hG : w1.heap.size = G at *
  have HG := Lib.hid hG
  clear hG hrun'
  obtain ⟨D, hD⟩ : ∃ D, D = LL.map strip := ⟨_, rfl⟩
  have HD := Lib.hid hD
  have hDn : D.length = n := by rw [hD, List.length_map]; exact HNL.out.symm
  have HDN := Lib.hid hDn
  clear hD hDn
  go_loopg [22] n (fun gk i wr => ∃ k : Nat, Hid (k + gk = n) ∧ i = .int .i64 (k : Int) ∧ Hid (Owns QE wr G (.slice (some ⟨G, 0, none⟩) n n) (fillQ D n k)) ∧ Hid (Below w1.heap.size w1 wr))
  case atStart => exact ⟨0, show 0 + n = n by omega, rfl, by show Owns _ _ _ _ _; simp [fillQ]; exact HO.out, HG.out ▸ HBB.out⟩
  case round =>
    obtain ⟨k, HK, rfl, HQ, HBR⟩ := hrel
    clear HO HBB
    have hkn : k ≤ n := by have := HK.out; omega
    by_cases hlt : k < n
    · obtain ⟨gA, oA, rfl, hgA, hcA⟩ := HST.out.str (by omega)
      have hck := (HBR.out.cell (p := ⟨gA, oA + k, none⟩) hgA).trans (hcA k hlt)
      have hkL : k < LL.length := by rw [← HNL.out]; exact hlt
      have hxl := HLL.out _ (List.getElem_mem hkL)
      have e0 : LL.getD k [] = LL[k] := by simp [hkL]
      rw [e0] at hck
      have HDK : Hid (D[k]? = some (strip LL[k])) := by show _ = _; rw [HD.out, List.getElem?_map, List.getElem?_eq_getElem hkL]; rfl
      generalize LL[k] = x at *
      have HFS := Lib.hid (fillQ_succ hlt HDN.out HDK.out)
      have HFA := Lib.hid (fillQ_at hlt HDN.out)
      clear hcA e0 hkL
      go_wp2_with fail
      generalize wr = wo at *
      generalize gk = gk1 at *
      go_loopg [7] x.length (fun gk v7 wr => ∃ (d : Nat) (s' : List UInt8), Hid (s'.length ≤ gk) ∧ v7 = .string ⟨s'.toArray⟩ ∧ Hid (d + (strip s').1 = (strip x).1 ∧ (strip s').2 = (strip x).2) ∧ d ≤ 1000 ∧ s'.length ≤ 1000 ∧ Hid (Owns QE wr G (.slice (some ⟨G, 0, none⟩) n n) ((fillQ D n k).set k (d, [], false))) ∧ Hid (Below w1.heap.size w1 wr))
      case atStart => exact ⟨0, x, Nat.le_refl _, rfl, ⟨by omega, rfl⟩, by omega, hxl, by
        show Owns _ _ _ _ _
        rw [List.set_getElem?_self_ HFA.out]
        exact HQ.out, HBR⟩
      case round =>
        obtain ⟨d, s', HL, rfl, HD2, hd, hs', HQ2, HBR2⟩ := hrel
        have hkF : ((fillQ D n k).set k (d, [], false))[k]? = some (d, [], false) := by
          have := (List.getElem?_eq_some_iff.1 HFA.out).1
          simp [this]
        obtain ⟨q0, q1, q2, f0, f1, f2⟩ := HQ2.out.q hkF
        have HKF := Lib.hid hkF
        clear hkF
        have HPX := Lib.hid (fun wx => (Tryz.strings_HasPrefix (⟨s'.toArray⟩ : ByteArray) ⟨#[62]⟩ wx))
        rw [show (⟨s'.toArray⟩ : ByteArray).data.toList = s' by simp, show (⟨#[62]⟩ : ByteArray).data.toList = [62] from rfl] at HPX
        obtain ⟨bb, hbb⟩ : ∃ bb, Lib.hasPrefix s' [62] = bb := ⟨_, rfl⟩
        rw [hbb] at HPX
        have HBX := Lib.hid hbb
        clear hbb
        have hki0 : (0 : Int) ≤ (k : Int) := by omega
        have hki1 : (k : Int) < (n : Int) := by omega
        go_wp2_with fail
        refine (HPX.out _).mono ?_
        rintro e w' ⟨rfl, hw'⟩
        obtain rfl := hw'.symm
        cases bb
        · have HN := Lib.hid (strip_no HBX.out)
          have HFIN : Hid (d = (strip x).1 ∧ s' = (strip x).2) := by
            have h := HD2.out
            rw [HN.out] at h
            exact ⟨by have := h.1; simp at this; exact this, h.2⟩
          go_wp2_with fail
          have HQ3 := Lib.hid (HQ2.out.qt HKF.out s')
          have HBR3 : Hid (Below w1.heap.size w1 (wr.setCell ⟨G, k * 3 + 1, none⟩ (.string ⟨s'.toArray⟩))) := HBR2.out.setCell (by show w1.heap.size ≤ G; rw [HG.out]; exact Nat.le_refl _) _
          clear q0 q1 q2 f0 f1 f2
          generalize wr.setCell ⟨G, k * 3 + 1, none⟩ (.string ⟨s'.toArray⟩) = w4 at *
          go_roundg (gk1 - 1)
          case measure => have := HK.out; omega
          case rel => exact ⟨k + 1, show k + 1 + (gk1 - 1) = n by have := HK.out; omega, by go_num, by
            show Owns _ _ _ _ _
            have h := HQ3.out
            rw [List.set_set] at h
            rw [HFS.out]
            obtain ⟨h1, h2⟩ := HFIN.out
            rw [h1, h2] at h
            exact h, HBR3⟩
        · have hy := strip_yes HBX.out
          rw [List.drop_one] at hy
          have HY := Lib.hid hy
          clear hy
          have h1l := prefix_pos HBX.out
          have hsl := slice1 s' h1l
          have HTP := Lib.hid (fun wx => (Tryz.strings_TrimPrefix (⟨s'.tail.toArray⟩ : ByteArray) ⟨#[32]⟩ wx))
          rw [show (⟨s'.tail.toArray⟩ : ByteArray).data.toList = s'.tail by simp, show (⟨#[32]⟩ : ByteArray).data.toList = [32] from rfl] at HTP
          have h3 := trimPrefix_len s'.tail [32]
          rw [List.length_tail] at h3
          have hdd : d + 1 ≤ 1000 := by
            have h := HD2.out.1
            rw [HY.out] at h
            have h2 := strip_len x.length x (Nat.le_refl _)
            simp only at h
            omega
          generalize Lib.trimPrefix s'.tail [32] = tp at *
          go_wp2_with fail
          refine (HTP.out _).mono ?_
          rintro e w' ⟨rfl, hw'⟩
          obtain rfl := hw'.symm
          go_wp2_with fail
          have HQ3 := Lib.hid (HQ2.out.qd HKF.out (d + 1) ((d : Int) + 1) (by omega))
          have HBR3 : Hid (Below w1.heap.size w1 (wr.setCell ⟨G, k * 3, none⟩ (.int .i64 ((d : Int) + 1)))) := HBR2.out.setCell (by show w1.heap.size ≤ G; rw [HG.out]; exact Nat.le_refl _) _
          clear q0 q1 q2 f0 f1 f2 hsl
          generalize wr.setCell ⟨G, k * 3, none⟩ (.int .i64 ((d : Int) + 1)) = w4 at *
          go_roundg (gk - 1)
          case measure => have := HL.out; omega
          case rel => exact ⟨d + 1, tp, show tp.length ≤ gk - 1 by have := HL.out; omega, rfl, ⟨by have h := HD2.out.1; rw [HY.out] at h; simp only at h; omega, by have h := HD2.out.2; rw [HY.out] at h; exact h⟩, hdd, by omega, by
            show Owns _ _ _ _ _
            have h := HQ3.out
            rw [List.set_set] at h
            exact h, HBR3⟩
    · obtain rfl : k = n := by omega
      have HQM : Hid (Owns QE wr G (.slice (some ⟨G, 0, none⟩) k k) (midQ D 0)) := by
        show Owns _ _ _ _ _
        have h := HQ.out
        have e := fillQ_all D
        rw [HDN.out] at e
        rw [e] at h
        exact h
      have hnk : ¬ (k : Int) < (k : Int) := by omega
      have hGr : G < wr.heap.size := by
        obtain ⟨g, c2, cur, e, _, hh, _⟩ := HQM.out.2.resolve_left (fun h => by cases h.1)
        simp only [Value.slice.injEq, Option.some.injEq, Addr.mk.injEq] at e
        obtain ⟨⟨rfl, _⟩, _, _⟩ := e
        exact (Array.getElem?_eq_some_iff.1 hh).1
      obtain ⟨wb, hrun, hO, hbb, hsz⟩ := made_owns intE_ok (0 : Int) rfl wr k (by omega)
      have hrun' : (Instr.makeSlice 22 (.int .i64 (k : Int)) (.int .i64 (k : Int))).run Tryz.prog wr = .ok (.slice (some ⟨wr.heap.size, 0, none⟩) k k) wb := hrun
      have HO := Lib.hid hO
      have HQB := Lib.hid (HQM.out.below_ hbb)
      have HBB : Hid (Below w1.heap.size w1 wb) := HBR.out.trans (hbb.mono HBR.out.size)
      clear hrun hO hbb hsz HQ HBR HQM HK hlt
      go_wp2_with fail
      generalize hS : wr.heap.size = S at *
      have hgs : G < S := hGr
      have HSg := Lib.hid hS
      clear hS hrun' hGr
      have HD3 : Hid ((D.map depthI).length = k) := by show _ = _; rw [List.length_map]; exact HDN.out
      generalize wr = wo at *
      generalize gk = gk1 at *
      go_loopg [54] k (fun gk i wr => ∃ j : Nat, Hid (j + gk = k) ∧ i = .int .i64 (j : Int) ∧ Hid (Owns IntE wr S (.slice (some ⟨S, 0, none⟩) k k) ((D.take j).map depthI ++ List.replicate (k - j) 0)) ∧ Hid (Owns QE wr G (.slice (some ⟨G, 0, none⟩) k k) (midQ D 0)) ∧ Hid (Below w1.heap.size w1 wr))
      case atStart => exact ⟨0, show 0 + k = k by omega, rfl, by show Owns _ _ _ _ _; simp; exact HO.out, HQB, HBB⟩
      case round =>
        obtain ⟨j, HJ, rfl, HI, HQ, HBR⟩ := hrel
        clear HO HQB HBB
        have hjk : j ≤ k := by have := HJ.out; omega
        by_cases hlt : j < k
        · have hjD : j < D.length := by rw [HDN.out]; exact hlt
          obtain ⟨p, hp⟩ : ∃ p, D[j]? = some p := ⟨_, List.getElem?_eq_getElem hjD⟩
          have hq := midQ_text (i := 0) hp (Nat.zero_le _)
          have hq0 : (midQ D 0)[j]? = some (rawQ p) := by rw [midQ_zero, List.getElem?_map, hp]; rfl
          obtain ⟨q00, q1, q2, f0, f1, f2⟩ := HQ.out.q hq0
          have hil : ((D.take j).map depthI ++ List.replicate (k - j) 0)[j]? = some 0 := by
            rw [List.getElem?_append_right (by simp; omega)]
            simp only [List.length_map, List.length_take, List.getElem?_replicate]
            rw [if_pos (by omega)]
          have HNX : Hid (((D.take j).map depthI ++ List.replicate (k - j) 0).set j (depthI p) = (D.take (j + 1)).map depthI ++ List.replicate (k - (j + 1)) 0) := by
            show _ = _
            have hl : ((D.take j).map depthI).length = j := by simp; omega
            obtain ⟨h1, h2⟩ := List.getElem?_eq_some_iff.1 hp
            rw [List.set_append_right _ _ (by omega), hl, Nat.sub_self, List.take_succ_eq_append_getElem h1, h2, List.map_append]
            obtain ⟨m, hm⟩ : ∃ m, k - j = m + 1 := ⟨k - j - 1, by omega⟩
            rw [hm, show k - (j + 1) = m by omega, List.replicate_succ, List.set_cons_zero]
            simp
          have hic := (HI.out.intq hil)
          have hif := hic.2
          have hicc := hic.1
          have HIS := Lib.hid (HI.out.intset hil (depthI p))
          have hj0 : (0 : Int) ≤ (j : Int) := by omega
          have hj1 : (j : Int) < (k : Int) := by omega
          clear hq hq0 hic hil
          have q0 : wr.cell? ⟨G, j * 3, none⟩ = some (.int .i64 (depthI p)) := q00
          clear q00
          generalize depthI p = dp at *
          go_wp2_with fail
          have hgs2 := grown_setCell wr S j (.int .i64 dp)
          have HQ2 := Lib.hid (HQ.out.kept_apart hgs2 (by omega))
          have HBR2 : Hid (Below w1.heap.size w1 (wr.setCell ⟨S, j, none⟩ (.int .i64 dp))) := HBR.out.setCell (by show w1.heap.size ≤ S; have := HG.out; omega) _
          clear hgs2 q0 q1 q2 f0 f1 f2 hif hicc
          generalize wr.setCell ⟨S, j, none⟩ (.int .i64 dp) = w4 at *
          go_roundg (gk - 1)
          case measure => have := HJ.out; omega
          case rel => exact ⟨j + 1, show j + 1 + (gk - 1) = k by have := HJ.out; omega, by go_num, by show Owns _ _ _ _ _; rw [← HNX.out]; exact HIS.out, HQ2, HBR2⟩
        · obtain rfl : j = k := by omega
          have HIF : Hid (Owns IntE wr S (.slice (some ⟨S, 0, none⟩) j j) (D.map depthI)) := by
            show Owns _ _ _ _ _
            have h := HI.out
            rw [Nat.sub_self, List.replicate_zero, List.append_nil, List.take_of_length_le (by rw [HDN.out]; exact Nat.le_refl _)] at h
            exact h
          have hdl : ∀ p ∈ D, p.1 ≤ 1000 ∧ p.2.length ≤ 1000 := fun p hp => by
            rw [HD.out, List.mem_map] at hp
            obtain ⟨x, hx, rfl⟩ := hp
            have h1 := strip_len x.length x (Nat.le_refl _)
            have h2 := HLL.out x hx
            omega
          have HDL := Lib.hid hdl
          have HDD : Hid (apartQ D = apartL s.data.toList) := by show _ = _; rw [HAL.out, HD.out]
          clear hdl HI HJ hlt HLL HST HD
          go_wp2_with fail
          generalize wr = wo2 at *
          generalize gk = gk2 at *
          go_loopg [69] j (fun gk i wr => ∃ i' : Nat, Hid (i' + gk = j) ∧ i = .int .i64 (i' : Int) ∧ Hid (Owns IntE wr S (.slice (some ⟨S, 0, none⟩) j j) (D.map depthI)) ∧ Hid (Owns QE wr G (.slice (some ⟨G, 0, none⟩) j j) (midQ D i')) ∧ Hid (Below w1.heap.size w1 wr) ∧ Hid (G < wr.heap.size ∧ S < wr.heap.size))
          case atStart => exact ⟨0, show 0 + j = j by omega, rfl, HIF, HQ, HBR, ⟨HQ.out.blk, HIF.out.blk⟩⟩
          case round =>
            obtain ⟨i, HI2, rfl, HI, HQ, HBR, HZ⟩ := hrel
            clear HIF
            have hij : i ≤ j := by have := HI2.out; omega
            by_cases hlt : i < j
            · have hiD : i < D.length := by rw [HDN.out]; exact hlt
              obtain ⟨p, hp⟩ : ∃ p, D[i]? = some p := ⟨_, List.getElem?_eq_getElem hiD⟩
              have hq0 := midQ_at hp
              have HQ0 := Lib.hid hq0
              obtain ⟨q0, q11, q2, f0, f1, f2⟩ := HQ.out.q hq0
              have hpl := HDL.out p (List.mem_of_getElem? hp)
              have q1 : wr.cell? ⟨G, i * 3 + 1, none⟩ = some (.string ⟨p.2.toArray⟩) := q11
              clear q11
              have HSU := Lib.hid (midQ_succ hp)
              have HON : Hid (oneQ p (D.drop (i + 1)) = if saysB p.2 = true then (match seek p.1 (D.drop (i + 1)) with | some e => (e, p.2, true) | none => (p.1, p.2, false)) else (p.1, p.2, false)) := rfl
              have HSY := Lib.hid (says_any (⟨p.2.toArray⟩ : ByteArray) wr (by show (bag p.2).size ≤ _; rw [bag_size]; omega))
              rw [show (⟨p.2.toArray⟩ : ByteArray).data.toList = p.2 by simp] at HSY
              obtain ⟨bb, hbb⟩ : ∃ bb, saysB p.2 = bb := ⟨_, rfl⟩
              rw [hbb] at HSY HON
              have HP := Lib.hid hp
              have hi0 : (0 : Int) ≤ (i : Int) := by omega
              have hi1 : (i : Int) < (j : Int) := by omega
              clear hq0 hbb hp hiD q0 q2 f0 f1 f2
              go_wp2_with fail
              refine HSY.out.mono ?_
              rintro e w5 ⟨rfl, hb5⟩
              have HI5 := Lib.hid (HI.out.below_ hb5)
              have HQ5 := Lib.hid (HQ.out.below_ hb5)
              have HBR5 : Hid (Below w1.heap.size w1 w5) := HBR.out.trans (hb5.mono HBR.out.size)
              have HZ5 : Hid (G < w5.heap.size ∧ S < w5.heap.size) := ⟨Nat.lt_of_lt_of_le HZ.out.1 hb5.size, Nat.lt_of_lt_of_le HZ.out.2 hb5.size⟩
              clear hb5 HI HQ HBR HZ HSY q1
              cases bb
              · have HSAME : Hid (midQ D (i + 1) = midQ D i) := by
                  show _ = _
                  rw [HSU.out, HON.out]
                  exact List.set_getElem?_self_ HQ0.out
                go_wp2_with fail
                go_roundg (gk - 1)
                case measure => have := HI2.out; omega
                case rel => exact ⟨i + 1, show i + 1 + (gk - 1) = j by have := HI2.out; omega, by go_num, HI5, by show Owns _ _ _ _ _; rw [HSAME.out]; exact HQ5.out, HBR5, HZ5⟩
              · have hsz5 := HZ5.out
                go_wp2_with fail
                generalize wr = wo3 at *
                generalize gk = gk3 at *
                go_loopg [11] (j - (i + 1)) (fun gk v11 wr => ∃ m : Nat, Hid (m + gk = j) ∧ i + 1 ≤ m ∧ v11 = .int .i64 (m : Int) ∧ Hid (seek p.1 (D.drop (i + 1)) = seek p.1 (D.drop m)) ∧ Hid (∃ q, wr = w5.drewN q))
                case atStart => exact ⟨i + 1, show i + 1 + (j - (i + 1)) = j by omega, Nat.le_refl _, by go_num, rfl, ⟨0, rfl⟩⟩
                case round =>
                  obtain ⟨m, HM, him, rfl, HSK, HW⟩ := hrel
                  have hmj : m ≤ j := by have := HM.out; omega
                  have HI6 : Hid (Owns IntE wr S (.slice (some ⟨S, 0, none⟩) j j) (D.map depthI)) := by obtain ⟨q, hq⟩ := HW.out; show Owns _ _ _ _ _; rw [hq]; exact HI5.out
                  have HQ6 : Hid (Owns QE wr G (.slice (some ⟨G, 0, none⟩) j j) (midQ D i)) := by obtain ⟨q, hq⟩ := HW.out; show Owns _ _ _ _ _; rw [hq]; exact HQ5.out
                  have HBR6 : Hid (Below w1.heap.size w1 wr) := by obtain ⟨q, hq⟩ := HW.out; show Below _ _ _; rw [hq]; exact below_drewN HBR5.out q
                  have HZ6 : Hid (G < wr.heap.size ∧ S < wr.heap.size) := by obtain ⟨q, hq⟩ := HW.out; show _ ∧ _; rw [hq]; exact HZ5.out
                  by_cases hmlt : m < j
                  · have hmD : m < D.length := by rw [HDN.out]; exact hmlt
                    obtain ⟨pm, hpm⟩ : ∃ pm, D[m]? = some pm := ⟨_, List.getElem?_eq_getElem hmD⟩
                    have hdrop : D.drop m = pm :: D.drop (m + 1) := by
                      obtain ⟨h1, h2⟩ := List.getElem?_eq_some_iff.1 hpm
                      rw [List.drop_eq_getElem_cons h1, h2]
                    have HSK2 : Hid (seek p.1 (D.drop (i + 1)) = if p.1 < pm.1 then some pm.1 else if blankB pm.2 = true then seek p.1 (D.drop (m + 1)) else none) := by
                      show _ = _
                      rw [HSK.out, hdrop, seek]
                    obtain ⟨tq, htq, htx⟩ := midQ_text (i := i) hpm (by rw [HDN.out]; exact hij)
                    obtain ⟨t0, t1, t2, g0, g1, g2⟩ := HQ6.out.q htq
                    rw [htx] at t1
                    obtain ⟨c1, _⟩ := HI6.out.intq (show (D.map depthI)[m]? = some (pm.1 : Int) by rw [List.getElem?_map, hpm]; rfl)
                    obtain ⟨c2, _⟩ := HI6.out.intq (show (D.map depthI)[i]? = some (p.1 : Int) by rw [List.getElem?_map, HP.out]; rfl)
                    obtain ⟨k0, k1, k2, kf0, kf1, kf2⟩ := HQ6.out.q HQ0.out
                    have hpm2 := HDL.out pm (List.mem_of_getElem? hpm)
                    have hm0 : (0 : Int) ≤ (m : Int) := by omega
                    have hm1 : (m : Int) < (j : Int) := by omega
                    clear htq htx hdrop hmD hpm t0 t2 g0 g1 g2
                    by_cases hgt : p.1 < pm.1
                    · have hgi : (pm.1 : Int) > (p.1 : Int) := by omega
                      have hgd : decide ((p.1 : Int) < (pm.1 : Int)) = true := by simpa using hgi
                      go_wp2_with fail
                      go_quiet (fail)
                      have t1' : (wr.drewN nq).cell? ⟨G, m * 3 + 1, none⟩ = some (.string ⟨pm.2.toArray⟩) := t1
                      have c1' : (wr.drewN nq).cell? ⟨S, m, none⟩ = some (.int .i64 (pm.1 : Int)) := c1
                      have k0' : (wr.drewN nq).cell? ⟨G, i * 3, none⟩ = some (.int .i64 (p.1 : Int)) := k0
                      have k2' : (wr.drewN nq).cell? ⟨G, i * 3 + 2, none⟩ = some (.bool false) := k2
                      have kf0' : (wr.drewN nq).frozen? ⟨G, i * 3, none⟩ = false := kf0
                      have kf2' : (wr.drewN nq).frozen? ⟨G, i * 3 + 2, none⟩ = false := kf2
                      have HI7 : Hid (Owns IntE (wr.drewN nq) S (.slice (some ⟨S, 0, none⟩) j j) (D.map depthI)) := HI6.out
                      have HQ7 : Hid (Owns QE (wr.drewN nq) G (.slice (some ⟨G, 0, none⟩) j j) (midQ D i)) := HQ6.out
                      have HBR7 : Hid (Below w1.heap.size w1 (wr.drewN nq)) := below_drewN HBR6.out nq
                      have HZ7 : Hid (G < (wr.drewN nq).heap.size ∧ S < (wr.drewN nq).heap.size) := HZ6.out
                      have HW7 : Hid (∃ q, wr.drewN nq = w5.drewN q) := by obtain ⟨q, hq⟩ := HW.out; exact ⟨q + nq, by rw [hq, World.drewN_drewN]⟩
                      clear t1 c1 c2 k0 k1 k2 kf0 kf1 kf2 HI6 HQ6 HBR6 HZ6 HW
                      generalize wr.drewN nq = w7 at *
                      have HSOME : Hid (seek p.1 (D.drop (i + 1)) = some pm.1) := by show _ = _; rw [HSK2.out, if_pos hgt]
                      have HNEW : Hid (midQ D (i + 1) = (midQ D i).set i (pm.1, p.2, true)) := by
                        show _ = _
                        rw [HSU.out, HON.out, HSOME.out]
                        rfl
                      have hset1 := HQ7.out.qd HQ0.out pm.1 (pm.1 : Int) rfl
                      have hi2 : ((midQ D i).set i (pm.1, (rawQ p).2.1, (rawQ p).2.2))[i]? = some (pm.1, (rawQ p).2.1, (rawQ p).2.2) := by
                        have := (List.getElem?_eq_some_iff.1 HQ0.out).1
                        simp [this]
                      have hset2 := hset1.qb hi2 true
                      rw [List.set_set] at hset2
                      have HS2 := Lib.hid hset2
                      clear hset1 hset2 hi2
                      go_wp2_with fail
                      have hg1 := grown_trans (grown_setCell w7 G (i * 3) (.int .i64 (pm.1 : Int))) (grown_setCell (w7.setCell ⟨G, i * 3, none⟩ (.int .i64 (pm.1 : Int))) G (i * 3 + 2) (.bool true))
                      have HI8 := Lib.hid (HI7.out.kept_apart hg1 (by omega))
                      have HBR8 : Hid (Below w1.heap.size w1 ((w7.setCell ⟨G, i * 3, none⟩ (.int .i64 (pm.1 : Int))).setCell ⟨G, i * 3 + 2, none⟩ (.bool true))) := (HBR7.out.setCell (by show w1.heap.size ≤ G; rw [HG.out]; exact Nat.le_refl _) _).setCell (by show w1.heap.size ≤ G; rw [HG.out]; exact Nat.le_refl _) _
                      have HZ8 : Hid (G < ((w7.setCell ⟨G, i * 3, none⟩ (.int .i64 (pm.1 : Int))).setCell ⟨G, i * 3 + 2, none⟩ (.bool true)).heap.size ∧ S < ((w7.setCell ⟨G, i * 3, none⟩ (.int .i64 (pm.1 : Int))).setCell ⟨G, i * 3 + 2, none⟩ (.bool true)).heap.size) := ⟨Nat.lt_of_lt_of_le HZ7.out.1 hg1.size, Nat.lt_of_lt_of_le HZ7.out.2 hg1.size⟩
                      clear hg1 t1' c1' k0' k2' kf0' kf2'
                      generalize (w7.setCell ⟨G, i * 3, none⟩ (.int .i64 (pm.1 : Int))).setCell ⟨G, i * 3 + 2, none⟩ (.bool true) = w8 at *
                      go_roundg (gk3 - 1)
                      case measure => have := HI2.out; omega
                      case rel => exact ⟨i + 1, show i + 1 + (gk3 - 1) = j by have := HI2.out; omega, by go_num, HI8, by show Owns _ _ _ _ _; rw [HNEW.out]; exact HS2.out, HBR8, HZ8⟩
                    · have hgi : ¬ (pm.1 : Int) > (p.1 : Int) := by omega
                      have hgd : decide ((p.1 : Int) < (pm.1 : Int)) = false := by simpa using hgi
                      go_wp2_with fail
                      go_quiet (fail)
                      have t1' : (wr.drewN nq).cell? ⟨G, m * 3 + 1, none⟩ = some (.string ⟨pm.2.toArray⟩) := t1
                      have c1' : (wr.drewN nq).cell? ⟨S, m, none⟩ = some (.int .i64 (pm.1 : Int)) := c1
                      have k0' : (wr.drewN nq).cell? ⟨G, i * 3, none⟩ = some (.int .i64 (p.1 : Int)) := k0
                      have k2' : (wr.drewN nq).cell? ⟨G, i * 3 + 2, none⟩ = some (.bool false) := k2
                      have kf0' : (wr.drewN nq).frozen? ⟨G, i * 3, none⟩ = false := kf0
                      have kf2' : (wr.drewN nq).frozen? ⟨G, i * 3 + 2, none⟩ = false := kf2
                      have HI7 : Hid (Owns IntE (wr.drewN nq) S (.slice (some ⟨S, 0, none⟩) j j) (D.map depthI)) := HI6.out
                      have HQ7 : Hid (Owns QE (wr.drewN nq) G (.slice (some ⟨G, 0, none⟩) j j) (midQ D i)) := HQ6.out
                      have HBR7 : Hid (Below w1.heap.size w1 (wr.drewN nq)) := below_drewN HBR6.out nq
                      have HZ7 : Hid (G < (wr.drewN nq).heap.size ∧ S < (wr.drewN nq).heap.size) := HZ6.out
                      have HW7 : Hid (∃ q, wr.drewN nq = w5.drewN q) := by obtain ⟨q, hq⟩ := HW.out; exact ⟨q + nq, by rw [hq, World.drewN_drewN]⟩
                      clear t1 c1 c2 k0 k1 k2 kf0 kf1 kf2 HI6 HQ6 HBR6 HZ6 HW
                      generalize wr.drewN nq = w7 at *
                      clear k0' k2' kf0' kf2' c1'
                      have HBL := Lib.hid (blank_any (⟨pm.2.toArray⟩ : ByteArray) w7 (by show (bag pm.2).size ≤ _; rw [bag_size]; omega))
                      rw [show (⟨pm.2.toArray⟩ : ByteArray).data.toList = pm.2 by simp] at HBL
                      obtain ⟨b2, hb2⟩ : ∃ b2, blankB pm.2 = b2 := ⟨_, rfl⟩
                      have HSK3 : Hid (seek p.1 (D.drop (i + 1)) = if b2 = true then seek p.1 (D.drop (m + 1)) else none) := by show _ = _; rw [HSK2.out, if_neg hgt, hb2]
                      rw [hb2] at HBL
                      clear hb2
                      go_wp2_with fail
                      refine HBL.out.mono ?_
                      rintro e w8 ⟨rfl, q8, hw8⟩
                      have HI8 : Hid (Owns IntE w8 S (.slice (some ⟨S, 0, none⟩) j j) (D.map depthI)) := by show Owns _ _ _ _ _; rw [hw8]; exact HI7.out
                      have HQ8 : Hid (Owns QE w8 G (.slice (some ⟨G, 0, none⟩) j j) (midQ D i)) := by show Owns _ _ _ _ _; rw [hw8]; exact HQ7.out
                      have HBR8 : Hid (Below w1.heap.size w1 w8) := by show Below _ _ _; rw [hw8]; exact below_drewN HBR7.out q8
                      have HZ8 : Hid (G < w8.heap.size ∧ S < w8.heap.size) := by show _ ∧ _; rw [hw8]; exact HZ7.out
                      have HW8 : Hid (∃ q, w8 = w5.drewN q) := by obtain ⟨q, hq⟩ := HW7.out; exact ⟨q + q8, by rw [hw8, hq, World.drewN_drewN]⟩
                      clear hw8 HBL t1' HI7 HQ7 HBR7 HZ7 HW7
                      cases b2
                      · have HSAME : Hid (midQ D (i + 1) = midQ D i) := by
                          show _ = _
                          have h := HSK3.out
                          rw [if_neg (by simp)] at h
                          rw [HSU.out, HON.out, h]
                          exact List.set_getElem?_self_ HQ0.out
                        go_wp2_with fail
                        go_roundg (gk3 - 1)
                        case measure => have := HI2.out; omega
                        case rel => exact ⟨i + 1, show i + 1 + (gk3 - 1) = j by have := HI2.out; omega, by go_num, HI8, by show Owns _ _ _ _ _; rw [HSAME.out]; exact HQ8.out, HBR8, HZ8⟩
                      · go_wp2_with fail
                        go_roundg (gk - 1)
                        case measure => have := HM.out; omega
                        case rel => exact ⟨m + 1, show m + 1 + (gk - 1) = j by have := HM.out; omega, by omega, by go_num, by show _ = _; rw [HSK3.out]; rfl, HW8⟩
                  · obtain rfl : m = j := by omega
                    have HNONE : Hid (seek p.1 (D.drop (i + 1)) = none) := by
                      show _ = _
                      rw [HSK.out, List.drop_of_length_le (by rw [HDN.out]; exact Nat.le_refl _)]
                      rfl
                    have HSAME : Hid (midQ D (i + 1) = midQ D i) := by
                      show _ = _
                      rw [HSU.out, HON.out, HNONE.out]
                      exact List.set_getElem?_self_ HQ0.out
                    go_wp2_with fail
                    go_roundg (gk3 - 1)
                    case measure => have := HI2.out; omega
                    case rel => exact ⟨i + 1, show i + 1 + (gk3 - 1) = m by have := HI2.out; omega, by go_num, HI6, by show Owns _ _ _ _ _; rw [HSAME.out]; exact HQ6.out, HBR6, HZ6⟩
            · obtain rfl : i = j := by omega
              have HFIN : Hid (midQ D i = apartL s.data.toList) := by
                show _ = _
                have h := midQ_all D
                rw [HDN.out] at h
                rw [h]
                exact HDD.out
              obtain ⟨A7, c7, e7, hc7, hat7, _⟩ := HQ.out.at_ qE_ok
              simp only [Value.slice.injEq] at e7
              obtain ⟨rfl, hjj, rfl⟩ := e7
              rw [← hjj] at hat7
              have HAT := Lib.hid hat7
              clear hjj hat7
              go_wp2_with fail
              go_ret
              exact ⟨_, _, _, rfl, by rw [← HFIN.out]; exact HAT.out, HB1.out.trans (HBR.out.mono HB1.out.size)⟩
end Go.Proofs.YtmaimojpjepmjaaGreatDoor
