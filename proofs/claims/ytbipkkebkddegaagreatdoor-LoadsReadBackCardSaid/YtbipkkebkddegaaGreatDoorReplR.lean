
/-
  What the table's Replace returns.
-/
import Derived.Test.YtbipkkebkddegaaGreatDoorReplB
import Derived.Test.YtbipkkebkddegaaGreatDoorStrLib
import Derived.Test.YtbipkkebkddegaaGreatDoorBuf
import Derived.Laws.IdiomCopy
namespace Go.Proofs.YtbipkkebkddegaaGreatDoor
open Go.RowKit

theorem run_neq_nil (w : World) (a : Option Addr) (n c n' c' : Nat) :
    (binOp .neq 71 (.slice a n c) (.slice none n' c')).run Tryz.prog w = .ok (.bool (!a.isNone)) w := by
  simp only [binOp]
  simp [Op.equal, Op.maxDepth, Lib.run_equalIn_slice_nil (P := Tryz.prog) w 9999 71 5 a n c n' c' Tryz.underlying71]
/-- How long the string is behind the first k bytes. -/
def lenR (tab : RTab) (L : List UInt8) (k : Nat) : Int := (L.length : Int) + ((L.take k).map (growB tab)).sum
theorem lenR_zero (tab : RTab) (L : List UInt8) : lenR tab L 0 = L.length := by simp [lenR]
theorem lenR_succ (tab : RTab) (L : List UInt8) (k : Nat) (h : k < L.length) : lenR tab L (k + 1) = lenR tab L k + growB tab (L.getD k 0) := by
  unfold lenR
  rw [List.take_succ_eq_append_getElem h, List.map_append, List.sum_append, List.getD_eq_getElem?_getD, List.getElem?_eq_getElem h]
  simp; omega
theorem lenR_all (tab : RTab) (L : List UInt8) (k : Nat) (h : L.length ≤ k) : lenR tab L k = (replL tab L).length := by
  rw [← sizeR_eq]
  unfold lenR sizeR
  rw [List.take_of_length_le h]
theorem grow_bound {tab : RTab} (hT : ∀ b l, tab b = some l → l.length ≤ 1000) (b : UInt8) : -1 ≤ growB tab b ∧ growB tab b ≤ 1000 := by
  unfold growB replB
  cases h : tab b with
  | none => simp
  | some l => have := hT b l h; simp; omega
theorem sum_bound {tab : RTab} (hT : ∀ b l, tab b = some l → l.length ≤ 1000) : ∀ L : List UInt8, -(L.length : Int) ≤ (L.map (growB tab)).sum ∧ (L.map (growB tab)).sum ≤ 1000 * L.length
  | [] => by simp
  | b :: L => by
    have := sum_bound hT L
    have := grow_bound hT b
    simp only [List.map_cons, List.sum_cons, List.length_cons]
    omega
theorem lenR_bound {tab : RTab} (hT : ∀ b l, tab b = some l → l.length ≤ 1000) (L : List UInt8) (k : Nat) : 0 ≤ lenR tab L k ∧ lenR tab L k ≤ 1001 * L.length := by
  have h := sum_bound hT (L.take k)
  have h2 : (L.take k).length ≤ L.length := by rw [List.length_take]; omega
  unfold lenR
  omega
theorem anyR_succ (tab : RTab) (L : List UInt8) (k : Nat) (h : k < L.length) : anyR tab (L.take (k + 1)) = (anyR tab (L.take k) || (tab (L.getD k 0)).isSome) := by
  unfold anyR
  rw [List.take_succ_eq_append_getElem h, List.any_append, List.getD_eq_getElem?_getD, List.getElem?_eq_getElem h]
  simp
theorem replL_succ (tab : RTab) (L : List UInt8) (k : Nat) (h : k < L.length) : replL tab (L.take (k + 1)) = replL tab (L.take k) ++ replB tab (L.getD k 0) := by
  rw [List.take_succ_eq_append_getElem h, replL_append, List.getD_eq_getElem?_getD, List.getElem?_eq_getElem h]
  simp [replL]
theorem replL_le (tab : RTab) (L : List UInt8) (k : Nat) : (replL tab (L.take k)).length ≤ (replL tab L).length := by
  conv => rhs; rw [← List.take_append_drop k L, replL_append, List.length_append]
  omega
/-- The table read at a byte: the cell, and where its row lies. -/
theorem ReplAt.at_ {w : World} {base R : Nat} {tab : RTab} {tl : List UInt8} {A : Array Value} {V : Value} (h : ReplAt w base R tab tl A V) (b : UInt8) :
    (tab b = none ∧ w.cell? ⟨R, b.toNat, none⟩ = some (.slice none 0 0)) ∨ ∃ l g N, tab b = some l ∧ w.cell? ⟨R, b.toNat, none⟩ = some (.slice (some ⟨g, 0, none⟩) l.length N) ∧ BytesAt w g N l := by
  have hs := h.2.2.2.2.2 b
  rw [h.cell]
  cases ht : tab b with
  | none => rw [ht] at hs; exact .inl ⟨rfl, hs⟩
  | some l =>
    rw [ht] at hs
    obtain ⟨g, N, h1, _, _, h4⟩ := hs
    exact .inr ⟨l, g, N, rfl, h1, h4⟩
theorem mul_small {c g : Int} (h0 : 0 ≤ c) (h1 : c ≤ 100000) (g0 : -1 ≤ g) (g1 : g ≤ 1000) : -100000 ≤ c * g ∧ c * g ≤ 100000000 := by
  have a1 := Int.mul_le_mul_of_nonneg_left g1 h0
  have a2 := Int.mul_le_mul_of_nonneg_left g0 h0
  omega
theorem countR_bound {tab : RTab} (hT : ∀ b l, tab b = some l → l.length ≤ 1000) (L : List UInt8) (hL : L.length ≤ 100000) : ∀ tl : List UInt8, -100000 * (tl.length : Int) ≤ countR tab L tl ∧ countR tab L tl ≤ 100000000 * (tl.length : Int)
  | [] => by simp [countR]
  | x :: tl => by
    have ih := countR_bound hT L hL tl
    have hg := grow_bound hT x
    have hc : L.count x ≤ L.length := List.count_le_length
    have := mul_small (c := (L.count x : Int)) (g := growB tab x) (by omega) (by omega) hg.1 hg.2
    simp only [countR, List.map_cons, List.sum_cons, List.length_cons] at ih ⊢
    omega
theorem countR_snoc (tab : RTab) (L tl : List UInt8) (k : Nat) (h : k < tl.length) : countR tab L (tl.take (k + 1)) = countR tab L (tl.take k) + (L.count (tl.getD k 0) : Int) * growB tab (tl.getD k 0) := by
  rw [List.take_succ_eq_append_getElem h, List.getD_eq_getElem?_getD, List.getElem?_eq_getElem h]
  simp only [countR, List.map_append, List.sum_append, List.map_cons, List.map_nil, List.sum_cons, List.sum_nil, Option.getD_some]
  omega
/-- Block G holds just these bytes. -/
def u8v (b : UInt8) : Value := .int .u8 (b.toNat : Int)
def RowB (w : World) (G : Nat) (M : List UInt8) : Prop := w.heap[G]? = some (.cells (M.map u8v).toArray 5 (0, 0))
theorem RowB.lt {w : World} {G : Nat} {M : List UInt8} (h : RowB w G M) : G < w.heap.size := (Array.getElem?_eq_some_iff.1 h).1
theorem RowB.cell {w : World} {G : Nat} {M : List UInt8} (h : RowB w G M) (j : Nat) (hj : j < M.length) : w.cell? ⟨G, j, none⟩ = some (u8v (M.getD j 0)) := by
  rw [cell_of_row w G j _ _ _ h]
  simp [hj]
theorem RowB.frozen {w : World} {G : Nat} {M : List UInt8} (h : RowB w G M) (j : Nat) : w.frozen? ⟨G, j, none⟩ = false := by simp [World.frozen?, show w.heap[G]? = _ from h]
theorem RowB.set {w : World} {G : Nat} {M : List UInt8} (h : RowB w G M) (i : Nat) (c : UInt8) : RowB (w.setCell ⟨G, i, none⟩ (u8v c)) G (M.set i c) := by
  unfold RowB at h ⊢
  have e : ((M.map u8v).toArray.setIfInBounds i (u8v c)) = ((M.set i c).map u8v).toArray := by
    apply Array.ext'
    rw [Array.toList_setIfInBounds, List.map_set]
  rw [← e]
  simp [World.setCell, Array.getElem?_modify, h]
theorem RowB.setAll {G : Nat} : ∀ (l : List UInt8) (w : World) (M : List UInt8) (i : Nat), RowB w G M → i + l.length ≤ M.length → RowB (w.setCells G i (l.map u8v)) G (M.take i ++ (l ++ M.drop (i + l.length)))
  | [], w, M, i, h, _ => by simpa [World.setCells] using h
  | c :: l, w, M, i, h, hl => by
    have hl2 : i + (l.length + 1) ≤ M.length := by simpa using hl
    have ih := RowB.setAll l (w.setCell ⟨G, i, none⟩ (u8v c)) (M.set i c) (i + 1) (h.set i c) (by simp; omega)
    have e : (M.set i c).take (i + 1) ++ (l ++ (M.set i c).drop (i + 1 + l.length)) = M.take i ++ (c :: l ++ M.drop (i + (c :: l).length)) := by
      rw [List.drop_set_of_lt (by omega), List.take_set, List.take_succ_eq_append_getElem (by omega), List.set_append_right _ _ (by simp; omega)]
      simp [Nat.min_eq_left (show i ≤ M.length by omega), show i + 1 + l.length = i + (l.length + 1) by omega]
    rw [List.map_cons, World.setCells, ← e]
    exact ih
theorem setCells_grown (G : Nat) : ∀ (vs : List Value) (i : Nat) (w : World), w.grownBy (w.setCells G i vs) (some G)
  | [], _, _ => World.grownBy.refl _ _
  | v :: r, i, w => grown_trans (grown_setCell w G i v) (setCells_grown G r (i + 1) _)
theorem made_row (w : World) (T : Nat) : RowB (w.alloc (.cells (madeCells #[.int .u8 0] (T * 1)) 5)) w.heap.size (List.replicate T 0) := by
  unfold RowB
  rw [heap_alloc_new]
  congr 2
  apply Array.ext'
  apply List.ext_getElem
  · simp [size_madeCells]
  · intro j h1 h2
    simp [madeCells, u8v, Nat.mod_one]
theorem row_back (w : World) (G : Nat) (M : List UInt8) (n : Nat) (hn : M.length = n) (h : RowB w G M) : (convert 71 9 (.slice (some ⟨G, 0, none⟩) n n)).run Tryz.prog w = .ok (.string ⟨M.toArray⟩) w := by
  subst hn
  refine run_convert_bytes_back w 71 9 5 ⟨G, 0, none⟩ M.length M Tryz.underlying71 Tryz.underlying5 Tryz.underlying9 (fun j hj => ?_)
  have hadd : (⟨G, 0, none⟩ : Addr).add j = ⟨G, j, none⟩ := by unfold Addr.add; split <;> simp_all
  rw [hadd, h.cell j hj, List.getD_eq_getElem?_getD, List.getElem?_eq_getElem hj]
  rfl
theorem elem_u8s : Tryz.prog.elem 71 = 5 := by kernel_rfl
theorem und_u8s : Tryz.prog.underlying 71 = some (.slice (Tryz.prog.elem 71)) := by rw [elem_u8s]; exact Tryz.underlying71
theorem sl_bytes (B : Option Addr) (m d j : Nat) (hj : j ≤ m) (V : Value) (h : sliced B j m d 1 = V) (wx : World) : (Instr.slice 71 (.slice B m d) (some (.int .i64 (j : Int))) none none).run Tryz.prog wx = .ok V wx := by
  have hz : (sizeOf 5).run Tryz.prog wx = .ok 1 wx := by go_simp
  rw [run_slice_l (P := Tryz.prog) wx 71 B m d und_u8s .i64 (j : Int) (by omega) (by omega), elem_u8s, hz]
  simp only [Result.andThen, Int.toNat_natCast]
  rw [h]
theorem row_next (P : List UInt8) (T : Nat) (c : UInt8) (h : P.length < T) : (P ++ List.replicate (T - P.length) 0).set P.length c = (P ++ [c]) ++ List.replicate (T - (P ++ [c]).length) 0 := by
  rw [List.set_append_right _ _ (Nat.le_refl _), Nat.sub_self, show T - P.length = (T - P.length - 1) + 1 by omega, List.replicate_succ, List.set_cons_zero]
  simp [show T - (P.length + 1) = T - P.length - 1 by omega]
theorem row_more (P l : List UInt8) (T : Nat) : (P ++ List.replicate (T - P.length) 0).take P.length ++ (l ++ (P ++ List.replicate (T - P.length) 0).drop (P.length + l.length)) = (P ++ l) ++ List.replicate (T - (P ++ l).length) 0 := by
  rw [List.take_left, List.drop_append, List.drop_eq_nil_of_le (by omega), List.drop_replicate, List.nil_append]
  simp; omega
def ReplacePost (w : World) (tab : RTab) (L : List UInt8) (e : Ending) (w' : World) : Prop := e = .returned (.string (bag (replL tab L))) ∧ Below w.heap.size w w'
set_option maxHeartbeats 3200000 in
set_option maxRecDepth 100000 in
theorem replace_any (base R : Nat) (tab : RTab) (tl : List UInt8) (A : Array Value) (V : Value) (s : ByteArray) (w : World) (h : ReplAt w base R tab tl A V) (hT : ∀ b l, tab b = some l → l.length ≤ 1000) (htl : tl.Nodup) (hdom : ∀ b, tab b ≠ none ↔ b ∈ tl) (htn : tl.length ≤ 100) (hs : s.size ≤ 100000) :
    Calls Tryz.prog 302 #[.pointer (some ⟨R, 0, none⟩), .string s] w (ReplacePost w tab s.data.toList) := by
  have hsl : s.data.toList.length = s.size := by simp
  have q256 : w.cell? ⟨R, 256, none⟩ = some V := (h.cell _).trans h.2.2.1
  obtain ⟨AV, cV, hV, hcV, hVat, hAV⟩ := h.2.2.2.1.at_ strE_ok
  have hlt : (tl.map fun b => [b]).length = tl.length := by simp
  rw [hlt] at hV hVat
  subst hV
  have HH := Lib.hid h
  have HT := Lib.hid hT
  have HTL := Lib.hid htl
  have HD := Lib.hid hdom
  have HV := Lib.hid hVat
  have hneq := run_neq_nil
  have HSL := Lib.hid hsl
  obtain ⟨L, hL⟩ : ∃ L, L = s.data.toList := ⟨_, rfl⟩
  have HL := Lib.hid hL
  obtain ⟨m, hm⟩ : ∃ m, tl.length = m := ⟨_, rfl⟩
  rw [hm] at q256 htn HV HH
  have HM := Lib.hid hm
  clear h hT htl hdom hVat hsl hlt hL hm hAV
  rw [← HL.out] at HSL ⊢
  go_enter Tryz.func302, Tryz.ntmps302
  go_upto_if 26 with (fail)
  go_cut [5, 6] (fun v5 v6 wx => v5 = .int .i64 ((replL tab L).length : Nat) ∧ v6 = .bool (anyR tab L) ∧ Hid (∃ q, wx = w.drewN q))
  case first =>
    generalize decide ((m : Int) * 8 ≤ (s.size : Int)) = bc
    cases bc
    rotate_left
    · go_wp2_with fail
      go_loopg [5, 6, 32] m (fun gk v5 v6 i wr => ∃ (k : Nat) (z : Int) (bb : Bool), Hid (k + gk = m) ∧ i = .int .i64 (k : Int) ∧ v5 = .int .i64 z ∧ v6 = .bool bb ∧ Hid (z = (s.size : Int) + countR tab L (tl.take k)) ∧ Hid (bb = (tl.take k).any (fun x => L.count x != 0)) ∧ Hid (∃ q, wr = w.drewN q))
      case atStart => exact ⟨0, s.size, false, show 0 + m = m by omega, rfl, rfl, rfl, (show _ = _ by simp [countR]), (show _ = _ by simp), (show ∃ q, _ from ⟨0, rfl⟩)⟩
      case round =>
        obtain ⟨k, z, bb, HK, rfl, rfl, rfl, HZ, HBB, HW⟩ := hrel
        have HHr : Hid (ReplAt wr base R tab tl A (.slice AV m cV)) := by obtain ⟨q, hq⟩ := HW.out; show ReplAt _ _ _ _ _ _ _; rw [hq]; exact HH.out
        have HVr : Hid (StrsAt wr AV m cV (tl.map fun b => [b])) := by obtain ⟨q, hq⟩ := HW.out; show StrsAt _ _ _ _ _; rw [hq]; exact HV.out
        have q256r : wr.cell? ⟨R, 256, none⟩ = some (.slice AV m cV) := by obtain ⟨q, hq⟩ := HW.out; rw [hq]; exact q256
        clear q256
        have hkm : k ≤ m := by have := HK.out; omega
        by_cases hlt : k < m
        · obtain ⟨g, off, rfl, hg, hcell⟩ := HVr.out.str (by omega)
          have hck := hcell k hlt
          have hktl : k < tl.length := by rw [HM.out]; exact hlt
          obtain ⟨x, hx⟩ : ∃ x, x = tl.getD k 0 := ⟨_, rfl⟩
          rw [show (tl.map fun b => [b]).getD k [] = [x] by rw [hx, List.getD_eq_getElem?_getD, List.getElem?_map, List.getD_eq_getElem?_getD, List.getElem?_eq_getElem hktl]; rfl] at hck
          have hck2 : wr.cell? ⟨g, off + k, none⟩ = some (.string ⟨#[x]⟩) := hck
          have hxm : x ∈ tl := by rw [hx, List.getD_eq_getElem?_getD, List.getElem?_eq_getElem hktl]; exact List.getElem_mem hktl
          have hcnt := Tryz.strings_Count_one s x wr
          rw [← HL.out, show Lib.countByte L x = L.count x from rfl] at hcnt
          have hcl : L.count x ≤ 100000 := by have : L.count x ≤ L.length := List.count_le_length; have := HSL.out; omega
          obtain ⟨cx, hcx⟩ : ∃ cx, cx = L.count x := ⟨_, rfl⟩
          rw [← hcx] at hcnt hcl
          have hzb := countR_bound HT.out L (by have := HSL.out; omega) (tl.take k)
          have hz1 := HZ.out
          have htk : ((tl.take k).length : Int) ≤ 100 := by rw [List.length_take]; omega
          have hzl : -10000000 ≤ z := by omega
          have hzu : z ≤ 10000100000 := by omega
          have hsn := countR_snoc tab L tl k hktl
          rw [← hx, ← hcx] at hsn
          have hat := HHr.out.at_ x
          rcases hat with ⟨hno, _⟩ | ⟨l, gl, N, hl, hcl2, hBy⟩
          · exact absurd hno ((HD.out x).2 hxm)
          have hgl := growB_some hl
          have hll := HT.out x l hl
          rw [hgl] at hsn
          have hmul := mul_small (c := (cx : Int)) (g := (l.length : Int) - 1) (by omega) (by omega) (by omega) (by omega)
          have hm1 := hmul.1
          have hm2 := hmul.2
          have ex : ((⟨#[x]⟩ : ByteArray)[0]'(by simp [ByteArray.size])).toNat = x.toNat := rfl
          have hxb : x.toNat < 256 := x.toNat_lt
          have hxi : (x.toNat : Int) < 256 := by omega
          have HC := Lib.hid hcnt
          have HSN := Lib.hid hsn
          have hbn : (tl.take (k + 1)).any (fun y => L.count y != 0) = (bb || (cx != 0)) := by
            rw [List.take_succ_eq_append_getElem hktl, List.any_append, ← HBB.out, hcx, hx, List.getD_eq_getElem?_getD, List.getElem?_eq_getElem hktl]; simp
          have HBN := Lib.hid hbn
          have HK2 := Lib.hid (show k + 1 + (gk - 1) = m by have := HK.out; omega)
          have HMS := Lib.hid (show 0 < gk by have := HK.out; omega)
          have HZ1 := Lib.hid hz1
          clear hck hcell hcnt hsn hmul hz1 hzb htk hbn hgl hBy hx hcx hl HZ
          go_wp2_with fail
          refine HC.out.mono ?_
          rintro e w' ⟨rfl, hw⟩
          obtain rfl := hw.symm
          clear HC
          rcases Nat.eq_zero_or_pos cx with h0 | h0
          · subst h0
            go_wp2_with fail
            go_roundg (gk - 1)
            case measure => exact Nat.sub_lt HMS.out Nat.one_pos
            case rel => exact ⟨k + 1, z, bb, HK2.out, by go_num, rfl, rfl, (show _ = _ by rw [HSN.out, HZ1.out]; simp), (show _ = _ by rw [HBN.out]; simp), HW⟩
          · have hne : ((cx : Int) != 0) = true := by simp; omega
            have hne2 : ¬ (cx : Int) = 0 := by omega
            have hcxn : (cx != 0) = true := by simp; omega
            go_wp2_with fail
            go_region
            all_goals go_wp2_with fail
            all_goals go_roundg (gk - 1)
            case measure => exact Nat.sub_lt HMS.out Nat.one_pos
            case rel => exact ⟨k + 1, z + cx * ((l.length : Int) - 1), true, HK2.out, by go_num, by go_num, rfl, (show _ = _ by rw [HSN.out, HZ1.out]; omega), (show _ = _ by rw [HBN.out, hcxn]; simp), (show ∃ q, _ by obtain ⟨q, hq⟩ := HW.out; exact ⟨q + 1, by rw [hq]; rfl⟩)⟩
        · obtain rfl : k = m := by omega
          have hkk : ¬ (k : Int) < (k : Int) := by omega
          have hz : z = ((replL tab L).length : Nat) := by
            rw [HZ.out, List.take_of_length_le (by rw [HM.out]; omega), countR_all tab tl HTL.out (fun b hb => (HD.out b).1 hb), ← HSL.out, ← sizeR_eq]; rfl
          have hb : bb = anyR tab L := by rw [HBB.out, List.take_of_length_le (by rw [HM.out]; omega), anyR_count tab tl HD.out]
          subst hz hb
          go_wp2_with fail
          go_meet
          exact ⟨rfl, rfl, HW⟩
    · go_wp2_with fail
      go_loopg [5, 6, 10] s.size (fun gk v5 v6 i wr => ∃ (k : Nat) (z : Int) (bb : Bool), Hid (k + gk = s.size) ∧ i = .int .i64 (k : Int) ∧ v5 = .int .i64 z ∧ v6 = .bool bb ∧ Hid (z = lenR tab L k) ∧ Hid (bb = anyR tab (L.take k)) ∧ Hid (∃ q, wr = w.drewN q))
      case atStart => exact ⟨0, s.size, false, show 0 + s.size = s.size by omega, rfl, rfl, rfl, (show _ = _ by rw [lenR_zero, HSL.out]), (show _ = _ by simp [anyR]), (show ∃ q, _ from ⟨0, rfl⟩)⟩
      case round =>
        obtain ⟨k, z, bb, HK, rfl, rfl, rfl, HZ, HBB, HW⟩ := hrel
        have HHr : Hid (ReplAt wr base R tab tl A (.slice AV m cV)) := by obtain ⟨q, hq⟩ := HW.out; show ReplAt _ _ _ _ _ _ _; rw [hq]; exact HH.out
        clear q256
        have hkm : k ≤ s.size := by have := HK.out; omega
        by_cases hlt : k < s.size
        · have hkl : k < L.length := by rw [HSL.out]; exact hlt
          have hgb : L.getD k 0 = s[k] := by rw [HL.out]; exact getD_byte s k hlt
          have hln := lenR_succ tab L k hkl
          have hlb := lenR_bound HT.out L k
          have han := anyR_succ tab L k hkl
          rw [hgb] at hln han
          rw [← HBB.out] at han
          have hz1 := HZ.out
          have hsl2 := HSL.out
          have hzl : 0 ≤ z := by omega
          have hzu : z ≤ 1000000000 := by omega
          have hx0 : ∀ x, tab x = none → (tab x).isSome = false := fun x h => by rw [h]; rfl
          have hx1 : ∀ x l, tab x = some l → (tab x).isSome = true := fun x l h => by rw [h]; rfl
          have hxb : s[k].toNat < 256 := s[k].toNat_lt
          have hxi : (s[k].toNat : Int) < 256 := by omega
          have HK2 := Lib.hid (show k + 1 + (gk - 1) = s.size by have := HK.out; omega)
          have HMS := Lib.hid (show 0 < gk by have := HK.out; omega)
          rw [← hz1] at hln
          rcases HHr.out.at_ s[k] with ⟨hno, hcl⟩ | ⟨l, gl, N, hl, hcl, hBy⟩
          · rw [hx0 _ hno, Bool.or_false] at han
            rw [growB_none hno, Int.add_zero] at hln
            have HLN := Lib.hid hln
            have HAN := Lib.hid han
            clear hln han hlb hz1 hsl2 hx0 hx1 hgb HZ HBB hno
            go_wp2_with fail
            go_roundg (gk - 1)
            case measure => exact Nat.sub_lt HMS.out Nat.one_pos
            case rel => exact ⟨k + 1, z, bb, HK2.out, by go_num, rfl, rfl, (show _ = _ from HLN.out.symm), (show _ = _ from HAN.out.symm), HW⟩
          · rw [hx1 _ _ hl, Bool.or_true] at han
            rw [growB_some hl] at hln
            have hll := HT.out _ l hl
            have HLN := Lib.hid hln
            have HAN := Lib.hid han
            clear hln han hlb hz1 hsl2 hx0 hx1 hgb HZ HBB hl hBy
            go_wp2_with fail
            go_roundg (gk - 1)
            case measure => exact Nat.sub_lt HMS.out Nat.one_pos
            case rel => exact ⟨k + 1, z + ((l.length : Int) - 1), true, HK2.out, by go_num, by go_num, rfl, (show _ = _ by rw [HLN.out]), (show _ = _ by rw [HAN.out]), HW⟩
        · obtain rfl : k = s.size := by omega
          have hkk : ¬ (s.size : Int) < (s.size : Int) := by omega
          have hz : z = ((replL tab L).length : Nat) := by rw [HZ.out, lenR_all tab L _ (by rw [HSL.out]; exact Nat.le_refl _)]
          have hb : bb = anyR tab L := by rw [HBB.out, List.take_of_length_le (by rw [HSL.out]; exact Nat.le_refl _)]
          subst hz hb
          go_wp2_with fail
          go_meet
          exact ⟨rfl, rfl, HW⟩
  case rest =>
    obtain ⟨rfl, rfl, HW⟩ := hcut
    have HHr : Hid (ReplAt wc base R tab tl A (.slice AV m cV)) := by obtain ⟨q, hq⟩ := HW.out; show ReplAt _ _ _ _ _ _ _; rw [hq]; exact HH.out
    have HBw : Hid (Below w.heap.size w wc) := by obtain ⟨q, hq⟩ := HW.out; show Below _ _ _; rw [hq]; exact below_drewN (Below.refl _ _) q
    clear q256
    cases hany : anyR tab L with
    | false =>
      have HR : Hid (ReplacePost w tab L (.returned (.string s)) wc) := by
        refine ⟨?_, HBw.out⟩
        rw [replL_same tab L hany, HL.out, bag_of]
      go_wp2_with fail
      go_ret
      exact HR.out
    | true =>
      obtain ⟨i0, hi, hz0, hz1, hz2⟩ := info_parts byteE_ok.info
      have hTb : (replL tab L).length ≤ 100100000 := by have := lenR_bound HT.out L L.length; rw [lenR_all tab L _ (Nat.le_refl _)] at this; have := HSL.out; omega
      have hmk := run_make (P := Tryz.prog) wc 71 5 i0 (.int .u8 0) Tryz.underlying71 hi hz0 .i64 .i64 ((replL tab L).length : Int) ((replL tab L).length : Int) (by omega) (by omega) (by rw [hz2]; show ((1 : Nat) : Int) * _ ≤ _; omega) (by omega)
      rw [hz1, Int.toNat_natCast] at hmk
      have hrow := made_row wc (replL tab L).length
      have hbm : Below wc.heap.size wc (wc.alloc (.cells (madeCells #[.int .u8 0] ((replL tab L).length * 1)) 5)) := (Below.refl _ _).alloc (Nat.le_refl _) _
      have hmk2 : (Instr.makeSlice 71 (.int .i64 ((replL tab L).length : Int)) (.int .i64 ((replL tab L).length : Int))).run Tryz.prog wc = .ok (.slice (some ⟨wc.heap.size, 0, none⟩) (replL tab L).length (replL tab L).length) (wc.alloc (.cells (madeCells #[.int .u8 0] ((replL tab L).length * 1)) 5)) := hmk
      clear hmk hi hz0 hz1 hz2 i0
      generalize wc.alloc (.cells (madeCells #[.int .u8 0] ((replL tab L).length * 1)) 5) = wm at *
      obtain ⟨T, hTT⟩ : ∃ T, T = (replL tab L).length := ⟨_, rfl⟩
      rw [← hTT] at hmk2 hTb hrow ⊢
      have HTT := Lib.hid hTT
      have HROW := Lib.hid hrow
      have HBM := Lib.hid hbm
      obtain ⟨G, hG⟩ : ∃ G, G = wc.heap.size := ⟨_, rfl⟩
      rw [← hG] at hmk2 HROW
      have HG := Lib.hid hG
      clear hrow hbm hTT hG hany
      go_upto_region 23 with (fail)
      clear hmk2
      go_wp2_with fail
      go_loopg [13, 14] s.size (fun gk v13 i wr => ∃ (k : Nat), Hid (k + gk = s.size) ∧ i = .int .i64 (k : Int) ∧ v13 = .int .i64 ((replL tab (L.take k)).length : Nat) ∧ Hid (RowB wr G (replL tab (L.take k) ++ List.replicate (T - (replL tab (L.take k)).length) 0)) ∧ Hid (Below wc.heap.size wc wr))
      case atStart => exact ⟨0, show 0 + s.size = s.size by omega, rfl, by simp [replL], (show RowB _ _ _ by simpa [replL, HG.out] using HROW.out), HBM.out⟩
      case round =>
        obtain ⟨k, HK, rfl, rfl, HRW, HBR⟩ := hrel
        have HHk : Hid (ReplAt wr base R tab tl A (.slice AV m cV)) := HHr.out.below HBR.out
        have hkm : k ≤ s.size := by have := HK.out; omega
        by_cases hlt : k < s.size
        · have hkl : k < L.length := by rw [HSL.out]; exact hlt
          have hgb : L.getD k 0 = s[k] := by rw [HL.out]; exact getD_byte s k hlt
          have hsc := replL_succ tab L k hkl
          rw [hgb] at hsc
          have hle := replL_le tab L (k + 1)
          rw [← HTT.out] at hle
          obtain ⟨P, hP⟩ : ∃ P, P = replL tab (L.take k) := ⟨_, rfl⟩
          rw [← hP] at hsc HRW ⊢
          have HP := Lib.hid hP
          clear hP
          have hxb : s[k].toNat < 256 := s[k].toNat_lt
          have hxi : (s[k].toNat : Int) < 256 := by omega
          have HK2 := Lib.hid (show k + 1 + (gk - 1) = s.size by have := HK.out; omega)
          have HMS := Lib.hid (show 0 < gk by have := HK.out; omega)
          rcases HHk.out.at_ s[k] with ⟨hno, hcl⟩ | ⟨l, gl, N, hl, hcl, hBy⟩
          · have hrb : replB tab s[k] = [s[k]] := by unfold replB; rw [hno]; rfl
            rw [hrb] at hsc
            have hPl : P.length < T := by rw [hsc] at hle; simp at hle; omega
            have hPi : (P.length : Int) < (T : Int) := by omega
            obtain ⟨c0, hcg⟩ : ∃ c0 : Int, wr.cell? ⟨G, P.length, none⟩ = some (.int .u8 c0) := ⟨_, HRW.out.cell _ (by simp; omega)⟩
            have hfg : wr.frozen? ⟨G, P.length, none⟩ = false := HRW.out.frozen _
            have hGl : G < wr.heap.size := HRW.out.lt
            have hset := HRW.out.set P.length s[k]
            rw [row_next P T s[k] hPl, ← hsc] at hset
            have HSET : Hid (RowB (wr.setCell ⟨G, P.length, none⟩ (.int .u8 (s[k].toNat : Int))) G (replL tab (L.take (k + 1)) ++ List.replicate (T - (replL tab (L.take (k + 1))).length) 0)) := hset
            have hbb : Below wc.heap.size wc (wr.setCell ⟨G, P.length, none⟩ (.int .u8 (s[k].toNat : Int))) := HBR.out.grown (grown_setCell _ _ _ _) HBR.out.size (fun i e => by cases e; rw [HG.out]; exact Nat.le_refl _)
            have HBB := Lib.hid hbb
            have HLE : Hid ((replL tab (L.take (k + 1))).length = P.length + 1) := by show _ = _; rw [hsc]; simp
            clear hset hbb hsc hle hrb hno hgb
            go_wp2_with fail
            go_roundg (gk - 1)
            case measure => exact Nat.sub_lt HMS.out Nat.one_pos
            case rel => exact ⟨k + 1, HK2.out, by go_num, (by rw [HLE.out]; go_num), HSET.out, HBB.out⟩
          · have hrb : replB tab s[k] = l := by unfold replB; rw [hl]; rfl
            rw [hrb] at hsc
            have hPl : P.length + l.length ≤ T := by rw [hsc] at hle; simpa using hle
            have hll := HT.out _ l hl
            have hTi : (P.length : Int) ≤ (T : Int) := by omega
            obtain ⟨V, hV⟩ : ∃ V, V = sliced (some ⟨G, 0, none⟩) P.length T T 1 := ⟨_, rfl⟩
            have hslice := fun wx => sl_bytes (some ⟨G, 0, none⟩) T T P.length (by omega) V hV.symm wx
            obtain ⟨wz, hcopy, hgz, hrz⟩ : ∃ wz, (∀ ty, (Builtin.copy_ #[71, 71] ty #[V, .slice (some ⟨gl, 0, none⟩) l.length N]).run Tryz.prog wr.drew = .ok (goInt l.length) wz) ∧ wr.grownBy wz (some G) ∧ RowB wz G (replL tab (L.take (k + 1)) ++ List.replicate (T - (replL tab (L.take (k + 1))).length) 0) := by
              have hs1 : (Tryz.prog.info? 5).map (·.size) = some 1 := by kernel_rfl
              have hg1 : wr.grownBy wr.drew (some G) := grown_drewN (World.grownBy.refl _ _) 1
              have hRD : RowB wr.drew G (P ++ List.replicate (T - P.length) 0) := HRW.out
              have hBD : BytesAt wr.drew gl N l := hBy
              rcases Nat.eq_zero_or_pos l.length with h0 | h0
              · have hl0 : l = [] := List.eq_nil_of_length_eq_zero h0
                refine ⟨wr.drew, fun ty => ?_, hg1, ?_⟩
                · rw [hV, h0]
                  exact run_copy_none (P := Tryz.prog) wr.drew 71 71 ty 5 _ _ _ _ _ _ Tryz.underlying71 hs1 (by simp)
                · rw [hsc, hl0, List.append_nil]; exact hRD
              · have hVs : V = .slice (some ⟨G, P.length, none⟩) (T - P.length) (T - P.length) := by
                  rw [hV]
                  unfold sliced
                  rw [if_neg (by omega)]
                  simp [addr_add]
                refine ⟨wr.drew.setCells G P.length (l.map u8v), fun ty => ?_, grown_trans hg1 (setCells_grown _ _ _ _), ?_⟩
                · rw [hVs]
                  have k1 := run_copy_cells (P := Tryz.prog) wr.drew 71 71 ty 5 G P.length (T - P.length) (T - P.length) ⟨gl, 0, none⟩ l.length N (l.map u8v) Tryz.underlying71 hs1 (by rw [List.length_map]; exact (Nat.min_eq_left (by omega)).symm) (fun j v hj => by
                    rw [List.getElem?_map] at hj
                    obtain ⟨x, hx, rfl⟩ := Option.map_eq_some_iff.1 hj
                    have hjl := (List.getElem?_eq_some_iff.1 hx).1
                    rw [addr_add, Nat.zero_add, hBD.cell j hjl, List.getD_eq_getElem?_getD, hx]; rfl) (fun j hj => by
                    rw [hRD.cell _ (by simp at hj ⊢; omega)]; rfl) (fun j _ => hRD.frozen _) (fun v hv => by
                    obtain ⟨x, _, rfl⟩ := List.mem_map.1 hv
                    rfl)
                  rw [List.length_map] at k1
                  exact k1
                · have := hRD.setAll l wr.drew _ P.length (by simp; omega)
                  rw [row_more, ← hsc] at this
                  exact this
            have HRZ := Lib.hid hrz
            have hbb : Below wc.heap.size wc wz := HBR.out.grown hgz HBR.out.size (fun i e => by cases e; rw [HG.out]; exact Nat.le_refl _)
            have HBB := Lib.hid hbb
            have HLE : Hid ((replL tab (L.take (k + 1))).length = P.length + l.length) := by show _ = _; rw [hsc]; simp
            clear hbb hrz hgz hsc hle hrb hgb hV hl hBy
            go_wp2_with fail
            go_region
            all_goals go_wp2_with fail
            all_goals go_roundg (gk - 1)
            case measure => exact Nat.sub_lt HMS.out Nat.one_pos
            case rel => exact ⟨k + 1, HK2.out, by go_num, (by rw [HLE.out]; go_num), HRZ.out, HBB.out⟩
        · obtain rfl : k = s.size := by omega
          have hkk : ¬ (s.size : Int) < (s.size : Int) := by omega
          have htk : L.take s.size = L := List.take_of_length_le (by rw [HSL.out]; exact Nat.le_refl _)
          have hrow := HRW.out
          rw [htk, ← HTT.out, Nat.sub_self, List.replicate_zero, List.append_nil] at hrow
          have hback := row_back wr G (replL tab L) T HTT.out.symm hrow
          have HR : Hid (ReplacePost w tab L (.returned (.string ⟨(replL tab L).toArray⟩)) wr) := ⟨rfl, HBw.out.trans (HBR.out.mono HBw.out.size)⟩
          clear hrow htk HRW
          go_wp2_with fail
          go_ret
          exact HR.out
end Go.Proofs.YtbipkkebkddegaaGreatDoor
