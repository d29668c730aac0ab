
/-
  What kept returns: rising pairs of equal tokens, as many as the longest common list has.
-/
import Derived.Test.YthmfoihohminmaaDoorStrLib
import Derived.Test.YthmfoihohminmaaDoorLcsPlain
import Derived.StillTailTactics
namespace Go.Proofs.YthmfoihohminmaaDoor
open Go.RowKit

/-- Block b holds a table of n + 1 rows and m + 1 columns. -/
def TabAt (w : World) (b W n m : Nat) (G : Nat → Nat → Nat) : Prop := ∃ C, w.heap[b]? = some (.cells C 3 (0, 0)) ∧ ∀ i j, i ≤ n → j ≤ m → C[i * W + j]? = some (.int .i64 (G i j : Nat))
theorem TabAt.cell {w : World} {b W n m : Nat} {G : Nat → Nat → Nat} (h : TabAt w b W n m G) {i j : Nat} (hi : i ≤ n) (hj : j ≤ m) : w.cell? ⟨b, i * W + j, none⟩ = some (.int .i64 (G i j : Nat)) := by
  obtain ⟨C, hh, hc⟩ := h
  rw [cell_of_row w b _ _ _ _ hh]; exact hc i j hi hj
theorem TabAt.frozen {w : World} {b W n m : Nat} {G : Nat → Nat → Nat} (h : TabAt w b W n m G) (k : Nat) : w.frozen? ⟨b, k, none⟩ = false := by
  obtain ⟨C, hh, hc⟩ := h
  simp [World.frozen?, hh]
theorem TabAt.lt {w : World} {b W n m : Nat} {G : Nat → Nat → Nat} (h : TabAt w b W n m G) : b < w.heap.size := by
  obtain ⟨C, hh, hc⟩ := h
  exact (Array.getElem?_eq_some_iff.1 hh).1
def upd (G : Nat → Nat → Nat) (i j v : Nat) : Nat → Nat → Nat := fun a b => if a = i ∧ b = j then v else G a b
theorem idx_inj {W i j i' j' : Nat} (hj : j < W) (hj' : j' < W) (h : i * W + j = i' * W + j') : i = i' ∧ j = j' := by
  have h1 : (i * W + j) / W = i := by rw [Nat.mul_comm, Nat.mul_add_div (by omega), Nat.div_eq_of_lt hj, Nat.add_zero]
  have h2 : (i' * W + j') / W = i' := by rw [Nat.mul_comm, Nat.mul_add_div (by omega), Nat.div_eq_of_lt hj', Nat.add_zero]
  have e : i = i' := by rw [← h1, h, h2]
  subst e
  exact ⟨rfl, by omega⟩
theorem TabAt.set {w : World} {b W n m : Nat} {G : Nat → Nat → Nat} (h : TabAt w b W n m G) (hW : W = m + 1) {i j : Nat} (hi : i ≤ n) (hj : j ≤ m) (v : Nat) (z : Int) (hz : z = v) : TabAt (w.setCell ⟨b, i * W + j, none⟩ (.int .i64 z)) b W n m (upd G i j v) := by
  subst hz
  obtain ⟨C, hh, hc⟩ := h
  refine ⟨C.setIfInBounds (i * W + j) (.int .i64 (v : Int)), by simp [World.setCell, Array.getElem?_modify, hh], fun a c ha hc' => ?_⟩
  have h0 := hc a c ha hc'
  have h1 := hc i j hi hj
  unfold upd
  by_cases e : a = i ∧ c = j
  · obtain ⟨rfl, rfl⟩ := e
    rw [if_pos ⟨rfl, rfl⟩, Array.getElem?_setIfInBounds_self, if_pos (Array.getElem?_eq_some_iff.1 h0).1]
  · rw [if_neg e, Array.getElem?_setIfInBounds_ne, h0]
    intro hi'
    exact e (idx_inj (by omega) (by omega) hi'.symm)
theorem TabAt.keep {w w' : World} {b W n m : Nat} {G : Nat → Nat → Nat} (h : TabAt w b W n m G) (hb : w'.heap[b]? = w.heap[b]?) : TabAt w' b W n m G := by
  obtain ⟨C, hh, hc⟩ := h
  exact ⟨C, hb.trans hh, hc⟩
theorem idx_lt {W n i j : Nat} (hi : i ≤ n) (hj : j < W) : i * W + j < (n + 1) * W := by
  have : i * W ≤ n * W := Nat.mul_le_mul_right _ hi
  rw [Nat.add_mul, Nat.one_mul]; omega

section
variable {α : Type} [DecidableEq α]
/-- The table is done from row p on, and of the row before it from column q on. -/
def Fin_ (x y : List α) (n m p q : Nat) (G : Nat → Nat → Nat) : Prop := ∀ i j, i ≤ n → j ≤ m → (p ≤ i ∨ (i + 1 = p ∧ q ≤ j) ∨ j = m) → G i j = lcs (x.drop i) (y.drop j)
theorem fin_start (x y : List α) (n m : Nat) (hx : x.length = n) (hy : y.length = m) : Fin_ x y n m n (m + 1) fun _ _ => 0 := by
  intro i j hi hj h
  rcases h with h | h | h
  · rw [List.drop_of_length_le (by omega), lcs_nil']
  · omega
  · rw [List.drop_of_length_le (l := y) (by omega), lcs_nil]
theorem fin_row {x y : List α} {n m p : Nat} {G : Nat → Nat → Nat} (h : Fin_ x y n m p (m + 1) G) : Fin_ x y n m p m G := by
  intro i j hi hj hc
  refine h i j hi hj ?_
  omega
theorem fin_done {x y : List α} {n m i : Nat} {G : Nat → Nat → Nat} (h : Fin_ x y n m (i + 1) 0 G) : Fin_ x y n m i (m + 1) G := by
  intro a b ha hb hc
  refine h a b ha hb ?_
  omega
theorem fin_step {x y : List α} {n m i j : Nat} {G : Nat → Nat → Nat} (h : Fin_ x y n m (i + 1) (j + 1) G) (v : Nat) (hv : v = lcs (x.drop i) (y.drop j)) : Fin_ x y n m (i + 1) j (upd G i j v) := by
  intro a b ha hb hc
  unfold upd
  split
  · rename_i e; obtain ⟨rfl, rfl⟩ := e; exact hv
  · exact h a b ha hb (by omega)
end

def PairE : Elem (Nat × Nat) := ⟨70, 53, 2, 16, .agg #[.int .i64 0, .int .i64 0], fun p => [.int .i64 p.1, .int .i64 p.2]⟩
theorem pairE_ok : PairE.Ok := ⟨fun _ => rfl, fun x u hu => by simp [PairE] at hu; rcases hu with rfl | rfl <;> rfl, by decide, by decide, by kernel_rfl, by kernel_rfl, Tryd.underlying53⟩

def idxI (l : List (List UInt8)) (x : List UInt8) : Int := Lib.idxOfS (l.map bag) (bag x)
theorem idxI_first (l : List (List UInt8)) (x : List UInt8) : FirstAt l x (idxI l x) := by
  have := firstAt_idx (bag x) l 0
  rw [bag_data] at this
  simpa [FirstAt, idxI, Lib.idxOfS] using this
theorem index_q (A : Option Addr) (n c : Nat) (l : List (List UInt8)) (x : List UInt8) (w : World) (h : StrsAt w A n c l) (hn : n ≤ 100000) :
    Calls Tryd.prog 33 #[.slice A n c, .string ⟨x.toArray⟩] w fun e w' => e = .returned (.int .i64 (idxI l x)) ∧ w' = w := by
  have hl := h.1
  rcases Nat.eq_zero_or_pos n with h0 | h0
  · subst h0
    have e1 : l = [] := List.eq_nil_of_length_eq_zero hl.symm
    subst e1
    exact Tryd.slices_Index_string_empty A c (bag x) w
  · obtain ⟨g1, o1, rfl, _, _⟩ := h.str h0
    refine (Tryd.slices_Index_string g1 o1 n c (l.map bag) (bag x) w (by simp; omega) (by omega) h.bags).mono ?_
    rintro e w' ⟨rfl, rfl⟩
    rw [List.take_of_length_le (by simp; omega)]
    exact ⟨rfl, rfl⟩

theorem made_at (N k : Nat) (h : k < N) : (madeCells #[Value.int .i64 0] N)[k]? = some (.int .i64 ((0 : Nat) : Int)) := by
  have e : k % 1 = 0 := by omega
  simp [madeCells, h, e]

def KeptPost (w : World) (x y : List (List UInt8)) (e : Ending) (w' : World) : Prop :=
  ∃ (v : Value) (l : List (Nat × Nat)) (i j : Nat), e = .returned v ∧ Owns PairE w' w.heap.size v l ∧ GoodTo x y 0 0 l i j ∧ i ≤ x.length ∧ j ≤ y.length ∧ l.length = lcs x y ∧ Below w.heap.size w w'

set_option maxHeartbeats 6400000 in
set_option maxRecDepth 100000 in
theorem kept_any (A B : Option Addr) (n c m d : Nat) (x y : List (List UInt8)) (w : World) (hx : StrsAt w A n c x) (hy : StrsAt w B m d y) (hn : n ≤ 2000) (hm : m ≤ 2000) :
    Calls Tryd.prog 19 #[.slice A n c, .slice B m d] w (KeptPost w x y) := by
  have HX := Lib.hid hx.1
  have HY := Lib.hid hy.1
  obtain ⟨i0, hi, hz0, hz1, hz2⟩ := info_parts (show (Tryd.prog.info? 3).map (fun i => (i.zero, i.size, i.bytes)) = some (some (.int .i64 0), 1, 8) by kernel_rfl)
  obtain ⟨W, hW⟩ : ∃ W : Nat, W = m + 1 := ⟨_, rfl⟩
  obtain ⟨N, hN⟩ : ∃ N : Nat, N = (n + 1) * W := ⟨_, rfl⟩
  have hNb : N ≤ 4004001 := by rw [hN, hW]; exact Nat.mul_le_mul (show n + 1 ≤ 2001 by omega) (show m + 1 ≤ 2001 by omega)
  have hmk := fun wx => run_make wx 22 3 i0 _ Tryd.underlying22 hi hz0 .i64 .i64 (N : Int) (N : Int) (by omega) (by omega) (by rw [hz2]; omega) (by omega)
  have e1 : ((m : Int) + 1) = (W : Int) := by omega
  have e2 : ((n : Int) + 1) * (W : Int) = (N : Int) := by rw [hN]; push_cast; rfl
  have HW := Lib.hid hW; clear hW
  have HN := Lib.hid hN; clear hN
  go_enter Tryd.func19, Tryd.ntmps19
  go_upto_region 1 with (fail)
  go_cut [5] (fun v5 wx => v5 = .int .i64 W ∧ w = wx)
  case first =>
    go_wp2_with fail
    go_meet
    exact ⟨rfl, rfl⟩
  case rest =>
   obtain ⟨rfl, rfl⟩ := hcut
   go_upto_region 2 with (fail)
   go_cut [6] (fun v6 wx => v6 = .slice (some ⟨w.heap.size, 0, none⟩) N N ∧ wx = w.alloc (.cells (madeCells #[.int .i64 0] N) 3))
   case first =>
    go_wp2_with fail
    go_meet
    exact ⟨by simp, by simp⟩
   case rest =>
    obtain ⟨rfl, rfl⟩ := hcut
    clear hmk e1 e2
    have hT0 : TabAt (w.alloc (.cells (madeCells #[.int .i64 0] N) 3)) w.heap.size W n m fun _ _ => 0 :=
      ⟨_, heap_alloc_new w _, fun i j hi hj => made_at N _ (by rw [HN.out]; exact idx_lt hi (by have := HW.out; omega))⟩
    have hF0 : Fin_ x y n m n (m + 1) fun _ _ => 0 := fin_start x y n m HX.out.symm HY.out.symm
    have hB0 : Below w.heap.size w (w.alloc (.cells (madeCells #[.int .i64 0] N) 3)) := (Below.refl _ _).alloc (Nat.le_refl _) _
    generalize w.alloc (.cells (madeCells #[.int .i64 0] N) 3) = w1 at *
    go_wp2_with fail
    go_loopg [7] n (fun gk v wr => ∃ (p : Nat) (z : Int) (G : Nat → Nat → Nat), p ≤ gk ∧ p ≤ n ∧ v = .int .i64 z ∧ z + 1 = p ∧ TabAt wr w.heap.size W n m G ∧ Fin_ x y n m p (m + 1) G ∧ Below w.heap.size w wr)
    case atStart => exact ⟨n, (n : Int) - 1, _, Nat.le_refl _, Nat.le_refl _, rfl, by omega, hT0, hF0, hB0⟩
    case round =>
      obtain ⟨p, z, G, hpg, hpn, rfl, hzp, hT, hF, hB⟩ := hrel
      clear hT0 hF0 hB0
      have HPG := Lib.hid hpg; clear hpg
      cases p with
      | succ i =>
        obtain rfl : z = (i : Int) := by omega
        clear hzp
        have HF := Lib.hid (fin_row hF); clear hF
        obtain ⟨wo, rfl⟩ : ∃ wo : World, wo = wr := ⟨_, rfl⟩
        obtain ⟨ko, rfl⟩ : ∃ ko : Nat, ko = gk := ⟨_, rfl⟩
        obtain ⟨I, hI⟩ : ∃ I : Nat, I = i * W := ⟨_, rfl⟩
        have hI2 : I + W + W ≤ N := by
          have h1 : (i + 2) * W ≤ (n + 1) * W := Nat.mul_le_mul_right _ (by omega)
          rw [hI, HN.out]; rw [Nat.add_mul] at h1; omega
        have q1 : IntKind.i64.wrap ((i : Int) * (W : Int)) = (I : Int) := by
          have e : (i : Int) * (W : Int) = (I : Int) := by rw [hI]; push_cast; rfl
          rw [e]; exact IntWalk.i64_in _ (by omega)
        have q2 : IntKind.i64.wrap (((i : Int) + 1) * (W : Int)) = (I : Int) + (W : Int) := by
          have e : ((i : Int) + 1) * (W : Int) = (I : Int) + (W : Int) := by rw [hI]; push_cast; rw [Int.add_mul, Int.one_mul]
          rw [e]; exact IntWalk.i64_in _ (by omega)
        have HI := Lib.hid hI; clear hI
        go_wp2_with fail
        go_loopg [8] m (fun gk v wr => ∃ (q : Nat) (z : Int) (G : Nat → Nat → Nat), q ≤ gk ∧ q ≤ m ∧ v = .int .i64 z ∧ z + 1 = q ∧ TabAt wr w.heap.size W n m G ∧ Hid (Fin_ x y n m (i + 1) q G) ∧ Below w.heap.size w wr)
        case atStart => exact ⟨m, (m : Int) - 1, _, Nat.le_refl _, Nat.le_refl _, rfl, by omega, hT, HF, hB⟩
        case round =>
          obtain ⟨q, z, G, hqg, hqm, rfl, hzq, hT, HF, hB⟩ := hrel
          have HQG := Lib.hid hqg; clear hqg
          cases q with
          | succ j =>
            obtain rfl : z = (j : Int) := by omega
            clear hzq
            have HT := Lib.hid hT
            obtain ⟨gx, ox, rfl, hgx, hcx⟩ := hx.str (by omega)
            obtain ⟨gy, oy, rfl, hgy, hcy⟩ := hy.str (by omega)
            have c1 := (hB.cell (p := ⟨gx, ox + i, none⟩) hgx).trans (hcx i (by omega))
            have c2 := (hB.cell (p := ⟨gy, oy + j, none⟩) hgy).trans (hcy j (by omega))
            have HXA : Hid (x[i]? = some (x.getD i [])) := by show _ = _; have : i < x.length := by (have := HX.out; omega)
                                                              simp [this]
            have HYB : Hid (y[j]? = some (y.getD j [])) := by show _ = _; have : j < y.length := by (have := HY.out; omega)
                                                              simp [this]
            clear hcx hcy
            generalize x.getD i [] = a at *
            generalize y.getD j [] = b at *
            have E11 : (i + 1) * W + (j + 1) = I + W + j + 1 := by rw [Nat.add_mul, Nat.one_mul, HI.out]; omega
            have E10 : (i + 1) * W + j = I + W + j := by rw [Nat.add_mul, Nat.one_mul, HI.out]
            have E01 : i * W + (j + 1) = I + j + 1 := by rw [HI.out]; omega
            have t11 := hT.cell (i := i + 1) (j := j + 1) (by omega) (by omega)
            have t10 := hT.cell (i := i + 1) (j := j) (by omega) (by omega)
            have t01 := hT.cell (i := i) (j := j + 1) (by omega) (by omega)
            have t00 := hT.cell (i := i) (j := j) (by omega) (by omega)
            have tf := hT.frozen (I + j)
            rw [E11] at t11
            rw [E10] at t10
            rw [E01] at t01
            rw [← HI.out] at t00
            clear E11 E10 E01 hT
            have hjW : j + 1 < W := by have := HW.out; omega
            have HG11 : Hid (G (i + 1) (j + 1) = lcs (x.drop (i + 1)) (y.drop (j + 1))) := HF.out (i + 1) (j + 1) (by omega) (by omega) (.inl (by omega))
            have HG10 : Hid (G (i + 1) j = lcs (x.drop (i + 1)) (y.drop j)) := HF.out (i + 1) j (by omega) (by omega) (.inl (by omega))
            have HG01 : Hid (G i (j + 1) = lcs (x.drop i) (y.drop (j + 1))) := HF.out i (j + 1) (by omega) (by omega) (.inr (.inl ⟨rfl, by omega⟩))
            have hl11 : G (i + 1) (j + 1) ≤ 2000 := by rw [HG11.out]; have h := lcs_le (x.drop (i + 1)) (y.drop (j + 1)); rw [List.length_drop] at h; have := HX.out; omega
            have HSET : Hid (∀ (q v : Nat) (z : Int), z = v → TabAt ((wr.drewN q).setCell ⟨w.heap.size, I + j, none⟩ (.int .i64 z)) w.heap.size W n m (upd G i j v)) := fun q v z h => by
              rw [HI.out]
              exact TabAt.set (w := wr.drewN q) HT.out HW.out (show i ≤ n by omega) (show j ≤ m by omega) v z h
            have HLC := Lib.hid (lcs_drop HXA.out HYB.out)
            have HBS : Hid (∀ (q : Nat) (v : Value), Below w.heap.size w ((wr.drewN q).setCell ⟨w.heap.size, I + j, none⟩ v)) := fun q v => (below_drewN hB q).setCell (Nat.le_refl _) v
            generalize G (i + 1) (j + 1) = g11 at *
            generalize G (i + 1) j = g10 at *
            generalize G i (j + 1) = g01 at *
            by_cases hab : a = b
            · have hq : (a == b) = true := beq_iff_eq.2 hab
              rw [if_pos hab] at HLC
              clear hab
              go_wp2_with fail
              go_quiet (fail)
              go_wp2_with fail
              go_roundg (gk - 1)
              case measure => have := HQG.out; omega
              case rel => exact ⟨j, (j : Int) - 1, _, by have := HQG.out; omega, by omega, rfl, by omega, HSET.out _ (g11 + 1) _ (by omega), fin_step HF.out _ (by rw [HLC.out, HG11.out]), HBS.out _ _⟩
            · have hq : (a == b) = false := by simpa using hab
              rw [if_neg hab] at HLC
              clear hab
              go_wp2_with fail
              go_quiet (fail)
              go_wp2_with fail
              have s1 : IntKind.i64.wrap ((I : Int) + (j : Int)) = (I : Int) + (j : Int) := IntWalk.i64_in _ (by omega)
              have s2 : IntKind.i64.wrap ((I : Int) + (W : Int) + (j : Int)) = (I : Int) + (W : Int) + (j : Int) := IntWalk.i64_in _ (by omega)
              have s3 : IntKind.i64.wrap ((I : Int) + (j : Int) + 1) = (I : Int) + (j : Int) + 1 := IntWalk.i64_in _ (by omega)
              have s3' : IntKind.i64.wrap ((i : Int) + 1) = (i : Int) + 1 := IntWalk.i64_in _ (by omega)
              have s4 : ((I : Int) + (j : Int)).toNat = I + j := by omega
              have s5 : ((I : Int) + (W : Int) + (j : Int)).toNat = I + W + j := by omega
              have s6 : ((I : Int) + (j : Int) + 1).toNat = I + j + 1 := by omega
              have s7 : (0 : Int) ≤ (I : Int) + (j : Int) := by omega
              have s8 : (0 : Int) ≤ (I : Int) + (W : Int) + (j : Int) := by omega
              have s9 : (0 : Int) ≤ (I : Int) + (j : Int) + 1 := by omega
              have sa : (I : Int) + (j : Int) < (N : Int) := by omega
              have sb : (I : Int) + (W : Int) + (j : Int) < (N : Int) := by omega
              have sc : (I : Int) + (j : Int) + 1 < (N : Int) := by omega
              have t10' : (wr.drewN nq).cell? ⟨w.heap.size, I + W + j, none⟩ = some (.int .i64 (g10 : Int)) := t10
              have t01' : (wr.drewN nq).cell? ⟨w.heap.size, I + j + 1, none⟩ = some (.int .i64 (g01 : Int)) := t01
              have t00' : (wr.drewN nq).drew.cell? ⟨w.heap.size, I + j, none⟩ = some (.int .i64 (G i j : Nat)) := t00
              have tf' : (wr.drewN nq).drew.frozen? ⟨w.heap.size, I + j, none⟩ = false := tf
              have HS2 : Hid (∀ (v : Nat) (z : Int), z = v → TabAt ((wr.drewN nq).drew.setCell ⟨w.heap.size, I + j, none⟩ (.int .i64 z)) w.heap.size W n m (upd G i j v)) := HSET.out (nq + 1)
              have HB2 : Hid (∀ (v : Value), Below w.heap.size w ((wr.drewN nq).drew.setCell ⟨w.heap.size, I + j, none⟩ v)) := HBS.out (nq + 1)
              clear t10 t01 t11 t00 tf HSET HBS HT c1 c2
              generalize wr.drewN nq = w2 at *
              go_still_tail 26, (by kernel_rfl)
              change wpList _ _ _ _ _ w2.drew
              clear t10' t01'
              generalize w2.drew = w3 at *
              clear s1 s2 s3 s3' q1 q2
              go_wp2_with fail
              go_roundg (gk - 1)
              case measure => have := HQG.out; omega
              case rel => exact ⟨j, (j : Int) - 1, _, by have := HQG.out; omega, by omega, rfl, by omega, HS2.out (max g10 g01) _ (by omega), fin_step HF.out _ (by rw [HLC.out, HG10.out, HG01.out]), HB2.out _⟩
          | zero =>
            obtain rfl : z = -1 := by omega
            clear hzq
            go_wp2_with fail
            go_roundg (ko - 1)
            case measure => have := HPG.out; omega
            case rel => exact ⟨i, _, G, by have := HPG.out; omega, by omega, rfl, by omega, hT, fin_done HF.out, hB⟩
      | zero =>
        obtain rfl : z = -1 := by omega
        clear hzp
        have hG : ∀ i j, i ≤ n → j ≤ m → G i j = lcs (x.drop i) (y.drop j) := fun i j h1 h2 => hF i j h1 h2 (.inl (by omega))
        have HG := Lib.hid hG; clear hG hF
        clear HPG
        obtain ⟨wo, rfl⟩ : ∃ wo : World, wo = wr := ⟨_, rfl⟩
        obtain ⟨ko, rfl⟩ : ∃ ko : Nat, ko = gk := ⟨_, rfl⟩
        go_wp2_with fail
        go_loopg [9, 10, 11] n (fun gk v9 v10 v11 wr => ∃ (i j : Nat) (l : List (Nat × Nat)), Hid (i + gk = n) ∧ v10 = .int .i64 i ∧ v11 = .int .i64 j ∧ i ≤ n ∧ j ≤ m ∧ Owns PairE wr (w.heap.size + 1) v9 l ∧ Hid (GoodTo x y 0 0 l i j) ∧ Hid (l.length + lcs (x.drop i) (y.drop j) = lcs x y) ∧ TabAt wr w.heap.size W n m G ∧ Below w.heap.size w wr)
        case atStart => exact ⟨0, 0, [], show 0 + n = n by omega, rfl, rfl, by omega, by omega, Owns.nil _ _, ⟨Nat.le_refl 0, Nat.le_refl 0⟩, show [].length + lcs (x.drop 0) (y.drop 0) = lcs x y by simp, hT, hB⟩
        case round =>
          obtain ⟨i, j, l, HK, rfl, rfl, hin, hjm, hown, HGD, HLN, hTr, hBr⟩ := hrel
          clear hT hB
          have HO := Lib.hid hown; clear hown
          have HT := Lib.hid hTr; clear hTr
          have hz := HT.out.lt
          have hll : l.length ≤ 2000 := by have := HGD.out.length_le; omega
          by_cases hlt : i < n
          · obtain ⟨I, hI⟩ : ∃ I : Nat, I = i * W := ⟨_, rfl⟩
            have hI2 : I + W + W ≤ N := by
              have h1 : (i + 2) * W ≤ (n + 1) * W := Nat.mul_le_mul_right _ (by omega)
              rw [hI, HN.out]; rw [Nat.add_mul] at h1; omega
            have q1 : IntKind.i64.wrap ((i : Int) * (W : Int)) = (I : Int) := by
              have e : (i : Int) * (W : Int) = (I : Int) := by rw [hI]; push_cast; rfl
              rw [e]; exact IntWalk.i64_in _ (by omega)
            have q2 : IntKind.i64.wrap (((i : Int) + 1) * (W : Int)) = (I : Int) + (W : Int) := by
              have e : ((i : Int) + 1) * (W : Int) = (I : Int) + (W : Int) := by rw [hI]; push_cast; rw [Int.add_mul, Int.one_mul]
              rw [e]; exact IntWalk.i64_in _ (by omega)
            have HI := Lib.hid hI; clear hI
            have hWm : W = m + 1 := HW.out
            have hjW : j < W := by omega
            have HWM := Lib.hid hWm; clear hWm
            have t00 := HT.out.cell (i := i) (j := j) (by omega) (by omega)
            rw [← HI.out] at t00
            have HG00 : Hid (G i j = lcs (x.drop i) (y.drop j)) := HG.out i j (by omega) hjm
            have hg0 : G i j ≤ 2000 := by rw [HG00.out]; have h := lcs_le (x.drop i) (y.drop j); rw [List.length_drop] at h; have := HX.out; omega
            generalize hgg : G i j = g at *
            clear hgg
            by_cases hpos : 0 < g
            · obtain ⟨gx, ox, rfl, hgx, hcx⟩ := hx.str (by omega)
              have c1 := (hBr.cell (p := ⟨gx, ox + i, none⟩) hgx).trans (hcx i (by omega))
              have HXA : Hid (x[i]? = some (x.getD i [])) := by show _ = _; have : i < x.length := by (have := HX.out; omega)
                                                                simp [this]
              clear hcx
              generalize x.getD i [] = a at *
              obtain ⟨B', hsl0, hpc⟩ := (hy.keep hBr).piece j m hjm (Nat.le_refl _)
              rw [List.take_of_length_le (by rw [List.length_drop]; have := HY.out; omega)] at hpc
              have hsl := sl_from B m d j hjm _ hsl0
              have hpi : (0 : Int) < (g : Int) := by omega
              have s1 : IntKind.i64.wrap ((I : Int) + (j : Int)) = (I : Int) + (j : Int) := IntWalk.i64_in _ (by omega)
              have s4 : ((I : Int) + (j : Int)).toNat = I + j := by omega
              have HPC := Lib.hid hpc; clear hpc hsl0
              go_wp2_with fail
              go_quiet ((go_at_call 33; exact Calls.quiet_of_same (index_q B' (m - j) (d - j) (y.drop j) a _ (HPC.out.drewN _) (by omega))))
              have hfi := idxI_first (y.drop j) a
              generalize idxI (y.drop j) a = r at *
              clear hsl c1
              have t00' : (wr.drewN nq).cell? ⟨w.heap.size, I + j, none⟩ = some (.int .i64 (g : Int)) := t00
              have HT' : Hid (TabAt (wr.drewN nq) w.heap.size W n m G) := HT.out
              have HO' : Hid (Owns PairE (wr.drewN nq) (w.heap.size + 1) u9 l) := HO.out
              have hBq : Below w.heap.size w (wr.drewN nq) := below_drewN hBr nq
              have hz' : w.heap.size < (wr.drewN nq).heap.size := hz
              clear t00 HT HO hBr hz HPC
              generalize wr.drewN nq = w2 at *
              go_wp2_with fail
              rcases hfi with ⟨rfl, hno⟩ | ⟨k, rfl, hk, hfst⟩
              · have hd : decide ((0 : Int) ≤ -1) = false := by decide
                have HMS := Lib.hid (kept_miss HXA.out hno)
                clear hno t00'
                go_quiet (fail)
                go_wp2_with fail
                go_roundg (gk - 1)
                case measure => have := HK.out; omega
                case rel => exact ⟨i + 1, j, l, show i + 1 + (gk - 1) = n by have := HK.out; omega, by go_num, rfl, by omega, hjm, HO'.out, HGD.out.more (by omega) (Nat.le_refl _), show _ = _ by rw [HMS.out]; exact HLN.out, HT'.out, below_drewN hBq _⟩
              · have HHT := Lib.hid (kept_hit HXA.out hk hfst)
                rw [List.getElem?_drop] at hk
                have HKY := Lib.hid hk
                have hkm : j + k < m := by have := (List.getElem?_eq_some_iff.1 hk).1; have := HY.out; omega
                clear hfst hk
                have E : (i + 1) * W + (j + k + 1) = I + W + j + k + 1 := by rw [Nat.add_mul, Nat.one_mul, HI.out]; omega
                have tk := HT'.out.cell (i := i + 1) (j := j + k + 1) (by omega) (by omega)
                rw [E] at tk
                have HGK : Hid (G (i + 1) (j + k + 1) = lcs (x.drop (i + 1)) (y.drop (j + k + 1))) := HG.out (i + 1) (j + k + 1) (by omega) (by omega)
                have hgk : G (i + 1) (j + k + 1) ≤ 2000 := by rw [HGK.out]; have h := lcs_le (x.drop (i + 1)) (y.drop (j + k + 1)); rw [List.length_drop] at h; have := HX.out; omega
                generalize hgg : G (i + 1) (j + k + 1) = h1 at *
                clear hgg E
                have hkW : j + k + 1 < W := by have := HWM.out; omega
                have v1 : IntKind.i64.wrap ((I : Int) + (W : Int) + (j : Int)) = (I : Int) + (W : Int) + (j : Int) := IntWalk.i64_in _ (by omega)
                have v2 : IntKind.i64.wrap ((I : Int) + (W : Int) + (j : Int) + (k : Int)) = (I : Int) + (W : Int) + (j : Int) + (k : Int) := IntWalk.i64_in _ (by omega)
                have v3 : IntKind.i64.wrap ((I : Int) + (W : Int) + (j : Int) + (k : Int) + 1) = (I : Int) + (W : Int) + (j : Int) + (k : Int) + 1 := IntWalk.i64_in _ (by omega)
                have v4 : ((I : Int) + (W : Int) + (j : Int) + (k : Int) + 1).toNat = I + W + j + k + 1 := by omega
                have v5 : (0 : Int) ≤ (I : Int) + (W : Int) + (j : Int) + (k : Int) + 1 := by omega
                have v6 : (I : Int) + (W : Int) + (j : Int) + (k : Int) + 1 < (N : Int) := by omega
                have v7 : IntKind.i64.wrap ((i : Int) + 1) = (i : Int) + 1 := IntWalk.i64_in _ (by omega)
                have v8 : IntKind.i64.wrap ((h1 : Int) + 1) = (h1 : Int) + 1 := IntWalk.i64_in _ (by omega)
                have v9 : (0 : Int) ≤ (I : Int) + (j : Int) := by omega
                have va : (I : Int) + (j : Int) < (N : Int) := by omega
                have vb : (0 : Int) ≤ (k : Int) := by omega
                by_cases heq : h1 + 1 = g
                · have hq : ((h1 : Int) + 1 == (g : Int)) = true := by simp; omega
                  have HEQ := Lib.hid heq; clear heq
                  go_quiet (fail)
                  clear v1 v2 v3 v4 v7 v8 q1 q2 s1 s4 tk t00'
                  have HT3 : Hid (TabAt (w2.drewN nq) w.heap.size W n m G) := HT'.out
                  have HO3 : Hid (Owns PairE (w2.drewN nq) (w.heap.size + 1) u9 l) := HO'.out
                  have hB3 : Below w.heap.size w (w2.drewN nq) := below_drewN hBq nq
                  have hz3 : w.heap.size < (w2.drewN nq).heap.size := hz'
                  clear HT' HO' hBq hz'
                  generalize w2.drewN nq = w3 at *
                  have hone : ElemsAt PairE (w3.alloc (.cells #[.int .i64 (i : Int), .int .i64 ((j : Int) + (k : Int))] 70)) (some ⟨w3.heap.size, 0, none⟩) 1 1 [(i, j + k)] := by
                    have h := one_elem (E := PairE) w3 (i, j + k)
                    simpa [PairE] using h
                  go_wp2_with (at_builtin; refine append_elems pairE_ok rfl _ _ rfl (w.heap.size + 1) _ l rfl (HO3.out.alloc _) (some ⟨w3.heap.size, 0, none⟩) 1 1 [(i, j + k)] rfl hone (by simp; omega) (by simp; omega) ?_; intro v4 w4 hown4 hgrow4 hv4)
                  have hrow : ∀ r, u9.ownBlock = some r → w.heap.size + 1 ≤ r := fun r hr => (HO3.out.lt r hr).1
                  have hT4 : TabAt w4 w.heap.size W n m G := HT3.out.keep ((hgrow4.block w.heap.size (by simp; omega) (fun e => by have := hrow _ e.symm; omega)).trans (Below.heap_alloc w3 _ w.heap.size hz3))
                  have hB4 : Below w.heap.size w w4 := (hB3.alloc (by omega) _).grown hgrow4 (by simp; omega) (fun r hr => by have := hrow r hr; omega)
                  have HO4 := Lib.hid hown4; clear hown4 hone
                  go_wp2_with fail
                  go_roundg (gk - 1)
                  case measure => have := HK.out; omega
                  case rel => exact ⟨i + 1, j + k + 1, l ++ [(i, j + k)], show i + 1 + (gk - 1) = n by have := HK.out; omega, by go_num, by go_num, by omega, by omega, HO4.out, HGD.out.snoc (i, j + k) (Nat.le_refl _) (by show j ≤ j + k; omega) ⟨a, HXA.out, HKY.out⟩, show _ = _ by have h2 := HLN.out; rw [← HG00.out, ← HEQ.out] at h2; rw [← HGK.out, List.length_append]; simp only [List.length_singleton]; omega, hT4, hB4⟩
                · have hq : ((h1 : Int) + 1 == (g : Int)) = false := by simp; omega
                  have HEQ := Lib.hid heq; clear heq
                  go_quiet (fail)
                  go_wp2_with fail
                  go_roundg (gk - 1)
                  case measure => have := HK.out; omega
                  case rel => exact ⟨i + 1, j, l, show i + 1 + (gk - 1) = n by have := HK.out; omega, by go_num, rfl, by omega, hjm, HO'.out, HGD.out.more (by omega) (Nat.le_refl _), show _ = _ by have h2 := HLN.out; have h3 := HHT.out; have h4 := HEQ.out; rw [← HG00.out] at h2 h3; rw [← HGK.out] at h3; omega, HT'.out, below_drewN hBq _⟩
            · have hp0 : ¬ (0 : Int) < (g : Int) := by omega
              have hown := HO.out
              go_wp2_with fail
              go_ret
              exact ⟨_, l, i, j, rfl, hown.base_ (by omega), HGD.out, by have := HX.out; omega, by have := HY.out; omega, by have h2 := HLN.out; rw [← HG00.out] at h2; omega, hBr⟩
          · obtain rfl : i = n := by omega
            have hown := HO.out
            go_wp2_with fail
            go_ret
            exact ⟨_, l, i, j, rfl, hown.base_ (by omega), HGD.out, by have := HX.out; omega, by have := HY.out; omega, by have h2 := HLN.out; rw [List.drop_of_length_le (l := x) (by have := HX.out; omega), lcs_nil'] at h2; omega, hBr⟩

end Go.Proofs.YthmfoihohminmaaDoor
