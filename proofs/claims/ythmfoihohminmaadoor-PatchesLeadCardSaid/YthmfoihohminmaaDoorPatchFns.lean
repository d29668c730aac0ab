
/-
  What Differ, Patch, Distance and Turn return.
-/
import Derived.Test.YthmfoihohminmaaDoorPatched
namespace Go.Proofs.YthmfoihohminmaaDoor
open Go.RowKit

def DifferPost (w : World) (x y : List (List UInt8)) (e : Ending) (w' : World) : Prop :=
  ∃ (v : Value) (rs : List RawC) (l : List (Nat × Nat)) (i j : Nat), e = .returned (.tuple #[v, .int .i64 0]) ∧ Owns ChgE w' w.heap.size v rs ∧ ChgsOf w' w.heap.size rs ((chgs x y 0 0 (l ++ [(x.length, y.length)])).map castC) ∧ GoodTo x y 0 0 l i j ∧ i ≤ x.length ∧ j ≤ y.length ∧ l.length = lcs x y ∧ Below w.heap.size w w'
set_option maxHeartbeats 1600000 in
theorem differ_any (s t : ByteArray) (w : World) (hs : s.size ≤ 2000) (ht : t.size ≤ 2000) (hM : MaxAt w) :
    Calls Tryd.prog 6 #[.string s, .string t] w (DifferPost w (tokL s.data.toList) (tokL t.data.toList)) := by
  have hxn := tokL_length s.data.toList
  have hyn := tokL_length t.data.toList
  have e1 : s.data.toList.length = s.size := by simp
  have e2 : t.data.toList.length = t.size := by simp
  rw [e1] at hxn
  rw [e2] at hyn
  clear e1 e2
  go_enter Tryd.func6, Tryd.ntmps6
  go_wp2_with fail
  refine (both_any s t w hs ht hM).mono ?_
  rintro e w1 ⟨v, u, rfl, ho1, ho2, hb1⟩
  obtain ⟨A1, c1, rfl, q1, hat1, q2⟩ := ho1.at_ strE_ok
  obtain ⟨A2, c2, rfl, q3, hat2, q4⟩ := ho2.at_ strE_ok
  clear q1 q2 q3 q4 ho1 ho2
  generalize tokL s.data.toList = x at *
  generalize tokL t.data.toList = y at *
  go_wp2_with fail
  refine (changes_any A1 A2 x.length c1 y.length c2 x y w1 hat1 hat2 (by omega) (by omega)).mono ?_
  rintro e w2 ⟨v, rs, l, i, j, rfl, ho, hcs, hg, hi, hj, hl, hb2⟩
  go_wp2_with fail
  go_ret2
  exact ⟨_, rs, l, i, j, rfl, ho.base_ hb1.size, hcs.base hb1.size, hg, hi, hj, hl, below_trans' hb1 hb2⟩

def DistPost (w : World) (d : Int) (e : Ending) (w' : World) : Prop := e = .returned (.tuple #[.int .i64 d, .int .i64 0]) ∧ Below w.heap.size w w'
set_option maxHeartbeats 1600000 in
theorem distance_any (s t : ByteArray) (w : World) (hs : s.size ≤ 2000) (ht : t.size ≤ 2000) (hM : MaxAt w) :
    Calls Tryd.prog 9 #[.string s, .string t] w (DistPost w (((tokL s.data.toList).length : Int) + ((tokL t.data.toList).length : Int) - 2 * (lcs (tokL s.data.toList) (tokL t.data.toList) : Nat))) := by
  have hxn := tokL_length s.data.toList
  have hyn := tokL_length t.data.toList
  have e1 : s.data.toList.length = s.size := by simp
  have e2 : t.data.toList.length = t.size := by simp
  rw [e1] at hxn
  rw [e2] at hyn
  clear e1 e2
  go_enter Tryd.func9, Tryd.ntmps9
  go_wp2_with fail
  refine (both_any s t w hs ht hM).mono ?_
  rintro e w1 ⟨v, u, rfl, ho1, ho2, hb1⟩
  obtain ⟨A1, c1, rfl, q1, hat1, q2⟩ := ho1.at_ strE_ok
  obtain ⟨A2, c2, rfl, q3, hat2, q4⟩ := ho2.at_ strE_ok
  clear q1 q2 q3 q4 ho1 ho2
  generalize hx : tokL s.data.toList = x at *
  generalize hy : tokL t.data.toList = y at *
  have HX := Lib.hid hx; clear hx
  have HY := Lib.hid hy; clear hy
  go_wp2_with fail
  refine (kept_any A1 A2 x.length c1 y.length c2 x y w1 hat1 hat2 (by omega) (by omega)).mono ?_
  rintro e w2 ⟨v, l, i, j, rfl, ho, hg, hi, hj, hl, hb2⟩
  obtain ⟨A3, c3, rfl, q1, q2, q3⟩ := ho.at_ pairE_ok
  have hll := hg.length_le
  clear q1 q2 q3 ho hg
  have HL := Lib.hid hl; clear hl
  obtain ⟨k, hk⟩ : ∃ k, l.length = k := ⟨_, rfl⟩
  rw [hk] at HL hll ⊢
  clear hk
  go_wp2_with fail
  go_ret2
  exact ⟨by rw [HX.out, HY.out, ← HL.out]; rfl, below_trans' hb1 hb2⟩

def PatchPost (w : World) (y : List (List UInt8)) (e : Ending) (w' : World) : Prop := e = .returned (.tuple #[.string (bag (joinL y)), .int .i64 0]) ∧ Below w.heap.size w w'
set_option maxHeartbeats 1600000 in
theorem patch_any (s : ByteArray) (A : Option Addr) (n c : Nat) (rs : List RawC) (cs : List (Chg (List UInt8))) (y : List (List UInt8)) (w : World) (hs : s.size ≤ 2000) (hM : MaxAt w)
    (hat : ElemsAt ChgE w A n c rs) (hrd : ChgsRd w rs cs) (hok : okc (tokL s.data.toList) 0 cs) (hy : pat (tokL s.data.toList) 0 cs = y) (hyt : ∀ t ∈ y, isTok t) (hyl : lensL y ≤ 5000) (hce : ∀ c ∈ cs, ∀ t ∈ c.2.2, t ∈ y) (hn : n ≤ 5000) :
    Calls Tryd.prog 7 #[.string s, .slice A n c] w (PatchPost w y) := by
  have hyn := lensL_ge y hyt
  have HP := Lib.hid (patched_any s A n c rs cs y w hs hM hat hrd hok hy hyt hyl hce hn)
  clear hat hrd hok hy hyt hce
  go_enter Tryd.func7, Tryd.ntmps7
  go_wp2_with fail
  refine HP.out.mono ?_
  rintro e w1 ⟨v, rfl, ho, hb1⟩
  obtain ⟨A1, c1, rfl, q1, hat1, q2⟩ := ho.at_ strE_ok
  clear q1 q2 ho HP
  go_wp2_with fail
  refine (join_any A1 y.length c1 y w1 hat1 (by omega) (by omega)).mono ?_
  rintro e w2 ⟨rfl, hb2⟩
  go_wp2_with fail
  go_ret2
  exact ⟨rfl, below_trans' hb1 hb2⟩

def moreL {α : Type} : List (Chg α) → Int
  | [] => 0
  | c :: cs => (c.2.2.length : Int) - (c.2.1.length : Int) + moreL cs
theorem moreL_snoc {α : Type} (cs : List (Chg α)) (c : Chg α) : moreL (cs ++ [c]) = moreL cs + ((c.2.2.length : Int) - (c.2.1.length : Int)) := by
  induction cs with
  | nil => simp [moreL]
  | cons d cs ih => simp only [List.cons_append, moreL, ih]; omega
theorem turnL_snoc {α : Type} : ∀ (cs : List (Chg α)) (m : Int) (c : Chg α), turnL m (cs ++ [c]) = turnL m cs ++ [((c.1 : Int) + (m + (moreL cs)), c.2.2, c.2.1)]
  | [], m, c => by simp [turnL, moreL]
  | d :: cs, m, c => by
    have e : m + (d.2.2.length : Int) - (d.2.1.length : Int) + moreL cs = m + ((d.2.2.length : Int) - (d.2.1.length : Int) + moreL cs) := by omega
    simp only [List.cons_append, turnL, turnL_snoc cs, moreL, e]

theorem turn_done {w w0 wz w5 : World} {u5 v5 : Value} {rs : List RawC} {cs : List TokC} {Ax By : Option Addr} {nx cx ny cy : Nat} {sx sy : List (List UInt8)} {z : Int} {o : Obj} {P : Nat} {C : Array Value} {fr : Nat × Nat}
    (hb0 : Below w.heap.size w w0) (hO : Owns ChgE w0 w.heap.size u5 rs) (hC : ChgsOf w0 w.heap.size rs cs) (hblk : w0.heap[P]? = some (.cells C 40 fr)) (hne : u5.ownBlock ≠ some P)
    (hz : Below w0.heap.size w0 wz) (ox : OwnStrs wz w.heap.size (.slice Ax nx cx) sx) (oy : OwnStrs wz w.heap.size (.slice By ny cy) sy) (hg : (wz.alloc o).grownBy w5 u5.ownBlock) (hown5 : Owns ChgE w5 w.heap.size v5 (rs ++ [(z, (Ax, nx, cx), (By, ny, cy))])) :
    Owns ChgE w5 w.heap.size v5 (rs ++ [(z, (Ax, nx, cx), (By, ny, cy))]) ∧ ChgsOf w5 w.heap.size (rs ++ [(z, (Ax, nx, cx), (By, ny, cy))]) (cs ++ [(z, sx, sy)]) ∧ Below w.heap.size w w5 ∧ w5.heap[P]? = some (.cells C 40 fr) := by
  have hO' : Owns ChgE (wz.alloc o) w.heap.size u5 rs := (hO.below_ hz).alloc _
  have f : ∀ v l, OwnStrs wz w.heap.size v l → OwnStrs w5 w.heap.size v l := fun v l h => Owns.beside (World.ownsRow.alloc h _) hO' (by decide) hg
  have hPl : P < w0.heap.size := (Array.getElem?_eq_some_iff.1 hblk).1
  have hPz : P < wz.heap.size := Nat.lt_of_lt_of_le hPl hz.size
  have hbz : Below w.heap.size w (wz.alloc o) := (hb0.trans (hz.mono hb0.size)).alloc (Nat.le_trans hb0.size hz.size) _
  refine ⟨hown5, ((hC.below hz).map f).snoc ⟨rfl, f _ _ ox, f _ _ oy⟩, hbz.grown hg hbz.size (fun r hr => (hO.lt r hr).1), ?_⟩
  exact (hg.block P (by simp; omega) (fun e => hne e.symm)).trans ((Below.heap_alloc wz o P hPz).trans ((hz.block P hPl).trans hblk))

def TurnPost (w : World) (cs : List TokC) (e : Ending) (w' : World) : Prop :=
  ∃ (v : Value) (rs : List RawC), e = .returned (.tuple #[v, .int .i64 0]) ∧ Owns ChgE w' w.heap.size v rs ∧ ChgsOf w' w.heap.size rs cs ∧ Below w.heap.size w w'

set_option maxHeartbeats 6400000 in
set_option maxRecDepth 100000 in
theorem turn_any (s : ByteArray) (A : Option Addr) (n c : Nat) (rs : List RawC) (cs : List (Chg (List UInt8))) (y : List (List UInt8)) (w : World) (hs : s.size ≤ 2000) (hM : MaxAt w)
    (hat : ElemsAt ChgE w A n c rs) (hrd : ChgsRd w rs cs) (hok : okc (tokL s.data.toList) 0 cs) (hy : pat (tokL s.data.toList) 0 cs = y) (hyt : ∀ t ∈ y, isTok t) (hyl : lensL y ≤ 5000) (hce : ∀ c ∈ cs, ∀ t ∈ c.2.2, t ∈ y) (hn : n ≤ 5000)
    (hbnd : ∀ k c, cs[k]? = some c → c.2.1.length ≤ 5000 ∧ c.2.2.length ≤ 5000 ∧ c.1 ≤ 5000 ∧ -5000 ≤ moreL (cs.take k) ∧ moreL (cs.take k) ≤ 5000) :
    Calls Tryd.prog 8 #[.string s, .slice A n c] w (TurnPost w (turnL 0 cs)) := by
  have HP := Lib.hid (patched_any s A n c rs cs y w hs hM hat hrd hok hy hyt hyl hce hn)
  have HAT := Lib.hid hat
  have HRD := Lib.hid hrd
  have HBND := Lib.hid hbnd
  clear hat hrd hok hy hyt hce hyl hbnd
  have HN := Lib.hid HAT.out.1
  have HRL := Lib.hid HRD.out.1
  go_enter Tryd.func8, Tryd.ntmps8
  go_wp2_with fail
  refine HP.out.mono ?_
  rintro e w1 ⟨v6, rfl, _, hb1⟩
  clear HP
  have hz1 := hb1.size
  go_wp2_with fail
  go_loopg [8, 9, 23] n (fun gk v8 v9 v23 wr => ∃ (k : Nat) (ro : List RawC), Hid (k + gk = n) ∧ v23 = .int .i64 k ∧ v9 = .int .i64 (moreL (cs.take k)) ∧ Owns ChgE wr w1.heap.size v8 ro ∧ ChgsOf wr w1.heap.size ro (turnL 0 (cs.take k)) ∧ Below w1.heap.size w1 wr ∧ ro.length = k)
  case atStart => exact ⟨0, [], show 0 + n = n by omega, rfl, rfl, Owns.nil _ _, ChgsOf.nil _ _, Below.refl _ _, rfl⟩
  case round =>
    obtain ⟨k, ro, HK, rfl, rfl, hown, hcs, hb, hrl⟩ := hrel
    have HRO := Lib.hid hrl; clear hrl
    have hkn : k ≤ n := by have := HK.out; omega
    have hzr := hb.size
    have HO := Lib.hid hown; clear hown
    have HCS := Lib.hid hcs; clear hcs
    by_cases hlt : k < n
    · obtain ⟨r, hr⟩ : ∃ r, rs[k]? = some r := ⟨_, List.getElem?_eq_getElem (by have := HN.out; omega)⟩
      obtain ⟨ch, hch⟩ : ∃ ch, cs[k]? = some ch := ⟨_, List.getElem?_eq_getElem (by have := HN.out; have := HRL.out; omega)⟩
      obtain ⟨hr1, hrD, hrE⟩ := HRD.out.2 k r ch hr hch
      obtain ⟨l1, l2, l3, l4, l5⟩ := HBND.out k ch hch
      have htk : cs.take (k + 1) = cs.take k ++ [ch] := by
        rw [List.take_succ_eq_append_getElem (by have := HN.out; have := HRL.out; omega)]
        obtain ⟨h1, h2⟩ := List.getElem?_eq_some_iff.1 hch
        rw [h2]
      have HMO : Hid (moreL (cs.take (k + 1)) = moreL (cs.take k) + ((ch.2.2.length : Int) - (ch.2.1.length : Int))) := by show _ = _; rw [htk, moreL_snoc]
      have HTU : Hid (turnL 0 (cs.take (k + 1)) = turnL 0 (cs.take k) ++ [((ch.1 : Int) + moreL (cs.take k), ch.2.2, ch.2.1)]) := by show _ = _; rw [htk, turnL_snoc]; simp
      obtain ⟨gA, oA, rfl, hgA, hcA⟩ := HAT.out.2.2.2 (by omega)
      have hbw : Below w.heap.size w wr := below_trans' hb1 hb
      have c0 := (hbw.cell (p := ⟨gA, oA + k * ChgE.size + 0, none⟩) hgA).trans (hcA k r 0 _ hr rfl)
      have c1 := (hbw.cell (p := ⟨gA, oA + k * ChgE.size + 1, none⟩) hgA).trans (hcA k r 1 _ hr rfl)
      have c2 := (hbw.cell (p := ⟨gA, oA + k * ChgE.size + 2, none⟩) hgA).trans (hcA k r 2 _ hr rfl)
      have hsz : ChgE.size = 3 := rfl
      rw [hsz] at c0 c1 c2
      rw [Nat.add_zero] at c0
      clear hsz hcA htk hr hch
      obtain ⟨z, ⟨D, dn, dc⟩, ⟨F, fn, fc⟩⟩ := r
      obtain ⟨a, d, e⟩ := ch
      simp only at hr1 hrD hrE l1 l2 l3 HMO HTU c0 c1 c2
      subst hr1
      obtain rfl : dn = d.length := hrD.1
      obtain rfl : fn = e.length := hrE.1
      have c1' : wr.cell? ⟨gA, oA + k * 3 + 1, none⟩ = some (.slice D d.length dc) := c1
      have c2' : wr.cell? ⟨gA, oA + k * 3 + 2, none⟩ = some (.slice F e.length fc) := c2
      clear c1 c2
      generalize moreL (cs.take k) = mo at *
      have HRDD := Lib.hid hrD; clear hrD
      have HREE := Lib.hid hrE; clear hrE
      have hlro : ro.length ≤ 5000 := by have := HRO.out; omega
      go_upto_region 9 with (fail)
      have hblk : (wr.alloc (.cells #[.int .i64 (a : Int), .slice D d.length dc, .slice F e.length fc] 40)).heap[wr.heap.size]? = some (.cells #[.int .i64 (a : Int), .slice D d.length dc, .slice F e.length fc] 40 (0, 0)) := heap_alloc_new wr _
      have HO0 : Hid (Owns ChgE (wr.alloc (.cells #[.int .i64 (a : Int), .slice D d.length dc, .slice F e.length fc] 40)) w1.heap.size u8 ro) := World.ownsRow.alloc HO.out _
      have hne : u8.ownBlock ≠ some wr.heap.size := fun e => by have := (HO.out.lt _ e).2; omega
      have hb0 : Below w1.heap.size w1 (wr.alloc (.cells #[.int .i64 (a : Int), .slice D d.length dc, .slice F e.length fc] 40)) := hb.alloc hb.size _
      have HCS0 := Lib.hid (HCS.out.below ((Below.refl _ _).alloc (Nat.le_refl _) (.cells #[.int .i64 (a : Int), .slice D d.length dc, .slice F e.length fc] 40)))
      have hz0 : wr.heap.size < (wr.alloc (.cells #[.int .i64 (a : Int), .slice D d.length dc, .slice F e.length fc] 40)).heap.size := by simp
      clear c0 c1' c2' HO hb hbw hzr HCS
      generalize wr.heap.size = P at *
      generalize wr.alloc (.cells #[.int .i64 (a : Int), .slice D d.length dc, .slice F e.length fc] 40) = w0 at *
      have e0 : w0.cell? ⟨P, 0, none⟩ = some (.int .i64 (a : Int)) := by rw [cell_of_row w0 P 0 _ _ _ hblk]; rfl
      have e1 : w0.cell? ⟨P, 1, none⟩ = some (.slice D d.length dc) := by rw [cell_of_row w0 P 1 _ _ _ hblk]; rfl
      have e2 : w0.cell? ⟨P, 2, none⟩ = some (.slice F e.length fc) := by rw [cell_of_row w0 P 2 _ _ _ hblk]; rfl
      have HD2 : Hid (StrsAt w0 D d.length dc d) := HRDD.out.keep (below_trans' hb1 hb0)
      have HE2 : Hid (StrsAt w0 F e.length fc e) := HREE.out.keep (below_trans' hb1 hb0)
      go_cut [8] (fun v wx => ∃ ro' : List RawC, Owns ChgE wx w1.heap.size v ro' ∧ ChgsOf wx w1.heap.size ro' (turnL 0 (cs.take k) ++ [((a : Int) + mo, e, d)]) ∧ Below w1.heap.size w1 wx ∧ wx.heap[P]? = some (.cells #[.int .i64 (a : Int), .slice D d.length dc, .slice F e.length fc] 40 (0, 0)) ∧ ro'.length = k + 1)
      case first =>
        have g1 : IntKind.i64.wrap ((a : Int) + mo) = (a : Int) + mo := IntWalk.i64_in _ (by omega)
        have hbd := build_chg
        have hbs := slice_chg
        go_region_held3 (fun w' => w'.cell? ⟨P, 0, none⟩ = some (.int .i64 (a : Int)) ∧ w'.cell? ⟨P, 1, none⟩ = some (.slice D d.length dc) ∧ w'.cell? ⟨P, 2, none⟩ = some (.slice F e.length fc))
          (go_keep)
          (first
            | (go_at_call 18; (with_reducible refine Calls.mono (clone_any F e.length fc e _ ?_ (by omega)) ?_); (first | exact HE2.out | exact HE2.out.keep hy0); rintro e' wx ⟨vx, rfl, hownx, hbx⟩; obtain ⟨Ax, cx, rfl, hq1, hq2, hq3⟩ := hownx.at_ strE_ok; clear hq1 hq2 hq3; have hx0 : Below w0.heap.size w0 wx := (by first | exact below_undrew hbx | exact hy0.trans (hbx.mono hy0.size)); have kx0 := (hx0.cell (p := ⟨P, 0, none⟩) hz0).trans e0; have kx1 := (hx0.cell (p := ⟨P, 1, none⟩) hz0).trans e1; have kx2 := (hx0.cell (p := ⟨P, 2, none⟩) hz0).trans e2)
            | (go_at_call 18; (with_reducible refine Calls.mono (clone_any D d.length dc d _ ?_ (by omega)) ?_); (first | exact HD2.out | exact HD2.out.keep hx0); rintro e' wy ⟨vy, rfl, howny, hby⟩; obtain ⟨By, cy, rfl, hq1, hq2, hq3⟩ := howny.at_ strE_ok; clear hq1 hq2 hq3; have hy0 : Below w0.heap.size w0 wy := (by first | exact below_undrew hby | exact hx0.trans (hby.mono hx0.size)); have ky0 := (hy0.cell (p := ⟨P, 0, none⟩) hz0).trans e0; have ky1 := (hy0.cell (p := ⟨P, 1, none⟩) hz0).trans e1; have ky2 := (hy0.cell (p := ⟨P, 2, none⟩) hz0).trans e2)
            | (refine step_elems chgE_ok (by rfl) _ _ (by rfl) w1.heap.size u8 ro (by rfl) ?_ _ 1 1 [((a : Int) + mo, (Ax, e.length, cx), (By, d.length, cy))] (by rfl) ?_ (by omega) ?_ ?_ ?_; (first | exact World.ownsRow.alloc (HO0.out.below_ hy0) _ | exact World.ownsRow.alloc (HO0.out.below_ hx0) _); (first | exact one_elem (E := ChgE) wy _ | exact one_elem (E := ChgE) wx _); (simp only [List.length_singleton]; omega); (have h1 := hx0.size; have h2 := hy0.size; have h3 := hb0.size; simp; omega); intro v5 w5 hown5 hgrow5 hv5; have fin := (by first | exact turn_done hb0 HO0.out HCS0.out hblk hne hy0 ((hownx.below_ hby).base_ hb0.size) (howny.base_ (Nat.le_trans hb0.size hx0.size)) hgrow5 hown5 | exact turn_done hb0 HO0.out HCS0.out hblk hne hx0 (hownx.base_ (Nat.le_trans hb0.size hy0.size)) ((howny.below_ hbx).base_ hb0.size) hgrow5 hown5 : Owns ChgE w5 w1.heap.size v5 (ro ++ [((a : Int) + mo, (Ax, e.length, cx), (By, d.length, cy))]) ∧ ChgsOf w5 w1.heap.size (ro ++ [((a : Int) + mo, (Ax, e.length, cx), (By, d.length, cy))]) (turnL 0 (cs.take k) ++ [((a : Int) + mo, e, d)]) ∧ Below w1.heap.size w1 w5 ∧ w5.heap[P]? = some (.cells #[.int .i64 (a : Int), .slice D d.length dc, .slice F e.length fc] 40 (0, 0))); have kw0 : w5.cell? ⟨P, 0, none⟩ = some (.int .i64 (a : Int)) := (by rw [cell_of_row w5 P 0 _ _ _ fin.2.2.2]; rfl); have kw1 : w5.cell? ⟨P, 1, none⟩ = some (.slice D d.length dc) := (by rw [cell_of_row w5 P 1 _ _ _ fin.2.2.2]; rfl); have kw2 : w5.cell? ⟨P, 2, none⟩ = some (.slice F e.length fc) := (by rw [cell_of_row w5 P 2 _ _ _ fin.2.2.2]; rfl); have FIN := Lib.hid fin; clear fin hown5 hgrow5 hv5))
        all_goals
          go_wp2_with fail
          go_meet
          exact ⟨_, FIN.out.1, FIN.out.2.1, FIN.out.2.2.1, FIN.out.2.2.2, by have := HRO.out; rw [List.length_append]; simp only [List.length_singleton]; omega⟩
      case rest =>
        obtain ⟨ro', hown', hcs', hb', hblk', hrl'⟩ := hcut
        have d1 : wc.cell? ⟨P, 1, none⟩ = some (.slice D d.length dc) := by rw [cell_of_row wc P 1 _ _ _ hblk']; rfl
        have d2 : wc.cell? ⟨P, 2, none⟩ = some (.slice F e.length fc) := by rw [cell_of_row wc P 2 _ _ _ hblk']; rfl
        have HOW := Lib.hid hown'; clear hown'
        have HCS2 := Lib.hid hcs'; clear hcs'
        have HRL2 := Lib.hid hrl'; clear hrl' hblk hblk'
        go_wp2_with fail
        go_roundg (gk - 1)
        case measure => have := HK.out; omega
        case rel => exact ⟨k + 1, ro', show k + 1 + (gk - 1) = n by have := HK.out; omega, by go_num, by rw [HMO.out], HOW.out, by rw [HTU.out]; exact HCS2.out, hb', HRL2.out⟩
    · have hall : cs.take k = cs := List.take_of_length_le (by have := HRL.out; have := HN.out; omega)
      rw [hall] at HCS
      have hown := HO.out
      go_wp2_with fail
      go_ret2
      exact ⟨_, ro, rfl, hown.base_ hz1, HCS.out.base hz1, below_trans' hb1 hb⟩

end Go.Proofs.YthmfoihohminmaaDoor
