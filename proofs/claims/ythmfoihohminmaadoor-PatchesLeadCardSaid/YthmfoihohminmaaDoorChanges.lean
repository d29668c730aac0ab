
/-
  What changes returns.
-/
import Derived.Test.YthmfoihohminmaaDoorKept
namespace Go.Proofs.YthmfoihohminmaaDoor
open Go.RowKit

theorem GoodTo.mem_le {α : Type} {x y : List α} : ∀ {l : List (Nat × Nat)} {i j i' j' : Nat}, GoodTo x y i j l i' j' → ∀ p ∈ l, p.1 < x.length ∧ p.2 < y.length
  | [], _, _, _, _, _, p, hp => by simp at hp
  | q :: l, _, _, _, _, h, p, hp => by
    rcases List.mem_cons.1 hp with rfl | hp
    · obtain ⟨t, h1, h2⟩ := h.2.2.1
      exact ⟨(List.getElem?_eq_some_iff.1 h1).1, (List.getElem?_eq_some_iff.1 h2).1⟩
    · exact h.2.2.2.mem_le p hp
abbrev Sl := Option Addr × Nat × Nat
def Sl.v (s : Sl) : Value := .slice s.1 s.2.1 s.2.2
abbrev RawC := Int × Sl × Sl
abbrev TokC := Int × List (List UInt8) × List (List UInt8)
def ChgE : Elem RawC := ⟨40, 28, 3, 56, .agg #[.int .i64 0, .slice none 0 0, .slice none 0 0], fun r => [.int .i64 r.1, r.2.1.v, r.2.2.v]⟩
theorem chgE_ok : ChgE.Ok := ⟨fun _ => rfl, fun x u hu => by simp [ChgE] at hu; rcases hu with rfl | rfl | rfl <;> rfl, by decide, by decide, by kernel_rfl, by kernel_rfl, Tryd.underlying28⟩

/-- What a laid change says. -/
def ChgOf (w : World) (base : Nat) (r : RawC) (c : TokC) : Prop := r.1 = c.1 ∧ OwnStrs w base r.2.1.v c.2.1 ∧ OwnStrs w base r.2.2.v c.2.2
def ChgsOf (w : World) (base : Nat) (rs : List RawC) (cs : List TokC) : Prop := rs.length = cs.length ∧ ∀ (k : Nat) r c, rs[k]? = some r → cs[k]? = some c → ChgOf w base r c
theorem ChgsOf.nil (w : World) (base : Nat) : ChgsOf w base [] [] := ⟨rfl, fun k r c h => by simp at h⟩
theorem ChgsOf.snoc {w : World} {base : Nat} {rs : List RawC} {cs : List TokC} (h : ChgsOf w base rs cs) {r : RawC} {c : TokC} (hc : ChgOf w base r c) : ChgsOf w base (rs ++ [r]) (cs ++ [c]) := by
  refine ⟨by simp [h.1], fun k r' c' h1 h2 => ?_⟩
  have hl := h.1
  by_cases hk : k < rs.length
  · rw [List.getElem?_append_left hk] at h1
    rw [List.getElem?_append_left (by omega)] at h2
    exact h.2 k r' c' h1 h2
  · have hk' : k = rs.length := by
      have := (List.getElem?_eq_some_iff.1 h1).1
      simp at this; omega
    subst hk'
    rw [hl] at h2
    simp at h1 h2
    subst h1 h2
    exact hc
theorem ChgOf.map {w w' : World} {base : Nat} {r : RawC} {c : TokC} (h : ChgOf w base r c) (f : ∀ v l, OwnStrs w base v l → OwnStrs w' base v l) : ChgOf w' base r c := ⟨h.1, f _ _ h.2.1, f _ _ h.2.2⟩
theorem ChgsOf.map {w w' : World} {base : Nat} {rs : List RawC} {cs : List TokC} (h : ChgsOf w base rs cs) (f : ∀ v l, OwnStrs w base v l → OwnStrs w' base v l) : ChgsOf w' base rs cs := ⟨h.1, fun k r c h1 h2 => (h.2 k r c h1 h2).map f⟩
theorem ChgsOf.below {w w' : World} {base : Nat} {rs : List RawC} {cs : List TokC} (h : ChgsOf w base rs cs) (hb : Below w.heap.size w w') : ChgsOf w' base rs cs := h.map fun _ _ h => h.below_ hb
theorem ChgsOf.base {w : World} {base base' : Nat} {rs : List RawC} {cs : List TokC} (h : ChgsOf w base rs cs) (hb : base' ≤ base) : ChgsOf w base' rs cs := ⟨h.1, fun k r c h1 h2 => ⟨(h.2 k r c h1 h2).1, (h.2 k r c h1 h2).2.1.base_ hb, (h.2 k r c h1 h2).2.2.base_ hb⟩⟩
theorem own_slice {w : World} {base : Nat} {v : Value} {l : List (List UInt8)} (h : OwnStrs w base v l) : ∃ s : Sl, v = s.v ∧ s.2.1 = l.length ∧ StrsAt w s.1 s.2.1 s.2.2 l := by
  obtain ⟨A, c, rfl, _, hat, _⟩ := h.at_ strE_ok
  exact ⟨(A, l.length, c), rfl, rfl, hat⟩

theorem below_undrew {w w' : World} (h : Below w.drew.heap.size w.drew w') : Below w.heap.size w w' := ⟨h.os, h.tape, h.output, h.size, h.block⟩
/-- What stands after a change was laid behind the others. -/
theorem chg_done {w w0 wz w5 : World} {u5 v5 vq : Value} {rs : List RawC} {cs : List TokC} {q : List (Nat × Nat)} {P : Nat} {C : Array Value} {fr : Nat × Nat} {Ax By : Option Addr} {nx cx ny cy : Nat} {sx sy : List (List UInt8)} {z : Int} {o : Obj}
    (hb0 : Below w.heap.size w w0) (hO : Owns ChgE w0 w.heap.size u5 rs) (hC : ChgsOf w0 w.heap.size rs cs) (hQ : Owns PairE w0 w.heap.size vq q) (hblk : w0.heap[P]? = some (.cells C 70 fr))
    (hz : Below w0.heap.size w0 wz) (ox : OwnStrs wz w.heap.size (.slice Ax nx cx) sx) (oy : OwnStrs wz w.heap.size (.slice By ny cy) sy) (hg : (wz.alloc o).grownBy w5 u5.ownBlock) (hown5 : Owns ChgE w5 w.heap.size v5 (rs ++ [(z, (Ax, nx, cx), (By, ny, cy))])) :
    Owns ChgE w5 w.heap.size v5 (rs ++ [(z, (Ax, nx, cx), (By, ny, cy))]) ∧ ChgsOf w5 w.heap.size (rs ++ [(z, (Ax, nx, cx), (By, ny, cy))]) (cs ++ [(z, sx, sy)]) ∧ Owns PairE w5 w.heap.size vq q ∧ Below w.heap.size w w5 ∧ w5.heap[P]? = some (.cells C 70 fr) := by
  have hO' : Owns ChgE (wz.alloc o) w.heap.size u5 rs := (hO.below_ hz).alloc _
  have f : ∀ v l, OwnStrs wz w.heap.size v l → OwnStrs w5 w.heap.size v l := fun v l h => Owns.beside (World.ownsRow.alloc h _) hO' (by decide) hg
  have hPl : P < w0.heap.size := (Array.getElem?_eq_some_iff.1 hblk).1
  have hPz : P < wz.heap.size := Nat.lt_of_lt_of_le hPl hz.size
  have hbz : Below w.heap.size w (wz.alloc o) := (hb0.trans (hz.mono hb0.size)).alloc (Nat.le_trans hb0.size hz.size) _
  refine ⟨hown5, ((hC.below hz).map f).snoc ⟨rfl, f _ _ ox, f _ _ oy⟩, Owns.beside ((hQ.below_ hz).alloc _) hO' (by decide) hg, hbz.grown hg hbz.size (fun r hr => (hO.lt r hr).1), ?_⟩
  refine (hg.block P (by simp; omega) (fun e => ?_)).trans ((Below.heap_alloc wz o P hPz).trans ((hz.block P hPl).trans hblk))
  exact hO.ne_block hblk (by decide) e.symm
theorem build_chg (z : Int) (A B : Option Addr) (n c m d : Nat) (wx : World) : (Instr.build 40 #[(0, .int .i64 z), (1, .slice A n c), (2, .slice B m d)]).run Tryd.prog wx = .ok (.agg #[.int .i64 z, .slice A n c, .slice B m d]) wx := by kernel_rfl
theorem slice_chg (z : Int) (A B : Option Addr) (n c m d : Nat) (wx : World) : (Instr.buildSlice 28 1 #[(0, .agg #[.int .i64 z, .slice A n c, .slice B m d])]).run Tryd.prog wx = .ok (.slice (some ⟨wx.heap.size, 0, none⟩) 1 1) (wx.alloc (.cells #[.int .i64 z, .slice A n c, .slice B m d] 40)) := by kernel_rfl
def ChangesPost (w : World) (x y : List (List UInt8)) (e : Ending) (w' : World) : Prop :=
  ∃ (v : Value) (rs : List RawC) (l : List (Nat × Nat)) (i j : Nat), e = .returned v ∧ Owns ChgE w' w.heap.size v rs ∧ ChgsOf w' w.heap.size rs ((chgs x y 0 0 (l ++ [(x.length, y.length)])).map castC) ∧ GoodTo x y 0 0 l i j ∧ i ≤ x.length ∧ j ≤ y.length ∧ l.length = lcs x y ∧ Below w.heap.size w w'

set_option maxHeartbeats 6400000 in
set_option maxRecDepth 100000 in
theorem changes_any (A B : Option Addr) (n c m d : Nat) (x y : List (List UInt8)) (w : World) (hx : StrsAt w A n c x) (hy : StrsAt w B m d y) (hn : n ≤ 2000) (hm : m ≤ 2000) :
    Calls Tryd.prog 16 #[.slice A n c, .slice B m d] w (ChangesPost w x y) := by
  have HX := Lib.hid hx.1
  have HY := Lib.hid hy.1
  go_enter Tryd.func16, Tryd.ntmps16
  go_wp2_with fail
  refine (kept_any A B n c m d x y w hx hy hn hm).mono ?_
  rintro e w1 ⟨v1, l, li, lj, rfl, hown1, hgd, hli, hlj, hlen, hb1⟩
  have hll : l.length ≤ 2000 := by have := hgd.length_le; have := HX.out; omega
  have HGD := Lib.hid hgd; clear hgd
  have HLEN := Lib.hid hlen; clear hlen
  have hz1 := hb1.size
  have hone : ElemsAt PairE (w1.alloc (.cells #[.int .i64 (n : Int), .int .i64 (m : Int)] 70)) (some ⟨w1.heap.size, 0, none⟩) 1 1 [(n, m)] := by
    have h := one_elem (E := PairE) w1 (n, m)
    simpa [PairE] using h
  go_wp2_with (at_builtin; refine append_elems pairE_ok rfl _ _ rfl w.heap.size _ l rfl (hown1.alloc _) (some ⟨w1.heap.size, 0, none⟩) 1 1 [(n, m)] rfl hone (by simp; omega) (by simp; omega) ?_; intro v2 w2 hown2 hgrow2 _; obtain ⟨Aq, cq, rfl, hcq, hatq, hnewq⟩ := hown2.at_ pairE_ok)
  have hb2 : Below w.heap.size w w2 := (hb1.alloc hb1.size _).grown hgrow2 (by simp; omega) (fun r hr => (hown1.lt r hr).1)
  clear hone hgrow2 hown1
  have hql : (l ++ [(n, m)]).length = l.length + 1 := by simp
  have HCH : Hid (chgs x y 0 0 (l ++ [(x.length, y.length)]) = chgs x y 0 0 (l ++ [(n, m)])) := by show _ = _; rw [← HX.out, ← HY.out]
  have HRI := Lib.hid (HGD.out.rises (n := n) (m := m) (by have := HX.out; omega) (by have := HY.out; omega))
  have hqb : ∀ p ∈ l ++ [(n, m)], p.1 ≤ n ∧ p.2 ≤ m := fun p hp => by
    rcases List.mem_append.1 hp with hp | hp
    · have := HGD.out.mem_le p hp; have := HX.out; have := HY.out; omega
    · simp at hp; subst hp; exact ⟨Nat.le_refl _, Nat.le_refl _⟩
  have HQB := Lib.hid hqb; clear hqb
  rw [hql] at hatq
  obtain ⟨q, hq⟩ : ∃ q, q = l ++ [(n, m)] := ⟨_, rfl⟩
  rw [← hq] at hown2 hatq hql HCH HRI HQB
  rw [hql] at hown2
  have HQN := Lib.hid hql
  clear hq hql
  go_wp2_with fail
  go_loopg [5, 6, 7, 21] (l.length + 1) (fun gk v5 v6 v7 v21 wr => ∃ (k : Nat) (rs : List RawC), Hid (k + gk = l.length + 1) ∧ v21 = .int .i64 k ∧ v6 = .int .i64 ((endp 0 0 (q.take k)).1 : Nat) ∧ v7 = .int .i64 ((endp 0 0 (q.take k)).2 : Nat) ∧ Owns ChgE wr w.heap.size v5 rs ∧ ChgsOf wr w.heap.size rs ((chgs x y 0 0 (q.take k)).map castC) ∧ Owns PairE wr w.heap.size (.slice Aq (l.length + 1) cq) q ∧ Below w.heap.size w wr)
  case atStart => exact ⟨0, [], show 0 + (l.length + 1) = l.length + 1 by omega, rfl, rfl, rfl, Owns.nil _ _, ChgsOf.nil _ _, hown2, hb2⟩
  case round =>
    obtain ⟨k, rs, HK, rfl, rfl, rfl, hown, hcs, hpr, hb⟩ := hrel
    clear hown2 hb2 hatq
    have hzb := hb.size
    have hkn : k ≤ l.length + 1 := by have := HK.out; omega
    by_cases hlt : k < l.length + 1
    · obtain ⟨A', c', he, hcm, hat, hnew⟩ := hpr.at_ pairE_ok
      rw [HQN.out] at he hat
      cases he
      clear hcm hnew
      obtain ⟨gq, oq, rfl, hgq, hcell⟩ := hat.2.2.2 (by omega)
      obtain ⟨rfl, _⟩ := hnewq gq oq rfl
      clear hnewq
      have hd : decide ((k : Int) < (l.length : Int) + 1) = true := by simp; omega
      have hd2 : (k : Int) < (l.length : Int) + 1 := by omega
      obtain ⟨p, hp⟩ : ∃ p, q[k]? = some p := ⟨_, List.getElem?_eq_getElem (by have := HQN.out; omega)⟩
      have c1 := hcell k p 0 (.int .i64 p.1) hp rfl
      have c2 := hcell k p 1 (.int .i64 p.2) hp rfl
      have hpb := HQB.out p (List.mem_of_getElem? hp)
      have hri := HRI.out k p hp
      have htk : q.take (k + 1) = q.take k ++ [p] := by
        rw [List.take_succ_eq_append_getElem (by have := HQN.out; omega)]
        obtain ⟨h1, h2⟩ := List.getElem?_eq_some_iff.1 hp
        rw [h2]
      have HE1 : Hid ((endp 0 0 (q.take (k + 1))).1 = p.1 + 1) := by show _ = _; rw [htk, endp_snoc]
      have HE2 : Hid ((endp 0 0 (q.take (k + 1))).2 = p.2 + 1) := by show _ = _; rw [htk, endp_snoc]
      have HC : Hid (chgs x y 0 0 (q.take (k + 1)) = chgs x y 0 0 (q.take k) ++ (if (endp 0 0 (q.take k)).1 < p.1 ∨ (endp 0 0 (q.take k)).2 < p.2 then [((endp 0 0 (q.take k)).1, seg x (endp 0 0 (q.take k)).1 p.1, seg y (endp 0 0 (q.take k)).2 p.2)] else [])) := by show _ = _; rw [htk, chgs_snoc]
      clear htk hp hcell hat
      obtain ⟨p1, p2⟩ := p
      simp only at hpb hri HE1 HE2 HC c1 c2
      have hcl : (chgs x y 0 0 (q.take k)).length ≤ 2001 := by have h2 := chgs_length x y (q.take k) 0 0; rw [List.length_take] at h2; omega
      generalize (endp 0 0 (q.take k)).1 = i at *
      generalize (endp 0 0 (q.take k)).2 = j at *
      generalize chgs x y 0 0 (q.take k) = cs at *
      have hPE : PairE.size = 2 := rfl
      rw [hPE] at c1 c2
      rw [Nat.add_zero, Nat.zero_add] at c1
      rw [Nat.zero_add] at c2
      clear hPE
      have HO := Lib.hid hown; clear hown
      have HCS := Lib.hid hcs; clear hcs
      have HPR := Lib.hid hpr; clear hpr
      have hrl : rs.length ≤ 2001 := by have h1 := HCS.out.1; rw [List.length_map] at h1; omega
      have hrg : wr.rangeAt gq (k * 2) [.int .i64 (p1 : Int), .int .i64 (p2 : Int)] := fun t v hv => by
        match t, hv with
        | 0, hv => simp at hv; subst hv; exact c1
        | 1, hv => simp at hv; subst hv; exact c2
        | t + 2, hv => simp at hv
      clear c1 c2
      go_upto_region 6 with (refine wpList_load_mid rfl 70 _ rfl gq (k * 2) rfl [.int .i64 (p1 : Int), .int .i64 (p2 : Int)] _ hrg Tryd.underlying70 rfl (by kernel_rfl) ?_)
      clear hrg
      have hblk : (wr.alloc (.cells #[.int .i64 (p1 : Int), .int .i64 (p2 : Int)] 70)).heap[wr.heap.size]? = some (.cells #[.int .i64 (p1 : Int), .int .i64 (p2 : Int)] 70 (0, 0)) := heap_alloc_new wr _
      have HO0 : Hid (Owns ChgE (wr.alloc (.cells #[.int .i64 (p1 : Int), .int .i64 (p2 : Int)] 70)) w.heap.size u5 rs) := HO.out.alloc _
      have hbw : Below wr.heap.size wr (wr.alloc (.cells #[.int .i64 (p1 : Int), .int .i64 (p2 : Int)] 70)) := (Below.refl _ _).alloc (Nat.le_refl _) _
      have HCS0 := Lib.hid (HCS.out.below hbw)
      have HPR0 := Lib.hid (HPR.out.below_ hbw)
      have hb0 : Below w.heap.size w (wr.alloc (.cells #[.int .i64 (p1 : Int), .int .i64 (p2 : Int)] 70)) := hb.trans (hbw.mono hb.size)
      have hz0 : wr.heap.size < (wr.alloc (.cells #[.int .i64 (p1 : Int), .int .i64 (p2 : Int)] 70)).heap.size := by simp
      clear hbw HO HCS HPR
      generalize wr.heap.size = P at *
      generalize wr.alloc (.cells #[.int .i64 (p1 : Int), .int .i64 (p2 : Int)] 70) = w0 at *
      have e1 : w0.cell? ⟨P, 0, none⟩ = some (.int .i64 (p1 : Int)) := by rw [cell_of_row w0 P 0 _ _ _ hblk]; rfl
      have e2 : w0.cell? ⟨P, 1, none⟩ = some (.int .i64 (p2 : Int)) := by rw [cell_of_row w0 P 1 _ _ _ hblk]; rfl
      go_cut [34] (fun v wx => v = .bool (decide (i < p1 ∨ j < p2)) ∧ w0 = wx)
      case first =>
        by_cases h1 : i < p1
        · go_wp2_with fail
          go_meet
          exact ⟨by simp [h1], rfl⟩
        · go_wp2_with fail
          go_meet
          exact ⟨by simp [h1], rfl⟩
      case rest =>
        obtain ⟨rfl, rfl⟩ := hcut
        go_upto_if 34 with (fail)
        go_cut [5] (fun v wx => ∃ rs' : List RawC, Owns ChgE wx w.heap.size v rs' ∧ ChgsOf wx w.heap.size rs' ((cs ++ (if i < p1 ∨ j < p2 then [(i, seg x i p1, seg y j p2)] else [])).map castC) ∧ Owns PairE wx w.heap.size (.slice (some ⟨gq, 0, none⟩) (l.length + 1) cq) q ∧ Below w.heap.size w wx ∧ wx.heap[P]? = some (.cells #[.int .i64 (p1 : Int), .int .i64 (p2 : Int)] 70 (0, 0)))
        case first =>
          by_cases hc : i < p1 ∨ j < p2
          · have hor : decide (i < p1 ∨ j < p2) = true := by simpa using hc
            obtain ⟨A1, ha1, hat1⟩ := (hx.keep hb0).piece i p1 hri.1 hpb.1
            obtain ⟨B1, hb1', hat2⟩ := (hy.keep hb0).piece j p2 hri.2 hpb.2
            have hs1 := sl_mid A n c i p1 hri.1 (by have := hx.2.1; omega) _ ha1
            have hs2 := sl_mid B m d j p2 hri.2 (by have := hy.2.1; omega) _ hb1'
            have HAT1 : Hid (StrsAt w0 A1 (p1 - i) (c - i) (seg x i p1)) := hat1
            have HAT2 : Hid (StrsAt w0 B1 (p2 - j) (d - j) (seg y j p2)) := hat2
            clear hat1 hat2 ha1 hb1'
            have hbd := build_chg
            have hbs := slice_chg
            go_wp2_with fail
            go_region_held3 (fun w' => w'.cell? ⟨P, 0, none⟩ = some (.int .i64 (p1 : Int)) ∧ w'.cell? ⟨P, 1, none⟩ = some (.int .i64 (p2 : Int)))
              (go_keep)
              (first
                | (go_at_call 18; (with_reducible refine Calls.mono (clone_any A1 (p1 - i) (c - i) (seg x i p1) _ ?_ (by omega)) ?_); (first | exact HAT1.out | exact HAT1.out.keep hy0); rintro e wx ⟨vx, rfl, hownx, hbx⟩; obtain ⟨Ax, cx, rfl, hq1, hq2, hq3⟩ := hownx.at_ strE_ok; clear hq1 hq2 hq3; have hx0 : Below w0.heap.size w0 wx := (by first | exact below_undrew hbx | exact hy0.trans (hbx.mono hy0.size)); have kx1 := (hx0.cell (p := ⟨P, 0, none⟩) hz0).trans e1; have kx2 := (hx0.cell (p := ⟨P, 1, none⟩) hz0).trans e2)
                | (go_at_call 18; (with_reducible refine Calls.mono (clone_any B1 (p2 - j) (d - j) (seg y j p2) _ ?_ (by omega)) ?_); (first | exact HAT2.out | exact HAT2.out.keep hx0); rintro e wy ⟨vy, rfl, howny, hby⟩; obtain ⟨By, cy, rfl, hq1, hq2, hq3⟩ := howny.at_ strE_ok; clear hq1 hq2 hq3; have hy0 : Below w0.heap.size w0 wy := (by first | exact below_undrew hby | exact hx0.trans (hby.mono hx0.size)); have ky1 := (hy0.cell (p := ⟨P, 0, none⟩) hz0).trans e1; have ky2 := (hy0.cell (p := ⟨P, 1, none⟩) hz0).trans e2)
                | (refine step_elems chgE_ok (by rfl) _ _ (by rfl) w.heap.size u5 rs (by rfl) ?_ _ 1 1 [((i : Int), (Ax, (seg x i p1).length, cx), (By, (seg y j p2).length, cy))] (by rfl) ?_ (by omega) ?_ ?_ ?_; (first | exact (HO0.out.below_ hy0).alloc _ | exact (HO0.out.below_ hx0).alloc _); (first | exact one_elem (E := ChgE) wy _ | exact one_elem (E := ChgE) wx _); (simp only [List.length_singleton]; omega); (have h1 := hx0.size; have h2 := hy0.size; have h3 := hb0.size; simp; omega); intro v5 w5 hown5 hgrow5 hv5; have fin := (by first | exact chg_done hb0 HO0.out HCS0.out HPR0.out hblk hy0 ((hownx.below_ hby).base_ hb0.size) (howny.base_ (Nat.le_trans hb0.size hx0.size)) hgrow5 hown5 | exact chg_done hb0 HO0.out HCS0.out HPR0.out hblk hx0 (hownx.base_ (Nat.le_trans hb0.size hy0.size)) ((howny.below_ hbx).base_ hb0.size) hgrow5 hown5 : Owns ChgE w5 w.heap.size v5 (rs ++ [((i : Int), (Ax, (seg x i p1).length, cx), (By, (seg y j p2).length, cy))]) ∧ ChgsOf w5 w.heap.size (rs ++ [((i : Int), (Ax, (seg x i p1).length, cx), (By, (seg y j p2).length, cy))]) (cs.map castC ++ [((i : Int), seg x i p1, seg y j p2)]) ∧ Owns PairE w5 w.heap.size (.slice (some ⟨gq, 0, none⟩) (l.length + 1) cq) q ∧ Below w.heap.size w w5 ∧ w5.heap[P]? = some (.cells #[.int .i64 (p1 : Int), .int .i64 (p2 : Int)] 70 (0, 0))); have kw1 : w5.cell? ⟨P, 0, none⟩ = some (.int .i64 (p1 : Int)) := (by rw [cell_of_row w5 P 0 _ _ _ fin.2.2.2.2]; rfl); have kw2 : w5.cell? ⟨P, 1, none⟩ = some (.int .i64 (p2 : Int)) := (by rw [cell_of_row w5 P 1 _ _ _ fin.2.2.2.2]; rfl); have FIN := Lib.hid fin; clear fin hown5 hgrow5 hv5))
            all_goals
              go_wp2_with fail
              go_meet
              exact ⟨_, FIN.out.1, by rw [if_pos hc, List.map_append]; exact FIN.out.2.1, FIN.out.2.2⟩
          · have hor : decide (i < p1 ∨ j < p2) = false := by simpa using hc
            go_wp2_with fail
            go_meet
            exact ⟨rs, HO0.out, by rw [if_neg hc, List.append_nil]; exact HCS0.out, HPR0.out, hb0, hblk⟩
        case rest =>
          obtain ⟨rs', hown', hcs', hpr', hb', hblk'⟩ := hcut
          have d1 : wc.cell? ⟨P, 0, none⟩ = some (.int .i64 (p1 : Int)) := by rw [cell_of_row wc P 0 _ _ _ hblk']; rfl
          have d2 : wc.cell? ⟨P, 1, none⟩ = some (.int .i64 (p2 : Int)) := by rw [cell_of_row wc P 1 _ _ _ hblk']; rfl
          have s1 : IntKind.i64.wrap ((p1 : Int) + 1) = (p1 : Int) + 1 := IntWalk.i64_in _ (by omega)
          have s2 : IntKind.i64.wrap ((p2 : Int) + 1) = (p2 : Int) + 1 := IntWalk.i64_in _ (by omega)
          have HOW := Lib.hid hown'; clear hown'
          have HCS2 := Lib.hid hcs'; clear hcs'
          have HPR2 := Lib.hid hpr'; clear hpr' hblk hblk'
          go_wp2_with fail
          go_quiet (fail)
          go_wp2_with fail
          go_roundg (gk - 1)
          case measure => have := HK.out; omega
          case rel => exact ⟨k + 1, rs', show k + 1 + (gk - 1) = l.length + 1 by have := HK.out; omega, by go_num, by rw [HE1.out]; go_num, by rw [HE2.out]; go_num, HOW.out, by rw [HC.out]; exact HCS2.out, HPR2.out, below_drewN hb' _⟩
    · have hke : k = l.length + 1 := by omega
      have HKE := Lib.hid hke; clear hke
      have hd : decide ((k : Int) < (l.length : Int) + 1) = false := by simp; omega
      rw [List.take_of_length_le (by have := HQN.out; have := HKE.out; omega)] at hcs
      go_wp2_with fail
      go_ret
      exact ⟨_, rs, l, li, lj, rfl, hown, by rw [HCH.out]; exact hcs, HGD.out, hli, hlj, HLEN.out, hb⟩

end Go.Proofs.YthmfoihohminmaaDoor
