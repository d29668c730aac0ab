
/-
  What changes returns.
-/
import Derived.Test.YtmaimojpjepmjaaGreatDoorKept
namespace Go.Proofs.YtmaimojpjepmjaaGreatDoor
open Go.RowKit

theorem GoodTo.mem_le {α : Type} {x y : List α} : ∀ {l : List (Nat × Nat)} {i j i' j' : Nat}, GoodTo x y i j l i' j' → ∀ p ∈ l, p.1 < x.length ∧ p.2 < y.length
  | [], _, _, _, _, _, p, hp => by simp at hp
  | q :: l, _, _, _, _, h, p, hp => by
    rcases List.mem_cons.1 hp with rfl | hp
    · obtain ⟨t, h1, h2⟩ := h.2.2.1
      exact ⟨(List.getElem?_eq_some_iff.1 h1).1, (List.getElem?_eq_some_iff.1 h2).1⟩
    · exact h.2.2.2.mem_le p hp
abbrev Sl := Option Addr × Nat × Nat
def Sl.v (s : Sl) : Value := .slice s.1 s.2.1 s.2.2
abbrev RawC := Int × Sl × Sl
abbrev TokC := Int × List (List UInt8) × List (List UInt8)
def ChgE : Elem RawC := ⟨55, 50, 3, 56, .agg #[.int .i64 0, .slice none 0 0, .slice none 0 0], fun r => [.int .i64 r.1, r.2.1.v, r.2.2.v]⟩
theorem chgE_ok : ChgE.Ok := ⟨fun _ => rfl, fun x u hu => by simp [ChgE] at hu; rcases hu with rfl | rfl | rfl <;> rfl, by decide, by decide, by kernel_rfl, by kernel_rfl, Tryz.underlying50⟩

/-- What a laid change says. -/
def ChgOf (w : World) (base : Nat) (r : RawC) (c : TokC) : Prop := r.1 = c.1 ∧ OwnStrs w base r.2.1.v c.2.1 ∧ OwnStrs w base r.2.2.v c.2.2
def ChgsOf (w : World) (base : Nat) (rs : List RawC) (cs : List TokC) : Prop := rs.length = cs.length ∧ ∀ (k : Nat) r c, rs[k]? = some r → cs[k]? = some c → ChgOf w base r c
theorem ChgsOf.nil (w : World) (base : Nat) : ChgsOf w base [] [] := ⟨rfl, fun k r c h => by simp at h⟩
theorem ChgsOf.snoc {w : World} {base : Nat} {rs : List RawC} {cs : List TokC} (h : ChgsOf w base rs cs) {r : RawC} {c : TokC} (hc : ChgOf w base r c) : ChgsOf w base (rs ++ [r]) (cs ++ [c]) := by
  refine ⟨by simp [h.1], fun k r' c' h1 h2 => ?_⟩
  have hl := h.1
  by_cases hk : k < rs.length
  · rw [List.getElem?_append_left hk] at h1
    rw [List.getElem?_append_left (by omega)] at h2
    exact h.2 k r' c' h1 h2
  · have hk' : k = rs.length := by
      have := (List.getElem?_eq_some_iff.1 h1).1
      simp at this; omega
    subst hk'
    rw [hl] at h2
    simp at h1 h2
    subst h1 h2
    exact hc
theorem ChgOf.map {w w' : World} {base : Nat} {r : RawC} {c : TokC} (h : ChgOf w base r c) (f : ∀ v l, OwnStrs w base v l → OwnStrs w' base v l) : ChgOf w' base r c := ⟨h.1, f _ _ h.2.1, f _ _ h.2.2⟩
theorem ChgsOf.map {w w' : World} {base : Nat} {rs : List RawC} {cs : List TokC} (h : ChgsOf w base rs cs) (f : ∀ v l, OwnStrs w base v l → OwnStrs w' base v l) : ChgsOf w' base rs cs := ⟨h.1, fun k r c h1 h2 => (h.2 k r c h1 h2).map f⟩
theorem ChgsOf.below {w w' : World} {base : Nat} {rs : List RawC} {cs : List TokC} (h : ChgsOf w base rs cs) (hb : Below w.heap.size w w') : ChgsOf w' base rs cs := h.map fun _ _ h => h.below_ hb
theorem ChgsOf.base {w : World} {base base' : Nat} {rs : List RawC} {cs : List TokC} (h : ChgsOf w base rs cs) (hb : base' ≤ base) : ChgsOf w base' rs cs := ⟨h.1, fun k r c h1 h2 => ⟨(h.2 k r c h1 h2).1, (h.2 k r c h1 h2).2.1.base_ hb, (h.2 k r c h1 h2).2.2.base_ hb⟩⟩
theorem own_slice {w : World} {base : Nat} {v : Value} {l : List (List UInt8)} (h : OwnStrs w base v l) : ∃ s : Sl, v = s.v ∧ s.2.1 = l.length ∧ StrsAt w s.1 s.2.1 s.2.2 l := by
  obtain ⟨A, c, rfl, _, hat, _⟩ := h.at_ strE_ok
  exact ⟨(A, l.length, c), rfl, rfl, hat⟩

theorem below_undrew {w w' : World} (h : Below w.drew.heap.size w.drew w') : Below w.heap.size w w' := ⟨h.os, h.tape, h.output, h.size, h.block⟩
/-- What stands after a change was laid behind the others. -/
theorem chg_done {w w0 wz w5 : World} {u5 v5 vq : Value} {rs : List RawC} {cs : List TokC} {q : List (Nat × Nat)} {P : Nat} {C : Array Value} {fr : Nat × Nat} {Ax By : Option Addr} {nx cx ny cy : Nat} {sx sy : List (List UInt8)} {z : Int} {o : Obj}
    (hb0 : Below w.heap.size w w0) (hO : Owns ChgE w0 w.heap.size u5 rs) (hC : ChgsOf w0 w.heap.size rs cs) (hQ : Owns PairE w0 w.heap.size vq q) (hblk : w0.heap[P]? = some (.cells C 123 fr))
    (hz : Below w0.heap.size w0 wz) (ox : OwnStrs wz w.heap.size (.slice Ax nx cx) sx) (oy : OwnStrs wz w.heap.size (.slice By ny cy) sy) (hg : (wz.alloc o).grownBy w5 u5.ownBlock) (hown5 : Owns ChgE w5 w.heap.size v5 (rs ++ [(z, (Ax, nx, cx), (By, ny, cy))])) :
    Owns ChgE w5 w.heap.size v5 (rs ++ [(z, (Ax, nx, cx), (By, ny, cy))]) ∧ ChgsOf w5 w.heap.size (rs ++ [(z, (Ax, nx, cx), (By, ny, cy))]) (cs ++ [(z, sx, sy)]) ∧ Owns PairE w5 w.heap.size vq q ∧ Below w.heap.size w w5 ∧ w5.heap[P]? = some (.cells C 123 fr) := by
  have hO' : Owns ChgE (wz.alloc o) w.heap.size u5 rs := (hO.below_ hz).alloc _
  have f : ∀ v l, OwnStrs wz w.heap.size v l → OwnStrs w5 w.heap.size v l := fun v l h => Owns.beside (World.ownsRow.alloc h _) hO' (by decide) hg
  have hPl : P < w0.heap.size := (Array.getElem?_eq_some_iff.1 hblk).1
  have hPz : P < wz.heap.size := Nat.lt_of_lt_of_le hPl hz.size
  have hbz : Below w.heap.size w (wz.alloc o) := (hb0.trans (hz.mono hb0.size)).alloc (Nat.le_trans hb0.size hz.size) _
  refine ⟨hown5, ((hC.below hz).map f).snoc ⟨rfl, f _ _ ox, f _ _ oy⟩, Owns.beside ((hQ.below_ hz).alloc _) hO' (by decide) hg, hbz.grown hg hbz.size (fun r hr => (hO.lt r hr).1), ?_⟩
  refine (hg.block P (by simp; omega) (fun e => ?_)).trans ((Below.heap_alloc wz o P hPz).trans ((hz.block P hPl).trans hblk))
  exact hO.ne_block hblk (by decide) e.symm
theorem build_chg (z : Int) (A B : Option Addr) (n c m d : Nat) (wx : World) : (Instr.build 55 #[(0, .int .i64 z), (1, .slice A n c), (2, .slice B m d)]).run Tryz.prog wx = .ok (.agg #[.int .i64 z, .slice A n c, .slice B m d]) wx := by kernel_rfl
theorem slice_chg (z : Int) (A B : Option Addr) (n c m d : Nat) (wx : World) : (Instr.buildSlice 50 1 #[(0, .agg #[.int .i64 z, .slice A n c, .slice B m d])]).run Tryz.prog wx = .ok (.slice (some ⟨wx.heap.size, 0, none⟩) 1 1) (wx.alloc (.cells #[.int .i64 z, .slice A n c, .slice B m d] 55)) := by kernel_rfl
def ChangesPost (w : World) (x y : List (List UInt8)) (e : Ending) (w' : World) : Prop :=
  ∃ (v : Value) (rs : List RawC) (l : List (Nat × Nat)) (i j : Nat), e = .returned v ∧ Owns ChgE w' w.heap.size v rs ∧ ChgsOf w' w.heap.size rs ((chgs x y 0 0 (l ++ [(x.length, y.length)])).map castC) ∧ GoodTo x y 0 0 l i j ∧ i ≤ x.length ∧ j ≤ y.length ∧ l.length = lcs x y ∧ Below w.heap.size w w'

end Go.Proofs.YtmaimojpjepmjaaGreatDoor
