
/-
  LeastOf leaves some of the names, in their order.
-/
import Derived.Test.YtiegbbngfojjoaaGreatDoorPart
import Derived.Sort.OwnSorted
namespace Go.Proofs.YtiegbbngfojjoaaGreatDoor
open Go.RowKit Go.Sort Go.Shelf Go.Lib
attribute [local go_sem ↓] Go.wp_at_zero Go.wp_at_succ

theorem grow_nil (W : World) : grow W #[] = W := by
  cases W; simp [grow]
theorem Owns.shrink {w : World} {base n c : Nat} {A : Option Addr} {l : List (List UInt8)} (h : OwnStrs w base (.slice A n c) l) (k : Nat) (hk : k ≤ l.length) : OwnStrs w base (.slice A k c) (l.take k) := by
  have hl : (l.take k).length = k := by simp; omega
  refine ⟨by rw [strE_cells]; simp [StrE], ?_⟩
  rcases h.2 with ⟨e, hn⟩ | ⟨g, cap, cur, e, hbase, hb, h1, h2, h3, h4⟩
  · cases e
    left
    have : k = 0 := by omega
    subst this
    exact ⟨rfl, by simp⟩
  · simp only [Value.slice.injEq] at e
    obtain ⟨rfl, hn, rfl⟩ := e
    refine .inr ⟨g, c, cur, by rw [hl], hbase, hb, by rw [hl]; omega, h2, h3, ?_⟩
    rw [hl]
    have e1 : k * StrE.size = k := Nat.mul_one k
    have e2 : l.length * StrE.size = l.length := Nat.mul_one _
    rw [e2] at h4
    rw [e1]
    have h5 := congrArg (List.take k) h4
    rw [List.take_take, Nat.min_eq_left hk] at h5
    rw [h5, strE_cells, strE_cells, List.map_take, List.map_take]
def DelPost (w : World) (base : Nat) (l : List (List UInt8)) (i : Nat) (e : Ending) (w' : World) : Prop := ∃ v, e = .returned v ∧ OwnStrs w' base v (l.eraseIdx i) ∧ ∃ G, w.grownBy w' (some G) ∧ base ≤ G
theorem delete_one (base c i : Nat) (A : Option Addr) (l : List (List UInt8)) (w : World) (h : OwnStrs w base (.slice A l.length c) l) (hi : i < l.length) :
    Calls Tryz.prog 71 #[.slice A l.length c, .int .i64 (i : Int), .int .i64 ((i + 1 : Nat) : Int)] w (DelPost w base l i) := by
  rcases h.2 with ⟨e, hn⟩ | ⟨g, cap, cur, e, hbase, hb, h1, h2, h3, h4⟩
  · omega
  · simp only [Value.slice.injEq] at e
    obtain ⟨rfl, hn, rfl⟩ := e
    have e2 : l.length * StrE.size = l.length := Nat.mul_one _
    rw [e2] at h4
    have hc : StrE.cells l = l.map encStr := by rw [strE_cells, List.map_map]; rfl
    rw [hc] at h4
    have hH : Holds encStr w g 0 l.toArray := holds_of_block hb h4
    have hm : c ≤ 9223372036854775807 := Nat.le_trans h2 (by simp [maxLen])
    refine (Tryz.slices_Delete_string g 0 c i (i + 1) l w hH h1 hm (by omega) (by omega)).mono ?_
    rintro e w' ⟨rfl, q, rfl⟩
    have hlen : (l.take i ++ l.drop (i + 1) ++ List.replicate (i + 1 - i) []).length = l.length := by simp; omega
    have hg : w.grownBy (putRow encStr (Sort.ahead w q) g 0 (l.take i ++ l.drop (i + 1) ++ List.replicate (i + 1 - i) []).toArray) (some g) := by
      have k := grownBy_sorted (w := w) (g := g) (n := q) (os := #[]) (l.take i ++ l.drop (i + 1) ++ List.replicate (i + 1 - i) []).toArray
      rw [grow_nil] at k
      exact k
    have ho := ownsRow_sorted (n := q) (os := #[]) (ss := l) (ts := l.take i ++ l.drop (i + 1) ++ List.replicate (i + 1 - i) []) hlen hbase hb h1 h2 h3
    rw [grow_nil] at ho
    refine ⟨_, rfl, ?_, g, hg, hbase⟩
    have ho2 : OwnStrs (putRow encStr (Sort.ahead w q) g 0 (l.take i ++ l.drop (i + 1) ++ List.replicate (i + 1 - i) []).toArray) base (.slice (some ⟨g, 0, none⟩) l.length c) (l.take i ++ l.drop (i + 1) ++ List.replicate (i + 1 - i) []) := by
      unfold OwnStrs Owns
      rw [strE_cells, List.map_map, hlen]
      exact ho
    have k := Owns.shrink ho2 (l.length - 1) (by omega)
    have e3 : (l.take i ++ l.drop (i + 1) ++ List.replicate (i + 1 - i) []).take (l.length - 1) = l.eraseIdx i := by
      rw [List.eraseIdx_eq_take_drop_succ, List.take_append_of_le_length (by simp; omega), List.take_of_length_le (by simp; omega)]
    rw [e3] at k
    have e4 : l.length - (i + 1 - i) = l.length - 1 := by omega
    rw [e4]
    exact k
end Go.Proofs.YtiegbbngfojjoaaGreatDoor
