
/-
  Order makes some order of the numbers below n.
-/
import Derived.Test.YtccllmkijnmooaaGreatDoorElems
import Derived.RegionTactic
namespace Go.Proofs.YtccllmkijnmooaaGreatDoor
open Go.RowKit

def IntE : Elem Int := ⟨3, 22, 1, 8, .int .i64 0, fun z => [.int .i64 z]⟩
theorem intE_ok : IntE.Ok := ⟨fun _ => rfl, fun x u hu => by simp [IntE] at hu; subst hu; rfl, by decide, by decide, by kernel_rfl, by kernel_rfl, Tryz.underlying22⟩
theorem intE_cells (l : List Int) : IntE.cells l = l.map (Value.int .i64) := by
  induction l with
  | nil => rfl
  | cons x l ih => simp only [Elem.cells, List.flatMap_cons, List.map_cons] at *; rw [ih]; rfl
theorem Owns.ints {w : World} {base : Nat} {v : Value} {l : List Int} (h : Owns IntE w base v l) (h0 : 0 < l.length) : ∃ G c, v = .slice (some ⟨G, 0, none⟩) l.length c ∧ base ≤ G ∧ G < w.heap.size ∧ ∀ k, k < l.length → w.cell? ⟨G, k, none⟩ = some (.int .i64 (l.getD k 0)) ∧ w.frozen? ⟨G, k, none⟩ = false := by
  rcases h.2 with ⟨rfl, hn⟩ | ⟨g, cap, cur, rfl, hbase, hb, h1, h2, h3, h4⟩
  · omega
  · refine ⟨g, cap, rfl, hbase, (Array.getElem?_eq_some_iff.1 hb).1, fun k hk => ⟨?_, by simp [World.frozen?, hb]⟩⟩
    rw [cell_of_row w g k _ _ _ hb]
    have h5 := congrArg (fun x => x[k]?) h4
    rw [show l.length * IntE.size = l.length from Nat.mul_one _, intE_cells] at h5
    simp only [List.getElem?_take_of_lt hk, List.getElem?_map, List.getElem?_eq_getElem hk, Option.map_some] at h5
    rw [← Array.getElem?_toList, h5]
    simp [hk]
theorem Owns.setInt {w : World} {base G c n : Nat} {l : List Int} (h : Owns IntE w base (.slice (some ⟨G, 0, none⟩) n c) l) (k : Nat) (z : Int) : Owns IntE (w.setCell ⟨G, k, none⟩ (.int .i64 z)) base (.slice (some ⟨G, 0, none⟩) n c) (l.set k z) := by
  have hl := h.1
  refine ⟨by rw [Elem.cells_length intE_ok], ?_⟩
  rcases h.2 with ⟨h0, _⟩ | ⟨g, cap, cur, he, hbase, hb, h1, h2, h3, h4⟩
  · cases h0
  · simp only [Value.slice.injEq, Option.some.injEq, Addr.mk.injEq] at he
    obtain ⟨⟨rfl, _⟩, hn, rfl⟩ := he
    refine .inr ⟨G, c, cur.setIfInBounds k (.int .i64 z), by rw [List.length_set, ← hn], hbase, by simp [World.setCell, Array.getElem?_modify, hb], by rw [List.length_set]; exact h1, h2, by simpa using h3, ?_⟩
    rw [List.length_set, show l.length * IntE.size = l.length from Nat.mul_one _] at *
    rw [intE_cells] at h4 ⊢
    rw [Array.toList_setIfInBounds, List.take_set, h4, List.map_set]

def OrderPost (w : World) (g : Nat) (A : Option Addr) (n c K m : Nat) (e : Ending) (w' : World) : Prop :=
  ∃ (v : Value) (l : List Int), e = .returned v ∧ Owns IntE w' w.heap.size v l ∧ l.Perm ((List.range m).map Int.ofNat) ∧ StreamAt w' g A n c (K + m) ∧ w.grownBy w' (some g)

set_option maxHeartbeats 3200000 in
set_option maxRecDepth 100000 in
theorem order_any (g : Nat) (A : Option Addr) (n c K m : Nat) (w : World) (hs : StreamAt w g A n c K) (hK : K ≤ 100000) (hm : m ≤ 1000) :
    Calls Tryz.prog 7 #[.pointer (some ⟨g, 0, none⟩), .int .i64 m] w (OrderPost w g A n c K m) := by
  have hgw := hs.lt
  go_enter Tryz.func7, Tryz.ntmps7
  go_wp2_with fail
  go_loopg [5, 10] m (fun gk v i wr => ∃ k : Nat, Hid (k + gk = m) ∧ i = .int .i64 k ∧ Owns IntE wr w.heap.size v ((List.range k).map Int.ofNat) ∧ Below w.heap.size w wr)
  case atStart => exact ⟨0, show 0 + m = m by omega, rfl, Owns.nil _ _, Below.refl _ _⟩
  case round =>
    obtain ⟨k, HK, rfl, hown, hb⟩ := hrel
    have hkm : k ≤ m := by have := HK.out; omega
    have hzb := hb.size
    have HO := Lib.hid hown; clear hown
    by_cases hlt : k < m
    · have HR : Hid ((List.range (k + 1)).map Int.ofNat = (List.range k).map Int.ofNat ++ [(k : Int)]) := by show _ = _; rw [List.range_succ, List.map_append]; rfl
      go_wp2_with (at_builtin; refine append_elems intE_ok rfl _ _ rfl w.heap.size _ ((List.range k).map Int.ofNat) rfl (World.ownsRow.alloc HO.out _) (some ⟨wr.heap.size, 0, none⟩) 1 1 [(k : Int)] rfl (one_elem (E := IntE) wr (k : Int)) (by simp; omega) (by simp; omega) ?_; intro v4 w4 hown4 hgrow4 _)
      have hb4 : Below w.heap.size w w4 := (hb.alloc hb.size _).grown hgrow4 (by simp; omega) (fun i hi => (HO.out.lt i hi).1)
      have HO4 := Lib.hid hown4; clear hown4
      go_wp2_with fail
      go_roundg (gk - 1)
      case measure => have := HK.out; omega
      case rel => exact ⟨k + 1, show k + 1 + (gk - 1) = m by have := HK.out; omega, by go_num, by rw [HR.out]; exact HO4.out, hb4⟩
    · have hke : k = m := by omega
      rw [hke] at HO
      clear hke
      have hgr : w.grownBy wr (some g) := below_grown hb _
      have hsr := hs.below hb
      obtain ⟨wo, rfl⟩ : ∃ wo : World, wo = wr := ⟨_, rfl⟩
      obtain ⟨ko, rfl⟩ : ∃ ko : Nat, ko = gk := ⟨_, rfl⟩
      go_wp2_with fail
      go_loopg [7] m (fun gk v7 wr => ∃ (p : Nat) (z : Int) (l : List Int), p ≤ gk ∧ p ≤ m ∧ v7 = .int .i64 z ∧ z + 1 = p ∧ Owns IntE wr w.heap.size u5 l ∧ Hid (l.Perm ((List.range m).map Int.ofNat)) ∧ StreamAt wr g A n c (K + (m - p)) ∧ w.grownBy wr (some g))
      case atStart => exact ⟨m, (m : Int) - 1, _, Nat.le_refl _, Nat.le_refl _, rfl, by omega, HO.out, List.Perm.refl _, hsr.more (by omega), hgr⟩
      case round =>
        obtain ⟨p, z, l, hpg, hpm, rfl, hzp, hownl, HP, hsl, hgl⟩ := hrel
        have HPG := Lib.hid hpg; clear hpg
        have hlen : l.length = m := by have := HP.out.length_eq; simpa using this
        by_cases hz0 : 0 < z
        · obtain ⟨i, rfl⟩ := Int.eq_ofNat_of_zero_le (show 0 ≤ z by omega)
          obtain rfl : p = i + 1 := by omega
          clear hzp
          have HLEN := Lib.hid hlen; clear hlen
          have HOL := Lib.hid hownl; clear hownl
          go_wp2_with fail
          refine (next_any g A n c (K + (m - (i + 1))) ((i : Int) + 1) wr hsl (by omega) (by omega)).mono ?_
          rintro e w2 ⟨r, rfl, hr0, hr1, hs2, hg2⟩
          have hr1 := hr1 (by omega)
          obtain ⟨k2, rfl⟩ := Int.eq_ofNat_of_zero_le hr0
          have hown2 : Owns IntE w2 w.heap.size u5 l := HOL.out.kept_ hg2 (fun q hq => by cases hq; exact hgw)
          have hgl2 : w.grownBy w2 (some g) := grown_trans hgl hg2
          obtain ⟨G, cc, rfl, hGb, hGl, hGc⟩ := hown2.ints (by have := HLEN.out; omega)
          have ci := hGc i (by have := HLEN.out; omega)
          have ck := hGc k2 (by have := HLEN.out; omega)
          have HSW : Hid (((l.set i (l.getD k2 0)).set k2 (l.getD i 0)).Perm ((List.range m).map Int.ofNat)) := by
            have h1 : i < l.length := by have := HLEN.out; omega
            have h2 : k2 < l.length := by have := HLEN.out; omega
            have h3 : ((l.set i (l.getD k2 0)).set k2 (l.getD i 0)).Perm l := by
              simp only [List.getD_eq_getElem?_getD, List.getElem?_eq_getElem h1, List.getElem?_eq_getElem h2, Option.getD_some]
              exact List.set_set_perm h1 h2
            exact h3.trans HP.out
          generalize hzi : l.getD i 0 = zi at *
          generalize hzk : l.getD k2 0 = zk at *
          clear hzi hzk hGc
          obtain ⟨ci1, ci2⟩ := ci
          obtain ⟨ck1, ck2⟩ := ck
          have HO2 := Lib.hid hown2; clear hown2
          have b1 : (i : Int) < (l.length : Int) := by have := HLEN.out; omega
          have b2 : (k2 : Int) < (l.length : Int) := by have := HLEN.out; omega
          have hfin : ∀ q, Owns IntE (((w2.setCell ⟨G, i, none⟩ (.int .i64 zk)).setCell ⟨G, k2, none⟩ (.int .i64 zi)).drewN q) w.heap.size (.slice (some ⟨G, 0, none⟩) l.length cc) ((l.set i zk).set k2 zi) ∧ StreamAt (((w2.setCell ⟨G, i, none⟩ (.int .i64 zk)).setCell ⟨G, k2, none⟩ (.int .i64 zi)).drewN q) g A n c (K + (m - (i + 1)) + 1) ∧ w.grownBy (((w2.setCell ⟨G, i, none⟩ (.int .i64 zk)).setCell ⟨G, k2, none⟩ (.int .i64 zi)).drewN q) (some g) := fun q => by
            have hgg : w2.grownBy ((w2.setCell ⟨G, i, none⟩ (.int .i64 zk)).setCell ⟨G, k2, none⟩ (.int .i64 zi)) (some G) := grown_trans (grown_setCell _ _ _ _) (grown_setCell _ _ _ _)
            exact ⟨(HO2.out.setInt i zk).setInt k2 zi, (hs2.row_ hgg (fun q hq => by cases hq; omega)).keep fun _ _ => rfl, grown_drewN (grown_row hgl2 hgg (fun q hq => by cases hq; omega)) q⟩
          have HFIN := Lib.hid hfin; clear hfin
          by_cases hik : k2 = i
          · subst hik
            obtain rfl : zi = zk := by rw [ci1] at ck1; cases ck1; rfl
            clear ck1 ck2
            go_wp2_with fail
            go_region
            go_wp2_with fail
            go_roundg (gk - 1)
            case measure => have := HPG.out; omega
            case rel => exact ⟨k2, (k2 : Int) - 1, _, by have := HPG.out; omega, by omega, rfl, by omega, (HFIN.out 1).1, HSW.out, (HFIN.out 1).2.1.more (by omega), (HFIN.out 1).2.2⟩
          · have hik' : i ≠ k2 := fun e => hik e.symm
            go_wp2_with fail
            go_region
            go_wp2_with fail
            go_roundg (gk - 1)
            case measure => have := HPG.out; omega
            case rel => exact ⟨i, (i : Int) - 1, _, by have := HPG.out; omega, by omega, rfl, by omega, (HFIN.out 1).1, HSW.out, (HFIN.out 1).2.1.more (by omega), (HFIN.out 1).2.2⟩
        · go_wp2_with fail
          go_ret
          exact ⟨_, l, rfl, hownl, HP.out, hsl.more (by omega), hgl⟩

end Go.Proofs.YtccllmkijnmooaaGreatDoor
