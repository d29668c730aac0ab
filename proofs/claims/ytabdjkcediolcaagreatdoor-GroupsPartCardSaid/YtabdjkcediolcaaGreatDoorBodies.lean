
/-
  Bodies makes a few documents: not many and none of the id zz, or documents of too many bytes together.
-/
import Derived.Test.YtabdjkcediolcaaGreatDoorOrder
import Derived.Test.YtabdjkcediolcaaGreatDoorOwnSet
import Derived.Test.YtabdjkcediolcaaGreatDoorProse
import Derived.Test.YtabdjkcediolcaaGreatDoorShelf
import Derived.Test.YtabdjkcediolcaaGreatDoorFaultPlain
namespace Go.Proofs.YtabdjkcediolcaaGreatDoor
open Go.RowKit

def BodyE : Elem (ByteArray × ByteArray) := ⟨30, 26, 2, 32, .agg #[.string ⟨#[]⟩, .string ⟨#[]⟩], fun x => [.string x.1, .string x.2]⟩
theorem bodyE_ok : BodyE.Ok := ⟨fun _ => rfl, fun x u hu => by simp [BodyE] at hu; rcases hu with rfl | rfl <;> rfl, by decide, by decide, by kernel_rfl, by kernel_rfl, Tryz.underlying26⟩

def zz : ByteArray := ⟨#[122, 122]⟩
def TextOk (x : Body2) : Prop := x.2.size ≤ 20001 ∧ x.1.size ≤ 10
def BodiesSay (most : Nat) (l : List (ByteArray × ByteArray)) : Prop :=
  l.length ≤ most + 26 ∧ (∀ x ∈ l, TextOk x) ∧ ((l.length ≤ most ∧ ∀ x ∈ l, x.1 ≠ zz) ∨ 500000 < totB l)
def BodiesPost (w : World) (g : Nat) (A : Option Addr) (n c K most : Nat) (e : Ending) (w' : World) : Prop :=
  ∃ (v : Value) (l : List (ByteArray × ByteArray)), e = .returned v ∧ Owns BodyE w' w.heap.size v l ∧ BodiesSay most l ∧ StreamAt w' g A n c (K + 100 + 100 * most) ∧ w.grownBy w' (some g)

theorem id_le (b : ByteArray) (x : Int) (hb : b.size = 1) : (b ++ Utf8.encode x).size ≤ 10 := by have := encode_size_le x; rw [ByteArray.size_append]; omega
theorem b_ne (x : Int) : (⟨#[98]⟩ ++ Utf8.encode x : ByteArray) ≠ zz := by
  intro h
  have := congrArg (fun b : ByteArray => b.data.toList.head?) h
  simp [zz] at this

theorem two_set1 {w : World} {P : Nat} {a b : Value} {t : TypeId} {fr : Nat × Nat} (h : w.heap[P]? = some (.cells #[a, b] t fr)) (v : Value) : (w.setCell ⟨P, 1, none⟩ v).heap[P]? = some (.cells #[a, v] t fr) := by
  simp [World.setCell, Array.getElem?_modify, h]
theorem two_set0 {w : World} {P : Nat} {a b : Value} {t : TypeId} {fr : Nat × Nat} (h : w.heap[P]? = some (.cells #[a, b] t fr)) (v : Value) : (w.setCell ⟨P, 0, none⟩ v).heap[P]? = some (.cells #[v, b] t fr) := by
  simp [World.setCell, Array.getElem?_modify, h]
theorem two_cell {w : World} {P : Nat} {a b : Value} {t : TypeId} (h : w.heap[P]? = some (.cells #[a, b] t (0, 0))) : w.cell? ⟨P, 0, none⟩ = some a ∧ w.cell? ⟨P, 1, none⟩ = some b ∧ w.frozen? ⟨P, 0, none⟩ = false ∧ w.frozen? ⟨P, 1, none⟩ = false := by
  refine ⟨by rw [cell_of_row w P 0 _ _ _ h]; rfl, by rw [cell_of_row w P 1 _ _ _ h]; rfl, by simp [World.frozen?, h], by simp [World.frozen?, h]⟩
theorem grown_set {a w : World} {g P : Nat} {o : Nat} (h : a.grownBy w (some g)) (hP : a.heap.size ≤ P) (v : Value) : a.grownBy (w.setCell ⟨P, o, none⟩ v) (some g) := grown_row h (grown_setCell w P o v) (fun i hi => by cases hi; exact hP)

theorem Owns.cell0 {w : World} {base G c : Nat} {l : List Body2} (h : Owns BodyE w base (.slice (some ⟨G, 0, none⟩) l.length c) l) (j : Nat) (x : Body2) (hx : l[j]? = some x) : w.cell? ⟨G, j * 2, none⟩ = some (.string x.1) ∧ w.frozen? ⟨G, j * 2, none⟩ = false := by
  obtain ⟨G', c', he, _, _, hc⟩ := h.where_ bodyE_ok (by have := (List.getElem?_eq_some_iff.1 hx).1; omega)
  simp only [Value.slice.injEq, Option.some.injEq, Addr.mk.injEq] at he
  obtain ⟨⟨rfl, _⟩, _, rfl⟩ := he
  exact hc j x 0 _ hx rfl
theorem Owns.cell1 {w : World} {base G c : Nat} {l : List Body2} (h : Owns BodyE w base (.slice (some ⟨G, 0, none⟩) l.length c) l) (j : Nat) (x : Body2) (hx : l[j]? = some x) : w.cell? ⟨G, j * 2 + 1, none⟩ = some (.string x.2) ∧ w.frozen? ⟨G, j * 2 + 1, none⟩ = false := by
  obtain ⟨G', c', he, _, _, hc⟩ := h.where_ bodyE_ok (by have := (List.getElem?_eq_some_iff.1 hx).1; omega)
  simp only [Value.slice.injEq, Option.some.injEq, Addr.mk.injEq] at he
  obtain ⟨⟨rfl, _⟩, _, rfl⟩ := he
  exact hc j x 1 _ hx rfl
theorem Owns.set0 {w : World} {base G c n : Nat} {l : List Body2} (h : Owns BodyE w base (.slice (some ⟨G, 0, none⟩) n c) l) (j : Nat) (x : Body2) (r : ByteArray) (hx : l[j]? = some x) : Owns BodyE (w.setCell ⟨G, j * 2, none⟩ (.string r)) base (.slice (some ⟨G, 0, none⟩) n c) (l.set j (r, x.2)) := h.set_ bodyE_ok j x (r, x.2) 0 (.string r) hx (by decide) rfl
theorem Owns.set1 {w : World} {base G c n : Nat} {l : List Body2} (h : Owns BodyE w base (.slice (some ⟨G, 0, none⟩) n c) l) (j : Nat) (x : Body2) (r : ByteArray) (hx : l[j]? = some x) : Owns BodyE (w.setCell ⟨G, j * 2 + 1, none⟩ (.string r)) base (.slice (some ⟨G, 0, none⟩) n c) (l.set j (x.1, r)) := h.set_ bodyE_ok j x (x.1, r) 1 (.string r) hx (by decide) rfl
theorem say_of {most : Nat} {l : List Body2} (h : l.length ≤ most ∧ ∀ y ∈ l, TextOk y ∧ y.1 ≠ zz) : BodiesSay most l := ⟨by omega, fun x hx => (h.2 x hx).1, .inl ⟨h.1, fun x hx => (h.2 x hx).2⟩⟩
theorem mem_set_or {α : Type} {l : List α} {j : Nat} {y z : α} (h : z ∈ l.set j y) : z = y ∨ z ∈ l := by
  rcases List.mem_or_eq_of_mem_set h with h | h
  · exact .inr h
  · exact .inl h
theorem say_set0 {most : Nat} {l : List Body2} {j : Nat} {x : Body2} {r : ByteArray} (h : l.length ≤ most ∧ ∀ y ∈ l, TextOk y ∧ y.1 ≠ zz) (hx : l[j]? = some x) (hr : r ∈ [(⟨#[]⟩ : ByteArray), ⟨#[98, 97]⟩, ⟨#[66]⟩]) : BodiesSay most (l.set j (r, x.2)) := by
  have hz : r ≠ zz := by
    simp only [List.mem_cons, List.not_mem_nil, or_false] at hr
    intro e
    subst e
    rcases hr with h | h | h <;> (have h2 := congrArg (fun b : ByteArray => b.data.toList) h; simp [zz] at h2)
  have hrl : r.size ≤ 10 := by
    simp only [List.mem_cons, List.not_mem_nil, or_false] at hr
    rcases hr with rfl | rfl | rfl <;> decide
  have hm := List.mem_of_getElem? hx
  refine ⟨by rw [List.length_set]; omega, fun y hy => ?_, .inl ⟨by rw [List.length_set]; exact h.1, fun y hy => ?_⟩⟩
  · rcases mem_set_or hy with rfl | hy
    · exact ⟨(h.2 x hm).1.1, hrl⟩
    · exact (h.2 y hy).1
  · rcases mem_set_or hy with rfl | hy
    · exact hz
    · exact (h.2 y hy).2
theorem say_set1 {most : Nat} {l : List Body2} {j : Nat} {x : Body2} {r : ByteArray} (h : l.length ≤ most ∧ ∀ y ∈ l, TextOk y ∧ y.1 ≠ zz) (hx : l[j]? = some x) (hr : r.size ≤ 20001) : BodiesSay most (l.set j (x.1, r)) := by
  have hm := List.mem_of_getElem? hx
  refine ⟨by rw [List.length_set]; omega, fun y hy => ?_, .inl ⟨by rw [List.length_set]; exact h.1, fun y hy => ?_⟩⟩
  · rcases mem_set_or hy with rfl | hy
    · exact ⟨hr, (h.2 x hm).1.2⟩
    · exact (h.2 y hy).1
  · rcases mem_set_or hy with rfl | hy
    · exact (h.2 x hm).2
    · exact (h.2 y hy).2
theorem totB_all (l : List Body2) (m : Nat) (h : ∀ x ∈ l, x.2.size = m) : totB l = m * l.length := by
  induction l with
  | nil => simp [totB]
  | cons x l ih =>
    have h1 := ih (fun y hy => h y (List.mem_cons_of_mem _ hy))
    have h2 := h x List.mem_cons_self
    simp only [totB, List.map_cons, List.sum_cons, List.length_cons, Nat.mul_add, Nat.mul_one] at *
    omega
theorem say_26 {most : Nat} {l l2 : List Body2} (h : l.length ≤ most ∧ ∀ x ∈ l, TextOk x) (h2 : l2.length = 26) (h3 : ∀ x ∈ l2, x.2.size = 20000) (h4 : ∀ x ∈ l2, x.1.size ≤ 10) : BodiesSay most (l ++ l2) := by
  refine ⟨by rw [List.length_append]; omega, fun x hx => ?_, .inr ?_⟩
  · rcases List.mem_append.1 hx with hx | hx
    · exact h.2 x hx
    · exact ⟨by rw [h3 x hx]; omega, h4 x hx⟩
  · rw [totB_append, totB_all l2 20000 h3, h2]; omega
theorem rep_size (u : List UInt8) (z : Nat) : (⟨(Lib.repeatL u z).toArray⟩ : ByteArray).size = z * u.length := by
  have h := Lib.repeatL_length u z
  simp only [ByteArray.size, List.size_toArray]
  rw [h]

set_option maxHeartbeats 3200000 in
set_option maxRecDepth 100000 in
theorem bodies_any (g : Nat) (A : Option Addr) (n c K most : Nat) (w : World) (hs : StreamAt w g A n c K) (hK : K ≤ 10000) (hm : most ≤ 20) :
    Calls Tryz.prog 5 #[.pointer (some ⟨g, 0, none⟩), .int .i64 most] w (BodiesPost w g A n c K most) := by
  have hgw := hs.lt
  go_enter Tryz.func5, Tryz.ntmps5
  go_wp2_with fail
  refine (prose_any g A n c K 12 w hs (by omega) (by omega)).mono ?_
  rintro e w1 ⟨t, rfl, ht, hs1, hg1⟩
  go_wp2_with fail
  refine (next_any g A n c _ ((most : Int) + 1) w1 hs1 (by omega) (by omega)).mono ?_
  rintro e w2 ⟨N, rfl, h0, h1, hs2, hg2⟩
  have h1' := h1 (by omega)
  clear h1
  obtain ⟨N, rfl⟩ := Int.eq_ofNat_of_zero_le h0
  have hN : N ≤ most := by omega
  have hg2' : w.grownBy w2 (some g) := grown_trans hg1 hg2
  clear hs hs1 hg1 h0 h1' hg2
  go_wp2_with fail
  go_loopg [5, 17] N (fun gk v i wr => ∃ (k : Nat) (l : List (ByteArray × ByteArray)), Hid (k + gk = N) ∧ i = .int .i64 k ∧ Owns BodyE wr w.heap.size v l ∧ Hid (l.length = k) ∧ Hid (∀ x ∈ l, TextOk x ∧ x.1 ≠ zz) ∧ StreamAt wr g A n c (K + 26 + 40 * k) ∧ w.grownBy wr (some g))
  case atStart => exact ⟨0, [], show 0 + N = N by omega, rfl, Owns.nil _ _, show _ = _ from rfl, show ∀ _ _, _ from (fun _ h => by cases h), hs2.more (by omega), hg2'⟩
  case round =>
    obtain ⟨k, l, HK, rfl, hown, HLE, HAL, hsr, hgr⟩ := hrel
    have hkN : k ≤ N := by have := HK.out; omega
    have hzg := hgr.size
    have HO := Lib.hid hown; clear hown
    by_cases hlt : k < N
    · have e1 : IntKind.i32.wrap (97 + (k : Int)) = 97 + (k : Int) := IntWalk.i32_in _ (by omega)
      have HID : Hid ((⟨#[98]⟩ ++ Utf8.encode (97 + (k : Int)) : ByteArray).size ≤ 10 ∧ (⟨#[98]⟩ ++ Utf8.encode (97 + (k : Int)) : ByteArray) ≠ zz) := ⟨id_le _ _ rfl, b_ne _⟩
      have p1 : ∀ (wx : World), (Op.stringOp .add ⟨#[98]⟩ (Utf8.encode (97 + (k : Int)))).run Tryz.prog wx = .ok (.string (⟨#[98]⟩ ++ Utf8.encode (97 + (k : Int)))) wx := fun wx => run_string_add_sum wx _ _ (by have := encode_size_le (97 + (k : Int)); have : (⟨#[98]⟩ : ByteArray).size = 1 := rfl; omega)
      generalize (⟨#[98]⟩ ++ Utf8.encode (97 + (k : Int)) : ByteArray) = id1 at *
      go_wp2_with fail
      refine (flip_any g A n c (K + 26 + 40 * k) 3 _ (hsr.alloc _) (by omega) (by omega)).mono ?_
      rintro e w3 ⟨b3, rfl, hs3, hg3⟩
      have hrow : (wr.alloc (.cells #[.string id1, .string t] 30)).heap[wr.heap.size]? = some (.cells #[.string id1, .string t] 30 (0, 0)) := heap_alloc_new wr _
      have hrow3 := (hg3.block _ (Array.getElem?_eq_some_iff.1 hrow).1 (by simp; omega)).trans hrow
      have hg3' : wr.grownBy w3 (some g) := grown_trans (grown_alloc (World.grownBy.refl _ _) _) hg3
      clear hrow hg3 hsr
      generalize hP : wr.heap.size = P at *
      go_upto_if 29 with (fail)
      go_cut [] (fun wx => ∃ (tx : ByteArray), tx.size ≤ 200 ∧ wx.heap[P]? = some (.cells #[.string id1, .string tx] 30 (0, 0)) ∧ StreamAt wx g A n c (K + 26 + 40 * k + 7) ∧ wr.grownBy wx (some g))
      case first =>
        cases b3 with
        | false =>
          go_wp2_with fail
          refine (changed_any g A n c _ t ⟨#[97, 98, 99, 32, 120, 10]⟩ w3 hs3 (by omega) (by omega) (by decide) (by decide)).mono ?_
          rintro e w4 ⟨t4, rfl, ht4, hs4, hg4⟩
          have ht4' : t4.size ≤ 76 := by have : (⟨#[97, 98, 99, 32, 120, 10]⟩ : ByteArray).size = 6 := rfl; omega
          clear ht4
          go_wp2_with fail
          refine (changed_any g A n c _ t4 ⟨#[100, 101, 32]⟩ w4 hs4 (by omega) (by omega) (by decide) (by decide)).mono ?_
          rintro e w5 ⟨t5, rfl, ht5, hs5, hg5⟩
          have ht5' : t5.size ≤ 80 := by have : (⟨#[100, 101, 32]⟩ : ByteArray).size = 3 := rfl; omega
          clear ht5
          have hrow5 := ((grown_trans hg4 hg5).block _ (Array.getElem?_eq_some_iff.1 hrow3).1 (by simp; omega)).trans hrow3
          have HG5 := Lib.hid (grown_trans hg3' (grown_trans hg4 hg5))
          obtain ⟨c1, c2, c3, c4⟩ := two_cell hrow5
          have HR5 := Lib.hid hrow5
          clear hg4 hg5 hrow5 hs4
          go_wp2_with fail
          go_meet
          exact ⟨t5, by omega, two_set1 HR5.out _, (hs5.row_ (grown_setCell _ _ _ _) (fun q hq => by cases hq; omega)).more (by omega), grown_set HG5.out (by omega) _⟩
        | true =>
          go_wp2_with fail
          go_meet
          exact ⟨t, by omega, hrow3, hs3.more (by omega), hg3'⟩
      case rest =>
        obtain ⟨tx, htx, hrowx, hsx, hgx⟩ := hcut
        go_wp2_with fail
        refine (flip_any g A n c _ 4 _ hsx (by omega) (by omega)).mono ?_
        rintro e w4 ⟨b4, rfl, hs4, hg4⟩
        have hrow4 := (hg4.block _ (Array.getElem?_eq_some_iff.1 hrowx).1 (by simp; omega)).trans hrowx
        have hg4' := grown_trans hgx hg4
        clear hrowx hgx hg4 hsx hrow3 hg3' hs3
        go_upto_if 37 with (fail)
        go_cut [] (fun wx => ∃ (tx : ByteArray), tx.size ≤ 200 ∧ wx.heap[P]? = some (.cells #[.string id1, .string tx] 30 (0, 0)) ∧ StreamAt wx g A n c (K + 26 + 40 * k + 33) ∧ wr.grownBy wx (some g))
        case first =>
          cases b4 with
          | true =>
            go_wp2_with fail
            refine (prose_any g A n c _ 12 w4 hs4 (by omega) (by omega)).mono ?_
            rintro e w5 ⟨t5, rfl, ht5, hs5, hg5⟩
            have hrow5 := (hg5.block _ (Array.getElem?_eq_some_iff.1 hrow4).1 (by simp; omega)).trans hrow4
            have HG5 := Lib.hid (grown_trans hg4' hg5)
            obtain ⟨c1, c2, c3, c4⟩ := two_cell hrow5
            have HR5 := Lib.hid hrow5
            clear hg5 hrow5 hs4
            go_wp2_with fail
            go_meet
            exact ⟨t5, by omega, two_set1 HR5.out _, (hs5.row_ (grown_setCell _ _ _ _) (fun q hq => by cases hq; omega)).more (by omega), grown_set HG5.out (by omega) _⟩
          | false =>
            go_wp2_with fail
            go_meet
            exact ⟨tx, by omega, hrow4, hs4.more (by omega), hg4'⟩
        case rest =>
          obtain ⟨ty, hty, hrowy, hsy, hgy⟩ := hcut
          obtain ⟨c1, c2, c3, c4⟩ := two_cell hrowy
          have hzy := hgy.size
          have HOY : Hid (Owns BodyE wc w.heap.size u5 l) := HO.out.kept_ hgy (fun q hq => by cases hq; omega)
          have hll : l.length ≤ 20 := by have := HLE.out; omega
          clear hrow4 hs4 hg4'
          go_wp2_with (at_builtin; refine append_elems bodyE_ok rfl _ _ rfl w.heap.size _ l rfl (World.ownsRow.alloc HOY.out _) (some ⟨wc.heap.size, 0, none⟩) 1 1 [(id1, ty)] rfl (one_elem (E := BodyE) wc (id1, ty)) (by simp; omega) (by simp; omega) ?_; intro v6 w6 hown6 hgrow6 _)
          have hlt6 : ∀ i, u5.ownBlock = some i → w.heap.size ≤ i := fun i hi => (HOY.out.lt i hi).1
          have hg6 : w.grownBy w6 (some g) := grown_row (grown_alloc (grown_trans hgr hgy) _) hgrow6 hlt6
          have hs6 : StreamAt w6 g A n c (K + 26 + 40 * (k + 1)) := ((hsy.alloc _).row_ hgrow6 (fun i hi => by have := hlt6 i hi; omega)).more (by omega)
          have HO6 := Lib.hid hown6; clear hown6
          clear hgrow6 hlt6
          go_wp2_with fail
          go_roundg (gk - 1)
          case measure => have := HK.out; omega
          case rel =>
            refine ⟨k + 1, _, show k + 1 + (gk - 1) = N by have := HK.out; omega, by go_num, HO6.out, show _ = _ by rw [List.length_append, HLE.out]; rfl, show ∀ _ _, _ from fun x hx => ?_, hs6, hg6⟩
            rcases List.mem_append.1 hx with hx | hx
            · exact HAL.out x hx
            · rw [List.mem_singleton] at hx
              subst hx
              exact ⟨⟨by show ty.size ≤ 20001; omega, HID.out.1⟩, HID.out.2⟩
    · have HSAY : Hid (l.length ≤ most ∧ ∀ y ∈ l, TextOk y ∧ y.1 ≠ zz) := ⟨by have := HLE.out; omega, HAL.out⟩
      have hll : l.length ≤ 20 := by have := HLE.out; omega
      go_wp2_with fail
      refine (flip_any g A n c _ 12 _ hsr (by omega) (by omega)).mono ?_
      rintro e w3 ⟨b3, rfl, hs3, hg3⟩
      have HO3 : Hid (Owns BodyE w3 w.heap.size u5 l) := HO.out.kept_ hg3 (fun q hq => by cases hq; omega)
      have hg3' := grown_trans hgr hg3
      clear hg3 hgr hsr HO
      by_cases hlp : 0 < l.length
      · obtain ⟨G, cc, rfl, hbG, hGl, hcells⟩ := HO3.out.where_ bodyE_ok hlp
        cases b3 with
        | false =>
          go_wp2_with fail
          go_ret
          exact ⟨_, l, rfl, HO3.out, say_of HSAY.out, hs3.more (by omega), hg3'⟩
        | true =>
          go_wp2_with fail
          refine (next_any g A n c _ (l.length : Int) _ hs3 (by omega) (by omega)).mono ?_
          rintro e w4 ⟨j, rfl, hj0, hj1, hs4, hg4⟩
          have hj1' := hj1 (by omega)
          obtain ⟨j, rfl⟩ := Int.eq_ofNat_of_zero_le hj0
          clear hj1 hj0
          have HO4 : Hid (Owns BodyE w4 w.heap.size (.slice (some ⟨G, 0, none⟩) l.length cc) l) := HO3.out.kept_ hg4 (fun q hq => by cases hq; omega)
          have hg4' := grown_trans hg3' hg4
          clear hg4 hg3' HO3 hs3 hcells
          have hjl : j < l.length := by omega
          go_wp2_with fail
          refine (next_any g A n c _ 3 _ hs4 (by omega) (by omega)).mono ?_
          rintro e w5 ⟨r, rfl, hr0, hr1, hs5, hg5⟩
          have hr1' := hr1 (by omega)
          clear hr1
          have HO5 : Hid (Owns BodyE w5 w.heap.size (.slice (some ⟨G, 0, none⟩) l.length cc) l) := HO4.out.kept_ hg5 (fun q hq => by cases hq; omega)
          have hg5' := grown_trans hg4' hg5
          clear hg5 hg4' HO4 hs4
          obtain ⟨x, hx⟩ : ∃ x, l[j]? = some x := ⟨_, List.getElem?_eq_getElem hjl⟩
          have HX := Lib.hid hx; clear hx
          by_cases hra : r = 0
          · subst hra
            go_wp2_with fail
            refine (one_any g A n c _ [⟨#[]⟩, ⟨#[98, 97]⟩, ⟨#[66]⟩] w5.heap.size 3 3 _ (hs5.alloc _) (by omega) rfl (by omega) (by omega) (by have := hs5.lt; omega) (fun j hj => cells_strings w5 [⟨#[]⟩, ⟨#[98, 97]⟩, ⟨#[66]⟩] _ j hj)).mono ?_
            rintro e w6 ⟨r, rfl, hr, hs6, hg6⟩
            have hg6' : w5.grownBy w6 (some g) := grown_trans (grown_alloc (World.grownBy.refl _ _) _) hg6
            have HO6 : Hid (Owns BodyE w6 w.heap.size (.slice (some ⟨G, 0, none⟩) l.length cc) l) := HO5.out.kept_ hg6' (fun q hq => by cases hq; omega)
            have hcell := HO6.out.cell0 j x HX.out
            obtain ⟨hcell1, hcell2⟩ := hcell
            have HF := Lib.hid (say_set0 HSAY.out HX.out hr)
            have hg7 := grown_trans hg5' hg6'
            clear hg6 hg6' hr HO5 hs5 hg5'
            go_wp2_with fail
            go_ret
            exact ⟨_, _, rfl, HO6.out.set0 j x r HX.out, HF.out, (hs6.row_ (grown_setCell _ _ _ _) (fun q hq => by cases hq; omega)).more (by omega), grown_set hg7 hbG _⟩
          · by_cases hrb : r = 1
            · subst hrb
              go_wp2_with fail
              refine (pick_any g A n c _ [20000, 20001] w5.heap.size 2 2 _ (hs5.alloc _) (by omega) rfl (by omega) (by omega) (by have := hs5.lt; omega) (fun j hj => ?_)).mono ?_
              · rw [World.cell?_alloc_at _ _ _ _ rfl]
                match j, hj with
                | 0, _ => rfl
                | 1, _ => rfl
              rintro e w6 ⟨z, rfl, hz, hs6, hg6⟩
              have hg6' : w5.grownBy w6 (some g) := grown_trans (grown_alloc (World.grownBy.refl _ _) _) hg6
              have HO6 : Hid (Owns BodyE w6 w.heap.size (.slice (some ⟨G, 0, none⟩) l.length cc) l) := HO5.out.kept_ hg6' (fun q hq => by cases hq; omega)
              have hg7 := grown_trans hg5' hg6'
              have hzr : 20000 ≤ z ∧ z ≤ 20001 := by simp at hz; omega
              obtain ⟨z, rfl⟩ := Int.eq_ofNat_of_zero_le (show 0 ≤ z by omega)
              clear hg6 hg6' HO5 hs5 hg5' hz
              go_wp2_with fail
              refine (Tryz.strings_Repeat _ z _ (by omega) (by show 1 * z ≤ _; omega)).mono ?_
              rintro e w8 ⟨rfl, hb8⟩
              have HO8 : Hid (Owns BodyE w8 w.heap.size (.slice (some ⟨G, 0, none⟩) l.length cc) l) := HO6.out.below_ hb8
              obtain ⟨hcell1, hcell2⟩ := HO8.out.cell1 j x HX.out
              have hs8 := hs6.below hb8
              have hg8 := grown_below hg7 hb8
              have hrs := rep_size [116] z
              have HF := Lib.hid (say_set1 (r := ⟨(Lib.repeatL [116] z).toArray⟩) HSAY.out HX.out (by rw [hrs]; simp; omega))
              clear hb8 hg7 hs6 HO6 hrs
              go_wp2_with fail
              go_ret
              exact ⟨_, _, rfl, HO8.out.set1 j x _ HX.out, HF.out, (hs8.row_ (grown_setCell _ _ _ _) (fun q hq => by cases hq; omega)).more (by omega), grown_set hg8 hbG _⟩
            · have q0 : (r == 0) = false := by simpa using hra
              have q1 : (r == 1) = false := by simpa using hrb
              clear hra hrb
              obtain ⟨wo, rfl⟩ : ∃ wo : World, wo = wr := ⟨_, rfl⟩
              obtain ⟨ko, rfl⟩ : ∃ ko : Nat, ko = gk := ⟨_, rfl⟩
              have HB26 : Hid (l.length ≤ most ∧ ∀ x ∈ l, TextOk x) := ⟨by have := HLE.out; omega, fun x hx => (HAL.out x hx).1⟩
              clear HSAY HAL HLE
              go_wp2_with fail
              go_loopg [5, 61] 26 (fun gk v i wr => ∃ (k2 : Nat) (l2 : List Body2), Hid (k2 + gk = 26) ∧ i = .int .i64 k2 ∧ Owns BodyE wr w.heap.size v (l ++ l2) ∧ Hid (l2.length = k2) ∧ Hid (∀ x ∈ l2, x.2.size = 20000 ∧ x.1.size ≤ 10) ∧ StreamAt wr g A n c (K + 26 + 40 * k + 40) ∧ w.grownBy wr (some g))
              case atStart => exact ⟨0, [], show 0 + 26 = 26 by omega, rfl, by rw [List.append_nil]; exact HO5.out, show _ = _ from rfl, show ∀ _ _, _ from (fun _ h => by cases h), hs5.more (by omega), hg5'⟩
              case round =>
                obtain ⟨k2, l2, HK2, rfl, hown, HL2, HA2, hsr, hgr⟩ := hrel
                have hk26 : k2 ≤ 26 := by have := HK2.out; omega
                have hzr := hgr.size
                have HO2 := Lib.hid hown; clear hown
                clear HO5 hs5 hg5'
                by_cases hlt2 : k2 < 26
                · have e1 : IntKind.i32.wrap (97 + (k2 : Int)) = 97 + (k2 : Int) := IntWalk.i32_in _ (by omega)
                  have p1 : ∀ (wx : World), (Op.stringOp .add ⟨#[122]⟩ (Utf8.encode (97 + (k2 : Int)))).run Tryz.prog wx = .ok (.string (⟨#[122]⟩ ++ Utf8.encode (97 + (k2 : Int)))) wx := fun wx => run_string_add_sum wx _ _ (by have := encode_size_le (97 + (k2 : Int)); have : (⟨#[122]⟩ : ByteArray).size = 1 := rfl; omega)
                  have HI2 : Hid ((⟨#[122]⟩ ++ Utf8.encode (97 + (k2 : Int)) : ByteArray).size ≤ 10) := id_le _ _ rfl
                  generalize (⟨#[122]⟩ ++ Utf8.encode (97 + (k2 : Int)) : ByteArray) = id2 at *
                  go_wp2_with fail
                  refine (Tryz.strings_Repeat _ 20000 _ (by omega) (by decide)).mono ?_
                  rintro e w6 ⟨rfl, hb6⟩
                  have hrs := rep_size [119] 20000
                  generalize (⟨(Lib.repeatL [119] 20000).toArray⟩ : ByteArray) = big at *
                  have hrs' : big.size = 20000 := hrs
                  have HRS := Lib.hid hrs'
                  have HOY : Hid (Owns BodyE w6 w.heap.size u5 (l ++ l2)) := HO2.out.below_ hb6
                  have hsy := hsr.below hb6
                  have hgy := grown_below hgr hb6
                  have hzy := hgy.size
                  have hl2 : l2.length ≤ 26 := by have := HL2.out; omega
                  clear hrs hrs' hsr hgr hb6 HO2
                  go_wp2_with (at_builtin; refine append_elems bodyE_ok rfl _ _ rfl w.heap.size _ (l ++ l2) rfl (World.ownsRow.alloc HOY.out _) (some ⟨w6.heap.size, 0, none⟩) 1 1 [(id2, big)] rfl (one_elem (E := BodyE) w6 (id2, big)) (by rw [List.length_append]; simp; omega) (by simp; omega) ?_; intro v7 w7 hown7 hgrow7 _)
                  have hlt7 : ∀ i, u5.ownBlock = some i → w.heap.size ≤ i := fun i hi => (HOY.out.lt i hi).1
                  have hg7 : w.grownBy w7 (some g) := grown_row (grown_alloc hgy _) hgrow7 hlt7
                  have hs7 : StreamAt w7 g A n c (K + 26 + 40 * k + 40) := (hsy.alloc _).row_ hgrow7 (fun i hi => by have := hlt7 i hi; omega)
                  have HO7 := Lib.hid hown7; clear hown7
                  clear hgrow7 hlt7
                  go_wp2_with fail
                  go_roundg (gk - 1)
                  case measure => have := HK2.out; omega
                  case rel =>
                    refine ⟨k2 + 1, l2 ++ [(id2, big)], show k2 + 1 + (gk - 1) = 26 by have := HK2.out; omega, by go_num, by rw [← List.append_assoc]; exact HO7.out, show _ = _ by rw [List.length_append, HL2.out]; rfl, show ∀ _ _, _ from fun x hx => ?_, hs7, hg7⟩
                    rcases List.mem_append.1 hx with hx | hx
                    · exact HA2.out x hx
                    · rw [List.mem_singleton] at hx
                      subst hx
                      exact ⟨HRS.out, HI2.out⟩
                · have HF := Lib.hid (say_26 HB26.out (by have := HL2.out; omega) (fun x hx => (HA2.out x hx).1) (fun x hx => (HA2.out x hx).2))
                  go_wp2_with fail
                  go_ret
                  exact ⟨_, _, rfl, HO2.out, HF.out, hsr.more (by omega), hgr⟩
      · obtain ⟨G, cc, rfl, hcc, hat, hnew⟩ := HO3.out.at_ bodyE_ok
        obtain rfl : l = [] := List.eq_nil_of_length_eq_zero (by omega)
        clear hat hnew
        cases b3 with
        | false =>
          go_wp2_with fail
          go_ret
          exact ⟨_, _, rfl, HO3.out, say_of HSAY.out, hs3.more (by omega), hg3'⟩
        | true =>
          go_wp2_with fail
          go_ret
          exact ⟨_, _, rfl, HO3.out, say_of HSAY.out, hs3.more (by omega), hg3'⟩

end Go.Proofs.YtabdjkcediolcaaGreatDoor
