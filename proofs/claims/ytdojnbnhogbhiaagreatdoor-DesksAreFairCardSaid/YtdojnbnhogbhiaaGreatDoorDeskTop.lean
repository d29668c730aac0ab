
/-
  The state of a desk: a map of ids to numbers, and which ids it has.
  Desk.open: the ids of a family that are open.
  Desk.Left: the open ids of all families.
  A desk as it lies: its families, its states, its batches.
  What Take takes: plain facts. The map of the families that are left.
  What stays true of a desk: which ids are out, and in how many batches.
  spoil writes into one row of strings alone.
  What Take asks: is a reviewer's batch still out; is a moment a moment.
  Desk.Batches: copies of the batches.
  Desk.Take.
  Desk.Return.
  review.New at right items and no order.
  What is known of a new desk.
  DesksAreKept returns true.
-/
import Derived.Test.YtdojnbnhogbhiaaGreatDoorFamTop
import Derived.Deep.DrawnRows
import Derived.Test.YtdojnbnhogbhiaaGreatDoorKey
import Derived.Test.YtdojnbnhogbhiaaGreatDoorStrLib
import Derived.Deep.CutBlock
import Derived.StillTailTactics
import Derived.Deep.RegionLaw
import Derived.Test.YtdojnbnhogbhiaaGreatDoorSetMap
import Derived.Test.YtdojnbnhogbhiaaGreatDoorStands
import Derived.Test.YtdojnbnhogbhiaaGreatDoorStreamNew

namespace Go.Proofs.YtdojnbnhogbhiaaGreatDoor
open Go.RowKit Go.Maps

/-- Block M holds a number for each id of dom (a look at another one shows 0); m stores were made. -/
structure StAt (w : World) (M m : Nat) (st : (List UInt8) → Int) (dom : (List UInt8) → Bool) : Prop where
  ex : ∃ D : DataW Value, w.ownsMap Tryz.prog 9 heldE M m D ∧ (∀ id : (List UInt8), D.atKey (.string id) (.held (.int .i64 0)) = .held (.int .i64 (st id))) ∧ ∀ id : (List UInt8), has D (.string id) = dom id
theorem StAt.start (w : World) : StAt (w.alloc (.map #[] 0)) w.heap.size 0 (fun _ => 0) (fun _ => false) := ⟨⟨.map [], World.ownsMap_made w _ _ _, fun _ => rfl, fun _ => rfl⟩⟩
theorem StAt.kept {w w' : World} {M m : Nat} {st : (List UInt8) → Int} {dom : (List UInt8) → Bool} {row : Option Nat} (h : StAt w M m st dom) (hg : w.grownBy w' row) (hr : row ≠ some M) : StAt w' M m st dom := by
  obtain ⟨D, h1, h2⟩ := h.ex
  exact ⟨⟨D, h1.kept hg hr.symm, h2⟩⟩
theorem StAt.below {w w' : World} {M m : Nat} {st : (List UInt8) → Int} {dom : (List UInt8) → Bool} (h : StAt w M m st dom) (hb : Below w.heap.size w w') : StAt w' M m st dom := h.kept (below_grown hb none) (by simp)
theorem StAt.lt {w : World} {M m : Nat} {st : (List UInt8) → Int} {dom : (List UInt8) → Bool} (h : StAt w M m st dom) : M < w.heap.size := by
  obtain ⟨D, h1, _⟩ := h.ex
  exact h1.lt
theorem StAt.look {w : World} {M m : Nat} {st : (List UInt8) → Int} {dom : (List UInt8) → Bool} (h : StAt w M m st dom) (id : ByteArray) (hid : id.size ≤ 1000000) (q : Nat) :
    (Instr.lookup 63 (.map (some M)) (.string id) false).run Tryz.prog (w.drewN q) = .ok (.int .i64 (st id.data.toList)) (w.drewN q) := by
  obtain ⟨D, h1, h2, _⟩ := h.ex
  have hd : (w.drewN q).ownsMap Tryz.prog 9 heldE M m D := h1
  obtain ⟨v, ps, hrun, hv⟩ := hd.lookup keyS Tryz.underlying63 (z := .int .i64 0) (by kernel_rfl) (zd := .held (.int .i64 0)) (zp := []) rfl (keyS_mk id hid)
  rw [h2] at hv
  simp only [heldE, Option.some.injEq, Prod.mk.injEq, DataW.held.injEq] at hv
  rw [hv.1] at hrun
  exact hrun
theorem StAt.put {w w' : World} {M m : Nat} {st : (List UInt8) → Int} {dom : (List UInt8) → Bool} {D : DataW Value} (x : (List UInt8)) (z : Int) (h1 : w.ownsMap Tryz.prog 9 heldE M m D) (h2 : ∀ id : (List UInt8), D.atKey (.string id) (.held (.int .i64 0)) = .held (.int .i64 (st id))) (h3 : ∀ id : (List UInt8), has D (.string id) = dom id)
    (hm : w'.ownsMap Tryz.prog 9 heldE M (m + 1) (D.put (.string x) (.held (.int .i64 z)))) : StAt w' M (m + 1) (fun id => if id = x then z else st id) (fun id => decide (id = x) || dom id) := by
  refine ⟨⟨_, hm, fun id => ?_, fun id => ?_⟩⟩
  · by_cases e : id = x
    · subst e
      rw [atKey_put_same h1.isMap (str_key _)]
      simp
    · rw [atKey_put_other (str_neI e), h2]
      simp [e]
  · by_cases e : id = x
    · subst e
      rw [has_put_same h1.isMap (str_key _)]
      simp
    · rw [has_put_other (str_neI e), h3]
      simp [e]
theorem StAt.congr {w : World} {M m : Nat} {st st' : (List UInt8) → Int} {dom dom' : (List UInt8) → Bool} (h : StAt w M m st dom) (h1 : ∀ x, st' x = st x) (h2 : ∀ x, dom' x = dom x) : StAt w M m st' dom' := by
  obtain rfl : st' = st := funext h1
  obtain rfl : dom' = dom := funext h2
  exact h
end Go.Proofs.YtdojnbnhogbhiaaGreatDoor

namespace Go.Proofs.YtdojnbnhogbhiaaGreatDoor
open Go.RowKit Go.Maps
attribute [local go_sem ↓] Go.wp_at_zero Go.wp_at_succ

theorem filt_succO (f : (List UInt8) → Bool) (l : List (List UInt8)) (k : Nat) (h : k < l.length) : (l.take (k + 1)).filter f = (l.take k).filter f ++ (if f (l.getD k []) = true then [l.getD k []] else []) := by
  rw [List.take_succ_eq_append_getElem h, List.filter_append]
  have e : l.getD k [] = l[k] := by simp [h]
  rw [e]
  cases hf : f l[k] <;> simp [hf]
def openL (st : (List UInt8) → Int) (l : List (List UInt8)) : List (List UInt8) := l.filter fun x => decide (st x = 0)
theorem openL_succ (st : (List UInt8) → Int) (l : List (List UInt8)) (k : Nat) (h : k < l.length) : openL st (l.take (k + 1)) = openL st (l.take k) ++ (if st (l.getD k []) = 0 then [l.getD k []] else []) := by
  unfold openL
  rw [filt_succO _ _ _ h]
  simp
theorem openL_le (st : (List UInt8) → Int) (l : List (List UInt8)) : (openL st l).length ≤ l.length := List.length_filter_le _ _
def OpenPost (w : World) (st : (List UInt8) → Int) (l : List (List UInt8)) (e : Ending) (w' : World) : Prop := ∃ v, e = .returned v ∧ OwnStrs w' w.heap.size v (openL st l) ∧ Below w.heap.size w w'
set_option maxHeartbeats 1600000 in
set_option maxRecDepth 100000 in
theorem open_any (g M m : Nat) (st : (List UInt8) → Int) (dom : (List UInt8) → Bool) (top : ByteArray) (A : Option Addr) (n c : Nat) (l : List (List UInt8)) (w : World) (hc : w.cell? ⟨g, 1, none⟩ = some (.map (some M))) (hg : g < w.heap.size) (hS : StAt w M m st dom) (hA : StrsAt w A n c l) (hn : n ≤ 1000) (hk : ∀ x ∈ l, x.length ≤ 1000) :
    Calls Tryz.prog 26 #[.pointer (some ⟨g, 0, none⟩), .agg #[.string top, .slice A n c]] w (OpenPost w st l) := by
  have HN := Lib.hid hA.1
  have HK := Lib.hid hk
  have hb : Below w.heap.size w (w.alloc (.cells #[.string top, .slice A n c] 68)) := (Below.refl _ _).alloc (Nat.le_refl _) _
  have HB := Lib.hid hb
  have HS1 := Lib.hid (hS.below hb)
  have HA1 := Lib.hid (ElemsAt.keep hA hb)
  have HC1 : Hid ((w.alloc (.cells #[.string top, .slice A n c] 68)).cell? ⟨g, 1, none⟩ = some (.map (some M))) := (hb.cell (p := ⟨g, _, none⟩) hg).trans hc
  have hz : (w.alloc (.cells #[.string top, .slice A n c] 68)).heap.size = w.heap.size + 1 := by simp
  have HZ : Hid (g < (w.alloc (.cells #[.string top, .slice A n c] 68)).heap.size) := by show _ < _; omega
  clear hc hS hA hk hb
  go_enter Tryz.func26, Tryz.ntmps26
  go_upto_region 3 with (fail)
  have hwz := HB.out.size
  generalize w.alloc (.cells #[.string top, .slice A n c] 68) = w1 at *
  go_wp2_with fail
  go_loopg [5, 11] n (fun gk v5 v wr => ∃ k : Nat, Hid (k + gk = n) ∧ v = .int .i64 (k : Int) ∧ Hid (OwnStrs wr w1.heap.size v5 (openL st (l.take k))) ∧ Hid (Below w1.heap.size w1 wr))
  case atStart => exact ⟨0, show 0 + n = n by omega, rfl, Owns.nil _ _, Below.refl _ _⟩
  case round =>
    obtain ⟨k, HKK, rfl, HO, HW⟩ := hrel
    have hkn : k ≤ n := by have := HKK.out; omega
    by_cases hlt : k < n
    · have HGK := Lib.hid (show k + 1 + (gk - 1) = n ∧ 0 < gk by have := HKK.out; omega)
      obtain ⟨gA, off, rfl, hgA, hcA⟩ := (ElemsAt.keep HA1.out HW.out).str (by omega)
      have hck := hcA k hlt
      have hkl : k < l.length := by rw [← HN.out]; exact hlt
      have hcm : wr.cell? ⟨g, 1, none⟩ = some (.map (some M)) := (HW.out.cell (p := ⟨g, _, none⟩) HZ.out).trans HC1.out
      have hmem : l.getD k [] ∈ l := by rw [List.getD_eq_getElem?_getD, List.getElem?_eq_getElem hkl]; exact List.getElem_mem hkl
      have HSZ := Lib.hid (HK.out _ hmem)
      have HSU := Lib.hid (openL_succ st l k hkl)
      have hle := openL_le st (l.take k)
      have hlt2 : (openL st (l.take k)).length ≤ 1000 := by rw [List.length_take] at hle; omega
      clear hcA hmem hkl hle
      generalize l.getD k [] = x at *
      have hlk : (Instr.lookup 63 (.map (some M)) (.string ⟨x.toArray⟩) false).run Tryz.prog wr = .ok (.int .i64 (st x)) wr := (HS1.out.below HW.out).look ⟨x.toArray⟩ (by have := HSZ.out; simp only [ByteArray.size, List.size_toArray]; omega) 0
      by_cases h0 : st x = 0
      · rw [if_pos h0] at HSU
        simp only [h0] at hlk
        have hsa : w1.heap.size ≤ (wr.alloc (.cells #[.string ⟨x.toArray⟩] 9)).heap.size := by have := HW.out.size; simp; omega
        go_wp2_with (at_builtin; refine append_elems strE_ok rfl _ _ rfl w1.heap.size u5 (openL st (l.take k)) rfl (World.ownsRow.alloc HO.out _) (some ⟨wr.heap.size, 0, none⟩) 1 1 [x] rfl (one_elem (E := StrE) wr x) (by first | exact hsa | (simp; omega) | omega) (by first | exact hsa | (simp; omega) | omega) ?_; intro v7 w7 hown7 hgrow7 _)
        have HO7 : Hid (OwnStrs w7 w1.heap.size v7 (openL st (l.take (k + 1)))) := by show OwnStrs _ _ _ _; rw [HSU.out]; exact hown7
        have HB7 : Hid (Below w1.heap.size w1 w7) := (HW.out.alloc HW.out.size _).grown hgrow7 (Nat.le_trans HW.out.size (by simp)) (fun i hi => (HO.out.lt i hi).1)
        clear hown7 hgrow7
        go_wp2_with fail
        go_roundg (gk - 1)
        case measure => have := HGK.out; omega
        case rel => exact ⟨k + 1, HGK.out.1, by go_num, HO7.out, HB7.out⟩
      · rw [if_neg h0, List.append_nil] at HSU
        go_wp2_with fail
        go_roundg (gk - 1)
        case measure => have := HGK.out; omega
        case rel => exact ⟨k + 1, HGK.out.1, by go_num, by show OwnStrs _ _ _ _; rw [HSU.out]; exact HO.out, HW.out⟩
    · have hta : l.take k = l := List.take_of_length_le (by rw [← HN.out]; omega)
      rw [hta] at HO
      have hwsz2 := HW.out.size
      have HF : Hid (OpenPost w st l (.returned u5) wr) := ⟨u5, rfl, HO.out.base_ hwz, HB.out.trans (HW.out.mono hwz)⟩
      clear hta
      go_wp2_with fail
      go_ret
      exact HF.out
end Go.Proofs.YtdojnbnhogbhiaaGreatDoor

namespace Go.Proofs.YtdojnbnhogbhiaaGreatDoor
open Go.RowKit Go.Maps
attribute [local go_sem ↓] Go.wp_at_zero Go.wp_at_succ

/-- A slice of families that reads as P, each with its ids. -/
structure FamsAt (w : World) (A : Option Addr) (n c : Nat) (P : List ((List UInt8) × Hd3)) (items : (List UInt8) → List (List UInt8)) : Prop where
  at_ : ElemsAt FamE w A n c P
  row : ∀ p ∈ P, StrsAt w p.2.1 p.2.2.1 p.2.2.2 (items p.1)
theorem FamsAt.keep {w w' : World} {A : Option Addr} {n c : Nat} {P : List ((List UInt8) × Hd3)} {items : (List UInt8) → List (List UInt8)} (h : FamsAt w A n c P items) (hb : Below w.heap.size w w') : FamsAt w' A n c P items :=
  ⟨ElemsAt.keep h.at_ hb, fun p hp => ElemsAt.keep (h.row p hp) hb⟩
def leftL (st : (List UInt8) → Int) (items : (List UInt8) → List (List UInt8)) (P : List ((List UInt8) × Hd3)) : List (List UInt8) := P.flatMap fun p => openL st (items p.1)
def LeftPost (w : World) (st : (List UInt8) → Int) (items : (List UInt8) → List (List UInt8)) (P : List ((List UInt8) × Hd3)) (e : Ending) (w' : World) : Prop := ∃ v, e = .returned v ∧ OwnStrs w' w.heap.size v (leftL st items P) ∧ Below w.heap.size w w'
theorem leftL_succ (st : (List UInt8) → Int) (items : (List UInt8) → List (List UInt8)) (P : List ((List UInt8) × Hd3)) (k : Nat) (p : (List UInt8) × Hd3) (hp : P[k]? = some p) : leftL st items (P.take (k + 1)) = leftL st items (P.take k) ++ openL st (items p.1) := by
  obtain ⟨h1, h2⟩ := List.getElem?_eq_some_iff.1 hp
  unfold leftL
  rw [List.take_succ_eq_append_getElem h1, h2, List.flatMap_append]
  simp
theorem leftL_len (st : (List UInt8) → Int) (items : (List UInt8) → List (List UInt8)) : ∀ (P : List ((List UInt8) × Hd3)), (∀ p ∈ P, (items p.1).length ≤ 100) → (leftL st items P).length ≤ 100 * P.length := fun P => by
  induction P with
  | nil => intro _; simp [leftL]
  | cons p P ih =>
    intro h
    have h1 := ih (fun q hq => h q (List.mem_cons_of_mem _ hq))
    have h2 := openL_le st (items p.1)
    have h3 := h p List.mem_cons_self
    simp only [leftL, List.flatMap_cons, List.length_append, List.length_cons] at *
    omega
set_option maxHeartbeats 1600000 in
set_option maxRecDepth 100000 in
theorem left_any (g M m : Nat) (st : (List UInt8) → Int) (dom : (List UInt8) → Bool) (A : Option Addr) (n c : Nat) (P : List ((List UInt8) × Hd3)) (items : (List UInt8) → List (List UInt8)) (w : World) (hc0 : w.cell? ⟨g, 0, none⟩ = some (.slice A n c)) (hc : w.cell? ⟨g, 1, none⟩ = some (.map (some M))) (hg : g < w.heap.size) (hS : StAt w M m st dom) (hA : FamsAt w A n c P items) (hn : n ≤ 100) (hi : ∀ p ∈ P, (items p.1).length ≤ 100 ∧ ∀ x ∈ items p.1, x.length ≤ 1000) :
    Calls Tryz.prog 7 #[.pointer (some ⟨g, 0, none⟩)] w (LeftPost w st items P) := by
  have HN := Lib.hid hA.at_.1
  have HI := Lib.hid hi
  have HA := Lib.hid hA
  have HSM := Lib.hid hS
  have HG := Lib.hid hg
  have HC := Lib.hid hc
  clear hc hS hA hi
  go_enter Tryz.func7, Tryz.ntmps7
  go_wp2_with fail
  clear hc0
  go_loopg [3, 11] n (fun gk v3 v wr => ∃ k : Nat, Hid (k + gk = n) ∧ v = .int .i64 (k : Int) ∧ Hid (OwnStrs wr w.heap.size v3 (leftL st items (P.take k))) ∧ Hid (Below w.heap.size w wr))
  case atStart => exact ⟨0, show 0 + n = n by omega, rfl, Owns.nil _ _, Below.refl _ _⟩
  case round =>
    obtain ⟨k, HKK, rfl, HO, HW⟩ := hrel
    have hkn : k ≤ n := by have := HKK.out; omega
    by_cases hlt : k < n
    · have HGK := Lib.hid (show k + 1 + (gk - 1) = n ∧ 0 < gk by have := HKK.out; omega)
      have HAW := Lib.hid (HA.out.keep HW.out)
      obtain ⟨gA, off, rfl, hgA, hcA⟩ := HAW.out.at_.2.2.2 (by omega)
      have hkl : k < P.length := by rw [← HN.out]; exact hlt
      obtain ⟨p, hp⟩ : ∃ p, P[k]? = some p := ⟨_, List.getElem?_eq_getElem hkl⟩
      have hmem : p ∈ P := List.mem_of_getElem? hp
      have c0 := hcA k p 0 (.string ⟨p.1.toArray⟩) hp rfl
      have c1 := hcA k p 1 (hv3 p.2) hp rfl
      have e2 : FamE.size = 2 := rfl
      rw [e2] at c0 c1
      rw [Nat.add_zero] at c0
      have HSU := Lib.hid (leftL_succ st items P k p hp)
      have hle := leftL_len st items (P.take k) (fun q hq => (HI.out q (List.mem_of_mem_take hq)).1)
      rw [List.length_take] at hle
      have hl2 : (leftL st items (P.take k)).length ≤ 10000 := by omega
      have HIP := Lib.hid (HI.out p hmem)
      obtain ⟨tp, R, rn, rc⟩ := p
      simp only [hv3] at c1
      have hRow : StrsAt wr R rn rc (items tp) := HAW.out.row _ hmem
      have hrn := hRow.1
      have hrn2 : rn ≤ 1000 := by have := HIP.out.1; simp only at this; omega
      have hz : (wr.alloc (.cells #[.string ⟨tp.toArray⟩, .slice R rn rc] 68)).heap.size = wr.heap.size + 1 := by simp
      have hb4 : Below wr.heap.size wr (wr.alloc (.cells #[.string ⟨tp.toArray⟩, .slice R rn rc] 68)) := (Below.refl _ _).alloc (Nat.le_refl _) _
      have HB4 := Lib.hid (HW.out.trans (hb4.mono HW.out.size))
      have hgw := HG.out
      have HOP := Lib.hid (open_any g M m st dom ⟨tp.toArray⟩ R rn rc (items tp) (wr.alloc (.cells #[.string ⟨tp.toArray⟩, .slice R rn rc] 68)) ((HB4.out.cell (p := ⟨g, _, none⟩) HG.out).trans HC.out) (Nat.lt_of_lt_of_le HG.out HB4.out.size) (HSM.out.below HB4.out) (hRow.keep hb4) hrn2 HIP.out.2)
      have HO4 : Hid (OwnStrs (wr.alloc (.cells #[.string ⟨tp.toArray⟩, .slice R rn rc] 68)) w.heap.size u3 (leftL st items (P.take k))) := World.ownsRow.alloc HO.out _
      have f0 : (wr.alloc (.cells #[.string ⟨tp.toArray⟩, .slice R rn rc] 68)).cell? ⟨wr.heap.size, 0, none⟩ = some (.string ⟨tp.toArray⟩) := by rw [World.cell?_alloc_at _ _ _ _ rfl]; rfl
      have f1 : (wr.alloc (.cells #[.string ⟨tp.toArray⟩, .slice R rn rc] 68)).cell? ⟨wr.heap.size, 1, none⟩ = some (.slice R rn rc) := by rw [World.cell?_alloc_at _ _ _ _ rfl]; rfl
      have hol := openL_le st (items tp)
      have hol2 : (openL st (items tp)).length ≤ 1000 := by omega
      clear hcA hmem hkl hle hp hRow hb4 HAW hol hrn
      go_upto_region 5 with (fail)
      generalize wr.alloc (.cells #[.string ⟨tp.toArray⟩, .slice R rn rc] 68) = w4 at *
      clear c0 c1
      go_wp2_with fail
      refine HOP.out.mono ?_
      rintro e w5 ⟨v5, rfl, hown5, hb5⟩
      obtain ⟨A5, c5, hv5, -, hat5, -⟩ := hown5.at_ strE_ok
      subst hv5
      have HAT5 := Lib.hid hat5
      have HO5 := Lib.hid (Owns.below_ HO4.out hb5)
      have HB5 : Hid (Below w.heap.size w w5) := HB4.out.trans (hb5.mono HB4.out.size)
      have hz5 := hb5.size
      clear hown5 hb5 hat5 HOP HO4 HB4 f0 f1
      have hsw := HB5.out.size
      go_wp2_with (at_builtin; (refine append_elems strE_ok rfl _ _ rfl w.heap.size u3 (leftL st items (P.take k)) (by rfl) HO5.out A5 _ c5 (openL st (items tp)) (by rfl) HAT5.out (by first | omega | (simp; omega)) (by first | omega | (simp; omega)) ?_); intro v6 w6 hown6 hgrow6 _)
      have HO6 : Hid (OwnStrs w6 w.heap.size v6 (leftL st items (P.take (k + 1)))) := by show OwnStrs _ _ _ _; rw [HSU.out]; exact hown6
      have HB6 : Hid (Below w.heap.size w w6) := HB5.out.grown hgrow6 HB5.out.size (fun i e => (HO5.out.lt i e).1)
      clear hown6 hgrow6
      go_wp2_with fail
      go_roundg (gk - 1)
      case measure => have := HGK.out; omega
      case rel => exact ⟨k + 1, HGK.out.1, by go_num, HO6.out, HB6.out⟩
    · have hta : P.take k = P := List.take_of_length_le (by rw [← HN.out]; omega)
      rw [hta] at HO
      have HF : Hid (LeftPost w st items P (.returned u3) wr) := ⟨u3, rfl, HO.out, HW.out⟩
      clear hta
      go_wp2_with fail
      go_ret
      exact HF.out
end Go.Proofs.YtdojnbnhogbhiaaGreatDoor

namespace Go.Proofs.YtdojnbnhogbhiaaGreatDoor
open Go.RowKit Go.Maps

/-- A batch: its numbers, its reviewer, where its ids lie, its ids. -/
structure Bat where
  no : Int
  out : Int
  inn : Int
  who : (List UInt8)
  hd : Hd3
  ids : List (List UInt8)
def BatE : Elem Bat := ⟨36, 40, 5, 64, .agg #[.int .i64 0, .int .i64 0, .int .i64 0, .string ⟨#[]⟩, .slice none 0 0], fun p => [.int .i64 p.no, .int .i64 p.out, .int .i64 p.inn, .string ⟨p.who.toArray⟩, hv3 p.hd]⟩
theorem batE_ok : BatE.Ok := ⟨fun _ => rfl, fun x u hu => by
  have hm : u ∈ [Value.int .i64 x.no, .int .i64 x.out, .int .i64 x.inn, .string ⟨x.who.toArray⟩, hv3 x.hd] := hu
  simp only [List.mem_cons, List.not_mem_nil, or_false] at hm
  rcases hm with h | h | h | h | h <;> (subst h; rfl), by decide, by decide, by kernel_rfl, by kernel_rfl, Tryz.underlying40⟩
theorem bat_ne : BatE.t ≠ StrE.t := by decide
theorem bat_ne_fam : BatE.t ≠ FamE.t := by decide
theorem desk_ne : (65 : TypeId) ≠ StrE.t := by decide
theorem desk_ne_fam : (65 : TypeId) ≠ FamE.t := by decide
theorem desk_ne_bat : (65 : TypeId) ≠ BatE.t := by decide
theorem owns_ne_map {α : Type} {E : Elem α} {w : World} {base M m : Nat} {v : Value} {l : List α} {st : (List UInt8) → Int} {dom : (List UInt8) → Bool} (h : Owns E w base v l) (hm : StAt w M m st dom) : v.ownBlock ≠ some M := by
  obtain ⟨D, ⟨es, cl, hb, _⟩, _⟩ := hm.ex
  intro e
  rcases h.2 with ⟨rfl, _⟩ | ⟨g, cap, cur, rfl, _, hh, _⟩
  · cases e
  · have e2 : g = M := Option.some.inj e
    subst e2
    rw [hb] at hh
    cases hh
theorem Owns.notin {α : Type} {E : Elem α} {w w' : World} {base : Nat} {v : Value} {l : List α} {row : Option Nat} (h : Owns E w base v l) (hg : w.grownBy w' row) (hr : ∀ b, v.ownBlock = some b → row ≠ some b) : Owns E w' base v l := by
  refine h.kept hg ?_
  cases hv : v.ownBlock with
  | none => exact .inl rfl
  | some b => exact .inr (fun e => hr b hv e.symm)
/-- The batches: each with its ids. -/
structure BatsIn (w : World) (base : Nat) (v : Value) (bats : List Bat) : Prop where
  own : Owns BatE w base v bats
  row : ∀ p ∈ bats, OwnStrs w base (hv3 p.hd) p.ids
theorem BatsIn.keep {w w' : World} {base : Nat} {v : Value} {bats : List Bat} (h : BatsIn w base v bats) (hb : Below w.heap.size w w') : BatsIn w' base v bats := ⟨h.own.below_ hb, fun p hp => (h.row p hp).below_ hb⟩
theorem BatsIn.kept {w w' : World} {base : Nat} {v : Value} {bats : List Bat} {row : Option Nat} (h : BatsIn w base v bats) (hg : w.grownBy w' row) (hr : ∀ i, row = some i → i < base) : BatsIn w' base v bats := ⟨h.own.kept_ hg hr, fun p hp => (h.row p hp).kept_ hg hr⟩
theorem BatsIn.push {w w' : World} {base : Nat} {v v' : Value} {bats : List Bat} {b : Bat} (h : BatsIn w base v bats) (hb : OwnStrs w base (hv3 b.hd) b.ids) (ho : Owns BatE w' base v' (bats ++ [b])) (hg : w.grownBy w' v.ownBlock) : BatsIn w' base v' (bats ++ [b]) := by
  refine ⟨ho, fun p hp => ?_⟩
  rcases List.mem_append.1 hp with hp | hp
  · exact (h.row p hp).beside h.own bat_ne hg
  · rw [List.mem_singleton.1 hp]
    exact hb.beside h.own bat_ne hg
/-- A batch without where its ids lie. -/
def Bat.core (b : Bat) : Int × Int × Int × (List UInt8) × List (List UInt8) := (b.no, b.out, b.inn, b.who, b.ids)
/-- A batch in a block of its own. -/
def BatB (w : World) (Q : Nat) (no out inn : Int) (who : ByteArray) (v : Value) : Prop := w.heap[Q]? = some (.cells #[.int .i64 no, .int .i64 out, .int .i64 inn, .string who, v] 36 (0, 0))
theorem BatB.lt {w : World} {Q : Nat} {no out inn : Int} {who : ByteArray} {v : Value} (h : BatB w Q no out inn who v) : Q < w.heap.size := (Array.getElem?_eq_some_iff.1 h).1
theorem BatB.c {w : World} {Q : Nat} {no out inn : Int} {who : ByteArray} {v : Value} (h : BatB w Q no out inn who v) : w.cell? ⟨Q, 0, none⟩ = some (.int .i64 no) ∧ w.cell? ⟨Q, 1, none⟩ = some (.int .i64 out) ∧ w.cell? ⟨Q, 2, none⟩ = some (.int .i64 inn) ∧ w.cell? ⟨Q, 3, none⟩ = some (.string who) ∧ w.cell? ⟨Q, 4, none⟩ = some v := by
  refine ⟨?_, ?_, ?_, ?_, ?_⟩ <;> (rw [cell_of_row w Q _ _ _ _ h]; rfl)
theorem BatB.f {w : World} {Q : Nat} {no out inn : Int} {who : ByteArray} {v : Value} (h : BatB w Q no out inn who v) (j : Nat) : w.frozen? ⟨Q, j, none⟩ = false := by
  unfold BatB at h
  simp [World.frozen?, h]
theorem BatB.keep {w w' : World} {Q : Nat} {no out inn : Int} {who : ByteArray} {v : Value} (h : BatB w Q no out inn who v) (hb : Below w.heap.size w w') : BatB w' Q no out inn who v := (hb.block Q h.lt).trans h
theorem BatB.set4 {w : World} {Q : Nat} {no out inn : Int} {who : ByteArray} {v : Value} (h : BatB w Q no out inn who v) (u : Value) : BatB (w.setCell ⟨Q, 4, none⟩ u) Q no out inn who u := by
  unfold BatB at *
  simp [World.setCell, Array.getElem?_modify, h]
/-- Block g holds a desk. -/
structure DeskAt (w : World) (base g M : Nat) (fv : Value) (P : List ((List UInt8) × Hd3)) (items : (List UInt8) → List (List UInt8)) (dom : (List UInt8) → Bool) (m : Nat) (bv : Value) (st : (List UInt8) → Int) (bats : List Bat) (last : Int) : Prop where
  row : w.heap[g]? = some (.cells #[fv, .map (some M), bv, .int .i64 last] 65 (0, 0))
  hg : base ≤ g
  hM : base ≤ M
  fam : Owns FamE w base fv P
  frow : ∀ p ∈ P, OwnStrs w base (hv3 p.2) (items p.1)
  st : StAt w M m st dom
  bats : BatsIn w base bv bats
section
variable {w w' : World} {base g M m : Nat} {fv bv : Value} {P : List ((List UInt8) × Hd3)} {items : (List UInt8) → List (List UInt8)} {dom : (List UInt8) → Bool} {st : (List UInt8) → Int} {bats : List Bat} {last : Int}
theorem DeskAt.lt (h : DeskAt w base g M fv P items dom m bv st bats last) : g < w.heap.size := (Array.getElem?_eq_some_iff.1 h.row).1
theorem DeskAt.c (h : DeskAt w base g M fv P items dom m bv st bats last) : w.cell? ⟨g, 0, none⟩ = some fv ∧ w.cell? ⟨g, 1, none⟩ = some (.map (some M)) ∧ w.cell? ⟨g, 2, none⟩ = some bv ∧ w.cell? ⟨g, 3, none⟩ = some (.int .i64 last) := by
  refine ⟨?_, ?_, ?_, ?_⟩ <;> (rw [cell_of_row w g _ _ _ _ h.row]; rfl)
theorem DeskAt.f (h : DeskAt w base g M fv P items dom m bv st bats last) (j : Nat) : w.frozen? ⟨g, j, none⟩ = false := by
  have := h.row
  simp [World.frozen?, this]
theorem DeskAt.keep (h : DeskAt w base g M fv P items dom m bv st bats last) (hb : Below w.heap.size w w') : DeskAt w' base g M fv P items dom m bv st bats last :=
  ⟨(hb.block g h.lt).trans h.row, h.hg, h.hM, h.fam.below_ hb, fun p hp => (h.frow p hp).below_ hb, h.st.below hb, h.bats.keep hb⟩
theorem DeskAt.far {s : Nat} (h : DeskAt w base g M fv P items dom m bv st bats last) (hg : w.grownBy w' (some s)) (hs : s < base) : DeskAt w' base g M fv P items dom m bv st bats last :=
  have hr : ∀ i, some s = some i → i < base := fun i e => by cases e; exact hs
  ⟨(hg.block g h.lt (fun e => by have := h.hg; have := Option.some.inj e; omega)).trans h.row, h.hg, h.hM, h.fam.kept_ hg hr, fun p hp => (h.frow p hp).kept_ hg hr, h.st.kept hg (fun e => by have := h.hM; have := Option.some.inj e; omega), h.bats.kept hg hr⟩
theorem DeskAt.ne_map (h : DeskAt w base g M fv P items dom m bv st bats last) : g ≠ M := by
  obtain ⟨D, ⟨es, cl, hb, _⟩, _⟩ := h.st.ex
  intro e
  subst e
  have := h.row
  rw [hb] at this
  cases this
theorem DeskAt.putSt {m' : Nat} {st' : (List UInt8) → Int} {dom' : (List UInt8) → Bool} (h : DeskAt w base g M fv P items dom m bv st bats last) (hg : w.grownBy w' (some M)) (hs : StAt w' M m' st' dom') : DeskAt w' base g M fv P items dom' m' bv st' bats last :=
  ⟨(hg.block g h.lt (fun e => h.ne_map (Option.some.inj e))).trans h.row, h.hg, h.hM, h.fam.notin hg (fun b hb e => owns_ne_map h.fam h.st (hb.trans e.symm)), fun p hp => (h.frow p hp).notin hg (fun b hb e => owns_ne_map (h.frow p hp) h.st (hb.trans e.symm)), hs,
    h.bats.own.notin hg (fun b hb e => owns_ne_map h.bats.own h.st (hb.trans e.symm)), fun p hp => (h.bats.row p hp).notin hg (fun b hb e => owns_ne_map (h.bats.row p hp) h.st (hb.trans e.symm))⟩
theorem Owns.setDesk {α : Type} {E : Elem α} {w : World} {base g j : Nat} {v u : Value} {l : List α} {cs : Array Value} {fr : Nat × Nat} (h : Owns E w base v l) (hrow : w.heap[g]? = some (.cells cs 65 fr)) (hne : (65 : TypeId) ≠ E.t) : Owns E (w.setCell ⟨g, j, none⟩ u) base v l :=
  h.notin (grown_setCell w g j u) (fun b hb e => h.ne_block hrow hne (hb.trans e.symm))
theorem StAt.setDesk {w : World} {M m g j : Nat} {u : Value} {st : (List UInt8) → Int} {dom : (List UInt8) → Bool} {cs : Array Value} {t : TypeId} {fr : Nat × Nat} (h : StAt w M m st dom) (hrow : w.heap[g]? = some (.cells cs t fr)) : StAt (w.setCell ⟨g, j, none⟩ u) M m st dom := by
  refine h.kept (grown_setCell w g j u) (fun e => ?_)
  obtain ⟨D, ⟨es, cl, hb, _⟩, _⟩ := h.ex
  have e2 : g = M := Option.some.inj e
  subst e2
  rw [hb] at hrow
  cases hrow
theorem DeskAt.setLast (h : DeskAt w base g M fv P items dom m bv st bats last) (at_ : Int) : DeskAt (w.setCell ⟨g, 3, none⟩ (.int .i64 at_)) base g M fv P items dom m bv st bats at_ := by
  have hr := h.row
  refine ⟨?_, h.hg, h.hM, h.fam.setDesk hr desk_ne_fam, fun p hp => (h.frow p hp).setDesk hr desk_ne, h.st.setDesk hr, ⟨h.bats.own.setDesk hr desk_ne_bat, fun p hp => (h.bats.row p hp).setDesk hr desk_ne⟩⟩
  simp [World.setCell, Array.getElem?_modify, hr]
/-- The batches grow by one. -/
theorem DeskAt.app {bv' : Value} {b : Bat} (h : DeskAt w base g M fv P items dom m bv st bats last) (ho : Owns BatE w' base bv' (bats ++ [b])) (hg : w.grownBy w' bv.ownBlock) (hb : OwnStrs w base (hv3 b.hd) b.ids) : DeskAt (w'.setCell ⟨g, 2, none⟩ bv') base g M fv P items dom m bv' st (bats ++ [b]) last := by
  have hr : w'.heap[g]? = some (.cells #[fv, .map (some M), bv, .int .i64 last] 65 (0, 0)) := (hg.block g h.lt (fun e => h.bats.own.ne_block h.row desk_ne_bat e.symm)).trans h.row
  refine ⟨?_, h.hg, h.hM, (h.fam.beside h.bats.own bat_ne_fam hg).setDesk hr desk_ne_fam, fun p hp => ((h.frow p hp).beside h.bats.own bat_ne hg).setDesk hr desk_ne, (h.st.kept hg (owns_ne_map h.bats.own h.st)).setDesk hr, ⟨ho.setDesk hr desk_ne_bat, fun p hp => ?_⟩⟩
  · simp [World.setCell, Array.getElem?_modify, hr]
  · rcases List.mem_append.1 hp with hp | hp
    · exact ((h.bats.row p hp).beside h.bats.own bat_ne hg).setDesk hr desk_ne
    · rw [List.mem_singleton.1 hp]
      exact (hb.beside h.bats.own bat_ne hg).setDesk hr desk_ne
/-- A batch comes back. -/
theorem batE_cells_at : ∀ (l : List Bat) (k : Nat) (p : Bat) (z : Int), l[k]? = some p → BatE.cells (l.set k { p with inn := z }) = (BatE.cells l).set (k * 5 + 2) (.int .i64 z)
  | [], k, p, z, h => by simp at h
  | q :: l, 0, p, z, h => by
    simp at h; subst h
    rfl
  | q :: l, k + 1, p, z, h => by
    have ih := batE_cells_at l k p z (by simpa using h)
    simp only [Elem.cells, List.set_cons_succ, List.flatMap_cons] at *
    rw [ih]
    have e : (k + 1) * 5 + 2 = (BatE.enc q).length + (k * 5 + 2) := by show _ = 5 + (k * 5 + 2); omega
    rw [e, List.set_append_right _ _ (by omega)]
    congr 2
    omega
theorem BatsIn.setIn {S n c k : Nat} {p : Bat} {z : Int} (h : BatsIn w base (.slice (some ⟨S, 0, none⟩) n c) bats) (hk : bats[k]? = some p) : BatsIn (w.setCell ⟨S, k * 5 + 2, none⟩ (.int .i64 z)) base (.slice (some ⟨S, 0, none⟩) n c) (bats.set k { p with inn := z }) := by
  have hrow : ∀ q ∈ bats, OwnStrs (w.setCell ⟨S, k * 5 + 2, none⟩ (.int .i64 z)) base (hv3 q.hd) q.ids := fun q hq => (h.row q hq).beside h.own bat_ne (grown_setCell w S _ _)
  refine ⟨?_, fun q hq => ?_⟩
  · obtain ⟨h1, h2⟩ := h.own
    have hcl := batE_cells_at bats k p z hk
    unfold Owns World.ownsRow
    rw [hcl, List.length_set, List.length_set]
    refine ⟨h1, ?_⟩
    rcases h2 with ⟨e, hn⟩ | ⟨g', cap, cur, e, hb, hh, hc1, hc2, hsz, htk⟩
    · cases e
    · have e3 := e
      simp only [Value.slice.injEq, Option.some.injEq, Addr.mk.injEq, and_true] at e3
      obtain ⟨rfl, rfl, rfl⟩ := e3
      refine .inr ⟨S, _, cur.setIfInBounds (k * 5 + 2) (.int .i64 z), rfl, hb, ?_, hc1, hc2, by rw [Array.size_setIfInBounds]; exact hsz, ?_⟩
      · simp [World.setCell, Array.getElem?_modify, hh]
      · rw [← htk, Array.toList_setIfInBounds, List.take_set]
  · rcases List.mem_or_eq_of_mem_set hq with hq | rfl
    · exact hrow q hq
    · exact hrow p (List.mem_of_getElem? hk)
theorem DeskAt.setIn {S n c k : Nat} {p : Bat} {z : Int} (h : DeskAt w base g M fv P items dom m (.slice (some ⟨S, 0, none⟩) n c) st bats last) (hk : bats[k]? = some p) : DeskAt (w.setCell ⟨S, k * 5 + 2, none⟩ (.int .i64 z)) base g M fv P items dom m (.slice (some ⟨S, 0, none⟩) n c) st (bats.set k { p with inn := z }) last := by
  have hg := grown_setCell w S (k * 5 + 2) (.int .i64 z)
  exact ⟨(hg.block g h.lt (fun e => h.bats.own.ne_block h.row desk_ne_bat e.symm)).trans h.row, h.hg, h.hM, h.fam.beside h.bats.own bat_ne_fam hg, fun p hp => (h.frow p hp).beside h.bats.own bat_ne hg, h.st.kept hg (owns_ne_map h.bats.own h.st), h.bats.setIn hk⟩
/-- Two blocks turned, and memory was made. -/
structure ButD (Q R : Nat) (w w' : World) : Prop where
  size : w.heap.size ≤ w'.heap.size
  block : ∀ i, i < w.heap.size → i ≠ Q → i ≠ R → w'.heap[i]? = w.heap[i]?
theorem ButD.of_below {Q R : Nat} (h : Below w.heap.size w w') : ButD Q R w w' := ⟨h.size, fun i hi _ _ => h.block i hi⟩
theorem ButD.of_set1 (Q R j : Nat) (u : Value) : ButD Q R w (w.setCell ⟨Q, j, none⟩ u) := ⟨by simp [World.setCell], fun i _ h _ => Below.heap_setCell w ⟨Q, j, none⟩ u i h⟩
theorem ButD.of_set2 (Q R j : Nat) (u : Value) : ButD Q R w (w.setCell ⟨R, j, none⟩ u) := ⟨by simp [World.setCell], fun i _ _ h => Below.heap_setCell w ⟨R, j, none⟩ u i h⟩
theorem ButD.trans {Q R : Nat} {a b c : World} (h : ButD Q R a b) (k : ButD Q R b c) : ButD Q R a c := ⟨Nat.le_trans h.size k.size, fun i hi h1 h2 => (k.block i (Nat.lt_of_lt_of_le hi h.size) h1 h2).trans (h.block i hi h1 h2)⟩
theorem ButD.below {Q R : Nat} {a b c : World} (h : ButD Q R a b) (k : Below a.heap.size b c) : ButD Q R a c := ⟨Nat.le_trans h.size k.size, fun i hi h1 h2 => (k.block i hi).trans (h.block i hi h1 h2)⟩
theorem Owns.butD {α : Type} {E : Elem α} {Q R : Nat} {v : Value} {l : List α} (h : Owns E w base v l) (hb : ButD Q R w w') (h1 : v.ownBlock ≠ some Q) (h2 : v.ownBlock ≠ some R) : Owns E w' base v l := by
  refine ⟨h.1, ?_⟩
  rcases h.2 with h | ⟨g, cap, cur, e, hb', hh, r⟩
  · exact .inl h
  · subst e
    exact .inr ⟨g, cap, cur, rfl, hb', (hb.block g (Array.getElem?_eq_some_iff.1 hh).1 (fun e => h1 (by rw [e]; rfl)) (fun e => h2 (by rw [e]; rfl))).trans hh, r⟩
/-- A desk stays, whatever becomes of two blocks that hold a batch each, and are not the batches' row. -/
theorem DeskAt.but {Q R : Nat} {cq cr : Array Value} {fq fr : Nat × Nat} (h : DeskAt w base g M fv P items dom m bv st bats last) (hb : ButD Q R w w') (hQ : w.heap[Q]? = some (.cells cq 36 fq)) (hR : w.heap[R]? = some (.cells cr 36 fr)) (nQ : bv.ownBlock ≠ some Q) (nR : bv.ownBlock ≠ some R) : DeskAt w' base g M fv P items dom m bv st bats last := by
  have hne : (65 : TypeId) ≠ BatE.t := desk_ne_bat
  have g1 : g ≠ Q := fun e => by
    subst e
    have := h.row
    rw [hQ] at this
    simp only [Option.some.injEq, Obj.cells.injEq] at this
    exact hne this.2.1.symm
  have g2 : g ≠ R := fun e => by
    subst e
    have := h.row
    rw [hR] at this
    simp only [Option.some.injEq, Obj.cells.injEq] at this
    exact hne this.2.1.symm
  refine ⟨(hb.block g h.lt g1 g2).trans h.row, h.hg, h.hM, h.fam.butD hb (h.fam.ne_block hQ bat_ne_fam) (h.fam.ne_block hR bat_ne_fam), fun p hp => (h.frow p hp).butD hb ((h.frow p hp).ne_block hQ bat_ne) ((h.frow p hp).ne_block hR bat_ne), ?_, ⟨h.bats.own.butD hb nQ nR, fun p hp => (h.bats.row p hp).butD hb ((h.bats.row p hp).ne_block hQ bat_ne) ((h.bats.row p hp).ne_block hR bat_ne)⟩⟩
  obtain ⟨D, ⟨es, cl, hbk, r⟩, h2⟩ := h.st.ex
  refine ⟨⟨D, ⟨es, cl, (hb.block M h.st.lt (fun e => ?_) (fun e => ?_)).trans hbk, r⟩, h2⟩⟩
  · subst e; rw [hbk] at hQ; cases hQ
  · subst e; rw [hbk] at hR; cases hR
end
end Go.Proofs.YtdojnbnhogbhiaaGreatDoor

namespace Go.Proofs.YtdojnbnhogbhiaaGreatDoor
open Go.RowKit Go.Maps

/-- The families' open ids, one after another, until a further one would be too many. -/
def takeG (most : Int) : List (List (List UInt8)) → List (List UInt8) → List (List UInt8)
  | [], l => l
  | s :: r, l => if l ≠ [] ∧ s ≠ [] ∧ most < (l.length : Int) + (s.length : Int) then l else takeG most r (l ++ s)
theorem takeG_pre (most : Int) : ∀ (os : List (List (List UInt8))) (l : List (List UInt8)), ∃ n, takeG most os l = l ++ (os.take n).flatten
  | [], l => ⟨0, by simp [takeG]⟩
  | s :: r, l => by
    unfold takeG
    by_cases h : l ≠ [] ∧ s ≠ [] ∧ most < (l.length : Int) + (s.length : Int)
    · rw [if_pos h]
      exact ⟨0, by simp⟩
    · rw [if_neg h]
      obtain ⟨n, hn⟩ := takeG_pre most r (l ++ s)
      exact ⟨n + 1, by rw [hn]; simp⟩
theorem takeG_nil (most : Int) : ∀ (os : List (List (List UInt8))) (l : List (List UInt8)), takeG most os l = [] → l = [] ∧ os.flatten = []
  | [], l, h => ⟨h, rfl⟩
  | s :: r, l, h => by
    unfold takeG at h
    by_cases h' : l ≠ [] ∧ s ≠ [] ∧ most < (l.length : Int) + (s.length : Int)
    · rw [if_pos h'] at h
      exact absurd h h'.1
    · rw [if_neg h'] at h
      obtain ⟨h1, h2⟩ := takeG_nil most r (l ++ s) h
      rw [List.append_eq_nil_iff] at h1
      exact ⟨h1.1, by rw [List.flatten_cons, h1.2, h2]; rfl⟩
def opensL (st : (List UInt8) → Int) (items : (List UInt8) → List (List UInt8)) (P : List ((List UInt8) × Hd3)) : List (List (List UInt8)) := P.map fun p => openL st (items p.1)
theorem opensL_flat (st : (List UInt8) → Int) (items : (List UInt8) → List (List UInt8)) (P : List ((List UInt8) × Hd3)) : (opensL st items P).flatten = openL st (P.flatMap fun p => items p.1) := by
  induction P with
  | nil => rfl
  | cons p P ih =>
    simp only [opensL, List.map_cons, List.flatten_cons, List.flatMap_cons] at *
    rw [ih]
    simp [openL]
/-- What is taken. -/
def takenL (st : (List UInt8) → Int) (items : (List UInt8) → List (List UInt8)) (P : List ((List UInt8) × Hd3)) (most : Int) : List (List UInt8) := takeG most (opensL st items P) []
theorem taken_sub (st : (List UInt8) → Int) (items : (List UInt8) → List (List UInt8)) (P : List ((List UInt8) × Hd3)) (most : Int) : (takenL st items P most).Sublist (openL st (P.flatMap fun p => items p.1)) := by
  unfold takenL
  obtain ⟨n, hn⟩ := takeG_pre most (opensL st items P) []
  rw [hn, List.nil_append, ← opensL_flat]
  conv => rhs; rw [← List.take_append_drop n (opensL st items P), List.flatten_append]
  exact List.sublist_append_left _ _
theorem taken_nil {st : (List UInt8) → Int} {items : (List UInt8) → List (List UInt8)} {P : List ((List UInt8) × Hd3)} {most : Int} (h : takenL st items P most = []) : openL st (P.flatMap fun p => items p.1) = [] := by
  have := (takeG_nil most _ _ h).2
  rwa [opensL_flat] at this
theorem taken_mem {st : (List UInt8) → Int} {items : (List UInt8) → List (List UInt8)} {P : List ((List UInt8) × Hd3)} {most : Int} {x : (List UInt8)} (h : x ∈ takenL st items P most) : st x = 0 ∧ ∃ p ∈ P, x ∈ items p.1 := by
  have h1 := (taken_sub st items P most).subset h
  unfold openL at h1
  rw [List.mem_filter, List.mem_flatMap] at h1
  exact ⟨by simpa using h1.2, h1.1⟩
/-- A further round of the loop. -/
theorem takeG_go {most : Int} {st : (List UInt8) → Int} {items : (List UInt8) → List (List UInt8)} {P : List ((List UInt8) × Hd3)} {k : Nat} {p : (List UInt8) × Hd3} {l T : List (List UInt8)} (hp : P[k]? = some p) (h : takeG most (opensL st items (P.drop k)) l = T) :
    if l ≠ [] ∧ openL st (items p.1) ≠ [] ∧ most < (l.length : Int) + ((openL st (items p.1)).length : Int) then l = T else takeG most (opensL st items (P.drop (k + 1))) (l ++ openL st (items p.1)) = T := by
  obtain ⟨h1, h2⟩ := List.getElem?_eq_some_iff.1 hp
  rw [List.drop_eq_getElem_cons h1, h2] at h
  simp only [opensL, List.map_cons, takeG] at h
  split
  · next hh => rw [if_pos hh] at h; exact h
  · next hh => rw [if_neg hh] at h; exact h
/-- The states behind stores of z at the ids of l. -/
def putL (z : Int) (l : List (List UInt8)) (st : (List UInt8) → Int) : (List UInt8) → Int := fun x => if x ∈ l then z else st x
theorem putL_snoc (z : Int) (l : List (List UInt8)) (st : (List UInt8) → Int) (x : (List UInt8)) : putL z (l ++ [x]) st = fun id => if id = x then z else putL z l st id := by
  funext id
  unfold putL
  by_cases h : id = x
  · simp [h]
  · simp [h]

/-- A family as a value. -/
def famZ : Value := .agg #[.string ⟨#[]⟩, .slice none 0 0]
/-- A map of families: which tops it has. -/
structure RestAt (w : World) (R m : Nat) (dom : (List UInt8) → Bool) : Prop where
  ex : ∃ D : DataW Value, w.ownsMap Tryz.prog 9 heldE R m D ∧ (∀ id : (List UInt8), ∃ (t : ByteArray) (h : Hd3), D.atKey (.string id) (.held famZ) = .held (.agg #[.string t, hv3 h])) ∧ ∀ id : (List UInt8), has D (.string id) = dom id
theorem RestAt.start (w : World) : RestAt (w.alloc (.map #[] 0)) w.heap.size 0 (fun _ => false) := ⟨⟨.map [], World.ownsMap_made w _ _ _, fun _ => ⟨⟨#[]⟩, (none, 0, 0), rfl⟩, fun _ => rfl⟩⟩
theorem RestAt.kept {w w' : World} {R m : Nat} {dom : (List UInt8) → Bool} {row : Option Nat} (h : RestAt w R m dom) (hg : w.grownBy w' row) (hr : row ≠ some R) : RestAt w' R m dom := by
  obtain ⟨D, h1, h2⟩ := h.ex
  exact ⟨⟨D, h1.kept hg hr.symm, h2⟩⟩
theorem RestAt.below {w w' : World} {R m : Nat} {dom : (List UInt8) → Bool} (h : RestAt w R m dom) (hb : Below w.heap.size w w') : RestAt w' R m dom := h.kept (below_grown hb none) (by simp)
theorem RestAt.lt {w : World} {R m : Nat} {dom : (List UInt8) → Bool} (h : RestAt w R m dom) : R < w.heap.size := by
  obtain ⟨D, h1, _⟩ := h.ex
  exact h1.lt
theorem RestAt.look {w : World} {R m : Nat} {dom : (List UInt8) → Bool} (h : RestAt w R m dom) (id : ByteArray) (hid : id.size ≤ 1000000) : ∃ (t : ByteArray) (hd : Hd3), ∀ q : Nat,
    (Instr.lookup 66 (.map (some R)) (.string id) true).run Tryz.prog (w.drewN q) = .ok (.tuple #[.agg #[.string t, hv3 hd], .bool (dom id.data.toList)]) (w.drewN q) := by
  obtain ⟨D, h1, h2, h3⟩ := h.ex
  obtain ⟨t, hd', h2⟩ := h2 id.data.toList
  refine ⟨t, hd', fun q => ?_⟩
  have hd : (w.drewN q).ownsMap Tryz.prog 9 heldE R m D := h1
  obtain ⟨v, ps, hrun, hv⟩ := hd.look_ok keyS Tryz.underlying66 (z := famZ) (by kernel_rfl) (zd := .held famZ) (zp := []) rfl (keyS_mk id hid)
  rw [h2] at hv
  rw [h3] at hrun
  simp only [heldE, Option.some.injEq, Prod.mk.injEq, DataW.held.injEq] at hv
  rw [hv.1] at hrun
  exact hrun
theorem RestAt.put {w w' : World} {R m : Nat} {dom : (List UInt8) → Bool} {D : DataW Value} (x : (List UInt8)) (t : ByteArray) (hd : Hd3) (h1 : w.ownsMap Tryz.prog 9 heldE R m D) (h2 : ∀ id : (List UInt8), ∃ (t : ByteArray) (h : Hd3), D.atKey (.string id) (.held famZ) = .held (.agg #[.string t, hv3 h])) (h3 : ∀ id : (List UInt8), has D (.string id) = dom id)
    (hm : w'.ownsMap Tryz.prog 9 heldE R (m + 1) (D.put (.string x) (.held (.agg #[.string t, hv3 hd])))) : RestAt w' R (m + 1) (fun id => decide (id = x) || dom id) := by
  refine ⟨⟨_, hm, fun id => ?_, fun id => ?_⟩⟩
  · by_cases e : id = x
    · subst e
      exact ⟨t, hd, by rw [atKey_put_same h1.isMap (str_key _)]⟩
    · rw [atKey_put_other (str_neI e)]
      exact h2 id
  · by_cases e : id = x
    · subst e
      rw [has_put_same h1.isMap (str_key _)]
      simp
    · rw [has_put_other (str_neI e), h3]
      simp [e]
theorem RestAt.congr {w : World} {R m : Nat} {dom dom' : (List UInt8) → Bool} (h : RestAt w R m dom) (h2 : ∀ x, dom' x = dom x) : RestAt w R m dom' := by
  obtain rfl : dom' = dom := funext h2
  exact h
end Go.Proofs.YtdojnbnhogbhiaaGreatDoor

namespace Go.Proofs.YtdojnbnhogbhiaaGreatDoor
open Go.RowKit Go.Maps

/-- The ids of the batches that are out. -/
def outsL (bats : List Bat) : List (List UInt8) := bats.flatMap fun b => if b.inn < 0 then b.ids else []
theorem outsL_append (a b : List Bat) : outsL (a ++ b) = outsL a ++ outsL b := List.flatMap_append
structure DInv (I : List (List UInt8)) (P : List ((List UInt8) × Hd3)) (items : (List UInt8) → List (List UInt8)) (st : (List UInt8) → Int) (bats : List Bat) : Prop where
  nodup : I.Nodup
  perm : (P.flatMap fun p => items p.1).Perm I
  apart : (outsL bats).Nodup
  out : ∀ x, st x = 1 ↔ x ∈ outsL bats
  sub : ∀ b ∈ bats, ∀ x ∈ b.ids, x ∈ I
  inn : ∀ b ∈ bats, b.inn = -1 ∨ 0 ≤ b.inn
theorem DInv.start {I : List (List UInt8)} {P : List ((List UInt8) × Hd3)} {items : (List UInt8) → List (List UInt8)} (h1 : I.Nodup) (h2 : (P.flatMap fun p => items p.1).Perm I) : DInv I P items (fun _ => 0) [] :=
  ⟨h1, h2, List.nodup_nil, fun x => by simp [outsL], (fun b hb => by cases hb), (fun b hb => by cases hb)⟩
theorem DInv.take {I : List (List UInt8)} {P : List ((List UInt8) × Hd3)} {items : (List UInt8) → List (List UInt8)} {st : (List UInt8) → Int} {bats : List Bat} (h : DInv I P items st bats) {most : Int} {b : Bat} (hb : b.inn = -1) (hi : b.ids = takenL st items P most) : DInv I P items (putL 1 b.ids st) (bats ++ [b]) := by
  have ho : outsL (bats ++ [b]) = outsL bats ++ b.ids := by
    rw [outsL_append]
    simp [outsL, hb]
  have hs := taken_sub st items P most
  rw [← hi] at hs
  have h0 : ∀ x ∈ b.ids, st x = 0 := fun x hx => (taken_mem (hi ▸ hx)).1
  refine ⟨h.nodup, h.perm, ?_, fun x => ?_, fun c hc x hx => ?_, fun c hc => ?_⟩
  · rw [ho, List.nodup_append]
    refine ⟨h.apart, (hs.nodup (((h.perm.nodup_iff).2 h.nodup).filter _)), fun a ha c hc e => ?_⟩
    subst e
    have h1 := (h.out a).2 ha
    rw [h0 a hc] at h1
    cases h1
  · rw [ho, List.mem_append, ← h.out x]
    unfold putL
    by_cases hx : x ∈ b.ids <;> simp [hx]
  · rcases List.mem_append.1 hc with hc | hc
    · exact h.sub c hc x hx
    · rw [List.mem_singleton.1 hc] at hx
      have := hs.subset hx
      exact h.perm.subset (List.mem_filter.1 this).1
  · rcases List.mem_append.1 hc with hc | hc
    · exact h.inn c hc
    · rw [List.mem_singleton.1 hc]; exact .inl hb
/-- The states behind a return. -/
def backL (ids done : List (List UInt8)) (st : (List UInt8) → Int) : (List UInt8) → Int := fun x => if x ∈ ids then (if x ∈ done then 2 else 0) else st x
theorem DInv.back {I : List (List UInt8)} {P : List ((List UInt8) × Hd3)} {items : (List UInt8) → List (List UInt8)} {st : (List UInt8) → Int} {bats : List Bat} (h : DInv I P items st bats) {k : Nat} {b : Bat} {z : Int} {done : List (List UInt8)} (hk : bats[k]? = some b) (hb : b.inn = -1) (hz : 0 ≤ z) : DInv I P items (backL b.ids done st) (bats.set k { b with inn := z }) := by
  obtain ⟨hlt, hkb⟩ := List.getElem?_eq_some_iff.1 hk
  have e1 : bats = bats.take k ++ b :: bats.drop (k + 1) := by
    conv => lhs; rw [← List.take_append_drop k bats, List.drop_eq_getElem_cons hlt, hkb]
  have e2 : bats.set k { b with inn := z } = bats.take k ++ { b with inn := z } :: bats.drop (k + 1) := List.set_eq_take_append_cons_drop.trans (if_pos hlt)
  generalize bats.take k = A at e1 e2
  generalize bats.drop (k + 1) = C at e1 e2
  subst e1
  rw [e2]
  have o1 : outsL (A ++ b :: C) = outsL A ++ (b.ids ++ outsL C) := by
    rw [outsL_append]
    simp [outsL, hb]
  have o2 : outsL (A ++ { b with inn := z } :: C) = outsL A ++ outsL C := by
    rw [outsL_append]
    have : ¬ z < 0 := by omega
    simp [outsL, this]
  have hn := h.apart
  rw [o1] at hn
  have ho := h.out
  rw [o1] at ho
  rw [List.nodup_append] at hn
  obtain ⟨n1, n2, n3⟩ := hn
  rw [List.nodup_append] at n2
  obtain ⟨n4, n5, n6⟩ := n2
  refine ⟨h.nodup, h.perm, ?_, fun x => ?_, fun c hc x hx => ?_, fun c hc => ?_⟩
  · rw [o2, List.nodup_append]
    exact ⟨n1, n5, fun a ha c hc => n3 a ha c (List.mem_append_right _ hc)⟩
  · rw [o2]
    unfold backL
    by_cases hx : x ∈ b.ids
    · rw [if_pos hx]
      constructor
      · intro e
        split at e <;> cases e
      · intro hm
        rcases List.mem_append.1 hm with hm | hm
        · exact absurd rfl (n3 x hm x (List.mem_append_left _ hx))
        · exact absurd rfl (n6 x hx x hm)
    · rw [if_neg hx, ho x]
      simp [hx]
  · rcases List.mem_append.1 hc with hc | hc
    · exact h.sub c (List.mem_append_left _ hc) x hx
    · rcases List.mem_cons.1 hc with rfl | hc
      · exact h.sub b (List.mem_append_right _ List.mem_cons_self) x hx
      · exact h.sub c (List.mem_append_right _ (List.mem_cons_of_mem _ hc)) x hx
  · rcases List.mem_append.1 hc with hc | hc
    · exact h.inn c (List.mem_append_left _ hc)
    · rcases List.mem_cons.1 hc with rfl | hc
      · exact .inr hz
      · exact h.inn c (List.mem_append_right _ (List.mem_cons_of_mem _ hc))
/-- How many ids are out. -/
theorem DInv.many {I : List (List UInt8)} {P : List ((List UInt8) × Hd3)} {items : (List UInt8) → List (List UInt8)} {st : (List UInt8) → Int} {bats : List Bat} (h : DInv I P items st bats) : (I.filter fun x => decide (st x = 1)).length = (outsL bats).length := by
  have hp : (I.filter fun x => decide (st x = 1)).Perm (outsL bats) := by
    rw [List.perm_ext_iff_of_nodup (h.nodup.filter _) h.apart]
    intro x
    rw [List.mem_filter, decide_eq_true_eq, h.out x]
    constructor
    · exact fun hh => hh.2
    · intro hx
      refine ⟨?_, hx⟩
      unfold outsL at hx
      obtain ⟨b, hb, hx⟩ := List.mem_flatMap.1 hx
      split at hx
      · exact h.sub b hb x hx
      · cases hx
  exact hp.length_eq
theorem DInv.left {I : List (List UInt8)} {P : List ((List UInt8) × Hd3)} {items : (List UInt8) → List (List UInt8)} {st : (List UInt8) → Int} {bats : List Bat} (h : DInv I P items st bats) : (leftL st items P).length = (I.filter fun x => decide (st x = 0)).length := by
  have : leftL st items P = openL st (P.flatMap fun p => items p.1) := by
    rw [← opensL_flat]
    unfold leftL opensL
    rw [List.flatMap_def]
  rw [this]
  exact (h.perm.filter _).length_eq
end Go.Proofs.YtdojnbnhogbhiaaGreatDoor

namespace Go.Proofs.YtdojnbnhogbhiaaGreatDoor
open Go.RowKit

theorem strE_cellsD (l : List (List UInt8)) : StrE.cells l = l.map fun x => Value.string ⟨x.toArray⟩ := by
  induction l with
  | nil => rfl
  | cons x l ih => simp only [Elem.cells, List.flatMap_cons, List.map_cons] at *; rw [ih]; rfl
theorem own_spoilD {w : World} {B S j : Nat} {v : Value} {l : List (List UInt8)} (h : OwnStrs w B v l) (t : List UInt8) : ∃ l', OwnStrs (w.setCell ⟨S, j, none⟩ (.string ⟨t.toArray⟩)) B v l' ∧ l'.length = l.length := by
  obtain ⟨h1, h2⟩ := h
  rcases h2 with ⟨e, hn⟩ | ⟨g, cap, cur, e, hb, hh, hc1, hc2, hsz, htk⟩
  · exact ⟨l, ⟨h1, .inl ⟨e, hn⟩⟩, rfl⟩
  · by_cases hg : g = S
    · subst hg
      have hcl : StrE.cells (l.set j t) = (StrE.cells l).set j (.string ⟨t.toArray⟩) := by
        rw [strE_cellsD, strE_cellsD, List.map_set]
      refine ⟨l.set j t, ⟨by rw [hcl, List.length_set, List.length_set]; exact h1, .inr ⟨g, cap, cur.setIfInBounds j (.string ⟨t.toArray⟩), by rw [List.length_set]; exact e, hb, ?_, by rw [List.length_set]; exact hc1, hc2, by rw [Array.size_setIfInBounds]; exact hsz, ?_⟩⟩, List.length_set⟩
      · simp [World.setCell, Array.getElem?_modify, hh]
      · rw [hcl, ← htk, List.length_set, Array.toList_setIfInBounds, List.take_set]
    · exact ⟨l, ⟨h1, .inr ⟨g, cap, cur, e, hb, (Below.heap_setCell w ⟨S, j, none⟩ _ g hg).trans hh, hc1, hc2, hsz, htk⟩⟩, rfl⟩
abbrev spoiltD : List UInt8 := [115, 112, 111, 105, 108, 116]
/-- Strings were written into a row, and nothing else was done. -/
structure SpoD (row : Option Nat) (w w' : World) : Prop where
  strs : ∀ (B : Nat) (v : Value) (l : List (List UInt8)), OwnStrs w B v l → ∃ l', OwnStrs w' B v l' ∧ l'.length = l.length
  grown : w.grownBy w' row
theorem SpoD.refl (row : Option Nat) (w : World) : SpoD row w w := ⟨fun _ _ l h => ⟨l, h, rfl⟩, World.grownBy.refl _ _⟩
theorem SpoD.trans {row : Option Nat} {a b c : World} (h : SpoD row a b) (k : SpoD row b c) : SpoD row a c :=
  ⟨fun B v l hl => by
    obtain ⟨l1, h1, n1⟩ := h.strs B v l hl
    obtain ⟨l2, h2, n2⟩ := k.strs B v l1 h1
    exact ⟨l2, h2, n2.trans n1⟩, grown_trans h.grown k.grown⟩
theorem SpoD.set {S j : Nat} {w : World} : SpoD (some S) w (w.setCell ⟨S, j, none⟩ (.string ⟨spoiltD.toArray⟩)) :=
  ⟨fun _ _ _ hl => own_spoilD hl spoiltD, grown_setCell w S j _⟩
theorem Owns.whereD {w : World} {B : Nat} {v : Value} {l : List (List UInt8)} (h : OwnStrs w B v l) (h0 : 0 < l.length) : ∃ S c, v = .slice (some ⟨S, 0, none⟩) l.length c ∧ S < w.heap.size ∧ ∀ k x, l[k]? = some x → w.cell? ⟨S, k, none⟩ = some (.string ⟨x.toArray⟩) ∧ w.frozen? ⟨S, k, none⟩ = false := by
  rcases h.2 with ⟨rfl, hn⟩ | ⟨g, cap, cur, rfl, hb, hh, h1, h2, h3, h4⟩
  · omega
  · refine ⟨g, cap, rfl, (Array.getElem?_eq_some_iff.1 hh).1, fun k x hk => ⟨?_, by simp [World.frozen?, hh]⟩⟩
    have hc := h.cells (g := g) rfl k (.string ⟨x.toArray⟩) (by rw [strE_cellsD, List.getElem?_map, hk]; rfl)
    rw [addr_add, Nat.zero_add] at hc
    exact hc
set_option maxHeartbeats 800000 in
set_option maxRecDepth 100000 in
theorem spoilD_any (base n c : Nat) (A : Option Addr) (l : List (List UInt8)) (w : World) (h : OwnStrs w base (.slice A n c) l) (hl : l.length ≤ 1000) :
    Calls Tryz.prog 8 #[.slice A n c] w fun e w' => e = .returned (.tuple #[]) ∧ SpoD (Value.slice A n c).ownBlock w w' := by
  have hn : n = l.length := by
    obtain ⟨A', c', e, _⟩ := h.at_ strE_ok
    simp only [Value.slice.injEq] at e
    exact e.2.1
  obtain ⟨row, hrow⟩ : ∃ row, row = (Value.slice A n c).ownBlock := ⟨_, rfl⟩
  rw [← hrow]
  have HR := Lib.hid hrow
  have HO := Lib.hid h
  have hnl : n ≤ 1000 := by omega
  have HNL := Lib.hid hn
  clear h hn hl hrow
  go_enter Tryz.func8, Tryz.ntmps8
  go_wp2_with fail
  go_loopg [5] n (fun gk v wr => ∃ k : Nat, Hid (k + gk = n) ∧ v = .int .i64 (k : Int) ∧ Hid (SpoD row w wr))
  case atStart => exact ⟨0, show 0 + n = n by omega, rfl, SpoD.refl _ _⟩
  case round =>
    obtain ⟨k, HK, rfl, HS⟩ := hrel
    have hkn : k ≤ n := by have := HK.out; omega
    by_cases hlt : k < n
    · obtain ⟨l', ho', hl'⟩ := HS.out.strs _ _ _ HO.out
      have hnl' : n = l'.length := by rw [hl']; exact HNL.out
      obtain ⟨S, c', e, hsz, hc⟩ := Owns.whereD ho' (by omega)
      simp only [Value.slice.injEq] at e
      obtain ⟨rfl, _, rfl⟩ := e
      have hk : l'[k]? = some (l'[k]'(by omega)) := List.getElem?_eq_getElem (by omega)
      obtain ⟨hc0, hc1⟩ := hc k _ hk
      have HS2 : Hid (SpoD row w (wr.setCell ⟨S, k, none⟩ (.string ⟨spoiltD.toArray⟩))) := by
        have e := HR.out
        refine HS.out.trans ?_
        rw [e]
        exact SpoD.set
      generalize l'[k]'(by omega) = x at *
      clear hc hk ho' hl' hnl' hsz HS
      go_wp2_with fail
      go_roundg (gk - 1)
      case measure => have := HK.out; omega
      case rel => exact ⟨k + 1, show k + 1 + (gk - 1) = n by have := HK.out; omega, by go_num, HS2.out⟩
    · have hnk : ¬ (k : Int) < (n : Int) := by omega
      go_wp2_with fail
      go_end0
      exact ⟨rfl, HS.out⟩
end Go.Proofs.YtdojnbnhogbhiaaGreatDoor

namespace Go.Proofs.YtdojnbnhogbhiaaGreatDoor
open Go.RowKit Go.Maps
attribute [local go_sem ↓] Go.wp_at_zero Go.wp_at_succ

def BoolD (w : World) (b : Bool) (e : Ending) (w' : World) : Prop := e = .returned (.bool b) ∧ Below w.heap.size w w'
theorem when_stillD (b : Bool) (c : Int) (w : World) : Calls Tryz.prog 30 #[.bool b, .int .i64 c] w fun e w' => e = .returned (.int .i64 (whenE b c)) ∧ w' = w := (when_any b c w).mono fun _ _ h => ⟨h.1, h.2.symm⟩
theorem in_stillD (n lo hi : Int) (w : World) : Calls Tryz.prog 33 #[.int .i64 n, .int .i64 lo, .int .i64 hi] w fun e w' => e = .returned (.bool (inB n lo hi)) ∧ w' = w := (in_any n lo hi w).mono fun _ _ h => ⟨h.1, h.2.symm⟩
theorem moment_allD (z : Int) (w : World) : Calls Tryz.prog 57 #[.int .i64 z] w fun e w' => e = .returned (.bool (inB z 0 5761439)) ∧ w' = w := by
  have hi := in_any z 0 5761439 w
  go_enter Tryz.func57, Tryz.ntmps57
  go_wp2_with fail
  refine hi.mono ?_
  rintro e w' ⟨rfl, hw⟩
  obtain rfl := hw
  go_wp2_with fail
  go_ret
  exact ⟨rfl, rfl⟩
theorem momentE_any (z : Int) (w : World) : Calls Tryz.prog 32 #[.int .i64 z] w fun e w' => e = .returned (.int .i64 (whenE (!inB z 0 5761439) 1)) ∧ w' = w := by
  have hi := moment_allD z w
  generalize inB z 0 5761439 = b at *
  go_enter Tryz.func32, Tryz.ntmps32
  go_wp2_with fail
  refine hi.mono ?_
  rintro e w' ⟨rfl, hw⟩
  obtain rfl := hw
  go_wp2_with fail
  refine (when_stillD _ _ _).mono ?_
  rintro e w' ⟨rfl, hw⟩
  obtain rfl := hw
  go_wp2_with fail
  go_ret
  exact ⟨rfl, rfl⟩
theorem first_5D (a b c d f : Int) (g : Nat) (w : World) (h : g = w.heap.size) (t : TypeId) : Calls Tryz.prog 29 #[.slice (some ⟨g, 0, none⟩) 5 5] (w.alloc (.cells #[.int .i64 a, .int .i64 b, .int .i64 c, .int .i64 d, .int .i64 f] t)) fun e w' => e = .returned (.int .i64 (firstE [a, b, c, d, f])) ∧ (w.alloc (.cells #[.int .i64 a, .int .i64 b, .int .i64 c, .int .i64 d, .int .i64 f] t)) = w' := by
  subst h
  refine first_any _ 5 5 [a, b, c, d, f] _ rfl (by omega) (fun j hj => ?_)
  rw [World.cell?_alloc_at _ _ _ _ rfl]
  match j, hj with
  | 0, _ => rfl
  | 1, _ => rfl
  | 2, _ => rfl
  | 3, _ => rfl
  | 4, _ => rfl
theorem first_3D (a b c : Int) (g : Nat) (w : World) (h : g = w.heap.size) (t : TypeId) : Calls Tryz.prog 29 #[.slice (some ⟨g, 0, none⟩) 3 3] (w.alloc (.cells #[.int .i64 a, .int .i64 b, .int .i64 c] t)) fun e w' => e = .returned (.int .i64 (firstE [a, b, c])) ∧ (w.alloc (.cells #[.int .i64 a, .int .i64 b, .int .i64 c] t)) = w' := by
  subst h
  refine first_any _ 3 3 [a, b, c] _ rfl (by omega) (fun j hj => ?_)
  rw [World.cell?_alloc_at _ _ _ _ rfl]
  match j, hj with
  | 0, _ => rfl
  | 1, _ => rfl
  | 2, _ => rfl
theorem first_2D (a b : Int) (g : Nat) (w : World) (h : g = w.heap.size) (t : TypeId) : Calls Tryz.prog 29 #[.slice (some ⟨g, 0, none⟩) 2 2] (w.alloc (.cells #[.int .i64 a, .int .i64 b] t)) fun e w' => e = .returned (.int .i64 (firstE [a, b])) ∧ (w.alloc (.cells #[.int .i64 a, .int .i64 b] t)) = w' := by
  subst h
  refine first_any _ 2 2 [a, b] _ rfl (by omega) (fun j hj => ?_)
  rw [World.cell?_alloc_at _ _ _ _ rfl]
  match j, hj with
  | 0, _ => rfl
  | 1, _ => rfl
theorem whenE_zero {b : Bool} {c : Int} (hc : c ≠ 0) : whenE b c = 0 ↔ b = false := by cases b <;> simp [whenE, hc]
theorem firstE_zero : ∀ l : List Int, firstE l = 0 ↔ ∀ x ∈ l, x = 0
  | [] => by simp [firstE]
  | e :: l => by
    unfold firstE
    by_cases h : e = 0
    · rw [if_pos h, firstE_zero l]
      simp [h]
    · rw [if_neg h]
      simp [h]
theorem bytes_eqD (a b : ByteArray) : (a.toList == b.toList) = decide (a = b) := by
  rw [Lib.toList_data, Lib.toList_data]
  by_cases h : a = b
  · subst h; simp
  · have h2 : ¬ a.data.toList = b.data.toList := fun e => h (ByteArray.ext (Array.toList_inj.1 e))
    rw [decide_eq_false h]
    exact beq_eq_false_iff_ne.2 h2
/-- Is a batch that of a reviewer, and still out. -/
def outB (who : ByteArray) (b : Bat) : Bool := decide ((⟨b.who.toArray⟩ : ByteArray) = who) && decide (b.inn = -1)
theorem outB_any (B : Nat) (no out inn : Int) (who me : ByteArray) (R : Option Addr) (rn rc : Nat) (w : World) (hc : w.cell? ⟨B, 0, none⟩ = some (.string me)) (hB : B < w.heap.size) :
    Calls Tryz.prog 28 #[.agg #[.int .i64 no, .int .i64 out, .int .i64 inn, .string who, .slice R rn rc], .pointer (some ⟨B, 0, none⟩)] w (BoolD w (decide (who = me) && decide (inn = -1))) := by
  have hb1 : Below w.heap.size w (w.alloc (.cells #[.int .i64 no, .int .i64 out, .int .i64 inn, .string who, .slice R rn rc] 36)) := (Below.refl _ _).alloc (Nat.le_refl _) _
  have HR : Hid (BatB (w.alloc (.cells #[.int .i64 no, .int .i64 out, .int .i64 inn, .string who, .slice R rn rc] 36)) w.heap.size no out inn who (.slice R rn rc)) := heap_alloc_new w _
  have HC : Hid ((w.alloc (.cells #[.int .i64 no, .int .i64 out, .int .i64 inn, .string who, .slice R rn rc] 36)).cell? ⟨B, 0, none⟩ = some (.string me)) := (hb1.cell (p := ⟨B, _, none⟩) hB).trans hc
  have HB := Lib.hid hb1
  have q := bytes_eqD who me
  clear hb1 hc hB
  go_enter Tryz.func28, Tryz.ntmps28
  go_upto_region 1 with (fail)
  obtain ⟨P, hP⟩ : ∃ P, P = w.heap.size := ⟨_, rfl⟩
  rw [← hP] at HR ⊢
  generalize w.alloc (.cells #[.int .i64 no, .int .i64 out, .int .i64 inn, .string who, .slice R rn rc] 36) = w1 at *
  clear hP
  obtain ⟨-, -, d2, d3, -⟩ := HR.out.c
  have dB := HC.out
  by_cases h1 : who = me
  · rw [decide_eq_true h1] at q
    have H1 := Lib.hid h1
    clear h1
    by_cases h2 : inn = -1
    · have q2 : (inn == -1) = true := by simpa using h2
      have H2 := Lib.hid h2
      clear h2
      go_wp2_with fail
      go_ret
      exact ⟨ret_bool (by rw [decide_eq_true H1.out, decide_eq_true H2.out]; rfl), HB.out⟩
    · have q2 : (inn == -1) = false := by simpa using h2
      have H2 := Lib.hid h2
      clear h2
      go_wp2_with fail
      go_ret
      exact ⟨ret_bool (by rw [decide_eq_true H1.out, decide_eq_false H2.out]; rfl), HB.out⟩
  · rw [decide_eq_false h1] at q
    have H1 := Lib.hid h1
    clear h1
    go_wp2_with fail
    go_ret
    exact ⟨ret_bool (by rw [decide_eq_false H1.out]; rfl), HB.out⟩
def IdxPost (w : World) (b : Bool) (e : Ending) (w' : World) : Prop := ∃ r : Int, e = .returned (.int .i64 r) ∧ (0 ≤ r ↔ b = true) ∧ Below w.heap.size w w'
set_option maxHeartbeats 1600000 in
set_option maxRecDepth 100000 in
theorem idxB_any (B : Nat) (me : ByteArray) (A : Option Addr) (n c : Nat) (bats : List Bat) (w : World) (hc : w.cell? ⟨B, 0, none⟩ = some (.string me)) (hB : B < w.heap.size) (hA : ElemsAt BatE w A n c bats) (hn : n ≤ 1000) :
    Calls Tryz.prog 54 #[.slice A n c, .func (.func 28) #[] #[.pointer (some ⟨B, 0, none⟩)]] w (IdxPost w (bats.any (outB me))) := by
  have HN := Lib.hid hA.1
  have HA := Lib.hid hA
  have HC : Hid (∀ wx, Below w.heap.size w wx → wx.cell? ⟨B, 0, none⟩ = some (.string me) ∧ B < wx.heap.size) := fun wx hb => ⟨(hb.cell (p := ⟨B, _, none⟩) hB).trans hc, Nat.lt_of_lt_of_le hB hb.size⟩
  clear hA hc hB
  go_enter Tryz.func54, Tryz.ntmps54
  go_wp2_with fail
  go_loopg [8] n (fun gk v wr => ∃ k : Nat, Hid (k + gk = n) ∧ v = .int .i64 (k : Int) ∧ Hid ((bats.take k).any (outB me) = false) ∧ Hid (Below w.heap.size w wr))
  case atStart => exact ⟨0, show 0 + n = n by omega, rfl, rfl, Below.refl _ _⟩
  case round =>
    obtain ⟨k, HKK, rfl, HNO, HW⟩ := hrel
    have hkn : k ≤ n := by have := HKK.out; omega
    by_cases hlt : k < n
    · have HGK := Lib.hid (show k + 1 + (gk - 1) = n ∧ 0 < gk by have := HKK.out; omega)
      obtain ⟨gA, off, rfl, hgA, hcA⟩ := (ElemsAt.keep HA.out HW.out).2.2.2 (by omega)
      have hkl : k < bats.length := by rw [← HN.out]; exact hlt
      obtain ⟨p, hp⟩ : ∃ p, bats[k]? = some p := ⟨_, List.getElem?_eq_getElem hkl⟩
      have c0 := hcA k p 0 (.int .i64 p.no) hp rfl
      have c1 := hcA k p 1 (.int .i64 p.out) hp rfl
      have c2 := hcA k p 2 (.int .i64 p.inn) hp rfl
      have c3 := hcA k p 3 (.string ⟨p.who.toArray⟩) hp rfl
      have c4 := hcA k p 4 (hv3 p.hd) hp rfl
      have e2 : BatE.size = 5 := rfl
      rw [e2] at c0 c1 c2 c3 c4
      rw [Nat.add_zero] at c0
      have HTK : Hid ((bats.take (k + 1)).any (outB me) = ((bats.take k).any (outB me) || outB me p)) := by
        show _ = _
        obtain ⟨h1, h2⟩ := List.getElem?_eq_some_iff.1 hp
        rw [List.take_succ_eq_append_getElem h1, h2, List.any_append]
        simp
      have HMEM : Hid (outB me p = true → bats.any (outB me) = true) := fun h => List.any_eq_true.2 ⟨p, List.mem_of_getElem? hp, h⟩
      obtain ⟨hcw, hBw⟩ := HC.out wr HW.out
      obtain ⟨pno, pout, pinn, pwho, ⟨R, rn, rc⟩, pids⟩ := p
      simp only [hv3] at c0 c1 c2 c3 c4
      have HOB := Lib.hid (outB_any B pno pout pinn ⟨pwho.toArray⟩ me R rn rc wr hcw hBw)
      have HDEF : Hid (outB me ⟨pno, pout, pinn, pwho, (R, rn, rc), pids⟩ = (decide ((⟨pwho.toArray⟩ : ByteArray) = me) && decide (pinn = -1))) := show _ = _ from rfl
      clear hcA hkl hp hcw hBw
      generalize (decide ((⟨pwho.toArray⟩ : ByteArray) = me) && decide (pinn = -1)) = b at *
      go_wp2_with fail
      refine HOB.out.mono ?_
      rintro e w4 ⟨rfl, hb4⟩
      have HW4 := Lib.hid (HW.out.trans (hb4.mono HW.out.size))
      clear hb4 HOB c0 c1 c2 c3 c4
      cases b with
      | true =>
        have HF : Hid (IdxPost w (bats.any (outB me)) (.returned (.int .i64 (k : Int))) w4) := ⟨(k : Int), rfl, ⟨fun _ => HMEM.out HDEF.out, fun _ => by omega⟩, HW4.out⟩
        go_wp2_with fail
        go_ret
        exact HF.out
      | false =>
        go_wp2_with fail
        go_roundg (gk - 1)
        case measure => have := HGK.out; omega
        case rel => exact ⟨k + 1, HGK.out.1, by go_num, by show _ = _; rw [HTK.out, HNO.out, HDEF.out]; rfl, HW4.out⟩
    · have hnk : ¬ (k : Int) < (n : Int) := by omega
      have hta : bats.take k = bats := List.take_of_length_le (by have := HN.out; omega)
      rw [hta] at HNO
      have HF : Hid (IdxPost w (bats.any (outB me)) (.returned (.int .i64 (-1))) wr) := ⟨-1, rfl, ⟨fun h => by omega, fun h => by rw [HNO.out] at h; cases h⟩, HW.out⟩
      clear hta
      go_wp2_with fail
      go_ret
      exact HF.out
theorem hasB_any (B : Nat) (me : ByteArray) (A : Option Addr) (n c : Nat) (bats : List Bat) (w : World) (hc : w.cell? ⟨B, 0, none⟩ = some (.string me)) (hB : B < w.heap.size) (hA : ElemsAt BatE w A n c bats) (hn : n ≤ 1000) :
    Calls Tryz.prog 27 #[.slice A n c, .func (.func 28) #[] #[.pointer (some ⟨B, 0, none⟩)]] w (BoolD w (bats.any (outB me))) := by
  have HI := Lib.hid (idxB_any B me A n c bats w hc hB hA hn)
  generalize bats.any (outB me) = b at *
  go_enter Tryz.func27, Tryz.ntmps27
  go_wp2_with fail
  refine HI.out.mono ?_
  rintro e w4 ⟨r, rfl, hr, hb4⟩
  have HB4 := Lib.hid hb4
  have HR := Lib.hid hr
  clear hb4 hr
  by_cases h0 : 0 ≤ r
  · have hb := HR.out.1 h0
    go_wp2_with fail
    go_ret
    exact ⟨ret_bool (by first | exact hb.symm | (rw [hb]; simpa using h0)), HB4.out⟩
  · have hb : b = false := by
      cases b with
      | false => rfl
      | true => exact absurd (HR.out.2 rfl) h0
    go_wp2_with fail
    go_ret
    exact ⟨ret_bool (by first | exact hb.symm | (rw [hb]; simpa using h0)), HB4.out⟩
end Go.Proofs.YtdojnbnhogbhiaaGreatDoor

namespace Go.Proofs.YtdojnbnhogbhiaaGreatDoor
open Go.RowKit Go.Maps
attribute [local go_sem ↓] Go.wp_at_zero Go.wp_at_succ

def BatsPost (w : World) (bats : List Bat) (e : Ending) (w' : World) : Prop := ∃ v out, e = .returned v ∧ BatsIn w' w.heap.size v out ∧ out.map Bat.core = bats.map Bat.core ∧ Below w.heap.size w w'
set_option maxHeartbeats 1600000 in
set_option maxRecDepth 100000 in
theorem batches_any (base g : Nat) (bv : Value) (bats : List Bat) (w : World) (hc : w.cell? ⟨g, 2, none⟩ = some bv) (hB : BatsIn w base bv bats) (hn : bats.length ≤ 1000) (hi : ∀ p ∈ bats, p.ids.length ≤ 10000) :
    Calls Tryz.prog 11 #[.pointer (some ⟨g, 0, none⟩)] w (BatsPost w bats) := by
  obtain ⟨A, c, rfl, -, hat, -⟩ := hB.own.at_ batE_ok
  have HA := Lib.hid hat
  have HROW := Lib.hid hB.row
  have HI := Lib.hid hi
  obtain ⟨n, hN⟩ : ∃ n, n = bats.length := ⟨_, rfl⟩
  rw [← hN] at HA hc hn
  have HN := Lib.hid hN
  clear hat hB hi hN
  go_enter Tryz.func11, Tryz.ntmps11
  go_wp2_with fail
  clear hc
  go_loopg [3, 11] n (fun gk v3 v wr => ∃ (k : Nat) (out : List Bat), Hid (k + gk = n) ∧ v = .int .i64 (k : Int) ∧ Hid (BatsIn wr w.heap.size v3 out) ∧ Hid (out.map Bat.core = (bats.take k).map Bat.core) ∧ Hid (Below w.heap.size w wr))
  case atStart => exact ⟨0, [], show 0 + n = n by omega, rfl, ⟨Owns.nil _ _, fun p hp => by cases hp⟩, rfl, Below.refl _ _⟩
  case round =>
    obtain ⟨k, out, HKK, rfl, HO, HCO, HW⟩ := hrel
    have hkn : k ≤ n := by have := HKK.out; omega
    by_cases hlt : k < n
    · have HGK := Lib.hid (show k + 1 + (gk - 1) = n ∧ 0 < gk by have := HKK.out; omega)
      obtain ⟨gA, off, rfl, hgA, hcA⟩ := (ElemsAt.keep HA.out HW.out).2.2.2 (by omega)
      have hkl : k < bats.length := by rw [← HN.out]; exact hlt
      obtain ⟨p, hp⟩ : ∃ p, bats[k]? = some p := ⟨_, List.getElem?_eq_getElem hkl⟩
      have hmem : p ∈ bats := List.mem_of_getElem? hp
      have c0 := hcA k p 0 (.int .i64 p.no) hp rfl
      have c1 := hcA k p 1 (.int .i64 p.out) hp rfl
      have c2 := hcA k p 2 (.int .i64 p.inn) hp rfl
      have c3 := hcA k p 3 (.string ⟨p.who.toArray⟩) hp rfl
      have c4 := hcA k p 4 (hv3 p.hd) hp rfl
      have e2 : BatE.size = 5 := rfl
      rw [e2] at c0 c1 c2 c3 c4
      rw [Nat.add_zero] at c0
      have hRow : OwnStrs wr base (hv3 p.hd) p.ids := (HROW.out p hmem).below_ HW.out
      have hlen := HI.out p hmem
      have hol : out.length = k := by
        have := congrArg List.length HCO.out
        rw [List.length_map, List.length_map, List.length_take] at this
        omega
      have HCN : Hid ((out.map Bat.core) ++ [p.core] = (bats.take (k + 1)).map Bat.core) := by
        show _ = _
        obtain ⟨h1, h2⟩ := List.getElem?_eq_some_iff.1 hp
        rw [List.take_succ_eq_append_getElem h1, h2, List.map_append, HCO.out]
        rfl
      obtain ⟨pno, pout, pinn, pwho, ⟨R, rn, rc⟩, pids⟩ := p
      simp only [hv3] at c0 c1 c2 c3 c4 hRow hlen HCN
      obtain ⟨R', rc', hv, -, hat, -⟩ := hRow.at_ strE_ok
      simp only [Value.slice.injEq] at hv
      obtain ⟨rfl, hrn, rfl⟩ := hv
      rw [← hrn] at hat
      have hrn2 : rn ≤ 10000 := by omega
      have hb1 : Below wr.heap.size wr (wr.alloc (.cells #[.int .i64 pno, .int .i64 pout, .int .i64 pinn, .string ⟨pwho.toArray⟩, .slice R rn rc] 36)) := (Below.refl _ _).alloc (Nat.le_refl _) _
      have HR4 : Hid (BatB (wr.alloc (.cells #[.int .i64 pno, .int .i64 pout, .int .i64 pinn, .string ⟨pwho.toArray⟩, .slice R rn rc] 36)) wr.heap.size pno pout pinn ⟨pwho.toArray⟩ (.slice R rn rc)) := heap_alloc_new wr _
      have HAT := Lib.hid (ElemsAt.keep hat hb1)
      have HB1 := Lib.hid hb1
      clear hcA hkl hp hmem hRow hat hb1 hrn hlen
      go_upto_region 5 with (fail)
      obtain ⟨Q, hQ⟩ : ∃ Q, Q = wr.heap.size := ⟨_, rfl⟩
      rw [← hQ] at HR4 ⊢
      have HQ := Lib.hid hQ
      generalize wr.alloc (.cells #[.int .i64 pno, .int .i64 pout, .int .i64 pinn, .string ⟨pwho.toArray⟩, .slice R rn rc] 36) = w4 at *
      clear c0 c1 c2 c3 c4 hQ
      obtain ⟨d0, d1, d2, d3, d4⟩ := HR4.out.c
      have HCL := Lib.hid (clone_any R rn rc pids w4 HAT.out (by omega))
      go_wp2_with fail
      refine HCL.out.mono ?_
      rintro e w5 ⟨v5, rfl, hown5, hb5⟩
      obtain ⟨A5, c5, hv5, -, -, -⟩ := hown5.at_ strE_ok
      subst hv5
      have HR5 := Lib.hid (HR4.out.keep hb5)
      have hz4 := HB1.out.size
      have hq4 := HR4.out.lt
      have hqq := HQ.out
      have hX0 : Below wr.heap.size wr w5 := HB1.out.trans (hb5.mono hz4)
      have HX : Hid (Below wr.heap.size wr (w5.setCell ⟨Q, 4, none⟩ (.slice A5 pids.length c5))) := hX0.setCell (show wr.heap.size ≤ Q by omega) _
      have HRX := Lib.hid (HR5.out.set4 (.slice A5 pids.length c5))
      have HOX : Hid (OwnStrs (w5.setCell ⟨Q, 4, none⟩ (.slice A5 pids.length c5)) w.heap.size (.slice A5 pids.length c5) pids) := by
        have h1 : OwnStrs (w5.setCell ⟨Q, 4, none⟩ (.slice A5 pids.length c5)) w4.heap.size (.slice A5 pids.length c5) pids := hown5.kept_ (grown_setCell _ _ _ _) (fun i e => by cases e; omega)
        exact h1.base_ (Nat.le_trans HW.out.size hz4)
      have df4 := HR5.out.f 4
      clear hown5 hb5 HCL hX0 d0 d1 d2 d3 d4 hqq
      obtain ⟨d0, d1, d2, d3, d4⟩ := HR5.out.c
      go_upto_region 6 with (fail)
      generalize w5.setCell ⟨Q, 4, none⟩ (.slice A5 pids.length c5) = X at *
      clear df4 HR5 HR4 d0 d1 d2 d3 d4
      obtain ⟨d0, d1, d2, d3, d4⟩ := HRX.out.c
      have hOB : BatsIn X w.heap.size u3 out := HO.out.keep HX.out
      have HBX : Hid (Below w.heap.size w X) := HW.out.trans (HX.out.mono HW.out.size)
      have hxs := HBX.out.size
      have hal : Below X.heap.size X (X.alloc (.cells #[.int .i64 pno, .int .i64 pout, .int .i64 pinn, .string ⟨pwho.toArray⟩, .slice A5 pids.length c5] 36)) := (Below.refl _ _).alloc (Nat.le_refl _) _
      have HOB := Lib.hid (hOB.keep hal)
      have HOX2 := Lib.hid (HOX.out.below_ hal)
      have HAL := Lib.hid (HBX.out.trans (hal.mono hxs))
      have hsa : w.heap.size ≤ (X.alloc (.cells #[.int .i64 pno, .int .i64 pout, .int .i64 pinn, .string ⟨pwho.toArray⟩, .slice A5 pids.length c5] 36)).heap.size := HAL.out.size
      have HONE : Hid (ElemsAt BatE (X.alloc (.cells #[.int .i64 pno, .int .i64 pout, .int .i64 pinn, .string ⟨pwho.toArray⟩, .slice A5 pids.length c5] 36)) (some ⟨X.heap.size, 0, none⟩) 1 1 [⟨pno, pout, pinn, pwho, (A5, pids.length, c5), pids⟩]) := one_elem (E := BatE) X ⟨pno, pout, pinn, pwho, (A5, pids.length, c5), pids⟩
      have hsl : out.length + 1 ≤ 100000 := by omega
      clear hOB hal HOX HBX HX HO HW HQ hq4
      go_wp2_with (at_builtin; refine append_elems batE_ok rfl _ _ rfl w.heap.size u3 out rfl HOB.out.own (some ⟨X.heap.size, 0, none⟩) 1 1 [⟨pno, pout, pinn, pwho, (A5, pids.length, c5), pids⟩] rfl HONE.out hsl hsa ?_; intro v6 w6 hown6 hgrow6 _)
      have HO6 : Hid (BatsIn w6 w.heap.size v6 (out ++ [⟨pno, pout, pinn, pwho, (A5, pids.length, c5), pids⟩])) := HOB.out.push HOX2.out hown6 hgrow6
      have HB6 : Hid (Below w.heap.size w w6) := HAL.out.grown hgrow6 hsa (fun i e => (HOB.out.own.lt i e).1)
      clear hown6 hgrow6
      go_wp2_with fail
      go_roundg (gk - 1)
      case measure => have := HGK.out; omega
      case rel => exact ⟨k + 1, _, HGK.out.1, by go_num, HO6.out, by show _ = _; rw [← HCN.out, List.map_append]; rfl, HB6.out⟩
    · have hta : bats.take k = bats := List.take_of_length_le (by rw [← HN.out]; omega)
      rw [hta] at HCO
      have HF : Hid (BatsPost w bats (.returned u3) wr) := ⟨u3, out, rfl, HO.out, HCO.out, HW.out⟩
      clear hta
      go_wp2_with fail
      go_ret
      exact HF.out
end Go.Proofs.YtdojnbnhogbhiaaGreatDoor

namespace Go.Proofs.YtdojnbnhogbhiaaGreatDoor
open Go.RowKit Go.Maps
attribute [local go_sem ↓] Go.wp_at_zero Go.wp_at_succ

theorem frozen_desk {w : World} {g : Nat} {cs : Array Value} {t : TypeId} (h : w.heap[g]? = some (.cells cs t (0, 0))) (j : Nat) : w.frozen? ⟨g, j, none⟩ = false := by simp [World.frozen?, h]
theorem set5_grown (w : World) (R : Nat) (a b c d e : Value) : w.grownBy (((((w.setCell ⟨R, 0, none⟩ a).setCell ⟨R, 1, none⟩ b).setCell ⟨R, 2, none⟩ c).setCell ⟨R, 3, none⟩ d).setCell ⟨R, 4, none⟩ e) (some R) :=
  grown_trans (grown_trans (grown_trans (grown_trans (grown_setCell _ _ _ _) (grown_setCell _ _ _ _)) (grown_setCell _ _ _ _)) (grown_setCell _ _ _ _)) (grown_setCell _ _ _ _)
theorem ButD.of_grown1 {Q R : Nat} {w w' : World} (h : w.grownBy w' (some Q)) : ButD Q R w w' := ⟨h.size, fun i hi h1 _ => h.block i hi (fun e => h1 (Option.some.inj e))⟩
theorem ButD.of_grown2 {Q R : Nat} {w w' : World} (h : w.grownBy w' (some R)) : ButD Q R w w' := ⟨h.size, fun i hi _ h1 => h.block i hi (fun e => h1 (Option.some.inj e))⟩
def batV (b : Bat) : Value := .agg #[.int .i64 b.no, .int .i64 b.out, .int .i64 b.inn, .string ⟨b.who.toArray⟩, hv3 b.hd]
/-- When Take may hand out a batch. -/
structure TakeOk (who : ByteArray) (at_ most : Int) (bats : List Bat) (last : Int) : Prop where
  key : keyL who.data.toList = true
  mom : 0 ≤ at_ ∧ at_ ≤ 5761439
  ord : last ≤ at_
  few : 1 ≤ most ∧ most ≤ 500
  free : bats.any (outB who) = false
def bat0 : Bat := ⟨0, 0, 0, [], (none, 0, 0), []⟩
/-- What Take leaves. -/
def TakeDPost (w : World) (base g M : Nat) (fv bv : Value) (P : List (List UInt8 × Hd3)) (items : List UInt8 → List (List UInt8)) (dom : List UInt8 → Bool) (m : Nat) (st : List UInt8 → Int) (bats : List Bat) (last : Int) (who : ByteArray) (at_ most : Int) (e : Ending) (w' : World) : Prop :=
  ∃ (b : Bat) (C : Nat) (z : Int), e = .returned (.tuple #[batV b, .int .i64 z]) ∧ OwnStrs w' C (hv3 b.hd) b.ids ∧ base ≤ C ∧ C ≤ w'.heap.size ∧ Below base w w' ∧
    ((z ≠ 0 ∧ (∀ w'', Below C w' w'' → DeskAt w'' base g M fv P items dom m bv st bats last) ∧ b.ids = [] ∧ (TakeOk who at_ most bats last → z = 8 ∧ takenL st items P most = []))
    ∨ (z = 0 ∧ b.ids = takenL st items P most ∧ b.ids ≠ [] ∧ 0 ≤ at_ ∧ ∃ (bv' : Value) (hd : Hd3), ∀ w'', Below C w' w'' → DeskAt w'' base g M fv P items dom (m + b.ids.length) bv' (putL 1 b.ids st) (bats ++ [⟨(bats.length : Int) + 1, at_, -1, who.data.toList, hd, b.ids⟩]) at_))
/-- Behind the append of a batch. -/
structure AppAt (w : World) (base g M : Nat) (fv : Value) (P : List (List UInt8 × Hd3)) (items : List UInt8 → List (List UInt8)) (dom : List UInt8 → Bool) (m : Nat) (bv : Value) (st : List UInt8 → Int) (bats : List Bat) (last : Int) (b : Bat) (Q R : Nat) (v : Value) : Prop where
  desk : DeskAt w base g M fv P items dom m bv st (bats ++ [b]) last
  nQ : bv.ownBlock ≠ some Q
  nR : bv.ownBlock ≠ some R
  hQ : BatB w Q b.no b.out b.inn ⟨b.who.toArray⟩ (hv3 b.hd)
  hR : BatB w R 0 0 0 ⟨#[]⟩ v
  own : OwnStrs w base (hv3 b.hd) b.ids
theorem DeskAt.ne_bat {w : World} {base g M m Q : Nat} {fv bv : Value} {P : List (List UInt8 × Hd3)} {items : List UInt8 → List (List UInt8)} {dom : List UInt8 → Bool} {st : List UInt8 → Int} {bats : List Bat} {last no out inn : Int} {who : ByteArray} {v : Value} (h : DeskAt w base g M fv P items dom m bv st bats last) (hQ : BatB w Q no out inn who v) : g ≠ Q := fun e => by
  subst e
  have := h.row
  unfold BatB at hQ
  rw [hQ] at this
  simp only [Option.some.injEq, Obj.cells.injEq] at this
  exact desk_ne_bat this.2.1.symm
theorem take_app {X w : World} {base g M m Q R : Nat} {fv bv bv' : Value} {P : List (List UInt8 × Hd3)} {items : List UInt8 → List (List UInt8)} {dom : List UInt8 → Bool} {st : List UInt8 → Int} {bats : List Bat} {last : Int} {b : Bat} {v : Value}
    (hD : DeskAt X base g M fv P items dom m bv st bats last) (ho : Owns BatE w base bv' (bats ++ [b])) (hg : X.grownBy w bv.ownBlock) (hv : bv'.ownBlock = bv.ownBlock ∨ bv'.ownBlock = some X.heap.size) (hb : OwnStrs X base (hv3 b.hd) b.ids) (hQ : BatB X Q b.no b.out b.inn ⟨b.who.toArray⟩ (hv3 b.hd)) (hR : BatB X R 0 0 0 ⟨#[]⟩ v) (nQ : bv.ownBlock ≠ some Q) (nR : bv.ownBlock ≠ some R) :
    AppAt (w.setCell ⟨g, 2, none⟩ bv') base g M fv P items dom m bv' st bats last b Q R v := by
  have hQ' : BatB w Q b.no b.out b.inn ⟨b.who.toArray⟩ (hv3 b.hd) := (hg.block Q hQ.lt (Ne.symm nQ)).trans hQ
  have hR' : BatB w R 0 0 0 ⟨#[]⟩ v := (hg.block R hR.lt (Ne.symm nR)).trans hR
  have hr : w.heap[g]? = some (.cells #[fv, .map (some M), bv, .int .i64 last] 65 (0, 0)) := (hg.block g hD.lt (fun e => hD.bats.own.ne_block hD.row desk_ne_bat e.symm)).trans hD.row
  refine ⟨hD.app ho hg hb, ?_, ?_, (Below.heap_setCell w ⟨g, 2, none⟩ _ Q (hD.ne_bat hQ).symm).trans hQ', (Below.heap_setCell w ⟨g, 2, none⟩ _ R (hD.ne_bat hR).symm).trans hR', (hb.beside hD.bats.own bat_ne hg).setDesk hr desk_ne⟩
  · rcases hv with e | e
    · rw [e]; exact nQ
    · rw [e]; intro h; have := Option.some.inj h; have := hQ.lt; omega
  · rcases hv with e | e
    · rw [e]; exact nR
    · rw [e]; intro h; have := Option.some.inj h; have := hR.lt; omega
theorem take_err {w V : World} {base g M m R : Nat} {fv bv : Value} {P : List (List UInt8 × Hd3)} {items : List UInt8 → List (List UInt8)} {dom : List UInt8 → Bool} {st : List UInt8 → Int} {bats : List Bat} {last : Int} {who : ByteArray} {at_ most : Int} {v : Value}
    (hD : DeskAt V base g M fv P items dom m bv st bats last) (hR : BatB V R 0 0 0 ⟨#[]⟩ v) (hn : bv.ownBlock ≠ some R) (hB : Below base w V) (hbs : base ≤ V.heap.size) (hbR : base ≤ R) (z : Int) (hz : z ≠ 0) (hi : TakeOk who at_ most bats last → z = 8 ∧ takenL st items P most = []) :
    TakeDPost w base g M fv bv P items dom m st bats last who at_ most (.returned (.tuple #[.agg #[.int .i64 0, .int .i64 0, .int .i64 0, .string ⟨#[]⟩, .slice none 0 0], .int .i64 z])) (((((V.setCell ⟨R, 0, none⟩ (.int .i64 0)).setCell ⟨R, 1, none⟩ (.int .i64 0)).setCell ⟨R, 2, none⟩ (.int .i64 0)).setCell ⟨R, 3, none⟩ (.string ⟨#[]⟩)).setCell ⟨R, 4, none⟩ (.slice none 0 0)) := by
  have hg := set5_grown V R (.int .i64 0) (.int .i64 0) (.int .i64 0) (.string ⟨#[]⟩) (.slice none 0 0)
  refine ⟨bat0, V.heap.size, z, rfl, Owns.nil _ _, hbs, hg.size, hB.grown hg hbs (fun i e => by cases e; exact hbR), .inl ⟨hz, fun w'' hb'' => ?_, rfl, hi⟩⟩
  exact hD.but (Q := R) (R := R) ((ButD.of_grown1 hg).below hb'') hR hR hn hn
set_option maxHeartbeats 3200000 in
set_option maxRecDepth 100000 in
theorem take_any (base g M m : Nat) (fv bv : Value) (P : List (List UInt8 × Hd3)) (items : List UInt8 → List (List UInt8)) (dom : List UInt8 → Bool) (st : List UInt8 → Int) (bats : List Bat) (last : Int) (who : ByteArray) (at_ most : Int) (w : World)
    (hD : DeskAt w base g M fv P items dom m bv st bats last) (hw : who.size ≤ 1000000) (hP : P.length ≤ 100) (hi : ∀ p ∈ P, (items p.1).length ≤ 100 ∧ ∀ x ∈ items p.1, x.length ≤ 1000) (hdom : ∀ p ∈ P, ∀ x ∈ items p.1, dom x = true) (hb : bats.length ≤ 900) (hm : m ≤ 1000000) :
    Calls Tryz.prog 9 #[.pointer (some ⟨g, 0, none⟩), .string who, .int .i64 at_, .int .i64 most] w (TakeDPost w base g M fv bv P items dom m st bats last who at_ most) := by
  obtain ⟨FA, fc, rfl, -, -, -⟩ := hD.fam.at_ famE_ok
  obtain ⟨BA, bc, rfl, -, -, -⟩ := hD.bats.own.at_ batE_ok
  obtain ⟨np, hnp⟩ : ∃ np, np = P.length := ⟨_, rfl⟩
  obtain ⟨nb, hnb⟩ : ∃ nb, nb = bats.length := ⟨_, rfl⟩
  rw [← hnp] at hD hP ⊢
  rw [← hnb] at hD hb ⊢
  have HNP := Lib.hid hnp
  have HNB := Lib.hid hnb
  have HI := Lib.hid hi
  have HDOM := Lib.hid hdom
  have HKT := Lib.hid (TakeOk.key (who := who) (at_ := at_) (most := most) (bats := bats) (last := last))
  have HW := Lib.hid hw
  have hbase : base ≤ w.heap.size := Nat.le_trans hD.hg (Nat.le_of_lt hD.lt)
  obtain ⟨B, hB⟩ : ∃ B, B = w.heap.size := ⟨_, rfl⟩
  have hz1 : (w.alloc (.cells #[.string who] 9)).heap.size = B + 1 := by rw [hB]; simp
  have hb1 : Below w.heap.size w (w.alloc (.cells #[.string who] 9)) := (Below.refl _ _).alloc (Nat.le_refl _) _
  have hb2 : Below w.heap.size w ((w.alloc (.cells #[.string who] 9)).alloc (.cells #[.int .i64 0, .int .i64 0, .int .i64 0, .string ⟨#[]⟩, .slice none 0 0] 36)) := hb1.alloc hb1.size _
  have HRES : Hid (BatB ((w.alloc (.cells #[.string who] 9)).alloc (.cells #[.int .i64 0, .int .i64 0, .int .i64 0, .string ⟨#[]⟩, .slice none 0 0] 36)) (B + 1) 0 0 0 ⟨#[]⟩ (.slice none 0 0)) := by
    have := heap_alloc_new (w.alloc (.cells #[.string who] 9)) (.cells #[.int .i64 0, .int .i64 0, .int .i64 0, .string ⟨#[]⟩, .slice none 0 0] 36)
    rw [hz1] at this
    exact this
  have HWHO : Hid (((w.alloc (.cells #[.string who] 9)).alloc (.cells #[.int .i64 0, .int .i64 0, .int .i64 0, .string ⟨#[]⟩, .slice none 0 0] 36)).heap[B]? = some (.cells #[.string who] 9 (0, 0))) := by
    have h1 := heap_alloc_new w (.cells #[.string who] 9)
    rw [← hB] at h1
    exact (Below.heap_alloc _ _ B (by omega)).trans h1
  have HD2 := Lib.hid (hD.keep hb2)
  have HB2 := Lib.hid hb2
  have HBB : Hid (base ≤ B ∧ B = w.heap.size) := ⟨by omega, hB⟩
  have HNO1 : Hid (∀ b, (Value.slice BA nb bc).ownBlock = some b → b < B) := fun b e => by have := (hD.bats.own.lt b e).2; omega
  clear hnp hnb hi hdom hw hz1 hb1 hb2 hD
  go_enter Tryz.func9, Tryz.ntmps9
  go_upto_region 1 with (fail)
  rw [← hB]
  generalize (w.alloc (.cells #[.string who] 9)).alloc (.cells #[.int .i64 0, .int .i64 0, .int .i64 0, .string ⟨#[]⟩, .slice none 0 0] 36) = w2 at *
  clear hB
  have hlt1 := HRES.out.lt
  have dw : w2.cell? ⟨B, 0, none⟩ = some (.string who) := by rw [cell_of_row w2 B 0 _ _ _ HWHO.out]; rfl
  obtain ⟨-, -, g2, -⟩ := HD2.out.c
  obtain ⟨A', c', hv', -, hat', -⟩ := HD2.out.bats.own.at_ batE_ok
  have hnb' := HNB.out
  rw [← hnb'] at hv' hat'
  simp only [Value.slice.injEq] at hv'
  obtain ⟨rfl, -, rfl⟩ := hv'
  have HHAS := Lib.hid (hasB_any B who BA nb bc bats w2 dw (by omega) hat' (by omega))
  clear hat' hnb' dw
  go_wp2_with fail
  refine HHAS.out.mono ?_
  rintro e w3 ⟨rfl, hb3⟩
  have HD3 := Lib.hid (HD2.out.keep hb3)
  have HRES3 := Lib.hid (HRES.out.keep hb3)
  have HWHO3 := Lib.hid ((hb3.block B (by omega)).trans HWHO.out)
  have HB3 := Lib.hid (HB2.out.trans (hb3.mono HB2.out.size))
  clear g2 hb3 HD2 HRES HWHO HB2 HHAS
  have HHF : Hid (bats.any (outB who) = bats.any (outB who)) := rfl
  obtain ⟨hs, hhs⟩ : ∃ hs, hs = bats.any (outB who) := ⟨_, rfl⟩
  rw [← hhs]
  have HHS := Lib.hid hhs
  clear hhs HHF
  have dw : w3.cell? ⟨B, 0, none⟩ = some (.string who) := by rw [cell_of_row w3 B 0 _ _ _ HWHO3.out]; rfl
  obtain ⟨-, -, -, g3⟩ := HD3.out.c
  go_wp2_with fail
  refine wp_region_still_tail 19 (by kernel_rfl) (by kernel_rfl) ?_
  simp only [List.take_succ_cons, List.take_zero, List.drop_succ_cons, List.drop_zero]
  repeat still_step
  still_call (keyAll_any who _ HW.out)
  repeat still_step
  still_call (when_stillD _ _ _)
  repeat still_step
  still_call (momentE_any _ _)
  repeat still_step
  still_call (when_stillD _ _ _)
  repeat still_step
  still_call (in_stillD _ _ _ _)
  repeat still_step
  still_call (when_stillD _ _ _)
  repeat still_step
  still_call (when_stillD _ _ _)
  repeat still_step
  refine wpStill_nil ?_
  change wpList _ _ _ _ _ w3.drew
  have HDY := Lib.hid (HD3.out.keep ((Below.refl _ _).drew))
  have HRESY := Lib.hid (HRES3.out.keep ((Below.refl _ _).drew))
  have HWHOY : Hid (w3.drew.heap[B]? = some (.cells #[.string who] 9 (0, 0))) := HWHO3.out
  have HBY := Lib.hid (HB3.out.drew)
  clear HD3 HRES3 HWHO3 HB3 dw g3
  generalize w3.drew = Y at *
  generalize hE : firstE [whenE (!keyL who.data.toList) 5, whenE (!inB at_ 0 5761439) 1, whenE (decide (at_ < last)) 7, whenE (!inB most 1 500) 1, whenE hs 11] = Z at *
  have hF5 : ∀ (g : Nat) (w : World) (h : g = w.heap.size) (t : TypeId), Calls Tryz.prog 29 #[.slice (some ⟨g, 0, none⟩) 5 5] (w.alloc (.cells #[.int .i64 (whenE (!keyL who.data.toList) 5), .int .i64 (whenE (!inB at_ 0 5761439) 1), .int .i64 (whenE (decide (at_ < last)) 7), .int .i64 (whenE (!inB most 1 500) 1), .int .i64 (whenE hs 11)] t)) fun e w' => e = .returned (.int .i64 Z) ∧ (w.alloc (.cells #[.int .i64 (whenE (!keyL who.data.toList) 5), .int .i64 (whenE (!inB at_ 0 5761439) 1), .int .i64 (whenE (decide (at_ < last)) 7), .int .i64 (whenE (!inB most 1 500) 1), .int .i64 (whenE hs 11)] t)) = w' := fun g w h t => by rw [← hE]; exact first_5D _ _ _ _ _ g w h t
  have HF5 := Lib.hid hF5
  have HZ : Hid (Z = 0 ↔ TakeOk who at_ most bats last) := by
    show _ ↔ _
    rw [← hE, firstE_zero]
    simp only [List.mem_cons, List.not_mem_nil, or_false, forall_eq_or_imp, forall_eq]
    rw [whenE_zero (by decide), whenE_zero (by decide), whenE_zero (by decide), whenE_zero (by decide), whenE_zero (by decide)]
    simp only [Bool.not_eq_false', inB, decide_eq_true_eq, decide_eq_false_iff_not]
    constructor
    · rintro ⟨h1, h2, h3, h4, h5⟩
      exact ⟨h1, h2, by omega, h4, by rw [← HHS.out]; exact h5⟩
    · intro h
      exact ⟨h.key, h.mom, by have := h.ord; omega, h.few, by rw [HHS.out]; exact h.free⟩
  clear hF5 hE HHS
  generalize whenE (!keyL who.data.toList) 5 = e1 at *
  generalize whenE (!inB at_ 0 5761439) 1 = e2 at *
  generalize whenE (decide (at_ < last)) 7 = e3 at *
  generalize whenE (!inB most 1 500) 1 = e4 at *
  generalize whenE hs 11 = e5 at *
  have hal : Below Y.heap.size Y (Y.alloc (.cells #[.int .i64 e1, .int .i64 e2, .int .i64 e3, .int .i64 e4, .int .i64 e5] 29)) := (Below.refl _ _).alloc (Nat.le_refl _) _
  have HDZ := Lib.hid (HDY.out.keep hal)
  have HRESZ := Lib.hid (HRESY.out.keep hal)
  have HWHOZ := Lib.hid ((hal.block B (by have := HRESY.out.lt; omega)).trans HWHOY.out)
  have HBZ := Lib.hid (HBY.out.trans (hal.mono HBY.out.size))
  clear hal HDY HRESY HWHOY
  by_cases hz0 : Z = 0
  · have HOK := Lib.hid (HZ.out.1 hz0)
    subst hz0
    obtain ⟨g0, -, -, -⟩ := HDZ.out.c
    go_upto_block 0 with (go_at_call 29; refine (HF5.out _ _ rfl _).mono ?_; rintro e w' ⟨rfl, rfl⟩)
    generalize Y.alloc (.cells #[.int .i64 e1, .int .i64 e2, .int .i64 e3, .int .i64 e4, .int .i64 e5] 29) = V at *
    clear g0 HZ HF5
    obtain ⟨T, hT⟩ : ∃ T, takenL st items P most = T := ⟨_, rfl⟩
    have HT := Lib.hid hT
    clear hT
    obtain ⟨A', c', hv', -, hat', -⟩ := HDZ.out.fam.at_ famE_ok
    have hnp' := HNP.out
    rw [← hnp'] at hv' hat'
    simp only [Value.slice.injEq] at hv'
    obtain ⟨rfl, -, rfl⟩ := hv'
    have HFA := Lib.hid hat'
    clear hat' hnp'
    go_cut [12] (fun v12 wx => Hid (OwnStrs wx V.heap.size v12 T) ∧ Hid (Below V.heap.size V wx) ∧ Hid (T.length ≤ 10000))
    case first =>
      go_wp2_with fail
      go_loopg [12, 55] np (fun gk v12 v wr => ∃ (k : Nat) (L : List (List UInt8)), Hid (k + gk = np) ∧ v = .int .i64 (k : Int) ∧ Hid (OwnStrs wr V.heap.size v12 L) ∧ Hid (takeG most (opensL st items (P.drop k)) L = T) ∧ Hid (L.length ≤ 100 * k) ∧ Hid (Below V.heap.size V wr))
      case atStart => exact ⟨0, [], show 0 + np = np by omega, rfl, Owns.nil _ _, HT.out, Nat.zero_le _, Below.refl _ _⟩
      case round =>
        obtain ⟨k, L, HK, rfl, HO, HTK, HL, HB⟩ := hrel
        have hkn : k ≤ np := by have := HK.out; omega
        have hl100 := HL.out
        by_cases hlt : k < np
        · have HGK := Lib.hid (show k + 1 + (gk - 1) = np ∧ 0 < gk by have := HK.out; omega)
          obtain ⟨gA, off, rfl, hgA, hcA⟩ := (ElemsAt.keep HFA.out HB.out).2.2.2 (by omega)
          have hkl : k < P.length := by rw [← HNP.out]; exact hlt
          obtain ⟨p, hp⟩ : ∃ p, P[k]? = some p := ⟨_, List.getElem?_eq_getElem hkl⟩
          have hmem : p ∈ P := List.mem_of_getElem? hp
          have c0 := hcA k p 0 (.string ⟨p.1.toArray⟩) hp rfl
          have c1 := hcA k p 1 (hv3 p.2) hp rfl
          have e2 : FamE.size = 2 := rfl
          rw [e2] at c0 c1
          rw [Nat.add_zero] at c0
          have HGO := Lib.hid (takeG_go hp HTK.out)
          have HIP := Lib.hid (HI.out p hmem)
          have hRow0 : OwnStrs wr base (hv3 p.2) (items p.1) := (HDZ.out.frow p hmem).below_ HB.out
          obtain ⟨tp, R, rn, rc⟩ := p
          simp only [hv3] at c1 hRow0 HGO HIP
          obtain ⟨R', rc', hv, -, hat, -⟩ := hRow0.at_ strE_ok
          simp only [Value.slice.injEq] at hv
          obtain ⟨rfl, hrn, rfl⟩ := hv
          rw [← hrn] at hat
          have hrn2 : rn ≤ 1000 := by have := HIP.out.1; omega
          have hb4 : Below wr.heap.size wr (wr.alloc (.cells #[.string ⟨tp.toArray⟩, .slice R rn rc] 68)) := (Below.refl _ _).alloc (Nat.le_refl _) _
          have HB4 := Lib.hid (HB.out.trans (hb4.mono HB.out.size))
          have HD4 := Lib.hid (HDZ.out.keep HB4.out)
          have HOP := Lib.hid (open_any g M m st dom ⟨tp.toArray⟩ R rn rc (items tp) (wr.alloc (.cells #[.string ⟨tp.toArray⟩, .slice R rn rc] 68)) HD4.out.c.2.1 HD4.out.lt HD4.out.st (ElemsAt.keep hat hb4) hrn2 HIP.out.2)
          have HO4 : Hid (OwnStrs (wr.alloc (.cells #[.string ⟨tp.toArray⟩, .slice R rn rc] 68)) V.heap.size u12 L) := World.ownsRow.alloc HO.out _
          have f0 : (wr.alloc (.cells #[.string ⟨tp.toArray⟩, .slice R rn rc] 68)).cell? ⟨wr.heap.size, 0, none⟩ = some (.string ⟨tp.toArray⟩) := by rw [World.cell?_alloc_at _ _ _ _ rfl]; rfl
          have f1 : (wr.alloc (.cells #[.string ⟨tp.toArray⟩, .slice R rn rc] 68)).cell? ⟨wr.heap.size, 1, none⟩ = some (.slice R rn rc) := by rw [World.cell?_alloc_at _ _ _ _ rfl]; rfl
          have hol := openL_le st (items tp)
          have hol2 : (openL st (items tp)).length ≤ 100 := by have := HIP.out.1; omega
          clear hcA hmem hkl hp hRow0 hat hb4 hol hrn HO HB HD4 HTK HL
          go_upto_region 9 with (fail)
          obtain ⟨Q, hQ⟩ : ∃ Q, Q = wr.heap.size := ⟨_, rfl⟩
          rw [← hQ] at f0 f1 ⊢
          clear hQ
          generalize wr.alloc (.cells #[.string ⟨tp.toArray⟩, .slice R rn rc] 68) = w4 at *
          clear c0 c1
          go_wp2_with fail
          refine HOP.out.mono ?_
          rintro e w5 ⟨v5, rfl, hown5, hb5⟩
          obtain ⟨A5, c5, hv5, -, hat5, -⟩ := hown5.at_ strE_ok
          subst hv5
          have HAT5 := Lib.hid hat5
          have HO5 := Lib.hid (Owns.below_ HO4.out hb5)
          have HB5 : Hid (Below V.heap.size V w5) := HB4.out.trans (hb5.mono HB4.out.size)
          have hsw := HB5.out.size
          obtain ⟨A12, c12, hv12, -, -, -⟩ := HO5.out.at_ strE_ok
          subst hv12
          generalize openL st (items tp) = O at *
          clear hown5 hb5 hat5 HOP HO4 HB4 f0 f1
          obtain ⟨nL, hnL⟩ : ∃ nL, nL = L.length := ⟨_, rfl⟩
          obtain ⟨nO, hnO⟩ : ∃ nO, nO = O.length := ⟨_, rfl⟩
          rw [← hnL] at HO5 HGO hl100 ⊢
          rw [← hnO] at HAT5 HGO hol2 ⊢
          have HNL := Lib.hid hnL
          have HNO2 := Lib.hid hnO
          clear hnL hnO
          have ew : IntKind.i64.wrap ((nL : Int) + (nO : Int)) = (nL : Int) + (nO : Int) := IntWalk.i64_in _ (by omega)
          by_cases hbr : 0 < nL ∧ 0 < nO ∧ most < (nL : Int) + (nO : Int)
          · have HEND : Hid (L = T) := by
              have h := HGO.out
              rw [if_pos ⟨fun e => by have := HNL.out; rw [e] at this; simp at this; omega, fun e => by have := HNO2.out; rw [e] at this; simp at this; omega, hbr.2.2⟩] at h
              exact h
            have hb1 : (0 : Int) < (nL : Int) := by omega
            have hb2 : (0 : Int) < (nO : Int) := by omega
            have hb3 := hbr.2.2
            clear hbr HGO
            have HO5' := HO5.out
            go_wp2_with fail
            go_meet
            rw [← HEND.out]
            exact ⟨HO5', HB5.out, by show _ ≤ _; have := HNL.out; omega⟩
          · have HNX : Hid (takeG most (opensL st items (P.drop (k + 1))) (L ++ O) = T) := by
              have h := HGO.out
              rw [if_neg] at h
              · exact h
              · rintro ⟨h1, h2, h3⟩
                refine hbr ⟨?_, ?_, h3⟩
                · rw [HNL.out]; exact List.length_pos_iff.2 h1
                · rw [HNO2.out]; exact List.length_pos_iff.2 h2
            have hcs : nL = 0 ∨ (0 < nL ∧ nO = 0) ∨ (0 < nL ∧ 0 < nO ∧ (nL : Int) + (nO : Int) ≤ most) := by omega
            clear hbr HGO
            have hs1 : L.length + O.length ≤ 100000 := by have := HNL.out; have := HNO2.out; omega
            have HON : Hid (OwnStrs w5 V.heap.size (.slice A12 nL c12) L) := HO5.out
            have hkl2 : L.length + O.length ≤ 100 * (k + 1) := by have := HNL.out; have := HNO2.out; omega
            have HKL2 := Lib.hid hkl2
            clear hkl2
            rcases hcs with h0 | ⟨h0, h1⟩ | ⟨h0, h1, h2⟩
            · have hb1 : ¬ (0 : Int) < (nL : Int) := by omega
              clear h0
              go_wp2_with (at_builtin; (refine append_elems strE_ok rfl _ _ rfl V.heap.size (.slice A12 nL c12) L (by rfl) HON.out A5 nO c5 O (by rfl) HAT5.out hs1 hsw ?_); intro v6 w6 hown6 hgrow6 _)
              have HO6 := Lib.hid hown6
              have HB6 : Hid (Below V.heap.size V w6) := HB5.out.grown hgrow6 HB5.out.size (fun i e => (HON.out.lt i e).1)
              clear hown6 hgrow6
              go_wp2_with fail
              go_roundg (gk - 1)
              case measure => have := HGK.out; omega
              case rel => exact ⟨k + 1, L ++ O, HGK.out.1, by go_num, HO6.out, HNX.out, by show _ ≤ _; rw [List.length_append]; exact HKL2.out, HB6.out⟩
            · have hb1 : (0 : Int) < (nL : Int) := by omega
              have hb2 : ¬ (0 : Int) < (nO : Int) := by omega
              clear h0 h1
              go_wp2_with (at_builtin; (refine append_elems strE_ok rfl _ _ rfl V.heap.size (.slice A12 nL c12) L (by rfl) HON.out A5 nO c5 O (by rfl) HAT5.out hs1 hsw ?_); intro v6 w6 hown6 hgrow6 _)
              have HO6 := Lib.hid hown6
              have HB6 : Hid (Below V.heap.size V w6) := HB5.out.grown hgrow6 HB5.out.size (fun i e => (HON.out.lt i e).1)
              clear hown6 hgrow6
              go_wp2_with fail
              go_roundg (gk - 1)
              case measure => have := HGK.out; omega
              case rel => exact ⟨k + 1, L ++ O, HGK.out.1, by go_num, HO6.out, HNX.out, by show _ ≤ _; rw [List.length_append]; exact HKL2.out, HB6.out⟩
            · have hb1 : (0 : Int) < (nL : Int) := by omega
              have hb2 : (0 : Int) < (nO : Int) := by omega
              have hb3 : ¬ most < (nL : Int) + (nO : Int) := by omega
              clear h0 h1 h2
              go_wp2_with (at_builtin; (refine append_elems strE_ok rfl _ _ rfl V.heap.size (.slice A12 nL c12) L (by rfl) HON.out A5 nO c5 O (by rfl) HAT5.out hs1 hsw ?_); intro v6 w6 hown6 hgrow6 _)
              have HO6 := Lib.hid hown6
              have HB6 : Hid (Below V.heap.size V w6) := HB5.out.grown hgrow6 HB5.out.size (fun i e => (HON.out.lt i e).1)
              clear hown6 hgrow6
              go_wp2_with fail
              go_roundg (gk - 1)
              case measure => have := HGK.out; omega
              case rel => exact ⟨k + 1, L ++ O, HGK.out.1, by go_num, HO6.out, HNX.out, by show _ ≤ _; rw [List.length_append]; exact HKL2.out, HB6.out⟩
        · have hnk : ¬ (k : Int) < (np : Int) := by omega
          have HEND : Hid (L = T) := by
            have h := HTK.out
            rw [List.drop_of_length_le (by rw [← HNP.out]; omega)] at h
            exact h
          have HOF : Hid (OwnStrs wr V.heap.size u12 T) := by
            have e := HEND.out
            show OwnStrs _ _ _ _
            rw [← e]; exact HO.out
          have HTL : Hid (T.length ≤ 10000) := by
            have e := HEND.out
            show _ ≤ _
            rw [← e]; omega
          go_wp2_with fail
          go_meet
          exact ⟨HOF.out, HB.out, HTL.out⟩
    case rest =>
      obtain ⟨HOT, HBT, HTL⟩ := hcut
      obtain ⟨A12, c12, hv12, -, -, -⟩ := HOT.out.at_ strE_ok
      subst hv12
      have HDC := Lib.hid (HDZ.out.keep HBT.out)
      have HRESC := Lib.hid (HRESZ.out.keep HBT.out)
      have HWHOC := Lib.hid ((HBT.out.block B (by have := HRESZ.out.lt; omega)).trans HWHOZ.out)
      have HBC := Lib.hid (HBZ.out.trans (HBT.out.mono HBZ.out.size))
      have HVS : Hid (base ≤ V.heap.size ∧ B + 1 < V.heap.size) := ⟨Nat.le_trans hbase HBZ.out.size, HRESZ.out.lt⟩
      obtain ⟨nT, hnT⟩ : ∃ nT, nT = T.length := ⟨_, rfl⟩
      rw [← hnT] at HOT HTL ⊢
      have HNT := Lib.hid hnT
      have hnt := HTL.out
      clear hnT HDZ HRESZ HWHOZ HBZ HFA HBT
      by_cases hT0 : nT = 0
      · have hTe : T = [] := List.eq_nil_of_length_eq_zero (by rw [← HNT.out]; exact hT0)
        have hzb : ((nT : Int) == 0) = true := by simp [hT0]
        have HTE := Lib.hid hTe
        clear hT0 hTe
        obtain ⟨r0, r1, r2, r3, r4⟩ := HRESC.out.c
        have q0 := HRESC.out.f 0
        have q1 := HRESC.out.f 1
        have q2 := HRESC.out.f 2
        have q3 := HRESC.out.f 3
        have q4 := HRESC.out.f 4
        go_wp2_with fail
        refine bodyPost_ret (v := .tuple #[.agg #[.int .i64 0, .int .i64 0, .int .i64 0, .string ⟨#[]⟩, .slice none 0 0], .int .i64 8]) (by simp [results, Tryz.results9, go_sem, r0, r1, r2, r3, r4]) rfl ?_
        have hbb := HBB.out
        have hzs := HBC.out.size
        exact take_err HDC.out HRESC.out (fun e => by have := HNO1.out _ e; omega) (HBC.out.mono hbase) (by omega) (by omega) 8 (by decide) (fun _ => ⟨rfl, by rw [HT.out]; exact HTE.out⟩)
      · have hzb : ((nT : Int) == 0) = false := by simpa using hT0
        have HT0 : Hid (0 < nT) := by show _ < _; omega
        have HTS : Hid (∀ x ∈ T, x.length ≤ 1000 ∧ dom x = true) := fun x hx => by
          rw [← HT.out] at hx
          obtain ⟨-, p, hp, hxp⟩ := taken_mem hx
          exact ⟨(HI.out p hp).2 x hxp, HDOM.out p hp x hxp⟩
        have HBC2 : Hid (Below base w wc) := HBC.out.mono hbase
        clear hT0 HBC
        have hwcs : w.heap.size ≤ wc.heap.size := HBC2.out.size
        obtain ⟨-, -, -, -⟩ := HDC.out.c
        go_wp2_with fail
        go_loopg [89] nT (fun gk v wr => ∃ k : Nat, Hid (k + gk = nT) ∧ v = .int .i64 (k : Int) ∧ Hid (DeskAt wr base g M (.slice FA np fc) P items dom (m + k) (.slice BA nb bc) (putL 1 (T.take k) st) bats last) ∧ Hid (OwnStrs wr base (.slice A12 nT c12) T) ∧ Hid (wr.heap[B]? = some (.cells #[.string who] 9 (0, 0))) ∧ Hid (BatB wr (B + 1) 0 0 0 ⟨#[]⟩ (.slice none 0 0)) ∧ Hid (Below base w wr))
        case atStart => exact ⟨0, show 0 + nT = nT by omega, rfl, by have h := HDC.out; exact h, HOT.out.base_ HVS.out.1, HWHOC.out, HRESC.out, HBC2.out⟩
        case round =>
          obtain ⟨k, HK, rfl, HD, HO, HWH, HRE, HBW⟩ := hrel
          clear HDC HWHOC HRESC HBC2
          have hkn : k ≤ nT := by have := HK.out; omega
          by_cases hlt : k < nT
          · have HGK := Lib.hid (show k + 1 + (gk - 1) = nT ∧ 0 < gk by have := HK.out; omega)
            obtain ⟨A7, c7, hv7, -, hat7, -⟩ := HO.out.at_ strE_ok
            simp only [Value.slice.injEq] at hv7
            obtain ⟨rfl, -, rfl⟩ := hv7
            obtain ⟨gA, off, rfl, hgA, hcA⟩ := ElemsAt.str hat7 (by rw [← HNT.out]; omega)
            have hck := hcA k (by rw [← HNT.out]; exact hlt)
            have hkl : k < T.length := by rw [← HNT.out]; exact hlt
            have hmem : T.getD k [] ∈ T := by rw [List.getD_eq_getElem?_getD, List.getElem?_eq_getElem hkl]; exact List.getElem_mem hkl
            have HTK : Hid (T.take (k + 1) = T.take k ++ [T.getD k []]) := by show _ = _; rw [List.take_succ_eq_append_getElem hkl]; simp [hkl]
            have HXS := Lib.hid (HTS.out _ hmem)
            obtain ⟨-, g1, -, -⟩ := HD.out.c
            obtain ⟨D, hm1, hm2, hm3⟩ := HD.out.st.ex
            have HM1 := Lib.hid hm1
            have HM23 := Lib.hid (And.intro hm2 hm3)
            clear hcA hat7 hkl hmem hm1 hm2 hm3
            generalize T.getD k [] = x at *
            have HKEY : Hid (keyOf Tryz.prog 9 (.string ⟨x.toArray⟩) = some (.string x)) := by
              have := keyS_mk ⟨x.toArray⟩ (by have := HXS.out.1; simp only [ByteArray.size, List.size_toArray]; omega)
              exact this
            go_wp2_with (at_mapUpdate; refine wpList_mapUpdate_own _ rfl _ _ _ 63 rfl 9 3 keyS Tryz.underlying63 _ M (m + k) D rfl HM1.out (by simp only [maxLen]; omega) _ _ (.string x) rfl rfl HKEY.out (.held (.int .i64 1)) [] rfl ?_; intro w5 hown5 hgrow5)
            have HD5 : Hid (DeskAt w5 base g M (.slice FA np fc) P items dom (m + (k + 1)) (.slice BA nb bc) (putL 1 (T.take (k + 1)) st) bats last) := by
              refine HD.out.putSt hgrow5 ((StAt.put x 1 HM1.out HM23.out.1 HM23.out.2 hown5).congr (fun y => ?_) (fun y => ?_))
              · rw [HTK.out, putL_snoc]
              · by_cases e : y = x
                · subst e; simp [HXS.out.2]
                · simp [e]
            have HO5 : Hid (OwnStrs w5 base (.slice (some ⟨gA, off, none⟩) nT c12) T) := HO.out.notin hgrow5 (fun b hb e => owns_ne_map HO.out HD.out.st (hb.trans e.symm))
            have hMne : ∀ {Q : Nat} {cs : Array Value} {t : TypeId}, wr.heap[Q]? = some (.cells cs t (0, 0)) → some Q ≠ some M := fun {Q cs t} h e => by
              obtain ⟨D', ⟨es, cl, hbk, _⟩, _⟩ := HD.out.st.ex
              have e2 := Option.some.inj e
              subst e2
              rw [hbk] at h
              cases h
            have HWH5 : Hid (w5.heap[B]? = some (.cells #[.string who] 9 (0, 0))) := (hgrow5.block B (Array.getElem?_eq_some_iff.1 HWH.out).1 (hMne HWH.out)).trans HWH.out
            have HRE5 : Hid (BatB w5 (B + 1) 0 0 0 ⟨#[]⟩ (.slice none 0 0)) := (hgrow5.block (B + 1) HRE.out.lt (hMne HRE.out)).trans HRE.out
            have HBW5 : Hid (Below base w w5) := HBW.out.grown hgrow5 (Nat.le_trans hbase HBW.out.size) (fun i e => by cases e; exact HD.out.hM)
            clear hown5 hgrow5 hMne g1
            go_wp2_with fail
            go_roundg (gk - 1)
            case measure => have := HGK.out; omega
            case rel => exact ⟨k + 1, HGK.out.1, by go_num, HD5.out, HO5.out, HWH5.out, HRE5.out, HBW5.out⟩
          · have hnk : ¬ (k : Int) < (nT : Int) := by omega
            have hke : k = nT := by omega
            subst hke
            have hta : T.take k = T := List.take_of_length_le (by rw [← HNT.out]; omega)
            rw [hta] at HD
            clear hta
            obtain ⟨-, -, g2, -⟩ := HD.out.c
            have dw : wr.cell? ⟨B, 0, none⟩ = some (.string who) := by rw [cell_of_row wr B 0 _ _ _ HWH.out]; rfl
            have ew : IntKind.i64.wrap ((nb : Int) + 1) = (nb : Int) + 1 := IntWalk.i64_in _ (by omega)
            clear HK hkn hlt hnk
            go_upto_region 20 with (fail)
            have hzr : Below wr.heap.size wr (wr.alloc (.cells #[.int .i64 0, .int .i64 0, .int .i64 0, .string ⟨#[]⟩, .slice none 0 0] 36)) := (Below.refl _ _).alloc (Nat.le_refl _) _
            have hBw : B < wr.heap.size := (Array.getElem?_eq_some_iff.1 HWH.out).1
            have dw2 : (wr.alloc (.cells #[.int .i64 0, .int .i64 0, .int .i64 0, .string ⟨#[]⟩, .slice none 0 0] 36)).cell? ⟨B, 0, none⟩ = some (.string who) := (hzr.cell (p := ⟨B, _, none⟩) hBw).trans dw
            have g22 : (wr.alloc (.cells #[.int .i64 0, .int .i64 0, .int .i64 0, .string ⟨#[]⟩, .slice none 0 0] 36)).cell? ⟨g, 2, none⟩ = some (.slice BA nb bc) := (hzr.cell (p := ⟨g, _, none⟩) HD.out.lt).trans g2
            clear hzr hBw
            go_region
            clear dw dw2 g2 g22
            have hal : Below wr.heap.size wr (wr.alloc (.cells #[.int .i64 ((nb : Int) + 1), .int .i64 at_, .int .i64 (-1), .string who, .slice A12 k c12] 36)).drew := ((Below.refl _ _).alloc (Nat.le_refl _) _).drew
            have HQ7 : Hid (BatB (wr.alloc (.cells #[.int .i64 ((nb : Int) + 1), .int .i64 at_, .int .i64 (-1), .string who, .slice A12 k c12] 36)).drew wr.heap.size ((nb : Int) + 1) at_ (-1) who (.slice A12 k c12)) := heap_alloc_new wr _
            have HD7 := Lib.hid (HD.out.keep hal)
            have HR7 := Lib.hid (HRE.out.keep hal)
            have HO7 := Lib.hid (HO.out.below_ hal)
            have hxs := HBW.out.size
            have HB7 := Lib.hid (HBW.out.trans (hal.mono (Nat.le_trans hbase hxs)))
            have HQN : Hid (∀ b, (Value.slice BA nb bc).ownBlock = some b → b < wr.heap.size) := fun b e => (HD.out.bats.own.lt b e).2
            have HRQ : Hid (B + 1 < wr.heap.size) := HRE.out.lt
            clear hal HD HRE HO HBW HWH hxs
            obtain ⟨Q, hQ⟩ : ∃ Q, Q = wr.heap.size := ⟨_, rfl⟩
            rw [← hQ] at HQ7 HQN HRQ ⊢
            clear hQ
            generalize (wr.alloc (.cells #[.int .i64 ((nb : Int) + 1), .int .i64 at_, .int .i64 (-1), .string who, .slice A12 k c12] 36)).drew = X at *
            have hxs := HB7.out.size
            have hbx : base ≤ X.heap.size := by omega
            have hal : Below X.heap.size X (X.alloc (.cells #[.int .i64 ((nb : Int) + 1), .int .i64 at_, .int .i64 (-1), .string who, .slice A12 k c12] 36)) := (Below.refl _ _).alloc (Nat.le_refl _) _
            have HD8 := Lib.hid (HD7.out.keep hal)
            have HONE : Hid (ElemsAt BatE (X.alloc (.cells #[.int .i64 ((nb : Int) + 1), .int .i64 at_, .int .i64 (-1), .string who, .slice A12 k c12] 36)) (some ⟨X.heap.size, 0, none⟩) 1 1 [⟨(nb : Int) + 1, at_, -1, who.data.toList, (A12, k, c12), T⟩]) := by
              have h := one_elem (E := BatE) X ⟨(nb : Int) + 1, at_, -1, who.data.toList, (A12, k, c12), T⟩
              have e2 : (BatE.enc ⟨(nb : Int) + 1, at_, -1, who.data.toList, (A12, k, c12), T⟩).toArray = #[.int .i64 ((nb : Int) + 1), .int .i64 at_, .int .i64 (-1), .string who, .slice A12 k c12] := by simp [BatE, hv3]
              rw [e2] at h
              exact h
            have g2 : X.cell? ⟨g, 2, none⟩ = some (.slice BA nb bc) := HD7.out.c.2.2.1
            have g22 : (X.alloc (.cells #[.int .i64 ((nb : Int) + 1), .int .i64 at_, .int .i64 (-1), .string who, .slice A12 k c12] 36)).cell? ⟨g, 2, none⟩ = some (.slice BA nb bc) := HD8.out.c.2.2.1
            obtain ⟨d0, d1, d2, d3, d4⟩ := HQ7.out.c
            have hs1 : bats.length + 1 ≤ 100000 := by have := HNB.out; omega
            have hbx2 : base ≤ (X.alloc (.cells #[.int .i64 ((nb : Int) + 1), .int .i64 at_, .int .i64 (-1), .string who, .slice A12 k c12] 36)).heap.size := Nat.le_trans hbx hal.size
            have hald : Below X.heap.size X (X.alloc (.cells #[.int .i64 ((nb : Int) + 1), .int .i64 at_, .int .i64 (-1), .string who, .slice A12 k c12] 36)).drew := hal.drew
            have HO8 : Hid (OwnStrs (X.alloc (.cells #[.int .i64 ((nb : Int) + 1), .int .i64 at_, .int .i64 (-1), .string who, .slice A12 k c12] 36)).drew base (hv3 (A12, k, c12)) T) := HO7.out.below_ hald
            have HQ8 : Hid (BatB (X.alloc (.cells #[.int .i64 ((nb : Int) + 1), .int .i64 at_, .int .i64 (-1), .string who, .slice A12 k c12] 36)).drew Q ((nb : Int) + 1) at_ (-1) ⟨who.data.toList.toArray⟩ (hv3 (A12, k, c12))) := by
              have h := HQ7.out.keep hald
              rw [mk_data who]
              exact h
            have HR8 := Lib.hid (HR7.out.keep hald)
            have HB8 := Lib.hid (HB7.out.trans (hald.mono hbx))
            clear hal hald
            go_upto_region 21 with (fail)
            go_cut [] (fun wx => Hid (∃ bv', AppAt wx base g M (.slice FA np fc) P items dom (m + k) bv' (putL 1 T st) bats last ⟨(nb : Int) + 1, at_, -1, who.data.toList, (A12, k, c12), T⟩ Q (B + 1) (.slice none 0 0)) ∧ Hid (Below base w wx))
            case first =>
              go_region_law (first
                | (refine step_elems batE_ok (by rfl) _ _ (by rfl) base (.slice BA nb bc) bats (by rfl) ?_ _ 1 1 [⟨(nb : Int) + 1, at_, -1, who.data.toList, (A12, k, c12), T⟩] (by rfl) ?_ (by omega) ?_ ?_ ?_; (exact HD8.out.bats.own); (exact HONE.out); (exact hs1); (exact hbx2); intro v8 w8 hown8 hgrow8 hv8; obtain ⟨A8, c8, hvv8, -, -, -⟩ := hown8.at_ batE_ok; simp only [List.length_append, List.length_cons, List.length_nil, Nat.zero_add] at hvv8; subst hvv8; have HOW8 := Lib.hid hown8; have HGW8 := Lib.hid hgrow8; have HV8 := Lib.hid hv8; have g28 : w8.cell? ⟨g, 2, none⟩ = some (.slice BA nb bc) := (World.cell?_of_block (hgrow8.block g HD8.out.lt (fun e => HD8.out.bats.own.ne_block HD8.out.row desk_ne_bat e.symm))).trans g22; have gf8 : w8.frozen? ⟨g, 2, none⟩ = false := frozen_desk ((hgrow8.block g HD8.out.lt (fun e => HD8.out.bats.own.ne_block HD8.out.row desk_ne_bat e.symm)).trans HD8.out.row) 2; clear hown8 hgrow8 hv8))
              all_goals
                have HAA := Lib.hid (take_app (HD8.out.keep ((Below.refl _ _).drew)) HOW8.out HGW8.out HV8.out (b := ⟨(nb : Int) + 1, at_, -1, who.data.toList, (A12, k, c12), T⟩) HO8.out HQ8.out HR8.out (fun e => by have := HQN.out _ e; omega) (fun e => by have := HNO1.out _ e; omega))
                go_wp2_with fail
                go_meet
                exact ⟨⟨_, HAA.out⟩, (HB8.out.grown HGW8.out hbx2 (fun i e => (HD8.out.bats.own.lt i e).1)).setCell HD8.out.hg _⟩
            case rest =>
              obtain ⟨HAP, HBP⟩ := hcut
              obtain ⟨bv', hAP⟩ := HAP.out
              have HA := Lib.hid hAP
              clear HAP hAP HO8 HQ8 HR8 HB8 hbx2 d0 d1 d2 d3 d4 g2 g22 HONE HD8 HD7 HQ7 HR7 HO7 HB7 hxs hbx
              have hQg := HA.out.desk.ne_bat HA.out.hQ
              have hRg := HA.out.desk.ne_bat HA.out.hR
              have g3 := HA.out.desk.c.2.2.2
              have gf3 := HA.out.desk.f 3
              have hps := HBP.out.size
              have HD9 := Lib.hid (HA.out.desk.setLast at_)
              have HQ9 : Hid (BatB (wc.setCell ⟨g, 3, none⟩ (.int .i64 at_)) Q ((nb : Int) + 1) at_ (-1) ⟨who.data.toList.toArray⟩ (.slice A12 k c12)) := (Below.heap_setCell wc ⟨g, 3, none⟩ _ Q hQg.symm).trans HA.out.hQ
              have HR9 : Hid (BatB (wc.setCell ⟨g, 3, none⟩ (.int .i64 at_)) (B + 1) 0 0 0 ⟨#[]⟩ (.slice none 0 0)) := (Below.heap_setCell wc ⟨g, 3, none⟩ _ (B + 1) hRg.symm).trans HA.out.hR
              have HO9 : Hid (OwnStrs (wc.setCell ⟨g, 3, none⟩ (.int .i64 at_)) base (.slice A12 k c12) T) := HA.out.own.setDesk HA.out.desk.row desk_ne
              have HB9 : Hid (Below base w (wc.setCell ⟨g, 3, none⟩ (.int .i64 at_))) := HBP.out.setCell HA.out.desk.hg _
              have HNQR : Hid (bv'.ownBlock ≠ some Q ∧ bv'.ownBlock ≠ some (B + 1)) := ⟨HA.out.nQ, HA.out.nR⟩
              clear hQg hRg HA HBP
              rw [mk_data who] at HQ9
              go_upto_region 23 with (fail)
              generalize wc.setCell ⟨g, 3, none⟩ (.int .i64 at_) = w9 at *
              clear g3 gf3
              obtain ⟨A9, c9, hv9, -, hat9, -⟩ := HO9.out.at_ strE_ok
              have hkt := HNT.out
              rw [← hkt] at hv9 hat9
              simp only [Value.slice.injEq] at hv9
              obtain ⟨rfl, -, rfl⟩ := hv9
              have HCL := Lib.hid (clone_any A12 k c12 T w9 hat9 (by omega))
              clear hat9 hkt
              go_wp2_with fail
              refine HCL.out.mono ?_
              rintro e w10 ⟨v10, rfl, hown10, hb10⟩
              obtain ⟨A10, c10, hv10, -, -, -⟩ := hown10.at_ strE_ok
              subst hv10
              have hkt := HNT.out
              rw [← hkt] at hown10 ⊢
              have HQ10 := Lib.hid (HQ9.out.keep hb10)
              have HR10 := Lib.hid (HR9.out.keep hb10)
              have hq9 := HQ9.out.lt
              have hr9 := HR9.out.lt
              have hrq := HRQ.out
              have HO10 : Hid (OwnStrs (w10.setCell ⟨Q, 4, none⟩ (.slice A10 k c10)) w9.heap.size (.slice A10 k c10) T) := hown10.kept_ (grown_setCell _ _ _ _) (fun i e => by cases e; exact hq9)
              have HBU : Hid (ButD Q (B + 1) w9 (w10.setCell ⟨Q, 4, none⟩ (.slice A10 k c10))) := (ButD.of_below hb10).trans (ButD.of_set1 Q (B + 1) 4 _)
              have HQ11 := Lib.hid (HQ10.out.set4 (.slice A10 k c10))
              have HR11 : Hid (BatB (w10.setCell ⟨Q, 4, none⟩ (.slice A10 k c10)) (B + 1) 0 0 0 ⟨#[]⟩ (.slice none 0 0)) := (Below.heap_setCell w10 ⟨Q, 4, none⟩ _ (B + 1) (by show B + 1 ≠ Q; omega)).trans HR10.out
              have hbb := HBB.out
              have h9s := HB9.out.size
              have HB11 : Hid (Below base w (w10.setCell ⟨Q, 4, none⟩ (.slice A10 k c10))) := (HB9.out.trans (hb10.mono (by omega))).setCell (show base ≤ Q by omega) _
              obtain ⟨d0, d1, d2, d3, d4⟩ := HQ10.out.c
              have df4 := HQ10.out.f 4
              have HQ9R : Hid (BatB w9 Q ((nb : Int) + 1) at_ (-1) who (.slice A12 k c12) ∧ BatB w9 (B + 1) 0 0 0 ⟨#[]⟩ (.slice none 0 0)) := ⟨HQ9.out, HR9.out⟩
              clear hown10 hb10 HCL HQ9 HR9 hkt hbb
              go_upto_region 24 with (fail)
              generalize w10.setCell ⟨Q, 4, none⟩ (.slice A10 k c10) = w11 at *
              clear d0 d1 d2 d3 d4 df4 HQ10 HR10
              obtain ⟨d0, d1, d2, d3, d4⟩ := HQ11.out.c
              obtain ⟨r0, r1, r2, r3, r4⟩ := HR11.out.c
              have q0 := HR11.out.f 0
              have q1 := HR11.out.f 1
              have q2 := HR11.out.f 2
              have q3 := HR11.out.f 3
              have q4 := HR11.out.f 4
              go_wp2_with fail
              have hbb := HBB.out
              have hg5 := set5_grown w11 (B + 1) (.int .i64 ((nb : Int) + 1)) (.int .i64 at_) (.int .i64 (-1)) (.string who) (.slice A10 k c10)
              have h11 := HBU.out.size
              refine bodyPost_ret (v := .tuple #[.agg #[.int .i64 ((nb : Int) + 1), .int .i64 at_, .int .i64 (-1), .string who, .slice A10 k c10], .int .i64 0]) (by simp [results, Tryz.results9, go_sem, r0, r1, r2, r3, r4]) rfl ?_
              refine ⟨⟨(nb : Int) + 1, at_, -1, who.data.toList, (A10, k, c10), T⟩, w9.heap.size, 0, ?_, HO10.out.kept_ hg5 (fun i e => by cases e; exact hr9), by omega, Nat.le_trans h11 hg5.size, HB11.out.grown hg5 (by omega) (fun i e => by cases e; omega), .inr ⟨rfl, HT.out.symm, fun e => ?_, HOK.out.mom.1, bv', (A12, k, c12), fun w'' hb'' => ?_⟩⟩
              · simp only [batV, hv3, mk_data who]
              · have e2 := HNT.out
                have e3 : T = [] := e
                rw [e3] at e2
                have h0 := HT0.out
                simp at e2
                omega
              · have e1 := HNB.out
                have e2 := HNT.out
                have hd := HD9.out.but (Q := Q) (R := B + 1) ((HBU.out.trans (ButD.of_grown2 hg5)).below hb'') HQ9R.out.1 HQ9R.out.2 HNQR.out.1 HNQR.out.2
                show DeskAt w'' base g M (.slice FA np fc) P items dom (m + T.length) bv' (putL 1 T st) (bats ++ [⟨(bats.length : Int) + 1, at_, -1, who.data.toList, (A12, k, c12), T⟩]) at_
                rw [← e1, ← e2]
                exact hd
  · have hzb : (Z != 0) = true := by simpa using hz0
    have HNO : Hid (¬ TakeOk who at_ most bats last) := fun h => hz0 (HZ.out.2 h)
    have HZ0 := Lib.hid hz0
    clear hz0
    obtain ⟨r0, r1, r2, r3, r4⟩ := HRESZ.out.c
    have q0 := HRESZ.out.f 0
    have q1 := HRESZ.out.f 1
    have q2 := HRESZ.out.f 2
    have q3 := HRESZ.out.f 3
    have q4 := HRESZ.out.f 4
    go_wp2_with (go_at_call 29; refine (HF5.out _ _ rfl _).mono ?_; rintro e w' ⟨rfl, rfl⟩)
    refine bodyPost_ret (v := .tuple #[.agg #[.int .i64 0, .int .i64 0, .int .i64 0, .string ⟨#[]⟩, .slice none 0 0], .int .i64 Z]) (by simp [results, Tryz.results9, go_sem, r0, r1, r2, r3, r4]) rfl ?_
    have hbb := HBB.out
    have hzs := HBZ.out.size
    exact take_err HDZ.out HRESZ.out (fun e => by have := HNO1.out _ e; omega) (HBZ.out.mono hbase) (by omega) (by omega) Z HZ0.out (fun h => absurd h HNO.out)
end Go.Proofs.YtdojnbnhogbhiaaGreatDoor

namespace Go.Proofs.YtdojnbnhogbhiaaGreatDoor
open Go.RowKit Go.Maps
attribute [local go_sem ↓] Go.wp_at_zero Go.wp_at_succ

/-- When Return takes a batch back. -/
structure RetOk (no at_ : Int) (done : List (List UInt8)) (bats : List Bat) (last : Int) (k : Nat) (b : Bat) : Prop where
  num : no = (k : Int) + 1
  at_k : bats[k]? = some b
  out : b.inn = -1
  mom : 0 ≤ at_ ∧ at_ ≤ 5761439
  ord : last ≤ at_
  sub : ∀ x ∈ done, x ∈ b.ids
  once : done.Nodup
/-- What Return leaves. -/
def RetPost (w : World) (base g M : Nat) (fv bv : Value) (P : List (List UInt8 × Hd3)) (items : List UInt8 → List (List UInt8)) (dom : List UInt8 → Bool) (m : Nat) (st : List UInt8 → Int) (bats : List Bat) (last : Int) (no at_ : Int) (done : List (List UInt8)) (e : Ending) (w' : World) : Prop :=
  ∃ z : Int, e = .returned (.int .i64 z) ∧ Below base w w' ∧
    ((z ≠ 0 ∧ DeskAt w' base g M fv P items dom m bv st bats last ∧ ∀ k b, ¬ RetOk no at_ done bats last k b)
    ∨ (z = 0 ∧ ∃ (k : Nat) (b : Bat) (m' : Nat), RetOk no at_ done bats last k b ∧ m' ≤ m + 2 * b.ids.length ∧ DeskAt w' base g M fv P items dom m' bv (backL b.ids done st) (bats.set k { b with inn := at_ }) at_))
theorem backL_snoc (ids done : List (List UInt8)) (st : List UInt8 → Int) (x : List UInt8) : backL (ids ++ [x]) done st = fun id => if id = x then (if x ∈ done then 2 else 0) else backL ids done st id := by
  funext id
  unfold backL
  by_cases h : id = x
  · simp [h]
  · simp [h]
theorem backL_nil (done : List (List UInt8)) (st : List UInt8 → Int) : backL [] done st = st := by
  funext id
  simp [backL]
theorem set_ne_map {w : World} {S M m : Nat} {l : List (List UInt8)} {st : List UInt8 → Int} {dom : List UInt8 → Bool} (h : S < M ∨ M < S) : some S ≠ some M := fun e => by have := Option.some.inj e; omega
theorem SetAt.keptD {w w' : World} {S : Nat} {l : List (List UInt8)} {row : Option Nat} (h : SetAt w S l) (hg : w.grownBy w' row) (hr : row ≠ some S) : SetAt w' S l := World.ownsMap.kept h hg hr.symm
theorem SetAt.belowD {w w' : World} {S : Nat} {l : List (List UInt8)} (h : SetAt w S l) (hb : Below w.heap.size w w') : SetAt w' S l := h.keptD (below_grown hb none) (by simp)
theorem takeD {l : List (List UInt8)} {k : Nat} {x : List UInt8} (h : l[k]? = some x) : l.take (k + 1) = l.take k ++ [x] := by
  obtain ⟨h1, h2⟩ := List.getElem?_eq_some_iff.1 h
  rw [List.take_succ_eq_append_getElem h1, h2]
theorem Owns.frzD {α : Type} {E : Elem α} {w : World} {base S n c : Nat} {l : List α} (h : Owns E w base (.slice (some ⟨S, 0, none⟩) n c) l) (j : Nat) : w.frozen? ⟨S, j, none⟩ = false := by
  rcases h.2 with ⟨e, hn⟩ | ⟨g', cap, cur, e, hb, hh, _⟩
  · cases e
  · simp only [Value.slice.injEq, Option.some.injEq, Addr.mk.injEq, and_true] at e
    obtain ⟨rfl, rfl, rfl⟩ := e
    simp [World.frozen?, hh]
theorem BatsIn.cell2 {w : World} {base S n c k : Nat} {bats : List Bat} {b : Bat} (h : BatsIn w base (.slice (some ⟨S, 0, none⟩) n c) bats) (hk : bats[k]? = some b) : w.cell? ⟨S, k * 5 + 2, none⟩ = some (.int .i64 b.inn) := by
  obtain ⟨A', c', hv, -, hat, -⟩ := h.own.at_ batE_ok
  simp only [Value.slice.injEq] at hv
  obtain ⟨rfl, -, rfl⟩ := hv
  have hlt := (List.getElem?_eq_some_iff.1 hk).1
  obtain ⟨g', off, e, -, hc⟩ := hat.2.2.2 (by omega)
  simp only [Option.some.injEq, Addr.mk.injEq, and_true] at e
  obtain ⟨rfl, rfl⟩ := e
  have h2 := hc k b 2 (.int .i64 b.inn) hk rfl
  have e2 : BatE.size = 5 := rfl
  rw [e2, Nat.zero_add] at h2
  exact h2
theorem nodup_snocD {l : List (List UInt8)} {k : Nat} {x : List UInt8} (h : l[k]? = some x) (hn : (l.take k).Nodup) (hx : x ∉ l.take k) : (l.take (k + 1)).Nodup := by
  rw [takeD h, List.nodup_append]
  exact ⟨hn, by simp, fun a ha b hb e => by rw [List.mem_singleton.1 hb] at e; exact hx (e ▸ ha)⟩
theorem not_onceD {l : List (List UInt8)} {k : Nat} {x : List UInt8} (h : l[k]? = some x) (hx : x ∈ l.take k) : ¬ l.Nodup := fun hn => by
  have e := List.take_append_drop (k + 1) l
  rw [← e, takeD h] at hn
  have h2 := (List.nodup_append.1 hn).1
  exact (List.nodup_append.1 h2).2.2 x hx x (by simp) rfl
set_option maxHeartbeats 3200000 in
set_option maxRecDepth 100000 in
theorem return_any (base g M m : Nat) (fv bv : Value) (P : List (List UInt8 × Hd3)) (items : List UInt8 → List (List UInt8)) (dom : List UInt8 → Bool) (st : List UInt8 → Int) (bats : List Bat) (last : Int) (no at_ : Int) (DA : Option Addr) (dn dc : Nat) (done : List (List UInt8)) (w : World)
    (hD : DeskAt w base g M fv P items dom m bv st bats last) (hd : StrsAt w DA dn dc done) (hdn : dn ≤ 10000) (hds : ∀ x ∈ done, x.length ≤ 1000) (hb : bats.length ≤ 900) (hi : ∀ p ∈ bats, p.ids.length ≤ 10000 ∧ ∀ x ∈ p.ids, x.length ≤ 1000 ∧ dom x = true) (hm : m ≤ 1000000) :
    Calls Tryz.prog 14 #[.pointer (some ⟨g, 0, none⟩), .int .i64 no, .int .i64 at_, .slice DA dn dc] w (RetPost w base g M fv bv P items dom m st bats last no at_ done) := by
  obtain ⟨BA, bc, rfl, -, hat, hoff⟩ := hD.bats.own.at_ batE_ok
  obtain ⟨nb, hnb⟩ : ∃ nb, nb = bats.length := ⟨_, rfl⟩
  rw [← hnb] at hD hb hat ⊢
  have HNB := Lib.hid hnb
  have HI := Lib.hid hi
  have HDS := Lib.hid hds
  have HDN := Lib.hid hd.1
  have HDA := Lib.hid hd
  have HD := Lib.hid hD
  have hbase : base ≤ w.heap.size := Nat.le_trans hD.hg (Nat.le_of_lt hD.lt)
  have g2 := hD.c.2.2.1
  have g3 := hD.c.2.2.2
  have HIN := Lib.hid (in_stillD no 1 (nb : Int) w)
  clear hnb hi hds hd hD
  by_cases hin : 1 ≤ no ∧ no ≤ (nb : Int)
  · obtain ⟨k, hk⟩ : ∃ k : Nat, no = (k : Int) + 1 := ⟨(no - 1).toNat, by omega⟩
    have hkn : k < nb := by omega
    have hkl : k < bats.length := by rw [← HNB.out]; exact hkn
    obtain ⟨b, hbk⟩ : ∃ b, bats[k]? = some b := ⟨_, List.getElem?_eq_getElem hkl⟩
    obtain ⟨gA, off, hA0, hgA, hcA⟩ := hat.2.2.2 (by omega)
    obtain ⟨rfl, hbg⟩ := hoff gA off hA0
    subst hA0
    have c2 := hcA k b 2 (.int .i64 b.inn) hbk rfl
    have c4 := hcA k b 4 (hv3 b.hd) hbk rfl
    have e2 : BatE.size = 5 := rfl
    rw [e2, Nat.zero_add] at c2 c4
    have HBK := Lib.hid hbk
    have hmem := List.mem_of_getElem? hbk
    have HIB := Lib.hid (HI.out b hmem)
    have hRow := HD.out.bats.row b hmem
    have HUNI : Hid (∀ k' b', RetOk no at_ done bats last k' b' → k' = k ∧ b' = b) := fun k' b' h => by
      have h1 := h.num
      have h3 : k' = k := by omega
      subst h3
      have h4 := h.at_k
      rw [hbk] at h4
      exact ⟨rfl, (Option.some.inj h4).symm⟩
    have hinb : inB no 1 (nb : Int) = true := by simp [inB]; omega
    rw [hinb] at HIN
    have ew : IntKind.i64.wrap (no - 1) = (k : Int) := by rw [hk, show (k : Int) + 1 - 1 = k by omega]; exact IntWalk.i64_in _ (by omega)
    have HNO := Lib.hid hk
    obtain ⟨bno, bout, binn, bwho, ⟨R, rn, rc⟩, bids⟩ := b
    simp only [hv3] at c2 c4 hRow HIB
    obtain ⟨R', rc', hv, -, hatr, -⟩ := hRow.at_ strE_ok
    simp only [Value.slice.injEq] at hv
    obtain ⟨rfl, hrn, rfl⟩ := hv
    rw [← hrn] at hatr
    have HRN := Lib.hid hrn
    have hrn2 : rn ≤ 10000 := by have := HIB.out.1; omega
    have HROW := Lib.hid hRow
    clear hin hk hkl hcA hat hoff hbk hmem hinb hRow hatr hrn e2
    go_enter Tryz.func14, Tryz.ntmps14
    go_wp2_with fail
    refine HIN.out.mono ?_
    rintro e w' ⟨rfl, hw⟩
    obtain rfl := hw
    go_wp2_with fail
    refine wp_region_still_tail 15 (by kernel_rfl) (by kernel_rfl) ?_
    simp only [List.take_succ_cons, List.take_zero, List.drop_succ_cons, List.drop_zero]
    repeat still_step
    still_call (when_stillD _ _ _)
    repeat still_step
    still_call (momentE_any _ _)
    repeat still_step
    still_call (when_stillD _ _ _)
    repeat still_step
    refine wpStill_nil ?_
    change wpList _ _ _ _ _ w'.drew
    have hdr : Below w'.heap.size w' w'.drew := (Below.refl _ _).drew
    generalize w'.drew = Y at *
    have hal : Below w'.heap.size w' (Y.alloc (.cells #[.int .i64 (whenE (binn != -1) 11), .int .i64 (whenE (!inB at_ 0 5761439) 1), .int .i64 (whenE (decide (at_ < last)) 7)] 29)) := hdr.alloc hdr.size _
    have HVB := Lib.hid hal
    have hF3 := fun (g : Nat) (w : World) (h : g = w.heap.size) (t : TypeId) => first_3D (whenE (binn != -1) 11) (whenE (!inB at_ 0 5761439) 1) (whenE (decide (at_ < last)) 7) g w h t
    have HZ : Hid (firstE [whenE (binn != -1) 11, whenE (!inB at_ 0 5761439) 1, whenE (decide (at_ < last)) 7] = 0 ↔ (binn = -1 ∧ (0 ≤ at_ ∧ at_ ≤ 5761439) ∧ last ≤ at_)) := by
      show _ ↔ _
      rw [firstE_zero]
      simp only [List.mem_cons, List.not_mem_nil, or_false, forall_eq_or_imp, forall_eq]
      rw [whenE_zero (by decide), whenE_zero (by decide), whenE_zero (by decide)]
      simp only [Bool.not_eq_false', inB, decide_eq_true_eq, decide_eq_false_iff_not, bne_eq_false_iff_eq]
      constructor
      · rintro ⟨h1, h2, h3⟩
        exact ⟨h1, h2, by omega⟩
      · rintro ⟨h1, h2, h3⟩
        exact ⟨h1, h2, by omega⟩
    clear hdr hal g3 g2 ew
    generalize firstE [whenE (binn != -1) 11, whenE (!inB at_ 0 5761439) 1, whenE (decide (at_ < last)) 7] = Z at *
    generalize whenE (binn != -1) 11 = e1 at *
    generalize whenE (!inB at_ 0 5761439) 1 = e2 at *
    generalize whenE (decide (at_ < last)) 7 = e3 at *
    have HF3 := Lib.hid hF3
    clear hF3
    by_cases hz0 : Z = 0
    · have HOK := Lib.hid (HZ.out.1 hz0)
      subst hz0
      go_upto_region 7 with (go_at_call 29; refine (HF3.out _ _ rfl _).mono ?_; rintro e w'' ⟨rfl, rfl⟩)
      generalize Y.alloc (.cells #[.int .i64 e1, .int .i64 e2, .int .i64 e3] 29) = V at *
      clear HZ HF3
      have HDV := Lib.hid (HD.out.keep HVB.out)
      have HDAV := Lib.hid (ElemsAt.keep HDA.out HVB.out)
      have HRV := Lib.hid (HROW.out.below_ HVB.out)
      have c4V : V.cell? ⟨gA, k * 5 + 4, none⟩ = some (.slice R rn rc) := (HVB.out.cell (p := ⟨gA, _, none⟩) hgA).trans c4
      have hvs := HVB.out.size
      have hgAV : gA < V.heap.size := by omega
      clear c2 c4 HD HDA HROW
      have hb1 : Below V.heap.size V (V.alloc (.map #[] 0)) := (Below.refl _ _).alloc (Nat.le_refl _) _
      have HM0 : Hid (SetAt (V.alloc (.map #[] 0)) V.heap.size []) := World.ownsMap_made V _ _ _
      have hmm := @run_makeMap Tryz.prog
      go_upto_region 8 with (fail)
      clear hmm
      have c4W : (V.alloc (.map #[] 0)).cell? ⟨gA, k * 5 + 4, none⟩ = some (.slice R rn rc) := (hb1.cell (p := ⟨gA, _, none⟩) hgAV).trans c4V
      obtain ⟨M1, hM1⟩ : ∃ M1, M1 = V.heap.size := ⟨_, rfl⟩
      rw [← hM1] at HM0 ⊢
      have HVM := Lib.hid hM1
      have HB1 := Lib.hid hb1
      clear hb1 hM1
      generalize V.alloc (.map #[] 0) = V1 at *
      go_wp2_with fail
      go_loopg [61] rn (fun gk v wr => ∃ j : Nat, Hid (j + gk = rn) ∧ v = .int .i64 (j : Int) ∧ Hid (SetAt wr M1 (bids.take j)) ∧ Hid (Below V.heap.size V wr))
      case atStart => exact ⟨0, show 0 + rn = rn by omega, rfl, HM0.out, HB1.out⟩
      case round =>
        obtain ⟨j, HJ, rfl, HS1, HW⟩ := hrel
        clear HM0 HB1 c4W
        have hjn : j ≤ rn := by have := HJ.out; omega
        by_cases hlt : j < rn
        · have HGK := Lib.hid (show j + 1 + (gk - 1) = rn ∧ 0 < gk by have := HJ.out; omega)
          obtain ⟨A7, c7, hv7, -, hat7, -⟩ := (HRV.out.below_ HW.out).at_ strE_ok
          have hrn := HRN.out
          rw [← hrn] at hv7 hat7
          simp only [Value.slice.injEq] at hv7
          obtain ⟨rfl, -, rfl⟩ := hv7
          obtain ⟨gB, ob, rfl, hgB, hcB⟩ := ElemsAt.str hat7 (by omega)
          have hcj := hcB j hlt
          have hjl : j < bids.length := by omega
          obtain ⟨x, hx⟩ : ∃ x, bids[j]? = some x := ⟨_, List.getElem?_eq_getElem hjl⟩
          have hgd : bids.getD j [] = x := by rw [List.getD_eq_getElem?_getD, hx]; rfl
          rw [hgd] at hcj
          have hxs := (HIB.out.2 x (List.mem_of_getElem? hx)).1
          have hxb : (⟨x.toArray⟩ : ByteArray).size ≤ 1000000 := by simp [ByteArray.size]; omega
          have HKEY : Hid (keyOf Tryz.prog 9 (.string ⟨x.toArray⟩) = some (.string x)) := keyS_mk ⟨x.toArray⟩ hxb
          have HTK := Lib.hid (takeD hx)
          have htl : (bids.take j).length ≤ 10000 := by rw [List.length_take]; omega
          clear hcB hx hgd hxs hjl hat7 hrn hgB
          go_wp2_with (at_mapUpdate; refine wpList_mapUpdate_own _ rfl _ _ _ 50 rfl 9 4 keyS Tryz.underlying50 _ M1 (bids.take j).length _ rfl HS1.out (by simp only [maxLen]; omega) _ _ (.string x) rfl rfl HKEY.out (.lit (.bool true)) [] (plainElem_bool Tryz.underlying4 true) ?_; intro w5 hown5 hgrow5)
          have HM5 : Hid (SetAt w5 M1 (bids.take (j + 1))) := by
            show World.ownsMap _ _ _ _ _ _ _
            rw [HTK.out, setD_snoc, List.length_append]
            exact hown5
          have HW5 : Hid (Below V.heap.size V w5) := HW.out.grown hgrow5 HW.out.size (fun i hi => by cases hi; exact Nat.le_of_eq HVM.out.symm)
          clear hown5 hgrow5
          go_wp2_with fail
          go_roundg (gk - 1)
          case measure => have := HGK.out; omega
          case rel => exact ⟨j + 1, HGK.out.1, by go_num, HM5.out, HW5.out⟩
        · have hnk : ¬ (j : Int) < (rn : Int) := by omega
          have hta : bids.take j = bids := List.take_of_length_le (by rw [← HRN.out]; omega)
          rw [hta] at HS1
          clear hta HJ
          obtain ⟨V2, rfl⟩ : ∃ V2 : World, V2 = wr := ⟨_, rfl⟩
          obtain ⟨go, rfl⟩ : ∃ go : Nat, go = gk := ⟨_, rfl⟩
          have hmm := @run_makeMap Tryz.prog
          have hb3 : Below V2.heap.size V2 (V2.alloc (.map #[] 0)) := (Below.refl _ _).alloc (Nat.le_refl _) _
          have HS20 : Hid (SetAt (V2.alloc (.map #[] 0)) V2.heap.size []) := World.ownsMap_made V2 _ _ _
          have HS13 := Lib.hid (HS1.out.belowD hb3)
          have HW3 := Lib.hid (HW.out.trans (hb3.mono HW.out.size))
          have hM12 : M1 < V2.heap.size := HS1.out.lt
          clear HS1
          go_upto_region 14 with (fail)
          clear hmm
          obtain ⟨M2, hM2⟩ : ∃ M2, M2 = V2.heap.size := ⟨_, rfl⟩
          rw [← hM2] at HS20 hM12 ⊢
          have HVM2 : Hid (V.heap.size ≤ M2 ∧ M1 < M2) := ⟨by rw [hM2]; exact HW.out.size, hM12⟩
          clear hb3 hM2 HW hM12
          generalize V2.alloc (.map #[] 0) = V3 at *
          clear hlt hnk hjn
          go_wp2_with fail
          go_loopg [71] dn (fun gk v wr => ∃ j : Nat, Hid (j + gk = dn) ∧ v = .int .i64 (j : Int) ∧ Hid (SetAt wr M1 bids) ∧ Hid (SetAt wr M2 (done.take j)) ∧ Hid (∀ x ∈ done.take j, x ∈ bids) ∧ Hid ((done.take j).Nodup) ∧ Hid (Below V.heap.size V wr))
          case atStart => exact ⟨0, show 0 + dn = dn by omega, rfl, HS13.out, HS20.out, (fun x hx => by simp at hx), (show List.Nodup _ from List.nodup_nil), HW3.out⟩
          case round =>
            obtain ⟨j, HJ, rfl, HS1, HS2, HSUB, HND, HW⟩ := hrel
            clear HS13 HS20 HW3
            have hjn : j ≤ dn := by have := HJ.out; omega
            by_cases hlt : j < dn
            · have HGK := Lib.hid (show j + 1 + (gk - 1) = dn ∧ 0 < gk by have := HJ.out; omega)
              obtain ⟨gB, ob, rfl, hgB, hcB⟩ := (ElemsAt.keep HDAV.out HW.out).str (by omega)
              have hcj := hcB j hlt
              have hjl : j < done.length := by rw [← HDN.out]; exact hlt
              obtain ⟨x, hx⟩ : ∃ x, done[j]? = some x := ⟨_, List.getElem?_eq_getElem hjl⟩
              have hgd : done.getD j [] = x := by rw [List.getD_eq_getElem?_getD, hx]; rfl
              rw [hgd] at hcj
              have hmem := List.mem_of_getElem? hx
              have hxs := HDS.out x hmem
              have hxb : (⟨x.toArray⟩ : ByteArray).size ≤ 1000000 := by simp [ByteArray.size]; omega
              have HKEY : Hid (keyOf Tryz.prog 9 (.string ⟨x.toArray⟩) = some (.string x)) := keyS_mk ⟨x.toArray⟩ hxb
              have HTK := Lib.hid (takeD hx)
              have htl : (done.take j).length ≤ 10000 := by rw [List.length_take]; omega
              have hl1 : (Instr.lookup 50 (.map (some M1)) (.string ⟨x.toArray⟩) false).run Tryz.prog wr.drew = .ok (.bool (bids.contains x)) wr.drew := (show SetAt wr.drew M1 bids from HS1.out).look0 ⟨x.toArray⟩ hxb
              have hl2 : (Instr.lookup 50 (.map (some M2)) (.string ⟨x.toArray⟩) false).run Tryz.prog wr.drew = .ok (.bool ((done.take j).contains x)) wr.drew := (show SetAt wr.drew M2 (done.take j) from HS2.out).look0 ⟨x.toArray⟩ hxb
              have HC1 : Hid (bids.contains x = true ↔ x ∈ bids) := by show _ ↔ _; simp
              have HC2 : Hid ((done.take j).contains x = true ↔ x ∈ done.take j) := by show _ ↔ _; simp
              have HX := Lib.hid hx
              have HMEM := Lib.hid hmem
              generalize bids.contains x = i1 at *
              generalize (done.take j).contains x = i2 at *
              clear hcB hgd hjl hx hmem hgB
              go_wp2_with fail
              refine wp_region_still_tail 9 (by kernel_rfl) (by kernel_rfl) ?_
              simp only [List.take_succ_cons, List.take_zero, List.drop_succ_cons, List.drop_zero]
              repeat still_step
              still_call (when_stillD _ _ _)
              repeat still_step
              still_call (when_stillD _ _ _)
              repeat still_step
              refine wpStill_nil ?_
              change wpList _ _ _ _ _ wr.drew
              clear hl1 hl2
              have HSY1 : Hid (SetAt wr.drew M1 bids) := HS1.out
              have HSY2 : Hid (SetAt wr.drew M2 (done.take j)) := HS2.out
              have HWY := Lib.hid HW.out.drew
              clear HS1 HS2 HW hcj
              generalize wr.drew = Y2 at *
              have hal : Below Y2.heap.size Y2 (Y2.alloc (.cells #[.int .i64 (whenE (!i1) 8), .int .i64 (whenE i2 6)] 29)) := (Below.refl _ _).alloc (Nat.le_refl _) _
              have HSZ1 := Lib.hid (HSY1.out.belowD hal)
              have HSZ2 := Lib.hid (HSY2.out.belowD hal)
              have HWZ := Lib.hid (HWY.out.trans (hal.mono HWY.out.size))
              have hF2 := fun (g : Nat) (w : World) (h : g = w.heap.size) (t : TypeId) => first_2D (whenE (!i1) 8) (whenE i2 6) g w h t
              have HZ2 : Hid (firstE [whenE (!i1) 8, whenE i2 6] = 0 ↔ (i1 = true ∧ i2 = false)) := by
                show _ ↔ _
                rw [firstE_zero]
                simp only [List.mem_cons, List.not_mem_nil, or_false, forall_eq_or_imp, forall_eq]
                rw [whenE_zero (by decide), whenE_zero (by decide)]
                simp only [Bool.not_eq_false']
              generalize firstE [whenE (!i1) 8, whenE i2 6] = Z2 at *
              generalize whenE (!i1) 8 = f1 at *
              generalize whenE i2 6 = f2 at *
              have HF2 := Lib.hid hF2
              clear hF2 hal HSY1 HSY2 HWY
              by_cases hz2 : Z2 = 0
              · have HOK2 := Lib.hid (HZ2.out.1 hz2)
                subst hz2
                have HXB : Hid (x ∈ bids) := HC1.out.1 HOK2.out.1
                have HXN : Hid (x ∉ done.take j) := fun h => by have h1 := HC2.out.2 h; rw [HOK2.out.2] at h1; cases h1
                go_wp2_with (first
                  | (go_at_call 29; refine (HF2.out _ _ rfl _).mono ?_; rintro e w'' ⟨rfl, rfl⟩)
                  | (at_mapUpdate; refine wpList_mapUpdate_own _ rfl _ _ _ 50 rfl 9 4 keyS Tryz.underlying50 _ M2 (done.take j).length _ rfl HSZ2.out (by simp only [maxLen]; omega) _ _ (.string x) rfl rfl HKEY.out (.lit (.bool true)) [] (plainElem_bool Tryz.underlying4 true) ?_; intro w5 hown5 hgrow5))
                have HM5 : Hid (SetAt w5 M2 (done.take (j + 1))) := by
                  show World.ownsMap _ _ _ _ _ _ _
                  rw [HTK.out, setD_snoc, List.length_append]
                  exact hown5
                have HM51 : Hid (SetAt w5 M1 bids) := HSZ1.out.keptD hgrow5 (fun e => by have := Option.some.inj e; have := HVM2.out.2; omega)
                have HW5 : Hid (Below V.heap.size V w5) := HWZ.out.grown hgrow5 HWZ.out.size (fun i hi => by cases hi; exact HVM2.out.1)
                clear hown5 hgrow5
                go_wp2_with fail
                go_roundg (gk - 1)
                case measure => have := HGK.out; omega
                case rel => exact ⟨j + 1, HGK.out.1, by go_num, HM51.out, HM5.out, (by
                  intro y hy
                  rw [HTK.out] at hy
                  rcases List.mem_append.1 hy with hy | hy
                  · exact HSUB.out y hy
                  · rw [List.mem_singleton.1 hy]; exact HXB.out), nodup_snocD HX.out HND.out HXN.out, HW5.out⟩
              · have hzb : (Z2 != 0) = true := by simpa using hz2
                have HNOT : Hid (∀ k b, ¬ RetOk no at_ done bats last k b) := fun k' b' h => by
                  obtain ⟨rfl, rfl⟩ := HUNI.out k' b' h
                  refine hz2 (HZ2.out.2 ⟨HC1.out.2 (h.sub x HMEM.out), ?_⟩)
                  cases i2 with
                  | false => rfl
                  | true => exact absurd h.once (not_onceD HX.out (HC2.out.1 rfl))
                have HZ0 := Lib.hid hz2
                clear hz2
                go_wp2_with (go_at_call 29; refine (HF2.out _ _ rfl _).mono ?_; rintro e w'' ⟨rfl, rfl⟩)
                go_ret
                exact ⟨Z2, rfl, (HVB.out.mono hbase).trans (HWZ.out.mono (Nat.le_trans hbase hvs)), .inl ⟨HZ0.out, HDV.out.keep HWZ.out, HNOT.out⟩⟩
            · have hnk : ¬ (j : Int) < (dn : Int) := by omega
              have hta : done.take j = done := List.take_of_length_le (by rw [← HDN.out]; omega)
              rw [hta] at HS2 HSUB HND
              clear hta HJ
              obtain ⟨V4, rfl⟩ : ∃ V4 : World, V4 = wr := ⟨_, rfl⟩
              obtain ⟨go2, rfl⟩ : ∃ go2 : Nat, go2 = gk := ⟨_, rfl⟩
              have c4X : V4.cell? ⟨gA, k * 5 + 4, none⟩ = some (.slice R rn rc) := (HW.out.cell (p := ⟨gA, _, none⟩) hgAV).trans c4V
              have HD4 := Lib.hid (HDV.out.keep HW.out)
              have HR4 := Lib.hid (HRV.out.below_ HW.out)
              have HB4 : Hid (Below base w' V4) := (HVB.out.mono hbase).trans (HW.out.mono (Nat.le_trans hbase hvs))
              have HMM : Hid (M < M2) := by
                have h1 := HDV.out.st.lt
                have h2 := HVM2.out.1
                show _ < _
                omega
              clear HS1 HW c4V HDV HRV HDAV
              go_wp2_with fail
              clear hnk hlt hjn
              go_loopg [97] rn (fun gk v wr => ∃ j m' : Nat, Hid (j + gk = rn) ∧ v = .int .i64 (j : Int) ∧ Hid (m' ≤ m + 2 * j) ∧ Hid (DeskAt wr base g M fv P items dom m' (.slice (some ⟨gA, 0, none⟩) nb bc) (backL (bids.take j) done st) bats last) ∧ Hid (SetAt wr M2 done) ∧ Hid (OwnStrs wr base (.slice R rn rc) bids) ∧ Hid (Below base w' wr))
              case atStart => exact ⟨0, m, show 0 + rn = rn by omega, rfl, (show m ≤ m + 2 * 0 by omega), (by rw [List.take_zero, backL_nil]; exact HD4.out), HS2.out, HR4.out, HB4.out⟩
              case round =>
                obtain ⟨j, m', HJ, rfl, HMJ, HD5, HS5, HR5, HW⟩ := hrel
                clear HD4 HS2 HR4 HB4 c4X
                have hjn : j ≤ rn := by have := HJ.out; omega
                have hmj := HMJ.out
                by_cases hlt : j < rn
                · have HGK := Lib.hid (show j + 1 + (gk - 1) = rn ∧ 0 < gk by have := HJ.out; omega)
                  obtain ⟨A7, c7, hv7, -, hat7, -⟩ := HR5.out.at_ strE_ok
                  have hrn := HRN.out
                  rw [← hrn] at hv7 hat7
                  simp only [Value.slice.injEq] at hv7
                  obtain ⟨rfl, -, rfl⟩ := hv7
                  obtain ⟨gB, ob, rfl, hgB, hcB⟩ := ElemsAt.str hat7 (by omega)
                  have hcj := hcB j hlt
                  have hjl : j < bids.length := by omega
                  obtain ⟨x, hx⟩ : ∃ x, bids[j]? = some x := ⟨_, List.getElem?_eq_getElem hjl⟩
                  have hgd : bids.getD j [] = x := by rw [List.getD_eq_getElem?_getD, hx]; rfl
                  rw [hgd] at hcj
                  have HXS := Lib.hid (HIB.out.2 x (List.mem_of_getElem? hx))
                  have hxb : (⟨x.toArray⟩ : ByteArray).size ≤ 1000000 := by have := HXS.out.1; simp [ByteArray.size]; omega
                  have HXB := Lib.hid hxb
                  have HKEY : Hid (keyOf Tryz.prog 9 (.string ⟨x.toArray⟩) = some (.string x)) := keyS_mk ⟨x.toArray⟩ hxb
                  have HTK := Lib.hid (takeD hx)
                  obtain ⟨D, hm1, hm2, hm3⟩ := HD5.out.st.ex
                  have HM1 := Lib.hid hm1
                  have HM23 := Lib.hid (And.intro hm2 hm3)
                  have g1 := HD5.out.c.2.1
                  clear hcB hx hgd hjl hat7 hrn hgB hxb hm1 hm2 hm3
                  go_upto_region 26 with (at_mapUpdate; refine wpList_mapUpdate_own _ rfl _ _ _ 63 rfl 9 3 keyS Tryz.underlying63 _ M m' D rfl HM1.out (by simp only [maxLen]; omega) _ _ (.string x) rfl rfl HKEY.out (.held (.int .i64 0)) [] rfl ?_; intro w5 hown5 hgrow5)
                  have HD6 : Hid (DeskAt w5 base g M fv P items dom (m' + 1) (.slice (some ⟨gA, 0, none⟩) nb bc) (fun id => if id = x then 0 else backL (bids.take j) done st id) bats last) := by
                    refine HD5.out.putSt hgrow5 ((StAt.put x 0 HM1.out HM23.out.1 HM23.out.2 hown5).congr (fun y => rfl) (fun y => ?_))
                    by_cases e : y = x
                    · subst e; simp [HXS.out.2]
                    · simp [e]
                  have HS6 : Hid (SetAt w5 M2 done) := HS5.out.keptD hgrow5 (fun e => by have := Option.some.inj e; have := HMM.out; omega)
                  have HR6 : Hid (OwnStrs w5 base (.slice (some ⟨gB, ob, none⟩) rn rc) bids) := HR5.out.notin hgrow5 (fun b hb e => owns_ne_map HR5.out HD5.out.st (hb.trans e.symm))
                  have HW6 : Hid (Below base w' w5) := HW.out.grown hgrow5 (Nat.le_trans hbase HW.out.size) (fun i e => by cases e; exact HD5.out.hM)
                  have hlk : (Instr.lookup 50 (.map (some M2)) (.string ⟨x.toArray⟩) false).run Tryz.prog w5 = .ok (.bool (done.contains x)) w5 := HS6.out.look0 ⟨x.toArray⟩ HXB.out
                  have HC2 : Hid (done.contains x = true ↔ x ∈ done) := by show _ ↔ _; simp
                  generalize done.contains x = i2 at *
                  clear hown5 hgrow5 g1 HM1 HM23 HD5 HS5 HR5 HW hcj
                  cases i2 with
                  | false =>
                    have HBK2 : Hid (backL (bids.take (j + 1)) done st = fun id => if id = x then 0 else backL (bids.take j) done st id) := by
                      show _ = _
                      have hn : x ∉ done := fun h => by have := HC2.out.2 h; cases this
                      rw [HTK.out, backL_snoc, if_neg hn]
                    go_wp2_with fail
                    go_roundg (gk - 1)
                    case measure => have := HGK.out; omega
                    case rel => exact ⟨j + 1, m' + 1, HGK.out.1, by go_num, (show m' + 1 ≤ m + 2 * (j + 1) by omega), (by rw [HBK2.out]; exact HD6.out), HS6.out, HR6.out, HW6.out⟩
                  | true =>
                    have HBK2 : Hid (backL (bids.take (j + 1)) done st = fun id => if id = x then 2 else backL (bids.take j) done st id) := by
                      show _ = _
                      rw [HTK.out, backL_snoc, if_pos (HC2.out.1 rfl)]
                    obtain ⟨D2, hm1, hm2, hm3⟩ := HD6.out.st.ex
                    have HM1 := Lib.hid hm1
                    have HM23 := Lib.hid (And.intro hm2 hm3)
                    have g1 := HD6.out.c.2.1
                    clear hm1 hm2 hm3
                    go_wp2_with (at_mapUpdate; refine wpList_mapUpdate_own _ rfl _ _ _ 63 rfl 9 3 keyS Tryz.underlying63 _ M (m' + 1) D2 rfl HM1.out (by simp only [maxLen]; omega) _ _ (.string x) rfl rfl HKEY.out (.held (.int .i64 2)) [] rfl ?_; intro w7 hown7 hgrow7)
                    have HD7 : Hid (DeskAt w7 base g M fv P items dom (m' + 1 + 1) (.slice (some ⟨gA, 0, none⟩) nb bc) (backL (bids.take (j + 1)) done st) bats last) := by
                      refine HD6.out.putSt hgrow7 ((StAt.put x 2 HM1.out HM23.out.1 HM23.out.2 hown7).congr (fun y => ?_) (fun y => ?_))
                      · rw [HBK2.out]
                        by_cases e : y = x <;> simp [e]
                      · by_cases e : y = x
                        · subst e; simp [HXS.out.2]
                        · simp [e]
                    have HS7 : Hid (SetAt w7 M2 done) := HS6.out.keptD hgrow7 (fun e => by have := Option.some.inj e; have := HMM.out; omega)
                    have HR7 : Hid (OwnStrs w7 base (.slice (some ⟨gB, ob, none⟩) rn rc) bids) := HR6.out.notin hgrow7 (fun b hb e => owns_ne_map HR6.out HD6.out.st (hb.trans e.symm))
                    have HW7 : Hid (Below base w' w7) := HW6.out.grown hgrow7 (Nat.le_trans hbase HW6.out.size) (fun i e => by cases e; exact HD6.out.hM)
                    clear hown7 hgrow7 g1 HM1 HM23 HD6 HS6 HR6 HW6 hlk
                    go_wp2_with fail
                    go_roundg (gk - 1)
                    case measure => have := HGK.out; omega
                    case rel => exact ⟨j + 1, m' + 1 + 1, HGK.out.1, by go_num, (show m' + 1 + 1 ≤ m + 2 * (j + 1) by omega), HD7.out, HS7.out, HR7.out, HW7.out⟩
                · have hnk : ¬ (j : Int) < (rn : Int) := by omega
                  have hta : bids.take j = bids := List.take_of_length_le (by rw [← HRN.out]; omega)
                  rw [hta] at HD5
                  have HMJ2 : Hid (m' ≤ m + 2 * bids.length) := by have := HRN.out; show _ ≤ _; omega
                  have c2 := HD5.out.bats.cell2 HBK.out
                  have cf2 := HD5.out.bats.own.frzD (k * 5 + 2)
                  have HD8 := Lib.hid (HD5.out.setIn (z := at_) HBK.out)
                  have g3 := HD8.out.c.2.2.2
                  have gf3 := HD8.out.f 3
                  have HD9 := Lib.hid (HD8.out.setLast at_)
                  have HW9 : Hid (Below base w' ((wr.setCell ⟨gA, k * 5 + 2, none⟩ (.int .i64 at_)).setCell ⟨g, 3, none⟩ (.int .i64 at_))) := (HW.out.setCell hbg _).setCell HD5.out.hg _
                  have HOKK : Hid (RetOk no at_ done bats last k ⟨bno, bout, binn, bwho, (R, rn, rc), bids⟩) := ⟨HNO.out, HBK.out, HOK.out.1, HOK.out.2.1, HOK.out.2.2, HSUB.out, HND.out⟩
                  clear hta HJ HD5 HD8
                  simp only at c2
                  go_wp2_with fail
                  go_ret
                  exact ⟨0, rfl, HW9.out, .inr ⟨rfl, k, _, m', HOKK.out, HMJ2.out, HD9.out⟩⟩
    · have hzb : (Z != 0) = true := by simpa using hz0
      have HNOT : Hid (∀ k b, ¬ RetOk no at_ done bats last k b) := fun k' b' h => by
        obtain ⟨rfl, rfl⟩ := HUNI.out k' b' h
        exact hz0 (HZ.out.2 ⟨h.out, h.mom, h.ord⟩)
      have HZ0 := Lib.hid hz0
      clear hz0
      go_wp2_with (go_at_call 29; refine (HF3.out _ _ rfl _).mono ?_; rintro e w'' ⟨rfl, rfl⟩)
      go_ret
      exact ⟨Z, rfl, HVB.out.mono hbase, .inl ⟨HZ0.out, HD.out.keep HVB.out, HNOT.out⟩⟩
  · have hinb : inB no 1 (nb : Int) = false := by simp [inB]; omega
    rw [hinb] at HIN
    have HNOT : Hid (∀ k b, ¬ RetOk no at_ done bats last k b) := fun k b h => by
      have h1 := h.num
      have h2 := (List.getElem?_eq_some_iff.1 h.at_k).1
      have h3 := HNB.out
      omega
    clear hin hinb hat hoff
    go_enter Tryz.func14, Tryz.ntmps14
    go_wp2_with fail
    refine HIN.out.mono ?_
    rintro e w' ⟨rfl, hw⟩
    obtain rfl := hw
    go_wp2_with fail
    go_ret
    exact ⟨8, rfl, Below.refl _ _, .inl ⟨by decide, HD.out, HNOT.out⟩⟩
end Go.Proofs.YtdojnbnhogbhiaaGreatDoor

namespace Go.Proofs.YtdojnbnhogbhiaaGreatDoor
open Go.RowKit Go.Maps
attribute [local go_sem ↓] Go.wp_at_zero Go.wp_at_succ

theorem keyL_lenD {l : List UInt8} (h : keyL l = true) : l.length ≤ 40 := by
  unfold keyL at h
  simp at h
  omega
def domL (l : List Str) : Str → Bool := fun x => decide (x ∈ l)
theorem fam_ne_bat : FamE.t ≠ BatE.t := by decide
theorem owns_ne_rest {α : Type} {E : Elem α} {w : World} {base R m : Nat} {v : Value} {l : List α} {dom : Str → Bool} (h : Owns E w base v l) (hm : RestAt w R m dom) : v.ownBlock ≠ some R := by
  obtain ⟨D, ⟨es, cl, hb, _⟩, _⟩ := hm.ex
  intro e
  rcases h.2 with ⟨rfl, _⟩ | ⟨g, cap, cur, rfl, _, hh, _⟩
  · cases e
  · have e2 : g = R := Option.some.inj e
    subst e2
    rw [hb] at hh
    cases hh
theorem RestAt.setDesk {w : World} {R m g j : Nat} {u : Value} {dom : Str → Bool} {cs : Array Value} {t : TypeId} {fr : Nat × Nat} (h : RestAt w R m dom) (hrow : w.heap[g]? = some (.cells cs t fr)) : RestAt (w.setCell ⟨g, j, none⟩ u) R m dom := by
  refine h.kept (grown_setCell w g j u) (fun e => ?_)
  obtain ⟨D, ⟨es, cl, hb, _⟩, _⟩ := h.ex
  have e2 : g = R := Option.some.inj e
  subst e2
  rw [hb] at hrow
  cases hrow
/-- A desk's families grow by one. -/
theorem DeskAt.appF {w w' : World} {base g M m : Nat} {fv bv fv' : Value} {P : List (Str × Hd3)} {items : Str → List Str} {dom : Str → Bool} {st : Str → Int} {bats : List Bat} {last : Int} {p : Str × Hd3} (h : DeskAt w base g M fv P items dom m bv st bats last) (ho : Owns FamE w' base fv' (P ++ [p])) (hg : w.grownBy w' fv.ownBlock) (hp : OwnStrs w base (hv3 p.2) (items p.1)) : DeskAt (w'.setCell ⟨g, 0, none⟩ fv') base g M fv' (P ++ [p]) items dom m bv st bats last := by
  have hr : w'.heap[g]? = some (.cells #[fv, .map (some M), bv, .int .i64 last] 65 (0, 0)) := (hg.block g h.lt (fun e => h.fam.ne_block h.row desk_ne_fam e.symm)).trans h.row
  refine ⟨?_, h.hg, h.hM, ho.setDesk hr desk_ne_fam, fun q hq => ?_, (h.st.kept hg (owns_ne_map h.fam h.st)).setDesk hr, ⟨(h.bats.own.beside h.fam fam_ne_bat hg).setDesk hr desk_ne_bat, fun q hq => ((h.bats.row q hq).beside h.fam fam_ne hg).setDesk hr desk_ne⟩⟩
  · simp [World.setCell, Array.getElem?_modify, hr]
  · rcases List.mem_append.1 hq with hq | hq
    · exact ((h.frow q hq).beside h.fam fam_ne hg).setDesk hr desk_ne
    · rw [List.mem_singleton.1 hq]
      exact (hp.beside h.fam fam_ne hg).setDesk hr desk_ne
theorem StAt.zero {w w' : World} {M m : Nat} {L : List Str} {D : DataW Value} (x : Str) (h1 : w.ownsMap Tryz.prog 9 heldE M m D) (h2 : ∀ id : Str, D.atKey (.string id) (.held (.int .i64 0)) = .held (.int .i64 0)) (h3 : ∀ id : Str, has D (.string id) = domL L id)
    (hm : w'.ownsMap Tryz.prog 9 heldE M (m + 1) (D.put (.string x) (.held (.int .i64 0)))) : StAt w' M (m + 1) (fun _ => 0) (domL (L ++ [x])) := by
  refine (StAt.put (st := fun _ => 0) x 0 h1 h2 h3 hm).congr (fun y => by simp) (fun y => ?_)
  unfold domL
  by_cases e : y = x <;> simp [e]
theorem DeskAt.besideRest {w w' : World} {base g M m R mr : Nat} {fv bv : Value} {P : List (Str × Hd3)} {items : Str → List Str} {dom domr : Str → Bool} {st : Str → Int} {bats : List Bat} {last : Int} (h : DeskAt w base g M fv P items dom m bv st bats last) (hr : RestAt w R mr domr) (hne : R ≠ M) (hg : w.grownBy w' (some R)) : DeskAt w' base g M fv P items dom m bv st bats last := by
  have hgR : g ≠ R := fun e => by
    obtain ⟨D, ⟨es, cl, hb, _⟩, _⟩ := hr.ex
    subst e
    have := h.row
    rw [hb] at this
    cases this
  exact ⟨(hg.block g h.lt (fun e => hgR (Option.some.inj e))).trans h.row, h.hg, h.hM, h.fam.notin hg (fun b hb e => owns_ne_rest h.fam hr (hb.trans e.symm)), fun p hp => (h.frow p hp).notin hg (fun b hb e => owns_ne_rest (h.frow p hp) hr (hb.trans e.symm)), h.st.kept hg (fun e => hne (Option.some.inj e)),
    ⟨h.bats.own.notin hg (fun b hb e => owns_ne_rest h.bats.own hr (hb.trans e.symm)), fun p hp => (h.bats.row p hp).notin hg (fun b hb e => owns_ne_rest (h.bats.row p hp) hr (hb.trans e.symm))⟩⟩
theorem domL_nil : domL [] = fun _ => false := by funext x; simp [domL]
theorem takeP {α : Type} {l : List α} {k : Nat} {x : α} (h : l[k]? = some x) : l.take (k + 1) = l.take k ++ [x] := by
  obtain ⟨h1, h2⟩ := List.getElem?_eq_some_iff.1 h
  rw [List.take_succ_eq_append_getElem h1, h2]
theorem RestAt.next {w w' : World} {R m : Nat} {T : List Str} {D : DataW Value} (x : Str) (t : ByteArray) (hd : Hd3) (h1 : w.ownsMap Tryz.prog 9 heldE R m D) (h2 : ∀ id : Str, ∃ (t : ByteArray) (h : Hd3), D.atKey (.string id) (.held famZ) = .held (.agg #[.string t, hv3 h])) (h3 : ∀ id : Str, has D (.string id) = domL T id)
    (hm : w'.ownsMap Tryz.prog 9 heldE R (m + 1) (D.put (.string x) (.held (.agg #[.string t, hv3 hd])))) : RestAt w' R (m + 1) (domL (T ++ [x])) := by
  refine (RestAt.put x t hd h1 h2 h3 hm).congr (fun y => ?_)
  unfold domL
  by_cases e : y = x <;> simp [e]
theorem frozen_deskN {w : World} {g : Nat} {cs : Array Value} {t : TypeId} (h : w.heap[g]? = some (.cells cs t (0, 0))) (j : Nat) : w.frozen? ⟨g, j, none⟩ = false := by simp [World.frozen?, h]
theorem new_app {X w : World} {base g M m R mr B0 : Nat} {fv bv fv' : Value} {P : List (Str × Hd3)} {items : Str → List Str} {dom domr : Str → Bool} {st : Str → Int} {bats : List Bat} {last : Int} {p : Str × Hd3}
    (hD : DeskAt X base g M fv P items dom m bv st bats last) (hr : RestAt X R mr domr) (ho : Owns FamE w B0 fv' (P ++ [p])) (hB0 : base ≤ B0) (hg : X.grownBy w fv.ownBlock) (hp : OwnStrs X base (hv3 p.2) (items p.1)) :
    DeskAt (w.setCell ⟨g, 0, none⟩ fv') base g M fv' (P ++ [p]) items dom m bv st bats last ∧ Owns FamE (w.setCell ⟨g, 0, none⟩ fv') B0 fv' (P ++ [p]) ∧ RestAt (w.setCell ⟨g, 0, none⟩ fv') R mr domr := by
  have hrow : w.heap[g]? = some (.cells #[fv, .map (some M), bv, .int .i64 last] 65 (0, 0)) := (hg.block g hD.lt (fun e => hD.fam.ne_block hD.row desk_ne_fam e.symm)).trans hD.row
  exact ⟨hD.appF (ho.base_ hB0) hg hp, ho.setDesk hrow desk_ne_fam, (hr.kept hg (owns_ne_rest hD.fam hr)).setDesk hrow⟩
def NewPost (w : World) (l : List Itm) (e : Ending) (w' : World) : Prop :=
  ∃ (g M : Nat) (fv : Value) (P : List (Str × Hd3)), e = .returned (.tuple #[.pointer (some ⟨g, 0, none⟩), .int .i64 0]) ∧
    DeskAt w' w.heap.size g M fv P (belS (kidN l l.length) 4) (domL (P.flatMap fun p => belS (kidN l l.length) 4 p.1)) (P.flatMap fun p => belS (kidN l l.length) 4 p.1).length (.slice none 0 0) (fun _ => 0) [] 0 ∧
    P.map (·.1) = topN l l.length ∧ Below w.heap.size w w'
set_option maxHeartbeats 3200000 in
set_option maxRecDepth 100000 in
theorem newDesk_any (A : Option Addr) (n c : Nat) (l : List Itm) (w : World) (h : ItemsAt w A n c l) (hl : SetR l) (hT : Tabs w) (hM : MaxAt w) :
    Calls Tryz.prog 6 #[.slice A n c, .slice none 0 0] w (NewPost w l) := by
  have HFA := Lib.hid (families_any A n c l w h hl hT hM)
  have hperm := all_perm hl.set
  have HID : Hid (∀ x ∈ l.map idOf, x.length ≤ 40) := fun x hx => by
    obtain ⟨y, hy, rfl⟩ := List.mem_map.1 hx
    exact keyL_lenD (hl.set.ok.each y hy).id
  have hfew := hl.set.few
  have HTOPL : Hid (∀ x ∈ topN l l.length, x.length ≤ 1000) := top_mem hl.set
  have HPOST : Hid (∀ (g M : Nat) (fv : Value) (P : List (Str × Hd3)) w', DeskAt w' w.heap.size g M fv P (belS (kidN l l.length) 4) (domL (P.flatMap fun p => belS (kidN l l.length) 4 p.1)) (P.flatMap fun p => belS (kidN l l.length) 4 p.1).length (.slice none 0 0) (fun _ => 0) [] 0 → P.map (·.1) = topN l l.length → Below w.heap.size w w' → NewPost w l (.returned (.tuple #[.pointer (some ⟨g, 0, none⟩), .int .i64 0])) w') := fun g M fv P w' h1 h2 h3 => ⟨g, M, fv, P, rfl, h1, h2, h3⟩
  clear h hl hT hM
  go_enter Tryz.func6, Tryz.ntmps6
  go_wp2_with fail
  refine HFA.out.mono ?_
  rintro e w1 ⟨v1, P, rfl, hf1, hb1⟩
  obtain ⟨FA, fc, hv1, -, hat1, -⟩ := hf1.own.at_ famE_ok
  subst hv1
  have HF := Lib.hid hf1
  have HFT := Lib.hid hat1
  have HTOPS := Lib.hid hf1.tops
  have HB1 := Lib.hid hb1
  rw [← hf1.tops, List.flatMap_map] at hperm
  have HIT : Hid (∀ p ∈ P, (belS (kidN l l.length) 4 p.1).length ≤ 2000 ∧ ∀ x ∈ belS (kidN l l.length) 4 p.1, x.length ≤ 40) := fun p hp => by
    have h1 : ∀ x ∈ belS (kidN l l.length) 4 p.1, x ∈ (P.flatMap fun p => belS (kidN l l.length) 4 p.1) := fun x hx => List.mem_flatMap.2 ⟨p, hp, hx⟩
    refine ⟨?_, fun x hx => HID.out x (hperm.subset (h1 x hx))⟩
    have h2 := hperm.length_eq
    rw [List.length_map] at h2
    have h3 := List.Sublist.length_le (List.sublist_flatten_of_mem (List.mem_map.2 ⟨p, hp, rfl⟩ : belS (kidN l l.length) 4 p.1 ∈ P.map fun p => belS (kidN l l.length) 4 p.1))
    rw [← List.flatMap_def, h2] at h3
    omega
  have hlen := hperm.length_eq
  rw [List.length_map] at hlen
  have HTL : Hid (∀ k, ((P.take k).flatMap fun p => belS (kidN l l.length) 4 p.1).length ≤ 2000) := fun k => by
    have h2 : (P.flatMap fun p => belS (kidN l l.length) 4 p.1) = ((P.take k).flatMap fun p => belS (kidN l l.length) 4 p.1) ++ ((P.drop k).flatMap fun p => belS (kidN l l.length) 4 p.1) := by rw [← List.flatMap_append, List.take_append_drop]
    rw [h2, List.length_append] at hlen
    show _ ≤ _
    omega
  have HTS : Hid (∀ p ∈ P, p.1.length ≤ 1000) := fun p hp => by
    have h1 : p.1 ∈ topN l l.length := by rw [← HTOPS.out]; exact List.mem_map.2 ⟨p, hp, rfl⟩
    exact HTOPL.out _ h1
  have hpl : P.length ≤ 2000 := by
    have h1 := congrArg List.length HTOPS.out
    have h2 := topN_len l l.length
    rw [List.length_map] at h1
    omega
  generalize belS (kidN l l.length) 4 = items at *
  generalize topN l l.length = tl at *
  obtain ⟨np, hnp⟩ : ∃ np, np = P.length := ⟨_, rfl⟩
  rw [← hnp] at HFT hpl ⊢
  have HNP := Lib.hid hnp
  clear hf1 hb1 hat1 hperm hnp hlen HFA HID HTOPL hfew
  have hmm := @run_makeMap Tryz.prog
  have hs1 : w.heap.size ≤ w1.heap.size := HB1.out.size
  have hza : (w1.alloc (.map #[] 0)).heap.size = w1.heap.size + 1 := by simp
  have hba : Below w1.heap.size w1 (w1.alloc (.map #[] 0)) := (Below.refl _ _).alloc (Nat.le_refl _) _
  have hSa := StAt.start w1
  have hbb : Below (w1.alloc (.map #[] 0)).heap.size (w1.alloc (.map #[] 0)) ((w1.alloc (.map #[] 0)).alloc (.cells #[.slice none 0 0, .map (some w1.heap.size), .slice none 0 0, .int .i64 0] 65)) := (Below.refl _ _).alloc (Nat.le_refl _) _
  have hrb := heap_alloc_new (w1.alloc (.map #[] 0)) (.cells #[.slice none 0 0, .map (some w1.heap.size), .slice none 0 0, .int .i64 0] 65)
  rw [hza] at hrb
  have hzb : ((w1.alloc (.map #[] 0)).alloc (.cells #[.slice none 0 0, .map (some w1.heap.size), .slice none 0 0, .int .i64 0] 65)).heap.size = w1.heap.size + 1 + 1 := by simp
  have hDb : DeskAt ((w1.alloc (.map #[] 0)).alloc (.cells #[.slice none 0 0, .map (some w1.heap.size), .slice none 0 0, .int .i64 0] 65)) w.heap.size (w1.heap.size + 1) w1.heap.size (.slice none 0 0) [] items (fun _ => false) 0 (.slice none 0 0) (fun _ => 0) [] 0 :=
    ⟨hrb, by omega, hs1, Owns.nil _ _, (fun p hp => by cases hp), hSa.below hbb, ⟨Owns.nil _ _, fun p hp => by cases hp⟩⟩
  have hRc := RestAt.start ((w1.alloc (.map #[] 0)).alloc (.cells #[.slice none 0 0, .map (some w1.heap.size), .slice none 0 0, .int .i64 0] 65))
  rw [hzb] at hRc
  have hbc : Below ((w1.alloc (.map #[] 0)).alloc (.cells #[.slice none 0 0, .map (some w1.heap.size), .slice none 0 0, .int .i64 0] 65)).heap.size ((w1.alloc (.map #[] 0)).alloc (.cells #[.slice none 0 0, .map (some w1.heap.size), .slice none 0 0, .int .i64 0] 65)) (((w1.alloc (.map #[] 0)).alloc (.cells #[.slice none 0 0, .map (some w1.heap.size), .slice none 0 0, .int .i64 0] 65)).alloc (.map #[] 0)) := (Below.refl _ _).alloc (Nat.le_refl _) _
  have HD3 := Lib.hid (hDb.keep hbc)
  have HR3 := Lib.hid hRc
  have HB3 := Lib.hid ((hba.trans (hbb.mono (by rw [hza]; omega))).trans (hbc.mono (by rw [hzb]; omega)))
  clear hza hba hSa hbb hrb hzb hDb hRc hbc
  go_upto_region 6 with (fail)
  clear hmm
  obtain ⟨M, hM⟩ : ∃ M, M = w1.heap.size := ⟨_, rfl⟩
  rw [← hM] at HD3 HR3 HB3 hs1 ⊢
  generalize ((w1.alloc (.map #[] 0)).alloc (.cells #[.slice none 0 0, .map (some M), .slice none 0 0, .int .i64 0] 65)).alloc (.map #[] 0) = w3 at *
  have HM := Lib.hid hM
  clear hM
  go_wp2_with fail
  have HRM : Hid (M + 1 + 1 ≠ M) := by show _ ≠ _; omega
  have HGM : Hid (M ≤ M + 1 ∧ M ≤ M + 1 + 1) := by show _ ∧ _; omega
  generalize M + 1 + 1 = R at *
  generalize M + 1 = g at *
  go_loopg [36] np (fun gk v wr => ∃ k : Nat, Hid (k + gk = np) ∧ v = .int .i64 (k : Int) ∧ Hid (DeskAt wr w.heap.size g M (.slice none 0 0) [] items (domL ((P.take k).flatMap fun p => items p.1)) ((P.take k).flatMap fun p => items p.1).length (.slice none 0 0) (fun _ => 0) [] 0) ∧ Hid (RestAt wr R k (domL ((P.take k).map (·.1)))) ∧ Hid (Below M w1 wr))
  case atStart => exact ⟨0, show 0 + np = np by omega, rfl, (by show DeskAt w3 w.heap.size g M _ _ _ (domL []) 0 _ _ _ _; rw [domL_nil]; exact HD3.out), (by show RestAt w3 R 0 (domL []); rw [domL_nil]; exact HR3.out), HB3.out⟩
  case round =>
    obtain ⟨k, HK, rfl, HD, HR, HB⟩ := hrel
    clear HD3 HR3 HB3
    have hkn : k ≤ np := by have := HK.out; omega
    have HBW : Hid (Below w1.heap.size w1 wr) := by show Below _ _ _; rw [← HM.out]; exact HB.out
    have hmw : M ≤ wr.heap.size := by rw [HM.out]; exact HB.out.size
    by_cases hlt : k < np
    · have HGK := Lib.hid (show k + 1 + (gk - 1) = np ∧ 0 < gk by have := HK.out; omega)
      obtain ⟨gA, off, rfl, hgA, hcA⟩ := (ElemsAt.keep HFT.out HBW.out).2.2.2 (by omega)
      have hkl : k < P.length := by rw [← HNP.out]; exact hlt
      obtain ⟨p, hp⟩ : ∃ p, P[k]? = some p := ⟨_, List.getElem?_eq_getElem hkl⟩
      have hmem : p ∈ P := List.mem_of_getElem? hp
      have c0 := hcA k p 0 (.string ⟨p.1.toArray⟩) hp rfl
      have c1 := hcA k p 1 (hv3 p.2) hp rfl
      have e2 : FamE.size = 2 := rfl
      rw [e2] at c0 c1
      rw [Nat.add_zero] at c0
      have HTP := Lib.hid (takeP hp)
      have hTL1 := HTL.out (k + 1)
      rw [HTP.out, List.flatMap_append] at hTL1
      simp only [List.flatMap_cons, List.flatMap_nil, List.append_nil, List.length_append] at hTL1
      have hRow0 : OwnStrs w1 w.heap.size (hv3 p.2) (items p.1) := HF.out.row p hmem
      have HIP := Lib.hid (HIT.out p hmem)
      have htsz := HTS.out p hmem
      obtain ⟨tp, R0, rn, rc⟩ := p
      simp only [hv3] at c1 hRow0 HIP htsz hTL1
      obtain ⟨R', rc', hv, -, hat, -⟩ := hRow0.at_ strE_ok
      simp only [Value.slice.injEq] at hv
      obtain ⟨rfl, hrn, rfl⟩ := hv
      rw [← hrn] at hat
      have HAT := Lib.hid hat
      have HRN := Lib.hid hrn
      have hrn2 : rn ≤ 2000 := by have := HIP.out.1; omega
      have hxb : (⟨tp.toArray⟩ : ByteArray).size ≤ 1000000 := by simp [ByteArray.size]; omega
      have HKEY : Hid (keyOf Tryz.prog 9 (.string ⟨tp.toArray⟩) = some (.string tp)) := keyS_mk ⟨tp.toArray⟩ hxb
      have hb4 : Below wr.heap.size wr (wr.alloc (.cells #[.string ⟨tp.toArray⟩, .slice R0 rn rc] 68)) := (Below.refl _ _).alloc (Nat.le_refl _) _
      have HD4 := Lib.hid (HD.out.keep hb4)
      have HR4 := Lib.hid (HR.out.below hb4)
      have HB4 := Lib.hid (HB.out.trans (hb4.mono hmw))
      have HQ4 := Lib.hid (heap_alloc_new wr (.cells #[.string ⟨tp.toArray⟩, .slice R0 rn rc] 68))
      clear hcA hkl hp hmem hRow0 hat hb4 hrn hxb HD HR HB HBW hgA
      go_upto_region 9 with (fail)
      obtain ⟨Q, hQ⟩ : ∃ Q, Q = wr.heap.size := ⟨_, rfl⟩
      rw [← hQ] at HQ4 ⊢
      clear hQ
      generalize wr.alloc (.cells #[.string ⟨tp.toArray⟩, .slice R0 rn rc] 68) = w4 at *
      clear c0 c1
      have f0 : w4.cell? ⟨Q, 0, none⟩ = some (.string ⟨tp.toArray⟩) := by rw [cell_of_row w4 Q 0 _ _ _ HQ4.out]; rfl
      have f1 : w4.cell? ⟨Q, 1, none⟩ = some (.slice R0 rn rc) := by rw [cell_of_row w4 Q 1 _ _ _ HQ4.out]; rfl
      obtain ⟨D, hm1, hm2, hm3⟩ := HR4.out.ex
      have HM1 := Lib.hid hm1
      have HM23 := Lib.hid (And.intro hm2 hm3)
      clear hm1 hm2 hm3
      go_upto_region 10 with (at_mapUpdate; refine wpList_mapUpdate_own _ rfl _ _ _ 66 rfl 9 68 keyS Tryz.underlying66 _ R k D rfl HM1.out (by simp only [maxLen]; omega) _ _ (.string tp) rfl rfl HKEY.out (.held (.agg #[.string ⟨tp.toArray⟩, .slice R0 rn rc])) [] rfl ?_; intro w5 hown5 hgrow5)
      have HR5 : Hid (RestAt w5 R (k + 1) (domL ((P.take (k + 1)).map (·.1)))) := by
        show RestAt _ _ _ _
        rw [HTP.out, List.map_append]
        exact RestAt.next tp ⟨tp.toArray⟩ (R0, rn, rc) HM1.out HM23.out.1 HM23.out.2 hown5
      have HD5 := Lib.hid (HD4.out.besideRest HR4.out HRM.out hgrow5)
      have hms := HB4.out.size
      have HB5 : Hid (Below M w1 w5) := HB4.out.grown hgrow5 (by rw [HM.out]; exact hms) (fun i e => by cases e; exact HGM.out.2)
      have hQR : some Q ≠ some R := fun e => by
        obtain ⟨D', ⟨es, cl, hbk, _⟩, _⟩ := HR4.out.ex
        have e2 := Option.some.inj e
        have h2 := HQ4.out
        rw [e2, hbk] at h2
        cases h2
      have f15 : w5.cell? ⟨Q, 1, none⟩ = some (.slice R0 rn rc) := (World.cell?_of_block (hgrow5.block Q (Array.getElem?_eq_some_iff.1 HQ4.out).1 hQR)).trans f1
      clear hown5 hgrow5 f0 f1 hQR HR4 HD4 HB4 HQ4 HM1 HM23 hms
      obtain ⟨ko, rfl⟩ : ∃ ko : Nat, ko = gk := ⟨_, rfl⟩
      obtain ⟨wq, rfl⟩ : ∃ wq : World, wq = wr := ⟨_, rfl⟩
      generalize hLk : ((P.take k).flatMap fun p => items p.1) = Lk at *
      have HLK := Lib.hid hLk
      clear hLk
      go_wp2_with fail
      go_loopg [47] rn (fun gk v wr => ∃ j : Nat, Hid (j + gk = rn) ∧ v = .int .i64 (j : Int) ∧ Hid (DeskAt wr w.heap.size g M (.slice none 0 0) [] items (domL (Lk ++ (items tp).take j)) (Lk ++ (items tp).take j).length (.slice none 0 0) (fun _ => 0) [] 0) ∧ Hid (RestAt wr R (k + 1) (domL ((P.take (k + 1)).map (·.1)))) ∧ Hid (Below M w1 wr))
      case atStart => exact ⟨0, show 0 + rn = rn by omega, rfl, (by show DeskAt _ _ _ _ _ _ _ (domL (Lk ++ [])) (Lk ++ []).length _ _ _ _; rw [List.append_nil]; exact HD5.out), HR5.out, HB5.out⟩
      case round =>
        obtain ⟨j, HJ, rfl, HD6, HR6, HB6⟩ := hrel
        clear HD5 HR5 HB5 f15
        have hjn : j ≤ rn := by have := HJ.out; omega
        have HBW : Hid (Below w1.heap.size w1 wr) := by show Below _ _ _; rw [← HM.out]; exact HB6.out
        by_cases hjlt : j < rn
        · have HGJ := Lib.hid (show j + 1 + (gk - 1) = rn ∧ 0 < gk by have := HJ.out; omega)
          obtain ⟨gB, ob, rfl, hgB, hcB⟩ := (ElemsAt.keep HAT.out HBW.out).str (by omega)
          have hcj := hcB j hjlt
          have hjl : j < (items tp).length := by rw [← HRN.out]; exact hjlt
          obtain ⟨x, hx⟩ : ∃ x, (items tp)[j]? = some x := ⟨_, List.getElem?_eq_getElem hjl⟩
          have hgd : (items tp).getD j [] = x := by rw [List.getD_eq_getElem?_getD, hx]; rfl
          rw [hgd] at hcj
          have hxs := HIP.out.2 x (List.mem_of_getElem? hx)
          have hxb : (⟨x.toArray⟩ : ByteArray).size ≤ 1000000 := by simp [ByteArray.size]; omega
          have HKX : Hid (keyOf Tryz.prog 9 (.string ⟨x.toArray⟩) = some (.string x)) := keyS_mk ⟨x.toArray⟩ hxb
          have HTX := Lib.hid (takeP hx)
          have hbnd : (Lk ++ (items tp).take j).length ≤ 4000 := by rw [List.length_append, List.length_take]; omega
          obtain ⟨D, hm1, hm2, hm3⟩ := HD6.out.st.ex
          have HM1 := Lib.hid hm1
          have HM23 := Lib.hid (And.intro hm2 hm3)
          have g1 := HD6.out.c.2.1
          clear hcB hgd hjl hx hxs hxb hgB hm1 hm2 hm3
          go_wp2_with (at_mapUpdate; refine wpList_mapUpdate_own _ rfl _ _ _ 63 rfl 9 3 keyS Tryz.underlying63 _ M (Lk ++ (items tp).take j).length D rfl HM1.out (by simp only [maxLen]; omega) _ _ (.string x) rfl rfl HKX.out (.held (.int .i64 0)) [] rfl ?_; intro w7 hown7 hgrow7)
          have HD7 : Hid (DeskAt w7 w.heap.size g M (.slice none 0 0) [] items (domL (Lk ++ (items tp).take (j + 1))) (Lk ++ (items tp).take (j + 1)).length (.slice none 0 0) (fun _ => 0) [] 0) := by
            show DeskAt _ _ _ _ _ _ _ _ _ _ _ _ _
            have hz := HD6.out.putSt hgrow7 (StAt.zero x HM1.out HM23.out.1 HM23.out.2 hown7)
            have e9 : (Lk ++ (items tp).take j ++ [x]).length = (Lk ++ (items tp).take j).length + 1 := by simp only [List.length_append, List.length_cons, List.length_nil]
            rw [HTX.out, ← List.append_assoc, e9]
            exact hz
          have HR7 : Hid (RestAt w7 R (k + 1) (domL ((P.take (k + 1)).map (·.1)))) := HR6.out.kept hgrow7 (fun e => HRM.out (Option.some.inj e).symm)
          have HB7 : Hid (Below M w1 w7) := HB6.out.grown hgrow7 (by rw [HM.out]; exact HB6.out.size) (fun i e => by cases e; exact Nat.le_refl _)
          clear hown7 hgrow7 g1
          go_wp2_with fail
          go_roundg (gk - 1)
          case measure => have := HGJ.out; omega
          case rel => exact ⟨j + 1, HGJ.out.1, by go_num, HD7.out, HR7.out, HB7.out⟩
        · have hjk : ¬ (j : Int) < (rn : Int) := by omega
          have hta : (items tp).take j = items tp := List.take_of_length_le (by rw [← HRN.out]; omega)
          rw [hta] at HD6
          have HLN : Hid (((P.take (k + 1)).flatMap fun p => items p.1) = Lk ++ items tp) := by
            show _ = _
            rw [HTP.out, List.flatMap_append, HLK.out]
            simp
          have HD8 : Hid (DeskAt wr w.heap.size g M (.slice none 0 0) [] items (domL ((P.take (k + 1)).flatMap fun p => items p.1)) ((P.take (k + 1)).flatMap fun p => items p.1).length (.slice none 0 0) (fun _ => 0) [] 0) := by
            show DeskAt _ _ _ _ _ _ _ _ _ _ _ _ _
            rw [HLN.out]; exact HD6.out
          clear hta HD6
          go_wp2_with fail
          go_roundg (ko - 1)
          case measure => have := HGK.out; omega
          case rel => exact ⟨k + 1, HGK.out.1, by go_num, HD8.out, HR6.out, HB6.out⟩
    · have hnk : ¬ (k : Int) < (np : Int) := by omega
      have hta : P.take k = P := List.take_of_length_le (by rw [← HNP.out]; omega)
      rw [hta] at HD HR
      have hke : k = np := by omega
      subst hke
      clear hta HK hkn hlt hnk HBW
      obtain ⟨V, rfl⟩ : ∃ V : World, V = wr := ⟨_, rfl⟩
      obtain ⟨go, rfl⟩ : ∃ go : Nat, go = gk := ⟨_, rfl⟩
      go_wp2_with fail
      go_loopg [60] 0 (fun gk v wx => v = .int .i64 0 ∧ Hid (wx = V))
      case atStart => exact ⟨rfl, rfl⟩
      case round =>
        obtain ⟨rfl, HWX⟩ := hrel
        obtain rfl := HWX.out
        clear HWX
        obtain ⟨go2, rfl⟩ : ∃ go2 : Nat, go2 = gk := ⟨_, rfl⟩
        generalize hlA : (P.flatMap fun p => items p.1) = LA at *
        generalize hdR : domL (P.map (·.1)) = domR at *
        have HDR := Lib.hid hdR
        have HLA := Lib.hid hlA
        clear hdR hlA
        obtain ⟨V2, rfl⟩ : ∃ V2 : World, V2 = wr := ⟨_, rfl⟩
        go_wp2_with fail
        go_loopg [93] k (fun gk v wr => ∃ (i : Nat) (fv : Value), Hid (i + gk = k) ∧ v = .int .i64 (i : Int) ∧ Hid (DeskAt wr w.heap.size g M fv (P.take i) items (domL LA) LA.length (.slice none 0 0) (fun _ => 0) [] 0) ∧ Hid (Owns FamE wr M fv (P.take i)) ∧ Hid (RestAt wr R k domR) ∧ Hid (Below M w1 wr))
        case atStart => exact ⟨0, _, show 0 + k = k by omega, rfl, HD.out, Owns.nil _ _, HR.out, HB.out⟩
        case round =>
          obtain ⟨i, fv, HI, rfl, HD4, HO4, HR4, HB4⟩ := hrel
          clear HD HR HB
          have hin : i ≤ k := by have := HI.out; omega
          have HBW : Hid (Below w1.heap.size w1 wr) := by show Below _ _ _; rw [← HM.out]; exact HB4.out
          have hmw : M ≤ wr.heap.size := by rw [HM.out]; exact HB4.out.size
          by_cases hlt : i < k
          · have HGK := Lib.hid (show i + 1 + (gk - 1) = k ∧ 0 < gk by have := HI.out; omega)
            obtain ⟨gA, off, rfl, hgA, hcA⟩ := (ElemsAt.keep HFT.out HBW.out).2.2.2 (by omega)
            have hkl : i < P.length := by rw [← HNP.out]; exact hlt
            obtain ⟨p, hp⟩ : ∃ p, P[i]? = some p := ⟨_, List.getElem?_eq_getElem hkl⟩
            have hmem : p ∈ P := List.mem_of_getElem? hp
            have c0 := hcA i p 0 (.string ⟨p.1.toArray⟩) hp rfl
            have c1 := hcA i p 1 (hv3 p.2) hp rfl
            have e2 : FamE.size = 2 := rfl
            rw [e2] at c0 c1
            rw [Nat.add_zero] at c0
            have HTP := Lib.hid (takeP hp)
            have HRW : Hid (OwnStrs w1 w.heap.size (hv3 p.2) (items p.1)) := HF.out.row p hmem
            have htsz := HTS.out p hmem
            have hdt : domR p.1 = true := by rw [← HDR.out]; exact decide_eq_true (List.mem_map.2 ⟨p, hmem, rfl⟩)
            have hpn : (P.take i).length ≤ 2000 := by rw [List.length_take]; omega
            have HPN := Lib.hid hpn
            have hxb : (⟨p.1.toArray⟩ : ByteArray).size ≤ 1000000 := by simp [ByteArray.size]; omega
            obtain ⟨tp, R0, rn, rc⟩ := p
            simp only [hv3] at c1 hxb hdt
            have hb4 : Below wr.heap.size wr (wr.alloc (.cells #[.string ⟨tp.toArray⟩, .slice R0 rn rc] 68)) := (Below.refl _ _).alloc (Nat.le_refl _) _
            have HD5 := Lib.hid (HD4.out.keep hb4)
            have HR5 := Lib.hid (HR4.out.below hb4)
            have HO5 := Lib.hid (HO4.out.below_ hb4)
            have HB5 := Lib.hid (HB4.out.trans (hb4.mono hmw))
            have HQ5 := Lib.hid (heap_alloc_new wr (.cells #[.string ⟨tp.toArray⟩, .slice R0 rn rc] 68))
            clear hcA hkl hp hmem hb4 hpn HD4 HR4 HO4 HB4 HBW hgA e2
            generalize P.take i = PT at *
            go_upto_region 30 with (fail)
            obtain ⟨Q, hQ⟩ : ∃ Q, Q = wr.heap.size := ⟨_, rfl⟩
            rw [← hQ] at HQ5 ⊢
            clear hQ
            generalize wr.alloc (.cells #[.string ⟨tp.toArray⟩, .slice R0 rn rc] 68) = w4 at *
            clear c0 c1
            have f0 : w4.cell? ⟨Q, 0, none⟩ = some (.string ⟨tp.toArray⟩) := by rw [cell_of_row w4 Q 0 _ _ _ HQ5.out]; rfl
            obtain ⟨t9, ⟨a9, b9, c9⟩, hlk⟩ := HR5.out.look ⟨tp.toArray⟩ hxb
            have hlk0 : (Instr.lookup 66 (.map (some R)) (.string ⟨tp.toArray⟩) true).run Tryz.prog w4 = .ok (.tuple #[.agg #[.string t9, .slice a9 b9 c9], .bool true]) w4 := by
              have h := hlk 0
              have e : domR (⟨tp.toArray⟩ : ByteArray).data.toList = true := hdt
              rw [e] at h
              exact h
            clear hlk hdt hxb
            have hw4s : M ≤ w4.heap.size := by rw [HM.out]; exact HB5.out.size
            have hb6 : Below w4.heap.size w4 (w4.alloc (.cells #[.string t9, .slice a9 b9 c9] 68)) := (Below.refl _ _).alloc (Nat.le_refl _) _
            have HD6 := Lib.hid (HD5.out.keep hb6)
            have HR6 := Lib.hid (HR5.out.below hb6)
            have HO6 := Lib.hid (HO5.out.below_ hb6)
            have HB6 := Lib.hid (HB5.out.trans (hb6.mono hw4s))
            have HQ6 : Hid ((w4.alloc (.cells #[.string t9, .slice a9 b9 c9] 68)).heap[Q]? = some (.cells #[.string ⟨tp.toArray⟩, .slice R0 rn rc] 68 (0, 0))) := (hb6.block Q (Array.getElem?_eq_some_iff.1 HQ5.out).1).trans HQ5.out
            clear hb6 HD5 HR5 HO5 HB5 HQ5
            go_upto_region 32 with (fail)
            generalize w4.alloc (.cells #[.string t9, .slice a9 b9 c9] 68) = X at *
            clear hlk0 f0
            have hxs : M ≤ X.heap.size := by rw [HM.out]; exact HB6.out.size
            have hal : Below X.heap.size X (X.alloc (.cells #[.string ⟨tp.toArray⟩, .slice R0 rn rc] 68)).drew := ((Below.refl _ _).alloc (Nat.le_refl _) _).drew
            have HD8 := Lib.hid (HD6.out.keep hal)
            have HR8 := Lib.hid (HR6.out.below hal)
            have HO8 := Lib.hid (HO6.out.below_ hal)
            have HB8 := Lib.hid (HB6.out.trans (hal.mono hxs))
            have HRW8 : Hid (OwnStrs (X.alloc (.cells #[.string ⟨tp.toArray⟩, .slice R0 rn rc] 68)).drew w.heap.size (hv3 (R0, rn, rc)) (items tp)) := by
              have h := HRW.out.below_ (w' := (X.alloc (.cells #[.string ⟨tp.toArray⟩, .slice R0 rn rc] 68)).drew) (by rw [← HM.out]; exact HB8.out)
              exact h
            have HONE : Hid (ElemsAt FamE (X.alloc (.cells #[.string ⟨tp.toArray⟩, .slice R0 rn rc] 68)) (some ⟨X.heap.size, 0, none⟩) 1 1 [(tp, (R0, rn, rc))]) := one_elem (E := FamE) X (tp, (R0, rn, rc))
            have g2 : X.cell? ⟨g, 0, none⟩ = some fv := HD6.out.c.1
            have g22 : (X.alloc (.cells #[.string ⟨tp.toArray⟩, .slice R0 rn rc] 68)).cell? ⟨g, 0, none⟩ = some fv := HD8.out.c.1
            have f0 : X.cell? ⟨Q, 0, none⟩ = some (.string ⟨tp.toArray⟩) := by rw [cell_of_row X Q 0 _ _ _ HQ6.out]; rfl
            have f1 : X.cell? ⟨Q, 1, none⟩ = some (.slice R0 rn rc) := by rw [cell_of_row X Q 1 _ _ _ HQ6.out]; rfl
            have hs1' : PT.length + 1 ≤ 100000 := by have := HPN.out; omega
            have hbx2 : M ≤ (X.alloc (.cells #[.string ⟨tp.toArray⟩, .slice R0 rn rc] 68)).heap.size := Nat.le_trans hxs hal.size
            clear hal
            go_region_law (first
              | (refine step_elems famE_ok (by rfl) _ _ (by rfl) M fv PT (by rfl) ?_ _ 1 1 [(tp, (R0, rn, rc))] (by rfl) ?_ (by omega) ?_ ?_ ?_; (exact HO8.out); (exact HONE.out); (exact hs1'); (exact hbx2); intro v8 w8 hown8 hgrow8 hv8; obtain ⟨A8, c8, hvv8, -, -, -⟩ := hown8.at_ famE_ok; simp only [List.length_append, List.length_cons, List.length_nil, Nat.zero_add] at hvv8; subst hvv8; have HOW8 := Lib.hid hown8; have HGW8 := Lib.hid hgrow8; have g28 : w8.cell? ⟨g, 0, none⟩ = some fv := (World.cell?_of_block (hgrow8.block g HD8.out.lt (fun e => HD8.out.fam.ne_block HD8.out.row desk_ne_fam e.symm))).trans g22; have gf8 : w8.frozen? ⟨g, 0, none⟩ = false := frozen_deskN ((hgrow8.block g HD8.out.lt (fun e => HD8.out.fam.ne_block HD8.out.row desk_ne_fam e.symm)).trans HD8.out.row) 0; clear hown8 hgrow8 hv8))
            all_goals
              have HAA := Lib.hid (new_app HD8.out HR8.out HOW8.out hs1 HGW8.out HRW8.out)
              rw [← HTP.out] at HAA
              have HBA : Hid (Below M w1 w8) := HB8.out.grown HGW8.out hbx2 (fun i e => (HO8.out.lt i e).1)
              go_wp2_with fail
              go_roundg (gk - 1)
              case measure => have := HGK.out; omega
              case rel => exact ⟨i + 1, _, HGK.out.1, by go_num, HAA.out.1, HAA.out.2.1, HAA.out.2.2, HBA.out.setCell HGM.out.1 _⟩
          · have hnk : ¬ (i : Int) < (k : Int) := by omega
            have hta : P.take i = P := List.take_of_length_le (by rw [← HNP.out]; omega)
            rw [hta] at HD4
            have HFIN : Hid (NewPost w l (.returned (.tuple #[.pointer (some ⟨g, 0, none⟩), .int .i64 0])) wr) := by
              refine HPOST.out g M fv P wr ?_ HTOPS.out (HB1.out.trans (HBW.out.mono HB1.out.size))
              rw [HLA.out]
              exact HD4.out
            clear hta
            go_wp2_with fail
            go_ret2
            exact HFIN.out
end Go.Proofs.YtdojnbnhogbhiaaGreatDoor

namespace Go.Proofs.YtdojnbnhogbhiaaGreatDoor
open Go.RowKit Go.Maps

theorem GoodI.setRD {l : List Itm} (h : GoodI l) : SetR l := by
  refine ⟨⟨h.ok, ?_, by have := h.short; omega⟩, h.rise⟩
  have hr : (l.map fun x => x.id.data.toList).Pairwise fun a b => a ≠ b := h.rise.imp (fun {a b} hab e => by
    subst e
    rw [Bool.or_eq_false_iff] at hab
    simp at hab)
  have : (l.map Itm.id).Pairwise fun a b => a ≠ b := by
    rw [List.pairwise_map] at hr ⊢
    exact hr.imp (fun {a b} hab e => hab (by rw [e]))
  exact this
/-- What is known of a new desk's families. -/
structure NewFacts (l : List Itm) (P : List (Str × Hd3)) (items : Str → List Str) : Prop where
  perm : (P.flatMap fun p => items p.1).Perm (l.map idOf)
  nodup : (l.map idOf).Nodup
  few : P.length ≤ 12
  each : ∀ p ∈ P, (items p.1).length ≤ 12 ∧ ∀ x ∈ items p.1, x.length ≤ 40
theorem newFacts {l : List Itm} (h : GoodI l) {P : List (Str × Hd3)} (ht : P.map (·.1) = topN l l.length) : NewFacts l P (belS (kidN l l.length) 4) := by
  have hs := h.setRD
  have hperm := all_perm hs.set
  rw [← ht, List.flatMap_map] at hperm
  have hlen := hperm.length_eq
  rw [List.length_map] at hlen
  have h12 := h.short
  have hids : ∀ x ∈ l.map idOf, x.length ≤ 40 := fun x hx => by
    obtain ⟨y, hy, rfl⟩ := List.mem_map.1 hx
    exact keyL_lenD (hs.set.ok.each y hy).id
  refine ⟨hperm, ?_, ?_, fun p hp => ⟨?_, fun x hx => hids x (hperm.subset (List.mem_flatMap.2 ⟨p, hp, hx⟩))⟩⟩
  · have h1 := hs.set.nodup
    have h2 : (l.map Itm.id).Pairwise fun a b => a ≠ b := h1
    show (l.map idOf).Pairwise fun a b => a ≠ b
    rw [List.pairwise_map] at h2 ⊢
    exact h2.imp (fun {a b} hab e => hab (ByteArray.ext (Array.toList_inj.1 e)))
  · have h1 := congrArg List.length ht
    have h2 := topN_len l l.length
    rw [List.length_map] at h1
    omega
  · have h3 := List.Sublist.length_le (List.sublist_flatten_of_mem (List.mem_map.2 ⟨p, hp, rfl⟩ : belS (kidN l l.length) 4 p.1 ∈ P.map fun p => belS (kidN l l.length) 4 p.1))
    rw [← List.flatMap_def, hlen] at h3
    omega
theorem DeskAt.famsAt {w : World} {base g M m : Nat} {FA : Option Addr} {fn fc : Nat} {bv : Value} {P : List (Str × Hd3)} {items : Str → List Str} {dom : Str → Bool} {st : Str → Int} {bats : List Bat} {last : Int} (h : DeskAt w base g M (.slice FA fn fc) P items dom m bv st bats last) : FamsAt w FA fn fc P items := by
  obtain ⟨A', c', hv, -, hat, -⟩ := h.fam.at_ famE_ok
  simp only [Value.slice.injEq] at hv
  obtain ⟨rfl, hn, rfl⟩ := hv
  rw [← hn] at hat
  refine ⟨hat, fun p hp => ?_⟩
  obtain ⟨A2, c2, hv2, -, hat2, -⟩ := (h.frow p hp).at_ strE_ok
  simp only [hv3, Value.slice.injEq] at hv2
  obtain ⟨e1, e2, e3⟩ := hv2
  rw [e1, e2, e3]
  exact hat2
theorem leftL_flat (st : Str → Int) (items : Str → List Str) (P : List (Str × Hd3)) : leftL st items P = openL st (P.flatMap fun p => items p.1) := by
  rw [← opensL_flat]
  unfold leftL opensL
  rw [List.flatMap_def]
theorem keyAnn : keyL (⟨#[97, 110, 110]⟩ : ByteArray).data.toList = true := by decide
end Go.Proofs.YtdojnbnhogbhiaaGreatDoor

namespace Go.Proofs.YtdojnbnhogbhiaaGreatDoor
open Go.RowKit Go.Maps
attribute [local go_sem ↓] Go.wp_at_zero Go.wp_at_succ

set_option maxHeartbeats 6400000 in
set_option maxRecDepth 100000 in
theorem deskLaw_any (A : Option Addr) (n c : Nat) (w : World) (hA : RowAt w A n) (hbig : n ≤ 1000000000000000) (hS : StandAt w) (hT : Tabs w) (hM : MaxAt w) :
    Calls Tryz.prog 3 #[.slice A n c] w (LawPost w) := by
  have hst := stream_new w A n c hA hbig
  have hB : Below w.heap.size w (w.alloc (.cells #[.slice A n c, .int .i64 0] 25)) := (Below.refl _ _).alloc (Nat.le_refl _) _
  have HS := Lib.hid hS
  have HTM : Hid (∀ w', Below w.heap.size w w' → Tabs w' ∧ MaxAt w') := fun w' hb => ⟨Tabs.below hT hb, MaxAt.below hM hb⟩
  clear hS hT hM
  go_enter Tryz.func3, Tryz.ntmps3
  go_upto_region 2 with (fail)
  generalize w.alloc (.cells #[.slice A n c, .int .i64 0] 25) = w1 at *
  have HB1 := Lib.hid hB
  have hri := rightItems_any w.heap.size A n c 0 8 w1 hst (by omega) (by omega) (fun w' hg => HTM.out w' (HB1.out.grown hg HB1.out.size (fun i e => Nat.le_of_eq (Option.some.inj e))))
  rw [show ((8 : Nat) : Int) = 8 from rfl] at hri
  have HRI := Lib.hid hri
  clear hst hB hri
  go_wp2_with fail
  refine HRI.out.mono ?_
  rintro e w2 ⟨v2, l, rfl, hown2, hgd, hl8, -, hg2⟩
  have HB2 : Hid (Below w.heap.size w w2) := HB1.out.grown hg2 HB1.out.size (fun i e => Nat.le_of_eq (Option.some.inj e))
  obtain ⟨A2, c2, hv2, -, hat2, -⟩ := hown2.at_ itemE_ok
  subst hv2
  have HGD := Lib.hid hgd
  obtain ⟨nl, hnl⟩ : ∃ nl, nl = l.length := ⟨_, rfl⟩
  rw [← hnl] at hat2 ⊢
  have HNL := Lib.hid hnl
  have hnl8 : nl ≤ 8 := by omega
  have HNW := Lib.hid (newDesk_any A2 nl c2 l w2 hat2 hgd.setRD (HTM.out w2 HB2.out).1 (HTM.out w2 HB2.out).2)
  clear hown2 hgd hg2 hat2 hnl hl8 HRI
  go_wp2_with fail
  refine HNW.out.mono ?_
  rintro e w3 ⟨g, M, fv, P, rfl, hd3, htops, hb3⟩
  have HF := Lib.hid (newFacts HGD.out htops)
  generalize belS (kidN l l.length) 4 = items at *
  generalize hLA : (P.flatMap fun p => items p.1) = LA at *
  obtain ⟨FA, fc, hfv, -, -, -⟩ := hd3.fam.at_ famE_ok
  subst hfv
  obtain ⟨np, hnp⟩ : ∃ np, np = P.length := ⟨_, rfl⟩
  rw [← hnp] at hd3
  have hnp12 : np ≤ 12 := by rw [hnp]; exact HF.out.few
  have HD3 := Lib.hid hd3
  have HLA := Lib.hid hLA
  have HNP := Lib.hid hnp
  have HB3 := Lib.hid (HB2.out.trans (hb3.mono HB2.out.size))
  obtain ⟨base, hbs⟩ : ∃ base, base = w2.heap.size := ⟨_, rfl⟩
  rw [← hbs] at HD3
  have HBS : Hid (w.heap.size ≤ base) := by show _ ≤ _; rw [hbs]; exact HB2.out.size
  have hc0 := HD3.out.c.1
  have hc1 := HD3.out.c.2.1
  have HLF := Lib.hid (left_any g M LA.length (fun _ => 0) (domL LA) FA np fc P items w3 hc0 hc1 HD3.out.lt HD3.out.st HD3.out.famsAt (by omega) (fun p hp => ⟨by have := (HF.out.each p hp).1; omega, fun x hx => by have := (HF.out.each p hp).2 x hx; omega⟩))
  have HLL : Hid ((leftL (fun _ => 0) items P).length ≤ 1000) := by
    have h1 := openL_le (fun _ => 0) (P.flatMap fun p => items p.1)
    rw [← leftL_flat, HF.out.perm.length_eq, List.length_map] at h1
    have := HNL.out
    show _ ≤ _
    omega
  clear hd3 hnp hb3 htops hLA hbs hc0 hc1 HNW
  go_wp2_with fail
  refine HLF.out.mono ?_
  rintro e w4 ⟨v4, rfl, hown4, hb4⟩
  obtain ⟨A4, c4, hv4, -, -, -⟩ := hown4.at_ strE_ok
  subst hv4
  have HSP := Lib.hid (spoilD_any w3.heap.size (leftL (fun _ => 0) items P).length c4 A4 (leftL (fun _ => 0) items P) w4 hown4 HLL.out)
  have HB34 := Lib.hid hb4
  have HLT4 : Hid (∀ i, (Value.slice A4 (leftL (fun _ => 0) items P).length c4).ownBlock = some i → w3.heap.size ≤ i) := fun i e => (hown4.lt i e).1
  generalize (leftL (fun _ => 0) items P).length = n4 at *
  clear hown4 hb4 HLF
  go_wp2_with fail
  refine HSP.out.mono ?_
  rintro e w5 ⟨rfl, hs5⟩
  have HB35 : Hid (Below w3.heap.size w3 w5) := HB34.out.grown hs5.grown HB34.out.size HLT4.out
  have HD5 := Lib.hid (HD3.out.keep HB35.out)
  have HB5 := Lib.hid (HB3.out.trans (HB35.out.mono HB3.out.size))
  have HDOM : Hid (∀ p ∈ P, ∀ x ∈ items p.1, domL LA x = true) := fun p hp x hx => decide_eq_true (by rw [← HLA.out]; exact List.mem_flatMap.2 ⟨p, hp, hx⟩)
  have HTK := Lib.hid (take_any base g M LA.length (.slice FA np fc) (.slice none 0 0) P items (domL LA) (fun _ => 0) [] 0 ⟨#[97, 110, 110]⟩ 5 3 w5 HD5.out (by decide) (by rw [← HNP.out]; omega) (fun p hp => ⟨by have := (HF.out.each p hp).1; omega, fun x hx => by have := (HF.out.each p hp).2 x hx; omega⟩) HDOM.out (by simp) (by
    rw [← HLA.out, HF.out.perm.length_eq, List.length_map]
    have := HNL.out
    omega))
  clear hs5 HB34 HLT4 HSP HD3 HB35
  go_wp2_with fail
  refine HTK.out.mono ?_
  rintro e w6 ⟨b, C, z, rfl, hown6, hC, hC6, hb6, hcase⟩
  have HTB : Hid (b.ids.length ≤ 8 ∧ b.ids.Nodup ∧ ∀ x ∈ b.ids, x.length ≤ 1000 ∧ domL LA x = true) := by
    have key : b.ids.Sublist (P.flatMap fun p => items p.1) := by
      rcases hcase with ⟨-, -, h, -⟩ | ⟨-, h, -⟩
      · rw [h]; exact List.nil_sublist _
      · rw [h]
        exact (taken_sub _ _ _ _).trans List.filter_sublist
    refine ⟨?_, key.nodup ((HF.out.perm.nodup_iff).2 HF.out.nodup), fun x hx => ?_⟩
    · have h1 := key.length_le
      rw [HF.out.perm.length_eq, List.length_map] at h1
      have := HNL.out
      omega
    · obtain ⟨p, hp, hxp⟩ := List.mem_flatMap.1 (key.subset hx)
      exact ⟨by have := (HF.out.each p hp).2 x hxp; omega, HDOM.out p hp x hxp⟩
  have HU : Hid (∃ (bats' : List Bat) (bv' : Value) (st' : Str → Int) (m' : Nat) (last' : Int), (∀ w'', Below C w6 w'' → DeskAt w'' base g M (.slice FA np fc) P items (domL LA) m' bv' st' bats' last') ∧ bats'.length ≤ 1 ∧ (∀ p ∈ bats', p.ids.length ≤ 8 ∧ ∀ x ∈ p.ids, x.length ≤ 1000 ∧ domL LA x = true) ∧ ((z = 8 ∧ nl = 0) ∨ (z = 0 ∧ m' ≤ 1000 ∧ last' = 5 ∧ ∃ hd, bats' = [⟨1, 5, -1, [97, 110, 110], hd, b.ids⟩]))) := by
    rcases hcase with ⟨hz, hk, hids, hok⟩ | ⟨hz, hids, hne, -, bv', hd, hk⟩
    · obtain ⟨h8, hT⟩ := hok ⟨keyAnn, by omega, by omega, by omega, rfl⟩
      refine ⟨[], _, _, _, _, hk, by simp, (fun p hp => by cases hp), .inl ⟨h8, ?_⟩⟩
      have h1 := taken_nil hT
      have h2 : openL (fun _ => 0) (P.flatMap fun p => items p.1) = (P.flatMap fun p => items p.1) := by simp [openL]
      rw [h2] at h1
      have h3 := HF.out.perm.length_eq
      rw [h1, List.length_map, List.length_nil] at h3
      rw [HNL.out]
      exact h3.symm
    · refine ⟨_, bv', _, _, _, hk, by simp, ?_, .inr ⟨hz, ?_, rfl, hd, rfl⟩⟩
      · intro p hp
        have e := List.mem_singleton.1 hp
        subst e
        exact ⟨HTB.out.1, HTB.out.2.2⟩
      · have h1 : LA.length = l.length := by rw [← HLA.out, HF.out.perm.length_eq, List.length_map]
        have := HTB.out.1
        have := HNL.out
        omega
  obtain ⟨bno, bout, binn, bwho, ⟨R, rn, rc⟩, bids⟩ := b
  simp only [batV, hv3] at hown6 HTB HU ⊢
  obtain ⟨R', rc', hv, -, hat6, -⟩ := hown6.at_ strE_ok
  simp only [Value.slice.injEq] at hv
  obtain ⟨rfl, hrn, rfl⟩ := hv
  rw [← hrn] at hat6
  have HRN := Lib.hid hrn
  have hrn8 : rn ≤ 8 := by have := HTB.out.1; omega
  have HO6 := Lib.hid hown6
  have HAT6 := Lib.hid hat6
  have HB6 := Lib.hid (HB5.out.trans (hb6.mono HBS.out))
  have HCC : Hid (C ≤ w6.heap.size) := hC6
  have HCW : Hid (w.heap.size ≤ C) := Nat.le_trans HBS.out hC
  clear hcase hown6 hat6 hrn hb6 hC6 hC HTK HD5 HB5 HDOM
  have hb7 : Below w6.heap.size w6 (w6.alloc (.cells #[.int .i64 bno, .int .i64 bout, .int .i64 binn, .string ⟨bwho.toArray⟩, .slice R rn rc] 36)) := (Below.refl _ _).alloc (Nat.le_refl _) _
  have HQ7 : Hid (BatB (w6.alloc (.cells #[.int .i64 bno, .int .i64 bout, .int .i64 binn, .string ⟨bwho.toArray⟩, .slice R rn rc] 36)) w6.heap.size bno bout binn ⟨bwho.toArray⟩ (.slice R rn rc)) := heap_alloc_new w6 _
  have HAT7 := Lib.hid (ElemsAt.keep HAT6.out hb7)
  have HO7 := Lib.hid (HO6.out.below_ hb7)
  have HB67 := Lib.hid hb7
  clear hb7 HAT6
  go_upto_region 9 with (fail)
  obtain ⟨Q, hQ⟩ : ∃ Q, Q = w6.heap.size := ⟨_, rfl⟩
  rw [← hQ] at HQ7 ⊢
  clear hQ
  generalize w6.alloc (.cells #[.int .i64 bno, .int .i64 bout, .int .i64 binn, .string ⟨bwho.toArray⟩, .slice R rn rc] 36) = w7 at *
  obtain ⟨d0, d1, d2, d3, d4⟩ := HQ7.out.c
  have HCL := Lib.hid (clone_any R rn rc bids w7 HAT7.out (by omega))
  go_wp2_with fail
  refine HCL.out.mono ?_
  rintro e w8 ⟨v8, rfl, hown8, hb8⟩
  have HW8 := Lib.hid hown8
  have HO8 := Lib.hid (HO7.out.below_ hb8)
  have HQ8 := Lib.hid (HQ7.out.keep hb8)
  have HB68 := Lib.hid (HB67.out.trans (hb8.mono HB67.out.size))
  have HLT6 : Hid (∀ i, (Value.slice R rn rc).ownBlock = some i → C ≤ i ∧ i < w6.heap.size) := HO6.out.lt
  have hw7s := HB67.out.size
  have HW7S : Hid (w6.heap.size ≤ w7.heap.size) := hw7s
  clear d0 d1 d2 d3 d4 hown8 hb8 HCL HQ7 HO7 HAT7 hw7s
  obtain ⟨d0, d1, d2, d3, d4⟩ := HQ8.out.c
  have HSP := Lib.hid (spoilD_any C rn rc R bids w8 HO8.out (by have := HTB.out.1; omega))
  go_wp2_with fail
  refine HSP.out.mono ?_
  rintro e w9 ⟨rfl, hs9⟩
  have HW9 : Hid (OwnStrs w9 w7.heap.size v8 bids) := HW8.out.kept_ hs9.grown (fun i e => by have := (HLT6.out i e).2; have := HW7S.out; omega)
  have HBC9 : Hid (Below C w6 w9) := (HB68.out.mono HCC.out).grown hs9.grown (Nat.le_trans HCC.out HB68.out.size) (fun i e => (HLT6.out i e).1)
  have HB9 : Hid (Below w.heap.size w w9) := HB6.out.trans (HBC9.out.mono HCW.out)
  obtain ⟨bats', bv', st', m', last', hk, hb1, hbi, hcz⟩ := HU.out
  have HK := Lib.hid hk
  have HBI := Lib.hid hbi
  have HCZ := Lib.hid hcz
  have hd9 := hk w9 HBC9.out
  have HBA := Lib.hid (batches_any base g bv' bats' w9 hd9.c.2.2.1 hd9.bats (by omega) (fun p hp => by have := (hbi p hp).1; omega))
  have HC9 : Hid (C ≤ w9.heap.size) := Nat.le_trans HCC.out (Nat.le_trans HB68.out.size hs9.grown.size)
  have HB1' := Lib.hid hb1
  clear HU hk hbi hcz hd9 hs9 HSP d0 d1 d2 d3 d4 HQ8 HO8 HO6 HW8 HB67 HB68 hb1
  go_wp2_with fail
  refine HBA.out.mono ?_
  rintro e w10 ⟨v10, out, rfl, hbt, hcore, hb10⟩
  have hlen := congrArg List.length hcore
  rw [List.length_map, List.length_map] at hlen
  have HIDS : Hid (∀ p ∈ out, p.ids.length ≤ 8) := fun p hp => by
    have h1 : p.core ∈ bats'.map Bat.core := by rw [← hcore]; exact List.mem_map.2 ⟨p, hp, rfl⟩
    obtain ⟨q, hq, e⟩ := List.mem_map.1 h1
    have h2 := (HBI.out q hq).1
    have h3 : q.ids = p.ids := congrArg (fun x : Int × Int × Int × List UInt8 × List (List UInt8) => x.2.2.2.2) e
    rw [← h3]; exact h2
  obtain ⟨A10, c10, hv10, -, -, -⟩ := hbt.own.at_ batE_ok
  subst hv10
  obtain ⟨no, hno⟩ : ∃ no, no = out.length := ⟨_, rfl⟩
  rw [← hno] at hbt hlen ⊢
  have HNO := Lib.hid hno
  have hno1 : no ≤ 1 := by have := HB1'.out; omega
  have HOW := Lib.hid hbt.own
  have HRW : Hid (∀ p ∈ out, ∃ l', OwnStrs w10 w9.heap.size (hv3 p.hd) l' ∧ l'.length ≤ 8) := fun p hp => ⟨_, hbt.row p hp, HIDS.out p hp⟩
  have HB10 := Lib.hid hb10
  clear hbt hcore hb10 hno hlen HBA
  go_wp2_with fail
  go_loopg [48] no (fun gk v wr => ∃ k : Nat, Hid (k + gk = no) ∧ v = .int .i64 (k : Int) ∧ Hid (Owns BatE wr w9.heap.size (.slice A10 no c10) out) ∧ Hid (∀ p ∈ out, ∃ l', OwnStrs wr w9.heap.size (hv3 p.hd) l' ∧ l'.length ≤ 8) ∧ Hid (Below w9.heap.size w9 wr))
  case atStart => exact ⟨0, show 0 + no = no by omega, rfl, HOW.out, HRW.out, HB10.out⟩
  case round =>
    obtain ⟨k, HK2, rfl, HOB, HRB, HBW⟩ := hrel
    clear HOW HRW HB10
    have hkn : k ≤ no := by have := HK2.out; omega
    by_cases hlt : k < no
    · have HGK := Lib.hid (show k + 1 + (gk - 1) = no ∧ 0 < gk by have := HK2.out; omega)
      obtain ⟨A11, c11, hv11, -, hat11, -⟩ := HOB.out.at_ batE_ok
      simp only [Value.slice.injEq] at hv11
      obtain ⟨rfl, hnn, rfl⟩ := hv11
      rw [← hnn] at hat11
      obtain ⟨gA, off, rfl, hgA, hcA⟩ := hat11.2.2.2 (by omega)
      have hkl : k < out.length := by omega
      obtain ⟨p, hp⟩ : ∃ p, out[k]? = some p := ⟨_, List.getElem?_eq_getElem hkl⟩
      have hmem : p ∈ out := List.mem_of_getElem? hp
      have c0 := hcA k p 0 (.int .i64 p.no) hp rfl
      have c1 := hcA k p 1 (.int .i64 p.out) hp rfl
      have c2 := hcA k p 2 (.int .i64 p.inn) hp rfl
      have c3 := hcA k p 3 (.string ⟨p.who.toArray⟩) hp rfl
      have c4 := hcA k p 4 (hv3 p.hd) hp rfl
      have e2 : BatE.size = 5 := rfl
      rw [e2] at c0 c1 c2 c3 c4
      rw [Nat.add_zero] at c0
      obtain ⟨l', hrow, hl'⟩ := HRB.out p hmem
      obtain ⟨pno, pout, pinn, pwho, ⟨S, sn, sc⟩, pids⟩ := p
      simp only [hv3] at c0 c1 c2 c3 c4 hrow
      have hb4 : Below wr.heap.size wr (wr.alloc (.cells #[.int .i64 pno, .int .i64 pout, .int .i64 pinn, .string ⟨pwho.toArray⟩, .slice S sn sc] 36)) := (Below.refl _ _).alloc (Nat.le_refl _) _
      have HQ4 : Hid (BatB (wr.alloc (.cells #[.int .i64 pno, .int .i64 pout, .int .i64 pinn, .string ⟨pwho.toArray⟩, .slice S sn sc] 36)) wr.heap.size pno pout pinn ⟨pwho.toArray⟩ (.slice S sn sc)) := heap_alloc_new wr _
      have HROW := Lib.hid (hrow.below_ hb4)
      have HOB4 := Lib.hid (HOB.out.below_ hb4)
      have HRB4 : Hid (∀ p ∈ out, ∃ l', OwnStrs (wr.alloc (.cells #[.int .i64 pno, .int .i64 pout, .int .i64 pinn, .string ⟨pwho.toArray⟩, .slice S sn sc] 36)) w9.heap.size (hv3 p.hd) l' ∧ l'.length ≤ 8) := fun p hp => by
        obtain ⟨l2, h1, h2⟩ := HRB.out p hp
        exact ⟨l2, h1.below_ hb4, h2⟩
      have HBW4 := Lib.hid (HBW.out.trans (hb4.mono HBW.out.size))
      clear hcA hkl hp hmem hat11 hnn hb4 hrow hgA e2 HOB HRB HBW
      go_upto_region 14 with (fail)
      obtain ⟨Q2, hQ2⟩ : ∃ Q2, Q2 = wr.heap.size := ⟨_, rfl⟩
      rw [← hQ2] at HQ4 ⊢
      clear hQ2
      generalize wr.alloc (.cells #[.int .i64 pno, .int .i64 pout, .int .i64 pinn, .string ⟨pwho.toArray⟩, .slice S sn sc] 36) = w11 at *
      clear c0 c1 c2 c3 c4
      obtain ⟨d0, d1, d2, d3, d4⟩ := HQ4.out.c
      have HSP := Lib.hid (spoilD_any w9.heap.size sn sc S l' w11 HROW.out (by omega))
      go_wp2_with fail
      refine HSP.out.mono ?_
      rintro e w12 ⟨rfl, hs12⟩
      have HOB5 : Hid (Owns BatE w12 w9.heap.size (.slice (some ⟨gA, off, none⟩) no c10) out) := HOB4.out.beside HROW.out (Ne.symm bat_ne) hs12.grown
      have HRB5 : Hid (∀ p ∈ out, ∃ l', OwnStrs w12 w9.heap.size (hv3 p.hd) l' ∧ l'.length ≤ 8) := fun p hp => by
        obtain ⟨l2, h1, h2⟩ := HRB4.out p hp
        obtain ⟨l3, h3, h4⟩ := hs12.strs _ _ _ h1
        exact ⟨l3, h3, by omega⟩
      have HBW5 : Hid (Below w9.heap.size w9 w12) := HBW4.out.grown hs12.grown HBW4.out.size (fun i e => (HROW.out.lt i e).1)
      clear d0 d1 d2 d3 d4 hs12 HSP HQ4 HROW HOB4 HRB4 HBW4
      go_wp2_with fail
      go_roundg (gk - 1)
      case measure => have := HGK.out; omega
      case rel => exact ⟨k + 1, HGK.out.1, by go_num, HOB5.out, HRB5.out, HBW5.out⟩
    · have hnk : ¬ (k : Int) < (no : Int) := by omega
      have HBV : Hid (Below w.heap.size w wr) := HB9.out.trans (HBW.out.mono HB9.out.size)
      have HBCV : Hid (Below C w6 wr) := HBC9.out.trans (HBW.out.mono HC9.out)
      have HWV : Hid (OwnStrs wr w7.heap.size v8 bids) := HW9.out.below_ HBW.out
      clear HOB HRB HBW hkn hlt HK2
      rcases HCZ.out with ⟨hz, hn0⟩ | ⟨hz, hm', hl', hd, hbb⟩
      · subst hz
        have hnb : ((nl : Int) == 0) = true := by simp [hn0]
        have HST := Lib.hid (stands_any wr (HS.out.below HBV.out))
        clear hn0 HCZ
        go_wp2_with fail
        refine HST.out.mono ?_
        rintro e w13 ⟨rfl, hb13⟩
        have HB13 := Lib.hid (HBV.out.trans (hb13.mono HBV.out.size))
        clear hb13
        go_wp2_with fail
        go_ret
        exact ⟨rfl, HB13.out⟩
      · subst hz
        have HBB := Lib.hid hbb
        have HML := Lib.hid (And.intro hm' hl')
        have hdv := HK.out wr HBCV.out
        have HBA := Lib.hid (batches_any base g bv' bats' wr hdv.c.2.2.1 hdv.bats (by rw [hbb]; simp) (fun p hp => by have := (HBI.out p hp).1; omega))
        clear hbb hm' hl' hdv HCZ
        obtain ⟨V, rfl⟩ : ∃ V : World, V = wr := ⟨_, rfl⟩
        go_wp2_with fail
        refine HBA.out.mono ?_
        rintro e w13 ⟨v13, out2, rfl, hbt2, hcore2, hb13⟩
        have hlen2 := congrArg List.length hcore2
        rw [List.length_map, List.length_map, HBB.out, List.length_singleton] at hlen2
        obtain ⟨p, rfl⟩ := List.length_eq_one_iff.1 hlen2
        have hpids : p.ids = bids := by
          rw [HBB.out] at hcore2
          have h1 : p.core = (⟨1, 5, -1, [97, 110, 110], hd, bids⟩ : Bat).core := by
            have := hcore2
            simp only [List.map_cons, List.map_nil, List.cons.injEq, and_true] at this
            exact this
          exact congrArg (fun x : Int × Int × Int × List UInt8 × List (List UInt8) => x.2.2.2.2) h1
        obtain ⟨A13, c13, hv13, -, hat13, hoff13⟩ := hbt2.own.at_ batE_ok
        subst hv13
        rw [List.length_singleton] at hat13 ⊢
        obtain ⟨gA, off, rfl, hgA, hcA⟩ := hat13.2.2.2 (by omega)
        obtain ⟨rfl, -⟩ := hoff13 gA off rfl
        have c4 := hcA 0 p 4 (hv3 p.hd) rfl rfl
        have hrow := hbt2.row p (List.mem_singleton.2 rfl)
        rw [hpids] at hrow
        obtain ⟨pno, pout, pinn, pwho, ⟨S, sn, sc⟩, pids⟩ := p
        simp only [hv3, Nat.zero_mul, Nat.zero_add, Nat.add_zero] at c4 hrow
        have hvs : C ≤ V.heap.size := Nat.le_trans HCC.out HBCV.out.size
        have HBCX := Lib.hid (HBCV.out.trans (hb13.mono hvs))
        have HBX := Lib.hid (HBV.out.trans (hb13.mono HBV.out.size))
        have HWX := Lib.hid (HWV.out.below_ hb13)
        obtain ⟨A8, c8, hv8, -, hat8, -⟩ := HWX.out.at_ strE_ok
        subst hv8
        obtain ⟨S', sc', hvs', -, hats, -⟩ := hrow.at_ strE_ok
        simp only [Value.slice.injEq] at hvs'
        obtain ⟨rfl, hsn, rfl⟩ := hvs'
        have hrn := HRN.out
        rw [← hrn] at hat8 hats hsn ⊢
        subst hsn
        have heq := equal_any S A8 sn sc sn c8 bids bids w13 hats hat8 (by omega) (by omega)
        rw [decide_eq_true (p := bids = bids) rfl] at heq
        have HEQ := Lib.hid heq
        clear heq
        have HAT8 := Lib.hid hat8
        have HCL4 := Lib.hid c4
        clear hcore2 hlen2 hpids hat13 hbt2 hcA hrow hats hoff13 hb13 HBA hrn hvs hat8
        go_wp2_with fail
        refine HEQ.out.mono ?_
        rintro e w14 ⟨rfl, q, rfl⟩
        have hdr : Below w13.heap.size w13 (w13.drewN q) := below_drewN (Below.refl _ _) q
        have HBC14 : Hid (Below C w6 (w13.drewN q)) := below_drewN HBCX.out q
        have HB14 : Hid (Below w.heap.size w (w13.drewN q)) := below_drewN HBX.out q
        have HAT14 : Hid (StrsAt (w13.drewN q) A8 sn c8 bids) := HAT8.out.drewN q
        have hd14 := HK.out _ HBC14.out
        have HRT := Lib.hid (return_any base g M m' (.slice FA np fc) bv' P items (domL LA) st' bats' last' 1 6 A8 sn c8 bids (w13.drewN q) hd14 HAT14.out (by omega) (fun x hx => (HTB.out.2.2 x hx).1) (by have := HB1'.out; omega) (fun p hp => ⟨by have := (HBI.out p hp).1; omega, (HBI.out p hp).2⟩) (by have := HML.out.1; omega))
        generalize w13.drewN q = w15 at *
        clear hdr hd14 HEQ c4
        go_wp2_with fail
        refine HRT.out.mono ?_
        rintro e w16 ⟨z2, rfl, hb16, hcs⟩
        have hz2 : z2 = 0 := by
          rcases hcs with ⟨-, -, hno⟩ | ⟨h, -⟩
          · refine absurd ?_ (hno 0 ⟨1, 5, -1, [97, 110, 110], hd, bids⟩)
            exact ⟨rfl, by rw [HBB.out]; rfl, rfl, by omega, by rw [HML.out.2]; omega, fun x hx => hx, HTB.out.2.1⟩
          · exact h
        subst hz2
        have HB16 := Lib.hid (HB14.out.trans (hb16.mono HBS.out))
        have HST := Lib.hid (stands_any w16 (HS.out.below HB16.out))
        clear hcs hb16 HRT
        go_wp2_with fail
        refine HST.out.mono ?_
        rintro e w17 ⟨rfl, hb17⟩
        have HB17 := Lib.hid (HB16.out.trans (hb17.mono HB16.out.size))
        clear hb17
        go_wp2_with fail
        go_ret
        exact ⟨rfl, HB17.out⟩
end Go.Proofs.YtdojnbnhogbhiaaGreatDoor
