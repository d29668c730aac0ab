
/-
  PartsAreCut returns true.
-/
import Derived.Test.YtmliaiinfgddhaaGreatDoorNames
import Derived.Test.YtmliaiinfgddhaaGreatDoorCuts4
import Derived.Test.YtmliaiinfgddhaaGreatDoorPartPlain
import Derived.Test.YtmliaiinfgddhaaGreatDoorRange
import Derived.Test.YtmliaiinfgddhaaGreatDoorStands
import Derived.Test.YtmliaiinfgddhaaGreatDoorStreamNew
namespace Go.Proofs.YtmliaiinfgddhaaGreatDoor
open Go.RowKit
attribute [local go_sem ↓] Go.wp_at_zero Go.wp_at_succ

theorem alloc_strs (w : World) (l : List (List UInt8)) (t : TypeId) : StrsAt (w.alloc (.cells (l.map fun x => Value.string ⟨x.toArray⟩).toArray t)) (some ⟨w.heap.size, 0, none⟩) l.length l.length l := by
  refine ⟨rfl, Nat.le_refl _, (fun e => by cases e), fun _ => ⟨w.heap.size, 0, rfl, by simp, fun k x i v hk hv => ?_⟩⟩
  have hi : i = 0 := by have := (List.getElem?_eq_some_iff.1 hv).1; simp [StrE] at this; exact this
  subst hi
  simp [StrE] at hv
  subst hv
  rw [World.cell?_alloc_at _ _ _ _ rfl]
  simp [StrE, hk]
/-- Two rows of the call's own that do not share a block. -/
def ApartV (v u : Value) : Prop := ∀ i, v.ownBlock = some i → u.ownBlock ≠ some i
theorem ApartV.symm {v u : Value} (h : ApartV v u) : ApartV u v := fun i e1 e2 => h i e2 e1
theorem apart_nil (u : Value) : ApartV (.slice none 0 0) u := fun i e => by cases e
theorem ApartV.grow {w : World} {base n c : Nat} {v v' u : Value} {Y : List (List UInt8)} {o : Obj} (h : ApartV v u) (hu : OwnStrs w base u Y) (hv : v'.ownBlock = v.ownBlock ∨ v'.ownBlock = some (w.alloc o).heap.size) (_ : n = c) : ApartV v' u := by
  intro i e1 e2
  rcases hv with hv | hv
  · exact h i (hv ▸ e1) e2
  · rw [hv] at e1
    have e3 := Option.some.inj e1
    have := (hu.lt i e2).2
    simp at e3
    omega
theorem Owns.apart {w w' : World} {base : Nat} {v u : Value} {Y : List (List UInt8)} {o : Obj} (h : ApartV v u) (hu : OwnStrs w base u Y) (hg : (w.alloc o).grownBy w' v.ownBlock) : OwnStrs w' base u Y := by
  refine World.ownsRow.kept (World.ownsRow.alloc hu o) hg ?_
  cases e : u.ownBlock with
  | none => exact .inl rfl
  | some i => exact .inr (fun e2 => h i e2.symm e)
/-- The variable's block holds a slice. -/
def VarAt (w : World) (P : Nat) (v : Value) : Prop := w.heap[P]? = some (.cells #[v] 26 (0, 0))
theorem VarAt.keep {w w' : World} {P : Nat} {v : Value} {row : Option Nat} (h : VarAt w P v) (hb : w.grownBy w' row) (hr : row ≠ some P) : VarAt w' P v := (hb.block P (Array.getElem?_eq_some_iff.1 h).1 (fun e => hr e.symm)).trans h
theorem VarAt.below {w w' : World} {P : Nat} {v : Value} (h : VarAt w P v) (hb : Below w.heap.size w w') : VarAt w' P v := (hb.block P (Array.getElem?_eq_some_iff.1 h).1).trans h
theorem VarAt.c {w : World} {P : Nat} {v : Value} (h : VarAt w P v) : w.cell? ⟨P, 0, none⟩ = some v ∧ w.frozen? ⟨P, 0, none⟩ = false := by
  refine ⟨?_, ?_⟩
  · rw [cell_of_row w P _ _ _ _ h]; rfl
  · simp [World.frozen?, show w.heap[P]? = _ from h]
theorem VarAt.set {w : World} {P : Nat} {v : Value} (h : VarAt w P v) (u : Value) : VarAt (w.setCell ⟨P, 0, none⟩ u) P u := by
  simp [VarAt, World.setCell, Array.getElem?_modify, show w.heap[P]? = _ from h]
theorem inP_more (a : Nat) : ∀ x, inP oneK a 10 x = true → inP oneK (a + 1) 10 x = true := by
  intro x h
  unfold inP at *
  simp only [decide_eq_true_eq] at *
  omega
theorem rise_names {l : List (List UInt8)} (h : l.Sublist names12) : (∀ x ∈ l, keyL x = true) ∧ Rising l ∧ l.Nodup ∧ l.length ≤ 12 :=
  ⟨fun x hx => names_keys x (h.subset hx), rise_sub names_rise h, names_nodup.sublist h, h.length_le⟩
theorem part_ten (A : Option Addr) (n c a : Nat) (l : List (List UInt8)) (w : World) (h : StrsAt w A n c l) (hs : l.Sublist names12) (ha : a ≤ 10) :
    Calls Tryz.prog 10 #[.slice A n c, .string ⟨#[111, 110, 101]⟩, .agg #[.int .i64 (a : Int), .int .i64 10]] w (PartsPost w l a 10) := by
  obtain ⟨h1, h2, _, h4⟩ := rise_names hs
  exact part_any A n c a 10 l w h (by have := h.1; omega) h1 h2 (by omega) (by omega) ha
theorem deleteAny_any (P base c c2 : Nat) (A A2 : Option Addr) (la S : List (List UInt8)) (w : World) (ho : OwnStrs w base (.slice A la.length c) la) (hn : la.length ≤ 100) (hSl : S.length ≤ 1000) (hV : VarAt w P (.slice A2 S.length c2)) (hS : StrsAt w A2 S.length c2 S) (hP : P < base) (hA2 : S.length = 0 ∨ ∀ g off, A2 = some ⟨g, off, none⟩ → g < base) :
    Calls Tryz.prog 11 #[.slice A la.length c, .func (.func 13) #[] #[.pointer (some ⟨P, 0, none⟩)]] w (CutPost w base (la.filter (fun x => !(!S.contains x)))) := by
  rcases Nat.eq_zero_or_pos la.length with h0 | h0
  · have hl : la = [] := List.eq_nil_of_length_eq_zero h0
    subst hl
    exact deleteNone_any _ P base c _ A w h0 ho enters1
  · obtain ⟨G, rfl, hG1, hG2, _, _, _⟩ := ho.strAt h0
    refine (deleteFunc_any 13 P G base c (fun x => !S.contains x) la w ho hn enters1 (fun wx hg x => ?_)).mono ?_
    · exact notIn1_any P S.length c2 A2 S x wx (hV.keep hg (fun e => by have := Option.some.inj e; omega)).c.1 (by
        rcases hA2 with h | h
        · exact ⟨hS.1, hS.2.1, hS.2.2.1, fun h' => by omega⟩
        · exact hS.grown hg (fun g off e e2 => by have := h g off e; have := Option.some.inj e2; omega)) hSl
    · rintro e w' ⟨v, rfl, hov, hgv⟩
      exact ⟨v, rfl, hov, some G, hgv, fun i e => by rw [← Option.some.inj e]; exact hG1⟩
set_option maxHeartbeats 3200000 in
set_option maxRecDepth 100000 in
theorem parts_any (A : Option Addr) (n c : Nat) (w : World) (hA : RowAt w A n) (hbig : n ≤ 1000000000000000) (hS : StandAt w) :
    Calls Tryz.prog 3 #[.slice A n c] w (LawPost w) := by
  have hst := stream_new w A n c hA hbig
  have hB : Below w.heap.size w (w.alloc (.cells #[.slice A n c, .int .i64 0] 25)) := (Below.refl _ _).alloc (Nat.le_refl _) _
  have HS := Lib.hid hS; clear hS
  go_enter Tryz.func3, Tryz.ntmps3
  go_upto_region 2 with (fail)
  have hz1 : (w.alloc (.cells #[.slice A n c, .int .i64 0] 25)).heap.size = w.heap.size + 1 := by simp
  generalize w.alloc (.cells #[.slice A n c, .int .i64 0] 25) = w1 at *
  have HZ1 := Lib.hid hz1; clear hz1
  go_upto_region 3 with (fail)
  have hk := heap_alloc_new w1 (.cells #[.slice none 0 0] 26)
  have hB1 : Below w1.heap.size w1 (w1.alloc (.cells #[.slice none 0 0] 26)) := (Below.refl _ _).alloc (Nat.le_refl _) _
  have hst2 := hst.below hB1
  have hB2 := below_trans' hB hB1
  generalize w1.alloc (.cells #[.slice none 0 0] 26) = w2 at *
  have HK := Lib.hid hk; clear hk
  clear hst hB1 hB
  go_wp2_with fail
  have hnm : StrsAt (w2.alloc (.cells (names12.map fun x => Value.string ⟨x.toArray⟩).toArray 9)) (some ⟨w2.heap.size, 0, none⟩) 12 12 names12 := alloc_strs w2 names12 9
  have hB3 : Below w2.heap.size w2 (w2.alloc (.cells (names12.map fun x => Value.string ⟨x.toArray⟩).toArray 9)) := (Below.refl _ _).alloc (Nat.le_refl _) _
  refine (rangeR_any w.heap.size A n c 0 0 12 _ (hst2.below hB3) (by omega) (by omega) (by omega) (by omega)).mono ?_
  rintro e w4 ⟨r, rfl, hr0, hr1, hs4, hg4⟩
  obtain ⟨m, rfl⟩ := Int.eq_ofNat_of_zero_le hr0
  have hnm4 : StrsAt w4 (some ⟨w2.heap.size, 0, none⟩) 12 12 names12 := ElemsAt.grown hnm hg4 (fun g off e he => by
    have h1 := Option.some.inj he
    have h2 : (⟨w2.heap.size, 0, none⟩ : Addr) = ⟨g, off, none⟩ := Option.some.inj e
    have h3 : w2.heap.size = g := congrArg Addr.block h2
    have h4 := (Array.getElem?_eq_some_iff.1 HK.out).1
    have h5 := HZ1.out
    omega)
  go_wp2_with fail
  refine (leastOf_any _ 12 12 m names12 w4 hnm4 (by omega) names_short (by omega)).mono ?_
  rintro e w5 ⟨v, l', rfl, hown, hsub, hb5⟩
  have hP : VarAt w2 w1.heap.size (.slice none 0 0) := HK.out
  have hP3 : VarAt (w2.alloc (.cells (names12.map fun x => Value.string ⟨x.toArray⟩).toArray 9)) w1.heap.size (.slice none 0 0) := hP.below hB3
  have hgw := hs4.lt
  have hz1 := HZ1.out
  have hP4 : VarAt w4 w1.heap.size (.slice none 0 0) := hP3.keep hg4 (fun e => by have := Option.some.inj e; omega)
  have hP5 : VarAt w5 w1.heap.size (.slice none 0 0) := hP4.below hb5
  have hB4 : Below w.heap.size w w4 := (hB2.trans (hB3.mono hB2.size)).grown hg4 (by have := hB2.size; have := hB3.size; omega) (fun i e => by have := Option.some.inj e; omega)
  have hB5 : Below w.heap.size w w5 := hB4.trans (hb5.mono hB4.size)
  have hS5 := hs4.below hb5
  have hPl : w1.heap.size < w4.heap.size := (Array.getElem?_eq_some_iff.1 hP4).1
  obtain ⟨A', c', rfl, hc', hat', hG'⟩ := hown.at_ strE_ok
  have hA4 : ∀ g off, A' = some ⟨g, off, none⟩ → w4.heap.size ≤ g ∧ g < w5.heap.size := fun g off e => by
    subst e
    exact ⟨(hG' g off rfl).2, (hown.lt g rfl).2⟩
  have HA4 := Lib.hid hA4
  have HAT := Lib.hid hat'
  have HSUB := Lib.hid hsub
  have HP5 := Lib.hid hP5
  have HB5 := Lib.hid hB5
  have HS5 := Lib.hid hS5
  have hz5 := hb5.size
  have hll : l'.length ≤ 12 := hsub.length_le
  clear hst2 hnm hB3 hr0 hr1 hs4 hg4 hnm4 hown hsub hb5 hP hP3 hP4 hP5 hB4 hB5 hS5 hat' hG' hA4 HK hB2
  have hPw : w.heap.size < w1.heap.size := by omega
  clear hz1 HZ1
  generalize w1.heap.size = P at *
  go_wp2_with fail
  go_loopg [4, 24] l'.length (fun gk v4 i wr => ∃ (k : Nat) (vs : Value) (S : List (List UInt8)), Hid (k + gk = l'.length) ∧ i = .int .i64 (k : Int) ∧ Hid (OwnStrs wr w5.heap.size v4 (l'.take k)) ∧ Hid (OwnStrs wr w5.heap.size vs S) ∧ Hid (ApartV v4 vs) ∧ Hid (S.Sublist (l'.take k)) ∧ Hid (VarAt wr P vs) ∧ Hid (StreamAt wr w.heap.size A n c (1 + k)) ∧ Hid (StrsAt wr A' l'.length c' l') ∧ Hid (Below w.heap.size w wr) ∧ Hid (w5.heap.size ≤ wr.heap.size))
  case atStart => exact ⟨0, _, [], show 0 + l'.length = l'.length by omega, rfl, Owns.nil _ _, Owns.nil _ _, apart_nil _, List.Sublist.refl _, HP5.out, HS5.out, HAT.out, HB5.out, Nat.le_refl _⟩
  case round =>
    obtain ⟨k, vs, S, HG, rfl, HO, HOS, HAP, HSS, HV, HST, HL, HBW, HZ⟩ := hrel
    have hkl : k ≤ l'.length := by have := HG.out; omega
    by_cases hlt : k < l'.length
    · obtain ⟨G, off, hAe, hg, hc⟩ := HL.out.str (by omega)
      have hck := hc k hlt
      have hGr := HA4.out G off hAe
      subst hAe
      have HX : Hid (l'.take (k + 1) = l'.take k ++ [l'.getD k []]) := by
        show _ = _
        rw [List.take_succ_eq_append_getElem hlt]
        simp [hlt]
      generalize l'.getD k [] = x at *
      have hz := HZ.out
      clear hc
      go_wp2_with (at_builtin; refine append_elems strE_ok rfl _ _ rfl w5.heap.size u4 (l'.take k) rfl (World.ownsRow.alloc HO.out _) (some ⟨wr.heap.size, 0, none⟩) 1 1 [x] rfl (one_elem (E := StrE) wr x) (by simp; omega) (by simp; omega) ?_; intro v4' w6 hown6 hgrow6 hv6; have HO6 := Lib.hid hown6; have HG6 : Hid ((wr.alloc (.cells #[.string ⟨x.toArray⟩] 9)).grownBy w6 u4.ownBlock) := hgrow6; have HV6 := Lib.hid hv6; clear hown6 hgrow6 hv6)
      have hrow : ∀ i, u4.ownBlock = some i → w5.heap.size ≤ i := fun i e => (HO.out.lt i e).1
      have HOS6 : Hid (OwnStrs w6 w5.heap.size vs S) := Owns.apart HAP.out HOS.out HG6.out
      have HAP6 : Hid (ApartV v4' vs) := HAP.out.grow (n := 0) HOS.out (o := .cells #[.string ⟨x.toArray⟩] 9) HV6.out rfl
      have hga := grown_alloc (World.grownBy.refl wr none) (.cells #[.string ⟨x.toArray⟩] 9)
      have hgg : wr.grownBy w6 u4.ownBlock := grown_trans ⟨hga.os, hga.tape, hga.output, hga.size, fun i hi _ => hga.block i hi (fun e => by cases e)⟩ HG6.out
      have HVP6 := Lib.hid (HV.out.keep hgg (fun e => by have := hrow _ e; omega))
      have HST6 : Hid (StreamAt w6 w.heap.size A n c (1 + k)) := HST.out.row_ hgg (fun i e => by have := hrow _ e; omega)
      have HL6 : Hid (StrsAt w6 (some ⟨G, off, none⟩) l'.length c' l') := HL.out.grown hgg (fun g' off' e e2 => by have := hrow _ e2; have h3 := congrArg Addr.block (Option.some.inj e); simp at h3; omega)
      have HBW6 : Hid (Below w.heap.size w w6) := HBW.out.grown hgg (by have := HBW.out.size; omega) (fun i e => by have := hrow _ e; omega)
      have HZ6 : Hid (w5.heap.size ≤ w6.heap.size) := Nat.le_trans hz hgg.size
      clear hgg hga hck HL HBW HST HV HAP HOS HG6 HV6
      go_wp2_with fail
      refine (flip_any w.heap.size A n c (1 + k) 2 w6 HST6.out (by omega) (by omega)).mono ?_
      rintro e w7 ⟨r, rfl, hs7, hg7⟩
      have hPg : w.heap.size ≠ P := by omega
      have HST7 : Hid (StreamAt w7 w.heap.size A n c (1 + (k + 1))) := hs7
      have HO7 := Lib.hid (HO6.out.kept_ hg7 (fun i e => by have := Option.some.inj e; omega))
      have HOS7 := Lib.hid (HOS6.out.kept_ hg7 (fun i e => by have := Option.some.inj e; omega))
      have HVP7 := Lib.hid (HVP6.out.keep hg7 (fun e => hPg (Option.some.inj e)))
      have HL7 : Hid (StrsAt w7 (some ⟨G, off, none⟩) l'.length c' l') := HL6.out.grown hg7 (fun g' off' e e2 => by have h3 := congrArg Addr.block (Option.some.inj e); have := Option.some.inj e2; simp at h3; omega)
      have HBW7 : Hid (Below w.heap.size w w7) := HBW6.out.grown hg7 (by have := HBW6.out.size; omega) (fun i e => by have := Option.some.inj e; omega)
      have HZ7 : Hid (w5.heap.size ≤ w7.heap.size) := Nat.le_trans HZ6.out hg7.size
      clear hs7 hg7 HO6 HOS6 HVP6 HL6 HBW6 HST6
      cases r
      · go_wp2_with fail
        go_roundg (gk - 1)
        case measure => have := HG.out; omega
        case rel => exact ⟨k + 1, vs, S, show k + 1 + (gk - 1) = _ by have := HG.out; omega, by go_num, by rw [HX.out]; exact HO7.out, HOS7.out, HAP6.out, HSS.out.trans (by rw [HX.out]; exact List.sublist_append_left _ _), HVP7.out, HST7.out, HL7.out, HBW7.out, HZ7.out⟩
      · have hz7 := HZ7.out
        obtain ⟨hvc, hvf⟩ := HVP7.out.c
        have hSl : S.length ≤ 12 := by have := HSS.out.length_le; have h2 : (l'.take k).length ≤ k := List.length_take_le k l'; omega
        go_wp2_with (at_builtin; refine append_elems strE_ok rfl _ _ rfl w5.heap.size vs S rfl (World.ownsRow.alloc HOS7.out _) (some ⟨w7.heap.size, 0, none⟩) 1 1 [x] rfl (one_elem (E := StrE) w7 x) (by simp; omega) (by simp; omega) ?_; intro v5' w8 hown8 hgrow8 hv8; have hat8 := hown8.at_ strE_ok; rw [show (S ++ [x]).length = S.length + 1 by simp] at hat8; obtain ⟨A8, c8, rfl, hc8, hat8', hG8'⟩ := hat8; clear hc8 hat8' hG8'; have HO8 := Lib.hid hown8; have HG8 : Hid ((w7.alloc (.cells #[.string ⟨x.toArray⟩] 9)).grownBy w8 vs.ownBlock) := hgrow8; have HV8 := Lib.hid hv8; have hgA := grown_alloc (World.grownBy.refl w7 none) (.cells #[.string ⟨x.toArray⟩] 9); have hgg8 : w7.grownBy w8 vs.ownBlock := grown_trans ⟨hgA.os, hgA.tape, hgA.output, hgA.size, fun i hi _ => hgA.block i hi (fun e => by cases e)⟩ HG8.out; have HGG8 := Lib.hid hgg8; have HVP8 := Lib.hid (HVP7.out.keep hgg8 (fun e => by have := (HOS7.out.lt _ e).1; omega)); obtain ⟨hvc8, hvf8⟩ := HVP8.out.c; clear hown8 hgrow8 hv8 hgA hgg8)
        have hrow8 : ∀ i, vs.ownBlock = some i → w5.heap.size ≤ i := fun i e => (HOS7.out.lt i e).1
        have hgs := grown_setCell w8 P 0 (.slice A8 (S.length + 1) c8)
        have hgt : w7.grownBy (w8.setCell ⟨P, 0, none⟩ (Value.slice A8 (S.length + 1) c8)) none ∨ True := .inr trivial
        have HO8' : Hid (OwnStrs w8 w5.heap.size v4' (l'.take k ++ [x])) := Owns.apart HAP6.out.symm HO7.out HG8.out
        have HO9 := Lib.hid (HO8'.out.kept_ hgs (fun i e => by have := Option.some.inj e; omega))
        have HOS9 := Lib.hid (HO8.out.kept_ hgs (fun i e => by have := Option.some.inj e; omega))
        have HAP9 : Hid (ApartV v4' (.slice A8 (S.length + 1) c8)) := (HAP6.out.symm.grow (n := 0) HO7.out (o := .cells #[.string ⟨x.toArray⟩] 9) HV8.out rfl).symm
        have HST9 : Hid (StreamAt (w8.setCell ⟨P, 0, none⟩ (Value.slice A8 (S.length + 1) c8)) w.heap.size A n c (1 + (k + 1))) := (HST7.out.row_ HGG8.out (fun i e => by have := hrow8 _ e; omega)).row_ hgs (fun i e => by have := Option.some.inj e; omega)
        have HL8 : Hid (StrsAt w8 (some ⟨G, off, none⟩) l'.length c' l') := HL7.out.grown HGG8.out (fun g' off' e e2 => by have := hrow8 _ e2; have h3 := congrArg Addr.block (Option.some.inj e); simp at h3; omega)
        have HL9 : Hid (StrsAt (w8.setCell ⟨P, 0, none⟩ (Value.slice A8 (S.length + 1) c8)) (some ⟨G, off, none⟩) l'.length c' l') := HL8.out.grown hgs (fun g' off' e e2 => by have h3 := congrArg Addr.block (Option.some.inj e); have := Option.some.inj e2; simp at h3; omega)
        have HBW8 : Hid (Below w.heap.size w w8) := HBW7.out.grown HGG8.out (by have := HBW7.out.size; omega) (fun i e => by have := hrow8 _ e; omega)
        have HBW9 : Hid (Below w.heap.size w (w8.setCell ⟨P, 0, none⟩ (Value.slice A8 (S.length + 1) c8))) := HBW8.out.setCell (show w.heap.size ≤ P by omega) _
        have HZ9 : Hid (w5.heap.size ≤ (w8.setCell ⟨P, 0, none⟩ (Value.slice A8 (S.length + 1) c8)).heap.size) := Nat.le_trans (Nat.le_trans hz7 HGG8.out.size) hgs.size
        have HVP9 : Hid (VarAt (w8.setCell ⟨P, 0, none⟩ (Value.slice A8 (S.length + 1) c8)) P (.slice A8 (S.length + 1) c8)) := HVP8.out.set (.slice A8 (S.length + 1) c8)
        have HSS9 : Hid ((S ++ [x]).Sublist (l'.take k ++ [x])) := HSS.out.append (List.Sublist.refl _)
        clear hgs hgt HL8 HBW8 HO8' HBW7 HST7 HL7 HG8 HV8 hvc8 hvf8
        generalize w8.setCell ⟨P, 0, none⟩ (Value.slice A8 (S.length + 1) c8) = w9 at *
        go_wp2_with fail
        go_roundg (gk - 1)
        case measure => have := HG.out; omega
        case rel => exact ⟨k + 1, (.slice A8 (S.length + 1) c8), S ++ [x], show k + 1 + (gk - 1) = _ by have := HG.out; omega, by go_num, by rw [HX.out]; exact HO9.out, HOS9.out, HAP9.out, by rw [HX.out]; exact HSS9.out, HVP9.out, HST9.out, HL9.out, HBW9.out, HZ9.out⟩
    · obtain rfl : k = l'.length := by omega
      have hall : l'.take l'.length = l' := List.take_of_length_le (Nat.le_refl _)
      rw [hall] at HO HSS
      obtain ⟨A1, c1, rfl, hc1, hat1, hG1⟩ := HO.out.at_ strE_ok
      obtain ⟨A2, c2, rfl, hc2, hat2, hG2⟩ := HOS.out.at_ strE_ok
      have HA1 := Lib.hid hat1
      have HA2 := Lib.hid hat2
      have hg1 : ∀ g off, A1 = some ⟨g, off, none⟩ → w5.heap.size ≤ g := fun g off e => (hG1 g off e).2
      have hg2 : ∀ g off, A2 = some ⟨g, off, none⟩ → w5.heap.size ≤ g := fun g off e => (hG2 g off e).2
      have HG1 := Lib.hid hg1
      have HG2 := Lib.hid hg2
      have hSl : S.length ≤ 12 := by have := HSS.out.length_le; omega
      have hnk : ¬ ((l'.length : Nat) : Int) < ((l'.length : Nat) : Int) := by omega
      clear hall hat1 hat2 hG1 hG2 hg1 hg2 HO HOS HAP HL HG hlt hkl
      go_wp2_with fail
      refine (rangeR_any w.heap.size A n c _ 0 9 wr HST.out (by omega) (by omega) (by omega) (by omega)).mono ?_
      rintro e w10 ⟨r, rfl, hr0, hr1, hs10, hg10⟩
      obtain ⟨a, rfl⟩ := Int.eq_ofNat_of_zero_le hr0
      have hz := HZ.out
      have HA1' := Lib.hid (HA1.out.grown hg10 (fun g off e e2 => by have := HG1.out g off e; have := Option.some.inj e2; omega))
      have HA2' := Lib.hid (HA2.out.grown hg10 (fun g off e e2 => by have := HG2.out g off e; have := Option.some.inj e2; omega))
      have HV10 := Lib.hid (HV.out.keep hg10 (fun e => by have := Option.some.inj e; omega))
      have HB10 : Hid (Below w.heap.size w w10) := HBW.out.grown hg10 (by have := HBW.out.size; omega) (fun i e => by have := Option.some.inj e; omega)
      clear hs10 hg10 HA1 HA2 HV HBW HST HG1 HG2 HZ
      go_upto_region 11 with (fail)
      have hb11 : Below w10.heap.size w10 (w10.alloc (.cells #[.int .i64 (a : Int), .int .i64 10] 31)) := (Below.refl _ _).alloc (Nat.le_refl _) _
      have hq11 : (w10.alloc (.cells #[.int .i64 (a : Int), .int .i64 10] 31)).heap[w10.heap.size]? = some (.cells #[.int .i64 (a : Int), .int .i64 10] 31 (0, 0)) := heap_alloc_new w10 _
      have HA1 := Lib.hid (HA1'.out.keep hb11)
      have HA2 := Lib.hid (HA2'.out.keep hb11)
      have HV := Lib.hid (HV10.out.below hb11)
      have HB11 := Lib.hid (HB10.out.trans (hb11.mono HB10.out.size))
      generalize w10.alloc (.cells #[.int .i64 (a : Int), .int .i64 10] 31) = w11 at *
      generalize w10.heap.size = Q at *
      have HQ11 := Lib.hid hq11
      obtain ⟨q0, q1, _, _, _⟩ := two_c hq11
      clear hb11 hq11 HA1' HA2' HV10 HB10
      go_wp2_with fail
      have HPM := Lib.hid (part_ten A1 l'.length c1 a l' w11 HA1.out HSUB.out (by omega))
      refine HPM.out.mono ?_
      rintro e w12 ⟨va, rfl, hoa, hb12⟩
      have HQ12 := Lib.hid ((hb12.block Q (Array.getElem?_eq_some_iff.1 HQ11.out).1).trans HQ11.out)
      have HOA12 := Lib.hid (hoa.base_ (base' := w.heap.size) HB11.out.size)
      have HA1_12 := Lib.hid (HA1.out.keep hb12)
      have HA2_12 := Lib.hid (HA2.out.keep hb12)
      have HV12 := Lib.hid (HV.out.below hb12)
      have HB12 := Lib.hid (HB11.out.trans (hb12.mono HB11.out.size))
      obtain ⟨Aa, ca, rfl, hca, _, _⟩ := hoa.at_ strE_ok
      clear hoa hb12 HPM HA1 HA2 HV HB11 HQ11 q0 q1 hca
      obtain ⟨q0, q1, _, _, _⟩ := two_c HQ12.out
      obtain ⟨hv0, _⟩ := HV12.out.c
      have HSN : Hid (S.Sublist names12) := HSS.out.trans HSUB.out
      go_wp2_with fail
      have HPM := Lib.hid (part_ten A2 S.length c2 a S w12 HA2_12.out HSN.out (by omega))
      refine HPM.out.mono ?_
      rintro e w13 ⟨vb, rfl, hob, hb13⟩
      have HQ13 := Lib.hid ((hb13.block Q (Array.getElem?_eq_some_iff.1 HQ12.out).1).trans HQ12.out)
      have HOA13 := Lib.hid (HOA12.out.below_ hb13)
      have HOB13 := Lib.hid (hob.base_ (base' := w.heap.size) HB12.out.size)
      have HA1_13 := Lib.hid (HA1_12.out.keep hb13)
      have HA2_13 := Lib.hid (HA2_12.out.keep hb13)
      have HV13 := Lib.hid (HV12.out.below hb13)
      have HB13 := Lib.hid (HB12.out.trans (hb13.mono HB12.out.size))
      obtain ⟨Ab, cb, rfl, hcb, _, _⟩ := hob.at_ strE_ok
      clear hob hb13 HPM HA1_12 HA2_12 HV12 HB12 HQ12 q0 q1 hcb hv0 HOA12
      obtain ⟨q0, q1, _, _, _⟩ := two_c HQ13.out
      have HPC := Lib.hid (fun wx (h : StrsAt wx A1 l'.length c1 l') => part_ten A1 l'.length c1 (a + 1) l' wx h HSUB.out (by omega))
      go_wp2_with fail
      refine (HPC.out w13 HA1_13.out).mono ?_
      rintro e w14 ⟨vc, rfl, hoc, hb14⟩
      have HOA14 := Lib.hid (HOA13.out.below_ hb14)
      have HOB14 := Lib.hid (HOB13.out.below_ hb14)
      have HOC14 := Lib.hid (hoc.base_ (base' := w.heap.size) HB13.out.size)
      have HA2_14 := Lib.hid (HA2_13.out.keep hb14)
      have HV14 := Lib.hid (HV13.out.below hb14)
      have HB14 := Lib.hid (HB13.out.trans (hb14.mono HB13.out.size))
      obtain ⟨Ac, cc, rfl, hcc, _, _⟩ := hoc.at_ strE_ok
      clear hoc hb14 HPC HA1_13 HA2_13 HV13 HB13 HQ13 q0 q1 hcc HOA13 HOB13
      have hal := (rise_names HSUB.out).2.2.1
      have HFIN : Hid ((l'.filter (inP oneK a 10)).filter (fun x => !(!S.contains x)) = S.filter (inP oneK a 10)) := by
        show _ = _
        have e : (fun x : List UInt8 => !(!S.contains x)) = fun x => S.contains x := by funext x; rw [Bool.not_not]
        rw [e]
        exact cut_part HSS.out hal (inP oneK a 10)
      have HNOT : Hid ((l'.filter (inP oneK a 10)).any (fun x => !((l'.filter (inP oneK (a + 1) 10)).contains x)) = false) := by
        show _ = _
        rw [List.any_eq_false]
        intro x hx
        have := part_more (inP_more a) x hx
        simp [this]
      have hla : (l'.filter (inP oneK a 10)).length ≤ 12 := Nat.le_trans (List.length_filter_le _ _) hll
      have hlb : (S.filter (inP oneK a 10)).length ≤ 12 := Nat.le_trans (List.length_filter_le _ _) hSl
      have hlc : (l'.filter (inP oneK (a + 1) 10)).length ≤ 12 := Nat.le_trans (List.length_filter_le _ _) hll
      clear hal
      generalize l'.filter (inP oneK a 10) = la at *
      generalize hLB : S.filter (inP oneK a 10) = lb at *
      generalize l'.filter (inP oneK (a + 1) 10) = lc at *
      clear hLB
      obtain ⟨_, _, ea, _, hataa, hga⟩ := HOA14.out.at_ strE_ok
      simp only [Value.slice.injEq] at ea
      obtain ⟨rfl, _, rfl⟩ := ea
      obtain ⟨_, _, eb, _, hatb, hgb⟩ := HOB14.out.at_ strE_ok
      simp only [Value.slice.injEq] at eb
      obtain ⟨rfl, _, rfl⟩ := eb
      obtain ⟨_, _, ec, _, hatc, hgc⟩ := HOC14.out.at_ strE_ok
      simp only [Value.slice.injEq] at ec
      obtain ⟨rfl, _, rfl⟩ := ec
      clear hga hgb hgc
      go_upto_region 16 with (fail)
      have hb15 : Below w14.heap.size w14 (w14.alloc (.cells #[.slice Ac lc.length cc] 26)) := (Below.refl _ _).alloc (Nat.le_refl _) _
      have hr15 : VarAt (w14.alloc (.cells #[.slice Ac lc.length cc] 26)) w14.heap.size (.slice Ac lc.length cc) := heap_alloc_new w14 _
      have HR15 := Lib.hid hr15
      have HXA := Lib.hid (hataa.keep hb15)
      have HXB := Lib.hid (hatb.keep hb15)
      have HXC := Lib.hid (hatc.keep hb15)
      have HA2_15 := Lib.hid (HA2_14.out.keep hb15)
      have HV15 := Lib.hid (HV14.out.below hb15)
      have HB15 := Lib.hid (HB14.out.trans (hb15.mono HB14.out.size))
      generalize w14.alloc (.cells #[.slice Ac lc.length cc] 26) = w15 at *
      generalize w14.heap.size = R at *
      have hPl : P < w15.heap.size := (Array.getElem?_eq_some_iff.1 HV15.out).1
      have hRl : R < w15.heap.size := (Array.getElem?_eq_some_iff.1 HR15.out).1
      have HA2l : Hid (0 < S.length → ∀ g off, A2 = some ⟨g, off, none⟩ → g < w15.heap.size) := fun h g off e => by
        obtain ⟨g', off', e', hg', _⟩ := HA2_15.out.str h
        rw [e] at e'
        have h3 := congrArg Addr.block (Option.some.inj e')
        simp at h3
        omega
      clear hb15 hr15 hataa hatb hatc HA2_14 HV14 HB14 HOA14 HOB14 HOC14
      go_wp2_with fail
      refine (clone_any Aa la.length ca la w15 HXA.out (by omega)).mono ?_
      rintro e w16 ⟨vk, rfl, hok, hb16⟩
      obtain ⟨Ak, ck, rfl, hck, _, _⟩ := hok.at_ strE_ok
      have HOK := Lib.hid hok
      have HB16 := Lib.hid hb16
      clear hok hb16 hck
      have HA2_16 := Lib.hid (HA2_15.out.keep HB16.out)
      have HV16 := Lib.hid (HV15.out.below HB16.out)
      have HDEL : Hid (Calls Tryz.prog 11 #[.slice Ak la.length ck, .func (.func 13) #[] #[.pointer (some ⟨P, 0, none⟩)]] w16 (CutPost w16 w15.heap.size lb)) := by
        show Calls _ _ _ _ _
        rw [← HFIN.out]
        rcases Nat.eq_zero_or_pos S.length with hS0 | hS0
        · exact deleteAny_any P w15.heap.size ck c2 Ak A2 la S w16 HOK.out (by omega) (by omega) HV16.out HA2_16.out hPl (.inl hS0)
        · exact deleteAny_any P w15.heap.size ck c2 Ak A2 la S w16 HOK.out (by omega) (by omega) HV16.out HA2_16.out hPl (.inr (HA2l.out hS0))
      go_wp2_with fail
      refine HDEL.out.mono ?_
      rintro e w17 ⟨vd, rfl, hod, row, hgd, hrd⟩
      have hb17 : Below w15.heap.size w15 w17 := HB16.out.grown hgd HB16.out.size hrd
      have HXA17 := Lib.hid (HXA.out.keep hb17)
      have HXB17 := Lib.hid (HXB.out.keep hb17)
      have HXC17 := Lib.hid (HXC.out.keep hb17)
      have HR17 := Lib.hid (HR15.out.below hb17)
      have HB17 := Lib.hid (HB15.out.trans (hb17.mono HB15.out.size))
      obtain ⟨Ad, cd, rfl, hcd, hatd, _⟩ := hod.at_ strE_ok
      have HXD := Lib.hid hatd
      clear hod hgd hrd hb17 hcd hatd HDEL HA2_16 HV16 HOK HB16 HXA HXB HXC HR15 HB15 HV15 HA2_15
      have HEQ := Lib.hid (equal_any Ab Ad lb.length cb lb.length cd lb lb w17 HXB17.out HXD.out (by omega) (by omega))
      rw [show decide (lb = lb) = true by simp] at HEQ
      go_wp2_with fail
      refine HEQ.out.mono ?_
      rintro e w18 ⟨rfl, q18, hw18⟩
      have hb18 : Below w17.heap.size w17 w18 := by rw [hw18]; exact below_drewN (Below.refl _ _) _
      have HXA18 := Lib.hid (HXA17.out.keep hb18)
      have HXC18 := Lib.hid (HXC17.out.keep hb18)
      have HR18 := Lib.hid (HR17.out.below hb18)
      have HB18 := Lib.hid (HB17.out.trans (hb18.mono HB17.out.size))
      clear hb18 hw18 HEQ HXD HXA17 HXB17 HXC17 HR17 HB17
      have HCF := Lib.hid (containsFunc_any 17 R (fun x => !lc.contains x) Aa la.length ca la w18 HXA18.out (by omega) enters2 (fun x _ => notIn2_any R lc.length cc Ac lc x w18 HR18.out.c.1 HXC18.out (by omega)))
      rw [HNOT.out] at HCF
      go_wp2_with fail
      refine HCF.out.mono ?_
      rintro e w19 ⟨rfl, hw19⟩
      obtain rfl := hw19.symm
      go_wp2_with fail
      refine (stands_any w18 (HS.out.below HB18.out)).mono ?_
      rintro e w20 ⟨rfl, hb20⟩
      have HB20 := Lib.hid (HB18.out.trans (hb20.mono HB18.out.size))
      clear hb20
      go_wp2_with fail
      go_ret
      exact ⟨rfl, HB20.out⟩
end Go.Proofs.YtmliaiinfgddhaaGreatDoor
