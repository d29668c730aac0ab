
/-
  What the closure of paragraphs does: it puts the paragraph that was read into the list, once.
-/
import Derived.Test.YtmaimojpjepmjaaGreatDoorSingle
import Derived.Test.YtmaimojpjepmjaaGreatDoorLetterM
import Derived.Test.YtmaimojpjepmjaaGreatDoorNearWords
import Derived.Deep.RegionLaw
namespace Go.Proofs.YtmaimojpjepmjaaGreatDoor
open Go.RowKit

theorem one_c {w : World} {b : Nat} {a0 : Value} {t : TypeId} (h : w.heap[b]? = some (.cells #[a0] t (0, 0))) : w.cell? ⟨b, 0, none⟩ = some a0 ∧ w.frozen? ⟨b, 0, none⟩ = false ∧ b < w.heap.size := by
  refine ⟨?_, by simp [World.frozen?, h], (Array.getElem?_eq_some_iff.1 h).1⟩
  rw [cell_of_row w b _ _ _ _ h]; rfl
theorem one_set {w : World} {b : Nat} {a0 : Value} {t : TypeId} (h : w.heap[b]? = some (.cells #[a0] t (0, 0))) (v : Value) : (w.setCell ⟨b, 0, none⟩ v).heap[b]? = some (.cells #[v] t (0, 0)) := by
  simp [World.setCell, Array.getElem?_modify, h]
structure DisP (B N S O Mp : Nat) : Prop where
  n : N < B
  s : S < B
  o : O < B
  m : Mp < B
  ns : N ≠ S
  no : N ≠ O
  nm : N ≠ Mp
  so : S ≠ O
  sm : S ≠ Mp
  om : O ≠ Mp
  gn : 2 < N
  go : 2 < O
  gm : 2 < Mp
structure ParSt (w : World) (B N S O Mp : Nat) (nv : Value) (l : List Str) (ov : Value) (ss : List Str) : Prop where
  now : w.heap[N]? = some (.cells #[nv] 29 (0, 0))
  seen : w.heap[S]? = some (.cells #[.map (some Mp)] 67 (0, 0))
  out : w.heap[O]? = some (.cells #[ov] 29 (0, 0))
  nown : Owns StrE w B nv l
  oown : Owns StrE w B ov ss
  ap : ApartV nv ov
  map : SetAt w Mp ss
  max : MaxAt w
  big : B ≤ w.heap.size
  good : ss.Nodup ∧ [] ∉ ss
/-- All blocks stay but three and that of a row. -/
structure ButP (N O Mp : Nat) (v : Value) (w w' : World) : Prop where
  os : w'.os = w.os
  tape : w'.tape = w.tape
  output : w'.output = w.output
  size : w.heap.size ≤ w'.heap.size
  block : ∀ i, i < w.heap.size → i ≠ N → i ≠ O → i ≠ Mp → v.ownBlock ≠ some i → w'.heap[i]? = w.heap[i]?
theorem ButP.of_below {N O Mp : Nat} {v : Value} {w w' : World} (h : Below w.heap.size w w') : ButP N O Mp v w w' := ⟨h.os, h.tape, h.output, h.size, fun i hi _ _ _ _ => h.block i hi⟩
theorem ButP.of_grown {N O Mp : Nat} {v : Value} {w w' : World} {row : Option Nat} (h : w.grownBy w' row) (hr : ∀ g, row = some g → g = N ∨ g = O ∨ g = Mp ∨ v.ownBlock = some g) : ButP N O Mp v w w' :=
  ⟨h.os, h.tape, h.output, h.size, fun i hi h1 h2 h3 h4 => h.block i hi (fun e => by rcases hr i e.symm with r | r | r | r <;> first | exact h1 r | exact h2 r | exact h3 r | exact h4 r)⟩
theorem ButP.trans {N O Mp : Nat} {v : Value} {a b c : World} (h : ButP N O Mp v a b) (k : ButP N O Mp v b c) : ButP N O Mp v a c :=
  ⟨k.os.trans h.os, k.tape.trans h.tape, k.output.trans h.output, Nat.le_trans h.size k.size, fun i hi h1 h2 h3 h4 => (k.block i (Nat.lt_of_lt_of_le hi h.size) h1 h2 h3 h4).trans (h.block i hi h1 h2 h3 h4)⟩
theorem ParSt.below {w w' : World} {B N S O Mp : Nat} {nv ov : Value} {l ss : List Str} (h : ParSt w B N S O Mp nv l ov ss) (hb : Below w.heap.size w w') (hd : DisP B N S O Mp) : ParSt w' B N S O Mp nv l ov ss := by
  have := h.big
  have := hd.n; have := hd.s; have := hd.o
  exact ⟨(hb.block _ (by omega)).trans h.now, (hb.block _ (by omega)).trans h.seen, (hb.block _ (by omega)).trans h.out, h.nown.below_ hb, h.oown.below_ hb, h.ap, World.ownsMap.kept h.map (below_grown hb none) (fun e => by cases e), h.max.below hb, Nat.le_trans h.big hb.size, h.good⟩
theorem ParSt.setNow {w : World} {B N S O Mp : Nat} {nv ov : Value} {l ss : List Str} (h : ParSt w B N S O Mp nv l ov ss) (hd : DisP B N S O Mp) : ParSt (w.setCell ⟨N, 0, none⟩ (.slice none 0 0)) B N S O Mp (.slice none 0 0) [] ov ss := by
  have hg := grown_setCell w N 0 (.slice none 0 0)
  have := h.big; have := hd.n; have := hd.s; have := hd.o
  exact ⟨one_set h.now _, (hg.block S (by omega) (fun e => hd.ns (Option.some.inj e).symm)).trans h.seen, (hg.block O (by omega) (fun e => hd.no (Option.some.inj e).symm)).trans h.out, Owns.nil _ _, h.oown.kept_ hg (fun i e => by have := Option.some.inj e; omega), apart_nil _, World.ownsMap.kept h.map hg (fun e => hd.nm (Option.some.inj e).symm), h.max.keep hd.gn hg, Nat.le_trans h.big hg.size, h.good⟩
def ClosPost (w : World) (B N S O Mp : Nat) (v0 : Value) (ss : List Str) (e : Ending) (w' : World) : Prop :=
  e = .returned (.tuple #[]) ∧ ∃ ov ss', ParSt w' B N S O Mp (.slice none 0 0) [] ov ss' ∧ ss'.length ≤ ss.length + 1 ∧ ButP N O Mp v0 w w'
set_option maxHeartbeats 3200000 in
set_option maxRecDepth 100000 in
theorem clos_any (B N S O Mp : Nat) (nv ov : Value) (l ss : List Str) (w : World) (h : ParSt w B N S O Mp nv l ov ss) (hd : DisP B N S O Mp) (hl : costT l ≤ 10000) (hss : ss.length ≤ 10000) :
    Calls Tryz.prog 64 #[.pointer (some ⟨N, 0, none⟩), .pointer (some ⟨S, 0, none⟩), .pointer (some ⟨O, 0, none⟩)] w (ClosPost w B N S O Mp ov ss) := by
  have HD := Lib.hid hd
  clear hd
  have HL := Lib.hid hl
  have HS := Lib.hid h
  have hll : l.length ≤ 10000 := Nat.le_trans (Nat.le_add_left _ _) hl
  have hjl := Nat.le_trans (joinD_cost 32 l) hl
  obtain ⟨A, c, rfl, hc, hat, _⟩ := h.nown.at_ strE_ok
  obtain ⟨n0, n1, n2⟩ := one_c h.now
  have HJ := Lib.hid (joinC_any A l.length c l 32 w hat (by omega) (by omega))
  clear hat hl h
  generalize Lib.join l [32] = jn at *
  have hbs : (bag jn).size ≤ 10000 := by rw [bag_size]; exact hjl
  have hdj : (bag jn).data.toList = jn := bag_data jn
  have hsl := singleL_len jn
  have HSG : Hid (∀ wx : World, MaxAt wx → Calls Tryz.prog 66 #[.string (bag jn)] wx fun e w' => e = .returned (.string (bag (singleL jn))) ∧ Below wx.heap.size wx w') := by
    intro wx hx
    have := single_any (bag jn) wx (by omega) hx
    rw [hdj] at this
    exact this
  generalize bag jn = bj at *
  generalize singleL jn = sj at *
  have hsz : (bag sj).size ≤ 10001 := by rw [bag_size]; omega
  have hds : (bag sj).data.toList = sj := bag_data sj
  have HLW : Hid (∀ wx : World, Calls Tryz.prog 65 #[.string (bag sj)] wx fun e w' => e = .returned (.string ⟨(sj.map lowB).toArray⟩) ∧ Below wx.heap.size wx w') := by
    intro wx
    have := lower_any (bag sj) wx (by omega)
    rw [hds] at this
    exact this
  have hll2 : (sj.map lowB).length ≤ 10001 := by rw [List.length_map]; omega
  generalize bag sj = bs at *
  generalize sj.map lowB = L at *
  clear hdj hds hsl hjl hsz hbs
  go_enter Tryz.func64, Tryz.ntmps64
  go_wp2_with fail
  refine HJ.out.mono ?_
  rintro e w1 ⟨rfl, hb1⟩
  have HS1 := Lib.hid (HS.out.below hb1 HD.out)
  have HB1 := Lib.hid hb1
  clear hb1 HJ n0 n1
  go_wp2_with fail
  refine (HSG.out w1 HS1.out.max).mono ?_
  rintro e w2 ⟨rfl, hb2⟩
  have HS2 := Lib.hid (HS1.out.below hb2 HD.out)
  have HB2 := Lib.hid (HB1.out.trans (hb2.mono HB1.out.size))
  clear hb2 HB1 HS1 HSG
  go_wp2_with fail
  refine (HLW.out w2).mono ?_
  rintro e w3 ⟨rfl, hb3⟩
  have HS3 := Lib.hid (HS2.out.below hb3 HD.out)
  have HB3 : Hid (ButP N O Mp ov w w3) := ButP.of_below (HB2.out.trans (hb3.mono HB2.out.size))
  clear hb3 HB2 HS2 HLW
  have h3 := HS3.out
  obtain ⟨m0, m1, m2⟩ := one_c h3.now
  obtain ⟨s0, s1, s2⟩ := one_c h3.seen
  obtain ⟨o0, o1, o2⟩ := one_c h3.out
  have hmap := h3.map
  clear h3
  have HE : Hid (∀ w4, w4 = w3.setCell ⟨N, 0, none⟩ (.slice none 0 0) → ∃ ov2 ss', ParSt w4 B N S O Mp (.slice none 0 0) [] ov2 ss' ∧ ss'.length ≤ ss.length + 1 ∧ ButP N O Mp ov w w4) := by
    rintro w4 rfl
    exact ⟨ov, ss, HS3.out.setNow HD.out, by omega, HB3.out.trans (ButP.of_grown (grown_setCell w3 N 0 _) (fun g e => .inl (Option.some.inj e).symm))⟩
  cases L with
  | nil =>
    clear hmap
    go_wp2_with fail
    go_end0
    exact ⟨rfl, HE.out _ rfl⟩
  | cons b L =>
    have hlk := hmap.look0 (⟨(b :: L).toArray⟩ : ByteArray) (show (bag (b :: L)).size ≤ _ by rw [bag_size]; omega)
    have hlk2 : (⟨(b :: L).toArray⟩ : ByteArray).data.toList = b :: L := rfl
    rw [hlk2] at hlk
    obtain ⟨bb, hbb⟩ : ∃ bb, ss.contains (b :: L) = bb := ⟨_, rfl⟩
    rw [hbb] at hlk
    have HBB := Lib.hid hbb
    have HMAP := Lib.hid hmap
    clear hbb hlk2 hmap
    cases bb with
    | true =>
      go_wp2_with fail
      go_end0
      exact ⟨rfl, HE.out _ rfl⟩
    | false =>
      have hsl : ss.length < maxLen := by simp only [maxLen]; omega
      have hkey := keyS_mk (⟨(b :: L).toArray⟩ : ByteArray) (show (bag (b :: L)).size ≤ _ by rw [bag_size]; omega)
      clear HE
      have HNE : Hid (ss.contains (b :: L) = false ∧ b :: L ≠ []) := ⟨HBB.out, by simp⟩
      clear HBB
      go_upto_region 2 with (fail)
      clear hlk
      generalize b :: L = x at *
      go_upto_region 3 with (at_mapUpdate; refine wpList_mapUpdate_own _ rfl _ _ _ 67 rfl 9 4 keyS Tryz.underlying67 _ Mp ss.length (setD ss) rfl HMAP.out hsl _ _ (.string x) rfl rfl hkey (.lit (.bool true)) [] (plainElem_bool Tryz.underlying4 true) ?_; intro w4 hown4 hgrow4; have HG4 := Lib.hid hgrow4; have HSET4 : Hid (SetAt w4 Mp (ss ++ [x])) := (by show World.ownsMap _ _ _ _ _ _ _; rw [setD_snoc, List.length_append]; exact hown4); have hOb4 := (hgrow4.block O o2 (fun e => HD.out.om (Option.some.inj e))).trans HS3.out.out; have HOb4 := Lib.hid hOb4; clear hown4 hgrow4 s0 s1 o0 o1 m0 m1; obtain ⟨o0, o1, o4⟩ := one_c HOb4.out; clear hOb4; have HOO4 := Lib.hid (HS3.out.oown.kept_ HG4.out (fun i e => by have := Option.some.inj e; have := HD.out.m; omega)))
      go_wp2_with (at_builtin; refine append_elems strE_ok rfl _ _ rfl B ov ss rfl (World.ownsRow.alloc HOO4.out _) (some ⟨w4.heap.size, 0, none⟩) 1 1 [x] rfl (one_elem (E := StrE) w4 x) (by simp; omega) (by have h1 := HG4.out.size; have h2 := HS3.out.big; simp; omega) ?_; intro v5 w5 hown5 hgrow5 hv5; have hat5 := hown5.at_ strE_ok; rw [show (ss ++ [x]).length = ss.length + 1 by simp] at hat5; obtain ⟨A5, c5, rfl, hc5, hat5', hG5'⟩ := hat5; clear hc5 hat5' hG5'; have HO5 := Lib.hid hown5; have HG5 : Hid ((w4.alloc (.cells #[.string ⟨x.toArray⟩] 9)).grownBy w5 ov.ownBlock) := hgrow5; have HV5 := Lib.hid hv5; have hgA := grown_alloc (World.grownBy.refl w4 none) (.cells #[.string ⟨x.toArray⟩] 9); have hgg5 : w4.grownBy w5 ov.ownBlock := grown_trans ⟨hgA.os, hgA.tape, hgA.output, hgA.size, fun i hi _ => hgA.block i hi (fun e => by cases e)⟩ HG5.out; have HGG5 := Lib.hid hgg5; have HOb5 := Lib.hid ((hgg5.block O o4 (fun e => by have := (HOO4.out.lt _ e.symm).1; have := HD.out.o; omega)).trans HOb4.out); clear hown5 hgrow5 hv5 hgA hgg5 o0 o1; obtain ⟨o0, o1, o5⟩ := one_c HOb5.out; have hNb5 := (HGG5.out.block N (by have := HG4.out.size; omega) (fun e => by have := (HOO4.out.lt _ e.symm).1; have := HD.out.n; omega)).trans ((HG4.out.block N m2 (fun e => HD.out.nm (Option.some.inj e))).trans HS3.out.now); have hNb6 := ((grown_setCell w5 O 0 (.slice A5 (ss.length + 1) c5)).block N (Array.getElem?_eq_some_iff.1 hNb5).1 (fun e => HD.out.no (Option.some.inj e))).trans hNb5; obtain ⟨q0, q1, q2⟩ := one_c hNb6; have HNb6 := Lib.hid hNb6; clear hNb5 hNb6)
      go_end0
      have gs := grown_setCell w5 O 0 (.slice A5 (ss.length + 1) c5)
      have hdn := HD.out.n
      have hds := HD.out.s
      have hdo := HD.out.o
      have hdm := HD.out.m
      have hz4 := HG4.out.size
      have hz5 := HGG5.out.size
      have hbg := HS3.out.big
      have hov : ∀ g, ov.ownBlock = some g → B ≤ g := fun g e => (HOO4.out.lt g e).1
      have hSb : (w5.setCell ⟨O, 0, none⟩ (.slice A5 (ss.length + 1) c5)).heap[S]? = some (.cells #[.map (some Mp)] 67 (0, 0)) :=
        (gs.block S (by omega) (fun e => HD.out.so (Option.some.inj e))).trans ((HGG5.out.block S (by omega) (fun e => by have := hov _ e.symm; omega)).trans ((HG4.out.block S (by omega) (fun e => HD.out.sm (Option.some.inj e))).trans HS3.out.seen))
      have hnw : Owns StrE (w5.setCell ⟨O, 0, none⟩ (.slice A5 (ss.length + 1) c5)) B (.slice A l.length c) l :=
        (Owns.apart HS3.out.ap.symm (HS3.out.nown.kept_ HG4.out (fun i e => by have := Option.some.inj e; omega)) HG5.out).kept_ gs (fun i e => by have := Option.some.inj e; omega)
      have how : Owns StrE (w5.setCell ⟨O, 0, none⟩ (.slice A5 (ss.length + 1) c5)) B (.slice A5 (ss.length + 1) c5) (ss ++ [x]) := HO5.out.kept_ gs (fun i e => by have := Option.some.inj e; omega)
      have hap : ApartV (.slice A l.length c) (.slice A5 (ss.length + 1) c5) := (ApartV.grow HS3.out.ap.symm (HS3.out.nown.kept_ HG4.out (fun i e => by have := Option.some.inj e; omega)) (o := .cells #[.string ⟨x.toArray⟩] 9) HV5.out).symm
      have hmp : SetAt (w5.setCell ⟨O, 0, none⟩ (.slice A5 (ss.length + 1) c5)) Mp (ss ++ [x]) := World.ownsMap.kept (World.ownsMap.kept HSET4.out HGG5.out (fun e => by have := hov _ e.symm; omega)) gs (fun e => HD.out.om (Option.some.inj e).symm)
      have hmx : MaxAt (w5.setCell ⟨O, 0, none⟩ (.slice A5 (ss.length + 1) c5)) := by
        have h4 := HS3.out.max.keep HD.out.gm HG4.out
        obtain ⟨q, hq⟩ := h4
        have h5 : MaxAt w5 := ⟨q, (World.cell?_of_block (HGG5.out.block _ (World.block_lt_of_cell? w4 _ hq) (fun e => by have := hov _ e.symm; have := HD.out.gn; simp at *; omega))).trans hq⟩
        exact h5.keep HD.out.go gs
      have fin : ParSt (w5.setCell ⟨O, 0, none⟩ (.slice A5 (ss.length + 1) c5)) B N S O Mp (.slice A l.length c) l (.slice A5 (ss.length + 1) c5) (ss ++ [x]) :=
        ⟨HNb6.out, hSb, one_set HOb5.out _, hnw, how, hap, hmp, hmx, by have := gs.size; omega, by
          have hg := HS3.out.good
          have hne := HNE.out
          refine ⟨?_, ?_⟩
          · rw [List.nodup_append]
            refine ⟨hg.1, by simp, ?_⟩
            intro a ha b hb e
            simp at hb
            subst hb
            subst e
            have := hne.1
            simp [ha] at this
          · intro hm
            rcases List.mem_append.1 hm with hm | hm
            · exact hg.2 hm
            · simp at hm; exact hne.2 hm⟩
      have gn := grown_setCell (w5.setCell ⟨O, 0, none⟩ (.slice A5 (ss.length + 1) c5)) N 0 (.slice none 0 0)
      have hzs := gs.size
      exact ⟨rfl, _, ss ++ [x], fin.setNow HD.out, by simp, (((HB3.out.trans (ButP.of_grown HG4.out (fun g e => .inr (.inr (.inl (Option.some.inj e).symm))))).trans (ButP.of_grown HGG5.out (fun g e => .inr (.inr (.inr e))))).trans (ButP.of_grown gs (fun g e => .inr (.inl (Option.some.inj e).symm)))).trans (ButP.of_grown gn (fun g e => .inl (Option.some.inj e).symm))⟩
end Go.Proofs.YtmaimojpjepmjaaGreatDoor
