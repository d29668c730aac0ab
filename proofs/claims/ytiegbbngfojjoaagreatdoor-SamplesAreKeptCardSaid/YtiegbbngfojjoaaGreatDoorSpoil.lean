
/-
  Lists whose strings may be anything: what spoil leaves; slices.Concat at two tables.
-/
import Derived.Test.YtiegbbngfojjoaaGreatDoorTab
import Derived.Test.YtiegbbngfojjoaaGreatDoorShelfB
namespace Go.Proofs.YtiegbbngfojjoaaGreatDoor
open Go.RowKit

theorem own_spoilS {w : World} {B S j : Nat} {v : Value} {l : List (List UInt8)} (h : OwnStrs w B v l) (t : List UInt8) : ∃ l', OwnStrs (w.setCell ⟨S, j, none⟩ (.string ⟨t.toArray⟩)) B v l' ∧ l'.length = l.length := by
  obtain ⟨h1, h2⟩ := h
  rcases h2 with ⟨e, hn⟩ | ⟨g, cap, cur, e, hb, hh, hc1, hc2, hsz, htk⟩
  · exact ⟨l, ⟨h1, .inl ⟨e, hn⟩⟩, rfl⟩
  · by_cases hg : g = S
    · subst hg
      have hcl : StrE.cells (l.set j t) = (StrE.cells l).set j (.string ⟨t.toArray⟩) := by
        rw [strE_cells, strE_cells, List.map_set, List.map_set]; rfl
      refine ⟨l.set j t, ⟨by rw [hcl, List.length_set, List.length_set]; exact h1, .inr ⟨g, cap, cur.setIfInBounds j (.string ⟨t.toArray⟩), by rw [List.length_set]; exact e, hb, ?_, by rw [List.length_set]; exact hc1, hc2, by rw [Array.size_setIfInBounds]; exact hsz, ?_⟩⟩, List.length_set⟩
      · simp [World.setCell, Array.getElem?_modify, hh]
      · rw [hcl, ← htk, List.length_set, Array.toList_setIfInBounds, List.take_set]
    · exact ⟨l, ⟨h1, .inr ⟨g, cap, cur, e, hb, (Below.heap_setCell w ⟨S, j, none⟩ _ g hg).trans hh, hc1, hc2, hsz, htk⟩⟩, rfl⟩
abbrev spoiltB : List UInt8 := [115, 112, 111, 105, 108, 116]
/-- Strings were written into blocks from base on, and nothing else was done. -/
structure Spo (base : Nat) (w w' : World) : Prop where
  strs : ∀ (B : Nat) (v : Value) (l : List (List UInt8)), OwnStrs w B v l → ∃ l', OwnStrs w' B v l' ∧ l'.length = l.length
  tab : ∀ (B : Nat) (v : Value) (rs : List HdS), Owns LineE w B v rs → Owns LineE w' B v rs
  below : Below base w w'
theorem Spo.refl (base : Nat) (w : World) : Spo base w w := ⟨fun _ _ l h => ⟨l, h, rfl⟩, fun _ _ _ h => h, Below.refl _ _⟩
theorem Spo.trans {base : Nat} {a b c : World} (h : Spo base a b) (k : Spo base b c) : Spo base a c :=
  ⟨fun B v l hl => by
    obtain ⟨l1, h1, n1⟩ := h.strs B v l hl
    obtain ⟨l2, h2, n2⟩ := k.strs B v l1 h1
    exact ⟨l2, h2, n2.trans n1⟩, fun B v rs hr => k.tab B v rs (h.tab B v rs hr), h.below.trans k.below⟩
theorem Spo.set {base S n c j : Nat} {w : World} {l : List (List UInt8)} (h : OwnStrs w base (.slice (some ⟨S, 0, none⟩) n c) l) (hb : base ≤ S) : Spo base w (w.setCell ⟨S, j, none⟩ (.string ⟨spoiltB.toArray⟩)) :=
  ⟨fun _ _ _ hl => own_spoilS hl spoiltB, fun _ _ _ hr => Owns.beside hr h (Ne.symm line_ne) (grown_setCell w S j _), (Below.refl _ _).setCell hb _⟩

set_option maxHeartbeats 800000 in
set_option maxRecDepth 100000 in
theorem spoil_any (base n c : Nat) (A : Option Addr) (l : List (List UInt8)) (w : World) (h : OwnStrs w base (.slice A n c) l) (hl : l.length ≤ 1000) :
    Calls Tryz.prog 11 #[.slice A n c] w fun e w' => e = .returned (.tuple #[]) ∧ Spo base w w' := by
  have hn : n = l.length := by
    obtain ⟨A', c', e, _⟩ := h.at_ strE_ok
    simp only [Value.slice.injEq] at e
    exact e.2.1
  have HO := Lib.hid h
  have hnl : n ≤ 1000 := by omega
  have HNL := Lib.hid hn
  clear h hn hl
  go_enter Tryz.func11, Tryz.ntmps11
  go_wp2_with fail
  go_loopg [5] n (fun gk v wr => ∃ k : Nat, Hid (k + gk = n) ∧ v = .int .i64 (k : Int) ∧ Hid (Spo base w wr))
  case atStart => exact ⟨0, show 0 + n = n by omega, rfl, Spo.refl _ _⟩
  case round =>
    obtain ⟨k, HK, rfl, HS⟩ := hrel
    have hkn : k ≤ n := by have := HK.out; omega
    by_cases hlt : k < n
    · obtain ⟨l', ho', hl'⟩ := HS.out.strs _ _ _ HO.out
      have hnl' : n = l'.length := by rw [hl']; exact HNL.out
      obtain ⟨S, c', e, hb, hsz, hc⟩ := Owns.where_ strE_ok ho' (by omega)
      simp only [Value.slice.injEq] at e
      obtain ⟨rfl, _, rfl⟩ := e
      have hk : l'[k]? = some (l'[k]'(by omega)) := List.getElem?_eq_getElem (by omega)
      have hcj := hc k _ 0 _ hk rfl
      have e2 : k * StrE.size + 0 = k := by show k * 1 + 0 = k; omega
      rw [e2] at hcj
      obtain ⟨hc0, hc1⟩ := hcj
      have HS2 : Hid (Spo base w (wr.setCell ⟨S, k, none⟩ (.string ⟨spoiltB.toArray⟩))) := HS.out.trans (Spo.set ho' hb)
      generalize l'[k]'(by omega) = x at *
      clear hc hk e2 ho' hl' hnl' hsz hb HS
      go_wp2_with fail
      go_roundg (gk - 1)
      case measure => have := HK.out; omega
      case rel => exact ⟨k + 1, show k + 1 + (gk - 1) = n by have := HK.out; omega, by go_num, HS2.out⟩
    · have hnk : ¬ (k : Int) < (n : Int) := by omega
      go_wp2_with fail
      go_end0
      exact ⟨rfl, HS.out⟩

theorem growT_some (n : Nat) (w : World) (h0 : 0 < n) (h1 : n ≤ 100000) : Calls Tryz.prog 80 #[.slice none 0 0, .int .i64 (n : Int)] w fun e w' => ∃ v, e = .returned v ∧ Owns LineE w' w.heap.size v [] ∧ Below w.heap.size w w' := by
  obtain ⟨i0, hi, hz0, hz1, hz2⟩ := info_parts lineE_ok.info
  have hb1 : i0.bytes = 24 := hz2
  have hs1 : i0.size = 1 := hz1
  refine (Any8.slices_Grow_grow Tryz.grQ80 i0 _ hi hz0 (by omega) none 0 0 n [] w (by omega) (by omega) (by rw [hb1]; omega) (by omega) (by simp) (fun _ => rfl) (fun a ha => by cases ha)).mono ?_
  rintro e w' ⟨rfl, rfl⟩
  refine ⟨_, rfl, ?_, (Below.refl _ _).drew.alloc (Nat.le_refl _) _⟩
  have hcm := grownCap_le_maxLen w (0 + n) 0 32 (by simp only [maxLen]; omega)
  have hcap := grownCap_ge w (0 + n) 0 32
  refine World.ownsRow_made (base := w.heap.size) w.drew _ _ (Nat.le_refl _) hcm ?_
  simp only [Array.size_append, List.size_toArray, size_zeroCells, List.length_nil]
  show 0 + (0 + n - 0) * 1 + (grownCap w (0 + n) 0 32 - (0 + n)) * 1 = grownCap w (0 + n) 0 32 * 1
  omega
theorem growT_any (n : Nat) (w : World) (h1 : n ≤ 100000) : Calls Tryz.prog 80 #[.slice none 0 0, .int .i64 (n : Int)] w fun e w' => ∃ v, e = .returned v ∧ Owns LineE w' w.heap.size v [] ∧ Below w.heap.size w w' := by
  rcases Nat.eq_zero_or_pos n with h0 | h0
  · subst h0
    exact (Any8.slices_Grow_room Tryz.grQ80 none 0 0 0 w (by omega) (by omega) (by omega) (by omega)).mono fun _ _ ⟨he, hw⟩ => ⟨_, he, Owns.nil _ _, by rw [hw]; exact Below.refl _ _⟩
  · exact growT_some n w h0 h1
theorem flatT_next {α : Type} (T : List (List α)) (k : Nat) (h : k < T.length) : (T.take (k + 1)).flatten = (T.take k).flatten ++ T.getD k [] := by
  rw [List.take_succ_eq_append_getElem h, List.flatten_append, List.getD_eq_getElem?_getD, List.getElem?_eq_getElem h]
  simp
theorem flatT_take_le {α : Type} (T : List (List α)) (k : Nat) : (T.take k).flatten.length ≤ T.flatten.length := by
  conv => rhs; rw [← List.take_append_drop k T, List.flatten_append, List.length_append]
  omega
/-- Some tables' headers lie in block g. -/
def TabsAt (w : World) (g : Nat) (T : List (List HdS)) : Prop := g < w.heap.size ∧ ∀ k, k < T.length → ∃ R rn rc, w.cell? ⟨g, k, none⟩ = some (.slice R rn rc) ∧ ElemsAt LineE w R rn rc (T.getD k [])
theorem TabsAt.keep {w w' : World} {g : Nat} {T : List (List HdS)} (h : TabsAt w g T) (hb : Below w.heap.size w w') : TabsAt w' g T := by
  refine ⟨Nat.lt_of_lt_of_le h.1 hb.size, fun k hk => ?_⟩
  obtain ⟨R, rn, rc, h1, h2⟩ := h.2 k hk
  exact ⟨R, rn, rc, (hb.cell (p := ⟨g, k, none⟩) h.1).trans h1, h2.keep hb⟩
def ConcatTPost (w : World) (T : List (List HdS)) (e : Ending) (w' : World) : Prop := ∃ v, e = .returned v ∧ Owns LineE w' w.heap.size v T.flatten ∧ Below w.heap.size w w'
set_option maxHeartbeats 3200000 in
set_option maxRecDepth 100000 in
theorem concatTab_any (g n c : Nat) (T : List (List HdS)) (w : World) (h : TabsAt w g T) (hT : T.length = n) (hn : n ≤ 100000) (hf : T.flatten.length ≤ 50000) :
    Calls Tryz.prog 34 #[.slice (some ⟨g, 0, none⟩) n c] w (ConcatTPost w T) := by
  have HN : Hid (n = T.length) := hT.symm
  have HH := Lib.hid h
  have HTF : Hid (∀ k, (T.take k).flatten.length ≤ 50000) := fun k => Nat.le_trans (flatT_take_le T k) hf
  clear h hf hT
  go_enter Tryz.func34, Tryz.ntmps34
  go_wp2_with fail
  go_loopg [3, 11] n (fun gk v3 v11 wr => ∃ k : Nat, Hid (k + gk = n) ∧ v11 = .int .i64 (k : Int) ∧ v3 = .int .i64 (((T.take k).flatten.length : Nat) : Int) ∧ Hid (wr = w))
  case atStart => exact ⟨0, show 0 + n = n by omega, rfl, rfl, show _ = _ from rfl⟩
  case round =>
    obtain ⟨k, HK, rfl, rfl, HWR⟩ := hrel
    have hkn : k ≤ n := by have := HK.out; omega
    have hfl := HTF.out k
    by_cases hlt : k < n
    · have hg := HH.out.1
      have hkl : k < T.length := by rw [← HN.out]; exact hlt
      obtain ⟨R, rn, rc, hck, hRow⟩ := HH.out.2 k hkl
      have hrn : rn = (T.getD k []).length := hRow.1
      have HFN : Hid ((T.take (k + 1)).flatten.length = (T.take k).flatten.length + rn) := by show _ = _; rw [flatT_next T k hkl, List.length_append, hrn]
      have hf2 := HTF.out (k + 1)
      rw [HFN.out] at hf2
      have hck2 : wr.cell? ⟨g, k, none⟩ = some (.slice R rn rc) := by rw [HWR.out]; exact hck
      clear hRow hrn hck
      generalize (T.take k).flatten.length = fl at *
      go_wp2_with fail
      go_roundg (gk - 1)
      case measure => have := HK.out; omega
      case rel => exact ⟨k + 1, show k + 1 + (gk - 1) = n by have := HK.out; omega, by go_num, by rw [HFN.out]; go_num, HWR⟩
    · have hta : T.take k = T := List.take_of_length_le (by have := HN.out; omega)
      rw [hta] at hfl ⊢
      obtain rfl := HWR.out
      have HG := Lib.hid (growT_any T.flatten.length wr (by omega))
      have HFL : Hid (T.flatten.length ≤ 50000) := hfl
      obtain ⟨gko, rfl⟩ : ∃ gko : Nat, gko = gk := ⟨_, rfl⟩
      obtain ⟨w0, rfl⟩ : ∃ w0 : World, w0 = wr := ⟨_, rfl⟩
      clear hta HK
      generalize hfg : T.flatten.length = fl at *
      have HFG := Lib.hid hfg
      clear hfg
      go_wp2_with fail
      refine HG.out.mono ?_
      rintro e w1 ⟨v1, rfl, hown1, hb1⟩
      have HO1 := Lib.hid hown1
      have HB1 := Lib.hid hb1
      clear hown1 hb1 HG
      go_wp2_with fail
      go_loopg [6, 27] n (fun gk v6 v27 wr => ∃ k : Nat, Hid (k + gk = n) ∧ v27 = .int .i64 (k : Int) ∧ Hid (Owns LineE wr w0.heap.size v6 (T.take k).flatten) ∧ Hid (Below w0.heap.size w0 wr))
      case atStart => exact ⟨0, show 0 + n = n by omega, rfl, HO1.out, HB1.out⟩
      case round =>
        obtain ⟨k, HK, rfl, HO, HB⟩ := hrel
        have hkn : k ≤ n := by have := HK.out; omega
        have hzb := HB.out.size
        by_cases hlt : k < n
        · have hkl : k < T.length := by rw [← HN.out]; exact hlt
          obtain ⟨R, rn, rc, hck, hRow⟩ := (HH.out.keep HB.out).2 k hkl
          have HFN := Lib.hid (flatT_next T k hkl)
          have hf2 := HTF.out (k + 1)
          rw [HFN.out, List.length_append] at hf2
          have HROW := Lib.hid hRow
          clear hRow
          generalize T.getD k [] = p at *
          generalize (T.take k).flatten = F at *
          go_wp2_with (at_builtin; refine append_elems lineE_ok rfl _ _ rfl w0.heap.size _ F rfl HO.out R rn rc p rfl HROW.out (by omega) (by omega) ?_; intro v7 w7 hown7 hgrow7 _)
          have HO7 : Hid (Owns LineE w7 w0.heap.size v7 (T.take (k + 1)).flatten) := by show Owns _ _ _ _ _; rw [HFN.out]; exact hown7
          have HB7 := Lib.hid (HB.out.grown hgrow7 (by omega) (fun i hi => (HO.out.lt i hi).1))
          clear hown7 hgrow7
          go_wp2_with fail
          go_roundg (gk - 1)
          case measure => have := HK.out; omega
          case rel => exact ⟨k + 1, show k + 1 + (gk - 1) = n by have := HK.out; omega, by go_num, HO7.out, HB7.out⟩
        · have hta : T.take k = T := List.take_of_length_le (by have := HN.out; omega)
          rw [hta] at HO
          have HF : Hid (ConcatTPost w0 T (.returned u6) wr) := ⟨u6, rfl, HO.out, HB.out⟩
          clear hta
          go_wp2_with fail
          go_ret
          exact HF.out
end Go.Proofs.YtiegbbngfojjoaaGreatDoor
