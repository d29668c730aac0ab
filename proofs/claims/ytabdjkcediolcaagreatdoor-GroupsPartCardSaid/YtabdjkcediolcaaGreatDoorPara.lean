
/-
  What paragraphs and form return.
-/
import Derived.Test.YtabdjkcediolcaaGreatDoorFormPlain
import Derived.Test.YtabdjkcediolcaaGreatDoorNearShin
import Derived.Test.YtabdjkcediolcaaGreatDoorFault
import Derived.Test.YtabdjkcediolcaaGreatDoorOwnSet
namespace Go.Proofs.YtabdjkcediolcaaGreatDoor
open Go.RowKit

theorem joinC_any (A : Option Addr) (n c : Nat) (l : List Str) (d : UInt8) (w : World) (h : StrsAt w A n c l) (hn : n ≤ 100000) (hl : (Lib.join l [d]).length ≤ 1000000) :
    Calls Tryz.prog 38 #[.slice A n c, .string ⟨#[d]⟩] w fun e w' => e = .returned (.string (bag (Lib.join l [d]))) ∧ Below w.heap.size w w' := by
  have hnl := h.1
  rcases Nat.eq_zero_or_pos n with h0 | h0
  · subst h0
    have hl : l = [] := List.eq_nil_of_length_eq_zero hnl.symm
    subst hl
    refine (Tryz.strings_Join_none A c ⟨#[d]⟩ w).mono ?_
    rintro e w' ⟨rfl, rfl⟩
    exact ⟨rfl, Below.refl _ _⟩
  · obtain ⟨g, off, rfl, hg, hc⟩ := h.str h0
    subst hnl
    have hb := bags_data l
    have hj := Tryz.strings_Join g off c (l.map bag) ⟨#[d]⟩ w (fun j x hx => by
      have hjl : j < (l.map bag).length := (List.getElem?_eq_some_iff.1 hx).1
      rw [h.bags j hjl, List.getD_eq_getElem?_getD, hx]; rfl) hg (by simp; omega) (by simp; exact h.2.1) (by rw [hb]; show (Lib.join l [d]).length ≤ _; omega)
    rw [hb, List.length_map] at hj
    exact hj

theorem wordsL_lens (L : Str) : (Lib.join (wordsL L) [32]).length ≤ L.length := by
  rw [wordsL_go]
  have := wgo_size L []
  simpa using this
def FormPost (w : World) (p : List Str) (e : Ending) (w' : World) : Prop := e = .returned (.string (bag (formL p))) ∧ Below w.heap.size w w'
set_option maxHeartbeats 800000 in
theorem form_any (A : Option Addr) (n c : Nat) (p : List Str) (w : World) (h : StrsAt w A n c p) (hn : n ≤ 100000) (hl : (Lib.join p [10]).length ≤ 20000) :
    Calls Tryz.prog 31 #[.slice A n c] w (FormPost w p) := by
  have HJ : Hid (formL p = Lib.join (wordsL (Lib.join p [10])) [32]) := rfl
  have HL := Lib.hid (wordsL_lens (Lib.join p [10]))
  have HW := Lib.hid (words_le (Lib.join p [10]))
  go_enter Tryz.func31, Tryz.ntmps31
  go_wp2_with fail
  refine (joinC_any A n c p 10 w h hn (by omega)).mono ?_
  rintro e w1 ⟨rfl, hb1⟩
  generalize Lib.join p [10] = L at *
  go_wp2_with fail
  refine (words_any (bag L) w1 (by rw [bag_size]; exact hl)).mono ?_
  rintro e w2 ⟨v, rfl, hown, hb2⟩
  rw [bag_data] at hown
  obtain ⟨A5, c5, rfl, q1, hat, _⟩ := hown.at_ strE_ok
  have hb2' := below_trans' hb1 hb2
  have hwl : (wordsL L).length ≤ 100000 := by have := HW.out; omega
  have hjl : (Lib.join (wordsL L) [32]).length ≤ 1000000 := by have := HL.out; omega
  clear hown hb1 hb2 h
  go_wp2_with fail
  refine (joinC_any A5 _ c5 (wordsL L) 32 w2 hat hwl hjl).mono ?_
  rintro e w3 ⟨rfl, hb3⟩
  have hb3' := below_trans' hb2' hb3
  clear hat hb3 hb2'
  go_wp2_with fail
  go_ret
  exact ⟨by rw [HJ.out]; rfl, hb3'⟩

/-- Headers of slices of strings. -/
abbrev HdS := Option Addr × Nat × Nat
def HdS.v (r : HdS) : Value := .slice r.1 r.2.1 r.2.2
def LineE : Elem HdS := ⟨33, 68, 1, 24, .slice none 0 0, fun r => [r.v]⟩
theorem lineE_ok : LineE.Ok := ⟨fun _ => rfl, fun x u hu => by simp [LineE] at hu; subst hu; rfl, by decide, by decide, by kernel_rfl, by kernel_rfl, Tryz.underlying68⟩
/-- Two headers do not share a block. -/
def ApartH (r s : HdS) : Prop := r.v.ownBlock = none ∨ s.v.ownBlock ≠ r.v.ownBlock
structure ParasAt (w : World) (base : Nat) (v : Value) (rs : List HdS) (ps : List (List Str)) : Prop where
  own : Owns LineE w base v rs
  len : rs.length = ps.length
  each : ∀ (k : Nat) (r : HdS) (p : List Str), rs[k]? = some r → ps[k]? = some p → OwnStrs w base r.v p
  apart : rs.Pairwise ApartH
theorem line_ne : LineE.t ≠ StrE.t := by decide
theorem ParasAt.nil (w : World) (base : Nat) : ParasAt w base (.slice none 0 0) [] [] := ⟨Owns.nil _ _, rfl, fun k r p h => by simp at h, List.Pairwise.nil⟩
theorem ParasAt.below {w w' : World} {base : Nat} {v : Value} {rs : List HdS} {ps : List (List Str)} (h : ParasAt w base v rs ps) (hb : Below w.heap.size w w') : ParasAt w' base v rs ps :=
  ⟨h.own.below_ hb, h.len, fun k r p hr hp => (h.each k r p hr hp).below_ hb, h.apart⟩
/-- One more, that is empty. -/
theorem ParasAt.more {w w' : World} {base : Nat} {v v' : Value} {rs : List HdS} {ps : List (List Str)} (h : ParasAt w base v rs ps) (ho : Owns LineE w' base v' (rs ++ [(none, 0, 0)])) (hg : w.grownBy w' v.ownBlock) : ParasAt w' base v' (rs ++ [(none, 0, 0)]) (ps ++ [[]]) := by
  refine ⟨ho, by simp [h.len], fun k r p hr hp => ?_, ?_⟩
  · rcases Nat.lt_or_ge k rs.length with hk | hk
    · rw [List.getElem?_append_left hk] at hr
      rw [List.getElem?_append_left (by rw [← h.len]; exact hk)] at hp
      exact (h.each k r p hr hp).beside h.own line_ne hg
    · rw [List.getElem?_append_right hk] at hr
      rw [List.getElem?_append_right (by rw [← h.len]; exact hk)] at hp
      have hk0 : k - rs.length = 0 := by have := (List.getElem?_eq_some_iff.1 hr).1; simpa using this
      rw [hk0] at hr
      rw [h.len] at hk0
      rw [hk0] at hp
      simp at hr hp
      subst hr hp
      exact Owns.nil _ _
  · rw [List.pairwise_append]
    refine ⟨h.apart, List.pairwise_singleton _ _, fun r hr s hs => ?_⟩
    simp at hs
    subst hs
    cases hb : r.v.ownBlock with
    | none => exact .inl hb
    | some b => exact .inr (by rw [hb]; simp [HdS.v, Value.ownBlock])
/-- The last one gets a line. -/
theorem ParasAt.last {w w1 : World} {base : Nat} {v : Value} {rs : List HdS} {ps : List (List Str)} {r r' : HdS} {p p' : List Str} {G c n : Nat} (h : ParasAt w base v (rs ++ [r]) (ps ++ [p])) (hv : v = .slice (some ⟨G, 0, none⟩) n c)
    (ho : OwnStrs w1 base r'.v p') (hg : w.grownBy w1 r.v.ownBlock) (hnew : r'.v.ownBlock = r.v.ownBlock ∨ ∃ b, r'.v.ownBlock = some b ∧ w.heap.size ≤ b) :
    ParasAt (w1.setCell ⟨G, rs.length, none⟩ r'.v) base v (rs ++ [r']) (ps ++ [p']) := by
  subst hv
  have hlen : rs.length = ps.length := by have := h.len; simpa using this
  have hr := h.each rs.length r p (by simp) (by rw [hlen]; simp)
  have hO1 : Owns LineE w1 base (.slice (some ⟨G, 0, none⟩) n c) (rs ++ [r]) := h.own.beside hr line_ne.symm hg
  have hset := hO1.set_ lineE_ok rs.length r r' 0 r'.v (by simp) (by decide) rfl
  have e1 : rs.length * LineE.size + 0 = rs.length := by show rs.length * 1 + 0 = _; omega
  rw [e1, List.set_append_right _ _ (Nat.le_refl _)] at hset
  simp only [Nat.sub_self, List.set_cons_zero] at hset
  have hgs := grown_setCell w1 G rs.length r'.v
  have hkeep : ∀ (u : Value) (q : List Str), OwnStrs w1 base u q → OwnStrs (w1.setCell ⟨G, rs.length, none⟩ r'.v) base u q := fun u q hq => hq.beside hO1 line_ne hgs
  refine ⟨hset, by simp [hlen], fun k x q hx hq => ?_, ?_⟩
  · rcases Nat.lt_or_ge k rs.length with hk | hk
    · rw [List.getElem?_append_left hk] at hx
      rw [List.getElem?_append_left (by omega)] at hq
      have hold := h.each k x q (by rw [List.getElem?_append_left hk]; exact hx) (by rw [List.getElem?_append_left (by omega)]; exact hq)
      have hap := (List.pairwise_append.1 h.apart).2.2 x (List.mem_of_getElem? hx) r (by simp)
      refine hkeep _ _ (World.ownsRow.kept hold hg ?_)
      rcases hap with h1 | h1
      · exact .inl h1
      · exact .inr (fun e => h1 e.symm)
    · rw [List.getElem?_append_right hk] at hx
      rw [List.getElem?_append_right (by omega)] at hq
      have hk0 : k - rs.length = 0 := by have := (List.getElem?_eq_some_iff.1 hx).1; simpa using this
      rw [hk0] at hx
      rw [show k - ps.length = 0 by omega] at hq
      simp at hx hq
      subst hx hq
      exact hkeep _ _ ho
  · have ha := List.pairwise_append.1 h.apart
    rw [List.pairwise_append]
    refine ⟨ha.1, List.pairwise_singleton _ _, fun x hx s hs => ?_⟩
    simp at hs
    subst hs
    have hap := ha.2.2 x hx r (by simp)
    rcases hnew with hn | ⟨b, hn, hb⟩
    · unfold ApartH; rw [hn]; exact hap
    · obtain ⟨k, hk⟩ := List.getElem?_of_mem hx
      have hkl := (List.getElem?_eq_some_iff.1 hk).1
      obtain ⟨q, hq⟩ : ∃ q, ps[k]? = some q := ⟨_, List.getElem?_eq_getElem (by omega)⟩
      have hold := h.each k x q (by rw [List.getElem?_append_left hkl]; exact hk) (by rw [List.getElem?_append_left (by omega)]; exact hq)
      cases hxb : x.v.ownBlock with
      | none => exact .inl hxb
      | some d =>
        have := (hold.lt d hxb).2
        refine .inr ?_
        rw [hn, hxb]
        intro e
        injection e with e
        omega
end Go.Proofs.YtabdjkcediolcaaGreatDoor
