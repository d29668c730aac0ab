
/-
  Deeds and right lists of them, in plain lists: what adding, merging and cutting keep.
-/
import Derived.Test.YthogkcgklakibaaGreatDoorElems
import Derived.Test.YthogkcgklakibaaGreatDoorFaultPlain
import Derived.Test.YthogkcgklakibaaGreatDoorItemFn
import Derived.Test.YthogkcgklakibaaGreatDoorItxPlain
import Derived.Test.YthogkcgklakibaaGreatDoorDigAnyD
namespace Go.Proofs.YthogkcgklakibaaGreatDoor
open Go.RowKit

/-- A deed. -/
structure Deed where
  site : ByteArray
  no : Int
  at_ : Int
  kind : Int
  id : ByteArray
  fld : ByteArray
  val : ByteArray
  from_ : Int
  to_ : Int
  osite : ByteArray
  ono : Int
  sum : ByteArray
def byteL (b : ByteArray) : List UInt8 := b.data.toList
theorem byteL_inj {a b : ByteArray} (h : byteL a = byteL b) : a = b := ByteArray.ext (Array.toList_inj.1 h)
/-- The order of stamps. -/
def StLt (a b : Deed) : Prop := byteL a.site < byteL b.site ∨ (a.site = b.site ∧ a.no < b.no)
theorem StLt.trans {a b c : Deed} (h : StLt a b) (k : StLt b c) : StLt a c := by
  rcases h with h | ⟨h, h'⟩ <;> rcases k with k | ⟨k, k'⟩
  · exact .inl (List.lt_trans h k)
  · exact .inl (by rw [← k]; exact h)
  · exact .inl (by rw [h]; exact k)
  · exact .inr ⟨h.trans k, by omega⟩
theorem StLt.irr (a : Deed) : ¬ StLt a a := by
  rintro (h | ⟨-, h⟩)
  · exact List.lt_irrefl _ h
  · omega
theorem StLt.asym {a b : Deed} (h : StLt a b) : ¬ StLt b a := fun k => StLt.irr a (h.trans k)
theorem StLt.tot (a b : Deed) : StLt a b ∨ (a.site = b.site ∧ a.no = b.no) ∨ StLt b a := by
  by_cases h1 : byteL a.site < byteL b.site
  · exact .inl (.inl h1)
  by_cases h2 : byteL b.site < byteL a.site
  · exact .inr (.inr (.inl h2))
  have e : a.site = b.site := byteL_inj (List.le_antisymm (List.not_lt.1 h2) (List.not_lt.1 h1))
  by_cases h3 : a.no < b.no
  · exact .inl (.inr ⟨e, h3⟩)
  by_cases h4 : b.no < a.no
  · exact .inr (.inr (.inr ⟨e.symm, h4⟩))
  exact .inr (.inl ⟨e, by omega⟩)
/-- The words of a sum. -/
def dashD (b : ByteArray) : List UInt8 := if byteL b = [] then [45] else byteL b
def decD (z : Int) : List UInt8 := Lib.decDigits z.toNat
def wordsD (before : ByteArray) (d : Deed) : List (List UInt8) := [byteL before, byteL d.site, decD d.no, decD d.at_, decD d.kind, dashD d.id, dashD d.fld, quoS (byteL d.val), decD d.from_, decD d.to_, dashD d.osite, decD d.ono]
def sumD (before : ByteArray) (d : Deed) : ByteArray := dgB (Lib.join (wordsD before d) [32])
def backB (k : Int) : Bool := decide (k = 3) || decide (k = 6)
def zeroB : ByteArray := ⟨#[]⟩
/-- What a deed says is right. -/
structure GoodD (d : Deed) : Prop where
  at_ : 0 ≤ d.at_ ∧ d.at_ ≤ 5761439
  kind : 1 ≤ d.kind ∧ d.kind ≤ 6
  id : if backB d.kind = true then d.id = zeroB else keyL (byteL d.id) = true
  fld : if d.kind = 1 then keyL (byteL d.fld) = true else d.fld = zeroB
  val : if d.kind = 1 then plainB (byteL d.val) = true ∧ d.val.size ≤ 60 else if d.kind = 2 then keyL (byteL d.val) = true else if d.kind = 5 then plainB (byteL d.val) = true ∧ 1 ≤ d.val.size ∧ d.val.size ≤ 200 else d.val = zeroB
  span : if d.kind = 4 then 0 ≤ d.from_ ∧ d.from_ < d.to_ ∧ d.to_ ≤ 20000 else d.from_ = 0 ∧ d.to_ = 0
  of_ : backB d.kind = false → d.osite = zeroB ∧ d.ono = 0
/-- One deed may be about another one. -/
def PermD (d x : Deed) : Prop := if d.kind = 3 then x.kind = 2 ∨ x.kind = 4 else (x.kind = 1 ∨ x.kind = 5 ∨ x.kind = 3) ∧ x.site = d.site ∧ x.no < d.no
/-- A deed goes on from one of a list. -/
structure PredD (l : List Deed) (d : Deed) : Prop where
  pos : 1 ≤ d.no
  first : d.no = 1 → d.sum = sumD zeroB d
  next : 1 < d.no → ∃ p ∈ l, p.site = d.site ∧ p.no + 1 = d.no ∧ d.sum = sumD p.sum d
theorem PredD.more {l l' : List Deed} {d : Deed} (h : PredD l d) (hs : ∀ x ∈ l, x ∈ l') : PredD l' d :=
  ⟨h.pos, h.first, fun h1 => by obtain ⟨p, hp, h2⟩ := h.next h1; exact ⟨p, hs p hp, h2⟩⟩
def OfD (l : List Deed) (d : Deed) : Prop := backB d.kind = true → ∃ x ∈ l, x.site = d.osite ∧ x.no = d.ono ∧ PermD d x
/-- A right list of deeds. -/
structure RightD (l : List Deed) : Prop where
  few : l.length ≤ 2000
  ord : l.Pairwise StLt
  key : ∀ d ∈ l, keyL (byteL d.site) = true
  good : ∀ d ∈ l, GoodD d
  pred : ∀ d ∈ l, PredD l d
  ofs : ∀ d ∈ l, OfD l d
theorem RightD.nil : RightD [] := ⟨Nat.zero_le _, List.Pairwise.nil, fun _ h => by (cases h), fun _ h => by (cases h), fun _ h => by (cases h), fun _ h => by (cases h)⟩
/-- In a list in order, equal stamps are those of one deed. -/
theorem ord_uniq {l : List Deed} (h : l.Pairwise StLt) {a b : Deed} (ha : a ∈ l) (hb : b ∈ l) (hs : a.site = b.site) (hn : a.no = b.no) : a = b := by
  induction l with
  | nil => cases ha
  | cons x l ih =>
    obtain ⟨h1, h2⟩ := List.pairwise_cons.1 h
    rcases List.mem_cons.1 ha with e1 | ha' <;> rcases List.mem_cons.1 hb with e2 | hb'
    · rw [e1, e2]
    · subst e1
      rcases h1 b hb' with k | ⟨-, k⟩
      · rw [hs] at k; exact absurd k (List.lt_irrefl _)
      · omega
    · subst e2
      rcases h1 a ha' with k | ⟨-, k⟩
      · rw [hs] at k; exact absurd k (List.lt_irrefl _)
      · omega
    · exact ih h2 ha' hb'
theorem ord_nodup {l : List Deed} (h : l.Pairwise StLt) : l.Nodup := h.imp fun {a b} hab e => by subst e; exact StLt.irr _ hab
/-- Lists in order with the same deeds are the same. -/
theorem ord_ext : ∀ {l l' : List Deed}, l.Pairwise StLt → l'.Pairwise StLt → (∀ d, d ∈ l ↔ d ∈ l') → l = l'
  | [], [], _, _, _ => rfl
  | [], b :: l', _, _, hm => absurd ((hm b).2 (List.mem_cons_self ..)) (by simp)
  | a :: l, [], _, _, hm => absurd ((hm a).1 (List.mem_cons_self ..)) (by simp)
  | a :: l, b :: l', h, h', hm => by
    obtain ⟨h1, h2⟩ := List.pairwise_cons.1 h
    obtain ⟨h1', h2'⟩ := List.pairwise_cons.1 h'
    have e : a = b := by
      rcases List.mem_cons.1 ((hm a).1 (List.mem_cons_self ..)) with e | ha
      · exact e
      · rcases List.mem_cons.1 ((hm b).2 (List.mem_cons_self ..)) with e | hb
        · exact e.symm
        · exact absurd (h1 b hb) (StLt.asym (h1' a ha))
    subst e
    congr 1
    refine ord_ext h2 h2' fun d => ⟨fun hd => ?_, fun hd => ?_⟩
    · rcases List.mem_cons.1 ((hm d).1 (List.mem_cons_of_mem _ hd)) with e | k
      · subst e; exact absurd (h1 d hd) (StLt.irr _)
      · exact k
    · rcases List.mem_cons.1 ((hm d).2 (List.mem_cons_of_mem _ hd)) with e | k
      · subst e; exact absurd (h1' d hd) (StLt.irr _)
      · exact k
/-- A list in order is a permutation of one only. -/
theorem ord_perm {l l' : List Deed} (h : l.Pairwise StLt) (h' : l'.Pairwise StLt) (hp : l.Perm l') : l = l' := ord_ext h h' fun _ => hp.mem_iff
/-- The step from one deed of a right list to the next one. -/
theorem RightD.step {l : List Deed} (h : RightD l) {k : Nat} {d : Deed} (hd : l[k]? = some d) (p : Deed) (hp : 0 < k → l[k - 1]? = some p) :
    (0 < k → StLt p d) ∧ (if 0 < k ∧ p.site = d.site then d.no = p.no + 1 ∧ d.sum = sumD p.sum d else d.no = 1 ∧ d.sum = sumD zeroB d) := by
  have hk : k < l.length := (List.getElem?_eq_some_iff.1 hd).1
  have hmem := List.mem_of_getElem? hd
  have hord := List.pairwise_iff_getElem.1 h.ord
  have lt_of : ∀ i j x y, l[i]? = some x → l[j]? = some y → i < j → StLt x y := fun i j x y hx hy hij => by
    obtain ⟨hi, rfl⟩ := List.getElem?_eq_some_iff.1 hx
    obtain ⟨hj, rfl⟩ := List.getElem?_eq_some_iff.1 hy
    exact hord i j hi hj hij
  have hpr := h.pred d hmem
  have idx : ∀ q ∈ l, StLt q d → ∃ j, j < k ∧ l[j]? = some q := fun q hq hlt => by
    obtain ⟨j, hj⟩ := List.getElem?_of_mem hq
    refine ⟨j, ?_, hj⟩
    rcases Nat.lt_trichotomy j k with h1 | h1 | h1
    · exact h1
    · subst h1; rw [hj] at hd; cases hd; exact absurd hlt (StLt.irr _)
    · exact absurd hlt (StLt.asym (lt_of k j d q hd hj h1))
  have pd : 0 < k → StLt p d := fun h0 => lt_of (k - 1) k p d (hp h0) hd (by omega)
  refine ⟨pd, ?_⟩
  have hpos := hpr.pos
  have hnx : 1 < d.no → 0 < k ∧ p.site = d.site ∧ p.no + 1 = d.no ∧ d.sum = sumD p.sum d := fun h1 => by
    obtain ⟨q, hq, hqs, hqn, hsum⟩ := hpr.next h1
    have hlt : StLt q d := .inr ⟨hqs, by omega⟩
    obtain ⟨j, hj, hjq⟩ := idx q hq hlt
    have h0 : 0 < k := by omega
    have e : q = p := by
      rcases Nat.lt_or_ge j (k - 1) with h2 | h2
      · exfalso
        have a1 := lt_of j (k - 1) q p hjq (hp h0) h2
        rcases a1 with a1 | ⟨a1, a1'⟩
        · rcases pd h0 with b1 | ⟨b1, b1'⟩
          · rw [hqs] at a1; exact List.lt_irrefl _ (List.lt_trans a1 b1)
          · rw [hqs, b1] at a1; exact List.lt_irrefl _ a1
        · rcases pd h0 with b1 | ⟨b1, b1'⟩
          · rw [← a1, hqs] at b1; exact List.lt_irrefl _ b1
          · omega
      · have : j = k - 1 := by omega
        subst this
        have := hp h0
        rw [hjq] at this
        exact Option.some.inj this
    subst e
    exact ⟨h0, hqs, hqn, hsum⟩
  by_cases h1 : 1 < d.no
  · obtain ⟨h0, hs, hn, hsum⟩ := hnx h1
    rw [if_pos ⟨h0, hs⟩]
    exact ⟨by omega, hsum⟩
  · have hn1 : d.no = 1 := by omega
    rw [if_neg]
    · exact ⟨hn1, hpr.first hn1⟩
    · rintro ⟨h0, hs⟩
      rcases pd h0 with b1 | ⟨-, b1⟩
      · rw [hs] at b1; exact List.lt_irrefl _ b1
      · have := (h.pred p (List.mem_of_getElem? (hp h0))).pos
        omega
/-- The tip of a site: the number and the sum of its last deed. -/
def tipD (l : List Deed) (site : ByteArray) : Int × ByteArray := l.foldl (fun a d => if byteL d.site = byteL site then (d.no, d.sum) else a) (0, zeroB)
theorem tipD_snoc (l : List Deed) (d : Deed) (s : ByteArray) : tipD (l ++ [d]) s = if byteL d.site = byteL s then (d.no, d.sum) else tipD l s := by
  unfold tipD
  rw [List.foldl_append]
  rfl
theorem tip_all : ∀ (n : Nat) (l : List Deed), l.length = n → l.Pairwise StLt → ∀ s, (∀ d ∈ l, d.site = s → d.no ≤ (tipD l s).1) ∧ ((∃ t ∈ l, t.site = s ∧ tipD l s = (t.no, t.sum)) ∨ (tipD l s = (0, zeroB) ∧ ∀ d ∈ l, d.site ≠ s)) := by
  intro n
  induction n with
  | zero =>
    intro l hl _ s
    obtain rfl := List.eq_nil_of_length_eq_zero hl
    exact ⟨fun d hd => by (cases hd), .inr ⟨rfl, fun d hd => by (cases hd)⟩⟩
  | succ n ih =>
    intro l hl ho s
    obtain ⟨l0, x, rfl⟩ : ∃ l0 x, l = l0 ++ [x] := ⟨l.dropLast, l.getLast (by intro e; rw [e] at hl; cases hl), (List.dropLast_concat_getLast _).symm⟩
    obtain ⟨h1, -, h3⟩ := List.pairwise_append.1 ho
    obtain ⟨i1, i2⟩ := ih l0 (by rw [List.length_append] at hl; simpa using hl) h1 s
    rw [tipD_snoc]
    by_cases hx : x.site = s
    · rw [if_pos (by rw [hx])]
      refine ⟨fun d hd hds => ?_, .inl ⟨x, by simp, hx, rfl⟩⟩
      rcases List.mem_append.1 hd with hd | hd
      · rcases h3 d hd x (by simp) with k | ⟨-, k⟩
        · rw [hds, hx] at k; exact absurd k (List.lt_irrefl _)
        · exact Int.le_of_lt k
      · rw [List.mem_singleton.1 hd]; exact Int.le_refl _
    · rw [if_neg (fun e => hx (byteL_inj e))]
      refine ⟨fun d hd hds => ?_, ?_⟩
      · rcases List.mem_append.1 hd with hd | hd
        · exact i1 d hd hds
        · rw [List.mem_singleton.1 hd] at hds; exact absurd hds hx
      · rcases i2 with ⟨t, ht, h5⟩ | ⟨h5, h6⟩
        · exact .inl ⟨t, List.mem_append_left _ ht, h5⟩
        · refine .inr ⟨h5, fun d hd => ?_⟩
          rcases List.mem_append.1 hd with hd | hd
          · exact h6 d hd
          · rw [List.mem_singleton.1 hd]; exact hx
/-- A right list with a further deed of a site. -/
theorem RightD.add {l L : List Deed} (h : RightD l) (d : Deed) (hk : keyL (byteL d.site) = true) (hg : GoodD d) (hn : d.no = (tipD l d.site).1 + 1) (hs : d.sum = sumD (tipD l d.site).2 d) (ho : OfD l d)
    (hord : L.Pairwise StLt) (hm : ∀ x, x ∈ L ↔ x ∈ l ∨ x = d) (hf : L.length ≤ 2000) : RightD L := by
  obtain ⟨-, t2⟩ := tip_all _ l rfl h.ord d.site
  have hsub : ∀ x ∈ l, x ∈ L := fun x hx => (hm x).2 (.inl hx)
  refine ⟨hf, hord, fun x hx => ?_, fun x hx => ?_, fun x hx => ?_, fun x hx => ?_⟩
  · rcases (hm x).1 hx with h1 | rfl
    · exact h.key x h1
    · exact hk
  · rcases (hm x).1 hx with h1 | rfl
    · exact h.good x h1
    · exact hg
  · rcases (hm x).1 hx with h1 | rfl
    · exact (h.pred x h1).more hsub
    · rcases t2 with ⟨t, ht, hts, he⟩ | ⟨he, -⟩
      · rw [he] at hn hs
        have hpos := (h.pred t ht).pos
        simp only at hn hs
        exact ⟨by omega, fun e => by omega, fun _ => ⟨t, hsub t ht, hts, by omega, hs⟩⟩
      · rw [he] at hn hs
        simp only at hn hs
        exact ⟨by omega, fun _ => hs, fun e => by omega⟩
  · intro hb
    rcases (hm x).1 hx with h1 | rfl
    · obtain ⟨y, hy, h2⟩ := h.ofs x h1 hb
      exact ⟨y, hsub y hy, h2⟩
    · obtain ⟨y, hy, h2⟩ := ho hb
      exact ⟨y, hsub y hy, h2⟩
/-- Two right lists put together. -/
theorem RightD.union {a b L : List Deed} (ha : RightD a) (hb : RightD b) (hord : L.Pairwise StLt) (hm : ∀ x, x ∈ L ↔ x ∈ a ∨ x ∈ b) (hf : L.length ≤ 2000) : RightD L := by
  have s1 : ∀ x ∈ a, x ∈ L := fun x hx => (hm x).2 (.inl hx)
  have s2 : ∀ x ∈ b, x ∈ L := fun x hx => (hm x).2 (.inr hx)
  refine ⟨hf, hord, fun x hx => ?_, fun x hx => ?_, fun x hx => ?_, fun x hx => ?_⟩
  · exact ((hm x).1 hx).elim (ha.key x) (hb.key x)
  · exact ((hm x).1 hx).elim (ha.good x) (hb.good x)
  · exact ((hm x).1 hx).elim (fun h => (ha.pred x h).more s1) (fun h => (hb.pred x h).more s2)
  · intro hbk
    rcases (hm x).1 hx with h | h
    · obtain ⟨y, hy, h2⟩ := ha.ofs x h hbk; exact ⟨y, s1 y hy, h2⟩
    · obtain ⟨y, hy, h2⟩ := hb.ofs x h hbk; exact ⟨y, s2 y hy, h2⟩
/-- A part of a right list that is closed. -/
theorem RightD.part {l : List Deed} (h : RightD l) (p : Deed → Bool) (h1 : ∀ d ∈ l, ∀ e ∈ l, p d = true → e.site = d.site → e.no < d.no → p e = true) (h2 : ∀ d ∈ l, p d = true → backB d.kind = true → ∀ x ∈ l, x.site = d.osite → x.no = d.ono → p x = true) : RightD (l.filter p) := by
  refine ⟨Nat.le_trans (List.length_filter_le _ _) h.few, h.ord.sublist List.filter_sublist, fun x hx => h.key x (List.mem_filter.1 hx).1, fun x hx => h.good x (List.mem_filter.1 hx).1, fun x hx => ?_, fun x hx hb => ?_⟩
  · obtain ⟨hx, hp⟩ := List.mem_filter.1 hx
    have k := h.pred x hx
    refine ⟨k.pos, k.first, fun hn => ?_⟩
    obtain ⟨q, hq, hs, hn2, hsum⟩ := k.next hn
    exact ⟨q, List.mem_filter.2 ⟨hq, h1 x hx q hq hp hs (by omega)⟩, hs, hn2, hsum⟩
  · obtain ⟨hx, hp⟩ := List.mem_filter.1 hx
    obtain ⟨y, hy, hs, hn, hpm⟩ := h.ofs x hx hb
    exact ⟨y, List.mem_filter.2 ⟨hy, h2 x hx hp hb y hy hs hn⟩, hs, hn, hpm⟩
/-- Numbers of a right list are not greater than its length. -/
theorem RightD.no_le {l : List Deed} (h : RightD l) : ∀ (k : Nat) (d : Deed), l[k]? = some d → d.no ≤ (k : Int) + 1 := by
  intro k
  induction k with
  | zero =>
    intro d hd
    have k := (h.step hd d (fun h => by omega)).2
    rw [if_neg (by rintro ⟨h, -⟩; omega)] at k
    omega
  | succ k ih =>
    intro d hd
    obtain ⟨p, hp⟩ : ∃ p, l[k]? = some p := ⟨_, List.getElem?_eq_getElem (by have := (List.getElem?_eq_some_iff.1 hd).1; omega)⟩
    have hi := ih p hp
    have k := (h.step hd p (fun _ => hp)).2
    split at k
    · have := k.1; push_cast; omega
    · have := k.1; push_cast; omega
end Go.Proofs.YthogkcgklakibaaGreatDoor
