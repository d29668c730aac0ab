
/-
  The last stamps of sites, and what lies behind them, in plain lists.
  matter.Merge: the union of two lists of deeds that is right.
  matter.Vector and matter.Since at right deeds.
  matter.Since at right deeds.
  SitesByDifferences: the law.
-/
import Derived.Test.YthogkcgklakibaaGreatDoorDdLow
import Derived.Test.YthogkcgklakibaaGreatDoorDdUndo
import Derived.Test.YthogkcgklakibaaGreatDoorDdMerge
import Derived.Test.YthogkcgklakibaaGreatDoorDdChk
import Derived.Test.YthogkcgklakibaaGreatDoorDdAs
import Derived.Test.YthogkcgklakibaaGreatDoorDdMat
import Derived.Test.YthogkcgklakibaaGreatDoorDdEnd

namespace Go.Proofs.YthogkcgklakibaaGreatDoor
open Go.RowKit

abbrev StP : Type := ByteArray × Int
def StampE : Elem StP := ⟨36, 48, 2, 24, .agg #[.string ⟨#[]⟩, .int .i64 0], fun p => [.string p.1, .int .i64 p.2]⟩
theorem stampE_ok : StampE.Ok := ⟨fun _ => rfl, fun x u hu => by
  have hm : u ∈ [Value.string x.1, Value.int .i64 x.2] := hu
  simp only [List.mem_cons, List.not_mem_nil, or_false] at hm
  rcases hm with h | h <;> (subst h; rfl), by decide, by decide, by kernel_rfl, by kernel_rfl, Tryz.underlying48⟩
abbrev StampsAt (w : World) (A : Option Addr) (n c : Nat) (S : List StP) : Prop := ElemsAt StampE w A n c S
theorem ElemsAt.stamp {w : World} {A : Option Addr} {n c : Nat} {S : List StP} (h : StampsAt w A n c S) (h0 : 0 < n) : ∃ g off, A = some ⟨g, off, none⟩ ∧ g < w.heap.size ∧ ∀ k x, S[k]? = some x →
    w.cell? ⟨g, off + k * 2, none⟩ = some (.string x.1) ∧ w.cell? ⟨g, off + k * 2 + 1, none⟩ = some (.int .i64 x.2) := by
  obtain ⟨g, off, rfl, hg, hc⟩ := h.2.2.2 h0
  exact ⟨g, off, rfl, hg, fun k x hx => ⟨hc k x 0 _ hx rfl, hc k x 1 _ hx rfl⟩⟩
structure VecI (l : List Deed) (k : Nat) (S : List StP) : Prop where
  src : ∀ s ∈ S, ∃ d ∈ l, d.site = s.1 ∧ d.no = s.2
  ord : S.Pairwise fun s t => byteL s.1 < byteL t.1
  top : ∀ d, l[k]? = some d → ∀ s ∈ S, byteL s.1 < byteL d.site
  len : S.length ≤ k
theorem VecI.start (l : List Deed) : VecI l 0 [] := ⟨fun _ h => absurd h (by simp), List.Pairwise.nil, fun _ _ _ h => absurd h (by simp), Nat.le_refl _⟩
theorem VecI.snoc {l : List Deed} {k : Nat} {S : List StP} (h : VecI l k S) {d : Deed} (hd : l[k]? = some d) (hn : ∀ e, l[k + 1]? = some e → byteL d.site < byteL e.site) : VecI l (k + 1) (S ++ [(d.site, d.no)]) := by
  refine ⟨fun s hs => ?_, ?_, fun e he s hs => ?_, by rw [List.length_append]; exact Nat.add_le_add_right h.len 1⟩
  · rcases List.mem_append.1 hs with hs | hs
    · exact h.src s hs
    · rw [List.mem_singleton.1 hs]; exact ⟨d, List.mem_of_getElem? hd, rfl, rfl⟩
  · rw [List.pairwise_append]
    refine ⟨h.ord, by simp, fun s hs t ht => ?_⟩
    rw [List.mem_singleton.1 ht]
    exact h.top d hd s hs
  · rcases List.mem_append.1 hs with hs | hs
    · exact List.lt_trans (h.top d hd s hs) (hn e he)
    · rw [List.mem_singleton.1 hs]; exact hn e he
theorem VecI.same {l : List Deed} {k : Nat} {S : List StP} (h : VecI l k S) {d e : Deed} (hd : l[k]? = some d) (he : l[k + 1]? = some e) (hs : e.site = d.site) : VecI l (k + 1) S := by
  refine ⟨h.src, h.ord, fun x hx s hm => ?_, Nat.le_succ_of_le h.len⟩
  rw [he] at hx
  cases hx
  rw [hs]
  exact h.top d hd s hm
theorem site_next {l : List Deed} (hl : RightD l) {k : Nat} {d e : Deed} (hd : l[k]? = some d) (he : l[k + 1]? = some e) (hs : e.site ≠ d.site) : byteL d.site < byteL e.site := by
  obtain ⟨h1, rfl⟩ := List.getElem?_eq_some_iff.1 hd
  obtain ⟨h2, rfl⟩ := List.getElem?_eq_some_iff.1 he
  rcases List.pairwise_iff_getElem.1 hl.ord k (k + 1) h1 h2 (by omega) with h | ⟨h, -⟩
  · exact h
  · exact absurd h.symm hs
/-- What Vector gives. -/
structure VecD (l : List Deed) (S : List StP) : Prop where
  src : ∀ s ∈ S, ∃ d ∈ l, d.site = s.1 ∧ d.no = s.2
  ord : S.Pairwise fun s t => byteL s.1 < byteL t.1
  len : S.length ≤ 2000
theorem VecI.done {l : List Deed} (hl : RightD l) {S : List StP} (h : VecI l l.length S) : VecD l S := ⟨h.src, h.ord, Nat.le_trans h.len hl.few⟩
/-- The numbers upto which stamps cover. -/
def UpI (S : List StP) (k : Nat) (f : CutF) : Prop := ∀ t, f t ≠ 0 → ∃ s ∈ S.take k, s.1 = t ∧ f t = s.2
theorem UpI.start (S : List StP) : UpI S 0 (fun _ => 0) := fun _ h => absurd rfl h
theorem UpI.put {S : List StP} {k : Nat} {f : CutF} (h : UpI S k f) {s : StP} (hs : S[k]? = some s) : UpI S (k + 1) (cutS f s.1 s.2) := fun t ht => by
  have e : S.take (k + 1) = S.take k ++ [s] := by
    obtain ⟨h1, rfl⟩ := List.getElem?_eq_some_iff.1 hs
    rw [List.take_succ_eq_append_getElem h1]
  rw [e]
  by_cases ht' : t = s.1
  · subst ht'
    exact ⟨s, by simp, rfl, cutS_self ..⟩
  · rw [cutS_ne _ _ ht'] at ht ⊢
    obtain ⟨x, hx, h2⟩ := h t ht
    exact ⟨x, List.mem_append_left _ hx, h2⟩
theorem chain_no {l : List Deed} (hl : RightD l) : ∀ (m : Nat) (d : Deed), d ∈ l → ∀ z : Int, 1 ≤ z → z ≤ d.no → d.no - z = (m : Int) → ∃ e ∈ l, e.site = d.site ∧ e.no = z := by
  intro m
  induction m with
  | zero => exact fun d hd z _ _ h => ⟨d, hd, rfl, by omega⟩
  | succ m ih =>
    intro d hd z h1 h2 h3
    obtain ⟨p, hp, hs, hn, -⟩ := (hl.pred d hd).next (by omega)
    obtain ⟨e, he, hes, hez⟩ := ih p hp z h1 (by omega) (by omega)
    exact ⟨e, he, hes.trans hs, hez⟩
def moreD (U : List Deed) (f : CutF) : List Deed := U.filter fun d => decide (f d.site < d.no)
theorem more_all {U P : List Deed} (hU : RightD U) (hP : RightD P) (hs : ∀ x ∈ P, x ∈ U) {S : List StP} (hS : VecD P S) {k : Nat} {f : CutF} (hf : UpI S k f) : ∀ x, x ∈ U ↔ x ∈ P ∨ x ∈ moreD U f := fun x => by
  constructor
  · intro hx
    by_cases h : f x.site < x.no
    · exact .inr (List.mem_filter.2 ⟨hx, decide_eq_true h⟩)
    · have h1 := (hU.pred x hx).pos
      obtain ⟨s, hsm, hs1, hs2⟩ := hf x.site (by omega)
      obtain ⟨d, hd, hds, hdn⟩ := hS.src s (List.mem_of_mem_take hsm)
      obtain ⟨e, he, hes, hen⟩ := chain_no hP (d.no - x.no).toNat d hd x.no h1 (by omega) (by omega)
      have : e = x := ord_uniq hU.ord (hs e he) hx (by rw [hes, hds, hs1]) hen
      rw [← this]
      exact .inl he
  · rintro (h | h)
    · exact hs x h
    · exact (List.mem_filter.1 h).1
theorem UpI.val {S : List StP} {k : Nat} {f : CutF} (h : UpI S k f) {P : List Deed} (hP : RightD P) (hS : VecD P S) (t : ByteArray) : 0 ≤ f t ∧ f t ≤ 2001 := by
  by_cases e : f t = 0
  · rw [e]; omega
  · obtain ⟨s, hs, -, h2⟩ := h t e
    obtain ⟨d, hd, -, hdn⟩ := hS.src s (List.mem_of_mem_take hs)
    have := no_bound hP hd
    omega
end Go.Proofs.YthogkcgklakibaaGreatDoor

namespace Go.Proofs.YthogkcgklakibaaGreatDoor
open Go.RowKit Go.Maps
attribute [local go_sem ↓] Go.wp_at_zero Go.wp_at_succ

set_option maxHeartbeats 800000 in
set_option maxRecDepth 100000 in
theorem mrgClo_gr (x y : Deed) (w : World) : Calls Tryz.prog 53 #[x.v, y.v] w fun e w' => e = .returned (.int .i64 (cmpD x y)) ∧ Gr w w' := by
  have HX : Hid (DeedAt ((w.alloc (.cells #[.string x.site, .int .i64 x.no, .int .i64 x.at_, .int .i64 x.kind, .string x.id, .string x.fld, .string x.val, .int .i64 x.from_, .int .i64 x.to_, .string x.osite, .int .i64 x.ono, .string x.sum] 40)).alloc (.cells #[.string y.site, .int .i64 y.no, .int .i64 y.at_, .int .i64 y.kind, .string y.id, .string y.fld, .string y.val, .int .i64 y.from_, .int .i64 y.to_, .string y.osite, .int .i64 y.ono, .string y.sum] 40)) w.heap.size x) := (deed_new w x).keep ((Below.refl _ _).alloc (Nat.le_refl _) _)
  have HY : Hid (DeedAt ((w.alloc (.cells #[.string x.site, .int .i64 x.no, .int .i64 x.at_, .int .i64 x.kind, .string x.id, .string x.fld, .string x.val, .int .i64 x.from_, .int .i64 x.to_, .string x.osite, .int .i64 x.ono, .string x.sum] 40)).alloc (.cells #[.string y.site, .int .i64 y.no, .int .i64 y.at_, .int .i64 y.kind, .string y.id, .string y.fld, .string y.val, .int .i64 y.from_, .int .i64 y.to_, .string y.osite, .int .i64 y.ono, .string y.sum] 40)) (w.alloc (.cells #[.string x.site, .int .i64 x.no, .int .i64 x.at_, .int .i64 x.kind, .string x.id, .string x.fld, .string x.val, .int .i64 x.from_, .int .i64 x.to_, .string x.osite, .int .i64 x.ono, .string x.sum] 40)).heap.size y) := deed_new _ y
  have hsz : (w.alloc (.cells #[.string x.site, .int .i64 x.no, .int .i64 x.at_, .int .i64 x.kind, .string x.id, .string x.fld, .string x.val, .int .i64 x.from_, .int .i64 x.to_, .string x.osite, .int .i64 x.ono, .string x.sum] 40)).heap.size = w.heap.size + 1 := by simp
  rw [hsz] at HY
  have HG : Hid (Gr w ((w.alloc (.cells #[.string x.site, .int .i64 x.no, .int .i64 x.at_, .int .i64 x.kind, .string x.id, .string x.fld, .string x.val, .int .i64 x.from_, .int .i64 x.to_, .string x.osite, .int .i64 x.ono, .string x.sum] 40)).alloc (.cells #[.string y.site, .int .i64 y.no, .int .i64 y.at_, .int .i64 y.kind, .string y.id, .string y.fld, .string y.val, .int .i64 y.from_, .int .i64 y.to_, .string y.osite, .int .i64 y.ono, .string y.sum] 40))) := ((Gr.refl w).alloc _).alloc _
  clear hsz
  unfold Deed.v
  go_enter Tryz.func53, Tryz.ntmps53
  go_upto_region 1 with (fail)
  obtain ⟨P, hP⟩ : ∃ P, P = w.heap.size := ⟨_, rfl⟩
  rw [← hP] at HX HY ⊢
  generalize (w.alloc (.cells #[.string x.site, .int .i64 x.no, .int .i64 x.at_, .int .i64 x.kind, .string x.id, .string x.fld, .string x.val, .int .i64 x.from_, .int .i64 x.to_, .string x.osite, .int .i64 x.ono, .string x.sum] 40)).alloc (.cells #[.string y.site, .int .i64 y.no, .int .i64 y.at_, .int .i64 y.kind, .string y.id, .string y.fld, .string y.val, .int .i64 y.from_, .int .i64 y.to_, .string y.osite, .int .i64 y.ono, .string y.sum] 40) = w1 at *
  clear hP
  obtain ⟨a0, a1, a2, a3, a4, a5, a6, a7, a8, a9, a10, a11⟩ := HX.out.c
  obtain ⟨b0, b1, b2, b3, b4, b5, b6, b7, b8, b9, b10, b11⟩ := HY.out.c
  go_wp2_with fail
  refine (byStamp_gr x y w1).mono ?_
  rintro e w2 ⟨rfl, hg2⟩
  have HG2 := Lib.hid (HG.out.trans hg2)
  clear hg2
  go_wp2_with fail
  go_ret
  exact ⟨rfl, HG2.out⟩
theorem mrg_lays (blk off size : Nat) (w : World) : CmpLays Tryz.prog 53 #[] Deed.cells 12 cmpD blk off size w :=
  fun _ _ _ _ x y => mrgClo_gr x y _
theorem sortM_any (base n c : Nat) (A : Option Addr) (l : List Deed) (w : World) (hn : n = l.length) (h : Owns DeedE w base (.slice A n c) l) (hl : n ≤ 100000) :
    Calls Tryz.prog 52 #[.slice A n c, .func (.func 53) #[] #[]] w (SortDPost w A n c l (Value.slice A n c).ownBlock) := by
  subst hn
  rcases Nat.eq_zero_or_pos l.length with h0 | h0
  · have hl := List.eq_nil_of_length_eq_zero h0
    subst hl
    obtain ⟨A', c', he, hcc, hat, _⟩ := h.at_ deedE_ok
    simp only [Value.slice.injEq] at he
    obtain ⟨rfl, _, rfl⟩ := he
    refine (AnyF.slices_SortFunc_none Tryz.sfQ52 A c _ w).mono ?_
    rintro e w' ⟨rfl, hw⟩
    rw [hw]
    exact ⟨rfl, ⟨[], List.Perm.refl _, List.Pairwise.nil, hat⟩, World.grownBy.refl _ _⟩
  · obtain ⟨g, c', he, hgb, hgl, _⟩ := h.where_ deedE_ok h0
    simp only [Value.slice.injEq] at he
    obtain ⟨rfl, _, rfl⟩ := he
    obtain ⟨A', c', he, hcc, hat, _⟩ := h.at_ deedE_ok
    simp only [Value.slice.injEq] at he
    obtain ⟨rfl, _, rfl⟩ := he
    have hlc := hat.2.1
    have hH := h.holdsS deedE_ok
    have eg : ∀ args w, (callFunc 53 args).run Tryz.prog w = .ok (.enter 53 args) w := enters_of Tryz.func53 (by kernel_rfl) rfl
    have hsz : l.toArray.size = l.length := by simp
    have hcon := AnyQ.slices_SortFunc Tryz.sfQ52 12 Tryz.isAgg40 Tryz.sizeOf40 Deed.cells (fun _ => rfl)
      (fun x v hv => deedE_ok.one x v hv) cmpD swoD 53 #[] g 0 c l.toArray w eg (mrg_lays g 0 _ w) hH hgl (by rw [hsz]; omega)
    rw [hsz] at hcon
    refine Calls.mono hcon ?_
    rintro e w' ⟨rfl, d', q, os, hpm, hso, rfl⟩
    have hs : d'.size = l.length := by rw [hpm.1]; exact hsz
    have hH' := holdsK_sortWorldK_c Deed.cells 12 w g 0 l.toArray d' q os hH hgl (by rw [hs, hsz])
    have hel := elems_of_holdsS deedE_ok (c := c) hH' (Nat.lt_of_lt_of_le hgl (size_sortWorldK_c Deed.cells 12 w g 0 q _ os)) (by rw [hs]; exact hlc)
    rw [hs] at hel
    refine ⟨rfl, ⟨d'.toList, ?_, ?_, hel⟩, grown_sortS Deed.cells 12 w g 0 q _ os⟩
    · have h3 := hpm.2.2
      have e1 : d'.extract 0 l.length = d' := by rw [← hs]; simp
      have e2 : l.toArray.extract 0 l.length = l.toArray := by simp
      rw [e1, e2] at h3
      exact h3
    · rw [List.pairwise_iff_getElem]
      intro i j hi hj hij
      have hi' : i < d'.size := by simpa using hi
      have hj' : j < d'.size := by simpa using hj
      have := hso i j (Nat.zero_le _) hij (by omega)
      rw [getElem!_pos d' i hi', getElem!_pos d' j hj'] at this
      simpa using this

def MergeMPost (w : World) (a b : List Deed) (e : Ending) (w' : World) : Prop := ∃ A n c U, e = .returned (.tuple #[.slice A n c, .int .i64 0]) ∧ DeedsAt w' A n c U ∧ RightD U ∧ (∀ x, x ∈ U ↔ x ∈ a ∨ x ∈ b) ∧ Below w.heap.size w w'
/-- Two lists can be put together. -/
structure FitD (a b : List Deed) : Prop where
  left : RightD a
  uniq : ∀ x ∈ a ++ b, ∀ y ∈ a ++ b, x.site = y.site → x.no = y.no → x = y
  small : ∀ x ∈ a ++ b, x.site.size ≤ 1000000 ∧ In64 x.no
  all : ∀ L : List Deed, L.Pairwise StLt → (∀ x, x ∈ L ↔ x ∈ a ∨ x ∈ b) → L.length ≤ 2000 → RightD L
theorem FitD.two {a b : List Deed} (ha : RightD a) (hb : RightD b) (hs : SameD a b) : FitD a b :=
  ⟨ha, union_uniq ha hb hs, fun x hx => by
    rcases List.mem_append.1 hx with h | h
    · exact ⟨site_bound ha h, in64_no ha h⟩
    · exact ⟨site_bound hb h, in64_no hb h⟩, fun L h1 h2 h3 => RightD.union ha hb h1 h2 h3⟩
theorem FitD.of {a b U : List Deed} (ha : RightD a) (hU : RightD U) (hm : ∀ x, x ∈ U ↔ x ∈ a ∨ x ∈ b) : FitD a b :=
  have hin : ∀ x ∈ a ++ b, x ∈ U := fun x hx => (hm x).2 (List.mem_append.1 hx)
  ⟨ha, fun x hx y hy h1 h2 => ord_uniq hU.ord (hin x hx) (hin y hy) h1 h2, fun x hx => ⟨site_bound hU (hin x hx), in64_no hU (hin x hx)⟩, fun L h1 h2 _ => by
    have : L = U := ord_ext h1 hU.ord (fun d => by rw [h2, hm])
    rw [this]; exact hU⟩
theorem findS_hit {O : List Deed} {x y : Deed} (h : findS O x.site x.no = some y) : y ∈ O ∧ y.site = x.site ∧ y.no = x.no := by
  unfold findS at h
  have h1 := List.find?_some h
  have h2 := List.mem_of_find?_eq_some h
  have := hasSt_true h1
  exact ⟨h2, this.1, this.2⟩
theorem findS_miss {O : List Deed} {x : Deed} (h : findS O x.site x.no = none) : NewT O x := fun y hy hyx => by
  unfold findS at h
  rw [List.find?_eq_none] at h
  have := h y hy
  simp [hasSt, hyx.1, hyx.2] at this
/-- A row of deeds lies in no map. -/
theorem deeds_neM {w : World} {A : Option Addr} {n c M : Nat} {l O : List Deed} (h : DeedsAt w A n c l) (hM : DMapAt w M O) (h0 : 0 < n) : ∀ g off, A = some ⟨g, off, none⟩ → g ≠ M := by
  intro g off e hg
  obtain ⟨D, ⟨es, cl, hb, -⟩, -⟩ := hM.ex
  obtain ⟨g', off', rfl, -, hc⟩ := h.2.2.2 h0
  simp only [Option.some.injEq, Addr.mk.injEq] at e
  obtain ⟨rfl, rfl, -⟩ := e
  subst hg
  have hl : 0 < l.length := by have := h.1; omega
  obtain ⟨x, hx⟩ : ∃ x, l[0]? = some x := ⟨_, List.getElem?_eq_getElem hl⟩
  have h1 := hc 0 x 0 (.string x.site) hx rfl
  simp [World.cell?, hb] at h1
/-- Blocks below B are as they were, but M. -/
structure KeepB (w : World) (B M : Nat) (w' : World) : Prop where
  size : w.heap.size ≤ w'.heap.size
  block : ∀ i, i < B → i ≠ M → w'.heap[i]? = w.heap[i]?
theorem KeepB.below {w w' w2 : World} {B M : Nat} (h : KeepB w B M w') (hB : B ≤ w.heap.size) (hb : Below w'.heap.size w' w2) : KeepB w B M w2 := ⟨Nat.le_trans h.size hb.size, fun i hi hne => (hb.block i (by have := h.size; omega)).trans (h.block i hi hne)⟩
theorem KeepB.grown {w w' w2 : World} {B M : Nat} {row : Option Nat} (h : KeepB w B M w') (hB : B ≤ w.heap.size) (hb : w'.grownBy w2 row) (hr : ∀ i, row = some i → i = M ∨ B ≤ i) : KeepB w B M w2 :=
  ⟨Nat.le_trans h.size hb.size, fun i hi hne => (hb.block i (by have := h.size; omega) (fun e => by rcases hr i e.symm with k | k <;> omega)).trans (h.block i hi hne)⟩
theorem ElemsAt.keepB {w w' : World} {A : Option Addr} {n c M : Nat} {l : List Deed} (h : DeedsAt w A n c l) (hne : 0 < n → ∀ g off, A = some ⟨g, off, none⟩ → g ≠ M) (hk : KeepB w w.heap.size M w') : DeedsAt w' A n c l := by
  refine ⟨h.1, h.2.1, h.2.2.1, fun h0 => ?_⟩
  obtain ⟨g, off, rfl, hg, hc⟩ := h.2.2.2 h0
  exact ⟨g, off, rfl, Nat.lt_of_lt_of_le hg hk.size, fun k x i v hx hv => (World.cell?_of_block (hk.block g hg (hne h0 g off rfl))).trans (hc k x i v hx hv)⟩
def ListOkAll (w : World) : Prop := ∀ wx, Below w.heap.size w wx → ∀ (A : Option Addr) (n c : Nat) (l : List Deed), DeedsAt wx A n c l → RightD l → CheckOk wx A n c
set_option maxHeartbeats 6400000 in
set_option maxRecDepth 100000 in
theorem mergeM_of (Aa : Option Addr) (na ca : Nat) (a : List Deed) (Ab : Option Addr) (nb cb : Nat) (b : List Deed) (w : World) (hA : DeedsAt w Aa na ca a) (hB : DeedsAt w Ab nb cb b) (hF : FitD a b) (hl : na + nb ≤ 2000) (hLE : ListOkAll w) :
    Calls Tryz.prog 17 #[.slice Aa na ca, .slice Ab nb cb] w (MergeMPost w a b) := by
  have HNA : Hid (na = a.length) := hA.1
  have HNB : Hid (nb = b.length) := hB.1
  have HF := Lib.hid hF
  have HLE := Lib.hid hLE
  have HLA := Lib.hid (listError_ok Aa na ca w (hLE w (Below.refl _ _) Aa na ca a hA hF.left))
  have HLL : Hid ((a ++ b).length = na + nb) := by show _ = _; rw [List.length_append, HNA.out, HNB.out]
  have hbig : ¬ (2000 : Int) < (nb : Int) := by omega
  have HA0 := Lib.hid hA
  have HB0 := Lib.hid hB
  have hmm := @run_makeMap Tryz.prog
  clear hA hB hF hLE
  go_enter Tryz.func17, Tryz.ntmps17
  go_wp2_with fail
  refine HLA.out.mono ?_
  rintro e w0 ⟨rfl, hb0⟩
  have HB00 := Lib.hid hb0
  clear hb0 HLA
  go_wp2_with fail
  rw [show decide ((2000 : Int) < (nb : Int)) = false from decide_eq_false (by omega)]
  refine (when_none _ _).mono ?_
  rintro e wz ⟨rfl, hwz⟩
  obtain rfl := hwz.symm
  go_wp2_with fail
  refine (first_2D 0 0 0 _ _ rfl rfl _).mono ?_
  rintro e wz ⟨rfl, hwz⟩
  obtain rfl := hwz.symm
  have HB1 : Hid (Below w.heap.size w (w0.alloc (.cells #[.int .i64 0, .int .i64 0] 29))) := HB00.out.alloc HB00.out.size _
  clear HB00
  go_upto_region 4 with (fail)
  generalize w0.alloc (.cells #[.int .i64 0, .int .i64 0] 29) = w1 at *
  have hz1 : (w1.alloc (.map #[] 0)).heap.size = w1.heap.size + 1 := by simp
  have hbm : Below w1.heap.size w1 (w1.alloc (.map #[] 0)) := (Below.refl _ _).alloc (Nat.le_refl _) _
  have hal : Below w1.heap.size w1 ((w1.alloc (.map #[] 0)).alloc (.cells #[.slice Aa na ca, .slice Ab nb cb] 26)) := hbm.alloc (by simp) _
  have HTB : Hid (TabD ((w1.alloc (.map #[] 0)).alloc (.cells #[.slice Aa na ca, .slice Ab nb cb] 26)) (some ⟨w1.heap.size + 1, 0, none⟩) 2 2 [a, b]) := by
    have hx : Below w.heap.size w ((w1.alloc (.map #[] 0)).alloc (.cells #[.slice Aa na ca, .slice Ab nb cb] 26)) := HB1.out.trans (hal.mono HB1.out.size)
    refine ⟨rfl, fun _ => ⟨w1.heap.size + 1, 0, rfl, by simp, fun k hk => ?_⟩⟩
    match k, hk with
    | 0, _ => exact ⟨Aa, na, ca, by rw [World.cell?_alloc_at _ _ _ _ hz1.symm]; rfl, ElemsAt.keep HA0.out hx⟩
    | 1, _ => exact ⟨Ab, nb, cb, by rw [World.cell?_alloc_at _ _ _ _ hz1.symm]; rfl, ElemsAt.keep HB0.out hx⟩
  have HM1 : Hid (DMapAt ((w1.alloc (.map #[] 0)).alloc (.cells #[.slice Aa na ca, .slice Ab nb cb] 26)) w1.heap.size []) := (DMapAt.start w1).below ((Below.refl _ _).alloc (Nat.le_refl _) _)
  have HB2 : Hid (Below w1.heap.size w1 ((w1.alloc (.map #[] 0)).alloc (.cells #[.slice Aa na ca, .slice Ab nb cb] 26))) := hal
  have HCC := Lib.hid (concatD_any (some ⟨w1.heap.size + 1, 0, none⟩) 2 2 [a, b] _ HTB.out (by omega) (by have := HNA.out; have := HNB.out; simp; omega))
  have hml : w1.heap.size < ((w1.alloc (.map #[] 0)).alloc (.cells #[.slice Aa na ca, .slice Ab nb cb] 26)).heap.size := by simp; omega
  clear hal hbm HTB HA0 HB0
  go_wp2_with fail
  try rw [hz1]
  refine HCC.out.mono ?_
  rintro e w3 ⟨v1, rfl, hown1, hb3⟩
  have hown2 : Owns DeedE w3 ((w1.alloc (.map #[] 0)).alloc (.cells #[.slice Aa na ca, .slice Ab nb cb] 26)).heap.size v1 (a ++ b) := by
    have e : ([a, b] : List (List Deed)).flatten = a ++ b := by simp
    rw [e] at hown1
    exact hown1
  obtain ⟨A1, c1, hv1, -, hat1, -⟩ := hown2.at_ deedE_ok
  subst hv1
  rw [HLL.out] at hat1 ⊢
  have HAT1 := Lib.hid hat1
  have HM3 := Lib.hid (HM1.out.below hb3)
  have HB3 : Hid (Below w1.heap.size w1 w3) := HB2.out.trans (hb3.mono HB2.out.size)
  have HML3 : Hid (w1.heap.size < w3.heap.size) := Nat.lt_of_lt_of_le hml hb3.size
  have HNM := Lib.hid (fun h0 => deeds_neM HAT1.out HM3.out h0)
  clear hown1 hown2 hb3 hat1 HCC HB2 HM1 hml hz1 HNA HNB
  obtain ⟨M, hM⟩ : ∃ M, M = w1.heap.size := ⟨_, rfl⟩
  have HMW : Hid (w1.heap.size ≤ M) := by show _ ≤ _; omega
  rw [← hM] at HM3 HML3 HNM ⊢
  clear hM
  obtain ⟨N, hN⟩ : ∃ N, N = na + nb := ⟨_, rfl⟩
  rw [← hN] at HAT1 HLL hl HNM ⊢
  clear hN
  go_wp2_with fail
  go_loopg [8, 31] N (fun gk v8 v wr => ∃ (k : Nat) (O : List Deed), Hid (k + gk = N) ∧ v = .int .i64 (k : Int) ∧ Hid (Owns DeedE wr w3.heap.size v8 O) ∧ Hid (O.Nodup ∧ (∀ d, d ∈ O ↔ d ∈ (a ++ b).take k) ∧ O.length ≤ k) ∧ Hid (DMapAt wr M O) ∧ Hid (KeepB w3 w3.heap.size M wr) ∧ Hid (Below w1.heap.size w1 wr))
  case atStart => exact ⟨0, [], show 0 + N = N by omega, rfl, Owns.nil _ _, ⟨List.nodup_nil, fun d => by simp, Nat.le_refl _⟩, HM3.out, ⟨Nat.le_refl _, fun _ _ _ => rfl⟩, HB3.out⟩
  case round =>
    obtain ⟨k, O, HK, rfl, HO, HS, HM, HKB, HW⟩ := hrel
    clear HB3 HM3
    have hkn : k ≤ N := by have := HK.out; omega
    by_cases hlt : k < N
    · have HGK := Lib.hid (show k + 1 + (gk - 1) = N ∧ 0 < gk by have := HK.out; omega)
      obtain ⟨g, off, rfl, hg, hc⟩ := (ElemsAt.keepB HAT1.out HNM.out HKB.out).deed (by omega)
      have hkl : k < (a ++ b).length := by rw [HLL.out]; exact hlt
      obtain ⟨x, hx⟩ : ∃ x, (a ++ b)[k]? = some x := ⟨_, List.getElem?_eq_getElem hkl⟩
      obtain ⟨c0, c1', c2, c3, c4, c5, c6, c7, c8, c9, c10, c11⟩ := hc k x hx
      have HXM := Lib.hid (List.mem_of_getElem? hx)
      have hxs := (HF.out.small x HXM.out).1
      have hxn := (HF.out.small x HXM.out).2
      have HTK : Hid ((a ++ b).take (k + 1) = (a ++ b).take k ++ [x]) := take_snocD hx
      have hal : Below wr.heap.size wr (wr.alloc (.cells #[.string x.site, .int .i64 x.no, .int .i64 x.at_, .int .i64 x.kind, .string x.id, .string x.fld, .string x.val, .int .i64 x.from_, .int .i64 x.to_, .string x.osite, .int .i64 x.ono, .string x.sum] 40)) := (Below.refl _ _).alloc (Nat.le_refl _) _
      have HX2 : Hid (DeedAt (wr.alloc (.cells #[.string x.site, .int .i64 x.no, .int .i64 x.at_, .int .i64 x.kind, .string x.id, .string x.fld, .string x.val, .int .i64 x.from_, .int .i64 x.to_, .string x.osite, .int .i64 x.ono, .string x.sum] 40)) wr.heap.size x) := deed_new wr x
      have HO2 := Lib.hid (HO.out.below_ hal)
      have HM2 := Lib.hid (HM.out.below hal)
      have HK2 := Lib.hid (HKB.out.below (Nat.le_refl _) hal)
      have HW2 := Lib.hid (HW.out.trans (hal.mono HW.out.size))
      clear hc hkl hx hg hal HO HK HM HKB HW
      go_upto_region 9 with (fail)
      obtain ⟨P, hP⟩ : ∃ P, P = wr.heap.size := ⟨_, rfl⟩
      rw [← hP] at HX2 ⊢
      generalize wr.alloc (.cells #[.string x.site, .int .i64 x.no, .int .i64 x.at_, .int .i64 x.kind, .string x.id, .string x.fld, .string x.val, .int .i64 x.from_, .int .i64 x.to_, .string x.osite, .int .i64 x.ono, .string x.sum] 40) = w2 at *
      clear hP c0 c1' c2 c3 c4 c5 c6 c7 c8 c9 c10 c11
      obtain ⟨a0, a1, a2, a3, a4, a5, a6, a7, a8, a9, a10, a11⟩ := HX2.out.c
      cases hf : findS O x.site x.no with
      | some y =>
        have hhit := findS_hit hf
        have hyx : y = x := HF.out.uniq y (List.mem_of_mem_take ((HS.out.2.1 y).1 hhit.1)) x HXM.out hhit.2.1 hhit.2.2
        subst hyx
        have HYO := Lib.hid hhit.1
        have hlook : (Instr.lookup 89 (.map (some M)) (.agg #[.string y.site, .int .i64 y.no]) true).run Tryz.prog w2 = .ok (.tuple #[.agg #[.string y.site, .int .i64 y.no, .int .i64 y.at_, .int .i64 y.kind, .string y.id, .string y.fld, .string y.val, .int .i64 y.from_, .int .i64 y.to_, .string y.osite, .int .i64 y.ono, .string y.sum], .bool true]) w2 := HM2.out.hit hxs hxn 0 hf
        have hal : Below w2.heap.size w2 (w2.alloc (.cells #[.string y.site, .int .i64 y.no, .int .i64 y.at_, .int .i64 y.kind, .string y.id, .string y.fld, .string y.val, .int .i64 y.from_, .int .i64 y.to_, .string y.osite, .int .i64 y.ono, .string y.sum] 40)) := (Below.refl _ _).alloc (Nat.le_refl _) _
        have HY3 : Hid (DeedAt (w2.alloc (.cells #[.string y.site, .int .i64 y.no, .int .i64 y.at_, .int .i64 y.kind, .string y.id, .string y.fld, .string y.val, .int .i64 y.from_, .int .i64 y.to_, .string y.osite, .int .i64 y.ono, .string y.sum] 40)) w2.heap.size y) := deed_new w2 y
        have HX3 := Lib.hid (HX2.out.keep hal)
        have HO3 := Lib.hid (HO2.out.below_ hal)
        have HM3 := Lib.hid (HM2.out.below hal)
        have HK3 := Lib.hid (HK2.out.below (Nat.le_refl _) hal)
        have HW3 := Lib.hid (HW2.out.trans (hal.mono HW2.out.size))
        clear hf hhit hal HX2 HO2 HM2 HK2 HW2
        go_upto_region 10 with (fail)
        obtain ⟨Q, hQ⟩ : ∃ Q, Q = w2.heap.size := ⟨_, rfl⟩
        rw [← hQ] at HY3 ⊢
        generalize w2.alloc (.cells #[.string y.site, .int .i64 y.no, .int .i64 y.at_, .int .i64 y.kind, .string y.id, .string y.fld, .string y.val, .int .i64 y.from_, .int .i64 y.to_, .string y.osite, .int .i64 y.ono, .string y.sum] 40) = w4 at *
        clear hQ hlook a0 a1 a2 a3 a4 a5 a6 a7 a8 a9 a10 a11
        obtain ⟨a0, a1, a2, a3, a4, a5, a6, a7, a8, a9, a10, a11⟩ := HX3.out.c
        obtain ⟨b0, b1, b2, b3, b4, b5, b6, b7, b8, b9, b10, b11⟩ := HY3.out.c
        have HSN : Hid (O.Nodup ∧ (∀ d, d ∈ O ↔ d ∈ (a ++ b).take (k + 1)) ∧ O.length ≤ k + 1) := by
          refine ⟨HS.out.1, fun d => ?_, Nat.le_succ_of_le HS.out.2.2⟩
          rw [HTK.out, List.mem_append, ← HS.out.2.1 d, List.mem_singleton]
          exact ⟨.inl, fun h => h.elim (fun h => h) (fun h => by rw [h]; exact HYO.out)⟩
        go_wp2_with fail
        go_roundg (gk - 1)
        case measure => exact Nat.sub_lt HGK.out.2 Nat.one_pos
        case rel => exact ⟨k + 1, O, HGK.out.1, by go_num, HO3.out, HSN.out, HM3.out, HK3.out, HW3.out⟩
      | none =>
        have HNW := Lib.hid (findS_miss hf)
        have hlook : (Instr.lookup 89 (.map (some M)) (.agg #[.string x.site, .int .i64 x.no]) true).run Tryz.prog w2 = .ok (.tuple #[.agg #[.string ⟨#[]⟩, .int .i64 0, .int .i64 0, .int .i64 0, .string ⟨#[]⟩, .string ⟨#[]⟩, .string ⟨#[]⟩, .int .i64 0, .int .i64 0, .string ⟨#[]⟩, .int .i64 0, .string ⟨#[]⟩], .bool false]) w2 := HM2.out.miss hxs hxn 0 hf
        have hal : Below w2.heap.size w2 (w2.alloc (.cells #[.string ⟨#[]⟩, .int .i64 0, .int .i64 0, .int .i64 0, .string ⟨#[]⟩, .string ⟨#[]⟩, .string ⟨#[]⟩, .int .i64 0, .int .i64 0, .string ⟨#[]⟩, .int .i64 0, .string ⟨#[]⟩] 40)) := (Below.refl _ _).alloc (Nat.le_refl _) _
        have HX3 := Lib.hid (HX2.out.keep hal)
        have HO3 := Lib.hid (HO2.out.below_ hal)
        have HM3 := Lib.hid (HM2.out.below hal)
        have HK3 := Lib.hid (HK2.out.below (Nat.le_refl _) hal)
        have HW3 := Lib.hid (HW2.out.trans (hal.mono HW2.out.size))
        clear hf hal HX2 HO2 HM2 HK2 HW2
        go_upto_region 10 with (fail)
        generalize w2.alloc (.cells #[.string ⟨#[]⟩, .int .i64 0, .int .i64 0, .int .i64 0, .string ⟨#[]⟩, .string ⟨#[]⟩, .string ⟨#[]⟩, .int .i64 0, .int .i64 0, .string ⟨#[]⟩, .int .i64 0, .string ⟨#[]⟩] 40) = w4 at *
        clear hlook a0 a1 a2 a3 a4 a5 a6 a7 a8 a9 a10 a11
        obtain ⟨a0, a1, a2, a3, a4, a5, a6, a7, a8, a9, a10, a11⟩ := HX3.out.c
        have HSN : Hid ((O ++ [x]).Nodup ∧ (∀ d, d ∈ O ++ [x] ↔ d ∈ (a ++ b).take (k + 1)) ∧ (O ++ [x]).length ≤ k + 1) := by
          refine ⟨?_, fun d => ?_, by rw [List.length_append]; exact Nat.add_le_add_right HS.out.2.2 1⟩
          · rw [List.nodup_append]
            refine ⟨HS.out.1, by simp, fun y hy z hz e => ?_⟩
            rw [List.mem_singleton] at hz
            subst hz
            subst e
            exact HNW.out y hy ⟨rfl, rfl⟩
          · rw [HTK.out, List.mem_append, List.mem_append, HS.out.2.1 d]
        have hol : O.length ≤ 2000 := by have := HS.out.2.2; omega
        obtain ⟨D, hD⟩ := HM3.out.ex
        have HD := Lib.hid hD
        have HKEY := Lib.hid (keyK_mk x.site x.no hxs hxn)
        have HXN := Lib.hid hxn
        clear hD HS hxn
        go_upto_region 14 with (at_mapUpdate; refine wpList_mapUpdate_own _ rfl _ _ _ 89 rfl 36 40 keyK Tryz.underlying89 _ M O.length D rfl HD.out.1 (by simp only [maxLen]; omega) _ _ (keyT x.site.data.toList x.no) rfl rfl HKEY.out (.held x.v) [] rfl ?_; intro w5 hown5 hgrow5)
        have HM5 : Hid (DMapAt w5 M (O ++ [x])) := DMapAt.put x hxs HXN.out HNW.out HD.out.1 HD.out.2.1 HD.out.2.2 hown5
        have HX5 : Hid (DeedAt w5 P x) := (hgrow5.block P HX3.out.lt (fun e => by have h1 : P = M := Option.some.inj e; have h2 := HX3.out; unfold DeedAt at h2; obtain ⟨D', ⟨es, cl, hb, -⟩, -⟩ := HM3.out.ex; rw [h1, hb] at h2; cases h2)).trans HX3.out
        have HO5 := Lib.hid (HO3.out.kept_ hgrow5 (fun i e => by have := Option.some.inj e; have := HML3.out; omega))
        have HK5 := Lib.hid (HK3.out.grown (Nat.le_refl _) hgrow5 (fun i e => .inl (Option.some.inj e).symm))
        have HW5 : Hid (Below w1.heap.size w1 w5) := HW3.out.grown hgrow5 HW3.out.size (fun i e => by have := Option.some.inj e; have := HMW.out; omega)
        clear hown5 hgrow5 HX3 HO3 HM3 HK3 HW3 HD a0 a1 a2 a3 a4 a5 a6 a7 a8 a9 a10 a11
        obtain ⟨a0, a1, a2, a3, a4, a5, a6, a7, a8, a9, a10, a11⟩ := HX5.out.c
        have hal : Below w5.heap.size w5 (w5.alloc (.cells #[.string x.site, .int .i64 x.no, .int .i64 x.at_, .int .i64 x.kind, .string x.id, .string x.fld, .string x.val, .int .i64 x.from_, .int .i64 x.to_, .string x.osite, .int .i64 x.ono, .string x.sum] 40)) := (Below.refl _ _).alloc (Nat.le_refl _) _
        have HOA := Lib.hid (HO5.out.below_ hal)
        have HMA := Lib.hid (HM5.out.below hal)
        have HKA := Lib.hid (HK5.out.below (Nat.le_refl _) hal)
        have HWA := Lib.hid (HW5.out.trans (hal.mono HW5.out.size))
        have HONE : Hid (ElemsAt DeedE (w5.alloc (.cells #[.string x.site, .int .i64 x.no, .int .i64 x.at_, .int .i64 x.kind, .string x.id, .string x.fld, .string x.val, .int .i64 x.from_, .int .i64 x.to_, .string x.osite, .int .i64 x.ono, .string x.sum] 40)) (some ⟨w5.heap.size, 0, none⟩) 1 1 [x]) := one_elem (E := DeedE) w5 x
        have hzz := HKA.out.size
        clear hal HO5 HM5 HK5 HW5
        go_wp2_with (at_builtin; refine append_elems deedE_ok rfl _ _ rfl w3.heap.size u8 O rfl HOA.out (some ⟨w5.heap.size, 0, none⟩) 1 1 [x] rfl HONE.out (by simp; omega) hzz ?_; intro v6 w6 hown6 hgrow6 hv6)
        have HO6 := Lib.hid hown6
        have HOL : Hid (∀ i, u8.ownBlock = some i → w3.heap.size ≤ i) := fun i e => (HOA.out.lt i e).1
        have HM6 := Lib.hid (HMA.out.kept hgrow6 (fun e => by have := HOL.out M e; have := HML3.out; omega))
        have HK6 := Lib.hid (HKA.out.grown (Nat.le_refl _) hgrow6 (fun i e => .inr (HOL.out i e)))
        have HW6 : Hid (Below w1.heap.size w1 w6) := HWA.out.grown hgrow6 HWA.out.size (fun i e => by have := HOL.out i e; have := HML3.out; have := HMW.out; omega)
        clear hown6 hgrow6 hv6
        go_wp2_with fail
        go_roundg (gk - 1)
        case measure => exact Nat.sub_lt HGK.out.2 Nat.one_pos
        case rel => exact ⟨k + 1, O ++ [x], HGK.out.1, by go_num, HO6.out, HSN.out, HM6.out, HK6.out, HW6.out⟩
    · have hnk : ¬ (k : Int) < (N : Int) := by omega
      have hta : (a ++ b).take k = a ++ b := List.take_of_length_le (by have := HLL.out; omega)
      have hst := HS.out
      rw [hta] at hst
      have HSU := Lib.hid hst
      have hol : O.length ≤ 2000 := by have := hst.2.2; omega
      obtain ⟨A6, c6, hv6, -, hat6, -⟩ := HO.out.at_ deedE_ok
      have HO2' := HO.out
      rw [hv6] at HO2'
      have HSO := Lib.hid (sortM_any w3.heap.size O.length c6 A6 O wr rfl HO2' (by omega))
      have HOL : Hid (∀ i, (Value.slice A6 O.length c6).ownBlock = some i → w1.heap.size ≤ i) := fun i e => by have := (HO2'.lt i e).1; have := HML3.out; have := HMW.out; omega
      have HOLE : Hid (O.length ≤ 2000) := hol
      clear HO2' hat6 hst hta HS HK HO HM HKB
      subst hv6
      obtain ⟨m, hm⟩ : ∃ m, m = O.length := ⟨_, rfl⟩
      rw [← hm] at HSO HOL hol ⊢
      clear hm
      go_wp2_with fail
      refine HSO.out.mono ?_
      rintro e w4 ⟨rfl, ⟨L, hperm, hsort, hatL⟩, hg4⟩
      have hstr : L.Pairwise StLt := sorted_strict hperm hsort (fun x hx y hy h1 h2 => HF.out.uniq x ((HSU.out.2.1 x).1 hx) y ((HSU.out.2.1 y).1 hy) h1 h2) HSU.out.1
      have hmem : ∀ x, x ∈ L ↔ x ∈ a ∨ x ∈ b := fun x => by rw [hperm.mem_iff, HSU.out.2.1 x, List.mem_append]
      have hll : L.length ≤ 2000 := by rw [hperm.length_eq]; exact HOLE.out
      have HRL := Lib.hid (HF.out.all L hstr hmem hll)
      have HML := Lib.hid hmem
      have HW4 : Hid (Below w1.heap.size w1 w4) := HW.out.grown hg4 HW.out.size (fun i e => HOL.out i e)
      have HB4 : Hid (Below w.heap.size w w4) := HB1.out.trans (HW4.out.mono HB1.out.size)
      have HATL := Lib.hid hatL
      have HFO := Lib.hid (listError_ok _ _ _ _ (HLE.out w4 HB4.out A6 m c6 L hatL HRL.out))
      clear hperm hsort hatL hg4 hstr hmem hll HSO
      go_wp2_with fail
      refine HFO.out.mono ?_
      rintro e w5 ⟨rfl, hb5⟩
      have HP : Hid (MergeMPost w a b (.returned (.tuple #[.slice A6 m c6, .int .i64 0])) w5) := ⟨A6, m, c6, L, rfl, ElemsAt.keep HATL.out hb5, HRL.out, HML.out, HB4.out.trans (hb5.mono HB4.out.size)⟩
      clear hb5
      go_wp2_with fail
      go_ret2
      exact HP.out
end Go.Proofs.YthogkcgklakibaaGreatDoor

namespace Go.Proofs.YthogkcgklakibaaGreatDoor
open Go.RowKit Go.Maps
attribute [local go_sem ↓] Go.wp_at_zero Go.wp_at_succ

def VecPost (w : World) (l : List Deed) (e : Ending) (w' : World) : Prop := ∃ A n c S, e = .returned (.tuple #[.slice A n c, .int .i64 0]) ∧ StampsAt w' A n c S ∧ VecD l S ∧ Below w.heap.size w w'
set_option maxHeartbeats 6400000 in
set_option maxRecDepth 100000 in
theorem vector_any (A : Option Addr) (n c : Nat) (l : List Deed) (w : World) (h : DeedsAt w A n c l) (hl : RightD l) (hLE : CheckOk w A n c) :
    Calls Tryz.prog 18 #[.slice A n c] w (VecPost w l) := by
  have HN : Hid (n = l.length) := h.1
  have HL := Lib.hid hl
  have hn : n ≤ 2000 := by have := hl.few; have := h.1; omega
  have HLE := Lib.hid (listError_ok A n c w hLE)
  have HAT0 := Lib.hid h
  clear h hl hLE
  go_enter Tryz.func18, Tryz.ntmps18
  go_wp2_with fail
  refine HLE.out.mono ?_
  rintro e w1 ⟨rfl, hb1⟩
  have HB1 := Lib.hid hb1
  have HAT := Lib.hid (ElemsAt.keep HAT0.out hb1)
  clear hb1 HLE HAT0
  go_wp2_with fail
  go_loopg [5, 15] n (fun gk v5 v wr => ∃ (k : Nat) (S : List StP), Hid (k + gk = n) ∧ v = .int .i64 (k : Int) ∧ Hid (Owns StampE wr w1.heap.size v5 S) ∧ Hid (VecI l k S) ∧ Hid (Below w1.heap.size w1 wr))
  case atStart => exact ⟨0, [], show 0 + n = n by omega, rfl, Owns.nil _ _, VecI.start l, Below.refl _ _⟩
  case round =>
    obtain ⟨k, S, HK, rfl, HO, HI, HW⟩ := hrel
    have hkn : k ≤ n := by have := HK.out; omega
    by_cases hlt : k < n
    · have HGK := Lib.hid (show k + 1 + (gk - 1) = n ∧ 0 < gk by have := HK.out; omega)
      obtain ⟨g, off, rfl, hg, hc⟩ := (ElemsAt.keep HAT.out HW.out).deed (by omega)
      have hkl : k < l.length := by have := HN.out; omega
      obtain ⟨x, hx⟩ : ∃ x, l[k]? = some x := ⟨_, List.getElem?_eq_getElem hkl⟩
      obtain ⟨c0, c1', c2, c3, c4, c5, c6, c7, c8, c9, c10, c11⟩ := hc k x hx
      have HX := Lib.hid hx
      have HNX : Hid (∀ wx, Below wr.heap.size wr wx → ∀ y, l[k + 1]? = some y → wx.cell? ⟨g, off + (k + 1) * 12, none⟩ = some (.string y.site)) := fun wx hwx y hy => by
        obtain ⟨e0, -⟩ := hc (k + 1) y hy
        exact (hwx.cell (p := ⟨g, off + (k + 1) * 12, none⟩) hg).trans e0
      have hal : Below wr.heap.size wr (wr.alloc (.cells #[.string x.site, .int .i64 x.no, .int .i64 x.at_, .int .i64 x.kind, .string x.id, .string x.fld, .string x.val, .int .i64 x.from_, .int .i64 x.to_, .string x.osite, .int .i64 x.ono, .string x.sum] 40)) := (Below.refl _ _).alloc (Nat.le_refl _) _
      have HX1 : Hid (DeedAt (wr.alloc (.cells #[.string x.site, .int .i64 x.no, .int .i64 x.at_, .int .i64 x.kind, .string x.id, .string x.fld, .string x.val, .int .i64 x.from_, .int .i64 x.to_, .string x.osite, .int .i64 x.ono, .string x.sum] 40)) wr.heap.size x) := deed_new wr x
      have HO1 := Lib.hid (HO.out.below_ hal)
      have HW1 := Lib.hid (HW.out.trans (hal.mono HW.out.size))
      have HNX1 := Lib.hid (HNX.out _ hal)
      have hw1 : IntKind.i64.wrap ((k : Int) + 1) = (k : Int) + 1 := i64_small _ (by omega) (by omega)
      have hwn : IntKind.i64.wrap (n : Int) = (n : Int) := i64_small _ (by omega) (by omega)
      clear hc hkl hx hg hal HO HK HW HNX
      go_upto_region 8 with (fail)
      obtain ⟨P, hP⟩ : ∃ P, P = wr.heap.size := ⟨_, rfl⟩
      rw [← hP] at HX1 ⊢
      generalize wr.alloc (.cells #[.string x.site, .int .i64 x.no, .int .i64 x.at_, .int .i64 x.kind, .string x.id, .string x.fld, .string x.val, .int .i64 x.from_, .int .i64 x.to_, .string x.osite, .int .i64 x.ono, .string x.sum] 40) = w2 at *
      clear hP c0 c1' c2 c3 c4 c5 c6 c7 c8 c9 c10 c11
      by_cases hl1 : k + 1 = n
      · have hl1i : (k : Int) + 1 = (n : Int) := by omega
        have hl1b : ((k : Int) + 1 == (n : Int)) = true := by simpa using hl1i
        refine wp_region_held_drew (S := fun w' => w'.cell? ⟨P, 0, none⟩ = some (.string x.site)) (by kernel_rfl) HX1.out.c.1 (fun hHeld => ?_)
        refine wpAnyH_take (i := 0) (oi := ⟨some 20, _, _, _, _, _⟩) (v := ?_) rfl (by kernel_rfl) (by kernel_rfl) (by kernel_rfl) (fun _ _ _ h => h) (Or.inl ⟨by rfl, ?_⟩) hHeld ?_
        rotate_left
        · (intro w hSw; (try dsimp only at hSw); go_simp; (try (with_reducible rfl)))
        (try simp only [Act.put, List.setIfInBounds_toArray, List.set_cons_zero, List.set_cons_succ])
        refine wpAnyH_take (i := 1) (oi := ⟨some 21, _, _, _, _, _⟩) (v := ?_) rfl (by kernel_rfl) (by kernel_rfl) (by kernel_rfl) (fun _ _ _ h => h) (Or.inl ⟨by rfl, ?_⟩) hHeld ?_
        rotate_left
        · (intro w hSw; (try dsimp only at hSw); go_simp; (try (with_reducible rfl)))
        (try simp only [Act.put, List.setIfInBounds_toArray, List.set_cons_zero, List.set_cons_succ])
        refine wpAnyH_take (i := 2) (oi := ⟨some 22, _, _, _, _, _⟩) (v := ?_) rfl (by kernel_rfl) (by kernel_rfl) (by kernel_rfl) (fun _ _ _ h => h) (Or.inl ⟨by rfl, ?_⟩) hHeld ?_
        rotate_left
        · (intro w hSw; (try dsimp only at hSw); go_simp; (try (with_reducible rfl)))
        (try simp only [Act.put, List.setIfInBounds_toArray, List.set_cons_zero, List.set_cons_succ])
        refine wpAnyH_take (i := 3) (oi := ⟨some 23, _, _, _, _, _⟩) (v := ?_) rfl (by kernel_rfl) (by kernel_rfl) (by kernel_rfl) (fun _ _ _ h => h) (Or.inl ⟨by rfl, ?_⟩) hHeld ?_
        rotate_left
        · (intro w hSw; (try dsimp only at hSw); go_simp; (try (with_reducible rfl)))
        (try simp only [Act.put, List.setIfInBounds_toArray, List.set_cons_zero, List.set_cons_succ])
        refine wpAnyH_take (i := 4) (oi := ⟨some 24, _, _, _, _, _⟩) (v := .bool true) rfl (by kernel_rfl) (by kernel_rfl) (by kernel_rfl) (fun _ _ _ h => h) (Or.inl ⟨by rfl, ?_⟩) hHeld ?_
        · (intro w hSw; (try dsimp only at hSw); go_simp; (try (with_reducible rfl)))
        (try simp only [Act.put, List.setIfInBounds_toArray, List.set_cons_zero, List.set_cons_succ])
        refine wpAnyH_take (i := 5) (oi := ⟨some 25, _, _, _, _, _⟩) (v := .bool true) rfl (by kernel_rfl) (by kernel_rfl) (by kernel_rfl) (fun _ _ _ h => h) (Or.inl ⟨by rfl, ?_⟩) hHeld ?_
        · (intro w hSw; (try dsimp only at hSw); go_simp; (try (with_reducible rfl)))
        (try simp only [Act.put, List.setIfInBounds_toArray, List.set_cons_zero, List.set_cons_succ])
        refine wpAnyH_take (i := 6) (oi := ⟨some 26, _, _, _, _, _⟩) (v := undef) rfl (by kernel_rfl) (by kernel_rfl) (by kernel_rfl) (fun _ _ _ h => h) (Or.inr ⟨by rfl, rfl⟩) hHeld ?_
        (try simp only [Act.put, List.setIfInBounds_toArray, List.set_cons_zero, List.set_cons_succ])
        refine wpAnyH_take (i := 7) (oi := ⟨some 27, _, _, _, _, _⟩) (v := undef) rfl (by kernel_rfl) (by kernel_rfl) (by kernel_rfl) (fun _ _ _ h => h) (Or.inr ⟨by rfl, rfl⟩) hHeld ?_
        (try simp only [Act.put, List.setIfInBounds_toArray, List.set_cons_zero, List.set_cons_succ])
        refine wpAnyH_take (i := 8) (oi := ⟨some 28, _, _, _, _, _⟩) (v := undef) rfl (by kernel_rfl) (by kernel_rfl) (by kernel_rfl) (fun _ _ _ h => h) (Or.inr ⟨by rfl, rfl⟩) hHeld ?_
        (try simp only [Act.put, List.setIfInBounds_toArray, List.set_cons_zero, List.set_cons_succ])
        refine wpAnyH_take (i := 9) (oi := ⟨some 29, _, _, _, _, _⟩) (v := undef) rfl (by kernel_rfl) (by kernel_rfl) (by kernel_rfl) (fun _ _ _ h => h) (Or.inr ⟨by rfl, rfl⟩) hHeld ?_
        (try simp only [Act.put, List.setIfInBounds_toArray, List.set_cons_zero, List.set_cons_succ])
        refine wpAnyH_take (i := 10) (oi := ⟨some 30, _, _, _, _, _⟩) (v := undef) rfl (by kernel_rfl) (by kernel_rfl) (by kernel_rfl) (fun _ _ _ h => h) (Or.inr ⟨by rfl, rfl⟩) hHeld ?_
        (try simp only [Act.put, List.setIfInBounds_toArray, List.set_cons_zero, List.set_cons_succ])
        refine wpAnyH_take (i := 11) (oi := ⟨some 31, _, _, _, _, _⟩) (v := undef) rfl (by kernel_rfl) (by kernel_rfl) (by kernel_rfl) (fun _ _ _ h => h) (Or.inr ⟨by rfl, rfl⟩) hHeld ?_
        (try simp only [Act.put, List.setIfInBounds_toArray, List.set_cons_zero, List.set_cons_succ])
        refine wpAnyH_take (i := 12) (oi := ⟨some 32, _, _, _, _, _⟩) (v := undef) rfl (by kernel_rfl) (by kernel_rfl) (by kernel_rfl) (fun _ _ _ h => h) (Or.inr ⟨by rfl, rfl⟩) hHeld ?_
        (try simp only [Act.put, List.setIfInBounds_toArray, List.set_cons_zero, List.set_cons_succ])
        refine wpAnyH_take (i := 13) (oi := ⟨some 33, _, _, _, _, _⟩) (v := undef) rfl (by kernel_rfl) (by kernel_rfl) (by kernel_rfl) (fun _ _ _ h => h) (Or.inr ⟨by rfl, rfl⟩) hHeld ?_
        (try simp only [Act.put, List.setIfInBounds_toArray, List.set_cons_zero, List.set_cons_succ])
        refine wpAnyH_take (i := 14) (oi := ⟨some 34, _, _, _, _, _⟩) (v := undef) rfl (by kernel_rfl) (by kernel_rfl) (by kernel_rfl) (fun _ _ _ h => h) (Or.inr ⟨by rfl, rfl⟩) hHeld ?_
        (try simp only [Act.put, List.setIfInBounds_toArray, List.set_cons_zero, List.set_cons_succ])
        refine wpAnyH_take (i := 15) (oi := ⟨some 35, _, _, _, _, _⟩) (v := undef) rfl (by kernel_rfl) (by kernel_rfl) (by kernel_rfl) (fun _ _ _ h => h) (Or.inr ⟨by rfl, rfl⟩) hHeld ?_
        (try simp only [Act.put, List.setIfInBounds_toArray, List.set_cons_zero, List.set_cons_succ])
        refine wpAnyH_take (i := 16) (oi := ⟨some 36, _, _, _, _, _⟩) (v := undef) rfl (by kernel_rfl) (by kernel_rfl) (by kernel_rfl) (fun _ _ _ h => h) (Or.inr ⟨by rfl, rfl⟩) hHeld ?_
        (try simp only [Act.put, List.setIfInBounds_toArray, List.set_cons_zero, List.set_cons_succ])
        refine wpAnyH_take (i := 17) (oi := ⟨some 37, _, _, _, _, _⟩) (v := ?_) rfl (by kernel_rfl) (by kernel_rfl) (by kernel_rfl) (fun _ _ _ h => h) (Or.inl ⟨by rfl, ?_⟩) hHeld ?_
        rotate_left
        · (intro w hSw; (try dsimp only at hSw); go_simp; (try (with_reducible rfl)))
        (try simp only [Act.put, List.setIfInBounds_toArray, List.set_cons_zero, List.set_cons_succ])
        refine wpAnyH_done (by kernel_rfl) ?_ _
        obtain ⟨w3, hw3⟩ : ∃ w3, w3 = w2.drew := ⟨_, rfl⟩
        rw [← hw3]
        have HX1 := Lib.hid HX1.out.drewD
        have HO1 : Hid (Owns StampE w2.drew w1.heap.size u5 S) := HO1.out
        have HW1 := Lib.hid HW1.out.drew
        rw [← hw3] at HX1 HO1 HW1
        clear hw3
        obtain ⟨a0, a1, a2, a3, a4, a5, a6, a7, a8, a9, a10, a11⟩ := HX1.out.c
        have HIZ := Lib.hid (VecI.snoc HI.out HX.out (fun e he => by have := (List.getElem?_eq_some_iff.1 he).1; have := HN.out; omega))
        have hal : Below w3.heap.size w3 (w3.alloc (.cells #[.string x.site, .int .i64 x.no] 36)) := (Below.refl _ _).alloc (Nat.le_refl _) _
        have HOA := Lib.hid (HO1.out.below_ hal)
        have HWA := Lib.hid (HW1.out.trans (hal.mono HW1.out.size))
        have HONE : Hid (ElemsAt StampE (w3.alloc (.cells #[.string x.site, .int .i64 x.no] 36)) (some ⟨w3.heap.size, 0, none⟩) 1 1 [(x.site, x.no)]) := one_elem (E := StampE) w3 (x.site, x.no)
        have hol : S.length ≤ 2000 := by have := HI.out.len; omega
        have hzz := HWA.out.size
        clear hal
        go_wp2_with (at_builtin; refine append_elems stampE_ok rfl _ _ rfl w1.heap.size u5 S rfl HOA.out (some ⟨w3.heap.size, 0, none⟩) 1 1 [(x.site, x.no)] rfl HONE.out (by simp; omega) hzz ?_; intro v6 w6 hown6 hgrow6 hv6)
        have HO6 := Lib.hid hown6
        have HW6 : Hid (Below w1.heap.size w1 w6) := HWA.out.grown hgrow6 HWA.out.size (fun i e => (HOA.out.lt i e).1)
        clear hown6 hgrow6 hv6
        go_wp2_with fail
        go_roundg (gk - 1)
        case measure => exact Nat.sub_lt HGK.out.2 Nat.one_pos
        case rel => exact ⟨k + 1, S ++ [(x.site, x.no)], HGK.out.1, by go_num, HO6.out, HIZ.out, HW6.out⟩
      · have hl1i : ¬ (k : Int) + 1 = (n : Int) := by omega
        have hl1b : ((k : Int) + 1 == (n : Int)) = false := by simpa using hl1i
        have hkl : k + 1 < l.length := by have := HN.out; omega
        obtain ⟨y, hy⟩ : ∃ y, l[k + 1]? = some y := ⟨_, List.getElem?_eq_getElem hkl⟩
        have hcy := HNX1.out y hy
        have hk0 : (0 : Int) ≤ (k : Int) + 1 := by omega
        have hk1 : (k : Int) + 1 < (n : Int) := by omega
        have HY := Lib.hid hy
        obtain ⟨q, hq⟩ : ∃ q, q = (y.site.toList == x.site.toList) := ⟨_, rfl⟩
        have hqn : (y.site.toList != x.site.toList) = !q := by rw [hq]; rfl
        have HQ : Hid (q = decide (y.site = x.site)) := by show _ = _; rw [hq, toList_beq]
        have hqe := hq.symm
        clear hq
        refine wp_region_held_drew (S := fun w' => w'.cell? ⟨P, 0, none⟩ = some (.string x.site) ∧ w'.cell? ⟨g, off + (k + 1) * 12, none⟩ = some (.string y.site)) (by kernel_rfl) ⟨HX1.out.c.1, hcy⟩ (fun hHeld => ?_)
        refine wpAnyH_take (i := 0) (oi := ⟨some 20, _, _, _, _, _⟩) (v := ?_) rfl (by kernel_rfl) (by kernel_rfl) (by kernel_rfl) (fun _ _ _ h => h) (Or.inl ⟨by rfl, ?_⟩) hHeld ?_
        rotate_left
        · (intro w hSw; (try dsimp only at hSw); go_simp; (try (with_reducible rfl)))
        (try simp only [Act.put, List.setIfInBounds_toArray, List.set_cons_zero, List.set_cons_succ])
        refine wpAnyH_take (i := 1) (oi := ⟨some 21, _, _, _, _, _⟩) (v := ?_) rfl (by kernel_rfl) (by kernel_rfl) (by kernel_rfl) (fun _ _ _ h => h) (Or.inl ⟨by rfl, ?_⟩) hHeld ?_
        rotate_left
        · (intro w hSw; (try dsimp only at hSw); go_simp; (try (with_reducible rfl)))
        (try simp only [Act.put, List.setIfInBounds_toArray, List.set_cons_zero, List.set_cons_succ])
        refine wpAnyH_take (i := 2) (oi := ⟨some 22, _, _, _, _, _⟩) (v := ?_) rfl (by kernel_rfl) (by kernel_rfl) (by kernel_rfl) (fun _ _ _ h => h) (Or.inl ⟨by rfl, ?_⟩) hHeld ?_
        rotate_left
        · (intro w hSw; (try dsimp only at hSw); go_simp; (try (with_reducible rfl)))
        (try simp only [Act.put, List.setIfInBounds_toArray, List.set_cons_zero, List.set_cons_succ])
        refine wpAnyH_take (i := 3) (oi := ⟨some 23, _, _, _, _, _⟩) (v := ?_) rfl (by kernel_rfl) (by kernel_rfl) (by kernel_rfl) (fun _ _ _ h => h) (Or.inl ⟨by rfl, ?_⟩) hHeld ?_
        rotate_left
        · (intro w hSw; (try dsimp only at hSw); go_simp; (try (with_reducible rfl)))
        (try simp only [Act.put, List.setIfInBounds_toArray, List.set_cons_zero, List.set_cons_succ])
        refine wpAnyH_take (i := 4) (oi := ⟨some 24, _, _, _, _, _⟩) (v := .bool false) rfl (by kernel_rfl) (by kernel_rfl) (by kernel_rfl) (fun _ _ _ h => h) (Or.inl ⟨by rfl, ?_⟩) hHeld ?_
        · (intro w hSw; (try dsimp only at hSw); go_simp; (try (with_reducible rfl)))
        (try simp only [Act.put, List.setIfInBounds_toArray, List.set_cons_zero, List.set_cons_succ])
        refine wpAnyH_take (i := 5) (oi := ⟨some 25, _, _, _, _, _⟩) (v := .bool false) rfl (by kernel_rfl) (by kernel_rfl) (by kernel_rfl) (fun _ _ _ h => h) (Or.inl ⟨by rfl, ?_⟩) hHeld ?_
        · (intro w hSw; (try dsimp only at hSw); go_simp; (try (with_reducible rfl)))
        (try simp only [Act.put, List.setIfInBounds_toArray, List.set_cons_zero, List.set_cons_succ])
        refine wpAnyH_take (i := 6) (oi := ⟨some 26, _, _, _, _, _⟩) (v := ?_) rfl (by kernel_rfl) (by kernel_rfl) (by kernel_rfl) (fun _ _ _ h => h) (Or.inl ⟨by rfl, ?_⟩) hHeld ?_
        rotate_left
        · (intro w hSw; (try dsimp only at hSw); go_simp; (try (with_reducible rfl)))
        (try simp only [Act.put, List.setIfInBounds_toArray, List.set_cons_zero, List.set_cons_succ])
        refine wpAnyH_take (i := 7) (oi := ⟨some 27, _, _, _, _, _⟩) (v := ?_) rfl (by kernel_rfl) (by kernel_rfl) (by kernel_rfl) (fun _ _ _ h => h) (Or.inl ⟨by rfl, ?_⟩) hHeld ?_
        rotate_left
        · (intro w hSw; (try dsimp only at hSw); go_simp; (try (with_reducible rfl)))
        (try simp only [Act.put, List.setIfInBounds_toArray, List.set_cons_zero, List.set_cons_succ])
        refine wpAnyH_take (i := 8) (oi := ⟨some 28, _, _, _, _, _⟩) (v := ?_) rfl (by kernel_rfl) (by kernel_rfl) (by kernel_rfl) (fun _ _ _ h => h) (Or.inl ⟨by rfl, ?_⟩) hHeld ?_
        rotate_left
        · (intro w hSw; (try dsimp only at hSw); go_simp; (try (with_reducible rfl)))
        (try simp only [Act.put, List.setIfInBounds_toArray, List.set_cons_zero, List.set_cons_succ])
        refine wpAnyH_take (i := 9) (oi := ⟨some 29, _, _, _, _, _⟩) (v := ?_) rfl (by kernel_rfl) (by kernel_rfl) (by kernel_rfl) (fun _ _ _ h => h) (Or.inl ⟨by rfl, ?_⟩) hHeld ?_
        rotate_left
        · (intro w hSw; (try dsimp only at hSw); go_simp; (try (with_reducible rfl)))
        (try simp only [Act.put, List.setIfInBounds_toArray, List.set_cons_zero, List.set_cons_succ])
        refine wpAnyH_take (i := 10) (oi := ⟨some 30, _, _, _, _, _⟩) (v := ?_) rfl (by kernel_rfl) (by kernel_rfl) (by kernel_rfl) (fun _ _ _ h => h) (Or.inl ⟨by rfl, ?_⟩) hHeld ?_
        rotate_left
        · (intro w hSw; (try dsimp only at hSw); go_simp; (try (with_reducible rfl)))
        (try simp only [Act.put, List.setIfInBounds_toArray, List.set_cons_zero, List.set_cons_succ])
        refine wpAnyH_take (i := 11) (oi := ⟨some 31, _, _, _, _, _⟩) (v := ?_) rfl (by kernel_rfl) (by kernel_rfl) (by kernel_rfl) (fun _ _ _ h => h) (Or.inl ⟨by rfl, ?_⟩) hHeld ?_
        rotate_left
        · (intro w hSw; (try dsimp only at hSw); go_simp; (try (with_reducible rfl)))
        (try simp only [Act.put, List.setIfInBounds_toArray, List.set_cons_zero, List.set_cons_succ])
        refine wpAnyH_take (i := 12) (oi := ⟨some 32, _, _, _, _, _⟩) (v := ?_) rfl (by kernel_rfl) (by kernel_rfl) (by kernel_rfl) (fun _ _ _ h => h) (Or.inl ⟨by rfl, ?_⟩) hHeld ?_
        rotate_left
        · (intro w hSw; (try dsimp only at hSw); go_simp; (try (with_reducible rfl)))
        (try simp only [Act.put, List.setIfInBounds_toArray, List.set_cons_zero, List.set_cons_succ])
        refine wpAnyH_take (i := 13) (oi := ⟨some 33, _, _, _, _, _⟩) (v := ?_) rfl (by kernel_rfl) (by kernel_rfl) (by kernel_rfl) (fun _ _ _ h => h) (Or.inl ⟨by rfl, ?_⟩) hHeld ?_
        rotate_left
        · (intro w hSw; (try dsimp only at hSw); go_simp; (try (with_reducible rfl)))
        (try simp only [Act.put, List.setIfInBounds_toArray, List.set_cons_zero, List.set_cons_succ])
        refine wpAnyH_take (i := 14) (oi := ⟨some 34, _, _, _, _, _⟩) (v := ?_) rfl (by kernel_rfl) (by kernel_rfl) (by kernel_rfl) (fun _ _ _ h => h) (Or.inl ⟨by rfl, ?_⟩) hHeld ?_
        rotate_left
        · (intro w hSw; (try dsimp only at hSw); go_simp; (try (with_reducible rfl)))
        (try simp only [Act.put, List.setIfInBounds_toArray, List.set_cons_zero, List.set_cons_succ])
        refine wpAnyH_take (i := 15) (oi := ⟨some 35, _, _, _, _, _⟩) (v := ?_) rfl (by kernel_rfl) (by kernel_rfl) (by kernel_rfl) (fun _ _ _ h => h) (Or.inl ⟨by rfl, ?_⟩) hHeld ?_
        rotate_left
        · (intro w hSw; (try dsimp only at hSw); go_simp; (try (with_reducible rfl)))
        (try simp only [Act.put, List.setIfInBounds_toArray, List.set_cons_zero, List.set_cons_succ])
        refine wpAnyH_take (i := 16) (oi := ⟨some 36, _, _, _, _, _⟩) (v := .bool !q) rfl (by kernel_rfl) (by kernel_rfl) (by kernel_rfl) (fun _ _ _ h => h) (Or.inl ⟨by rfl, ?_⟩) hHeld ?_
        · (intro w hSw; (try dsimp only at hSw); go_simp; (try (with_reducible rfl)))
        (try simp only [Act.put, List.setIfInBounds_toArray, List.set_cons_zero, List.set_cons_succ])
        refine wpAnyH_take (i := 17) (oi := ⟨some 37, _, _, _, _, _⟩) (v := .bool !q) rfl (by kernel_rfl) (by kernel_rfl) (by kernel_rfl) (fun _ _ _ h => h) (Or.inl ⟨by rfl, ?_⟩) hHeld ?_
        · (intro w hSw; (try dsimp only at hSw); go_simp; (try (with_reducible rfl)))
        (try simp only [Act.put, List.setIfInBounds_toArray, List.set_cons_zero, List.set_cons_succ])
        refine wpAnyH_done (by kernel_rfl) ?_ _
        obtain ⟨w3, hw3⟩ : ∃ w3, w3 = w2.drew := ⟨_, rfl⟩
        rw [← hw3]
        have HX1 := Lib.hid HX1.out.drewD
        have HO1 : Hid (Owns StampE w2.drew w1.heap.size u5 S) := HO1.out
        have HW1 := Lib.hid HW1.out.drew
        rw [← hw3] at HX1 HO1 HW1
        clear hw3 hqn hqe hy hcy
        obtain ⟨a0, a1, a2, a3, a4, a5, a6, a7, a8, a9, a10, a11⟩ := HX1.out.c
        cases q with
        | true =>
          have HIZ := Lib.hid (VecI.same HI.out HX.out HY.out (of_decide_eq_true HQ.out.symm))
          go_wp2_with fail
          go_roundg (gk - 1)
          case measure => exact Nat.sub_lt HGK.out.2 Nat.one_pos
          case rel => exact ⟨k + 1, S, HGK.out.1, by go_num, HO1.out, HIZ.out, HW1.out⟩
        | false =>
          have HIZ := Lib.hid (VecI.snoc HI.out HX.out (fun e he => by have := HY.out; rw [this] at he; cases he; exact site_next HL.out HX.out HY.out (of_decide_eq_false HQ.out.symm)))
          have hal : Below w3.heap.size w3 (w3.alloc (.cells #[.string x.site, .int .i64 x.no] 36)) := (Below.refl _ _).alloc (Nat.le_refl _) _
          have HOA := Lib.hid (HO1.out.below_ hal)
          have HWA := Lib.hid (HW1.out.trans (hal.mono HW1.out.size))
          have HONE : Hid (ElemsAt StampE (w3.alloc (.cells #[.string x.site, .int .i64 x.no] 36)) (some ⟨w3.heap.size, 0, none⟩) 1 1 [(x.site, x.no)]) := one_elem (E := StampE) w3 (x.site, x.no)
          have hol : S.length ≤ 2000 := by have := HI.out.len; omega
          have hzz := HWA.out.size
          clear hal
          go_wp2_with (at_builtin; refine append_elems stampE_ok rfl _ _ rfl w1.heap.size u5 S rfl HOA.out (some ⟨w3.heap.size, 0, none⟩) 1 1 [(x.site, x.no)] rfl HONE.out (by simp; omega) hzz ?_; intro v6 w6 hown6 hgrow6 hv6)
          have HO6 := Lib.hid hown6
          have HW6 : Hid (Below w1.heap.size w1 w6) := HWA.out.grown hgrow6 HWA.out.size (fun i e => (HOA.out.lt i e).1)
          clear hown6 hgrow6 hv6
          go_wp2_with fail
          go_roundg (gk - 1)
          case measure => exact Nat.sub_lt HGK.out.2 Nat.one_pos
          case rel => exact ⟨k + 1, S ++ [(x.site, x.no)], HGK.out.1, by go_num, HO6.out, HIZ.out, HW6.out⟩
    · have hnk : ¬ (k : Int) < (n : Int) := by omega
      have hke : k = l.length := by have := HN.out; omega
      obtain ⟨A6, c6, hv6, -, hat6, -⟩ := HO.out.at_ stampE_ok
      have HP : Hid (VecPost w l (.returned (.tuple #[.slice A6 S.length c6, .int .i64 0])) wr) := ⟨A6, _, c6, S, rfl, hat6, by have h := HI.out; rw [hke] at h; exact h.done HL.out, HB1.out.trans (HW.out.mono HB1.out.size)⟩
      clear hat6 HO
      subst hv6
      go_wp2_with fail
      go_ret2
      exact HP.out
end Go.Proofs.YthogkcgklakibaaGreatDoor

namespace Go.Proofs.YthogkcgklakibaaGreatDoor
open Go.RowKit Go.Maps
attribute [local go_sem ↓] Go.wp_at_zero Go.wp_at_succ

theorem first_3zd (g : Nat) (w : World) (h : g = w.heap.size) (t : TypeId) : Calls Tryz.prog 37 #[.slice (some ⟨g, 0, none⟩) 3 3] (w.alloc (.cells #[.int .i64 0, .int .i64 0, .int .i64 0] t)).drew fun e w' => e = .returned (.int .i64 0) ∧ w' = (w.alloc (.cells #[.int .i64 0, .int .i64 0, .int .i64 0] t)).drew := by
  subst h
  refine (first_any _ 3 3 [0, 0, 0] _ rfl (by omega) (fun j hj => ?_)).mono fun _ _ h => ⟨h.1, h.2.symm⟩
  show World.cell? (w.alloc _) _ = _
  rw [World.cell?_alloc_at _ _ _ _ rfl]
  match j, hj with
  | 0, _ => rfl
  | 1, _ => rfl
  | 2, _ => rfl
def SincePost (w : World) (U : List Deed) (S : List StP) (e : Ending) (w' : World) : Prop :=
  ∃ A n c k f, e = .returned (.tuple #[.slice A n c, .int .i64 0]) ∧ DeedsAt w' A n c (moreD U f) ∧ UpI S k f ∧ Below w.heap.size w w'
set_option maxHeartbeats 12800000 in
set_option maxRecDepth 100000 in
theorem since_any (A : Option Addr) (n c : Nat) (U : List Deed) (As : Option Addr) (ns cs : Nat) (S : List StP) (P0 : List Deed) (w : World) (hA : DeedsAt w A n c U) (hU : RightD U) (hS : StampsAt w As ns cs S) (hV : VecD P0 S) (hP0 : RightD P0) (hsub : ∀ x ∈ P0, x ∈ U) (hLE : CheckOk w A n c) :
    Calls Tryz.prog 19 #[.slice A n c, .slice As ns cs] w (SincePost w U S) := by
  have HN : Hid (n = U.length) := hA.1
  have HNS : Hid (ns = S.length) := hS.1
  have hn : n ≤ 2000 := by have := hU.few; have := hA.1; omega
  have hns : ns ≤ 2000 := by have := hV.len; have := hS.1; omega
  have HU := Lib.hid hU
  have HP0 := Lib.hid hP0
  have HVD := Lib.hid hV
  have HSUB := Lib.hid hsub
  have HLE := Lib.hid (listError_ok A n c w hLE)
  have HA0 := Lib.hid hA
  have HS0 := Lib.hid hS
  have hmm := @run_makeMap Tryz.prog
  clear hA hU hS hV hP0 hsub hLE
  go_enter Tryz.func19, Tryz.ntmps19
  go_wp2_with fail
  refine HLE.out.mono ?_
  rintro e w1 ⟨rfl, hb1⟩
  have HA1 := Lib.hid (ElemsAt.keep HA0.out hb1)
  have HS1 := Lib.hid (ElemsAt.keep HS0.out hb1)
  have HB1 := Lib.hid hb1
  clear hb1 HLE HA0 HS0
  go_wp2_with fail
  refine (byStamps_any A n c U w1 HA1.out HU.out).mono ?_
  rintro e w2 ⟨M, rfl, hm2, hb2⟩
  have HAT := Lib.hid (ElemsAt.keep HA1.out hb2)
  have HST := Lib.hid (ElemsAt.keep HS1.out hb2)
  have HM2 := Lib.hid hm2
  have HB2 := Lib.hid (HB1.out.trans (hb2.mono HB1.out.size))
  clear hm2 hb2 HA1 HS1 HB1
  have hbm : Below w2.heap.size w2 (w2.alloc (.map #[] 0)) := (Below.refl _ _).alloc (Nat.le_refl _) _
  have HC0 := Lib.hid (CutAt.start w2)
  go_wp2_with fail
  go_loopg [27] ns (fun gk v wr => ∃ (k m : Nat) (f : CutF), Hid (k + gk = ns) ∧ v = .int .i64 (k : Int) ∧ Hid (CutAt wr w2.heap.size m f) ∧ Hid (m ≤ k) ∧ Hid (UpI S k f) ∧ Hid (Below w2.heap.size w2 wr))
  case atStart => exact ⟨0, 0, _, show 0 + ns = ns by omega, rfl, HC0.out, Nat.le_refl 0, UpI.start S, hbm⟩
  case round =>
    obtain ⟨k, m, f, HK, rfl, HC, HMK, HI, HW⟩ := hrel
    clear hbm HC0
    have hkn : k ≤ ns := by have := HK.out; omega
    by_cases hlt : k < ns
    · have HGK := Lib.hid (show k + 1 + (gk - 1) = ns ∧ 0 < gk by have := HK.out; omega)
      obtain ⟨gs, offs, rfl, hgs, hcs⟩ := (ElemsAt.keep HST.out HW.out).stamp (by omega)
      have hkl : k < S.length := by have := HNS.out; omega
      obtain ⟨x, hx⟩ : ∃ x, S[k]? = some x := ⟨_, List.getElem?_eq_getElem hkl⟩
      obtain ⟨c0, c1'⟩ := hcs k x hx
      have HX := Lib.hid hx
      obtain ⟨d, hdP, hds, hdn⟩ := HVD.out.src x (List.mem_of_getElem? hx)
      have hdU := HSUB.out d hdP
      have HKEYD : Hid (keyL (byteL x.1) = true) := by show _ = _; rw [← hds]; exact HU.out.key d hdU
      have hxs : x.1.size ≤ 1000000 := by rw [← hds]; exact site_bound HU.out hdU
      have hxn : In64 x.2 := by rw [← hdn]; exact in64_no HU.out hdU
      have hf := findS_some HU.out hdU
      rw [hds, hdn] at hf
      have HFD := Lib.hid hf
      have HPRV : Hid (0 < k → ∃ p : StP, byteL p.1 < byteL x.1 ∧ ∀ wx, Below wr.heap.size wr wx → wx.cell? ⟨gs, offs + (k - 1) * 2, none⟩ = some (.string p.1)) := fun h0 => by
        obtain ⟨p, hp⟩ : ∃ p, S[k - 1]? = some p := ⟨_, List.getElem?_eq_getElem (by omega)⟩
        refine ⟨p, ?_, fun wx hwx => (hwx.cell (p := ⟨gs, offs + (k - 1) * 2, none⟩) hgs).trans (hcs (k - 1) p hp).1⟩
        obtain ⟨h1, rfl⟩ := List.getElem?_eq_some_iff.1 hp
        obtain ⟨h2, rfl⟩ := List.getElem?_eq_some_iff.1 hx
        exact List.pairwise_iff_getElem.1 HVD.out.ord (k - 1) k h1 h2 (by omega)
      have hal : Below wr.heap.size wr (wr.alloc (.cells #[.string x.1, .int .i64 x.2] 36)) := (Below.refl _ _).alloc (Nat.le_refl _) _
      have HSB : Hid (StB (wr.alloc (.cells #[.string x.1, .int .i64 x.2] 36)) wr.heap.size x.1 x.2) := heap_alloc_new wr _
      have HC1 := Lib.hid (HC.out.below hal)
      have HW1 := Lib.hid (HW.out.trans (hal.mono HW.out.size))
      have HPR1 : Hid (0 < k → ∃ p : StP, byteL p.1 < byteL x.1 ∧ ∀ wx, Below (wr.alloc (.cells #[.string x.1, .int .i64 x.2] 36)).heap.size (wr.alloc (.cells #[.string x.1, .int .i64 x.2] 36)) wx → wx.cell? ⟨gs, offs + (k - 1) * 2, none⟩ = some (.string p.1)) := fun h0 => by
        obtain ⟨p, h1, h2⟩ := HPRV.out h0
        exact ⟨p, h1, fun wx hwx => h2 wx (below_trans' hal hwx)⟩
      clear hcs hkl hx hgs hal HC HK HW HPRV hf hdP hds hdn hdU
      go_upto_region 9 with (fail)
      obtain ⟨P, hP⟩ : ∃ P, P = wr.heap.size := ⟨_, rfl⟩
      rw [← hP] at HSB ⊢
      generalize wr.alloc (.cells #[.string x.1, .int .i64 x.2] 36) = w4 at *
      clear hP c0 c1'
      obtain ⟨s0, s1⟩ := HSB.out.c
      have hlook : (Instr.lookup 89 (.map (some M)) (.agg #[.string x.1, .int .i64 x.2]) true).run Tryz.prog w4 = .ok (.tuple #[.agg #[.string d.site, .int .i64 d.no, .int .i64 d.at_, .int .i64 d.kind, .string d.id, .string d.fld, .string d.val, .int .i64 d.from_, .int .i64 d.to_, .string d.osite, .int .i64 d.ono, .string d.sum], .bool true]) w4 := (HM2.out.below HW1.out).hit hxs hxn 0 HFD.out
      have hal : Below w4.heap.size w4 (w4.alloc (.cells #[.string d.site, .int .i64 d.no, .int .i64 d.at_, .int .i64 d.kind, .string d.id, .string d.fld, .string d.val, .int .i64 d.from_, .int .i64 d.to_, .string d.osite, .int .i64 d.ono, .string d.sum] 40)) := (Below.refl _ _).alloc (Nat.le_refl _) _
      have HSB5 := Lib.hid (HSB.out.keep hal)
      have HC5 := Lib.hid (HC1.out.below hal)
      have HW5 := Lib.hid (HW1.out.trans (hal.mono HW1.out.size))
      have HPR5 : Hid (0 < k → ∃ p : StP, byteL p.1 < byteL x.1 ∧ ∀ wx, Below (w4.alloc (.cells #[.string d.site, .int .i64 d.no, .int .i64 d.at_, .int .i64 d.kind, .string d.id, .string d.fld, .string d.val, .int .i64 d.from_, .int .i64 d.to_, .string d.osite, .int .i64 d.ono, .string d.sum] 40)).heap.size (w4.alloc (.cells #[.string d.site, .int .i64 d.no, .int .i64 d.at_, .int .i64 d.kind, .string d.id, .string d.fld, .string d.val, .int .i64 d.from_, .int .i64 d.to_, .string d.osite, .int .i64 d.ono, .string d.sum] 40)) wx → wx.cell? ⟨gs, offs + (k - 1) * 2, none⟩ = some (.string p.1)) := fun h0 => by
        obtain ⟨p, h1, h2⟩ := HPR1.out h0
        exact ⟨p, h1, fun wx hwx => h2 wx (below_trans' hal hwx)⟩
      clear hal HSB HC1 HW1 HPR1
      go_upto_region 10 with (fail)
      generalize w4.alloc (.cells #[.string d.site, .int .i64 d.no, .int .i64 d.at_, .int .i64 d.kind, .string d.id, .string d.fld, .string d.val, .int .i64 d.from_, .int .i64 d.to_, .string d.osite, .int .i64 d.ono, .string d.sum] 40) = w5 at *
      clear hlook s0 s1
      obtain ⟨hs0, hs1⟩ := HSB5.out.c
      have hPl : P < w5.heap.size := (Array.getElem?_eq_some_iff.1 HSB5.out).1
      have HKY := Lib.hid (fun wx => key_any x.1 wx HKEYD.out)
      go_cut [13] (fun v13 wx => v13 = .int .i64 0 ∧ Hid (Below w5.heap.size w5 wx))
      case first =>
        by_cases h0 : k = 0
        · subst h0
          clear HPR5
          have HHELD : Hid (∀ w', Below w5.heap.size w5 w' → w'.cell? ⟨P, 0, none⟩ = some (.string x.1) ∧ Below w5.heap.size w5 w') := fun w' hb => ⟨(hb.cell (p := ⟨P, 0, none⟩) hPl).trans hs0, hb⟩
          have hbx : Below w5.heap.size w5 w5.drew := (Below.refl _ _).drew
          refine wp_region_held_drew (S := fun w' => w'.cell? ⟨P, 0, none⟩ = some (.string x.1) ∧ Below w5.heap.size w5 w') (by kernel_rfl) (HHELD.out _ hbx) (fun hHeld => ?_)
          refine wpAnyH_take (i := 0) (oi := ⟨some 38, _, _, _, _, _⟩) (v := ?_) rfl (by kernel_rfl) (by kernel_rfl) (by kernel_rfl) (fun _ _ _ h => h) (Or.inl ⟨by rfl, ?_⟩) hHeld ?_
          rotate_left
          · (intro w hSw; (try dsimp only at hSw); go_simp; (try (with_reducible rfl)))
          (try simp only [Act.put, List.setIfInBounds_toArray, List.set_cons_zero, List.set_cons_succ])
          refine wpAnyH_take (i := 1) (oi := ⟨some 39, _, _, _, _, _⟩) (v := ?_) rfl (by kernel_rfl) (by kernel_rfl) (by kernel_rfl) (fun _ _ _ h => h) (Or.inl ⟨by rfl, ?_⟩) hHeld ?_
          rotate_left
          · (intro w hSw; (try dsimp only at hSw); go_simp; (try (with_reducible rfl)))
          (try simp only [Act.put, List.setIfInBounds_toArray, List.set_cons_zero, List.set_cons_succ])
          refine wpAnyH_take (i := 5) (oi := ⟨some 43, _, _, _, _, _⟩) (v := ?_) rfl (by kernel_rfl) (by kernel_rfl) (by kernel_rfl) (fun _ _ _ h => h) (Or.inl ⟨by rfl, ?_⟩) hHeld ?_
          rotate_left
          · (intro w hSw; (try dsimp only at hSw); go_simp; (try (with_reducible rfl)))
          (try simp only [Act.put, List.setIfInBounds_toArray, List.set_cons_zero, List.set_cons_succ])
          refine wpAnyH_take (i := 6) (oi := ⟨some 44, _, _, _, _, _⟩) (v := ?_) rfl (by kernel_rfl) (by kernel_rfl) (by kernel_rfl) (fun _ _ _ h => h) (Or.inl ⟨by rfl, ?_⟩) hHeld ?_
          rotate_left
          · (intro w hSw; (try dsimp only at hSw); go_simp; (try (with_reducible rfl)))
          (try simp only [Act.put, List.setIfInBounds_toArray, List.set_cons_zero, List.set_cons_succ])
          refine wpAnyH_take (i := 20) (oi := ⟨some 58, _, _, _, _, _⟩) (v := ?_) rfl (by kernel_rfl) (by kernel_rfl) (by kernel_rfl) (fun _ _ _ h => h) (Or.inl ⟨by rfl, ?_⟩) hHeld ?_
          rotate_left
          · (intro w hSw; (try dsimp only at hSw); go_simp; (try (with_reducible rfl)))
          (try simp only [Act.put, List.setIfInBounds_toArray, List.set_cons_zero, List.set_cons_succ])
          refine wpAnyH_take (i := 21) (oi := ⟨some 59, _, _, _, _, _⟩) (v := ?_) rfl (by kernel_rfl) (by kernel_rfl) (by kernel_rfl) (fun _ _ _ h => h) (Or.inl ⟨by rfl, ?_⟩) hHeld ?_
          rotate_left
          · (intro w hSw; (try dsimp only at hSw); go_simp; (try (with_reducible rfl)))
          (try simp only [Act.put, List.setIfInBounds_toArray, List.set_cons_zero, List.set_cons_succ])
          refine wpAnyH_ready (rs := [2]) (by kernel_rfl) (by simp) ?_
          refine AllReadyH.cons (o := ⟨some 40, _, _, _, _, _⟩) rfl (fun K hK => ?_) AllReadyH.nil
          rw [if_pos (by rfl)]
          go_wp2_with fail
          refine Calls.mono (HKY.out _) ?_
          rintro e wq ⟨rfl, hwq⟩
          obtain rfl := hwq
          refine hK.out _ _ hHeld (fun hHeld => ?_)
          clear hK K
          (try simp only [Act.put, List.setIfInBounds_toArray, List.set_cons_zero, List.set_cons_succ])
          refine wpAnyH_take (i := 3) (oi := ⟨some 41, _, _, _, _, _⟩) (v := ?_) rfl (by kernel_rfl) (by kernel_rfl) (by kernel_rfl) (fun _ _ _ h => h) (Or.inl ⟨by rfl, ?_⟩) hHeld ?_
          rotate_left
          · (intro w hSw; (try dsimp only at hSw); go_simp; (try (with_reducible rfl)))
          (try simp only [Act.put, List.setIfInBounds_toArray, List.set_cons_zero, List.set_cons_succ])
          refine wpAnyH_ready (rs := [4]) (by kernel_rfl) (by simp) ?_
          refine AllReadyH.cons (o := ⟨some 42, _, _, _, _, _⟩) rfl (fun K hK => ?_) AllReadyH.nil
          rw [if_pos (by rfl)]
          go_wp2_with fail
          refine Calls.mono (when_none _ _) ?_
          rintro e wq ⟨rfl, hwq⟩
          obtain rfl := hwq.symm
          refine hK.out _ _ hHeld (fun hHeld => ?_)
          clear hK K
          (try simp only [Act.put, List.setIfInBounds_toArray, List.set_cons_zero, List.set_cons_succ])
          refine wpAnyH_take (i := 7) (oi := ⟨some 45, _, _, _, _, _⟩) (v := ?_) rfl (by kernel_rfl) (by kernel_rfl) (by kernel_rfl) (fun _ _ _ h => h) (Or.inl ⟨by rfl, ?_⟩) hHeld ?_
          rotate_left
          · (intro w hSw; (try dsimp only at hSw); go_simp; (try (with_reducible rfl)))
          (try simp only [Act.put, List.setIfInBounds_toArray, List.set_cons_zero, List.set_cons_succ])
          refine wpAnyH_take (i := 8) (oi := ⟨some 46, _, _, _, _, _⟩) (v := undef) rfl (by kernel_rfl) (by kernel_rfl) (by kernel_rfl) (fun _ _ _ h => h) (Or.inr ⟨by rfl, rfl⟩) hHeld ?_
          (try simp only [Act.put, List.setIfInBounds_toArray, List.set_cons_zero, List.set_cons_succ])
          refine wpAnyH_take (i := 9) (oi := ⟨some 47, _, _, _, _, _⟩) (v := undef) rfl (by kernel_rfl) (by kernel_rfl) (by kernel_rfl) (fun _ _ _ h => h) (Or.inr ⟨by rfl, rfl⟩) hHeld ?_
          (try simp only [Act.put, List.setIfInBounds_toArray, List.set_cons_zero, List.set_cons_succ])
          refine wpAnyH_take (i := 10) (oi := ⟨some 48, _, _, _, _, _⟩) (v := undef) rfl (by kernel_rfl) (by kernel_rfl) (by kernel_rfl) (fun _ _ _ h => h) (Or.inr ⟨by rfl, rfl⟩) hHeld ?_
          (try simp only [Act.put, List.setIfInBounds_toArray, List.set_cons_zero, List.set_cons_succ])
          refine wpAnyH_take (i := 11) (oi := ⟨some 49, _, _, _, _, _⟩) (v := undef) rfl (by kernel_rfl) (by kernel_rfl) (by kernel_rfl) (fun _ _ _ h => h) (Or.inr ⟨by rfl, rfl⟩) hHeld ?_
          (try simp only [Act.put, List.setIfInBounds_toArray, List.set_cons_zero, List.set_cons_succ])
          refine wpAnyH_take (i := 12) (oi := ⟨some 50, _, _, _, _, _⟩) (v := undef) rfl (by kernel_rfl) (by kernel_rfl) (by kernel_rfl) (fun _ _ _ h => h) (Or.inr ⟨by rfl, rfl⟩) hHeld ?_
          (try simp only [Act.put, List.setIfInBounds_toArray, List.set_cons_zero, List.set_cons_succ])
          refine wpAnyH_take (i := 13) (oi := ⟨some 51, _, _, _, _, _⟩) (v := undef) rfl (by kernel_rfl) (by kernel_rfl) (by kernel_rfl) (fun _ _ _ h => h) (Or.inr ⟨by rfl, rfl⟩) hHeld ?_
          (try simp only [Act.put, List.setIfInBounds_toArray, List.set_cons_zero, List.set_cons_succ])
          refine wpAnyH_take (i := 14) (oi := ⟨some 52, _, _, _, _, _⟩) (v := undef) rfl (by kernel_rfl) (by kernel_rfl) (by kernel_rfl) (fun _ _ _ h => h) (Or.inr ⟨by rfl, rfl⟩) hHeld ?_
          (try simp only [Act.put, List.setIfInBounds_toArray, List.set_cons_zero, List.set_cons_succ])
          refine wpAnyH_take (i := 15) (oi := ⟨some 53, _, _, _, _, _⟩) (v := undef) rfl (by kernel_rfl) (by kernel_rfl) (by kernel_rfl) (fun _ _ _ h => h) (Or.inr ⟨by rfl, rfl⟩) hHeld ?_
          (try simp only [Act.put, List.setIfInBounds_toArray, List.set_cons_zero, List.set_cons_succ])
          refine wpAnyH_take (i := 16) (oi := ⟨some 54, _, _, _, _, _⟩) (v := undef) rfl (by kernel_rfl) (by kernel_rfl) (by kernel_rfl) (fun _ _ _ h => h) (Or.inr ⟨by rfl, rfl⟩) hHeld ?_
          (try simp only [Act.put, List.setIfInBounds_toArray, List.set_cons_zero, List.set_cons_succ])
          refine wpAnyH_take (i := 17) (oi := ⟨some 55, _, _, _, _, _⟩) (v := undef) rfl (by kernel_rfl) (by kernel_rfl) (by kernel_rfl) (fun _ _ _ h => h) (Or.inr ⟨by rfl, rfl⟩) hHeld ?_
          (try simp only [Act.put, List.setIfInBounds_toArray, List.set_cons_zero, List.set_cons_succ])
          refine wpAnyH_take (i := 18) (oi := ⟨some 56, _, _, _, _, _⟩) (v := ?_) rfl (by kernel_rfl) (by kernel_rfl) (by kernel_rfl) (fun _ _ _ h => h) (Or.inl ⟨by rfl, ?_⟩) hHeld ?_
          rotate_left
          · (intro w hSw; (try dsimp only at hSw); go_simp; (try (with_reducible rfl)))
          (try simp only [Act.put, List.setIfInBounds_toArray, List.set_cons_zero, List.set_cons_succ])
          refine wpAnyH_ready (rs := [19]) (by kernel_rfl) (by simp) ?_
          refine AllReadyH.cons (o := ⟨some 57, _, _, _, _, _⟩) rfl (fun K hK => ?_) AllReadyH.nil
          rw [if_pos (by rfl)]
          go_wp2_with fail
          refine Calls.mono (when_none _ _) ?_
          rintro e wq ⟨rfl, hwq⟩
          obtain rfl := hwq.symm
          refine hK.out _ _ hHeld (fun hHeld => ?_)
          clear hK K
          (try simp only [Act.put, List.setIfInBounds_toArray, List.set_cons_zero, List.set_cons_succ])
          refine wpAnyH_ready (rs := [22]) (by kernel_rfl) (by simp) ?_
          refine AllReadyH.cons (o := ⟨some 60, _, _, _, _, _⟩) rfl (fun K hK => ?_) AllReadyH.nil
          rw [if_pos (by rfl)]
          go_wp2_with fail
          refine Calls.mono (when_none _ _) ?_
          rintro e wq ⟨rfl, hwq⟩
          obtain rfl := hwq.symm
          refine hK.out _ _ hHeld (fun hHeld => ?_)
          clear hK K
          (try simp only [Act.put, List.setIfInBounds_toArray, List.set_cons_zero, List.set_cons_succ])
          refine wpAnyH_ready (rs := [23]) (by kernel_rfl) (by simp) ?_
          refine AllReadyH.cons (o := ⟨some 61, _, _, _, _, _⟩) rfl (fun K hK => ?_) AllReadyH.nil
          rw [if_pos (by rfl)]
          go_simp
          have hbx := hbx.alloc hbx.size (.cells #[.int .i64 0, .int .i64 0, .int .i64 0] 29)
          refine hK.out _ _ (HHELD.out _ hbx) (fun hHeld => ?_)
          clear hK K
          (try simp only [Act.put, List.setIfInBounds_toArray, List.set_cons_zero, List.set_cons_succ])
          refine wpAnyH_ready (rs := [24]) (by kernel_rfl) (by simp) ?_
          refine AllReadyH.cons (o := ⟨some 62, _, _, _, _, _⟩) rfl (fun K hK => ?_) AllReadyH.nil
          rw [if_pos (by rfl)]
          go_wp2_with fail
          refine Calls.mono (first_3zd _ _ rfl _) ?_
          rintro e wq ⟨rfl, hwq⟩
          obtain rfl := hwq.symm
          refine hK.out _ _ hHeld (fun hHeld => ?_)
          clear hK K
          (try simp only [Act.put, List.setIfInBounds_toArray, List.set_cons_zero, List.set_cons_succ])
          refine wpAnyH_take (i := 25) (oi := ⟨some 13, _, _, _, _, _⟩) (v := ?_) rfl (by kernel_rfl) (by kernel_rfl) (by kernel_rfl) (fun _ _ _ h => h) (Or.inl ⟨by rfl, ?_⟩) hHeld ?_
          rotate_left
          · (intro w hSw; (try dsimp only at hSw); go_simp; (try (with_reducible rfl)))
          (try simp only [Act.put, List.setIfInBounds_toArray, List.set_cons_zero, List.set_cons_succ])
          refine wpAnyH_done (by kernel_rfl) ?_ _
          go_wp2_with fail
          go_meet
          exact ⟨rfl, hbx⟩
        · have hk0 : (0 : Int) < (k : Int) := by omega
          have hk1 : 0 < k := by omega
          obtain ⟨p, hlt1, hcp⟩ := HPR5.out hk1
          have hmax : max (k : Int) 1 = (k : Int) := by omega
          have hwr : IntKind.i64.wrap ((k : Int) - 1) = (k : Int) - 1 := IntWalk.i64_in _ (by omega)
          have hi0 : (0 : Int) ≤ (k : Int) - 1 := by omega
          have hi1 : (k : Int) - 1 < (ns : Int) := by omega
          have hk1i : (1 : Int) ≤ (k : Int) := by omega
          have HCP := Lib.hid hcp
          have hle : (Op.bytesLess x.1.toList p.1.toList || x.1.toList == p.1.toList) = false := by
            rw [Bool.or_eq_false_iff, bytesLess_eq, decide_eq_false_iff_not, Lib.toList_data, Lib.toList_data]
            refine ⟨fun h => List.lt_irrefl _ (List.lt_trans h hlt1), ?_⟩
            simp only [beq_eq_false_iff_ne]
            intro h
            rw [show byteL p.1 = byteL x.1 from h.symm] at hlt1
            exact List.lt_irrefl _ hlt1
          clear hcp hlt1 HPR5
          have HHELD : Hid (∀ w', Below w5.heap.size w5 w' → w'.cell? ⟨P, 0, none⟩ = some (.string x.1) ∧ w'.cell? ⟨gs, offs + (k - 1) * 2, none⟩ = some (.string p.1) ∧ Below w5.heap.size w5 w') := fun w' hb => ⟨(hb.cell (p := ⟨P, 0, none⟩) hPl).trans hs0, HCP.out w' hb, hb⟩
          have hbx : Below w5.heap.size w5 w5.drew := (Below.refl _ _).drew
          refine wp_region_held_drew (S := fun w' => w'.cell? ⟨P, 0, none⟩ = some (.string x.1) ∧ w'.cell? ⟨gs, offs + (k - 1) * 2, none⟩ = some (.string p.1) ∧ Below w5.heap.size w5 w') (by kernel_rfl) (HHELD.out _ hbx) (fun hHeld => ?_)
          refine wpAnyH_take (i := 0) (oi := ⟨some 38, _, _, _, _, _⟩) (v := ?_) rfl (by kernel_rfl) (by kernel_rfl) (by kernel_rfl) (fun _ _ _ h => h) (Or.inl ⟨by rfl, ?_⟩) hHeld ?_
          rotate_left
          · (intro w hSw; (try dsimp only at hSw); go_simp; (try (with_reducible rfl)))
          (try simp only [Act.put, List.setIfInBounds_toArray, List.set_cons_zero, List.set_cons_succ])
          refine wpAnyH_take (i := 1) (oi := ⟨some 39, _, _, _, _, _⟩) (v := ?_) rfl (by kernel_rfl) (by kernel_rfl) (by kernel_rfl) (fun _ _ _ h => h) (Or.inl ⟨by rfl, ?_⟩) hHeld ?_
          rotate_left
          · (intro w hSw; (try dsimp only at hSw); go_simp; (try (with_reducible rfl)))
          (try simp only [Act.put, List.setIfInBounds_toArray, List.set_cons_zero, List.set_cons_succ])
          refine wpAnyH_take (i := 5) (oi := ⟨some 43, _, _, _, _, _⟩) (v := ?_) rfl (by kernel_rfl) (by kernel_rfl) (by kernel_rfl) (fun _ _ _ h => h) (Or.inl ⟨by rfl, ?_⟩) hHeld ?_
          rotate_left
          · (intro w hSw; (try dsimp only at hSw); go_simp; (try (with_reducible rfl)))
          (try simp only [Act.put, List.setIfInBounds_toArray, List.set_cons_zero, List.set_cons_succ])
          refine wpAnyH_take (i := 6) (oi := ⟨some 44, _, _, _, _, _⟩) (v := ?_) rfl (by kernel_rfl) (by kernel_rfl) (by kernel_rfl) (fun _ _ _ h => h) (Or.inl ⟨by rfl, ?_⟩) hHeld ?_
          rotate_left
          · (intro w hSw; (try dsimp only at hSw); go_simp; (try (with_reducible rfl)))
          (try simp only [Act.put, List.setIfInBounds_toArray, List.set_cons_zero, List.set_cons_succ])
          refine wpAnyH_take (i := 20) (oi := ⟨some 58, _, _, _, _, _⟩) (v := ?_) rfl (by kernel_rfl) (by kernel_rfl) (by kernel_rfl) (fun _ _ _ h => h) (Or.inl ⟨by rfl, ?_⟩) hHeld ?_
          rotate_left
          · (intro w hSw; (try dsimp only at hSw); go_simp; (try (with_reducible rfl)))
          (try simp only [Act.put, List.setIfInBounds_toArray, List.set_cons_zero, List.set_cons_succ])
          refine wpAnyH_take (i := 21) (oi := ⟨some 59, _, _, _, _, _⟩) (v := ?_) rfl (by kernel_rfl) (by kernel_rfl) (by kernel_rfl) (fun _ _ _ h => h) (Or.inl ⟨by rfl, ?_⟩) hHeld ?_
          rotate_left
          · (intro w hSw; (try dsimp only at hSw); go_simp; (try (with_reducible rfl)))
          (try simp only [Act.put, List.setIfInBounds_toArray, List.set_cons_zero, List.set_cons_succ])
          refine wpAnyH_ready (rs := [2]) (by kernel_rfl) (by simp) ?_
          refine AllReadyH.cons (o := ⟨some 40, _, _, _, _, _⟩) rfl (fun K hK => ?_) AllReadyH.nil
          rw [if_pos (by rfl)]
          go_wp2_with fail
          refine Calls.mono (HKY.out _) ?_
          rintro e wq ⟨rfl, hwq⟩
          obtain rfl := hwq
          refine hK.out _ _ hHeld (fun hHeld => ?_)
          clear hK K
          (try simp only [Act.put, List.setIfInBounds_toArray, List.set_cons_zero, List.set_cons_succ])
          refine wpAnyH_take (i := 3) (oi := ⟨some 41, _, _, _, _, _⟩) (v := ?_) rfl (by kernel_rfl) (by kernel_rfl) (by kernel_rfl) (fun _ _ _ h => h) (Or.inl ⟨by rfl, ?_⟩) hHeld ?_
          rotate_left
          · (intro w hSw; (try dsimp only at hSw); go_simp; (try (with_reducible rfl)))
          (try simp only [Act.put, List.setIfInBounds_toArray, List.set_cons_zero, List.set_cons_succ])
          refine wpAnyH_ready (rs := [4]) (by kernel_rfl) (by simp) ?_
          refine AllReadyH.cons (o := ⟨some 42, _, _, _, _, _⟩) rfl (fun K hK => ?_) AllReadyH.nil
          rw [if_pos (by rfl)]
          go_wp2_with fail
          refine Calls.mono (when_none _ _) ?_
          rintro e wq ⟨rfl, hwq⟩
          obtain rfl := hwq.symm
          refine hK.out _ _ hHeld (fun hHeld => ?_)
          clear hK K
          (try simp only [Act.put, List.setIfInBounds_toArray, List.set_cons_zero, List.set_cons_succ])
          refine wpAnyH_take (i := 7) (oi := ⟨some 45, _, _, _, _, _⟩) (v := .bool true) rfl (by kernel_rfl) (by kernel_rfl) (by kernel_rfl) (fun _ _ _ h => h) (Or.inl ⟨by rfl, ?_⟩) hHeld ?_
          · (intro w hSw; (try dsimp only at hSw); go_simp; (try (with_reducible rfl)))
          (try simp only [Act.put, List.setIfInBounds_toArray, List.set_cons_zero, List.set_cons_succ])
          refine wpAnyH_take (i := 8) (oi := ⟨some 46, _, _, _, _, _⟩) (v := ?_) rfl (by kernel_rfl) (by kernel_rfl) (by kernel_rfl) (fun _ _ _ h => h) (Or.inl ⟨by rfl, ?_⟩) hHeld ?_
          rotate_left
          · (intro w hSw; (try dsimp only at hSw); go_simp; (try (with_reducible rfl)))
          (try simp only [Act.put, List.setIfInBounds_toArray, List.set_cons_zero, List.set_cons_succ])
          refine wpAnyH_take (i := 9) (oi := ⟨some 47, _, _, _, _, _⟩) (v := ?_) rfl (by kernel_rfl) (by kernel_rfl) (by kernel_rfl) (fun _ _ _ h => h) (Or.inl ⟨by rfl, ?_⟩) hHeld ?_
          rotate_left
          · (intro w hSw; (try dsimp only at hSw); go_simp; (try (with_reducible rfl)))
          (try simp only [Act.put, List.setIfInBounds_toArray, List.set_cons_zero, List.set_cons_succ])
          refine wpAnyH_take (i := 10) (oi := ⟨some 48, _, _, _, _, _⟩) (v := ?_) rfl (by kernel_rfl) (by kernel_rfl) (by kernel_rfl) (fun _ _ _ h => h) (Or.inl ⟨by rfl, ?_⟩) hHeld ?_
          rotate_left
          · (intro w hSw; (try dsimp only at hSw); go_simp; (try (with_reducible rfl)))
          (try simp only [Act.put, List.setIfInBounds_toArray, List.set_cons_zero, List.set_cons_succ])
          refine wpAnyH_take (i := 11) (oi := ⟨some 49, _, _, _, _, _⟩) (v := ?_) rfl (by kernel_rfl) (by kernel_rfl) (by kernel_rfl) (fun _ _ _ h => h) (Or.inl ⟨by rfl, ?_⟩) hHeld ?_
          rotate_left
          · (intro w hSw; (try dsimp only at hSw); go_simp; (try (with_reducible rfl)))
          (try simp only [Act.put, List.setIfInBounds_toArray, List.set_cons_zero, List.set_cons_succ])
          refine wpAnyH_take (i := 12) (oi := ⟨some 50, _, _, _, _, _⟩) (v := ?_) rfl (by kernel_rfl) (by kernel_rfl) (by kernel_rfl) (fun _ _ _ h => h) (Or.inl ⟨by rfl, ?_⟩) hHeld ?_
          rotate_left
          · (intro w hSw; (try dsimp only at hSw); go_simp; (try (with_reducible rfl)))
          (try simp only [Act.put, List.setIfInBounds_toArray, List.set_cons_zero, List.set_cons_succ])
          refine wpAnyH_take (i := 13) (oi := ⟨some 51, _, _, _, _, _⟩) (v := ?_) rfl (by kernel_rfl) (by kernel_rfl) (by kernel_rfl) (fun _ _ _ h => h) (Or.inl ⟨by rfl, ?_⟩) hHeld ?_
          rotate_left
          · (intro w hSw; (try dsimp only at hSw); go_simp; (try (with_reducible rfl)))
          (try simp only [Act.put, List.setIfInBounds_toArray, List.set_cons_zero, List.set_cons_succ])
          refine wpAnyH_take (i := 14) (oi := ⟨some 52, _, _, _, _, _⟩) (v := ?_) rfl (by kernel_rfl) (by kernel_rfl) (by kernel_rfl) (fun _ _ _ h => h) (Or.inl ⟨by rfl, ?_⟩) hHeld ?_
          rotate_left
          · (intro w hSw; (try dsimp only at hSw); go_simp; (try (with_reducible rfl)))
          (try simp only [Act.put, List.setIfInBounds_toArray, List.set_cons_zero, List.set_cons_succ])
          refine wpAnyH_take (i := 15) (oi := ⟨some 53, _, _, _, _, _⟩) (v := ?_) rfl (by kernel_rfl) (by kernel_rfl) (by kernel_rfl) (fun _ _ _ h => h) (Or.inl ⟨by rfl, ?_⟩) hHeld ?_
          rotate_left
          · (intro w hSw; (try dsimp only at hSw); go_simp; (try (with_reducible rfl)))
          (try simp only [Act.put, List.setIfInBounds_toArray, List.set_cons_zero, List.set_cons_succ])
          refine wpAnyH_take (i := 16) (oi := ⟨some 54, _, _, _, _, _⟩) (v := ?_) rfl (by kernel_rfl) (by kernel_rfl) (by kernel_rfl) (fun _ _ _ h => h) (Or.inl ⟨by rfl, ?_⟩) hHeld ?_
          rotate_left
          · (intro w hSw; (try dsimp only at hSw); go_simp; (try (with_reducible rfl)))
          (try simp only [Act.put, List.setIfInBounds_toArray, List.set_cons_zero, List.set_cons_succ])
          refine wpAnyH_take (i := 17) (oi := ⟨some 55, _, _, _, _, _⟩) (v := .bool false) rfl (by kernel_rfl) (by kernel_rfl) (by kernel_rfl) (fun _ _ _ h => h) (Or.inl ⟨by rfl, ?_⟩) hHeld ?_
          · (intro w hSw; (try dsimp only at hSw); go_simp; (try (with_reducible rfl)))
          (try simp only [Act.put, List.setIfInBounds_toArray, List.set_cons_zero, List.set_cons_succ])
          refine wpAnyH_take (i := 18) (oi := ⟨some 56, _, _, _, _, _⟩) (v := ?_) rfl (by kernel_rfl) (by kernel_rfl) (by kernel_rfl) (fun _ _ _ h => h) (Or.inl ⟨by rfl, ?_⟩) hHeld ?_
          rotate_left
          · (intro w hSw; (try dsimp only at hSw); go_simp; (try (with_reducible rfl)))
          (try simp only [Act.put, List.setIfInBounds_toArray, List.set_cons_zero, List.set_cons_succ])
          refine wpAnyH_ready (rs := [19]) (by kernel_rfl) (by simp) ?_
          refine AllReadyH.cons (o := ⟨some 57, _, _, _, _, _⟩) rfl (fun K hK => ?_) AllReadyH.nil
          rw [if_pos (by rfl)]
          go_wp2_with fail
          refine Calls.mono (when_none _ _) ?_
          rintro e wq ⟨rfl, hwq⟩
          obtain rfl := hwq.symm
          refine hK.out _ _ hHeld (fun hHeld => ?_)
          clear hK K
          (try simp only [Act.put, List.setIfInBounds_toArray, List.set_cons_zero, List.set_cons_succ])
          refine wpAnyH_ready (rs := [22]) (by kernel_rfl) (by simp) ?_
          refine AllReadyH.cons (o := ⟨some 60, _, _, _, _, _⟩) rfl (fun K hK => ?_) AllReadyH.nil
          rw [if_pos (by rfl)]
          go_wp2_with fail
          refine Calls.mono (when_none _ _) ?_
          rintro e wq ⟨rfl, hwq⟩
          obtain rfl := hwq.symm
          refine hK.out _ _ hHeld (fun hHeld => ?_)
          clear hK K
          (try simp only [Act.put, List.setIfInBounds_toArray, List.set_cons_zero, List.set_cons_succ])
          refine wpAnyH_ready (rs := [23]) (by kernel_rfl) (by simp) ?_
          refine AllReadyH.cons (o := ⟨some 61, _, _, _, _, _⟩) rfl (fun K hK => ?_) AllReadyH.nil
          rw [if_pos (by rfl)]
          go_simp
          have hbx := hbx.alloc hbx.size (.cells #[.int .i64 0, .int .i64 0, .int .i64 0] 29)
          refine hK.out _ _ (HHELD.out _ hbx) (fun hHeld => ?_)
          clear hK K
          (try simp only [Act.put, List.setIfInBounds_toArray, List.set_cons_zero, List.set_cons_succ])
          refine wpAnyH_ready (rs := [24]) (by kernel_rfl) (by simp) ?_
          refine AllReadyH.cons (o := ⟨some 62, _, _, _, _, _⟩) rfl (fun K hK => ?_) AllReadyH.nil
          rw [if_pos (by rfl)]
          go_wp2_with fail
          refine Calls.mono (first_3zd _ _ rfl _) ?_
          rintro e wq ⟨rfl, hwq⟩
          obtain rfl := hwq.symm
          refine hK.out _ _ hHeld (fun hHeld => ?_)
          clear hK K
          (try simp only [Act.put, List.setIfInBounds_toArray, List.set_cons_zero, List.set_cons_succ])
          refine wpAnyH_take (i := 25) (oi := ⟨some 13, _, _, _, _, _⟩) (v := ?_) rfl (by kernel_rfl) (by kernel_rfl) (by kernel_rfl) (fun _ _ _ h => h) (Or.inl ⟨by rfl, ?_⟩) hHeld ?_
          rotate_left
          · (intro w hSw; (try dsimp only at hSw); go_simp; (try (with_reducible rfl)))
          (try simp only [Act.put, List.setIfInBounds_toArray, List.set_cons_zero, List.set_cons_succ])
          refine wpAnyH_done (by kernel_rfl) ?_ _
          go_wp2_with fail
          go_meet
          exact ⟨rfl, hbx⟩
      case rest =>
        obtain ⟨rfl, HB6⟩ := hcut
        have HSB6 := Lib.hid (HSB5.out.keep HB6.out)
        have HC6 := Lib.hid (HC5.out.below HB6.out)
        have HW6 := Lib.hid (HW5.out.trans (HB6.out.mono HW5.out.size))
        clear hs0 hs1 hPl HKY HSB5 HC5 HW5 HB6 HPR5
        obtain ⟨s0, s1⟩ := HSB6.out.c
        have HI2 := Lib.hid (UpI.put HI.out HX.out)
        obtain ⟨D, hD⟩ := HC6.out.ex
        have HD := Lib.hid hD
        have HKEY := Lib.hid (keyS_mk x.1 hxs)
        have hmk : m ≤ 2000 := by have := HMK.out; omega
        clear hD
        go_wp2_with (at_mapUpdate; refine wpList_mapUpdate_own _ rfl _ _ _ 82 rfl 9 3 keyS Tryz.underlying82 _ w2.heap.size m D rfl HD.out.1 (by simp only [maxLen]; omega) _ _ (.string x.1.data.toList) rfl rfl HKEY.out (.held (.int .i64 x.2)) [] rfl ?_; intro w7 hown7 hgrow7)
        have HC7 := Lib.hid (CutAt.put HD.out.1 HD.out.2 hown7)
        have HW7 : Hid (Below w2.heap.size w2 w7) := HW6.out.grown hgrow7 HW6.out.size (fun i e => by have := Option.some.inj e; omega)
        have HMK7 : Hid (m + 1 ≤ k + 1) := by show _ ≤ _; have := HMK.out; omega
        clear hown7 hgrow7
        go_roundg (gk - 1)
        case measure => exact Nat.sub_lt HGK.out.2 Nat.one_pos
        case rel => exact ⟨k + 1, m + 1, _, HGK.out.1, by go_num, HC7.out, HMK7.out, HI2.out, HW7.out⟩
    · have hnk : ¬ (k : Int) < (ns : Int) := by omega
      have HFV := Lib.hid (fun t => HI.out.val HP0.out HVD.out t)
      clear HK HMK
      obtain ⟨k9, hk9⟩ : ∃ x, x = k := ⟨k, rfl⟩
      rw [← hk9] at HI
      go_upto_region 16 with (fail)
      clear hnk hkn hk9
      obtain ⟨wo, rfl⟩ : ∃ x, x = wr := ⟨wr, rfl⟩
      go_wp2_with fail
      go_loopg [14, 74] n (fun gk v14 v wr => ∃ k : Nat, Hid (k + gk = n) ∧ v = .int .i64 (k : Int) ∧ Hid (Owns DeedE wr wo.heap.size v14 ((U.take k).filter fun d => decide (f d.site < d.no))) ∧ Hid (CutAt wr w2.heap.size m f) ∧ Hid (Below wo.heap.size wo wr))
      case atStart => exact ⟨0, show 0 + n = n by omega, rfl, Owns.nil _ _, HC.out, Below.refl _ _⟩
      case round =>
        obtain ⟨k, HK, rfl, HO, HC, HB⟩ := hrel
        have hkn : k ≤ n := by have := HK.out; omega
        have HW2 := Lib.hid (HW.out.trans (HB.out.mono HW.out.size))
        by_cases hlt : k < n
        · have HGK := Lib.hid (show k + 1 + (gk - 1) = n ∧ 0 < gk by have := HK.out; omega)
          obtain ⟨g, off, rfl, hg, hc⟩ := (ElemsAt.keep HAT.out HW2.out).deed (by omega)
          have hkl : k < U.length := by have := HN.out; omega
          obtain ⟨x, hx⟩ : ∃ x, U[k]? = some x := ⟨_, List.getElem?_eq_getElem hkl⟩
          obtain ⟨c0, c1', c2, c3, c4, c5, c6, c7, c8, c9, c10, c11⟩ := hc k x hx
          have HX := Lib.hid hx
          have hxs := site_bound HU.out (List.mem_of_getElem? hx)
          have hal : Below wr.heap.size wr (wr.alloc (.cells #[.string x.site, .int .i64 x.no, .int .i64 x.at_, .int .i64 x.kind, .string x.id, .string x.fld, .string x.val, .int .i64 x.from_, .int .i64 x.to_, .string x.osite, .int .i64 x.ono, .string x.sum] 40)) := (Below.refl _ _).alloc (Nat.le_refl _) _
          have HX1 : Hid (DeedAt (wr.alloc (.cells #[.string x.site, .int .i64 x.no, .int .i64 x.at_, .int .i64 x.kind, .string x.id, .string x.fld, .string x.val, .int .i64 x.from_, .int .i64 x.to_, .string x.osite, .int .i64 x.ono, .string x.sum] 40)) wr.heap.size x) := deed_new wr x
          have HO1 := Lib.hid (HO.out.below_ hal)
          have HC1 := Lib.hid (HC.out.below hal)
          have HB1 := Lib.hid (HB.out.trans (hal.mono HB.out.size))
          clear hc hkl hx hg hal HO HC HB HK HW2
          go_upto_region 19 with (fail)
          obtain ⟨P, hP⟩ : ∃ P, P = wr.heap.size := ⟨_, rfl⟩
          rw [← hP] at HX1 ⊢
          generalize wr.alloc (.cells #[.string x.site, .int .i64 x.no, .int .i64 x.at_, .int .i64 x.kind, .string x.id, .string x.fld, .string x.val, .int .i64 x.from_, .int .i64 x.to_, .string x.osite, .int .i64 x.ono, .string x.sum] 40) = w4 at *
          clear hP c0 c1' c2 c3 c4 c5 c6 c7 c8 c9 c10 c11
          obtain ⟨a0, a1, a2, a3, a4, a5, a6, a7, a8, a9, a10, a11⟩ := HX1.out.c
          have hlook := HC1.out.look x.site hxs
          have HTK : Hid ((U.take (k + 1)).filter (fun d => decide (f d.site < d.no)) = (U.take k).filter (fun d => decide (f d.site < d.no)) ++ (if f x.site < x.no then [x] else [])) := by
            show _ = _
            rw [take_snocD HX.out, List.filter_append, List.filter_cons]
            simp
          have HLN : Hid (((U.take k).filter fun d => decide (f d.site < d.no)).length ≤ 2000) := by show _ ≤ _; have := List.length_filter_le (fun d => decide (f d.site < d.no)) (U.take k); have := List.length_take_le k U; omega
          obtain ⟨O, hO⟩ : ∃ O, O = (U.take k).filter fun d => decide (f d.site < d.no) := ⟨_, rfl⟩
          rw [← hO] at HO1 HLN HTK
          clear hO
          obtain ⟨q, hq⟩ : ∃ q, q = f x.site := ⟨_, rfl⟩
          rw [← hq] at hlook HTK
          clear hq
          by_cases hlt2 : q < x.no
          · rw [if_pos hlt2] at HTK
            have hal : Below w4.heap.size w4 (w4.alloc (.cells #[.string x.site, .int .i64 x.no, .int .i64 x.at_, .int .i64 x.kind, .string x.id, .string x.fld, .string x.val, .int .i64 x.from_, .int .i64 x.to_, .string x.osite, .int .i64 x.ono, .string x.sum] 40)) := (Below.refl _ _).alloc (Nat.le_refl _) _
            have HOA := Lib.hid (HO1.out.below_ hal)
            have HCA := Lib.hid (HC1.out.below hal)
            have HBA := Lib.hid (HB1.out.trans (hal.mono HB1.out.size))
            have HONE : Hid (ElemsAt DeedE (w4.alloc (.cells #[.string x.site, .int .i64 x.no, .int .i64 x.at_, .int .i64 x.kind, .string x.id, .string x.fld, .string x.val, .int .i64 x.from_, .int .i64 x.to_, .string x.osite, .int .i64 x.ono, .string x.sum] 40)) (some ⟨w4.heap.size, 0, none⟩) 1 1 [x]) := one_elem (E := DeedE) w4 x
            have hol := HLN.out
            have hzz := HBA.out.size
            clear hal HO1 HC1
            go_wp2_with (at_builtin; refine append_elems deedE_ok rfl _ _ rfl wo.heap.size u14 O rfl HOA.out (some ⟨w4.heap.size, 0, none⟩) 1 1 [x] rfl HONE.out (by simp; omega) hzz ?_; intro v6 w6 hown6 hgrow6 hv6)
            have HO6 : Hid (Owns DeedE w6 wo.heap.size v6 ((U.take (k + 1)).filter fun d => decide (f d.site < d.no))) := by show Owns _ _ _ _ _; rw [HTK.out]; exact hown6
            have HC6 : Hid (CutAt w6 w2.heap.size m f) := by
              have hne := own_ne_cut HOA.out HCA.out
              obtain ⟨D, h1, h2⟩ := HCA.out.ex
              exact ⟨⟨D, h1.kept hgrow6 (fun e => hne e.symm), h2⟩⟩
            have HB6 : Hid (Below wo.heap.size wo w6) := HBA.out.grown hgrow6 HBA.out.size (fun i e => (HOA.out.lt i e).1)
            clear hown6 hgrow6 hv6
            go_wp2_with fail
            go_roundg (gk - 1)
            case measure => exact Nat.sub_lt HGK.out.2 Nat.one_pos
            case rel => exact ⟨k + 1, HGK.out.1, by go_num, HO6.out, HC6.out, HB6.out⟩
          · rw [if_neg hlt2, List.append_nil] at HTK
            have HO5 : Hid (Owns DeedE w4 wo.heap.size u14 ((U.take (k + 1)).filter fun d => decide (f d.site < d.no))) := by show Owns _ _ _ _ _; rw [HTK.out]; exact HO1.out
            go_wp2_with fail
            go_roundg (gk - 1)
            case measure => exact Nat.sub_lt HGK.out.2 Nat.one_pos
            case rel => exact ⟨k + 1, HGK.out.1, by go_num, HO5.out, HC1.out, HB1.out⟩
        · have hnk : ¬ (k : Int) < (n : Int) := by omega
          have hta : U.take k = U := List.take_of_length_le (by have := HN.out; omega)
          rw [hta] at HO
          clear hta
          obtain ⟨A6, c6, hv6, -, hat6, -⟩ := HO.out.at_ deedE_ok
          have HP : Hid (SincePost w U S (.returned (.tuple #[.slice A6 (U.filter fun d => decide (f d.site < d.no)).length c6, .int .i64 0])) wr) := ⟨A6, _, c6, k9, f, rfl, hat6, HI.out, HB2.out.trans (HW2.out.mono HB2.out.size)⟩
          clear hat6 HO
          subst hv6
          go_wp2_with fail
          go_ret2
          exact HP.out
end Go.Proofs.YthogkcgklakibaaGreatDoor

namespace Go.Proofs.YthogkcgklakibaaGreatDoor
open Go.RowKit
attribute [local go_sem ↓] Go.wp_at_zero Go.wp_at_succ

theorem JoinI.one {r : Nat} {L : Nat → List Deed} (h : SitesI r L) : JoinI L 1 (L 0) := ⟨h.right 0 (by omega), fun x => ⟨fun hx => ⟨0, by omega, hx⟩, fun ⟨k, hk, hx⟩ => by
  obtain rfl : k = 0 := by omega
  exact hx⟩⟩
theorem listOkAll {w0 w : World} (hT : ∀ wx, Below w0.heap.size w0 wx → TabsAll wx) (hb : Below w0.heap.size w0 w) : ListOkAll w := fun wx hx A n c l h1 h2 => by
  have ht := hT wx (hb.trans (hx.mono hb.size))
  exact checkDeeds_ok A n c l wx h1 h2 ht.tabs ht.max ht.pow ht.stand
set_option maxHeartbeats 12800000 in
set_option maxRecDepth 100000 in
theorem dif_any (A : Option Addr) (n c : Nat) (w : World) (h : RowAt w A n) (hbig : n ≤ 1000000000000000) (hT : TabsAll w) :
    Calls Tryz.prog 4 #[.slice A n c] w (LawPost w) := by
  have hst := stream_new w A n c h hbig
  have hb0 : Below w.heap.size w (w.alloc (.cells #[.slice A n c, .int .i64 0] 25)) := (Below.refl _ _).alloc (Nat.le_refl _) _
  have HB0 := Lib.hid hb0
  have HTT : Hid (∀ wx, Below w.heap.size w wx → TabsAll wx) := fun wx hx => hT.below hx
  have HS0 := Lib.hid hst
  clear hst hb0 h hT
  go_enter Tryz.func4, Tryz.ntmps4
  go_upto_region 2 with (fail)
  obtain ⟨g, hg⟩ : ∃ g, g = w.heap.size := ⟨_, rfl⟩
  rw [← hg] at HS0 ⊢
  have HGL : Hid (w.heap.size ≤ g) := by show _ ≤ _; omega
  generalize w.alloc (.cells #[.slice A n c, .int .i64 0] 25) = w1 at *
  clear hg
  have HGB : Hid (∀ wx, w1.grownBy wx (some g) → Below w.heap.size w wx) := fun wx hx => HB0.out.grown hx HB0.out.size (fun i e => by have := Option.some.inj e; have := HGL.out; omega)
  go_wp2_with fail
  refine (sites_any g A n c 0 w1 HS0.out (by omega) (fun wx hx => HTT.out wx (HGB.out wx hx))).mono ?_
  rintro e w2 ⟨B, hd, L, rfl, hO, hI, hgB, hs2, hg2⟩
  have HO2 := Lib.hid hO
  have HI := Lib.hid hI
  have HS2 := Lib.hid hs2
  have HG2 := Lib.hid hg2
  have HNE : Hid (B ≠ g) := by show _ ≠ _; omega
  have HB2 := Lib.hid (HGB.out w2 hg2)
  clear hO hI hgB hs2 hg2 HS0
  obtain ⟨⟨A0, n0, c0⟩, hh0⟩ : ∃ u : HdD, u = hd 0 := ⟨_, rfl⟩
  have hc0 := HO2.out.cell (k := 0) (by omega)
  have hr0 := HO2.out.row 0 (by omega)
  rw [← hh0] at hc0 hr0
  have HR0 := Lib.hid hr0
  have hc0' : w2.cell? ⟨B, 0, none⟩ = some (.slice A0 n0 c0) := hc0
  clear hc0 hr0 hh0
  go_wp2_with fail
  go_loopg [5, 28] 2 (fun gk v5 v wr => ∃ (k : Nat) (Au : Option Addr) (nu cu : Nat) (U : List Deed), Hid (k + gk = 2) ∧ v = .int .i64 (k : Int) ∧ v5 = .slice Au nu cu ∧ Hid (DeedsAt wr Au nu cu U) ∧ Hid (JoinI L (k + 1) U) ∧ Hid (Below w2.heap.size w2 wr))
  case atStart => exact ⟨0, A0, n0, c0, L 0, show 0 + 2 = 2 by omega, rfl, rfl, HR0.out, JoinI.one HI.out, Below.refl _ _⟩
  case round =>
    obtain ⟨k, Au, nu, cu, U, HK, rfl, rfl, HU, HJ, HW⟩ := hrel
    clear hc0' HR0
    have hkn : k ≤ 2 := by have := HK.out; omega
    have hnu : nu ≤ 17 := by have h1 := HU.out.1; have h2 := JoinI.len HI.out HJ.out (by omega); omega
    by_cases hlt : k < 2
    · have HGK := Lib.hid (show k + 1 + (gk - 1) = 2 ∧ 0 < gk by have := HK.out; omega)
      have hlti : (k : Int) < 2 := by omega
      have HOk := Lib.hid (HO2.out.keep HW.out)
      obtain ⟨⟨Ak, nk, ck⟩, hhk⟩ : ∃ u : HdD, u = hd (k + 1) := ⟨_, rfl⟩
      have hck := HOk.out.cell (k := k + 1) (by omega)
      have hrk := HOk.out.row (k + 1) (by omega)
      rw [← hhk] at hck hrk
      have HRK := Lib.hid hrk
      have hck' : wr.cell? ⟨B, 1 + k, none⟩ = some (.slice Ak nk ck) := by rw [show 1 + k = k + 1 by omega]; exact hck
      have hnk : nk ≤ 17 := by have h1 : nk = (L (k + 1)).length := hrk.1; have h2 := HI.out.len (k := k + 1) (by omega); omega
      have HMD := Lib.hid (mergeM_of Au nu cu U Ak nk ck (L (k + 1)) wr HU.out HRK.out (FitD.two HJ.out.right (HI.out.right (k + 1) (by omega)) (JoinI.same HI.out HJ.out (by omega) (by omega))) (by omega) (listOkAll HTT.out (HB2.out.trans (HW.out.mono HB2.out.size))))
      clear hhk hck hrk HK HOk
      go_wp2_with fail
      refine HMD.out.mono ?_
      rintro e w3 ⟨Av, nv, cv, V, rfl, hAV, hRV, hMV, hb3⟩
      have HV := Lib.hid hAV
      have HJ2 := Lib.hid (JoinI.next HJ.out hRV hMV)
      have HW2 := Lib.hid (HW.out.trans (hb3.mono HW.out.size))
      clear hAV hRV hMV hb3 HMD hck'
      go_wp2_with fail
      go_roundg (gk - 1)
      case measure => exact Nat.sub_lt HGK.out.2 Nat.one_pos
      case rel => exact ⟨k + 1, Av, nv, cv, V, HGK.out.1, by go_num, rfl, HV.out, HJ2.out, HW2.out⟩
    · have hnk : ¬ (k : Int) < (2 : Int) := by omega
      have hk2 : k = 2 := by omega
      subst hk2
      have HO3 := Lib.hid (HO2.out.keep HW.out)
      have HS3 := Lib.hid (HS2.out.below HW.out)
      have HB3 := Lib.hid (HB2.out.trans (HW.out.mono HB2.out.size))
      have HG3 := Lib.hid (grown_below HG2.out HW.out)
      clear HK HW
      go_wp2_with fail
      refine (next_any g A n c _ 3 wr HS3.out (by omega) (by omega)).mono ?_
      rintro e w4 ⟨s0, rfl, hs00, hs01, hs4, hg4⟩
      obtain ⟨s, rfl⟩ := Int.eq_ofNat_of_zero_le hs00
      have hs3 := hs01 (by omega)
      have hsl : s < 3 := by omega
      have HO4 := Lib.hid (HO3.out.stream HS3.out hg4 HNE.out)
      have HU4 := Lib.hid (deeds_stream HU.out HS3.out hg4)
      have HB4 := Lib.hid (HGB.out w4 (grown_trans HG3.out hg4))
      clear hs00 hs01 hs4 hg4 HO3 HU HS3 HB3 HG3
      obtain ⟨⟨Ap, np, cp⟩, hhp⟩ : ∃ u : HdD, u = hd s := ⟨_, rfl⟩
      have hcp := HO4.out.cell hsl
      have hrp := HO4.out.row s hsl
      rw [← hhp] at hcp hrp
      have HP4 := Lib.hid hrp
      have HRP := Lib.hid (HI.out.right s hsl)
      have hcp' : w4.cell? ⟨B, s, none⟩ = some (.slice Ap np cp) := hcp
      have HSUB : Hid (∀ x ∈ L s, x ∈ U) := fun x hx => (HJ.out.mem x).2 ⟨s, by omega, hx⟩
      have hnp : np ≤ 17 := by have h1 : np = (L s).length := hrp.1; have h2 := HI.out.len hsl; omega
      have HRU := Lib.hid HJ.out.right
      clear hcp hrp hhp HO4
      go_wp2_with fail
      refine (vector_any Ap np cp (L s) w4 HP4.out HRP.out (listOkAll HTT.out HB4.out w4 (Below.refl _ _) _ _ _ _ HP4.out HRP.out)).mono ?_
      rintro e w5 ⟨As, ns, cs, S, rfl, hS5, hVD, hb5⟩
      have HS5 := Lib.hid hS5
      have HVD := Lib.hid hVD
      have HU5 := Lib.hid (ElemsAt.keep HU4.out hb5)
      have HP5 := Lib.hid (ElemsAt.keep HP4.out hb5)
      have HB5 := Lib.hid (HB4.out.trans (hb5.mono HB4.out.size))
      clear hS5 hVD hb5 HU4 HP4 HB4 hcp'
      go_wp2_with fail
      refine (since_any Au nu cu U As ns cs S (L s) w5 HU5.out HRU.out HS5.out HVD.out HRP.out HSUB.out (listOkAll HTT.out HB5.out w5 (Below.refl _ _) _ _ _ _ HU5.out HRU.out)).mono ?_
      rintro e w6 ⟨Am, nm, cm, kk, f, rfl, hM6, hUP, hb6⟩
      have HM6 := Lib.hid hM6
      have HALL := Lib.hid (more_all HRU.out HRP.out HSUB.out HVD.out hUP)
      have HU6 := Lib.hid (ElemsAt.keep HU5.out hb6)
      have HP6 := Lib.hid (ElemsAt.keep HP5.out hb6)
      have HB6 := Lib.hid (HB5.out.trans (hb6.mono HB5.out.size))
      have hnm : nm ≤ 17 := by
        have h1 := hM6.1
        have h2 := List.length_filter_le (fun d => decide (f d.site < d.no)) U
        have h3 := HU5.out.1
        unfold moreD at h1
        omega
      clear hM6 hUP hb6 HU5 HP5 HB5 HS5
      go_wp2_with fail
      refine (mergeM_of Ap np cp (L s) Am nm cm (moreD U f) w6 HP6.out HM6.out (FitD.of HRP.out HRU.out HALL.out) (by omega) (listOkAll HTT.out HB6.out)).mono ?_
      rintro e w7 ⟨Av, nv, cv, V, rfl, hV7, hRV, hMV, hb7⟩
      have hVU : V = U := ord_ext hRV.ord HRU.out.ord (fun x => by rw [hMV, ← HALL.out])
      subst hVU
      have HV7 := Lib.hid hV7
      have HU7 := Lib.hid (ElemsAt.keep HU6.out hb7)
      have HB7 := Lib.hid (HB6.out.trans (hb7.mono HB6.out.size))
      clear hV7 hRV hMV hb7 HU6 HP6 HB6 HM6
      go_wp2_with fail
      refine (matters_any w7 (HTT.out _ HB7.out).tabs (HTT.out _ HB7.out).max (HTT.out _ HB7.out).pow (HTT.out _ HB7.out).stand).mono ?_
      rintro e w8 ⟨rfl, hb8⟩
      have HV8 := Lib.hid (ElemsAt.keep HV7.out hb8)
      have HU8 := Lib.hid (ElemsAt.keep HU7.out hb8)
      have HB8 := Lib.hid (HB7.out.trans (hb8.mono HB7.out.size))
      have hnv : nv ≤ 10000 := by have h1 := HV8.out.1; have h2 := HU8.out.1; omega
      clear hb8 HV7 HU7 HB7
      go_wp2_with fail
      refine (equalD_any Av Au nv cv nu cu V w8 HV8.out HU8.out hnv).mono ?_
      rintro e w9 ⟨rfl, hb9⟩
      have HB9 := Lib.hid (HB8.out.trans (hb9.mono HB8.out.size))
      clear hb9 HB8
      go_wp2_with fail
      go_ret
      exact ⟨rfl, HB9.out⟩
end Go.Proofs.YthogkcgklakibaaGreatDoor
