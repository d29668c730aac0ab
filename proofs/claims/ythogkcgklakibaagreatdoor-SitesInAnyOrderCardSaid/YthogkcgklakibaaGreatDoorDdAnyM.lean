
/-
  Deeds in the order of their moments: matter.ordered's comparison and the stable sort of few deeds.
  slices.Values, AppendSeq and Collect at deeds, and matter.ordered: a list of deeds in the order of their moments.
  What newState's maps hold: values by strings, maps of maps, maps of rows.
  matter.counting: which deeds are neither dropped nor undone.
  The state that newState fills: what stays while it is filled.
  matter.newState: what deeds say, as far as they count.
  slices.Sorted(maps.Keys(m)) at maps of deeds and of yes and no.
  What Fields says of right deeds, in plain words.
  matter.Fields at right deeds.
  matter.Merge: the union of two lists of deeds that is right.
  Order makes some order of the numbers below n.
  Unions of sites in any order.
  SitesInAnyOrder: the law.
-/
import Derived.Test.YthogkcgklakibaaGreatDoorDdChk
import Derived.RangeFuncNested
import Derived.RangeFuncBound
import Derived.RangeFuncCalls
import Derived.RangeFuncLeaves
import Derived.RangeFuncBox
import Derived.Shelf.Abstract
import Derived.Shelf.RegionOpen
import Derived.WalkKit
import Derived.OwnWalkIn
import Derived.TacticsInMore
import Derived.LoopNIn
import Derived.LoopIn
import Derived.Sort.CutIn
import Derived.Sort.QuietIn
import Derived.Maps.OwnIn
import Derived.Test.YthogkcgklakibaaGreatDoorDdLow
import Derived.Test.YthogkcgklakibaaGreatDoorContains
import Derived.Test.YthogkcgklakibaaGreatDoorDdCnt
import Derived.Test.YthogkcgklakibaaGreatDoorDdAs
import Derived.Shelf.SlIter.Nil
import Derived.Shelf.SortM.Plain
import Derived.Shelf.SortM.SortNone
import Derived.Test.YthogkcgklakibaaGreatDoorDdMerge
import Derived.Test.YthogkcgklakibaaGreatDoorElems
import Derived.RegionTactic
import Derived.Test.YthogkcgklakibaaGreatDoorDdEnd

namespace Go.Proofs.YthogkcgklakibaaGreatDoor
open Go.RowKit Go.Sort
attribute [local go_sem ↓] Go.wp_at_zero Go.wp_at_succ

/-- The order of moments. -/
def OrdLt (a b : Deed) : Prop := a.at_ < b.at_ ∨ (a.at_ = b.at_ ∧ StLt a b)
def cmpO (x y : Deed) : Int := if cmpN x.at_ y.at_ = 0 then cmpD x y else cmpN x.at_ y.at_
theorem cmpN_cases (a b : Int) : (a < b ∧ cmpN a b = -1) ∨ (a = b ∧ cmpN a b = 0) ∨ (b < a ∧ cmpN a b = 1) := by
  unfold cmpN
  rcases Int.lt_trichotomy a b with h | h | h
  · exact .inl ⟨h, by rw [if_pos h]⟩
  · subst h; exact .inr (.inl ⟨rfl, by simp⟩)
  · exact .inr (.inr ⟨h, by rw [if_neg (by omega), if_pos h]⟩)
theorem cmpO_neg (x y : Deed) : cmpO x y < 0 ↔ OrdLt x y := by
  unfold cmpO OrdLt
  rcases cmpN_cases x.at_ y.at_ with ⟨h, e⟩ | ⟨h, e⟩ | ⟨h, e⟩
  · rw [e, if_neg (by decide)]
    exact ⟨fun _ => .inl h, fun _ => by decide⟩
  · rw [e, if_pos rfl, cmpD_neg]
    exact ⟨fun k => .inr ⟨h, k⟩, fun k => k.elim (fun k => by omega) (·.2)⟩
  · rw [e, if_neg (by decide)]
    exact ⟨fun k => absurd k (by decide), fun k => k.elim (fun k => by omega) (fun k => by omega)⟩
theorem OrdLt.irr (a : Deed) : ¬ OrdLt a a := fun h => h.elim (fun h => by omega) (fun h => StLt.irr a h.2)
theorem OrdLt.trans {a b c : Deed} (h : OrdLt a b) (k : OrdLt b c) : OrdLt a c := by
  rcases h with h | ⟨h, h'⟩ <;> rcases k with k | ⟨k, k'⟩
  · exact .inl (by omega)
  · exact .inl (by omega)
  · exact .inl (by omega)
  · exact .inr ⟨by omega, h'.trans k'⟩
theorem OrdLt.tot (a b : Deed) : OrdLt a b ∨ (a.at_ = b.at_ ∧ a.site = b.site ∧ a.no = b.no) ∨ OrdLt b a := by
  rcases Int.lt_trichotomy a.at_ b.at_ with h | h | h
  · exact .inl (.inl h)
  · rcases StLt.tot a b with k | k | k
    · exact .inl (.inr ⟨h, k⟩)
    · exact .inr (.inl ⟨h, k⟩)
    · exact .inr (.inr (.inr ⟨h.symm, k⟩))
  · exact .inr (.inr (.inl h))
theorem ltO (x y : Deed) : ltOf cmpO x y = true ↔ OrdLt x y := by
  unfold ltOf
  rw [decide_eq_true_iff, cmpO_neg]
theorem ltO_no (x y : Deed) : ltOf cmpO x y = false ↔ ¬ OrdLt x y := by
  rw [← ltO, Bool.not_eq_true]
theorem OrdLt.same {a b c : Deed} (h : OrdLt a c) (e1 : a.at_ = b.at_) (e2 : a.site = b.site) (e3 : a.no = b.no) : OrdLt b c := by
  rcases h with h | ⟨h, h'⟩
  · exact .inl (by omega)
  · refine .inr ⟨by omega, ?_⟩
    rcases h' with h' | ⟨h', h''⟩
    · exact .inl (by rw [← e2]; exact h')
    · exact .inr ⟨by rw [← e2]; exact h', by omega⟩
theorem swoO : SWO (ltOf cmpO) where
  irrefl x := (ltO_no x x).2 (OrdLt.irr x)
  trans x y z h1 h2 := (ltO x z).2 (((ltO x y).1 h1).trans ((ltO y z).1 h2))
  ntrans x y z h1 h2 := by
    rw [ltO_no] at *
    intro h
    rcases OrdLt.tot x y with k | k | k
    · exact h1 k
    · exact h2 (h.same k.1 k.2.1 k.2.2)
    · exact h2 (k.trans h)
set_option maxHeartbeats 1600000 in
set_option maxRecDepth 100000 in
theorem ordClo_gr (x y : Deed) (w : World) : Calls Tryz.prog 145 #[x.v, y.v] w fun e w' => e = .returned (.int .i64 (cmpO x y)) ∧ Gr w w' := by
  have HX : Hid (DeedAt ((w.alloc (.cells #[.string x.site, .int .i64 x.no, .int .i64 x.at_, .int .i64 x.kind, .string x.id, .string x.fld, .string x.val, .int .i64 x.from_, .int .i64 x.to_, .string x.osite, .int .i64 x.ono, .string x.sum] 40)).alloc (.cells #[.string y.site, .int .i64 y.no, .int .i64 y.at_, .int .i64 y.kind, .string y.id, .string y.fld, .string y.val, .int .i64 y.from_, .int .i64 y.to_, .string y.osite, .int .i64 y.ono, .string y.sum] 40)) w.heap.size x) := (deed_new w x).keep ((Below.refl _ _).alloc (Nat.le_refl _) _)
  have HY : Hid (DeedAt ((w.alloc (.cells #[.string x.site, .int .i64 x.no, .int .i64 x.at_, .int .i64 x.kind, .string x.id, .string x.fld, .string x.val, .int .i64 x.from_, .int .i64 x.to_, .string x.osite, .int .i64 x.ono, .string x.sum] 40)).alloc (.cells #[.string y.site, .int .i64 y.no, .int .i64 y.at_, .int .i64 y.kind, .string y.id, .string y.fld, .string y.val, .int .i64 y.from_, .int .i64 y.to_, .string y.osite, .int .i64 y.ono, .string y.sum] 40)) (w.alloc (.cells #[.string x.site, .int .i64 x.no, .int .i64 x.at_, .int .i64 x.kind, .string x.id, .string x.fld, .string x.val, .int .i64 x.from_, .int .i64 x.to_, .string x.osite, .int .i64 x.ono, .string x.sum] 40)).heap.size y) := deed_new _ y
  have hsz : (w.alloc (.cells #[.string x.site, .int .i64 x.no, .int .i64 x.at_, .int .i64 x.kind, .string x.id, .string x.fld, .string x.val, .int .i64 x.from_, .int .i64 x.to_, .string x.osite, .int .i64 x.ono, .string x.sum] 40)).heap.size = w.heap.size + 1 := by simp
  rw [hsz] at HY
  have HG : Hid (Gr w ((w.alloc (.cells #[.string x.site, .int .i64 x.no, .int .i64 x.at_, .int .i64 x.kind, .string x.id, .string x.fld, .string x.val, .int .i64 x.from_, .int .i64 x.to_, .string x.osite, .int .i64 x.ono, .string x.sum] 40)).alloc (.cells #[.string y.site, .int .i64 y.no, .int .i64 y.at_, .int .i64 y.kind, .string y.id, .string y.fld, .string y.val, .int .i64 y.from_, .int .i64 y.to_, .string y.osite, .int .i64 y.ono, .string y.sum] 40))) := ((Gr.refl w).alloc _).alloc _
  have HCI := Lib.hid (fun wx => compareI_any x.at_ y.at_ wx)
  have HOR := Lib.hid (fun (g : Nat) wx h0 h1 => cmpOr_any g (cmpN x.at_ y.at_) (cmpD x y) wx h0 h1)
  have HF : Hid ((if cmpN x.at_ y.at_ = 0 then cmpD x y else cmpN x.at_ y.at_) = cmpO x y) := rfl
  clear hsz
  rw [HF.out] at HOR
  clear HF
  unfold Deed.v
  go_enter Tryz.func145, Tryz.ntmps145
  go_upto_region 1 with (fail)
  obtain ⟨P, hP⟩ : ∃ P, P = w.heap.size := ⟨_, rfl⟩
  rw [← hP] at HX HY ⊢
  generalize ((w.alloc (.cells #[.string x.site, .int .i64 x.no, .int .i64 x.at_, .int .i64 x.kind, .string x.id, .string x.fld, .string x.val, .int .i64 x.from_, .int .i64 x.to_, .string x.osite, .int .i64 x.ono, .string x.sum] 40)).alloc (.cells #[.string y.site, .int .i64 y.no, .int .i64 y.at_, .int .i64 y.kind, .string y.id, .string y.fld, .string y.val, .int .i64 y.from_, .int .i64 y.to_, .string y.osite, .int .i64 y.ono, .string y.sum] 40)) = w1 at *
  clear hP
  have HHELD : Hid (∀ w', Gr w1 w' → w'.cell? ⟨P, 0, none⟩ = some (.string x.site) ∧ w'.cell? ⟨P, 1, none⟩ = some (.int .i64 x.no) ∧ w'.cell? ⟨P, 2, none⟩ = some (.int .i64 x.at_) ∧ w'.cell? ⟨P + 1, 0, none⟩ = some (.string y.site) ∧ w'.cell? ⟨P + 1, 1, none⟩ = some (.int .i64 y.no) ∧ w'.cell? ⟨P + 1, 2, none⟩ = some (.int .i64 y.at_) ∧ Gr w1 w') := fun w' hg => by
    obtain ⟨a0, a1, a2, -⟩ := (HX.out.keep hg.below).c
    obtain ⟨b0, b1, b2, -⟩ := (HY.out.keep hg.below).c
    exact ⟨a0, a1, a2, b0, b1, b2, hg⟩
  obtain ⟨a0, a1, a2, b0, b1, b2, -⟩ := HHELD.out w1 (Gr.refl _)
  have HBS : Hid (∀ wx, Gr w1 wx → Calls Tryz.prog 43 #[.agg #[.string x.site, .int .i64 x.no], .agg #[.string y.site, .int .i64 y.no]] wx fun e w' => e = .returned (.int .i64 (cmpD x y)) ∧ Gr w1 w') := fun wx hx => (byStamp_gr x y wx).mono fun e w' k => ⟨k.1, hx.trans k.2⟩
  generalize cmpD x y = cs at *
  generalize cmpN x.at_ y.at_ = ci at *
  go_region_held3 (fun w' => w'.cell? ⟨P, 0, none⟩ = some (.string x.site) ∧ w'.cell? ⟨P, 1, none⟩ = some (.int .i64 x.no) ∧ w'.cell? ⟨P, 2, none⟩ = some (.int .i64 x.at_) ∧ w'.cell? ⟨P + 1, 0, none⟩ = some (.string y.site) ∧ w'.cell? ⟨P + 1, 1, none⟩ = some (.int .i64 y.no) ∧ w'.cell? ⟨P + 1, 2, none⟩ = some (.int .i64 y.at_) ∧ Gr w1 w')
    (first | assumption | exact HHELD.out _ (Gr.refl _).drew | exact HHELD.out _ (Gr.refl _) | exact HHELD.out _ hgx | exact HHELD.out _ (hgx.alloc _) | exact HHELD.out _ (hgx.alloc _).drew)
    (first
      | (go_at_call 81; (with_reducible refine Calls.mono (HCI.out _) ?_); rintro e wz ⟨rfl, hwz⟩; obtain rfl := hwz.symm)
      | (go_at_call 43; (refine Calls.mono (HBS.out _ ?_) ?_); (first | exact (Gr.refl _).drew | exact Gr.refl _); rintro e wx ⟨rfl, hgx⟩)
      | (go_at_call 79; (refine Calls.mono (HOR.out _ _ (show World.cell? (World.alloc _ _) _ = _ from by rw [World.cell?_alloc_at _ _ _ _ rfl]; rfl) (show World.cell? (World.alloc _ _) _ = _ from by rw [World.cell?_alloc_at _ _ _ _ rfl]; rfl)) ?_); rintro e wz ⟨rfl, hwz⟩; obtain rfl := hwz.symm))
  all_goals
    go_wp2_with fail
    go_ret
    exact ⟨rfl, by first | exact HG.out.trans (hgx.alloc _) | exact HG.out.trans (hgx.alloc _).drew⟩
theorem ord_lays (blk off size : Nat) (w : World) : CmpLays Tryz.prog 145 #[] Deed.cells 12 cmpO blk off size w :=
  fun _ _ _ _ x y => ordClo_gr x y _
/-- Sorted by moments. -/
def OrdPost (w : World) (A : Option Addr) (n c : Nat) (l : List Deed) (row : Option Nat) (e : Ending) (w' : World) : Prop :=
  e = .returned (.tuple #[]) ∧ (∃ L, L.Perm l ∧ (L.Pairwise fun x y => ltOf cmpO y x = false) ∧ DeedsAt w' A n c L) ∧ w.grownBy w' row
set_option maxHeartbeats 800000 in
theorem insD_zero (A : Option Addr) (c : Nat) (w : World) (F : Value) : Calls Tryz.prog 128 #[.slice A 0 c, .int .i64 0, .int .i64 0, F] w fun e w' => e = .returned (.tuple #[]) ∧ w' = w := by
  go_enter Tryz.func128, Tryz.ntmps128
  go_wp2_with fail
  refine wp_loop_rounds 1 ?_
  rw [rounds_succ]
  go_wp2_with fail
  go_end0
  exact ⟨rfl, rfl⟩
theorem insD_spec (l : List Deed) : PermIn 0 l.length l.toArray (insertionSort (ltOf cmpO) l.toArray 0 l.length) ∧ SortedIn (ltOf cmpO) 0 l.length (insertionSort (ltOf cmpO) l.toArray 0 l.length) :=
  insertionSort_holds (lt := ltOf cmpO) swoO l.toArray 0 l.length (Nat.zero_le _) (by simp)
theorem insD_size (l : List Deed) : (insertionSort (ltOf cmpO) l.toArray 0 l.length).size = l.length := by rw [(insD_spec l).1.1]; simp
theorem ins_sorted (l : List Deed) : (insertionSort (ltOf cmpO) l.toArray 0 l.length).toList.Perm l ∧ (insertionSort (ltOf cmpO) l.toArray 0 l.length).toList.Pairwise fun x y => ltOf cmpO y x = false := by
  have hs := insD_size l
  have h1 := (insD_spec l).1.2.2
  have h2 := (insD_spec l).2
  generalize insertionSort (ltOf cmpO) l.toArray 0 l.length = d at *
  constructor
  · have e1 : d.extract 0 l.length = d := by rw [← hs]; simp
    have e2 : l.toArray.extract 0 l.length = l.toArray := by simp
    rw [e1, e2] at h1
    exact h1
  · rw [List.pairwise_iff_getElem]
    intro i j hi hj hij
    have hi' : i < d.size := by simpa using hi
    have hj' : j < d.size := by simpa using hj
    have := h2 i j (Nat.zero_le _) hij (by omega)
    rw [getElem!_pos d i hi', getElem!_pos d j hj'] at this
    simpa using this
set_option maxHeartbeats 800000 in
theorem insD_any (base n c : Nat) (A : Option Addr) (l : List Deed) (w : World) (hn : n = l.length) (hn2 : n ≤ 1000) (h : Owns DeedE w base (.slice A n c) l) :
    Calls Tryz.prog 128 #[.slice A n c, .int .i64 0, .int .i64 n, .func (.func 145) #[] #[]] w (OrdPost w A n c l (Value.slice A n c).ownBlock) := by
  subst hn
  rcases Nat.eq_zero_or_pos l.length with h0 | h0
  · have hl := List.eq_nil_of_length_eq_zero h0
    subst hl
    obtain ⟨A', c', he, hcc, hat, _⟩ := h.at_ deedE_ok
    simp only [Value.slice.injEq] at he
    obtain ⟨rfl, _, rfl⟩ := he
    refine (insD_zero A c w _).mono ?_
    rintro e w' ⟨rfl, hw⟩
    rw [hw]
    exact ⟨rfl, ⟨[], List.Perm.refl _, List.Pairwise.nil, hat⟩, World.grownBy.refl _ _⟩
  · obtain ⟨g, c', he, hgb, hgl, _⟩ := h.where_ deedE_ok h0
    simp only [Value.slice.injEq] at he
    obtain ⟨rfl, _, rfl⟩ := he
    obtain ⟨A', c', he, hcc, hat, _⟩ := h.at_ deedE_ok
    simp only [Value.slice.injEq] at he
    obtain ⟨rfl, _, rfl⟩ := he
    have hlc := hat.2.1
    have hH := h.holdsS deedE_ok
    have eg : ∀ args w, (callFunc 145 args).run Tryz.prog w = .ok (.enter 145 args) w := enters_of Tryz.func145 (by kernel_rfl) rfl
    have hcon := AnyQ.insertionSortCmpFunc Tryz.inQ128 12 Tryz.isAgg40 Tryz.sizeOf40 Deed.cells (fun _ => rfl)
      (fun x v hv => deedE_ok.one x v hv) cmpO 145 #[] g 0 c 0 l.length l.toArray w eg (ord_lays g 0 _ w) hH hgl (Nat.zero_le _) (by simp) (by simp; omega)
    have hsz : l.toArray.size = l.length := by simp
    rw [hsz] at hcon
    refine Calls.mono hcon ?_
    rintro e w' ⟨rfl, q, os, rfl⟩
    have hs : (insertionSort (ltOf cmpO) l.toArray 0 l.length).size = l.length := insD_size l
    have hH' := holdsK_sortWorldK_c Deed.cells 12 w g 0 l.toArray _ q os hH hgl (by rw [hs, hsz])
    have hel := elems_of_holdsS deedE_ok (c := c) hH' (Nat.lt_of_lt_of_le hgl (size_sortWorldK_c Deed.cells 12 w g 0 q _ os)) (by rw [hs]; exact hlc)
    rw [hs] at hel
    have hps := ins_sorted l
    exact ⟨rfl, ⟨_, hps.1, hps.2, hel⟩, grown_sortS Deed.cells 12 w g 0 q _ os⟩
set_option maxHeartbeats 1600000 in
set_option maxRecDepth 100000 in
theorem stableD_any (base n c : Nat) (A : Option Addr) (l : List Deed) (w : World) (hn : n = l.length) (hn2 : n < 20) (h : Owns DeedE w base (.slice A n c) l) :
    Calls Tryz.prog 213 #[.slice A n c, .int .i64 n, .func (.func 145) #[] #[]] w (OrdPost w A n c l (Value.slice A n c).ownBlock) := by
  have HN := Lib.hid hn; clear hn
  have hI := insD_any base n c A l w HN.out (by omega) h
  clear h
  have h20 : ¬ (20 : Int) ≤ (n : Int) := by omega
  have h21 : ¬ (20 : Int) < (n : Int) := by omega
  go_enter Tryz.func213, Tryz.ntmps213
  go_wp2_with fail
  refine wp_loop_rounds 1 ?_
  rw [rounds_succ]
  go_wp2_with fail
  refine hI.mono ?_
  rintro e w' ⟨rfl, h1, h2⟩
  clear hI
  go_wp2_with fail
  refine wp_loop_rounds 1 ?_
  rw [rounds_succ]
  go_wp2_with fail
  go_end0
  exact ⟨rfl, h1, h2⟩
set_option maxHeartbeats 800000 in
theorem sortStableD_any (base n c : Nat) (A : Option Addr) (l : List Deed) (w : World) (hn : n = l.length) (hn2 : n < 20) (h : Owns DeedE w base (.slice A n c) l) :
    Calls Tryz.prog 176 #[.slice A n c, .func (.func 145) #[] #[]] w (OrdPost w A n c l (Value.slice A n c).ownBlock) := by
  have HI := Lib.hid (stableD_any base n c A l w hn hn2 h); clear h hn
  go_enter Tryz.func176, Tryz.ntmps176
  go_wp2_with fail
  refine HI.out.mono ?_
  rintro e w' ⟨rfl, h1, h2⟩
  go_wp2_with fail
  go_end0
  exact ⟨rfl, h1, h2⟩
end Go.Proofs.YthogkcgklakibaaGreatDoor

namespace Go.Proofs.YthogkcgklakibaaGreatDoor
open Go.RowKit Go.Shelf

attribute [local go_sem] Oper.semAt_some

set_option maxRecDepth 100000 in
theorem append_elemsIn {α : Type} {E : Elem α} (hE : E.Ok) {F : Fence} {n' : Nat} {ops : Array Oper} {rest : List Oper} {o : Oper} {a : Act} {Q : Exit → Act → World → Prop} {w : World} (hgd : o.guard = none) (s x : Operand)
    (ho : o.op = .call { callee := .builtin .append, args := #[s, x], argTypes := #[E.ts, E.ts] })
    (base : Nat) (v : Value) (l : List α) (hs : a.eval s = v) (hown : Owns E w base v l)
    (ad : Addr) (m c : Nat) (l2 : List α) (hx : a.eval x = .slice (some ad) m c) (hr : ElemsAt E w (some ad) m c l2) (hsz : l.length + l2.length ≤ 100000) (hbase : base ≤ w.heap.size)
    (h : ∀ v' w', Owns E w' base v' (l ++ l2) → w.grownBy w' v.ownBlock → wpListIn F n' Tryz.prog ops Q rest (a.put o.dst v') w') : wpListIn F n' Tryz.prog ops Q (o :: rest) a w := by
  obtain ⟨i0, hi, hz0, hz1, hz2⟩ := info_parts hE.info
  have hm := hr.1
  have hf := hE.few
  have hb : (l.length + m) * E.bytes ≤ 140737488355328 := Nat.le_trans (Nat.mul_le_mul (show l.length + m ≤ 100000 by omega) hf) (by omega)
  refine wpListIn_append_own_at w hgd s x E.ts ho base E.t i0 _ E.size E.bytes hE.und hi hz0 hz1 hz2 hE.zcells hE.pos v l.length (E.cells l) hs hown ad m c (E.cells l2) hx (by rw [Elem.cells_length hE, hm]) (hr.cells_ hE ad rfl) (Elem.cells_one hE l2) (by simp only [maxLen]; omega) hb hbase ?_
  intro v' w' h1 h2 _ _
  refine h v' w' ?_ h2
  unfold Owns
  rw [Elem.cells_append, List.length_append, ← hm]
  exact h1
theorem Owns.other {α : Type} {E : Elem α} {W W' : World} {base : Nat} {v : Value} {l : List α} {row : Option Nat} (h : Owns E W base v l) (hg : W.grownBy W' row) (hr : ∀ r, row = some r → ∃ o : Obj, W.heap[r]? = some o ∧ o.isCells = false) : Owns E W' base v l := by
  refine World.ownsRow.kept h hg ?_
  rcases h.2 with ⟨rfl, _⟩ | ⟨g, cap, cur, rfl, _, hgb, _⟩
  · exact .inl rfl
  · refine .inr fun e' => ?_
    obtain ⟨o, ho, hc⟩ := hr g (by simpa [Value.ownBlock] using e'.symm)
    rw [hgb] at ho; cases ho; cases hc
theorem below_others {W W' : World} (h : Below W.heap.size W W') : KeepsOthers W W' := KeepsOthers.of_grownBy (below_grown h none) (fun j o e => by cases e)
set_option maxHeartbeats 1600000 in
theorem values_any (A : Option Addr) (n c : Nat) (w : World) :
    Calls Tryz.prog 144 #[.slice A n c] w fun e w' => e = .returned (.func (.func 177) #[] #[.pointer (some ⟨w.heap.size, 0, none⟩)]) ∧ w' = w.alloc (.cells #[.slice A n c] 26) := by
  go_enter Tryz.func144, Tryz.ntmps144
  go_wp2_with fail
  go_ret
  exact ⟨by simp, rfl⟩
set_option maxRecDepth 100000 in
set_option maxHeartbeats 2000000 in
theorem values1_in (n : Nat) (hn : 1 ≤ n) (l Bs n₀ : Nat) (A : Option Addr) (m c : Nat) (L : List Deed) (w0 : World) (hm : m ≤ 100000) (hL : DeedsAt w0 A m c L) (h0n : w0.heap.size ≤ n₀) (J Jx : List Deed → World → Prop)
    (hY : ∀ pre x W, J pre W → pre.length < m → YieldAt Fence.wide (n - 1) Tryz.prog l #[x.v] W fun e W' =>
      (e = .returned (.bool true) ∧ J (pre ++ [x]) W' ∧ Below n₀ W W') ∨ (e = .returned (.bool false) ∧ Jx (pre ++ [x]) W'))
    (hAb : ∀ pre W W', J pre W → W.grownBy W' none → J pre W') (W : World) (hW : Below w0.heap.size w0 W) (hBs : W.cell? ⟨Bs, 0, none⟩ = some (.slice A m c)) (h0 : J [] W) :
    CallsIn Fence.wide n Tryz.prog 177 #[.func (.yield l) #[] #[], .pointer (some ⟨Bs, 0, none⟩)] W fun e W' => (∃ v, e = .returned v) ∧
      ((∃ ys, ys = L ∧ J ys W') ∨ (∃ pre, True ∧ Jx pre W')) := by
  have HLN : Hid (m = L.length) := hL.1
  have HAT := Lib.hid hL
  clear hL
  refine callsIn_of_wp Tryz.func177 rfl trivial ?_ rfl
  simp only [Tryz.ntmps177, List.size_toArray, List.length_cons, List.length_nil, Nat.reduceAdd, Nat.reduceSub, Array.replicate_succ, Array.replicate_zero, List.push_toArray, List.append_toArray, List.nil_append, List.cons_append]
  gi_wp2
  gi_loopw [7] (fun i wr => ∃ (k : Nat), i = .int .i64 (k : Int) ∧ Hid (k ≤ m) ∧ J (L.take k) wr ∧ Hid (Below w0.heap.size w0 wr))
    (fun i _ => m - (intOf i).toNat)
  case atStart => exact ⟨0, rfl, Nat.zero_le _, by simpa using h0, hW⟩
  case round =>
    obtain ⟨k, rfl, HK, hJ, HB⟩ := hrel
    by_cases hlt : k < m
    · have hki : (k : Int) < (m : Int) := by omega
      obtain ⟨gA, off, rfl, hg, hc⟩ := (ElemsAt.keep HAT.out HB.out).deed (by omega)
      have hkl : k < L.length := by have := HLN.out; omega
      obtain ⟨x, hx⟩ : ∃ x, L[k]? = some x := ⟨_, List.getElem?_eq_getElem hkl⟩
      obtain ⟨c0, c1, c2, c3, c4, c5, c6, c7, c8, c9, c10, c11⟩ := hc k x hx
      have HTK : Hid (L.take k ++ [x] = L.take (k + 1)) := by show _ = _; rw [List.take_add_one, hx]; rfl
      have HPL : Hid ((L.take k).length < m) := by show _ < _; rw [List.length_take]; omega
      have hal : wr.grownBy (wr.alloc (.cells #[.string x.site, .int .i64 x.no, .int .i64 x.at_, .int .i64 x.kind, .string x.id, .string x.fld, .string x.val, .int .i64 x.from_, .int .i64 x.to_, .string x.osite, .int .i64 x.ono, .string x.sum] 40)) none := World.grownBy_alloc wr _ none
      have HX1 : Hid (DeedAt (wr.alloc (.cells #[.string x.site, .int .i64 x.no, .int .i64 x.at_, .int .i64 x.kind, .string x.id, .string x.fld, .string x.val, .int .i64 x.from_, .int .i64 x.to_, .string x.osite, .int .i64 x.ono, .string x.sum] 40)) wr.heap.size x) := deed_new wr x
      have HJ1 := Lib.hid (hAb _ _ _ hJ hal)
      have HB1 := Lib.hid (HB.out.alloc HB.out.size (.cells #[.string x.site, .int .i64 x.no, .int .i64 x.at_, .int .i64 x.kind, .string x.id, .string x.fld, .string x.val, .int .i64 x.from_, .int .i64 x.to_, .string x.osite, .int .i64 x.ono, .string x.sum] 40))
      clear hc hkl hx hg hJ hal HB hBs h0
      gi_upto_region 3 with (fail)
      obtain ⟨P, hP⟩ : ∃ P, P = wr.heap.size := ⟨_, rfl⟩
      rw [← hP] at HX1 ⊢
      generalize wr.alloc (.cells #[.string x.site, .int .i64 x.no, .int .i64 x.at_, .int .i64 x.kind, .string x.id, .string x.fld, .string x.val, .int .i64 x.from_, .int .i64 x.to_, .string x.osite, .int .i64 x.ono, .string x.sum] 40) = w2 at *
      clear hP c0 c1 c2 c3 c4 c5 c6 c7 c8 c9 c10 c11
      obtain ⟨a0, a1, a2, a3, a4, a5, a6, a7, a8, a9, a10, a11⟩ := HX1.out.c
      obtain ⟨fn, tmps, assign, body, hy, hR⟩ := hY (L.take k) x w2 HJ1.out HPL.out
      unfold Deed.v at hy
      gi_wp2
      refine hR.mono ?_
      rintro e W3 (⟨rfl, hJ3, hk3⟩ | ⟨rfl, hJx3⟩)
      · rw [HTK.out] at hJ3
        have HB3 := Lib.hid (HB1.out.trans (hk3.mono h0n))
        have HJ3 := Lib.hid hJ3
        clear hR hy hJ3 hk3 a0 a1 a2 a3 a4 a5 a6 a7 a8 a9 a10 a11
        have e1 : IntKind.i64.wrap ((k : Int) + 1) = (k : Int) + 1 := IntWalk.i64_in _ (by omega)
        gi_wp2
        go_roundw
        case rel => exact ⟨k + 1, by simp, hlt, HJ3.out, HB3.out⟩
        case measure => simp [intOf]; omega
      · have HJ3 := Lib.hid hJx3
        clear hR hy hJx3 a0 a1 a2 a3 a4 a5 a6 a7 a8 a9 a10 a11
        gi_wp2
        refine bodyPost_ret (results_none rfl _ _ _) rfl ?_
        exact ⟨⟨_, rfl⟩, .inr ⟨_, trivial, HJ3.out⟩⟩
    · have hki : ¬ (k : Int) < (m : Int) := by omega
      have HTK : Hid (L.take k = L) := List.take_of_length_le (by have := HLN.out; omega)
      rw [HTK.out] at hJ
      gi_wp2
      go_end0
      exact ⟨⟨_, rfl⟩, .inl hJ⟩
theorem values_stops (n : Nat) (hn : 1 ≤ n) (Bs n₀ : Nat) (A : Option Addr) (m c : Nat) (L : List Deed) (w0 w : World) (hm : m ≤ 100000) (hL : DeedsAt w0 A m c L) (h0n : w0.heap.size ≤ n₀) (hBn : Bs < w.heap.size) (hB0 : Below w0.heap.size w0 w) (hBs : w.cell? ⟨Bs, 0, none⟩ = some (.slice A m c)) :
    SeqStopsK Fence.wide n Tryz.prog 177 #[.pointer (some ⟨Bs, 0, none⟩)] (fun x : Deed => #[x.v]) (Below n₀) (fun ys => ys = L) (fun _ => True) m w := fun l J Jx W hW hJ _ hY h0 =>
  values1_in n hn l Bs n₀ A m c L w0 hm hL h0n J Jx hY (fun pre W W' h hg => hJ pre W W' none h hg (fun r e => by cases e)) W (hB0.trans (hW.mono hB0.size)) ((hW.cell (p := ⟨Bs, 0, none⟩) hBn).trans hBs) h0
/-- What is held between two rounds. -/
def RoundD (w0 : World) (n₀ B : Nat) (pre : List Deed) (W : World) : Prop := (∃ v, Boxed W B 26 v ∧ Owns DeedE W n₀ v pre) ∧ Below w0.heap.size w0 W ∧ n₀ ≤ W.heap.size
theorem roundD_own (w0 : World) (n₀ B L : Nat) (hL : w0.heap.size ≤ L) : OwnFrom L (RoundD w0 n₀ B) := by
  rintro s W W' row ⟨⟨v, hb, hp⟩, hB, hn⟩ hg hr
  have hr' : ∀ r, row = some r → ∃ o : Obj, W.heap[r]? = some o ∧ o.isCells = false := fun r e => (hr r e).2
  refine ⟨⟨v, hb.kept hg (fun e => ?_), hp.other hg hr'⟩, hB.grown hg hB.size (fun i e => Nat.le_trans hL (hr i e).1), Nat.le_trans hn hg.size⟩
  obtain ⟨o, ho, hc⟩ := hr' B e.symm
  have hbb : W.heap[B]? = some (.cells #[v] 26 (0, 0)) := hb
  rw [hbb] at ho
  cases ho
  cases hc
/-- What a round leaves. -/
theorem roundD_end {w0 W w2 w6 : World} {B : Nat} {v v6 : Value} {pre : List Deed} {x : Deed} (hB : w0.heap.size ≤ B) (hbx : Boxed W B 26 v) (hpp : Owns DeedE W (B + 1) v pre) (hBW : Below w0.heap.size w0 W) (hnW : B + 1 ≤ W.heap.size)
    (h2 : Below W.heap.size W w2) (hown6 : Owns DeedE w6 (B + 1) v6 (pre ++ [x])) (hg6 : w2.grownBy w6 v.ownBlock) :
    (w6.cell? ⟨B, 0, none⟩ = some v ∧ w6.frozen? ⟨B, 0, none⟩ = false) ∧ KeepsOthers W (w6.setCell ⟨B, 0, none⟩ v6) ∧ Below B W (w6.setCell ⟨B, 0, none⟩ v6) ∧ RoundD w0 (B + 1) B (pre ++ [x]) (w6.setCell ⟨B, 0, none⟩ v6) := by
  have hp2 : Owns DeedE w2 (B + 1) v pre := hpp.below_ h2
  have hrow : ∀ i, v.ownBlock = some i → B + 1 ≤ i := fun i hi => (hp2.lt i hi).1
  have hz2 := h2.size
  have hz6 := hg6.size
  have hb2 : Boxed w2 B 26 v := hbx.kept (below_grown h2 none) (by simp)
  have hb1 : Boxed w6 B 26 v := hb2.kept hg6 (fun e => by have := hrow B e.symm; omega)
  refine ⟨⟨hb1.cell, hb1.frozen⟩, ?_, ?_, ⟨⟨_, hb1.set _, ?_⟩, ?_, ?_⟩⟩
  · refine (below_others h2).trans ((KeepsOthers.of_grownBy hg6 fun j ob ej hj => ?_).trans (KeepsOthers.setCell _ _ _))
    rcases hp2.2 with ⟨rfl, _⟩ | ⟨g, cap, cur, rfl, _, hgb, _⟩
    · simp [Value.ownBlock] at ej
    · obtain rfl : g = j := by simpa [Value.ownBlock] using ej
      rw [hgb] at hj; cases hj; rfl
  · exact ((h2.mono (by omega)).grown hg6 (by omega) (fun i e => by have := hrow i e; omega)).setCell (p := ⟨B, 0, none⟩) (by show _ ≤ B; omega) _
  · refine World.ownsRow.kept hown6 (grown_setCell _ _ _ _) ?_
    exact .inr (hown6.ne_block (show w6.heap[B]? = _ from hb1) (by decide))
  · refine ((hBW.trans (h2.mono hBW.size)).grown hg6 (by have := hBW.size; omega) (fun i e => by have := hrow i e; omega)).setCell (p := ⟨B, 0, none⟩) (by show _ ≤ B; omega) _
  · simp [World.setCell]; omega
/-- A round's activation: the deed lies in a block of its own. -/
def AxD (Bs B : Nat) (x : Deed) (a' : Act) (W : World) : Prop := ∃ P, DeedAt W P x ∧ a' = { tmps := #[.slice none 0 0, (.func (.func 177) #[] #[.pointer (some ⟨Bs, 0, none⟩)]), .pointer (some ⟨B, 0, none⟩), undef, .slice none 0 0, .pointer (some ⟨P, 0, none⟩), (.func (.func 177) #[] #[.pointer (some ⟨Bs, 0, none⟩)]), .agg #[.string x.site, .int .i64 x.no, .int .i64 x.at_, .int .i64 x.kind, .string x.id, .string x.fld, .string x.val, .int .i64 x.from_, .int .i64 x.to_, .string x.osite, .int .i64 x.ono, .string x.sum], undef, undef, undef, undef, undef], defers := [] }
theorem axD_own (Bs B L : Nat) (x : Deed) (a' : Act) : OwnFrom L (fun (_ : Unit) W => AxD Bs B x a' W) := by
  rintro s W W' row ⟨P, hP, e⟩ hg hr
  refine ⟨P, (hg.block P hP.lt (fun e => ?_)).trans hP, e⟩
  obtain ⟨_, o, ho, hc⟩ := hr P e.symm
  have hbb : W.heap[P]? = _ := hP
  rw [hbb] at ho
  cases ho
  cases hc
def OwnsPost (base : Nat) (w : World) (L : List Deed) (e : Ending) (w' : World) : Prop := ∃ v, e = .returned v ∧ Owns DeedE w' base v L ∧ Below w.heap.size w w'
set_option maxHeartbeats 3200000 in
set_option maxRecDepth 100000 in
theorem appendSeq_in (n : Nat) (hn : 3 ≤ n) (Bs : Nat) (A : Option Addr) (m c : Nat) (L : List Deed) (w0 w : World) (hm : m ≤ 50000) (hL : DeedsAt w0 A m c L) (hB0 : Below w0.heap.size w0 w) (hBn : Bs < w.heap.size) (hBs : w.cell? ⟨Bs, 0, none⟩ = some (.slice A m c)) :
    CallsIn Fence.wide n Tryz.prog 212 #[.slice none 0 0, .func (.func 177) #[] #[.pointer (some ⟨Bs, 0, none⟩)]] w (OwnsPost w.heap.size w L) := by
  have HLN : Hid (m = L.length) := hL.1
  refine callsIn_of_wp_marks Tryz.func212 rfl trivial ?_ rfl
  simp only [Tryz.ntmps212, List.size_toArray, List.length_cons, List.length_nil, Nat.reduceAdd, Nat.reduceSub, Array.replicate_succ, Array.replicate_zero, List.push_toArray, List.append_toArray, List.nil_append, List.cons_append]
  gi_wp2_with fail
  have HBX : Hid (Boxed (w.alloc (.cells #[.slice none 0 0] 26)) w.heap.size 26 (.slice none 0 0)) := Boxed.new w 26 (.slice none 0 0)
  have HB4 : Hid (Below w.heap.size w (w.alloc (.cells #[.slice none 0 0] 26))) := (Below.refl _ w).alloc (Nat.le_refl _) _
  have hz3 : (w.alloc (.cells #[.slice none 0 0] 26)).heap.size = w.heap.size + 1 := by simp
  have HCB : Hid ((w.alloc (.cells #[.slice none 0 0] 26)).cell? ⟨Bs, 0, none⟩ = some (.slice A m c)) := (HB4.out.cell (p := ⟨Bs, 0, none⟩) hBn).trans hBs
  have HB9 : Hid (Below w0.heap.size w0 (w.alloc (.cells #[.slice none 0 0] 26))) := hB0.trans (HB4.out.mono hB0.size)
  generalize w.alloc (.cells #[.slice none 0 0] 26) = W4 at *
  obtain ⟨B, hB⟩ : ∃ B, B = w.heap.size := ⟨_, rfl⟩
  rw [← hB] at HBX hz3 ⊢
  have HBE := Lib.hid hB
  have hz0 := hB0.size
  clear hB hBs
  refine wpIn_rangeFunc_ownH (n := n) rfl (by omega) (gf := 177) (lb := #[.pointer (some ⟨Bs, 0, none⟩)]) rfl trivial (enters_of Tryz.func177 (by kernel_rfl) rfl)
    (values_stops (n - 1) (by omega) Bs B A m c L w0 W4 (by omega) hL (by have := HBE.out; omega) (by have := HBE.out; omega) HB9.out HCB.out) (fun h k => belowK_t h k) (fun W l o o' hl hh h1 h2 => belowK_b (by omega : B ≤ W4.heap.size) W l o o' hl hh h1 h2) (Below.refl _ _) (fun _ => rfl)
    (RoundD w (B + 1) B) (fun _ _ _ => False) (roundD_own w (B + 1) B _ (by have := HBE.out; omega)) (fun _ _ _ _ _ hs _ _ => hs)
    ⟨⟨_, HBX.out, Owns.nil _ _⟩, HB4.out, by omega⟩
    (AxD Bs B) (axD_own Bs B _) ?assign ?body ?done ?stop
  case assign =>
    intro l pre x W K hI hK
    have HX1 : Hid (DeedAt (W.alloc (.cells #[.string x.site, .int .i64 x.no, .int .i64 x.at_, .int .i64 x.kind, .string x.id, .string x.fld, .string x.val, .int .i64 x.from_, .int .i64 x.to_, .string x.osite, .int .i64 x.ono, .string x.sum] 40)) W.heap.size x) := deed_new W x
    have HBL : Hid (Below W.heap.size W (W.alloc (.cells #[.string x.site, .int .i64 x.no, .int .i64 x.at_, .int .i64 x.kind, .string x.id, .string x.fld, .string x.val, .int .i64 x.from_, .int .i64 x.to_, .string x.osite, .int .i64 x.ono, .string x.sum] 40))) := (Below.refl _ W).alloc (Nat.le_refl _) _
    have HRD : Hid (RoundD w (B + 1) B pre (W.alloc (.cells #[.string x.site, .int .i64 x.no, .int .i64 x.at_, .int .i64 x.kind, .string x.id, .string x.fld, .string x.val, .int .i64 x.from_, .int .i64 x.to_, .string x.osite, .int .i64 x.ono, .string x.sum] 40))) := by
      obtain ⟨⟨v, hv, ho⟩, h1, h2⟩ := hI
      exact ⟨⟨v, hv.alloc _, ho.below_ HBL.out⟩, h1.alloc h1.size _, by simp; omega⟩
    have hnW : B + 1 ≤ W.heap.size := hI.2.2
    have HKF := Lib.hid (below_others HBL.out)
    clear hI
    unfold Deed.v
    gi_wp2
    exact hK _ _ (HKF.out.from _) (HBL.out.mono (by omega)) HRD.out ⟨_, HX1.out, rfl⟩
  case body =>
    rintro l pre x a' W hwl _ ⟨⟨v, hbx, hpp⟩, hBW, hnW⟩ ⟨P, hP, rfl⟩ hlt
    have hcv := hbx.cell
    obtain ⟨a0, a1, a2, a3, a4, a5, a6, a7, a8, a9, a10, a11⟩ := hP.c
    have HPP : Hid (Owns DeedE (W.alloc (.cells #[.string x.site, .int .i64 x.no, .int .i64 x.at_, .int .i64 x.kind, .string x.id, .string x.fld, .string x.val, .int .i64 x.from_, .int .i64 x.to_, .string x.osite, .int .i64 x.ono, .string x.sum] 40)) (B + 1) v pre) := hpp.below_ ((Below.refl _ W).alloc (Nat.le_refl _) _)
    have HONE : Hid (ElemsAt DeedE (W.alloc (.cells #[.string x.site, .int .i64 x.no, .int .i64 x.at_, .int .i64 x.kind, .string x.id, .string x.fld, .string x.val, .int .i64 x.from_, .int .i64 x.to_, .string x.osite, .int .i64 x.ono, .string x.sum] 40)) (some ⟨W.heap.size, 0, none⟩) 1 1 [x]) := one_elem (E := DeedE) W x
    have HBL : Hid (Below W.heap.size W (W.alloc (.cells #[.string x.site, .int .i64 x.no, .int .i64 x.at_, .int .i64 x.kind, .string x.id, .string x.fld, .string x.val, .int .i64 x.from_, .int .i64 x.to_, .string x.osite, .int .i64 x.ono, .string x.sum] 40))) := (Below.refl _ W).alloc (Nat.le_refl _) _
    gi_wp2_with (gi_at_builtin; refine append_elemsIn deedE_ok rfl _ _ rfl (B + 1) v pre rfl HPP.out ⟨W.heap.size, 0, none⟩ 1 1 [x] rfl HONE.out (by simp; omega) (by simp; omega) ?_; intro v6 w6 hown6 hgrow6; obtain ⟨⟨k1, k2⟩, k3, k4, k5⟩ := roundD_end (w0 := w) (by have := HBE.out; omega) hbx hpp hBW hnW HBL.out hown6 hgrow6; obtain ⟨A6, c6, hv6, -, -, -⟩ := hown6.at_ deedE_ok; subst hv6)
    have hl1 : (pre ++ [x]).length = pre.length + 1 := by simp
    rw [hl1] at k3 k4 k5
    exact ⟨k3.from _, k4, k5⟩
  case done =>
    rintro D ys W hD rfl ⟨⟨v, hbx, hpp⟩, hBW, hnW⟩ hK
    have hc := hbx.cell
    have HF : Hid (OwnsPost w.heap.size w ys (.returned v) (W.putObj D (.deferred none))) := by
      refine ⟨v, rfl, (hpp.other (grownBy_putObj' W D (.deferred none)) (fun r e => by cases e; exact ⟨_, hK, rfl⟩)).base_ (by have := HBE.out; omega), ?_⟩
      exact hBW.grown (grownBy_putObj' W D (.deferred none)) hBW.size (fun i e => by cases e; have := HBE.out; omega)
    gi_wp2_with fail
    refine ⟨by simp, .inl ⟨_, _, rfl, run_takeDeferred hK, ?_⟩⟩
    exact ⟨_, results_tmp (t := 4) rfl _ _ _, HF.out⟩
  case stop =>
    rintro D c pre W _ _ h _
    exact h.elim
set_option maxHeartbeats 800000 in
theorem collect_any (Bs : Nat) (A : Option Addr) (m c : Nat) (L : List Deed) (w : World) (hm : m ≤ 50000) (hL : DeedsAt w A m c L) (hBn : Bs < w.heap.size) (hBs : w.cell? ⟨Bs, 0, none⟩ = some (.slice A m c)) :
    Calls Tryz.prog 175 #[.func (.func 177) #[] #[.pointer (some ⟨Bs, 0, none⟩)]] w (OwnsPost w.heap.size w L) := by
  have HC := Lib.hid ((callsIn_wide (n := 3)).1 (appendSeq_in 3 (by omega) Bs A m c L w w hm hL (Below.refl _ _) hBn hBs))
  clear hL hBs
  go_enter Tryz.func175, Tryz.ntmps175
  go_wp2_with fail
  refine HC.out.mono ?_
  rintro e w' ⟨v, rfl, h1, h2⟩
  go_wp2_with fail
  go_ret
  exact ⟨v, rfl, h1, h2⟩
/-- A list in the order of its moments. -/
def OrdOf (L l : List Deed) : Prop := L.Perm l ∧ L.Pairwise fun x y => ltOf cmpO y x = false
def OrdedPost (w : World) (l : List Deed) (e : Ending) (w' : World) : Prop := ∃ A n c L, e = .returned (.slice A n c) ∧ OrdOf L l ∧ DeedsAt w' A n c L ∧ (∀ g off, A = some ⟨g, off, none⟩ → w.heap.size ≤ g) ∧ Below w.heap.size w w'
set_option maxHeartbeats 800000 in
theorem ordered_any (A : Option Addr) (n c : Nat) (l : List Deed) (w : World) (h : DeedsAt w A n c l) (hn : n < 20) :
    Calls Tryz.prog 99 #[.slice A n c] w (OrdedPost w l) := by
  have HN : Hid (n = l.length) := h.1
  have HAT := Lib.hid h
  clear h
  have hS : Calls Tryz.prog 143 #[.func (.func 177) #[] #[.pointer (some ⟨w.heap.size, 0, none⟩)], .func (.func 145) #[] #[]] (w.alloc (.cells #[.slice A n c] 26)) (OrdedPost w l) := by
    have hcb : (w.alloc (.cells #[.slice A n c] 26)).cell? ⟨w.heap.size, 0, none⟩ = some (.slice A n c) := by rw [World.cell?_alloc_at _ _ _ _ rfl]; rfl
    have HC := Lib.hid (collect_any w.heap.size A n c l (w.alloc (.cells #[.slice A n c] 26)) (by omega) (HAT.out.keep ((Below.refl _ _).alloc (Nat.le_refl _) _)) (by simp) hcb)
    have HB : Hid (Below w.heap.size w (w.alloc (.cells #[.slice A n c] 26))) := (Below.refl _ _).alloc (Nat.le_refl _) _
    clear hcb
    generalize w.alloc (.cells #[.slice A n c] 26) = w1 at *
    go_enter Tryz.func143, Tryz.ntmps143
    go_wp2_with fail
    refine HC.out.mono ?_
    rintro e w2 ⟨v, rfl, h1, h2⟩
    have HO := Lib.hid h1
    obtain ⟨A2, c2, rfl, hc2, hat2, hrow2⟩ := h1.at_ deedE_ok
    have HB2 := Lib.hid (HB.out.trans (h2.mono HB.out.size))
    have HS := Lib.hid (sortStableD_any w1.heap.size l.length c2 A2 l w2 rfl (by have := HN.out; omega) HO.out)
    clear h1 h2 hat2
    obtain ⟨m, hm⟩ : ∃ m, m = l.length := ⟨_, rfl⟩
    rw [← hm] at HS ⊢
    have HM := Lib.hid hm
    clear hm
    go_wp2_with fail
    refine HS.out.mono ?_
    rintro e w3 ⟨rfl, ⟨L, hp, hsrt, hat3⟩, hg3⟩
    go_wp2_with fail
    go_ret
    have hlt : ∀ i, (Value.slice A2 m c2).ownBlock = some i → w1.heap.size ≤ i := fun i hi => (HO.out.lt i (by rw [← HM.out]; exact hi)).1
    exact ⟨_, _, _, L, rfl, ⟨hp, hsrt⟩, hat3, (fun g off e => by subst e; have := hlt g rfl; have := HB.out.size; omega), HB2.out.grown hg3 HB2.out.size (fun i e => by have := hlt i e; have := HB.out.size; omega)⟩
  go_enter Tryz.func99, Tryz.ntmps99
  go_wp2_with fail
  refine (values_any A n c w).mono ?_
  rintro e w1 ⟨rfl, rfl⟩
  go_wp2_with fail
  refine hS.mono ?_
  rintro e w2 ⟨A2, n2, c2, L, rfl, h1, h2, h4, h3⟩
  go_wp2_with fail
  go_ret
  exact ⟨A2, n2, c2, L, rfl, h1, h2, h4, h3⟩
end Go.Proofs.YthogkcgklakibaaGreatDoor

namespace Go.Proofs.YthogkcgklakibaaGreatDoor
open Go.RowKit Go.Maps

/-- Block M holds values by strings. -/
structure VMap (w : World) (M m : Nat) (z : Value) (g : ByteArray → Value) (d : ByteArray → Bool) : Prop where
  ex : ∃ D : DataW Value, w.ownsMap Tryz.prog 9 heldE M m D ∧ (∀ s : List UInt8, D.atKey (.string s) (.held z) = .held (g ⟨s.toArray⟩)) ∧ (∀ s : List UInt8, has D (.string s) = d ⟨s.toArray⟩)
theorem VMap.start (w : World) (z : Value) : VMap (w.alloc (.map #[] 0)) w.heap.size 0 z (fun _ => z) (fun _ => false) := ⟨⟨.map [], World.ownsMap_made w _ _ _, fun _ => rfl, fun _ => rfl⟩⟩
theorem VMap.kept {w w' : World} {M m : Nat} {z : Value} {g : ByteArray → Value} {d : ByteArray → Bool} {row : Option Nat} (h : VMap w M m z g d) (hg : w.grownBy w' row) (hr : row ≠ some M) : VMap w' M m z g d := by
  obtain ⟨D, h1, h2⟩ := h.ex
  exact ⟨⟨D, h1.kept hg hr.symm, h2⟩⟩
theorem VMap.below {w w' : World} {M m : Nat} {z : Value} {g : ByteArray → Value} {d : ByteArray → Bool} (h : VMap w M m z g d) (hb : Below w.heap.size w w') : VMap w' M m z g d := h.kept (below_grown hb none) (by simp)
theorem VMap.lt {w : World} {M m : Nat} {z : Value} {g : ByteArray → Value} {d : ByteArray → Bool} (h : VMap w M m z g d) : M < w.heap.size := by
  obtain ⟨D, h1, _⟩ := h.ex
  exact h1.lt
theorem VMap.isMap {w : World} {M m : Nat} {z : Value} {g : ByteArray → Value} {d : ByteArray → Bool} (h : VMap w M m z g d) : ∃ es cl, w.heap[M]? = some (.map es cl) := by
  obtain ⟨D, ⟨es, cl, hb, _⟩, _⟩ := h.ex
  exact ⟨es, cl, hb⟩
theorem VMap.look {w : World} {M m : Nat} {z : Value} {g : ByteArray → Value} {d : ByteArray → Bool} (h : VMap w M m z g d) (T V : TypeId) (ht : (Tryz.prog).underlying T = some (.map 9 V)) (hz : (zeroValue V).run Tryz.prog w = .ok z w) (s : ByteArray) (hs : s.size ≤ 1000000) :
    (Instr.lookup T (.map (some M)) (.string s) false).run Tryz.prog w = .ok (g s) w := by
  obtain ⟨D, h1, h2, _⟩ := h.ex
  obtain ⟨v, ps, hrun, hv⟩ := h1.lookup keyS ht (z := z) hz (zd := .held z) (zp := []) rfl (keyS_mk s hs)
  rw [h2, mk_data] at hv
  simp only [heldE, Option.some.injEq, Prod.mk.injEq, DataW.held.injEq] at hv
  rw [hv.1] at hrun
  exact hrun
theorem bytes_ne {s t : ByteArray} (h : s ≠ t) : s.data.toList ≠ t.data.toList := fun e => h (ByteArray.ext (Array.toList_inj.1 e))
def setV {β : Type} (f : ByteArray → β) (s : ByteArray) (v : β) : ByteArray → β := fun t => if t = s then v else f t
theorem VMap.put {w w' : World} {M m : Nat} {z : Value} {g : ByteArray → Value} {d : ByteArray → Bool} {D : DataW Value} (s : ByteArray) (v : Value) (h1 : w.ownsMap Tryz.prog 9 heldE M m D)
    (h2 : ∀ s : List UInt8, D.atKey (.string s) (.held z) = .held (g ⟨s.toArray⟩)) (h3 : ∀ s : List UInt8, has D (.string s) = d ⟨s.toArray⟩)
    (hm : w'.ownsMap Tryz.prog 9 heldE M (m + 1) (D.put (.string s.data.toList) (.held v))) : VMap w' M (m + 1) z (setV g s v) (setV d s true) := by
  refine ⟨⟨_, hm, fun t => ?_, fun t => ?_⟩⟩
  · by_cases e : t = s.data.toList
    · subst e
      rw [atKey_put_same h1.isMap (str_key _), mk_data]
      simp [setV]
    · have hne : ¬ (⟨t.toArray⟩ : ByteArray) = s := fun h => e (by rw [← h])
      have hk : (Lit.string t) ≠ .string s.data.toList := fun h => e (by simpa using h)
      rw [atKey_put_other hk, h2]
      simp [setV, hne]
  · by_cases e : t = s.data.toList
    · subst e
      rw [has_put_same h1.isMap (str_key _), mk_data]
      simp [setV]
    · have hne : ¬ (⟨t.toArray⟩ : ByteArray) = s := fun h => e (by rw [← h])
      have hk : (Lit.string t) ≠ .string s.data.toList := fun h => e (by simpa using h)
      rw [has_put_other hk, h3]
      simp [setV, hne]

/-! ### What is said of deeds -/
def isC (s t : ByteArray) (x : Deed) : Bool := decide (x.kind = 1 ∧ x.id = s ∧ x.fld = t)
def lastC (cs : List Deed) (s t : ByteArray) : Option Deed := cs.reverse.find? (isC s t)
def isL (s t : ByteArray) (x : Deed) : Bool := decide (x.kind = 2 ∧ x.id = s ∧ x.val = t)
def labC (cs : List Deed) (s t : ByteArray) : Bool := cs.any (isL s t)
def covC (cs : List Deed) (s : ByteArray) : List (Int × Int) := (cs.filter fun x => decide (x.kind = 4 ∧ x.id = s)).map fun x => (x.from_, x.to_)
def notC (cs : List Deed) (s : ByteArray) : List (List UInt8) := (cs.filter fun x => decide (x.kind = 5 ∧ x.id = s)).map fun x => x.val.data.toList
/-- Codes (false) and labels (true), as values and as keys. -/
def zB (b : Bool) : Value := if b then .bool false else zeroD.v
def fB (b : Bool) (cs : List Deed) (s t : ByteArray) : Value := if b then .bool (labC cs s t) else ((lastC cs s t).getD zeroD).v
def dB (b : Bool) (cs : List Deed) (s t : ByteArray) : Bool := if b then labC cs s t else (lastC cs s t).isSome
theorem lastC_snoc (cs : List Deed) (x : Deed) (s t : ByteArray) : lastC (cs ++ [x]) s t = if isC s t x then some x else lastC cs s t := by
  unfold lastC
  rw [List.reverse_append, List.reverse_singleton, List.singleton_append, List.find?_cons]
  cases isC s t x <;> rfl
theorem labC_snoc (cs : List Deed) (x : Deed) (s t : ByteArray) : labC (cs ++ [x]) s t = (labC cs s t || isL s t x) := by
  unfold labC
  rw [List.any_append]
  simp
def bK (b : Bool) : Int := if b then 2 else 1
def bV (b : Bool) (x : Deed) : Value := if b then .bool true else x.v
def bT (b : Bool) (x : Deed) : ByteArray := if b then x.val else x.fld
theorem fB_other {b : Bool} {cs : List Deed} {x : Deed} {s : ByteArray} (h : ¬ (x.kind = bK b ∧ x.id = s)) : fB b (cs ++ [x]) s = fB b cs s ∧ dB b (cs ++ [x]) s = dB b cs s := by
  constructor <;> funext t <;> cases b
  · have : isC s t x = false := decide_eq_false fun e => h ⟨e.1, e.2.1⟩
    simp [fB, lastC_snoc, this]
  · have : isL s t x = false := decide_eq_false fun e => h ⟨e.1, e.2.1⟩
    simp [fB, labC_snoc, this]
  · have : isC s t x = false := decide_eq_false fun e => h ⟨e.1, e.2.1⟩
    simp [dB, lastC_snoc, this]
  · have : isL s t x = false := decide_eq_false fun e => h ⟨e.1, e.2.1⟩
    simp [dB, labC_snoc, this]
theorem fB_same {b : Bool} {cs : List Deed} {x : Deed} (h : x.kind = bK b) : fB b (cs ++ [x]) x.id = setV (fB b cs x.id) (bT b x) (bV b x) ∧ dB b (cs ++ [x]) x.id = setV (dB b cs x.id) (bT b x) true := by
  constructor <;> funext t <;> cases b
  · have : isC x.id t x = decide (x.fld = t) := by simp [isC, h, bK]
    unfold setV
    by_cases e : t = x.fld
    · subst e; simp [fB, lastC_snoc, this, bT, bV]
    · have e' : ¬ x.fld = t := fun h => e h.symm
      simp [fB, lastC_snoc, this, bT, e, e']
  · have : isL x.id t x = decide (x.val = t) := by simp [isL, h, bK]
    unfold setV
    by_cases e : t = x.val
    · subst e; simp [fB, labC_snoc, this, bT, bV]
    · have e' : ¬ x.val = t := fun h => e h.symm
      simp [fB, labC_snoc, this, bT, e, e']
  · have : isC x.id t x = decide (x.fld = t) := by simp [isC, h, bK]
    unfold setV
    by_cases e : t = x.fld
    · subst e; simp [dB, lastC_snoc, this, bT]
    · have e' : ¬ x.fld = t := fun h => e h.symm
      simp [dB, lastC_snoc, this, bT, e, e']
  · have : isL x.id t x = decide (x.val = t) := by simp [isL, h, bK]
    unfold setV
    by_cases e : t = x.val
    · subst e; simp [dB, labC_snoc, this, bT]
    · have e' : ¬ x.val = t := fun h => e h.symm
      simp [dB, labC_snoc, this, bT, e, e']
theorem covC_snoc (cs : List Deed) (x : Deed) (s : ByteArray) : covC (cs ++ [x]) s = if x.kind = 4 ∧ x.id = s then covC cs s ++ [(x.from_, x.to_)] else covC cs s := by
  unfold covC
  rw [List.filter_append, List.map_append]
  by_cases e : x.kind = 4 ∧ x.id = s
  · simp [e.1, e.2]
  · rw [if_neg e, List.filter_cons_of_neg (by simpa using e)]; simp
theorem notC_snoc (cs : List Deed) (x : Deed) (s : ByteArray) : notC (cs ++ [x]) s = if x.kind = 5 ∧ x.id = s then notC cs s ++ [x.val.data.toList] else notC cs s := by
  unfold notC
  rw [List.filter_append, List.map_append]
  by_cases e : x.kind = 5 ∧ x.id = s
  · simp [e.1, e.2]
  · rw [if_neg e, List.filter_cons_of_neg (by simpa using e)]; simp
theorem covC_len (cs : List Deed) (s : ByteArray) : (covC cs s).length ≤ cs.length := by
  unfold covC; rw [List.length_map]; exact List.length_filter_le _ _
theorem notC_len (cs : List Deed) (s : ByteArray) : (notC cs s).length ≤ cs.length := by
  unfold notC; rw [List.length_map]; exact List.length_filter_le _ _

/-! ### Maps of maps -/
abbrev InF : Type := Bool → ByteArray → Option Nat
def mB (M : Nat) (b : Bool) : Nat := if b then M + 1 else M
def setIn (g : InF) (b : Bool) (s : ByteArray) (N : Nat) : InF := fun b' s' => if b' = b ∧ s' = s then some N else g b' s'
structure Nest (w : World) (base M k : Nat) (g : InF) (cs : List Deed) : Prop where
  out : ∀ b, ∃ m, m ≤ k ∧ VMap w (mB M b) m (.map none) (fun s => .map (g b s)) (fun s => (g b s).isSome)
  inn : ∀ b s N, g b s = some N → base ≤ N ∧ ∃ m, m ≤ k ∧ VMap w N m (zB b) (fB b cs s) (dB b cs s)
  inj : ∀ b s b' s' N, g b s = some N → g b' s' = some N → b = b' ∧ s = s'
  non : ∀ b s, g b s = none → fB b cs s = (fun _ => zB b) ∧ dB b cs s = fun _ => false
theorem Nest.kept {w w' : World} {base M k : Nat} {g : InF} {cs : List Deed} {row : Option Nat} (h : Nest w base M k g cs) (hg : w.grownBy w' row) (h1 : ∀ b, row ≠ some (mB M b)) (h2 : ∀ b s N, g b s = some N → row ≠ some N) : Nest w' base M k g cs :=
  ⟨fun b => by obtain ⟨m, hm, h3⟩ := h.out b; exact ⟨m, hm, h3.kept hg (h1 b)⟩, fun b s N e => by obtain ⟨h4, m, hm, h3⟩ := h.inn b s N e; exact ⟨h4, m, hm, h3.kept hg (h2 b s N e)⟩, h.inj, h.non⟩
theorem Nest.below {w w' : World} {base M k : Nat} {g : InF} {cs : List Deed} (h : Nest w base M k g cs) (hb : Below w.heap.size w w') : Nest w' base M k g cs := h.kept (below_grown hb none) (fun _ => by simp) (fun _ _ _ _ => by simp)
/-- What is no map of these turns: a block of cells, another map below. -/
theorem Nest.cells {w w' : World} {base M k : Nat} {g : InF} {cs : List Deed} {row : Option Nat} (h : Nest w base M k g cs) (hg : w.grownBy w' row) (hr : ∀ i, row = some i → ∃ c t f, w.heap[i]? = some (.cells c t f)) : Nest w' base M k g cs := by
  refine h.kept hg (fun b e => ?_) (fun b s N hN e => ?_)
  · obtain ⟨m, _, hv⟩ := h.out b
    obtain ⟨es, cl, hm⟩ := hv.isMap
    obtain ⟨c, t, f, hc⟩ := hr _ e
    rw [hm] at hc; cases hc
  · obtain ⟨_, m, _, hv⟩ := h.inn b s N hN
    obtain ⟨es, cl, hm⟩ := hv.isMap
    obtain ⟨c, t, f, hc⟩ := hr _ e
    rw [hm] at hc; cases hc
theorem Nest.more {w : World} {base M k k' : Nat} {g : InF} {cs : List Deed} (h : Nest w base M k g cs) (hk : k ≤ k') : Nest w base M k' g cs :=
  ⟨fun b => by obtain ⟨m, hm, h3⟩ := h.out b; exact ⟨m, Nat.le_trans hm hk, h3⟩, fun b s N e => by obtain ⟨h4, m, hm, h3⟩ := h.inn b s N e; exact ⟨h4, m, Nat.le_trans hm hk, h3⟩, h.inj, h.non⟩
theorem Nest.skip {w : World} {base M k : Nat} {g : InF} {cs : List Deed} {x : Deed} (h : Nest w base M k g cs) (h1 : x.kind ≠ 1) (h2 : x.kind ≠ 2) : Nest w base M k g (cs ++ [x]) := by
  have hf : ∀ b s, fB b (cs ++ [x]) s = fB b cs s ∧ dB b (cs ++ [x]) s = dB b cs s := fun b s => fB_other (fun e => by cases b; exact h1 e.1; exact h2 e.1)
  exact ⟨h.out, fun b s N e => by rw [(hf b s).1, (hf b s).2]; exact h.inn b s N e, h.inj, fun b s e => by rw [(hf b s).1, (hf b s).2]; exact h.non b s e⟩
/-- A new map within. -/
theorem Nest.grow {w w' : World} {base M k : Nat} {g : InF} {cs : List Deed} (b : Bool) (s : ByteArray) (h : Nest w base M k g cs) (hbs : base ≤ w.heap.size) (hMb : M + 1 < base) (hn : g b s = none) (hg : (w.alloc (.map #[] 0)).grownBy w' (some (mB M b)))
    (hv : ∃ m, m ≤ k ∧ VMap w' (mB M b) (m + 1) (.map none) (setV (fun s => .map (g b s)) s (.map (some w.heap.size))) (setV (fun s => (g b s).isSome) s true)) : Nest w' base M (k + 1) (setIn g b s w.heap.size) cs := by
  have h1 : Nest (w.alloc (.map #[] 0)) base M k g cs := h.below ((Below.refl _ _).alloc (Nat.le_refl _) _)
  have hlt : ∀ b' s' N, g b' s' = some N → N < w.heap.size := fun b' s' N e => by obtain ⟨_, m, _, hv⟩ := h.inn b' s' N e; exact hv.lt
  have hmb : ∀ b', mB M b' < base := fun b' => by cases b' <;> simp [mB] <;> omega
  refine ⟨fun b' => ?_, fun b' s' N e => ?_, fun b1 s1 b2 s2 N e1 e2 => ?_, fun b' s' e => ?_⟩
  · by_cases hb : b' = b
    · subst hb
      obtain ⟨m, hm, h2⟩ := hv
      refine ⟨m + 1, by omega, ?_⟩
      have e1 : (fun s' => Value.map (setIn g b' s w.heap.size b' s')) = setV (fun s => .map (g b' s)) s (.map (some w.heap.size)) := by
        funext t
        by_cases e : t = s <;> simp [setIn, setV, e]
      have e2 : (fun s' => (setIn g b' s w.heap.size b' s').isSome) = setV (fun s => (g b' s).isSome) s true := by
        funext t
        by_cases e : t = s <;> simp [setIn, setV, e]
      rw [e1, e2]; exact h2
    · obtain ⟨m, hm, h2⟩ := h1.out b'
      refine ⟨m, by omega, ?_⟩
      have e1 : ∀ t, setIn g b s w.heap.size b' t = g b' t := fun t => if_neg fun e => hb e.1
      simp only [e1]
      refine h2.kept hg (fun e => ?_)
      have e3 := Option.some.inj e
      cases b <;> cases b' <;> simp [mB] at e3 hb
  · unfold setIn at e
    split at e
    · rename_i hh
      obtain ⟨rfl, rfl⟩ := hh
      cases e
      refine ⟨hbs, 0, by omega, ?_⟩
      rw [(h.non b' s' hn).1, (h.non b' s' hn).2]
      exact (VMap.start w (zB b')).kept hg (fun e => by have := Option.some.inj e; have := hmb b'; omega)
    · obtain ⟨h3, m, hm, h4⟩ := h1.inn b' s' N e
      exact ⟨h3, m, by omega, h4.kept hg (fun e => by have := Option.some.inj e; have := hmb b; omega)⟩
  · unfold setIn at e1 e2
    split at e1
    · rename_i hh
      split at e2
      · rename_i hh2
        exact ⟨hh.1.trans hh2.1.symm, hh.2.trans hh2.2.symm⟩
      · cases e1
        exact absurd (hlt _ _ _ e2) (Nat.lt_irrefl _)
    · split at e2
      · cases e2
        exact absurd (hlt _ _ _ e1) (Nat.lt_irrefl _)
      · exact h.inj _ _ _ _ _ e1 e2
  · unfold setIn at e
    split at e
    · cases e
    · exact h.non b' s' e
/-- A store into a map within. -/
theorem Nest.put {w w' : World} {base M k N : Nat} {g : InF} {cs : List Deed} (b : Bool) (x : Deed) (h : Nest w base M k g cs) (hMb : M + 1 < base) (hN : g b x.id = some N) (hk : x.kind = bK b) (hg : w.grownBy w' (some N))
    (hv : ∃ m, m ≤ k ∧ VMap w' N (m + 1) (zB b) (setV (fB b cs x.id) (bT b x) (bV b x)) (setV (dB b cs x.id) (bT b x) true)) : Nest w' base M (k + 1) g (cs ++ [x]) := by
  have hmb : ∀ b', mB M b' < base := fun b' => by cases b' <;> simp [mB] <;> omega
  have hNb := (h.inn b x.id N hN).1
  have hoth : ∀ b' s', ¬ (b' = b ∧ s' = x.id) → ¬ (x.kind = bK b' ∧ x.id = s') := fun b' s' hne e => hne ⟨by have := hk.symm.trans e.1; cases b <;> cases b' <;> simp [bK] at this ⊢, e.2.symm⟩
  refine ⟨fun b' => ?_, fun b' s' N' e => ?_, h.inj, fun b' s' e => ?_⟩
  · obtain ⟨m, hm, h2⟩ := h.out b'
    exact ⟨m, by omega, h2.kept hg (fun e => by have := Option.some.inj e; have := hmb b'; omega)⟩
  · by_cases hh : b' = b ∧ s' = x.id
    · obtain ⟨rfl, rfl⟩ := hh
      obtain rfl : N = N' := Option.some.inj (hN.symm.trans e)
      obtain ⟨m, hm, h2⟩ := hv
      rw [(fB_same hk).1, (fB_same hk).2]
      exact ⟨hNb, m + 1, by omega, h2⟩
    · obtain ⟨h3, m, hm, h4⟩ := h.inn b' s' N' e
      rw [(fB_other (hoth b' s' hh)).1, (fB_other (hoth b' s' hh)).2]
      refine ⟨h3, m, by omega, h4.kept hg (fun e2 => hh ?_)⟩
      obtain rfl := Option.some.inj e2
      exact h.inj _ _ _ _ _ e hN
  · by_cases hh : b' = b ∧ s' = x.id
    · obtain ⟨rfl, rfl⟩ := hh
      rw [hN] at e; cases e
    · rw [(fB_other (hoth b' s' hh)).1, (fB_other (hoth b' s' hh)).2]
      exact h.non b' s' e

/-! ### Maps of rows -/
structure RowsAt {α : Type} (E : Elem α) (w : World) (base M m : Nat) (hd : ByteArray → Value) (f : ByteArray → List α) : Prop where
  map : ∃ d, VMap w M m (.slice none 0 0) hd d
  row : ∀ s, Owns E w base (hd s) (f s)
  apart : ∀ s t, s ≠ t → ApartV (hd s) (hd t)
section
variable {α : Type} {E : Elem α}
theorem owns_cells {w : World} {base : Nat} {v : Value} {l : List α} (h : Owns E w base v l) {i : Nat} (e : v.ownBlock = some i) : ∃ c f, w.heap[i]? = some (.cells c E.t f) := by
  rcases h.2 with ⟨rfl, _⟩ | ⟨g, cap, cur, rfl, _, hh, _⟩
  · cases e
  · have e2 : g = i := Option.some.inj e
    subst e2
    exact ⟨_, _, hh⟩
theorem RowsAt.kept {w w' : World} {base M m : Nat} {hd : ByteArray → Value} {f : ByteArray → List α} {row : Option Nat} (h : RowsAt E w base M m hd f) (hg : w.grownBy w' row) (h1 : row ≠ some M) (h2 : ∀ s i, (hd s).ownBlock = some i → row ≠ some i) : RowsAt E w' base M m hd f := by
  obtain ⟨d, hv⟩ := h.map
  refine ⟨⟨d, hv.kept hg h1⟩, fun s => World.ownsRow.kept (h.row s) hg ?_, h.apart⟩
  cases e : (hd s).ownBlock with
  | none => exact .inl rfl
  | some i => exact .inr (fun e2 => h2 s i e e2.symm)
theorem RowsAt.below {w w' : World} {base M m : Nat} {hd : ByteArray → Value} {f : ByteArray → List α} (h : RowsAt E w base M m hd f) (hb : Below w.heap.size w w') : RowsAt E w' base M m hd f := h.kept (below_grown hb none) (by simp) (fun _ _ _ => by simp)
/-- Another map turns. -/
theorem RowsAt.maps {w w' : World} {base M m N : Nat} {hd : ByteArray → Value} {f : ByteArray → List α} (h : RowsAt E w base M m hd f) (hg : w.grownBy w' (some N)) (hne : N ≠ M) (hN : ∃ es cl, w.heap[N]? = some (.map es cl)) : RowsAt E w' base M m hd f := by
  refine h.kept hg (fun e => hne (Option.some.inj e)) (fun s i e e2 => ?_)
  obtain ⟨c, fr, hc⟩ := owns_cells (h.row s) e
  obtain ⟨es, cl, hm⟩ := hN
  obtain rfl := Option.some.inj e2
  rw [hm] at hc; cases hc
/-- A row of another type turns. -/
theorem RowsAt.other {β : Type} {F : Elem β} {w w' : World} {base base' M m : Nat} {hd : ByteArray → Value} {f : ByteArray → List α} {v : Value} {l : List β} (h : RowsAt E w base M m hd f) (k : Owns F w base' v l) (ht : F.t ≠ E.t) (hg : w.grownBy w' v.ownBlock) : RowsAt E w' base M m hd f := by
  refine h.kept hg (fun e => ?_) (fun s i e e2 => ?_)
  · obtain ⟨c, fr, hc⟩ := owns_cells k e
    obtain ⟨d, hv⟩ := h.map
    obtain ⟨es, cl, hm⟩ := hv.isMap
    rw [hm] at hc; cases hc
  · obtain ⟨c, fr, hc⟩ := owns_cells (h.row s) e
    obtain ⟨c', fr', hc'⟩ := owns_cells k e2
    rw [hc] at hc'
    simp only [Option.some.injEq, Obj.cells.injEq] at hc'
    exact ht hc'.2.1.symm
theorem RowsAt.put {w w5 w6 : World} {base M m : Nat} {hd : ByteArray → Value} {f : ByteArray → List α} {o : Obj} (h : RowsAt E w base M m hd f) (s : ByteArray) (l : List α) (v5 : Value)
    (hown5 : Owns E w5 base v5 l) (hg : (w.alloc o).grownBy w5 (hd s).ownBlock) (hv : v5.ownBlock = (hd s).ownBlock ∨ v5.ownBlock = some (w.alloc o).heap.size)
    (hm : ∃ d, VMap w6 M (m + 1) (.slice none 0 0) (setV hd s v5) d) (hM : ∃ es cl, w5.heap[M]? = some (.map es cl)) (hg6 : w5.grownBy w6 (some M)) : RowsAt E w6 base M (m + 1) (setV hd s v5) (setV f s l) := by
  have hno : ∀ {v : Value} {y : List α}, Owns E w5 base v y → Owns E w6 base v y := fun {v y} ho => by
    refine World.ownsRow.kept ho hg6 ?_
    cases e : v.ownBlock with
    | none => exact .inl rfl
    | some i =>
      refine .inr fun e2 => ?_
      obtain ⟨c, fr, hc⟩ := owns_cells ho e
      obtain ⟨es, cl, hm⟩ := hM
      obtain rfl := Option.some.inj e2
      rw [hm] at hc; cases hc
  refine ⟨hm, fun t => ?_, fun t u hne => ?_⟩
  · unfold setV
    by_cases e : t = s
    · rw [if_pos e, if_pos e]; exact hno hown5
    · rw [if_neg e, if_neg e]; exact hno (Owns.apart (h.apart s t (Ne.symm e)) (h.row t) hg)
  · unfold setV
    by_cases e : t = s
    · by_cases e' : u = s
      · exact absurd (e.trans e'.symm) hne
      · rw [if_pos e, if_neg e']; exact ApartV.grow (h.apart s u (Ne.symm e')) (h.row u) hv
    · by_cases e' : u = s
      · rw [if_neg e, if_pos e']; exact (ApartV.grow (h.apart s t (Ne.symm e)) (h.row t) hv).symm
      · rw [if_neg e, if_neg e']; exact h.apart t u hne
theorem RowsAt.congr {w : World} {base M m : Nat} {hd : ByteArray → Value} {f f' : ByteArray → List α} (h : RowsAt E w base M m hd f) (e : ∀ s, f' s = f s) : RowsAt E w base M m hd f' := by
  obtain rfl : f' = f := funext e
  exact h
end
end Go.Proofs.YthogkcgklakibaaGreatDoor

namespace Go.Proofs.YthogkcgklakibaaGreatDoor
open Go.RowKit Go.Maps
attribute [local go_sem ↓] Go.wp_at_zero Go.wp_at_succ

abbrev CtF : Type := ByteArray → Int → Bool
def ctS (g : CtF) (s : ByteArray) (z : Int) (b : Bool) : CtF := fun t y => if t = s ∧ y = z then b else g t y
/-- Block M holds yes and no by stamps. -/
structure BMapAt (w : World) (M m : Nat) (g : CtF) : Prop where
  ex : ∃ D : DataW Value, w.ownsMap Tryz.prog 36 heldE M m D ∧ (∀ (s : List UInt8) (z : Int), s.length ≤ 1000000 → In64 z → D.atKey (keyT s z) (.held (.bool false)) = .held (.bool (g ⟨s.toArray⟩ z)))
theorem BMapAt.start (w : World) : BMapAt (w.alloc (.map #[] 0)) w.heap.size 0 (fun _ _ => false) := ⟨⟨.map [], World.ownsMap_made w _ _ _, fun _ _ _ _ => rfl⟩⟩
theorem BMapAt.below {w w' : World} {M m : Nat} {g : CtF} (h : BMapAt w M m g) (hb : Below w.heap.size w w') : BMapAt w' M m g := by
  obtain ⟨D, h1, h2⟩ := h.ex
  exact ⟨⟨D, h1.kept (below_grown hb none) (by simp), h2⟩⟩
theorem BMapAt.lt {w : World} {M m : Nat} {g : CtF} (h : BMapAt w M m g) : M < w.heap.size := by
  obtain ⟨D, h1, _⟩ := h.ex
  exact h1.lt
theorem BMapAt.look {w : World} {M m : Nat} {g : CtF} (h : BMapAt w M m g) (s : ByteArray) (z : Int) (hs : s.size ≤ 1000000) (hz : In64 z) :
    (Instr.lookup 121 (.map (some M)) (.agg #[.string s, .int .i64 z]) false).run Tryz.prog w = .ok (.bool (g s z)) w := by
  obtain ⟨D, h1, h2⟩ := h.ex
  obtain ⟨v, ps, hrun, hv⟩ := h1.lookup keyK Tryz.underlying121 (z := .bool false) (by kernel_rfl) (zd := .held (.bool false)) (zp := []) rfl (keyK_mk s z hs hz)
  rw [h2 _ _ (by rw [size_data]; exact hs) hz, mk_data] at hv
  simp only [heldE, Option.some.injEq, Prod.mk.injEq, DataW.held.injEq] at hv
  rw [hv.1] at hrun
  exact hrun
theorem BMapAt.put {w w' : World} {M m : Nat} {g : CtF} {D : DataW Value} {s : ByteArray} {z : Int} {b : Bool} (hs : s.size ≤ 1000000) (hz : In64 z) (h1 : w.ownsMap Tryz.prog 36 heldE M m D)
    (h2 : ∀ (s : List UInt8) (z : Int), s.length ≤ 1000000 → In64 z → D.atKey (keyT s z) (.held (.bool false)) = .held (.bool (g ⟨s.toArray⟩ z)))
    (hm : w'.ownsMap Tryz.prog 36 heldE M (m + 1) (D.put (keyT s.data.toList z) (.held (.bool b)))) : BMapAt w' M (m + 1) (ctS g s z b) := by
  have hl : s.data.toList.length ≤ 1000000 := by rw [size_data]; exact hs
  refine ⟨⟨_, hm, fun t y ht hy => ?_⟩⟩
  by_cases e : t = s.data.toList ∧ y = z
  · obtain ⟨rfl, rfl⟩ := e
    rw [atKey_put_same h1.isMap (keyT_key _ _), mk_data]
    simp [ctS]
  · have hne : keyT t y ≠ keyT s.data.toList z := fun h => e (keyT_inj ht hy hl hz h)
    have hne2 : ¬ ((⟨t.toArray⟩ : ByteArray) = s ∧ y = z) := fun ⟨h1, h2⟩ => e ⟨by rw [← h1], h2⟩
    rw [atKey_put_other hne, h2 t y ht hy]
    simp [ctS, hne2]
def AbtS (x : Deed) (s : ByteArray) (z : Int) : Prop := x.osite = s ∧ x.ono = z
def InS (l : List Deed) (s : ByteArray) (z : Int) : Prop := ∃ d ∈ l, d.site = s ∧ d.no = z
def C1 (l : List Deed) (k : Nat) (g : CtF) : Prop := ∀ s z, g s z = true ↔ InS (l.take k) s z
def C2 (l : List Deed) (k : Nat) (g : CtF) : Prop := ∀ s z, g s z = true ↔ InS l s z ∧ ¬ ∃ x ∈ l.take k, x.kind = 6 ∧ AbtS x s z
def C3 (l : List Deed) (k : Nat) (g : CtF) : Prop := ∀ s z, g s z = true ↔ InS l s z ∧ (¬ ∃ x ∈ l, x.kind = 6 ∧ AbtS x s z) ∧ ¬ ∃ x ∈ l.take k, x.kind = 3 ∧ AbtS x s z ∧ cnt1 l x = true
theorem ctS_iff (g : CtF) (s : ByteArray) (z : Int) (b : Bool) (t : ByteArray) (y : Int) : ctS g s z b t y = true ↔ (t = s ∧ y = z ∧ b = true) ∨ (¬ (t = s ∧ y = z) ∧ g t y = true) := by
  unfold ctS
  by_cases h : t = s ∧ y = z
  · rw [if_pos h]; simp [h.1, h.2]
  · rw [if_neg h]; simp [h]; intro h1 h2; exact absurd ⟨h1, h2⟩ h
theorem C1.start (l : List Deed) : C1 l 0 (fun _ _ => false) := fun s z => by simp [InS]
theorem C1.step {l : List Deed} {k : Nat} {g : CtF} (h : C1 l k g) {x : Deed} (hx : l[k]? = some x) : C1 l (k + 1) (ctS g x.site x.no true) := fun s z => by
  rw [ctS_iff, h s z, take_snocD hx]
  unfold InS
  constructor
  · rintro (⟨rfl, rfl, -⟩ | ⟨-, d, hd, h2⟩)
    · exact ⟨x, by simp, rfl, rfl⟩
    · exact ⟨d, List.mem_append_left _ hd, h2⟩
  · rintro ⟨d, hd, rfl, rfl⟩
    by_cases e : d.site = x.site ∧ d.no = x.no
    · exact .inl ⟨e.1, e.2, rfl⟩
    · rcases List.mem_append.1 hd with hd | hd
      · exact .inr ⟨e, d, hd, rfl, rfl⟩
      · rw [List.mem_singleton.1 hd] at e; exact absurd ⟨rfl, rfl⟩ e
theorem C1.done {l : List Deed} {k : Nat} {g : CtF} (h : C1 l k g) (hk : l.length ≤ k) : C2 l 0 g := fun s z => by
  rw [h s z, List.take_of_length_le hk]
  simp
theorem C2.step {l : List Deed} {k : Nat} {g : CtF} (h : C2 l k g) {x : Deed} (hx : l[k]? = some x) (hk : x.kind = 6) : C2 l (k + 1) (ctS g x.osite x.ono false) := fun s z => by
  rw [ctS_iff, h s z, take_snocD hx]
  constructor
  · rintro (⟨-, -, h⟩ | ⟨hne, h1, h2⟩)
    · cases h
    · refine ⟨h1, ?_⟩
      rintro ⟨y, hy, h3, h4⟩
      rcases List.mem_append.1 hy with hy | hy
      · exact h2 ⟨y, hy, h3, h4⟩
      · rw [List.mem_singleton.1 hy] at h4; exact hne ⟨h4.1.symm, h4.2.symm⟩
  · rintro ⟨h1, h2⟩
    refine .inr ⟨?_, h1, fun ⟨y, hy, h3⟩ => h2 ⟨y, List.mem_append_left _ hy, h3⟩⟩
    rintro ⟨rfl, rfl⟩
    exact h2 ⟨x, by simp, hk, rfl, rfl⟩
theorem C2.pass {l : List Deed} {k : Nat} {g : CtF} (h : C2 l k g) {x : Deed} (hx : l[k]? = some x) (hk : ¬ x.kind = 6) : C2 l (k + 1) g := fun s z => by
  rw [h s z, take_snocD hx]
  refine and_congr Iff.rfl (not_congr ⟨fun ⟨y, hy, h3⟩ => ⟨y, List.mem_append_left _ hy, h3⟩, fun ⟨y, hy, h3, h4⟩ => ?_⟩)
  rcases List.mem_append.1 hy with hy | hy
  · exact ⟨y, hy, h3, h4⟩
  · rw [List.mem_singleton.1 hy] at h3; exact absurd h3 hk
theorem C2.done {l : List Deed} {k : Nat} {g : CtF} (h : C2 l k g) (hk : l.length ≤ k) : C3 l 0 g := fun s z => by
  rw [h s z, List.take_of_length_le hk]
  simp
theorem C3.step {l : List Deed} {k : Nat} {g : CtF} (h : C3 l k g) {x : Deed} (hx : l[k]? = some x) (hk : x.kind = 3) (hc : cnt1 l x = true) : C3 l (k + 1) (ctS g x.osite x.ono false) := fun s z => by
  rw [ctS_iff, h s z, take_snocD hx]
  constructor
  · rintro (⟨-, -, h⟩ | ⟨hne, h1, h2, h3⟩)
    · cases h
    · refine ⟨h1, h2, ?_⟩
      rintro ⟨y, hy, h4, h5, h6⟩
      rcases List.mem_append.1 hy with hy | hy
      · exact h3 ⟨y, hy, h4, h5, h6⟩
      · rw [List.mem_singleton.1 hy] at h5; exact hne ⟨h5.1.symm, h5.2.symm⟩
  · rintro ⟨h1, h2, h3⟩
    refine .inr ⟨?_, h1, h2, fun ⟨y, hy, h4⟩ => h3 ⟨y, List.mem_append_left _ hy, h4⟩⟩
    rintro ⟨rfl, rfl⟩
    exact h3 ⟨x, by simp, hk, ⟨rfl, rfl⟩, hc⟩
theorem C3.pass {l : List Deed} {k : Nat} {g : CtF} (h : C3 l k g) {x : Deed} (hx : l[k]? = some x) (hn : ¬ (x.kind = 3 ∧ cnt1 l x = true)) : C3 l (k + 1) g := fun s z => by
  rw [h s z, take_snocD hx]
  refine and_congr Iff.rfl (and_congr Iff.rfl (not_congr ⟨fun ⟨y, hy, h3⟩ => ⟨y, List.mem_append_left _ hy, h3⟩, fun ⟨y, hy, h3, h4, h5⟩ => ?_⟩))
  rcases List.mem_append.1 hy with hy | hy
  · exact ⟨y, hy, h3, h4, h5⟩
  · rw [List.mem_singleton.1 hy] at h3 h5; exact absurd ⟨h3, h5⟩ hn
theorem cnt1_iff (l : List Deed) (d : Deed) : cnt1 l d = true ↔ ¬ ∃ x ∈ l, x.kind = 6 ∧ AbtS x d.site d.no := by
  unfold cnt1 AbtS abtD
  simp only [Bool.not_eq_true', List.any_eq_false, Bool.and_eq_true, decide_eq_true_eq, not_and, not_exists]
  exact ⟨fun h x hx h6 h1 h2 => h x hx ⟨h1, h2⟩ h6, fun h x hx h1 h6 => h x hx h6 h1.1 h1.2⟩
theorem C3.drop {l : List Deed} {k : Nat} {g : CtF} (hl : RightD l) (h : C3 l k g) {x : Deed} (hx : x ∈ l) (hk : x.kind = 3) : g x.site x.no = cnt1 l x := by
  rw [Bool.eq_iff_iff, h, cnt1_iff]
  refine ⟨fun h => h.2.1, fun h2 => ⟨⟨x, hx, rfl, rfl⟩, h2, ?_⟩⟩
  rintro ⟨y, hy, h3, h4, -⟩
  refine (cnt_drop hl hx hk).1 y (List.mem_of_mem_take hy) ⟨h3, ?_⟩
  unfold abtD
  rw [h4.1, h4.2]
  simp
theorem C3.done {l : List Deed} {k : Nat} {g : CtF} (h : C3 l k g) (hk : l.length ≤ k) {d : Deed} (hd : d ∈ l) : g d.site d.no = cntD l d := by
  rw [Bool.eq_iff_iff, h, List.take_of_length_le hk]
  unfold cntD
  rw [Bool.not_eq_true', List.any_eq_false]
  unfold hitC abtD AbtS
  constructor
  · rintro ⟨-, h1, h2⟩ x hx hh
    simp only [Bool.and_eq_true, Bool.or_eq_true, decide_eq_true_eq] at hh
    obtain ⟨h3, h4 | ⟨h4, h5⟩⟩ := hh
    · exact h1 ⟨x, hx, h4, h3⟩
    · exact h2 ⟨x, hx, h4, h3, h5⟩
  · intro hh
    refine ⟨⟨d, hd, rfl, rfl⟩, ?_, ?_⟩
    · rintro ⟨x, hx, h4, h3⟩
      exact hh x hx (by simp [h3.1, h3.2, h4])
    · rintro ⟨x, hx, h4, h3, h5⟩
      exact hh x hx (by simp [h3.1, h3.2, h4, h5])
theorem of_bound {l : List Deed} (hl : RightD l) {x : Deed} (hx : x ∈ l) (hb : backB x.kind = true) : x.osite.size ≤ 1000000 ∧ In64 x.ono := by
  obtain ⟨y, hy, h1, h2, -⟩ := hl.ofs x hx hb
  rw [← h1, ← h2]
  exact ⟨site_bound hl hy, in64_no hl hy⟩
def CountPost (w : World) (l : List Deed) (e : Ending) (w' : World) : Prop := ∃ M m g, e = .returned (.map (some M)) ∧ w.heap.size ≤ M ∧ BMapAt w' M m g ∧ (∀ d ∈ l, g d.site d.no = cntD l d) ∧ Below w.heap.size w w'
set_option maxHeartbeats 6400000 in
set_option maxRecDepth 100000 in
theorem counting_any (A : Option Addr) (n c : Nat) (l : List Deed) (w : World) (h : DeedsAt w A n c l) (hl : RightD l) :
    Calls Tryz.prog 72 #[.slice A n c] w (CountPost w l) := by
  have HN : Hid (n = l.length) := h.1
  have HAT := Lib.hid h
  have HL := Lib.hid hl
  have hn : n ≤ 2000 := by have := hl.few; have := h.1; omega
  have hmm := @run_makeMap Tryz.prog
  have h00 : Below w.heap.size w (w.alloc (.map #[] 0)) := (Below.refl _ _).alloc (Nat.le_refl _) _
  have HC0 := Lib.hid (BMapAt.start w)
  clear h hl
  go_enter Tryz.func72, Tryz.ntmps72
  go_wp2_with fail
  obtain ⟨M, hM⟩ : ∃ M, M = w.heap.size := ⟨_, rfl⟩
  have HMW : Hid (w.heap.size ≤ M) := by show _ ≤ _; omega
  rw [← hM] at HC0 ⊢
  clear hM
  go_loopg [13] n (fun gk v wr => ∃ (k m : Nat) (g : CtF), Hid (k + gk = n) ∧ v = .int .i64 (k : Int) ∧ Hid (BMapAt wr M m g) ∧ Hid (m ≤ k) ∧ Hid (C1 l k g) ∧ Hid (Below w.heap.size w wr))
  case atStart => exact ⟨0, 0, _, show 0 + n = n by omega, rfl, HC0.out, Nat.le_refl 0, C1.start l, h00⟩
  case round =>
    obtain ⟨k, m, g, HK, rfl, HC, HMK, HI, HB⟩ := hrel
    clear h00 HC0
    have hkn : k ≤ n := by have := HK.out; omega
    by_cases hlt : k < n
    · have HGK := Lib.hid (show k + 1 + (gk - 1) = n ∧ 0 < gk by have := HK.out; omega)
      obtain ⟨gA, off, rfl, hg, hc⟩ := (ElemsAt.keep HAT.out HB.out).deed (by omega)
      have hkl : k < l.length := by have := HN.out; omega
      obtain ⟨x, hx⟩ : ∃ x, l[k]? = some x := ⟨_, List.getElem?_eq_getElem hkl⟩
      obtain ⟨c0, c1, c2, c3, c4, c5, c6, c7, c8, c9, c10, c11⟩ := hc k x hx
      have HX := Lib.hid hx
      have HXM := Lib.hid (List.mem_of_getElem? hx)
      have hxs := site_bound HL.out HXM.out
      have HXN := Lib.hid (in64_no HL.out HXM.out)
      have hal : Below wr.heap.size wr (wr.alloc (.cells #[.string x.site, .int .i64 x.no, .int .i64 x.at_, .int .i64 x.kind, .string x.id, .string x.fld, .string x.val, .int .i64 x.from_, .int .i64 x.to_, .string x.osite, .int .i64 x.ono, .string x.sum] 40)) := (Below.refl _ _).alloc (Nat.le_refl _) _
      have HX1 : Hid (DeedAt (wr.alloc (.cells #[.string x.site, .int .i64 x.no, .int .i64 x.at_, .int .i64 x.kind, .string x.id, .string x.fld, .string x.val, .int .i64 x.from_, .int .i64 x.to_, .string x.osite, .int .i64 x.ono, .string x.sum] 40)) wr.heap.size x) := deed_new wr x
      have HC1 := Lib.hid (HC.out.below hal)
      have HB1 := Lib.hid (HB.out.trans (hal.mono HB.out.size))
      clear hc hkl hx hg HK hal HC HB
      go_upto_region 5 with (fail)
      obtain ⟨P, hP⟩ : ∃ P, P = wr.heap.size := ⟨_, rfl⟩
      rw [← hP] at HX1 ⊢
      generalize wr.alloc (.cells #[.string x.site, .int .i64 x.no, .int .i64 x.at_, .int .i64 x.kind, .string x.id, .string x.fld, .string x.val, .int .i64 x.from_, .int .i64 x.to_, .string x.osite, .int .i64 x.ono, .string x.sum] 40) = w2 at *
      clear hP c0 c1 c2 c3 c4 c5 c6 c7 c8 c9 c10 c11
      obtain ⟨a0, a1, a2, a3, a4, a5, a6, a7, a8, a9, a10, a11⟩ := HX1.out.c
      have hmk : m ≤ 10000 := by have := HMK.out; omega
      obtain ⟨D, hD⟩ := HC1.out.ex
      have HD := Lib.hid hD
      have HSM := Lib.hid ((⟨hxs, HXN.out⟩ : x.site.size ≤ 1000000 ∧ In64 x.no))
      have HKEY := Lib.hid (keyK_mk x.site x.no HSM.out.1 HSM.out.2)
      clear hD
      go_wp2_with (at_mapUpdate; refine wpList_mapUpdate_own _ rfl _ _ _ 121 rfl 36 4 keyK Tryz.underlying121 _ M m D rfl HD.out.1 (by simp only [maxLen]; omega) _ _ (keyT x.site.data.toList x.no) rfl rfl HKEY.out (.held (.bool true)) [] rfl ?_; intro w5 hown5 hgrow5)
      have HC5 := Lib.hid (BMapAt.put HSM.out.1 HSM.out.2 HD.out.1 HD.out.2 hown5)
      have HB5 : Hid (Below w.heap.size w w5) := HB1.out.grown hgrow5 HB1.out.size (fun i e => by have := Option.some.inj e; have := HMW.out; omega)
      have HI2 := Lib.hid (C1.step HI.out HX.out)
      have HMK2 : Hid (m + 1 ≤ k + 1) := by show _ ≤ _; have := HMK.out; omega
      clear hown5 hgrow5
      go_roundg (gk - 1)
      case measure => exact Nat.sub_lt HGK.out.2 Nat.one_pos
      case rel => exact ⟨k + 1, m + 1, _, HGK.out.1, by go_num, HC5.out, HMK2.out, HI2.out, HB5.out⟩
    · have hnk : ¬ (k : Int) < (n : Int) := by omega
      have HI9 := Lib.hid (C1.done HI.out (by have := HN.out; omega))
      have HM9 : Hid (m ≤ n + 0) := by show _ ≤ _; have := HMK.out; omega
      clear HI HMK HK
      go_wp2_with fail
      go_loopg [23] n (fun gk v wr => ∃ (k m : Nat) (g : CtF), Hid (k + gk = n) ∧ v = .int .i64 (k : Int) ∧ Hid (BMapAt wr M m g) ∧ Hid (m ≤ n + k) ∧ Hid (C2 l k g) ∧ Hid (Below w.heap.size w wr))
      case atStart => exact ⟨0, m, g, show 0 + n = n by omega, rfl, HC.out, HM9.out, HI9.out, HB.out⟩
      case round =>
        obtain ⟨k, m, g, HK, rfl, HC, HMK, HI, HB⟩ := hrel
        clear HI9 HM9
        have hkn : k ≤ n := by have := HK.out; omega
        by_cases hlt : k < n
        · have HGK := Lib.hid (show k + 1 + (gk - 1) = n ∧ 0 < gk by have := HK.out; omega)
          obtain ⟨gA, off, rfl, hg, hc⟩ := (ElemsAt.keep HAT.out HB.out).deed (by omega)
          have hkl : k < l.length := by have := HN.out; omega
          obtain ⟨x, hx⟩ : ∃ x, l[k]? = some x := ⟨_, List.getElem?_eq_getElem hkl⟩
          obtain ⟨c0, c1, c2, c3, c4, c5, c6, c7, c8, c9, c10, c11⟩ := hc k x hx
          have HX := Lib.hid hx
          have HXM := Lib.hid (List.mem_of_getElem? hx)
          have hxs := site_bound HL.out HXM.out
          have HXN := Lib.hid (in64_no HL.out HXM.out)
          have hal : Below wr.heap.size wr (wr.alloc (.cells #[.string x.site, .int .i64 x.no, .int .i64 x.at_, .int .i64 x.kind, .string x.id, .string x.fld, .string x.val, .int .i64 x.from_, .int .i64 x.to_, .string x.osite, .int .i64 x.ono, .string x.sum] 40)) := (Below.refl _ _).alloc (Nat.le_refl _) _
          have HX1 : Hid (DeedAt (wr.alloc (.cells #[.string x.site, .int .i64 x.no, .int .i64 x.at_, .int .i64 x.kind, .string x.id, .string x.fld, .string x.val, .int .i64 x.from_, .int .i64 x.to_, .string x.osite, .int .i64 x.ono, .string x.sum] 40)) wr.heap.size x) := deed_new wr x
          have HC1 := Lib.hid (HC.out.below hal)
          have HB1 := Lib.hid (HB.out.trans (hal.mono HB.out.size))
          clear hc hkl hx hg HK hal HC HB
          go_upto_region 10 with (fail)
          obtain ⟨P, hP⟩ : ∃ P, P = wr.heap.size := ⟨_, rfl⟩
          rw [← hP] at HX1 ⊢
          generalize wr.alloc (.cells #[.string x.site, .int .i64 x.no, .int .i64 x.at_, .int .i64 x.kind, .string x.id, .string x.fld, .string x.val, .int .i64 x.from_, .int .i64 x.to_, .string x.osite, .int .i64 x.ono, .string x.sum] 40) = w2 at *
          clear hP c0 c1 c2 c3 c4 c5 c6 c7 c8 c9 c10 c11
          obtain ⟨a0, a1, a2, a3, a4, a5, a6, a7, a8, a9, a10, a11⟩ := HX1.out.c
          have hmk : m ≤ 10000 := by have := HMK.out; omega
          by_cases hk6 : x.kind = 6
          · have HBK : Hid (backB x.kind = true) := by show _ = _; rw [hk6]; rfl
            rw [hk6] at a3
            obtain ⟨D, hD⟩ := HC1.out.ex
            have HD := Lib.hid hD
            have HSM := Lib.hid (of_bound HL.out HXM.out HBK.out)
            have HKEY := Lib.hid (keyK_mk x.osite x.ono HSM.out.1 HSM.out.2)
            clear hD
            go_wp2_with (at_mapUpdate; refine wpList_mapUpdate_own _ rfl _ _ _ 121 rfl 36 4 keyK Tryz.underlying121 _ M m D rfl HD.out.1 (by simp only [maxLen]; omega) _ _ (keyT x.osite.data.toList x.ono) rfl rfl HKEY.out (.held (.bool false)) [] rfl ?_; intro w5 hown5 hgrow5)
            have HC5 := Lib.hid (BMapAt.put HSM.out.1 HSM.out.2 HD.out.1 HD.out.2 hown5)
            have HB5 : Hid (Below w.heap.size w w5) := HB1.out.grown hgrow5 HB1.out.size (fun i e => by have := Option.some.inj e; have := HMW.out; omega)
            have HI2 := Lib.hid (C2.step HI.out HX.out hk6)
            have HMK2 : Hid (m + 1 ≤ n + (k + 1)) := by show _ ≤ _; have := HMK.out; omega
            clear hown5 hgrow5
            go_roundg (gk - 1)
            case measure => exact Nat.sub_lt HGK.out.2 Nat.one_pos
            case rel => exact ⟨k + 1, m + 1, _, HGK.out.1, by go_num, HC5.out, HMK2.out, HI2.out, HB5.out⟩
          · have hk6' : (x.kind == 6) = false := by simpa using hk6
            have HI2 := Lib.hid (C2.pass HI.out HX.out hk6)
            have HMK2 : Hid (m ≤ n + (k + 1)) := by show _ ≤ _; have := HMK.out; omega
            go_wp2_with fail
            go_roundg (gk - 1)
            case measure => exact Nat.sub_lt HGK.out.2 Nat.one_pos
            case rel => exact ⟨k + 1, m, g, HGK.out.1, by go_num, HC1.out, HMK2.out, HI2.out, HB1.out⟩
        · have hnk : ¬ (k : Int) < (n : Int) := by omega
          have HI9 := Lib.hid (C2.done HI.out (by have := HN.out; omega))
          have HM9 : Hid (m ≤ 2 * n + 0) := by show _ ≤ _; have := HMK.out; omega
          clear HI HMK HK
          go_wp2_with fail
          go_loopg [36] n (fun gk v wr => ∃ (k m : Nat) (g : CtF), Hid (k + gk = n) ∧ v = .int .i64 (k : Int) ∧ Hid (BMapAt wr M m g) ∧ Hid (m ≤ 2 * n + k) ∧ Hid (C3 l k g) ∧ Hid (Below w.heap.size w wr))
          case atStart => exact ⟨0, m, g, show 0 + n = n by omega, rfl, HC.out, HM9.out, HI9.out, HB.out⟩
          case round =>
            obtain ⟨k, m, g, HK, rfl, HC, HMK, HI, HB⟩ := hrel
            clear HI9 HM9
            have hkn : k ≤ n := by have := HK.out; omega
            by_cases hlt : k < n
            · have HGK := Lib.hid (show k + 1 + (gk - 1) = n ∧ 0 < gk by have := HK.out; omega)
              obtain ⟨gA, off, rfl, hg, hc⟩ := (ElemsAt.keep HAT.out HB.out).deed (by omega)
              have hkl : k < l.length := by have := HN.out; omega
              obtain ⟨x, hx⟩ : ∃ x, l[k]? = some x := ⟨_, List.getElem?_eq_getElem hkl⟩
              obtain ⟨c0, c1, c2, c3, c4, c5, c6, c7, c8, c9, c10, c11⟩ := hc k x hx
              have HX := Lib.hid hx
              have HXM := Lib.hid (List.mem_of_getElem? hx)
              have hxs := site_bound HL.out HXM.out
              have HXN := Lib.hid (in64_no HL.out HXM.out)
              have hal : Below wr.heap.size wr (wr.alloc (.cells #[.string x.site, .int .i64 x.no, .int .i64 x.at_, .int .i64 x.kind, .string x.id, .string x.fld, .string x.val, .int .i64 x.from_, .int .i64 x.to_, .string x.osite, .int .i64 x.ono, .string x.sum] 40)) := (Below.refl _ _).alloc (Nat.le_refl _) _
              have HX1 : Hid (DeedAt (wr.alloc (.cells #[.string x.site, .int .i64 x.no, .int .i64 x.at_, .int .i64 x.kind, .string x.id, .string x.fld, .string x.val, .int .i64 x.from_, .int .i64 x.to_, .string x.osite, .int .i64 x.ono, .string x.sum] 40)) wr.heap.size x) := deed_new wr x
              have HC1 := Lib.hid (HC.out.below hal)
              have HB1 := Lib.hid (HB.out.trans (hal.mono HB.out.size))
              clear hc hkl hx hg HK hal HC HB
              go_upto_region 16 with (fail)
              obtain ⟨P, hP⟩ : ∃ P, P = wr.heap.size := ⟨_, rfl⟩
              rw [← hP] at HX1 ⊢
              generalize wr.alloc (.cells #[.string x.site, .int .i64 x.no, .int .i64 x.at_, .int .i64 x.kind, .string x.id, .string x.fld, .string x.val, .int .i64 x.from_, .int .i64 x.to_, .string x.osite, .int .i64 x.ono, .string x.sum] 40) = w2 at *
              clear hP c0 c1 c2 c3 c4 c5 c6 c7 c8 c9 c10 c11
              obtain ⟨a0, a1, a2, a3, a4, a5, a6, a7, a8, a9, a10, a11⟩ := HX1.out.c
              have hmk : m ≤ 10000 := by have := HMK.out; omega
              by_cases hk3 : x.kind = 3
              · have HBK : Hid (backB x.kind = true) := by show _ = _; rw [hk3]; rfl
                have hlook := HC1.out.look x.site x.no hxs HXN.out
                rw [C3.drop HL.out HI.out HXM.out hk3] at hlook
                have HK3 := Lib.hid hk3
                rw [hk3] at a3
                cases hc : cnt1 l x with
                | true =>
                  rw [hc] at hlook
                  have HCT := Lib.hid hc
                  clear hc
                  obtain ⟨D, hD⟩ := HC1.out.ex
                  have HD := Lib.hid hD
                  have HSM := Lib.hid (of_bound HL.out HXM.out HBK.out)
                  have HKEY := Lib.hid (keyK_mk x.osite x.ono HSM.out.1 HSM.out.2)
                  clear hD
                  go_wp2_with (at_mapUpdate; refine wpList_mapUpdate_own _ rfl _ _ _ 121 rfl 36 4 keyK Tryz.underlying121 _ M m D rfl HD.out.1 (by simp only [maxLen]; omega) _ _ (keyT x.osite.data.toList x.ono) rfl rfl HKEY.out (.held (.bool false)) [] rfl ?_; intro w5 hown5 hgrow5)
                  have HC5 := Lib.hid (BMapAt.put HSM.out.1 HSM.out.2 HD.out.1 HD.out.2 hown5)
                  have HB5 : Hid (Below w.heap.size w w5) := HB1.out.grown hgrow5 HB1.out.size (fun i e => by have := Option.some.inj e; have := HMW.out; omega)
                  have HI2 := Lib.hid (C3.step HI.out HX.out HK3.out HCT.out)
                  have HMK2 : Hid (m + 1 ≤ 2 * n + (k + 1)) := by show _ ≤ _; have := HMK.out; omega
                  clear hown5 hgrow5
                  go_roundg (gk - 1)
                  case measure => exact Nat.sub_lt HGK.out.2 Nat.one_pos
                  case rel => exact ⟨k + 1, m + 1, _, HGK.out.1, by go_num, HC5.out, HMK2.out, HI2.out, HB5.out⟩
                | false =>
                  rw [hc] at hlook
                  have HCT := Lib.hid hc
                  clear hc
                  have HI2 := Lib.hid (C3.pass HI.out HX.out (fun h => by have h1 := HCT.out; rw [h.2] at h1; cases h1))
                  have HMK2 : Hid (m ≤ 2 * n + (k + 1)) := by show _ ≤ _; have := HMK.out; omega
                  go_wp2_with fail
                  go_roundg (gk - 1)
                  case measure => exact Nat.sub_lt HGK.out.2 Nat.one_pos
                  case rel => exact ⟨k + 1, m, g, HGK.out.1, by go_num, HC1.out, HMK2.out, HI2.out, HB1.out⟩
              · have hk3' : (x.kind == 3) = false := by simpa using hk3
                have HI2 := Lib.hid (C3.pass HI.out HX.out (fun h => hk3 h.1))
                have HMK2 : Hid (m ≤ 2 * n + (k + 1)) := by show _ ≤ _; have := HMK.out; omega
                go_wp2_with fail
                go_roundg (gk - 1)
                case measure => exact Nat.sub_lt HGK.out.2 Nat.one_pos
                case rel => exact ⟨k + 1, m, g, HGK.out.1, by go_num, HC1.out, HMK2.out, HI2.out, HB1.out⟩
            · have hnk : ¬ (k : Int) < (n : Int) := by omega
              have HF := Lib.hid (fun d hd => C3.done HI.out (by have := HN.out; omega) (d := d) hd)
              clear HI HMK HK
              go_wp2_with fail
              go_ret
              exact ⟨M, m, g, rfl, HMW.out, HC.out, HF.out, HB.out⟩
end Go.Proofs.YthogkcgklakibaaGreatDoor

namespace Go.Proofs.YthogkcgklakibaaGreatDoor
open Go.RowKit Go.Maps

def SpanE : Elem (Int × Int) := ⟨38, 53, 2, 16, .agg #[.int .i64 0, .int .i64 0], fun p => [.int .i64 p.1, .int .i64 p.2]⟩
theorem spanE_ok : SpanE.Ok := ⟨fun _ => rfl, fun x u hu => by simp [SpanE] at hu; rcases hu with rfl | rfl <;> rfl, by decide, by decide, by kernel_rfl, by kernel_rfl, Tryz.underlying53⟩
/-- 'm[k] = v' as one step of a region that draws. -/
theorem step_mapUpdate_own {H : Type} {P : Program} (w : World) {ops : Array Oper} {o : Oper} {a : Act} {Kc : Act → World → Prop} {Q : Exit → Act → World → Prop} {X : Prop}
    (hg : o.guard = none) (m x v : Operand) (t : TypeId) (hop : o.op = Op.mapUpdate t m x v)
    (k e : TypeId) (K : Keyed P k) (ht : P.underlying t = some (.map k e)) (R : Value → Option (DataW H × List MemPlace)) (b n : Nat) (D : DataW H)
    (hm : a.eval m = .map (some b)) (hown : w.ownsMap P k R b n D) (hn : n < maxLen) (key val : Value) (kl : Lit) (hx : a.eval x = key) (hv : a.eval v = val) (hkey : keyOf P k key = some kl)
    (d : DataW H) (ps : List MemPlace) (hval : R val = some (d, ps))
    (hK : ∀ w', w'.ownsMap P k R b (n + 1) (D.put kl d) → w.grownBy w' (some b) → Kc (a.put o.dst undef) w') :
    if Region.wanted o (yielded ops a.tmps) = true then Oper.wp P o a w Kc Q else X := by
  have hw : Region.wanted o (yielded ops a.tmps) = true := by simp [Region.wanted, hg]
  rw [if_pos hw]
  obtain ⟨w', hrun, r1, r2⟩ := hown.update K ht hn hkey hval
  unfold Oper.wp
  simp [execOp, hop, hm, hx, hv, hrun, Result.andThen]
  exact hK w' r1 r2
/-- The state's own block. -/
def SB (w : World) (S M : Nat) : Prop := w.heap[S]? = some (.cells #[.map (some M), .map (some (M + 1)), .map (some (M + 2)), .map (some (M + 3))] 106 (0, 0))
theorem SB.c {w : World} {S M : Nat} (h : SB w S M) : w.cell? ⟨S, 0, none⟩ = some (.map (some M)) ∧ w.cell? ⟨S, 1, none⟩ = some (.map (some (M + 1))) ∧ w.cell? ⟨S, 2, none⟩ = some (.map (some (M + 2))) ∧ w.cell? ⟨S, 3, none⟩ = some (.map (some (M + 3))) := by
  refine ⟨?_, ?_, ?_, ?_⟩ <;> (rw [cell_of_row w S _ _ _ _ h]; rfl)
theorem SB.lt {w : World} {S M : Nat} (h : SB w S M) : S < w.heap.size := (Array.getElem?_eq_some_iff.1 h).1
/-- Nothing that lay in w3 has turned but the four maps. -/
structure Fr (w3 : World) (M : Nat) (w : World) : Prop where
  os : w.os = w3.os
  tape : w.tape = w3.tape
  output : w.output = w3.output
  size : w3.heap.size ≤ w.heap.size
  block : ∀ i, i < w3.heap.size → (i < M ∨ M + 4 ≤ i) → w.heap[i]? = w3.heap[i]?
theorem Fr.refl (w : World) (M : Nat) : Fr w M w := ⟨rfl, rfl, rfl, Nat.le_refl _, fun _ _ _ => rfl⟩
theorem Fr.step {w3 w w' : World} {M : Nat} {row : Option Nat} (h : Fr w3 M w) (hg : w.grownBy w' row) (hr : ∀ i, row = some i → (M ≤ i ∧ i < M + 4) ∨ w3.heap.size ≤ i) : Fr w3 M w' :=
  ⟨hg.os.trans h.os, hg.tape.trans h.tape, hg.output.trans h.output, Nat.le_trans h.size hg.size, fun i hi hm => (hg.block i (Nat.lt_of_lt_of_le hi h.size) (fun e => by have := hr i e.symm; omega)).trans (h.block i hi hm)⟩
theorem Fr.below {w3 w w' : World} {M : Nat} (h : Fr w3 M w) (hb : Below w.heap.size w w') : Fr w3 M w' := h.step (below_grown hb none) (fun i e => by cases e)
theorem Fr.sb {w3 w : World} {M S : Nat} (h : Fr w3 M w) (hs : SB w3 S M) (hS : M + 4 ≤ S) : SB w S M := (h.block S hs.lt (.inr hS)).trans hs
theorem Fr.toBelow {w0 w3 w : World} {M : Nat} (h : Fr w3 M w) (hb : Below w0.heap.size w0 w3) (hM : w0.heap.size ≤ M) : Below w0.heap.size w0 w :=
  ⟨h.os.trans hb.os, h.tape.trans hb.tape, h.output.trans hb.output, Nat.le_trans hb.size h.size, fun i hi => (h.block i (Nat.lt_of_lt_of_le hi hb.size) (.inl (Nat.lt_of_lt_of_le hi hM))).trans (hb.block i hi)⟩
theorem Fr.deeds {w3 w : World} {M : Nat} {A : Option Addr} {n c : Nat} {l : List Deed} (h : Fr w3 M w) (hd : DeedsAt w3 A n c l) (hA : ∀ g off, A = some ⟨g, off, none⟩ → M + 4 ≤ g) : DeedsAt w A n c l := by
  refine ⟨hd.1, hd.2.1, hd.2.2.1, fun h0 => ?_⟩
  obtain ⟨g, off, rfl, hgl, hc⟩ := hd.2.2.2 h0
  exact ⟨g, off, rfl, Nat.lt_of_lt_of_le hgl h.size, fun k x i v hk hv => (World.cell?_of_block (h.block g hgl (.inr (hA g off rfl)))).trans (hc k x i v hk hv)⟩
theorem Fr.bmap {w3 w : World} {M C m : Nat} {g : CtF} (h : Fr w3 M w) (hc : BMapAt w3 C m g) (hC : M + 4 ≤ C) : BMapAt w C m g := by
  obtain ⟨D, ⟨es, cl, hb, r⟩, h2⟩ := hc.ex
  exact ⟨⟨D, ⟨es, cl, (h.block C (Array.getElem?_eq_some_iff.1 hb).1 (.inr hC)).trans hb, r⟩, h2⟩⟩
/-- What newState's maps hold of the deeds so far. -/
structure NS (w3 : World) (M k : Nat) (cs : List Deed) (w : World) : Prop where
  ne : ∃ g, Nest w w3.heap.size M k g cs
  cv : ∃ m hd, m ≤ k ∧ RowsAt SpanE w w3.heap.size (M + 2) m hd (covC cs)
  nt : ∃ m hd, m ≤ k ∧ RowsAt StrE w w3.heap.size (M + 3) m hd (notC cs)
  fr : Fr w3 M w
theorem NS.below {w3 w w' : World} {M k : Nat} {cs : List Deed} (h : NS w3 M k cs w) (hb : Below w.heap.size w w') : NS w3 M k cs w' :=
  ⟨by obtain ⟨g, h1⟩ := h.ne; exact ⟨g, h1.below hb⟩, by obtain ⟨m, hd, h1, h2⟩ := h.cv; exact ⟨m, hd, h1, h2.below hb⟩, by obtain ⟨m, hd, h1, h2⟩ := h.nt; exact ⟨m, hd, h1, h2.below hb⟩, h.fr.below hb⟩
theorem NS.more {w3 w : World} {M k k' : Nat} {cs : List Deed} (h : NS w3 M k cs w) (hk : k ≤ k') : NS w3 M k' cs w :=
  ⟨by obtain ⟨g, h1⟩ := h.ne; exact ⟨g, h1.more hk⟩, by obtain ⟨m, hd, h1, h2⟩ := h.cv; exact ⟨m, hd, Nat.le_trans h1 hk, h2⟩, by obtain ⟨m, hd, h1, h2⟩ := h.nt; exact ⟨m, hd, Nat.le_trans h1 hk, h2⟩, h.fr⟩
theorem covC_pass {cs : List Deed} {x : Deed} (h : x.kind ≠ 4) (s : ByteArray) : covC (cs ++ [x]) s = covC cs s := by rw [covC_snoc, if_neg (fun e => h e.1)]
theorem notC_pass {cs : List Deed} {x : Deed} (h : x.kind ≠ 5) (s : ByteArray) : notC (cs ++ [x]) s = notC cs s := by rw [notC_snoc, if_neg (fun e => h e.1)]
theorem NS.skip {w3 w : World} {M k : Nat} {cs : List Deed} {x : Deed} (h : NS w3 M k cs w) (h1 : x.kind ≠ 1) (h2 : x.kind ≠ 2) (h4 : x.kind ≠ 4) (h5 : x.kind ≠ 5) : NS w3 M k (cs ++ [x]) w :=
  ⟨by obtain ⟨g, h3⟩ := h.ne; exact ⟨g, h3.skip h1 h2⟩, by obtain ⟨m, hd, h6, h7⟩ := h.cv; exact ⟨m, hd, h6, h7.congr (covC_pass h4)⟩, by obtain ⟨m, hd, h6, h7⟩ := h.nt; exact ⟨m, hd, h6, h7.congr (notC_pass h5)⟩, h.fr⟩
theorem deed_maps {w w' : World} {P N : Nat} {x : Deed} (h : DeedAt w P x) (hg : w.grownBy w' (some N)) (hN : ∃ es cl, w.heap[N]? = some (.map es cl)) : DeedAt w' P x := by
  refine (hg.block P h.lt (fun e => ?_)).trans h
  obtain ⟨es, cl, hm⟩ := hN
  have := Option.some.inj e
  subst this
  have hb : w.heap[P]? = _ := h
  rw [hb] at hm; cases hm
/-- A map within is laid: what the outer map's update leaves. -/
theorem NS.grow {w3 w w5 : World} {M k m : Nat} {cs : List Deed} {g : InF} {D : DataW Value} (b : Bool) (s : ByteArray) (h : NS w3 M k cs w) (hne : Nest w w3.heap.size M k g cs) (hMb : M + 4 ≤ w3.heap.size) (hn : g b s = none)
    (hm : m ≤ k) (h1 : (w.alloc (.map #[] 0)).ownsMap Tryz.prog 9 heldE (mB M b) m D)
    (h2 : ∀ t : List UInt8, D.atKey (.string t) (.held (.map none)) = .held (.map (g b ⟨t.toArray⟩))) (h3 : ∀ t : List UInt8, has D (.string t) = (g b ⟨t.toArray⟩).isSome)
    (hown : w5.ownsMap Tryz.prog 9 heldE (mB M b) (m + 1) (D.put (.string s.data.toList) (.held (.map (some w.heap.size))))) (hg : (w.alloc (.map #[] 0)).grownBy w5 (some (mB M b))) :
    NS w3 M (k + 1) cs w5 ∧ Nest w5 w3.heap.size M (k + 1) (setIn g b s w.heap.size) cs := by
  have hal : Below w.heap.size w (w.alloc (.map #[] 0)) := (Below.refl _ _).alloc (Nat.le_refl _) _
  have hmb : mB M b = M ∨ mB M b = M + 1 := by cases b <;> simp [mB]
  have hN : Nest w5 w3.heap.size M (k + 1) (setIn g b s w.heap.size) cs := Nest.grow b s hne h.fr.size (by omega) hn hg ⟨m, hm, VMap.put s _ h1 h2 h3 hown⟩
  have hmap : ∃ es cl, (w.alloc (.map #[] 0)).heap[mB M b]? = some (.map es cl) := by obtain ⟨es, cl, hb, _⟩ := h1; exact ⟨es, cl, hb⟩
  obtain ⟨mc, hdc, hc1, hc2⟩ := h.cv
  obtain ⟨mn, hdn, hn1, hn2⟩ := h.nt
  refine ⟨⟨⟨_, hN⟩, ⟨mc, hdc, by omega, (hc2.below hal).maps hg (by omega) hmap⟩, ⟨mn, hdn, by omega, (hn2.below hal).maps hg (by omega) hmap⟩, (h.fr.below hal).step hg (fun i e => by have := Option.some.inj e; omega)⟩, hN⟩
/-- A store into a map within. -/
theorem NS.put {w3 w w6 : World} {M k m N : Nat} {cs : List Deed} {g : InF} {D : DataW Value} (b : Bool) (x : Deed) (h : NS w3 M k cs w) (hne : Nest w w3.heap.size M k g cs) (hMb : M + 4 ≤ w3.heap.size) (hN : g b x.id = some N) (hk : x.kind = bK b)
    (hm : m ≤ k) (h1 : w.ownsMap Tryz.prog 9 heldE N m D)
    (h2 : ∀ t : List UInt8, D.atKey (.string t) (.held (zB b)) = .held (fB b cs x.id ⟨t.toArray⟩)) (h3 : ∀ t : List UInt8, has D (.string t) = dB b cs x.id ⟨t.toArray⟩)
    (hown : w6.ownsMap Tryz.prog 9 heldE N (m + 1) (D.put (.string (bT b x).data.toList) (.held (bV b x)))) (hg : w.grownBy w6 (some N)) :
    NS w3 M (k + 1) (cs ++ [x]) w6 := by
  have hNb := (hne.inn b x.id N hN).1
  have hmap : ∃ es cl, w.heap[N]? = some (.map es cl) := by obtain ⟨es, cl, hb, _⟩ := h1; exact ⟨es, cl, hb⟩
  have h4 : x.kind ≠ 4 := by rw [hk]; cases b <;> decide
  have h5 : x.kind ≠ 5 := by rw [hk]; cases b <;> decide
  obtain ⟨mc, hdc, hc1, hc2⟩ := h.cv
  obtain ⟨mn, hdn, hn1, hn2⟩ := h.nt
  refine ⟨⟨g, Nest.put b x hne (by omega) hN hk hg ⟨m, hm, VMap.put (bT b x) _ h1 h2 h3 hown⟩⟩, ⟨mc, hdc, by omega, (hc2.maps hg (by omega) hmap).congr (covC_pass h4)⟩, ⟨mn, hdn, by omega, (hn2.maps hg (by omega) hmap).congr (notC_pass h5)⟩, h.fr.step hg (fun i e => by have := Option.some.inj e; omega)⟩
/-- A row of spans is longer by one. -/
theorem NS.cover {w3 w w5 w6 : World} {M k m : Nat} {cs : List Deed} {hd : ByteArray → Value} {D : DataW Value} {d : ByteArray → Bool} {o : Obj} {v5 : Value} (x : Deed) (h : NS w3 M k cs w) (hr : RowsAt SpanE w w3.heap.size (M + 2) m hd (covC cs)) (hMb : M + 4 ≤ w3.heap.size) (hk : x.kind = 4) (hm : m ≤ k)
    (h1 : w.ownsMap Tryz.prog 9 heldE (M + 2) m D) (h2 : ∀ t : List UInt8, D.atKey (.string t) (.held (.slice none 0 0)) = .held (hd ⟨t.toArray⟩)) (h3 : ∀ t : List UInt8, has D (.string t) = d ⟨t.toArray⟩)
    (hown5 : Owns SpanE w5 w3.heap.size v5 (covC cs x.id ++ [(x.from_, x.to_)])) (hg5 : (w.alloc o).grownBy w5 (hd x.id).ownBlock) (hv5 : v5.ownBlock = (hd x.id).ownBlock ∨ v5.ownBlock = some (w.alloc o).heap.size)
    (hown6 : w6.ownsMap Tryz.prog 9 heldE (M + 2) (m + 1) (D.put (.string x.id.data.toList) (.held v5))) (hg6 : w5.grownBy w6 (some (M + 2))) : NS w3 M (k + 1) (cs ++ [x]) w6 := by
  have hal : Below w.heap.size w (w.alloc o) := (Below.refl _ _).alloc (Nat.le_refl _) _
  obtain ⟨g, hne⟩ := h.ne
  obtain ⟨mn, hdn, hn1, hn2⟩ := h.nt
  have hrow := (hr.row x.id).below_ hal
  have hM5 : ∃ es cl, w5.heap[M + 2]? = some (.map es cl) := by
    have h1a : (w.alloc o).ownsMap Tryz.prog 9 heldE (M + 2) m D := h1.alloc o
    obtain ⟨es, cl, hb, _⟩ := h1a
    refine ⟨es, cl, (hg5.block _ (Array.getElem?_eq_some_iff.1 hb).1 (fun e => ?_)).trans hb⟩
    obtain ⟨c, fr, hc⟩ := owns_cells hrow e.symm
    rw [hb] at hc; cases hc
  have hcells : ∀ i, (hd x.id).ownBlock = some i → ∃ c t f, (w.alloc o).heap[i]? = some (.cells c t f) := fun i e => by obtain ⟨c, f, hc⟩ := owns_cells hrow e; exact ⟨c, _, f, hc⟩
  refine ⟨⟨g, ?_⟩, ⟨m + 1, _, by omega, (hr.put x.id _ v5 hown5 hg5 hv5 ⟨_, VMap.put x.id v5 h1 h2 h3 hown6⟩ hM5 hg6).congr fun s => ?_⟩, ⟨mn, hdn, by omega, ?_⟩, ?_⟩
  · have h7 : Nest w5 w3.heap.size M k g cs := (hne.below hal).cells hg5 hcells
    refine (((h7.kept hg6 (fun b e => ?_) (fun b s N hN e => ?_)).skip (by omega) (by omega)).more (Nat.le_succ k))
    · have := Option.some.inj e; cases b <;> simp [mB] at this
    · have := Option.some.inj e; have := (hne.inn b s N hN).1; omega
  · rw [covC_snoc]
    unfold setV
    by_cases e : s = x.id
    · subst e; rw [if_pos ⟨hk, rfl⟩, if_pos rfl]
    · rw [if_neg (fun h => e h.2.symm), if_neg e]
  · exact (((hn2.below hal).other hrow (by decide) hg5).maps hg6 (by omega) hM5).congr (notC_pass (by omega))
  · exact ((h.fr.below hal).step hg5 (fun i e => .inr (hrow.lt i e).1)).step hg6 (fun i e => by have := Option.some.inj e; omega)
/-- A row of notes is longer by one. -/
theorem NS.note {w3 w w5 w6 : World} {M k m : Nat} {cs : List Deed} {hd : ByteArray → Value} {D : DataW Value} {d : ByteArray → Bool} {o : Obj} {v5 : Value} (x : Deed) (h : NS w3 M k cs w) (hr : RowsAt StrE w w3.heap.size (M + 3) m hd (notC cs)) (hMb : M + 4 ≤ w3.heap.size) (hk : x.kind = 5) (hm : m ≤ k)
    (h1 : w.ownsMap Tryz.prog 9 heldE (M + 3) m D) (h2 : ∀ t : List UInt8, D.atKey (.string t) (.held (.slice none 0 0)) = .held (hd ⟨t.toArray⟩)) (h3 : ∀ t : List UInt8, has D (.string t) = d ⟨t.toArray⟩)
    (hown5 : Owns StrE w5 w3.heap.size v5 (notC cs x.id ++ [x.val.data.toList])) (hg5 : (w.alloc o).grownBy w5 (hd x.id).ownBlock) (hv5 : v5.ownBlock = (hd x.id).ownBlock ∨ v5.ownBlock = some (w.alloc o).heap.size)
    (hown6 : w6.ownsMap Tryz.prog 9 heldE (M + 3) (m + 1) (D.put (.string x.id.data.toList) (.held v5))) (hg6 : w5.grownBy w6 (some (M + 3))) : NS w3 M (k + 1) (cs ++ [x]) w6 := by
  have hal : Below w.heap.size w (w.alloc o) := (Below.refl _ _).alloc (Nat.le_refl _) _
  obtain ⟨g, hne⟩ := h.ne
  obtain ⟨mn, hdn, hn1, hn2⟩ := h.cv
  have hrow := (hr.row x.id).below_ hal
  have hM5 : ∃ es cl, w5.heap[M + 3]? = some (.map es cl) := by
    have h1a : (w.alloc o).ownsMap Tryz.prog 9 heldE (M + 3) m D := h1.alloc o
    obtain ⟨es, cl, hb, _⟩ := h1a
    refine ⟨es, cl, (hg5.block _ (Array.getElem?_eq_some_iff.1 hb).1 (fun e => ?_)).trans hb⟩
    obtain ⟨c, fr, hc⟩ := owns_cells hrow e.symm
    rw [hb] at hc; cases hc
  have hcells : ∀ i, (hd x.id).ownBlock = some i → ∃ c t f, (w.alloc o).heap[i]? = some (.cells c t f) := fun i e => by obtain ⟨c, f, hc⟩ := owns_cells hrow e; exact ⟨c, _, f, hc⟩
  refine ⟨⟨g, ?_⟩, ⟨mn, hdn, by omega, ?_⟩, ⟨m + 1, _, by omega, (hr.put x.id _ v5 hown5 hg5 hv5 ⟨_, VMap.put x.id v5 h1 h2 h3 hown6⟩ hM5 hg6).congr fun s => ?_⟩, ?_⟩
  · have h7 : Nest w5 w3.heap.size M k g cs := (hne.below hal).cells hg5 hcells
    refine (((h7.kept hg6 (fun b e => ?_) (fun b s N hN e => ?_)).skip (by omega) (by omega)).more (Nat.le_succ k))
    · have := Option.some.inj e; cases b <;> simp [mB] at this
    · have := Option.some.inj e; have := (hne.inn b s N hN).1; omega
  · exact (((hn2.below hal).other hrow (by decide) hg5).maps hg6 (by omega) hM5).congr (covC_pass (by omega))
  · rw [notC_snoc]
    unfold setV
    by_cases e : s = x.id
    · subst e; rw [if_pos ⟨hk, rfl⟩, if_pos rfl]
    · rw [if_neg (fun h => e h.2.symm), if_neg e]
  · exact ((h.fr.below hal).step hg5 (fun i e => .inr (hrow.lt i e).1)).step hg6 (fun i e => by have := Option.some.inj e; omega)
end Go.Proofs.YthogkcgklakibaaGreatDoor

namespace Go.Proofs.YthogkcgklakibaaGreatDoor
open Go.RowKit Go.Maps
attribute [local go_sem ↓] Go.wp_at_zero Go.wp_at_succ

/-- Four maps in a row, nothing in them. -/
theorem four_maps (w : World) (o o2 : Obj) (z : Value) : ∀ j, j < 4 → VMap ((((((w.alloc o).alloc (.map #[] 0)).alloc (.map #[] 0)).alloc (.map #[] 0)).alloc (.map #[] 0)).alloc o2) (w.heap.size + 1 + j) 0 z (fun _ => z) (fun _ => false) := by
  have al : ∀ (w : World) (o : Obj), Below w.heap.size w (w.alloc o) := fun w o => (Below.refl _ _).alloc (Nat.le_refl _) _
  have s1 : (w.alloc o).heap.size = w.heap.size + 1 := by simp
  have s2 : ((w.alloc o).alloc (.map #[] 0)).heap.size = w.heap.size + 2 := by simp
  have s3 : (((w.alloc o).alloc (.map #[] 0)).alloc (.map #[] 0)).heap.size = w.heap.size + 3 := by simp
  have s4 : ((((w.alloc o).alloc (.map #[] 0)).alloc (.map #[] 0)).alloc (.map #[] 0)).heap.size = w.heap.size + 4 := by simp
  have v1 := VMap.start (w.alloc o) z
  have v2 := VMap.start ((w.alloc o).alloc (.map #[] 0)) z
  have v3 := VMap.start (((w.alloc o).alloc (.map #[] 0)).alloc (.map #[] 0)) z
  have v4 := VMap.start ((((w.alloc o).alloc (.map #[] 0)).alloc (.map #[] 0)).alloc (.map #[] 0)) z
  rw [s1] at v1
  rw [s2] at v2
  rw [s3] at v3
  rw [s4] at v4
  intro j hj
  match j, hj with
  | 0, _ => exact (((v1.below (al _ _)).below (al _ _)).below (al _ _)).below (al _ _)
  | 1, _ => exact ((v2.below (al _ _)).below (al _ _)).below (al _ _)
  | 2, _ => exact (v3.below (al _ _)).below (al _ _)
  | 3, _ => exact v4.below (al _ _)
theorem NS.start {w3 : World} {M : Nat} (h : ∀ z j, j < 4 → VMap w3 (M + j) 0 z (fun _ => z) (fun _ => false)) : NS w3 M 0 [] w3 := by
  refine ⟨⟨fun _ _ => none, fun b => ⟨0, Nat.le_refl _, ?_⟩, (fun b s N e => by cases e), (fun b s b' s' N e => by cases e), (fun b s _ => ?_)⟩, ⟨0, fun _ => .slice none 0 0, Nat.le_refl _, ⟨_, h _ 2 (by omega)⟩, fun s => Owns.nil _ _, (fun s t _ i e => by cases e)⟩, ⟨0, fun _ => .slice none 0 0, Nat.le_refl _, ⟨_, h _ 3 (by omega)⟩, fun s => Owns.nil _ _, (fun s t _ i e => by cases e)⟩, Fr.refl _ _⟩
  · cases b
    · exact h _ 0 (by omega)
    · exact h _ 1 (by omega)
  · cases b <;> constructor <;> rfl
/-- The result's block. -/
def RB (w : World) (R : Nat) (a b c d : Value) : Prop := w.heap[R]? = some (.cells #[a, b, c, d] 106 (0, 0))
theorem RB.c {w : World} {R : Nat} {a b c d : Value} (h : RB w R a b c d) : w.cell? ⟨R, 0, none⟩ = some a ∧ w.cell? ⟨R, 1, none⟩ = some b ∧ w.cell? ⟨R, 2, none⟩ = some c ∧ w.cell? ⟨R, 3, none⟩ = some d ∧ w.frozen? ⟨R, 0, none⟩ = false ∧ w.frozen? ⟨R, 1, none⟩ = false ∧ w.frozen? ⟨R, 2, none⟩ = false ∧ w.frozen? ⟨R, 3, none⟩ = false := by
  have hb : w.heap[R]? = _ := h
  refine ⟨?_, ?_, ?_, ?_, ?_, ?_, ?_, ?_⟩ <;> first | (rw [cell_of_row w R _ _ _ _ h]; rfl) | simp [World.frozen?, hb]
theorem RB.set {w : World} {R : Nat} {a b c d : Value} (h : RB w R a b c d) (a' b' c' d' : Value) : RB ((((w.setCell ⟨R, 0, none⟩ a').setCell ⟨R, 1, none⟩ b').setCell ⟨R, 2, none⟩ c').setCell ⟨R, 3, none⟩ d') R a' b' c' d' := by
  have hb : w.heap[R]? = _ := h
  unfold RB
  simp [World.setCell, Array.getElem?_modify, hb]
theorem grown_set4 (w : World) (R : Nat) (a b c d : Value) : w.grownBy ((((w.setCell ⟨R, 0, none⟩ a).setCell ⟨R, 1, none⟩ b).setCell ⟨R, 2, none⟩ c).setCell ⟨R, 3, none⟩ d) (some R) :=
  grown_trans (grown_trans (grown_trans (grown_setCell _ _ _ _) (grown_setCell _ _ _ _)) (grown_setCell _ _ _ _)) (grown_setCell _ _ _ _)
/-- What newState returns. -/
def NewPost (w : World) (l : List Deed) (e : Ending) (w' : World) : Prop :=
  ∃ (M base : Nat) (g : InF) (L : List Deed), e = .returned (.agg #[.map (some M), .map (some (M + 1)), .map (some (M + 2)), .map (some (M + 3))]) ∧ OrdOf L l ∧ w.heap.size < M ∧ M + 4 ≤ base ∧ Nest w' base M 40 g (L.filter (cntD l)) ∧
    (∃ m hd, m ≤ 40 ∧ RowsAt SpanE w' base (M + 2) m hd (covC (L.filter (cntD l)))) ∧ (∃ m hd, m ≤ 40 ∧ RowsAt StrE w' base (M + 3) m hd (notC (L.filter (cntD l)))) ∧ Below w.heap.size w w'
set_option maxHeartbeats 12800000 in
set_option maxRecDepth 100000 in
theorem newState_any (A : Option Addr) (n c : Nat) (l : List Deed) (w : World) (h : DeedsAt w A n c l) (hl : RightD l) (hn : n < 20) :
    Calls Tryz.prog 58 #[.slice A n c] w (NewPost w l) := by
  have HN : Hid (n = l.length) := h.1
  have HL := Lib.hid hl
  have hmm := @run_makeMap Tryz.prog
  have HRB1 : Hid (RB ((((((w.alloc (.cells #[.map none, .map none, .map none, .map none] 106)).alloc (.map #[] 0)).alloc (.map #[] 0)).alloc (.map #[] 0)).alloc (.map #[] 0)).alloc (.cells #[.map (some (w.heap.size + 1)), .map (some (w.heap.size + 1 + 1)), .map (some (w.heap.size + 1 + 2)), .map (some (w.heap.size + 1 + 3))] 106)) w.heap.size (.map none) (.map none) (.map none) (.map none)) := by
    have h1 := heap_alloc_new w (.cells #[.map none, .map none, .map none, .map none] 106)
    exact (Below.heap_alloc _ _ _ (by simp; omega)).trans ((Below.heap_alloc _ _ _ (by simp; omega)).trans ((Below.heap_alloc _ _ _ (by simp; omega)).trans ((Below.heap_alloc _ _ _ (by simp; omega)).trans ((Below.heap_alloc _ _ _ (by simp)).trans h1))))
  have HSB1 : Hid (SB ((((((w.alloc (.cells #[.map none, .map none, .map none, .map none] 106)).alloc (.map #[] 0)).alloc (.map #[] 0)).alloc (.map #[] 0)).alloc (.map #[] 0)).alloc (.cells #[.map (some (w.heap.size + 1)), .map (some (w.heap.size + 1 + 1)), .map (some (w.heap.size + 1 + 2)), .map (some (w.heap.size + 1 + 3))] 106)) (w.heap.size + 1 + 4) (w.heap.size + 1)) := by
    have h1 := heap_alloc_new (((((w.alloc (.cells #[.map none, .map none, .map none, .map none] 106)).alloc (.map #[] 0)).alloc (.map #[] 0)).alloc (.map #[] 0)).alloc (.map #[] 0)) (.cells #[.map (some (w.heap.size + 1)), .map (some (w.heap.size + 1 + 1)), .map (some (w.heap.size + 1 + 2)), .map (some (w.heap.size + 1 + 3))] 106)
    simp only [World.size_alloc] at h1
    exact h1
  have HVM1 := Lib.hid (fun z => four_maps w (.cells #[.map none, .map none, .map none, .map none] 106) (.cells #[.map (some (w.heap.size + 1)), .map (some (w.heap.size + 1 + 1)), .map (some (w.heap.size + 1 + 2)), .map (some (w.heap.size + 1 + 3))] 106) z)
  have HB1 : Hid (Below w.heap.size w ((((((w.alloc (.cells #[.map none, .map none, .map none, .map none] 106)).alloc (.map #[] 0)).alloc (.map #[] 0)).alloc (.map #[] 0)).alloc (.map #[] 0)).alloc (.cells #[.map (some (w.heap.size + 1)), .map (some (w.heap.size + 1 + 1)), .map (some (w.heap.size + 1 + 2)), .map (some (w.heap.size + 1 + 3))] 106))) :=
    ((((((Below.refl _ _).alloc (Nat.le_refl _) _).alloc (by simp) _).alloc (by simp; omega) _).alloc (by simp; omega) _).alloc (by simp; omega) _).alloc (by simp; omega) _
  have HZ1 : Hid (((((((w.alloc (.cells #[.map none, .map none, .map none, .map none] 106)).alloc (.map #[] 0)).alloc (.map #[] 0)).alloc (.map #[] 0)).alloc (.map #[] 0)).alloc (.cells #[.map (some (w.heap.size + 1)), .map (some (w.heap.size + 1 + 1)), .map (some (w.heap.size + 1 + 2)), .map (some (w.heap.size + 1 + 3))] 106)).heap.size = w.heap.size + 1 + 5) := by show _ = _; simp
  have HAT := Lib.hid h
  clear h hl
  go_enter Tryz.func58, Tryz.ntmps58
  go_upto_region 2 with (fail)
  obtain ⟨M, hM⟩ : ∃ M, M = w.heap.size + 1 := ⟨_, rfl⟩
  have HMW : Hid (M = w.heap.size + 1) := hM
  rw [← hM] at HRB1 HSB1 HVM1 HB1 HZ1 ⊢
  rw [show M + 1 + 1 = M + 2 from rfl, show M + 2 + 1 = M + 3 from rfl, show M + 3 + 1 = M + 4 from rfl]
  clear hM
  generalize (((((w.alloc (.cells #[.map none, .map none, .map none, .map none] 106)).alloc (.map #[] 0)).alloc (.map #[] 0)).alloc (.map #[] 0)).alloc (.map #[] 0)).alloc (.cells #[.map (some M), .map (some (M + 1)), .map (some (M + 2)), .map (some (M + 3))] 106) = w1 at *
  have HCT := Lib.hid (counting_any A n c l w1 (HAT.out.keep HB1.out) HL.out)
  clear hmm
  go_wp2_with fail
  refine HCT.out.mono ?_
  rintro e wc ⟨C, mC, gC, rfl, hCM, hC, hCG, hbc⟩
  have HC2 := Lib.hid hC
  have HCG := Lib.hid hCG
  have HB2 := Lib.hid (HB1.out.trans (hbc.mono HB1.out.size))
  have HORD := Lib.hid (ordered_any A n c l wc (HAT.out.keep HB2.out) hn)
  have HBC := Lib.hid hbc
  clear HCT hC hCG hbc
  go_wp2_with fail
  refine HORD.out.mono ?_
  rintro e w3 ⟨A3, n3, c3, L, rfl, hOL, hat3, hrow3, hb3⟩
  have HOL := Lib.hid hOL
  have HAT3 := Lib.hid hat3
  have HN3 : Hid (n3 = L.length) := hat3.1
  have HLL : Hid (L.length = l.length) := hOL.1.length_eq
  have HB31 : Hid (Below w1.heap.size w1 w3) := HBC.out.trans (hb3.mono HBC.out.size)
  have HB3 := Lib.hid (HB1.out.trans (HB31.out.mono HB1.out.size))
  have HBM3 := Lib.hid (HC2.out.below hb3)
  have HCM : Hid (M + 4 ≤ C) := by show _ ≤ _; have := HZ1.out; omega
  have HROW : Hid (∀ g off, A3 = some ⟨g, off, none⟩ → M + 4 ≤ g) := fun g off e => by have := hrow3 g off e; have := HZ1.out; have := HBC.out.size; omega
  have HSB3 : Hid (SB w3 (M + 4) M) := (HB31.out.block _ HSB1.out.lt).trans HSB1.out
  have HRB3 : Hid (RB w3 w.heap.size (.map none) (.map none) (.map none) (.map none)) := (HB31.out.block _ (Array.getElem?_eq_some_iff.1 HRB1.out).1).trans HRB1.out
  have HMB : Hid (M + 4 ≤ w3.heap.size) := by show _ ≤ _; have := HSB3.out.lt; omega
  have HNS0 := Lib.hid (NS.start (w3 := w3) (M := M) (fun z j hj => (HVM1.out z j hj).below HB31.out))
  obtain ⟨S, hS⟩ : ∃ S, S = M + 4 := ⟨_, rfl⟩
  have HMS : Hid (M + 4 ≤ S) := by show _ ≤ _; omega
  rw [← hS] at HSB3 ⊢
  clear hOL hat3 hrow3 hb3 HORD HSB1 HRB1 HVM1 HC2 HB1 HB2 HB31 HZ1 HBC hCM hS
  go_wp2_with fail
  go_loopg [17] n3 (fun gk v wr => ∃ k : Nat, Hid (k + gk = n3) ∧ v = .int .i64 (k : Int) ∧ Hid (NS w3 M (2 * k) ((L.take k).filter (cntD l)) wr))
  case atStart => exact ⟨0, show 0 + n3 = n3 by omega, rfl, HNS0.out⟩
  case round =>
    obtain ⟨k, HKK, rfl, HNS⟩ := hrel
    clear HNS0
    have hkn : k ≤ n3 := by have := HKK.out; omega
    have hn20 : n3 < 20 := by have := HN3.out; have := HLL.out; have := HN.out; omega
    by_cases hlt : k < n3
    · have HGK := Lib.hid (show k + 1 + (gk - 1) = n3 ∧ 0 < gk by have := HKK.out; omega)
      obtain ⟨gA, off, rfl, hg, hc⟩ := (HNS.out.fr.deeds HAT3.out HROW.out).deed (by omega)
      have hkl : k < L.length := by have := HN3.out; omega
      obtain ⟨x, hx⟩ : ∃ x, L[k]? = some x := ⟨_, List.getElem?_eq_getElem hkl⟩
      obtain ⟨c0, c1, c2, c3', c4, c5, c6, c7, c8, c9, c10, c11⟩ := hc k x hx
      have HX := Lib.hid hx
      have HXM : Hid (x ∈ l) := HOL.out.1.mem_iff.1 (List.mem_of_getElem? hx)
      have hxs := site_bound HL.out HXM.out
      have HXN := Lib.hid (in64_no HL.out HXM.out)
      have HSM := Lib.hid (HL.out.small HXM.out).1
      have HIDS : Hid (x.id.size ≤ 1000000) := by show _ ≤ _; have := HSM.out.id; omega
      have HSZ1 : Hid (x.fld.size ≤ 1000000) := by show _ ≤ _; have := HSM.out.fld; omega
      have HSZ2 : Hid (x.val.size ≤ 1000000) := by show _ ≤ _; have := HSM.out.val; omega
      have HKEY1 := Lib.hid (keyS_mk x.id HIDS.out)
      have hal : Below wr.heap.size wr (wr.alloc (.cells #[.string x.site, .int .i64 x.no, .int .i64 x.at_, .int .i64 x.kind, .string x.id, .string x.fld, .string x.val, .int .i64 x.from_, .int .i64 x.to_, .string x.osite, .int .i64 x.ono, .string x.sum] 40)) := (Below.refl _ _).alloc (Nat.le_refl _) _
      have HX1 : Hid (DeedAt (wr.alloc (.cells #[.string x.site, .int .i64 x.no, .int .i64 x.at_, .int .i64 x.kind, .string x.id, .string x.fld, .string x.val, .int .i64 x.from_, .int .i64 x.to_, .string x.osite, .int .i64 x.ono, .string x.sum] 40)) wr.heap.size x) := deed_new wr x
      have HNS1 := Lib.hid (HNS.out.below hal)
      clear hc hkl hx hg HKK hal HNS
      go_upto_region 6 with (fail)
      obtain ⟨P, hP⟩ : ∃ P, P = wr.heap.size := ⟨_, rfl⟩
      rw [← hP] at HX1 ⊢
      generalize wr.alloc (.cells #[.string x.site, .int .i64 x.no, .int .i64 x.at_, .int .i64 x.kind, .string x.id, .string x.fld, .string x.val, .int .i64 x.from_, .int .i64 x.to_, .string x.osite, .int .i64 x.ono, .string x.sum] 40) = wa at *
      clear hP c0 c1 c2 c3' c4 c5 c6 c7 c8 c9 c10 c11
      obtain ⟨a0, a1, a2, a3, a4, a5, a6, a7, a8, a9, a10, a11⟩ := HX1.out.c
      have HSB1 := Lib.hid (HNS1.out.fr.sb HSB3.out HMS.out)
      obtain ⟨s0, s1, s2, s3⟩ := HSB1.out.c
      have HBM1 := Lib.hid (HNS1.out.fr.bmap HBM3.out HCM.out)
      have hlook := HBM1.out.look x.site x.no hxs HXN.out
      rw [HCG.out x HXM.out] at hlook
      cases hcn : cntD l x with
      | false =>
        rw [hcn] at hlook
        have HCS : Hid ((L.take (k + 1)).filter (cntD l) = (L.take k).filter (cntD l)) := by show _ = _; rw [List.take_add_one, HX.out, List.filter_append]; simp [hcn]
        clear hcn
        go_wp2_with fail
        go_roundg (gk - 1)
        case measure => exact Nat.sub_lt HGK.out.2 Nat.one_pos
        case rel => exact ⟨k + 1, HGK.out.1, by go_num, by rw [HCS.out]; exact HNS1.out.more (by omega)⟩
      | true =>
        rw [hcn] at hlook
        have HCS : Hid ((L.take (k + 1)).filter (cntD l) = (L.take k).filter (cntD l) ++ [x]) := by show _ = _; rw [List.take_add_one, HX.out, List.filter_append]; simp [hcn]
        clear hcn
        by_cases hk1 : x.kind = 1
        · have HK : Hid (x.kind = bK false) := hk1
          have HKEY2 := Lib.hid (keyS_mk x.fld HSZ1.out)
          rw [hk1] at a3
          obtain ⟨g, hne⟩ := HNS1.out.ne
          have HNE := Lib.hid hne
          obtain ⟨mo, hmo, hvo⟩ := HNE.out.out false
          have hlk : (Instr.lookup 101 (.map (some M)) (.string x.id) false).run Tryz.prog wa = .ok (.map (g false x.id)) wa := VMap.look hvo 101 _ Tryz.underlying101 (by kernel_rfl) x.id HIDS.out
          have HMO : Hid (mo ≤ 2 * k) := hmo
          obtain ⟨D, hD⟩ := hvo.ex
          have HD := Lib.hid hD
          clear hne hvo hD hmo
          cases hgx : g false x.id with
          | none =>
            rw [hgx] at hlk
            have HGX := Lib.hid hgx
            clear hgx
            have hmm := @run_makeMap Tryz.prog
            have hnil : (binOp .eql 111 (.map none) (.map none)).run Tryz.prog wa = .ok (.bool true) wa := by kernel_rfl
            have hown4 := HD.out.1.alloc (.map #[] 0)
            go_upto_region 11 with (at_mapUpdate; refine wpList_mapUpdate_own _ rfl _ _ _ 101 rfl 9 111 keyS Tryz.underlying101 _ M mo D rfl hown4 (by have := HMO.out; simp only [maxLen]; omega) _ _ (.string x.id.data.toList) rfl rfl HKEY1.out (.held (.map (some wa.heap.size))) [] rfl ?_; intro w5 hown5 hgrow5)
            obtain ⟨hns5, hne5⟩ := NS.grow false x.id HNS1.out HNE.out HMB.out HGX.out HMO.out hown4 HD.out.2.1 HD.out.2.2 hown5 hgrow5
            have HXb : Hid (DeedAt w5 P x) := deed_maps (HX1.out.keep ((Below.refl _ _).alloc (Nat.le_refl _) (.map #[] 0))) hgrow5 (by obtain ⟨es, cl, hb, _⟩ := hown4; exact ⟨es, cl, hb⟩)
            have HNSb := Lib.hid hns5
            obtain ⟨Nb, hNN⟩ : ∃ N, N = wa.heap.size := ⟨_, rfl⟩
            rw [← hNN] at hne5
            obtain ⟨gb, hgb⟩ : ∃ g', g' = setIn g false x.id Nb := ⟨_, rfl⟩
            have HGN : Hid (gb false x.id = some Nb) := by show _ = _; rw [hgb]; exact if_pos ⟨rfl, rfl⟩
            rw [← hgb] at hne5
            have HNEb := Lib.hid hne5
            have HSBb := Lib.hid (HNSb.out.fr.sb HSB3.out HMS.out)
            clear hnil hns5 hne5 hown5 hgrow5 hown4 hlk hmm hNN hgb a0 a1 a2 a3 a4 a5 a6 a7 a8 a9 a10 a11 s0 s1 s2 s3
            obtain ⟨mo2, hmo2, hvo2⟩ := HNEb.out.out false
            have hlk2 : (Instr.lookup 101 (.map (some M)) (.string x.id) false).run Tryz.prog w5 = .ok (.map (gb false x.id)) w5 := VMap.look hvo2 101 _ Tryz.underlying101 (by kernel_rfl) x.id HIDS.out
            rw [HGN.out] at hlk2
            clear hvo2
            obtain ⟨hNb, mi, hmi, hvi⟩ := HNEb.out.inn false x.id Nb HGN.out
            obtain ⟨Di, hDi⟩ := hvi.ex
            have HDI := Lib.hid hDi
            have HMI : Hid (mi ≤ 2 * k + 1) := hmi
            clear hDi hvi
            obtain ⟨a0, a1, a2, a3, a4, a5, a6, a7, a8, a9, a10, a11⟩ := HXb.out.c
            rw [hk1] at a3
            obtain ⟨s0, s1, s2, s3⟩ := HSBb.out.c
            go_wp2_with (at_mapUpdate; refine wpList_mapUpdate_own _ rfl _ _ _ 111 rfl 9 40 keyS Tryz.underlying111 _ Nb mi Di rfl HDI.out.1 (by have := HMI.out; simp only [maxLen]; omega) _ _ (.string x.fld.data.toList) rfl rfl HKEY2.out (.held (.agg #[.string x.site, .int .i64 x.no, .int .i64 x.at_, .int .i64 1, .string x.id, .string x.fld, .string x.val, .int .i64 x.from_, .int .i64 x.to_, .string x.osite, .int .i64 x.ono, .string x.sum])) [] rfl ?_; intro w6 hown6 hgrow6)
            have HVV : Hid (bV false x = .agg #[.string x.site, .int .i64 x.no, .int .i64 x.at_, .int .i64 1, .string x.id, .string x.fld, .string x.val, .int .i64 x.from_, .int .i64 x.to_, .string x.osite, .int .i64 x.ono, .string x.sum]) := by show _ = _; simp [bV, Deed.v, hk1]
            have HNS6 := Lib.hid (NS.put false x HNSb.out HNEb.out HMB.out HGN.out HK.out HMI.out HDI.out.1 HDI.out.2.1 HDI.out.2.2 (by rw [HVV.out]; exact hown6) hgrow6)
            clear hown6 hgrow6
            go_roundg (gk - 1)
            case measure => exact Nat.sub_lt HGK.out.2 Nat.one_pos
            case rel => exact ⟨k + 1, HGK.out.1, by go_num, by rw [HCS.out]; exact HNS6.out.more (by omega)⟩
          | some Nb =>
            rw [hgx] at hlk
            have HGN := Lib.hid hgx
            clear hgx
            have hnil : (binOp .eql 111 (.map (some Nb)) (.map none)).run Tryz.prog wa = .ok (.bool false) wa := by kernel_rfl
            go_upto_region 11 with (fail)
            clear hnil
            obtain ⟨gb, hgb⟩ : ∃ g', g' = g := ⟨_, rfl⟩
            rw [← hgb] at HNE HGN
            have HNEb := Lib.hid HNE.out
            have HXb := Lib.hid HX1.out
            have HSBb := Lib.hid HSB1.out
            have HNSb := Lib.hid HNS1.out
            clear hlk hgb a0 a1 a2 a3 a4 a5 a6 a7 a8 a9 a10 a11 s0 s1 s2 s3
            obtain ⟨mo2, hmo2, hvo2⟩ := HNEb.out.out false
            have hlk2 : (Instr.lookup 101 (.map (some M)) (.string x.id) false).run Tryz.prog wa = .ok (.map (gb false x.id)) wa := VMap.look hvo2 101 _ Tryz.underlying101 (by kernel_rfl) x.id HIDS.out
            rw [HGN.out] at hlk2
            clear hvo2
            obtain ⟨hNb, mi, hmi, hvi⟩ := HNEb.out.inn false x.id Nb HGN.out
            obtain ⟨Di, hDi⟩ := hvi.ex
            have HDI := Lib.hid hDi
            have HMI : Hid (mi ≤ 2 * k) := hmi
            clear hDi hvi
            obtain ⟨a0, a1, a2, a3, a4, a5, a6, a7, a8, a9, a10, a11⟩ := HXb.out.c
            rw [hk1] at a3
            obtain ⟨s0, s1, s2, s3⟩ := HSBb.out.c
            go_wp2_with (at_mapUpdate; refine wpList_mapUpdate_own _ rfl _ _ _ 111 rfl 9 40 keyS Tryz.underlying111 _ Nb mi Di rfl HDI.out.1 (by have := HMI.out; simp only [maxLen]; omega) _ _ (.string x.fld.data.toList) rfl rfl HKEY2.out (.held (.agg #[.string x.site, .int .i64 x.no, .int .i64 x.at_, .int .i64 1, .string x.id, .string x.fld, .string x.val, .int .i64 x.from_, .int .i64 x.to_, .string x.osite, .int .i64 x.ono, .string x.sum])) [] rfl ?_; intro w6 hown6 hgrow6)
            have HVV : Hid (bV false x = .agg #[.string x.site, .int .i64 x.no, .int .i64 x.at_, .int .i64 1, .string x.id, .string x.fld, .string x.val, .int .i64 x.from_, .int .i64 x.to_, .string x.osite, .int .i64 x.ono, .string x.sum]) := by show _ = _; simp [bV, Deed.v, hk1]
            have HNS6 := Lib.hid (NS.put false x HNSb.out HNEb.out HMB.out HGN.out HK.out HMI.out HDI.out.1 HDI.out.2.1 HDI.out.2.2 (by rw [HVV.out]; exact hown6) hgrow6)
            clear hown6 hgrow6
            go_roundg (gk - 1)
            case measure => exact Nat.sub_lt HGK.out.2 Nat.one_pos
            case rel => exact ⟨k + 1, HGK.out.1, by go_num, by rw [HCS.out]; exact HNS6.out.more (by omega)⟩
        · have hn1 : (x.kind == 1) = false := by simpa using hk1
          by_cases hk2 : x.kind = 2
          · have HK : Hid (x.kind = bK true) := hk2
            have HKEY2 := Lib.hid (keyS_mk x.val HSZ2.out)
            rw [hk2] at a3
            obtain ⟨g, hne⟩ := HNS1.out.ne
            have HNE := Lib.hid hne
            obtain ⟨mo, hmo, hvo⟩ := HNE.out.out true
            have hlk : (Instr.lookup 102 (.map (some (M + 1))) (.string x.id) false).run Tryz.prog wa = .ok (.map (g true x.id)) wa := VMap.look hvo 102 _ Tryz.underlying102 (by kernel_rfl) x.id HIDS.out
            have HMO : Hid (mo ≤ 2 * k) := hmo
            obtain ⟨D, hD⟩ := hvo.ex
            have HD := Lib.hid hD
            clear hne hvo hD hmo
            cases hgx : g true x.id with
            | none =>
              rw [hgx] at hlk
              have HGX := Lib.hid hgx
              clear hgx
              have hmm := @run_makeMap Tryz.prog
              have hnil : (binOp .eql 124 (.map none) (.map none)).run Tryz.prog wa = .ok (.bool true) wa := by kernel_rfl
              have hown4 := HD.out.1.alloc (.map #[] 0)
              go_upto_region 15 with (at_mapUpdate; refine wpList_mapUpdate_own _ rfl _ _ _ 102 rfl 9 124 keyS Tryz.underlying102 _ (M + 1) mo D rfl hown4 (by have := HMO.out; simp only [maxLen]; omega) _ _ (.string x.id.data.toList) rfl rfl HKEY1.out (.held (.map (some wa.heap.size))) [] rfl ?_; intro w5 hown5 hgrow5)
              obtain ⟨hns5, hne5⟩ := NS.grow true x.id HNS1.out HNE.out HMB.out HGX.out HMO.out hown4 HD.out.2.1 HD.out.2.2 hown5 hgrow5
              have HXb : Hid (DeedAt w5 P x) := deed_maps (HX1.out.keep ((Below.refl _ _).alloc (Nat.le_refl _) (.map #[] 0))) hgrow5 (by obtain ⟨es, cl, hb, _⟩ := hown4; exact ⟨es, cl, hb⟩)
              have HNSb := Lib.hid hns5
              obtain ⟨Nb, hNN⟩ : ∃ N, N = wa.heap.size := ⟨_, rfl⟩
              rw [← hNN] at hne5
              obtain ⟨gb, hgb⟩ : ∃ g', g' = setIn g true x.id Nb := ⟨_, rfl⟩
              have HGN : Hid (gb true x.id = some Nb) := by show _ = _; rw [hgb]; exact if_pos ⟨rfl, rfl⟩
              rw [← hgb] at hne5
              have HNEb := Lib.hid hne5
              have HSBb := Lib.hid (HNSb.out.fr.sb HSB3.out HMS.out)
              clear hnil hns5 hne5 hown5 hgrow5 hown4 hlk hmm hNN hgb a0 a1 a2 a3 a4 a5 a6 a7 a8 a9 a10 a11 s0 s1 s2 s3
              obtain ⟨mo2, hmo2, hvo2⟩ := HNEb.out.out true
              have hlk2 : (Instr.lookup 102 (.map (some (M + 1))) (.string x.id) false).run Tryz.prog w5 = .ok (.map (gb true x.id)) w5 := VMap.look hvo2 102 _ Tryz.underlying102 (by kernel_rfl) x.id HIDS.out
              rw [HGN.out] at hlk2
              clear hvo2
              obtain ⟨hNb, mi, hmi, hvi⟩ := HNEb.out.inn true x.id Nb HGN.out
              obtain ⟨Di, hDi⟩ := hvi.ex
              have HDI := Lib.hid hDi
              have HMI : Hid (mi ≤ 2 * k + 1) := hmi
              clear hDi hvi
              obtain ⟨a0, a1, a2, a3, a4, a5, a6, a7, a8, a9, a10, a11⟩ := HXb.out.c
              rw [hk2] at a3
              obtain ⟨s0, s1, s2, s3⟩ := HSBb.out.c
              go_wp2_with (at_mapUpdate; refine wpList_mapUpdate_own _ rfl _ _ _ 124 rfl 9 4 keyS Tryz.underlying124 _ Nb mi Di rfl HDI.out.1 (by have := HMI.out; simp only [maxLen]; omega) _ _ (.string x.val.data.toList) rfl rfl HKEY2.out (.held (.bool true)) [] rfl ?_; intro w6 hown6 hgrow6)
              have HVV : Hid (bV true x = .bool true) := by show _ = _; simp [bV]
              have HNS6 := Lib.hid (NS.put true x HNSb.out HNEb.out HMB.out HGN.out HK.out HMI.out HDI.out.1 HDI.out.2.1 HDI.out.2.2 (by rw [HVV.out]; exact hown6) hgrow6)
              clear hown6 hgrow6
              go_roundg (gk - 1)
              case measure => exact Nat.sub_lt HGK.out.2 Nat.one_pos
              case rel => exact ⟨k + 1, HGK.out.1, by go_num, by rw [HCS.out]; exact HNS6.out.more (by omega)⟩
            | some Nb =>
              rw [hgx] at hlk
              have HGN := Lib.hid hgx
              clear hgx
              have hnil : (binOp .eql 124 (.map (some Nb)) (.map none)).run Tryz.prog wa = .ok (.bool false) wa := by kernel_rfl
              go_upto_region 15 with (fail)
              clear hnil
              obtain ⟨gb, hgb⟩ : ∃ g', g' = g := ⟨_, rfl⟩
              rw [← hgb] at HNE HGN
              have HNEb := Lib.hid HNE.out
              have HXb := Lib.hid HX1.out
              have HSBb := Lib.hid HSB1.out
              have HNSb := Lib.hid HNS1.out
              clear hlk hgb a0 a1 a2 a3 a4 a5 a6 a7 a8 a9 a10 a11 s0 s1 s2 s3
              obtain ⟨mo2, hmo2, hvo2⟩ := HNEb.out.out true
              have hlk2 : (Instr.lookup 102 (.map (some (M + 1))) (.string x.id) false).run Tryz.prog wa = .ok (.map (gb true x.id)) wa := VMap.look hvo2 102 _ Tryz.underlying102 (by kernel_rfl) x.id HIDS.out
              rw [HGN.out] at hlk2
              clear hvo2
              obtain ⟨hNb, mi, hmi, hvi⟩ := HNEb.out.inn true x.id Nb HGN.out
              obtain ⟨Di, hDi⟩ := hvi.ex
              have HDI := Lib.hid hDi
              have HMI : Hid (mi ≤ 2 * k) := hmi
              clear hDi hvi
              obtain ⟨a0, a1, a2, a3, a4, a5, a6, a7, a8, a9, a10, a11⟩ := HXb.out.c
              rw [hk2] at a3
              obtain ⟨s0, s1, s2, s3⟩ := HSBb.out.c
              go_wp2_with (at_mapUpdate; refine wpList_mapUpdate_own _ rfl _ _ _ 124 rfl 9 4 keyS Tryz.underlying124 _ Nb mi Di rfl HDI.out.1 (by have := HMI.out; simp only [maxLen]; omega) _ _ (.string x.val.data.toList) rfl rfl HKEY2.out (.held (.bool true)) [] rfl ?_; intro w6 hown6 hgrow6)
              have HVV : Hid (bV true x = .bool true) := by show _ = _; simp [bV]
              have HNS6 := Lib.hid (NS.put true x HNSb.out HNEb.out HMB.out HGN.out HK.out HMI.out HDI.out.1 HDI.out.2.1 HDI.out.2.2 (by rw [HVV.out]; exact hown6) hgrow6)
              clear hown6 hgrow6
              go_roundg (gk - 1)
              case measure => exact Nat.sub_lt HGK.out.2 Nat.one_pos
              case rel => exact ⟨k + 1, HGK.out.1, by go_num, by rw [HCS.out]; exact HNS6.out.more (by omega)⟩
          · have hn2 : (x.kind == 2) = false := by simpa using hk2
            by_cases hk4 : x.kind = 4
            · have HK : Hid (x.kind = 4) := hk4
              rw [hk4] at a3
              go_upto_region 17 with (fail)
              have HSOF : Hid (∀ w', SB w' S M → DeedAt w' P x → w'.cell? ⟨S, 2, none⟩ = some (.map (some (M + 2))) ∧ w'.cell? ⟨P, 4, none⟩ = some (.string x.id) ∧ w'.cell? ⟨P, 7, none⟩ = some (.int .i64 x.from_) ∧ w'.cell? ⟨P, 8, none⟩ = some (.int .i64 x.to_)) := fun w' h1 h2 => ⟨h1.c.2.2.1, h2.c.2.2.2.2.1, h2.c.2.2.2.2.2.2.2.1, h2.c.2.2.2.2.2.2.2.2.1⟩
              refine wp_region_held_drew (S := fun w' => w'.cell? ⟨S, 2, none⟩ = some (.map (some (M + 2))) ∧ w'.cell? ⟨P, 4, none⟩ = some (.string x.id) ∧ w'.cell? ⟨P, 7, none⟩ = some (.int .i64 x.from_) ∧ w'.cell? ⟨P, 8, none⟩ = some (.int .i64 x.to_)) (by kernel_rfl) (HSOF.out _ HSB1.out HX1.out) (fun hHeld => ?_)
              have HNS2 : Hid (NS w3 M (2 * k) ((L.take k).filter (cntD l)) wa.drew) := HNS1.out.below ((Below.refl _ _).drew)
              have HSB2 : Hid (SB wa.drew S M) := HSB1.out
              have HX2 : Hid (DeedAt wa.drew P x) := HX1.out
              clear HNS1 HSB1 HX1 HBM1 hlook a0 a1 a2 a3 a4 a5 a6 a7 a8 a9 a10 a11 s0 s1 s2 s3
              generalize wa.drew = wd at *
              obtain ⟨m, hd, hmk, hro⟩ := HNS2.out.cv
              have HMK : Hid (m ≤ 2 * k) := hmk
              have HRO := Lib.hid hro
              obtain ⟨d, hvm⟩ := hro.map
              have hlk := VMap.look hvm 103 _ Tryz.underlying103 (by kernel_rfl) x.id HIDS.out
              have hlkA := fun (o : Obj) => VMap.look (hvm.below ((Below.refl _ _).alloc (Nat.le_refl _) o)) 103 _ Tryz.underlying103 (by kernel_rfl) x.id HIDS.out
              obtain ⟨D, hD⟩ := hvm.ex
              have HD := Lib.hid hD
              clear hD hvm hro hmk
              refine wpAnyH_take (i := 0) (oi := ⟨some 71, _, _, _, _, _⟩) (v := .pointer (some ⟨S, 2, none⟩)) rfl (by kernel_rfl) (by kernel_rfl) (by kernel_rfl) (fun _ _ _ h => h) (Or.inl ⟨by rfl, ?_⟩) hHeld ?_
              · intro w hSw
                (try dsimp only at hSw)
                go_simp
              simp only [Act.put, List.setIfInBounds_toArray, List.set_cons_zero, List.set_cons_succ]
              refine wpAnyH_take (i := 1) (oi := ⟨some 72, _, _, _, _, _⟩) (v := .map (some (M + 2))) rfl (by kernel_rfl) (by kernel_rfl) (by kernel_rfl) (fun _ _ _ h => h) (Or.inl ⟨by rfl, ?_⟩) hHeld ?_
              · intro w hSw
                (try dsimp only at hSw)
                go_simp
              simp only [Act.put, List.setIfInBounds_toArray, List.set_cons_zero, List.set_cons_succ]
              refine wpAnyH_take (i := 2) (oi := ⟨some 73, _, _, _, _, _⟩) (v := .pointer (some ⟨P, 4, none⟩)) rfl (by kernel_rfl) (by kernel_rfl) (by kernel_rfl) (fun _ _ _ h => h) (Or.inl ⟨by rfl, ?_⟩) hHeld ?_
              · intro w hSw
                (try dsimp only at hSw)
                go_simp
              simp only [Act.put, List.setIfInBounds_toArray, List.set_cons_zero, List.set_cons_succ]
              refine wpAnyH_take (i := 3) (oi := ⟨some 74, _, _, _, _, _⟩) (v := .string x.id) rfl (by kernel_rfl) (by kernel_rfl) (by kernel_rfl) (fun _ _ _ h => h) (Or.inl ⟨by rfl, ?_⟩) hHeld ?_
              · intro w hSw
                (try dsimp only at hSw)
                go_simp
              simp only [Act.put, List.setIfInBounds_toArray, List.set_cons_zero, List.set_cons_succ]
              refine wpAnyH_take (i := 4) (oi := ⟨some 75, _, _, _, _, _⟩) (v := .pointer (some ⟨S, 2, none⟩)) rfl (by kernel_rfl) (by kernel_rfl) (by kernel_rfl) (fun _ _ _ h => h) (Or.inl ⟨by rfl, ?_⟩) hHeld ?_
              · intro w hSw
                (try dsimp only at hSw)
                go_simp
              simp only [Act.put, List.setIfInBounds_toArray, List.set_cons_zero, List.set_cons_succ]
              refine wpAnyH_take (i := 5) (oi := ⟨some 76, _, _, _, _, _⟩) (v := .map (some (M + 2))) rfl (by kernel_rfl) (by kernel_rfl) (by kernel_rfl) (fun _ _ _ h => h) (Or.inl ⟨by rfl, ?_⟩) hHeld ?_
              · intro w hSw
                (try dsimp only at hSw)
                go_simp
              simp only [Act.put, List.setIfInBounds_toArray, List.set_cons_zero, List.set_cons_succ]
              refine wpAnyH_take (i := 6) (oi := ⟨some 77, _, _, _, _, _⟩) (v := .pointer (some ⟨P, 4, none⟩)) rfl (by kernel_rfl) (by kernel_rfl) (by kernel_rfl) (fun _ _ _ h => h) (Or.inl ⟨by rfl, ?_⟩) hHeld ?_
              · intro w hSw
                (try dsimp only at hSw)
                go_simp
              simp only [Act.put, List.setIfInBounds_toArray, List.set_cons_zero, List.set_cons_succ]
              refine wpAnyH_take (i := 7) (oi := ⟨some 78, _, _, _, _, _⟩) (v := .string x.id) rfl (by kernel_rfl) (by kernel_rfl) (by kernel_rfl) (fun _ _ _ h => h) (Or.inl ⟨by rfl, ?_⟩) hHeld ?_
              · intro w hSw
                (try dsimp only at hSw)
                go_simp
              simp only [Act.put, List.setIfInBounds_toArray, List.set_cons_zero, List.set_cons_succ]
              refine wpAnyH_take (i := 9) (oi := ⟨some 80, _, _, _, _, _⟩) (v := .pointer (some ⟨P, 7, none⟩)) rfl (by kernel_rfl) (by kernel_rfl) (by kernel_rfl) (fun _ _ _ h => h) (Or.inl ⟨by rfl, ?_⟩) hHeld ?_
              · intro w hSw
                (try dsimp only at hSw)
                go_simp
              simp only [Act.put, List.setIfInBounds_toArray, List.set_cons_zero, List.set_cons_succ]
              refine wpAnyH_take (i := 10) (oi := ⟨some 81, _, _, _, _, _⟩) (v := .agg #[.int .i64 x.from_, .int .i64 x.to_]) rfl (by kernel_rfl) (by kernel_rfl) (by kernel_rfl) (fun _ _ _ h => h) (Or.inl ⟨by rfl, ?_⟩) hHeld ?_
              · intro w hSw
                (try dsimp only at hSw)
                go_simp
              simp only [Act.put, List.setIfInBounds_toArray, List.set_cons_zero, List.set_cons_succ]
              have HONE : Hid (ElemsAt SpanE (wd.alloc (.cells #[.int .i64 x.from_, .int .i64 x.to_] 38)) (some ⟨wd.heap.size, 0, none⟩) 1 1 [(x.from_, x.to_)]) := one_elem (E := SpanE) wd (x.from_, x.to_)
              have HSBA : Hid (SB (wd.alloc (.cells #[.int .i64 x.from_, .int .i64 x.to_] 38)) S M) := (((Below.refl wd.heap.size wd).alloc (Nat.le_refl _) (.cells #[.int .i64 x.from_, .int .i64 x.to_] 38)).block S HSB2.out.lt).trans HSB2.out
              have HXA : Hid (DeedAt (wd.alloc (.cells #[.int .i64 x.from_, .int .i64 x.to_] 38)) P x) := HX2.out.keep ((Below.refl _ _).alloc (Nat.le_refl _) _)
              have HOWA : Hid (Owns SpanE (wd.alloc (.cells #[.int .i64 x.from_, .int .i64 x.to_] 38)) w3.heap.size (hd x.id) (covC ((L.take k).filter (cntD l)) x.id)) := (HRO.out.row x.id).below_ ((Below.refl _ _).alloc (Nat.le_refl _) _)
              have HLEN : Hid ((covC ((L.take k).filter (cntD l)) x.id).length ≤ 100) := by
                show _ ≤ _
                have h1 := covC_len ((L.take k).filter (cntD l)) x.id
                have h2 := List.length_filter_le (cntD l) (L.take k)
                have h3 := List.length_take_le k L
                omega
              have hzd := HNS2.out.fr.size
              refine wpAnyH_ready (rs := [8, 11]) (by kernel_rfl) (by simp) ?_
              refine AllReadyH.cons (o := ⟨some 79, _, _, _, _, _⟩) rfl (fun K hK => ?_) (AllReadyH.cons (o := ⟨some 82, _, _, _, _, _⟩) rfl (fun K hK => ?_) AllReadyH.nil)
              · rw [if_pos (by rfl)]
                go_wp2_with fail
                refine hK.out _ _ (HSOF.out _ HSB2.out HX2.out) (fun hHeld => ?_)
                clear hK
                (try simp only [Act.put, List.setIfInBounds_toArray, List.set_cons_zero, List.set_cons_succ])
                refine wpAnyH_ready (rs := [11]) (by kernel_rfl) (by simp) ?_
                refine AllReadyH.cons (o := ⟨some 82, _, _, _, _, _⟩) rfl (fun K hK => ?_) AllReadyH.nil
                rw [if_pos (by rfl)]
                go_wp2_with fail
                refine hK.out _ _ (HSOF.out _ HSBA.out HXA.out) (fun hHeld => ?_)
                clear hK
                (try simp only [Act.put, List.setIfInBounds_toArray, List.set_cons_zero, List.set_cons_succ])
                refine wpAnyH_ready (rs := [12]) (by kernel_rfl) (by simp) ?_
                refine AllReadyH.cons (o := ⟨some 83, _, _, _, _, _⟩) rfl (fun K hK => ?_) AllReadyH.nil
                refine step_elems spanE_ok (by rfl) _ _ (by rfl) w3.heap.size (hd x.id) (covC ((L.take k).filter (cntD l)) x.id) (by rfl) HOWA.out ⟨wd.heap.size, 0, none⟩ 1 1 [(x.from_, x.to_)] (by rfl) HONE.out (by omega) (by have := HLEN.out; simp only [List.length_singleton]; omega) (by simp; omega) ?_
                intro v5 w5 hown5 hgrow5 hv5
                have HSB5 : Hid (SB w5 S M) := (hgrow5.block S HSBA.out.lt (fun e => by have h1 := (HOWA.out.lt S e.symm).1; have h2 := HSB3.out.lt; omega)).trans HSBA.out
                have HX5 : Hid (DeedAt w5 P x) := (hgrow5.block P HXA.out.lt (fun e => by obtain ⟨c, fr, hc⟩ := owns_cells HOWA.out e.symm; have hb := HXA.out; unfold DeedAt at hb; rw [hb] at hc; simp only [Option.some.injEq, Obj.cells.injEq] at hc; exact absurd hc.2.1 (by decide))).trans HXA.out
                have hm5 : w5.ownsMap Tryz.prog 9 heldE (M + 2) m D := (HD.out.1.alloc (.cells #[.int .i64 x.from_, .int .i64 x.to_] 38)).kept hgrow5 (fun e => by
                  have h1 := HD.out.1.alloc (.cells #[.int .i64 x.from_, .int .i64 x.to_] 38)
                  obtain ⟨es, cl, hb, _⟩ := h1
                  obtain ⟨c, fr, hc⟩ := owns_cells HOWA.out e.symm
                  rw [hb] at hc; cases hc)
                clear hHeld
                refine hK.out _ _ (HSOF.out _ HSB5.out HX5.out) (fun hHeld => ?_)
                clear hK
                (try simp only [Act.put, List.setIfInBounds_toArray, List.set_cons_zero, List.set_cons_succ])
                refine wpAnyH_ready (rs := [13]) (by kernel_rfl) (by simp) ?_
                refine AllReadyH.cons (o := ⟨none, _, _, _, _, _⟩) rfl (fun K hK => ?_) AllReadyH.nil
                refine step_mapUpdate_own _ (by rfl) _ _ _ 103 (by rfl) 9 53 keyS Tryz.underlying103 heldE (M + 2) m D (by rfl) hm5 (by have := HMK.out; simp only [maxLen]; omega) (.string x.id) v5 (.string x.id.data.toList) (by rfl) (by rfl) HKEY1.out (.held v5) [] rfl ?_
                intro w6 hown6 hgrow6
                have HNS6 := Lib.hid (NS.cover x HNS2.out HRO.out HMB.out HK.out HMK.out HD.out.1 HD.out.2.1 HD.out.2.2 hown5 hgrow5 hv5 hown6 hgrow6)
                have HSB6 := Lib.hid (HNS6.out.fr.sb HSB3.out HMS.out)
                have HX6 : Hid (DeedAt w6 P x) := deed_maps HX5.out hgrow6 (by obtain ⟨es, cl, hb, _⟩ := hm5; exact ⟨es, cl, hb⟩)
                clear hown5 hgrow5 hv5 hown6 hgrow6 hm5 hHeld
                refine hK.out _ _ (HSOF.out _ HSB6.out HX6.out) (fun hHeld => ?_)
                clear hK hHeld
                refine wpAnyH_done (by kernel_rfl) ?_ _
                go_wp2_with fail
                go_roundg (gk - 1)
                case measure => exact Nat.sub_lt HGK.out.2 Nat.one_pos
                case rel => exact ⟨k + 1, HGK.out.1, by go_num, by rw [HCS.out]; exact HNS6.out.more (by omega)⟩
              · rw [if_pos (by rfl)]
                go_wp2_with fail
                refine hK.out _ _ (HSOF.out _ HSBA.out HXA.out) (fun hHeld => ?_)
                clear hK
                (try simp only [Act.put, List.setIfInBounds_toArray, List.set_cons_zero, List.set_cons_succ])
                refine wpAnyH_ready (rs := [8]) (by kernel_rfl) (by simp) ?_
                refine AllReadyH.cons (o := ⟨some 79, _, _, _, _, _⟩) rfl (fun K hK => ?_) AllReadyH.nil
                rw [if_pos (by rfl)]
                go_wp2_with fail
                refine hK.out _ _ (HSOF.out _ HSBA.out HXA.out) (fun hHeld => ?_)
                clear hK
                (try simp only [Act.put, List.setIfInBounds_toArray, List.set_cons_zero, List.set_cons_succ])
                refine wpAnyH_ready (rs := [12]) (by kernel_rfl) (by simp) ?_
                refine AllReadyH.cons (o := ⟨some 83, _, _, _, _, _⟩) rfl (fun K hK => ?_) AllReadyH.nil
                refine step_elems spanE_ok (by rfl) _ _ (by rfl) w3.heap.size (hd x.id) (covC ((L.take k).filter (cntD l)) x.id) (by rfl) HOWA.out ⟨wd.heap.size, 0, none⟩ 1 1 [(x.from_, x.to_)] (by rfl) HONE.out (by omega) (by have := HLEN.out; simp only [List.length_singleton]; omega) (by simp; omega) ?_
                intro v5 w5 hown5 hgrow5 hv5
                have HSB5 : Hid (SB w5 S M) := (hgrow5.block S HSBA.out.lt (fun e => by have h1 := (HOWA.out.lt S e.symm).1; have h2 := HSB3.out.lt; omega)).trans HSBA.out
                have HX5 : Hid (DeedAt w5 P x) := (hgrow5.block P HXA.out.lt (fun e => by obtain ⟨c, fr, hc⟩ := owns_cells HOWA.out e.symm; have hb := HXA.out; unfold DeedAt at hb; rw [hb] at hc; simp only [Option.some.injEq, Obj.cells.injEq] at hc; exact absurd hc.2.1 (by decide))).trans HXA.out
                have hm5 : w5.ownsMap Tryz.prog 9 heldE (M + 2) m D := (HD.out.1.alloc (.cells #[.int .i64 x.from_, .int .i64 x.to_] 38)).kept hgrow5 (fun e => by
                  have h1 := HD.out.1.alloc (.cells #[.int .i64 x.from_, .int .i64 x.to_] 38)
                  obtain ⟨es, cl, hb, _⟩ := h1
                  obtain ⟨c, fr, hc⟩ := owns_cells HOWA.out e.symm
                  rw [hb] at hc; cases hc)
                clear hHeld
                refine hK.out _ _ (HSOF.out _ HSB5.out HX5.out) (fun hHeld => ?_)
                clear hK
                (try simp only [Act.put, List.setIfInBounds_toArray, List.set_cons_zero, List.set_cons_succ])
                refine wpAnyH_ready (rs := [13]) (by kernel_rfl) (by simp) ?_
                refine AllReadyH.cons (o := ⟨none, _, _, _, _, _⟩) rfl (fun K hK => ?_) AllReadyH.nil
                refine step_mapUpdate_own _ (by rfl) _ _ _ 103 (by rfl) 9 53 keyS Tryz.underlying103 heldE (M + 2) m D (by rfl) hm5 (by have := HMK.out; simp only [maxLen]; omega) (.string x.id) v5 (.string x.id.data.toList) (by rfl) (by rfl) HKEY1.out (.held v5) [] rfl ?_
                intro w6 hown6 hgrow6
                have HNS6 := Lib.hid (NS.cover x HNS2.out HRO.out HMB.out HK.out HMK.out HD.out.1 HD.out.2.1 HD.out.2.2 hown5 hgrow5 hv5 hown6 hgrow6)
                have HSB6 := Lib.hid (HNS6.out.fr.sb HSB3.out HMS.out)
                have HX6 : Hid (DeedAt w6 P x) := deed_maps HX5.out hgrow6 (by obtain ⟨es, cl, hb, _⟩ := hm5; exact ⟨es, cl, hb⟩)
                clear hown5 hgrow5 hv5 hown6 hgrow6 hm5 hHeld
                refine hK.out _ _ (HSOF.out _ HSB6.out HX6.out) (fun hHeld => ?_)
                clear hK hHeld
                refine wpAnyH_done (by kernel_rfl) ?_ _
                go_wp2_with fail
                go_roundg (gk - 1)
                case measure => exact Nat.sub_lt HGK.out.2 Nat.one_pos
                case rel => exact ⟨k + 1, HGK.out.1, by go_num, by rw [HCS.out]; exact HNS6.out.more (by omega)⟩
            · have hn4 : (x.kind == 4) = false := by simpa using hk4
              by_cases hk5 : x.kind = 5
              · have HK : Hid (x.kind = 5) := hk5
                rw [hk5] at a3
                go_upto_region 19 with (fail)
                have HSOF : Hid (∀ w', SB w' S M → DeedAt w' P x → w'.cell? ⟨S, 3, none⟩ = some (.map (some (M + 3))) ∧ w'.cell? ⟨P, 4, none⟩ = some (.string x.id) ∧ w'.cell? ⟨P, 6, none⟩ = some (.string x.val)) := fun w' h1 h2 => ⟨h1.c.2.2.2, h2.c.2.2.2.2.1, h2.c.2.2.2.2.2.2.1⟩
                refine wp_region_held_drew (S := fun w' => w'.cell? ⟨S, 3, none⟩ = some (.map (some (M + 3))) ∧ w'.cell? ⟨P, 4, none⟩ = some (.string x.id) ∧ w'.cell? ⟨P, 6, none⟩ = some (.string x.val)) (by kernel_rfl) (HSOF.out _ HSB1.out HX1.out) (fun hHeld => ?_)
                have HNS2 : Hid (NS w3 M (2 * k) ((L.take k).filter (cntD l)) wa.drew) := HNS1.out.below ((Below.refl _ _).drew)
                have HSB2 : Hid (SB wa.drew S M) := HSB1.out
                have HX2 : Hid (DeedAt wa.drew P x) := HX1.out
                clear HNS1 HSB1 HX1 HBM1 hlook a0 a1 a2 a3 a4 a5 a6 a7 a8 a9 a10 a11 s0 s1 s2 s3
                generalize wa.drew = wd at *
                obtain ⟨m, hd, hmk, hro⟩ := HNS2.out.nt
                have HMK : Hid (m ≤ 2 * k) := hmk
                have HRO := Lib.hid hro
                obtain ⟨d, hvm⟩ := hro.map
                have hlk := VMap.look hvm 104 _ Tryz.underlying104 (by kernel_rfl) x.id HIDS.out
                have hlkA := fun (o : Obj) => VMap.look (hvm.below ((Below.refl _ _).alloc (Nat.le_refl _) o)) 104 _ Tryz.underlying104 (by kernel_rfl) x.id HIDS.out
                obtain ⟨D, hD⟩ := hvm.ex
                have HD := Lib.hid hD
                clear hD hvm hro hmk
                refine wpAnyH_take (i := 0) (oi := ⟨some 86, _, _, _, _, _⟩) (v := .pointer (some ⟨S, 3, none⟩)) rfl (by kernel_rfl) (by kernel_rfl) (by kernel_rfl) (fun _ _ _ h => h) (Or.inl ⟨by rfl, ?_⟩) hHeld ?_
                · intro w hSw
                  (try dsimp only at hSw)
                  go_simp
                simp only [Act.put, List.setIfInBounds_toArray, List.set_cons_zero, List.set_cons_succ]
                refine wpAnyH_take (i := 1) (oi := ⟨some 87, _, _, _, _, _⟩) (v := .map (some (M + 3))) rfl (by kernel_rfl) (by kernel_rfl) (by kernel_rfl) (fun _ _ _ h => h) (Or.inl ⟨by rfl, ?_⟩) hHeld ?_
                · intro w hSw
                  (try dsimp only at hSw)
                  go_simp
                simp only [Act.put, List.setIfInBounds_toArray, List.set_cons_zero, List.set_cons_succ]
                refine wpAnyH_take (i := 2) (oi := ⟨some 88, _, _, _, _, _⟩) (v := .pointer (some ⟨P, 4, none⟩)) rfl (by kernel_rfl) (by kernel_rfl) (by kernel_rfl) (fun _ _ _ h => h) (Or.inl ⟨by rfl, ?_⟩) hHeld ?_
                · intro w hSw
                  (try dsimp only at hSw)
                  go_simp
                simp only [Act.put, List.setIfInBounds_toArray, List.set_cons_zero, List.set_cons_succ]
                refine wpAnyH_take (i := 3) (oi := ⟨some 89, _, _, _, _, _⟩) (v := .string x.id) rfl (by kernel_rfl) (by kernel_rfl) (by kernel_rfl) (fun _ _ _ h => h) (Or.inl ⟨by rfl, ?_⟩) hHeld ?_
                · intro w hSw
                  (try dsimp only at hSw)
                  go_simp
                simp only [Act.put, List.setIfInBounds_toArray, List.set_cons_zero, List.set_cons_succ]
                refine wpAnyH_take (i := 4) (oi := ⟨some 90, _, _, _, _, _⟩) (v := .pointer (some ⟨S, 3, none⟩)) rfl (by kernel_rfl) (by kernel_rfl) (by kernel_rfl) (fun _ _ _ h => h) (Or.inl ⟨by rfl, ?_⟩) hHeld ?_
                · intro w hSw
                  (try dsimp only at hSw)
                  go_simp
                simp only [Act.put, List.setIfInBounds_toArray, List.set_cons_zero, List.set_cons_succ]
                refine wpAnyH_take (i := 5) (oi := ⟨some 91, _, _, _, _, _⟩) (v := .map (some (M + 3))) rfl (by kernel_rfl) (by kernel_rfl) (by kernel_rfl) (fun _ _ _ h => h) (Or.inl ⟨by rfl, ?_⟩) hHeld ?_
                · intro w hSw
                  (try dsimp only at hSw)
                  go_simp
                simp only [Act.put, List.setIfInBounds_toArray, List.set_cons_zero, List.set_cons_succ]
                refine wpAnyH_take (i := 6) (oi := ⟨some 92, _, _, _, _, _⟩) (v := .pointer (some ⟨P, 4, none⟩)) rfl (by kernel_rfl) (by kernel_rfl) (by kernel_rfl) (fun _ _ _ h => h) (Or.inl ⟨by rfl, ?_⟩) hHeld ?_
                · intro w hSw
                  (try dsimp only at hSw)
                  go_simp
                simp only [Act.put, List.setIfInBounds_toArray, List.set_cons_zero, List.set_cons_succ]
                refine wpAnyH_take (i := 7) (oi := ⟨some 93, _, _, _, _, _⟩) (v := .string x.id) rfl (by kernel_rfl) (by kernel_rfl) (by kernel_rfl) (fun _ _ _ h => h) (Or.inl ⟨by rfl, ?_⟩) hHeld ?_
                · intro w hSw
                  (try dsimp only at hSw)
                  go_simp
                simp only [Act.put, List.setIfInBounds_toArray, List.set_cons_zero, List.set_cons_succ]
                refine wpAnyH_take (i := 9) (oi := ⟨some 95, _, _, _, _, _⟩) (v := .pointer (some ⟨P, 6, none⟩)) rfl (by kernel_rfl) (by kernel_rfl) (by kernel_rfl) (fun _ _ _ h => h) (Or.inl ⟨by rfl, ?_⟩) hHeld ?_
                · intro w hSw
                  (try dsimp only at hSw)
                  go_simp
                simp only [Act.put, List.setIfInBounds_toArray, List.set_cons_zero, List.set_cons_succ]
                refine wpAnyH_take (i := 10) (oi := ⟨some 96, _, _, _, _, _⟩) (v := .string x.val) rfl (by kernel_rfl) (by kernel_rfl) (by kernel_rfl) (fun _ _ _ h => h) (Or.inl ⟨by rfl, ?_⟩) hHeld ?_
                · intro w hSw
                  (try dsimp only at hSw)
                  go_simp
                simp only [Act.put, List.setIfInBounds_toArray, List.set_cons_zero, List.set_cons_succ]
                have HONE : Hid (ElemsAt StrE (wd.alloc (.cells #[.string x.val] 9)) (some ⟨wd.heap.size, 0, none⟩) 1 1 [x.val.data.toList]) := one_elem (E := StrE) wd x.val.data.toList
                have HSBA : Hid (SB (wd.alloc (.cells #[.string x.val] 9)) S M) := (((Below.refl wd.heap.size wd).alloc (Nat.le_refl _) (.cells #[.string x.val] 9)).block S HSB2.out.lt).trans HSB2.out
                have HXA : Hid (DeedAt (wd.alloc (.cells #[.string x.val] 9)) P x) := HX2.out.keep ((Below.refl _ _).alloc (Nat.le_refl _) _)
                have HOWA : Hid (Owns StrE (wd.alloc (.cells #[.string x.val] 9)) w3.heap.size (hd x.id) (notC ((L.take k).filter (cntD l)) x.id)) := (HRO.out.row x.id).below_ ((Below.refl _ _).alloc (Nat.le_refl _) _)
                have HLEN : Hid ((notC ((L.take k).filter (cntD l)) x.id).length ≤ 100) := by
                  show _ ≤ _
                  have h1 := notC_len ((L.take k).filter (cntD l)) x.id
                  have h2 := List.length_filter_le (cntD l) (L.take k)
                  have h3 := List.length_take_le k L
                  omega
                have hzd := HNS2.out.fr.size
                refine wpAnyH_ready (rs := [8, 11]) (by kernel_rfl) (by simp) ?_
                refine AllReadyH.cons (o := ⟨some 94, _, _, _, _, _⟩) rfl (fun K hK => ?_) (AllReadyH.cons (o := ⟨some 97, _, _, _, _, _⟩) rfl (fun K hK => ?_) AllReadyH.nil)
                · rw [if_pos (by rfl)]
                  go_wp2_with fail
                  refine hK.out _ _ (HSOF.out _ HSB2.out HX2.out) (fun hHeld => ?_)
                  clear hK
                  (try simp only [Act.put, List.setIfInBounds_toArray, List.set_cons_zero, List.set_cons_succ])
                  refine wpAnyH_ready (rs := [11]) (by kernel_rfl) (by simp) ?_
                  refine AllReadyH.cons (o := ⟨some 97, _, _, _, _, _⟩) rfl (fun K hK => ?_) AllReadyH.nil
                  rw [if_pos (by rfl)]
                  go_wp2_with fail
                  refine hK.out _ _ (HSOF.out _ HSBA.out HXA.out) (fun hHeld => ?_)
                  clear hK
                  (try simp only [Act.put, List.setIfInBounds_toArray, List.set_cons_zero, List.set_cons_succ])
                  refine wpAnyH_ready (rs := [12]) (by kernel_rfl) (by simp) ?_
                  refine AllReadyH.cons (o := ⟨some 98, _, _, _, _, _⟩) rfl (fun K hK => ?_) AllReadyH.nil
                  refine step_elems strE_ok (by rfl) _ _ (by rfl) w3.heap.size (hd x.id) (notC ((L.take k).filter (cntD l)) x.id) (by rfl) HOWA.out ⟨wd.heap.size, 0, none⟩ 1 1 [x.val.data.toList] (by rfl) HONE.out (by omega) (by have := HLEN.out; simp only [List.length_singleton]; omega) (by simp; omega) ?_
                  intro v5 w5 hown5 hgrow5 hv5
                  have HSB5 : Hid (SB w5 S M) := (hgrow5.block S HSBA.out.lt (fun e => by have h1 := (HOWA.out.lt S e.symm).1; have h2 := HSB3.out.lt; omega)).trans HSBA.out
                  have HX5 : Hid (DeedAt w5 P x) := (hgrow5.block P HXA.out.lt (fun e => by obtain ⟨c, fr, hc⟩ := owns_cells HOWA.out e.symm; have hb := HXA.out; unfold DeedAt at hb; rw [hb] at hc; simp only [Option.some.injEq, Obj.cells.injEq] at hc; exact absurd hc.2.1 (by decide))).trans HXA.out
                  have hm5 : w5.ownsMap Tryz.prog 9 heldE (M + 3) m D := (HD.out.1.alloc (.cells #[.string x.val] 9)).kept hgrow5 (fun e => by
                    have h1 := HD.out.1.alloc (.cells #[.string x.val] 9)
                    obtain ⟨es, cl, hb, _⟩ := h1
                    obtain ⟨c, fr, hc⟩ := owns_cells HOWA.out e.symm
                    rw [hb] at hc; cases hc)
                  clear hHeld
                  refine hK.out _ _ (HSOF.out _ HSB5.out HX5.out) (fun hHeld => ?_)
                  clear hK
                  (try simp only [Act.put, List.setIfInBounds_toArray, List.set_cons_zero, List.set_cons_succ])
                  refine wpAnyH_ready (rs := [13]) (by kernel_rfl) (by simp) ?_
                  refine AllReadyH.cons (o := ⟨none, _, _, _, _, _⟩) rfl (fun K hK => ?_) AllReadyH.nil
                  refine step_mapUpdate_own _ (by rfl) _ _ _ 104 (by rfl) 9 72 keyS Tryz.underlying104 heldE (M + 3) m D (by rfl) hm5 (by have := HMK.out; simp only [maxLen]; omega) (.string x.id) v5 (.string x.id.data.toList) (by rfl) (by rfl) HKEY1.out (.held v5) [] rfl ?_
                  intro w6 hown6 hgrow6
                  have HNS6 := Lib.hid (NS.note x HNS2.out HRO.out HMB.out HK.out HMK.out HD.out.1 HD.out.2.1 HD.out.2.2 hown5 hgrow5 hv5 hown6 hgrow6)
                  have HSB6 := Lib.hid (HNS6.out.fr.sb HSB3.out HMS.out)
                  have HX6 : Hid (DeedAt w6 P x) := deed_maps HX5.out hgrow6 (by obtain ⟨es, cl, hb, _⟩ := hm5; exact ⟨es, cl, hb⟩)
                  clear hown5 hgrow5 hv5 hown6 hgrow6 hm5 hHeld
                  refine hK.out _ _ (HSOF.out _ HSB6.out HX6.out) (fun hHeld => ?_)
                  clear hK hHeld
                  refine wpAnyH_done (by kernel_rfl) ?_ _
                  go_wp2_with fail
                  go_roundg (gk - 1)
                  case measure => exact Nat.sub_lt HGK.out.2 Nat.one_pos
                  case rel => exact ⟨k + 1, HGK.out.1, by go_num, by rw [HCS.out]; exact HNS6.out.more (by omega)⟩
                · rw [if_pos (by rfl)]
                  go_wp2_with fail
                  refine hK.out _ _ (HSOF.out _ HSBA.out HXA.out) (fun hHeld => ?_)
                  clear hK
                  (try simp only [Act.put, List.setIfInBounds_toArray, List.set_cons_zero, List.set_cons_succ])
                  refine wpAnyH_ready (rs := [8]) (by kernel_rfl) (by simp) ?_
                  refine AllReadyH.cons (o := ⟨some 94, _, _, _, _, _⟩) rfl (fun K hK => ?_) AllReadyH.nil
                  rw [if_pos (by rfl)]
                  go_wp2_with fail
                  refine hK.out _ _ (HSOF.out _ HSBA.out HXA.out) (fun hHeld => ?_)
                  clear hK
                  (try simp only [Act.put, List.setIfInBounds_toArray, List.set_cons_zero, List.set_cons_succ])
                  refine wpAnyH_ready (rs := [12]) (by kernel_rfl) (by simp) ?_
                  refine AllReadyH.cons (o := ⟨some 98, _, _, _, _, _⟩) rfl (fun K hK => ?_) AllReadyH.nil
                  refine step_elems strE_ok (by rfl) _ _ (by rfl) w3.heap.size (hd x.id) (notC ((L.take k).filter (cntD l)) x.id) (by rfl) HOWA.out ⟨wd.heap.size, 0, none⟩ 1 1 [x.val.data.toList] (by rfl) HONE.out (by omega) (by have := HLEN.out; simp only [List.length_singleton]; omega) (by simp; omega) ?_
                  intro v5 w5 hown5 hgrow5 hv5
                  have HSB5 : Hid (SB w5 S M) := (hgrow5.block S HSBA.out.lt (fun e => by have h1 := (HOWA.out.lt S e.symm).1; have h2 := HSB3.out.lt; omega)).trans HSBA.out
                  have HX5 : Hid (DeedAt w5 P x) := (hgrow5.block P HXA.out.lt (fun e => by obtain ⟨c, fr, hc⟩ := owns_cells HOWA.out e.symm; have hb := HXA.out; unfold DeedAt at hb; rw [hb] at hc; simp only [Option.some.injEq, Obj.cells.injEq] at hc; exact absurd hc.2.1 (by decide))).trans HXA.out
                  have hm5 : w5.ownsMap Tryz.prog 9 heldE (M + 3) m D := (HD.out.1.alloc (.cells #[.string x.val] 9)).kept hgrow5 (fun e => by
                    have h1 := HD.out.1.alloc (.cells #[.string x.val] 9)
                    obtain ⟨es, cl, hb, _⟩ := h1
                    obtain ⟨c, fr, hc⟩ := owns_cells HOWA.out e.symm
                    rw [hb] at hc; cases hc)
                  clear hHeld
                  refine hK.out _ _ (HSOF.out _ HSB5.out HX5.out) (fun hHeld => ?_)
                  clear hK
                  (try simp only [Act.put, List.setIfInBounds_toArray, List.set_cons_zero, List.set_cons_succ])
                  refine wpAnyH_ready (rs := [13]) (by kernel_rfl) (by simp) ?_
                  refine AllReadyH.cons (o := ⟨none, _, _, _, _, _⟩) rfl (fun K hK => ?_) AllReadyH.nil
                  refine step_mapUpdate_own _ (by rfl) _ _ _ 104 (by rfl) 9 72 keyS Tryz.underlying104 heldE (M + 3) m D (by rfl) hm5 (by have := HMK.out; simp only [maxLen]; omega) (.string x.id) v5 (.string x.id.data.toList) (by rfl) (by rfl) HKEY1.out (.held v5) [] rfl ?_
                  intro w6 hown6 hgrow6
                  have HNS6 := Lib.hid (NS.note x HNS2.out HRO.out HMB.out HK.out HMK.out HD.out.1 HD.out.2.1 HD.out.2.2 hown5 hgrow5 hv5 hown6 hgrow6)
                  have HSB6 := Lib.hid (HNS6.out.fr.sb HSB3.out HMS.out)
                  have HX6 : Hid (DeedAt w6 P x) := deed_maps HX5.out hgrow6 (by obtain ⟨es, cl, hb, _⟩ := hm5; exact ⟨es, cl, hb⟩)
                  clear hown5 hgrow5 hv5 hown6 hgrow6 hm5 hHeld
                  refine hK.out _ _ (HSOF.out _ HSB6.out HX6.out) (fun hHeld => ?_)
                  clear hK hHeld
                  refine wpAnyH_done (by kernel_rfl) ?_ _
                  go_wp2_with fail
                  go_roundg (gk - 1)
                  case measure => exact Nat.sub_lt HGK.out.2 Nat.one_pos
                  case rel => exact ⟨k + 1, HGK.out.1, by go_num, by rw [HCS.out]; exact HNS6.out.more (by omega)⟩
              · have hn5 : (x.kind == 5) = false := by simpa using hk5
                have HNS6 := Lib.hid (HNS1.out.skip hk1 hk2 hk4 hk5)
                go_wp2_with fail
                go_roundg (gk - 1)
                case measure => exact Nat.sub_lt HGK.out.2 Nat.one_pos
                case rel => exact ⟨k + 1, HGK.out.1, by go_num, by rw [HCS.out]; exact HNS6.out.more (by omega)⟩
    · have hnk : ¬ (k : Int) < (n3 : Int) := by omega
      have HTK : Hid (L.take k = L) := List.take_of_length_le (by have := HN3.out; omega)
      have HNSE : Hid (NS w3 M 40 (L.filter (cntD l)) wr) := by have := HNS.out.more (show 2 * k ≤ 40 by omega); rw [HTK.out] at this; exact this
      have HSBE := Lib.hid (HNSE.out.fr.sb HSB3.out HMS.out)
      have HRBE : Hid (RB wr w.heap.size (.map none) (.map none) (.map none) (.map none)) := (HNSE.out.fr.block _ (Array.getElem?_eq_some_iff.1 HRB3.out).1 (.inl (by have := HMW.out; omega))).trans HRB3.out
      have HBE := Lib.hid (HNSE.out.fr.toBelow HB3.out (by have := HMW.out; omega))
      clear HNS HKK
      obtain ⟨s0, s1, s2, s3⟩ := HSBE.out.c
      obtain ⟨r0, r1, r2, r3, f0, f1, f2, f3⟩ := HRBE.out.c
      have HRS := Lib.hid (HRBE.out.set (.map (some M)) (.map (some (M + 1))) (.map (some (M + 2))) (.map (some (M + 3))))
      have HGS := Lib.hid (grown_set4 wr w.heap.size (.map (some M)) (.map (some (M + 1))) (.map (some (M + 2))) (.map (some (M + 3))))
      go_wp2_with fail
      clear s0 s1 s2 s3 r0 r1 r2 r3 f0 f1 f2 f3
      generalize (((wr.setCell ⟨w.heap.size, 0, none⟩ (.map (some M))).setCell ⟨w.heap.size, 1, none⟩ (.map (some (M + 1)))).setCell ⟨w.heap.size, 2, none⟩ (.map (some (M + 2)))).setCell ⟨w.heap.size, 3, none⟩ (.map (some (M + 3))) = wf at *
      obtain ⟨r0, r1, r2, r3, -⟩ := HRS.out.c
      refine bodyPost_ret (v := .agg #[.map (some M), .map (some (M + 1)), .map (some (M + 2)), .map (some (M + 3))]) (by simp [results, Tryz.results58, go_sem, r0, r1, r2, r3]) rfl ?_
      obtain ⟨g, hne⟩ := HNSE.out.ne
      obtain ⟨mc, hc, hmc, hrc⟩ := HNSE.out.cv
      obtain ⟨mn, hn', hmn, hrn⟩ := HNSE.out.nt
      have hrb : wr.heap[w.heap.size]? = _ := HRBE.out
      have hwM := HMW.out
      have hw3 := HMB.out
      refine ⟨M, w3.heap.size, g, L, rfl, HOL.out, by omega, by omega, hne.cells HGS.out (fun i e => by have := Option.some.inj e; subst this; exact ⟨_, _, _, hrb⟩), ⟨mc, hc, hmc, hrc.kept HGS.out (fun e => by have := Option.some.inj e; omega) (fun s i e e2 => by have := (hrc.row s).lt i e; have := Option.some.inj e2; omega)⟩, ⟨mn, hn', hmn, hrn.kept HGS.out (fun e => by have := Option.some.inj e; omega) (fun s i e e2 => by have := (hrn.row s).lt i e; have := Option.some.inj e2; omega)⟩, HBE.out.grown HGS.out HBE.out.size (fun i e => by have := Option.some.inj e; omega)⟩
end Go.Proofs.YthogkcgklakibaaGreatDoor

namespace Go.Proofs.YthogkcgklakibaaGreatDoor
open Go.RowKit Go.Maps Go.Sort Go.Shelf

def sortK (l : List (List UInt8)) : List (List UInt8) := l.mergeSort (fun x y => decide (x ≤ y))
theorem sortK_perm {l m : List (List UInt8)} (h : l.Perm m) : sortK l = sortK m := by
  unfold sortK
  have tr : ∀ a b c : List UInt8, decide (a ≤ b) = true → decide (b ≤ c) = true → decide (a ≤ c) = true := fun a b c h1 h2 => decide_eq_true (List.le_trans (of_decide_eq_true h1) (of_decide_eq_true h2))
  have tt : ∀ a b : List UInt8, (decide (a ≤ b) || decide (b ≤ a)) = true := fun a b => by
    rcases List.le_total a b with h | h <;> simp [h]
  refine List.Perm.eq_of_pairwise (le := fun a b => decide (a ≤ b) = true) (fun a b _ _ h1 h2 => List.le_antisymm (of_decide_eq_true h1) (of_decide_eq_true h2)) (List.pairwise_mergeSort tr tt l) (List.pairwise_mergeSort tr tt m) ?_
  exact (List.mergeSort_perm l _).trans (h.trans (List.mergeSort_perm m _).symm)
theorem sortK_mem {l : List (List UInt8)} {x : List UInt8} : x ∈ sortK l ↔ x ∈ l := (List.mergeSort_perm _ _).mem_iff
theorem sortK_length (l : List (List UInt8)) : (sortK l).length = l.length := by unfold sortK; rw [List.length_mergeSort]
theorem sorts_any (m : Nat) : AnyZ.SortsIn Tryz.prog Tryz.sorted61_ren Fence.wide m :=
  ⟨fun blk off cap ss W hH hblk hsz => callsIn_wide.2 (AnyM.slices_Sort_string Tryz.sort102 blk off cap ss W hH hblk hsz),
   fun p cap W => callsIn_wide.2 (AnyM.slices_Sort_string_none Tryz.sort102 p cap W)⟩
def SortedPost (base : Nat) (w : World) (ks : List (List UInt8)) (e : Ending) (w' : World) : Prop := ∃ v, e = .returned v ∧ OwnStrs w' base v (sortK ks) ∧ Below w.heap.size w w'
theorem strs_enc (l : List (List UInt8)) : l.map encStr = StrE.cells l := by
  induction l with
  | nil => rfl
  | cons x l ih => simp only [Elem.cells, List.flatMap_cons, List.map_cons] at *; rw [ih]; rfl
/-- The keys of a map, or of none. -/
def KOf (w : World) (mb : Option Nat) (ks : List (List UInt8)) : Prop := (mb = none ∧ ks = []) ∨ ∃ (N m : Nat) (D : DataW Value), mb = some N ∧ w.ownsMap Tryz.prog 9 heldE N m D ∧ ks = strKeys D ∧ Maps.size D ≤ 1000000
theorem keys_ofD {H : Type} {w : World} {M m : Nat} {D : DataW H} {R : Value → Option (DataW H × List MemPlace)} (h : w.ownsMap Tryz.prog 9 R M m D) : (strKeys D).Nodup ∧ (∀ x, x ∈ strKeys D ↔ has D (.string x) = true) ∧ (strKeys D).length = Maps.size D := by
  obtain ⟨es, hD, hpw, _⟩ := h.entries keyS
  obtain ⟨es', hD', hko⟩ := h.keysOf
  obtain rfl : es = es' := by rw [hD] at hD'; simpa using hD'
  subst hD
  have hk : ∀ p ∈ es, ∃ x, p.1 = .string x := fun p hp => by obtain ⟨v, hv⟩ := hko p hp; obtain ⟨x, _, hx, _⟩ := Maps.keyOf_str Tryz.underlying9 hv; exact ⟨x, hx⟩
  refine ⟨?_, fun x => ?_, ?_⟩
  · show (es.map fun p => strOf p.1).Nodup
    refine List.pairwise_map.2 (hpw.imp_of_mem fun {p q} hp' hq' hne e => hne ?_)
    obtain ⟨a, ha⟩ := hk p hp'
    obtain ⟨b, hb⟩ := hk q hq'
    rw [ha, hb] at e ⊢
    exact congrArg _ e
  · rw [has_eq, List.any_eq_true]
    show x ∈ es.map (fun p => strOf p.1) ↔ _
    rw [List.mem_map]
    constructor
    · rintro ⟨p, hp', rfl⟩
      obtain ⟨a, ha⟩ := hk p hp'
      exact ⟨p, hp', by rw [ha]; simp [Lit.sameKey, strOf]⟩
    · rintro ⟨p, hp', hs⟩
      obtain ⟨a, ha⟩ := hk p hp'
      rw [ha] at hs
      exact ⟨p, hp', by rw [ha]; simpa [Lit.sameKey, strOf] using hs⟩
  · show (es.map fun p => strOf p.1).length = _
    rw [List.length_map]
    rfl

theorem keysC_any (mb : Option Nat) (W : World) : Calls Tryz.prog 62 #[.map mb] W fun e w' => e = .returned (.func (.func 103) #[] #[.pointer (some ⟨W.heap.size, 0, none⟩)]) ∧ w' = W.alloc (.cells #[.map mb] 111) :=
  callsIn_wide.1 (AnyZ.keys_in Tryz.keys62 Fence.wide 5 trivial rfl mb W)
set_option maxHeartbeats 1000000 in
theorem sortedC_any (mb : Option Nat) (ks : List (List UInt8)) (w : World) (h : KOf w mb ks) :
    Calls Tryz.prog 61 #[.func (.func 103) #[] #[.pointer (some ⟨w.heap.size, 0, none⟩)]] (w.alloc (.cells #[.map mb] 111)) (SortedPost w.heap.size w ks) := by
  have hall : ∃ N, N ≤ 1000000 ∧ SeqGives Fence.wide 2 Tryz.prog 103 #[.pointer (some ⟨w.heap.size, 0, none⟩)] encStr (fun ss => ss.Perm ks) N (w.alloc (.cells #[.map mb] 111)) := by
    rcases h with ⟨rfl, rfl⟩ | ⟨b, nn, D0, rfl, hown, rfl, hmax⟩
    · have hn := AnyZ.keys_gives_nil (ρ := Tryz.keys62_ren) { Tryz.keys62 with } Fence.wide 2 trivial rfl w.heap.size (w.alloc (.cells #[.map none] 111)) (by simp) (by simp)
      refine ⟨0, by omega, fun l J W h1 h2 h3 h4 => (hn l J W h1 h2 h3 h4).mono ?_⟩
      rintro e w' ⟨h5, ss, hs, h6⟩
      exact ⟨h5, ss, by subst hs; exact List.Perm.refl _, h6⟩
    · have hbl := hown.lt
      refine ⟨Maps.size D0, hmax, ?_⟩
      exact AnyZ.keys_gives (ρ := Tryz.keys62_ren) { Tryz.keys62 with } Fence.wide _ trivial rfl (by omega) w.heap.size b nn D0 _ (by simp) (by simp) (by
        obtain ⟨es, clock, hb, Ft, hs, hD⟩ := hown
        exact ⟨es, clock, (Below.heap_alloc _ _ b hbl).trans hb, Ft, hs, hD⟩)
  obtain ⟨N, hN, hseq⟩ := hall
  have cS := AnyZ.sorted_in Tryz.sorted61 Fence.wide 5 trivial trivial trivial trivial rfl (by omega) (sorts_any _) (enters_of Tryz.func102 (by kernel_rfl) rfl) 103 #[.pointer (some ⟨w.heap.size, 0, none⟩)] trivial (enters_of Tryz.func103 (by kernel_rfl) rfl) _ N (by simp only [maxLen]; omega) (by omega) _ hseq
  have cS' := callsIn_wide.1 cS
  refine Calls.mono cS' ?_
  rintro e w' ⟨v, ss, rfl, hS, hrow, hnil, hb⟩
  refine ⟨v, rfl, ?_, ((Below.refl _ w).alloc (Nat.le_refl _) _).trans (hb.mono (by simp))⟩
  have h1 := ownsRow_base_a (base' := w.heap.size) hrow (by simp)
  rw [strs_enc] at h1
  have e1 : ss.mergeSort (fun x y => decide (x ≤ y)) = sortK ks := sortK_perm hS
  rw [e1] at h1
  have e2 : ss.length = (sortK ks).length := by rw [← e1, List.length_mergeSort]
  rw [e2] at h1
  exact h1

theorem keysL_any (mb : Option Nat) (W : World) : Calls Tryz.prog 73 #[.map mb] W fun e w' => e = .returned (.func (.func 115) #[] #[.pointer (some ⟨W.heap.size, 0, none⟩)]) ∧ w' = W.alloc (.cells #[.map mb] 124) :=
  callsIn_wide.1 (AnyZ.keys_in Tryz.keys73 Fence.wide 5 trivial rfl mb W)
set_option maxHeartbeats 1000000 in
theorem sortedL_any (mb : Option Nat) (ks : List (List UInt8)) (w : World) (h : KOf w mb ks) :
    Calls Tryz.prog 61 #[.func (.func 115) #[] #[.pointer (some ⟨w.heap.size, 0, none⟩)]] (w.alloc (.cells #[.map mb] 124)) (SortedPost w.heap.size w ks) := by
  have hall : ∃ N, N ≤ 1000000 ∧ SeqGives Fence.wide 2 Tryz.prog 115 #[.pointer (some ⟨w.heap.size, 0, none⟩)] encStr (fun ss => ss.Perm ks) N (w.alloc (.cells #[.map mb] 124)) := by
    rcases h with ⟨rfl, rfl⟩ | ⟨b, nn, D0, rfl, hown, rfl, hmax⟩
    · have hn := AnyZ.keys_gives_nil (ρ := Tryz.keys73_ren) { Tryz.keys73 with } Fence.wide 2 trivial rfl w.heap.size (w.alloc (.cells #[.map none] 124)) (by simp) (by simp)
      refine ⟨0, by omega, fun l J W h1 h2 h3 h4 => (hn l J W h1 h2 h3 h4).mono ?_⟩
      rintro e w' ⟨h5, ss, hs, h6⟩
      exact ⟨h5, ss, by subst hs; exact List.Perm.refl _, h6⟩
    · have hbl := hown.lt
      refine ⟨Maps.size D0, hmax, ?_⟩
      exact AnyZ.keys_gives (ρ := Tryz.keys73_ren) { Tryz.keys73 with } Fence.wide _ trivial rfl (by omega) w.heap.size b nn D0 _ (by simp) (by simp) (by
        obtain ⟨es, clock, hb, Ft, hs, hD⟩ := hown
        exact ⟨es, clock, (Below.heap_alloc _ _ b hbl).trans hb, Ft, hs, hD⟩)
  obtain ⟨N, hN, hseq⟩ := hall
  have cS := AnyZ.sorted_in Tryz.sorted61 Fence.wide 5 trivial trivial trivial trivial rfl (by omega) (sorts_any _) (enters_of Tryz.func102 (by kernel_rfl) rfl) 115 #[.pointer (some ⟨w.heap.size, 0, none⟩)] trivial (enters_of Tryz.func115 (by kernel_rfl) rfl) _ N (by simp only [maxLen]; omega) (by omega) _ hseq
  have cS' := callsIn_wide.1 cS
  refine Calls.mono cS' ?_
  rintro e w' ⟨v, ss, rfl, hS, hrow, hnil, hb⟩
  refine ⟨v, rfl, ?_, ((Below.refl _ w).alloc (Nat.le_refl _) _).trans (hb.mono (by simp))⟩
  have h1 := ownsRow_base_a (base' := w.heap.size) hrow (by simp)
  rw [strs_enc] at h1
  have e1 : ss.mergeSort (fun x y => decide (x ≤ y)) = sortK ks := sortK_perm hS
  rw [e1] at h1
  have e2 : ss.length = (sortK ks).length := by rw [← e1, List.length_mergeSort]
  rw [e2] at h1
  exact h1
end Go.Proofs.YthogkcgklakibaaGreatDoor

namespace Go.Proofs.YthogkcgklakibaaGreatDoor
open Go.RowKit Go.Maps

abbrev CodP : Type := ByteArray × ByteArray × ByteArray × Int
def CodE : Elem CodP := ⟨66, 61, 4, 56, .agg #[.string ⟨#[]⟩, .string ⟨#[]⟩, .string ⟨#[]⟩, .int .i64 0], fun p => [.string p.1, .string p.2.1, .string p.2.2.1, .int .i64 p.2.2.2]⟩
theorem codE_ok : CodE.Ok := ⟨fun _ => rfl, fun x u hu => by
  have hm : u ∈ [Value.string x.1, .string x.2.1, .string x.2.2.1, .int .i64 x.2.2.2] := hu
  simp only [List.mem_cons, List.not_mem_nil, or_false] at hm
  rcases hm with h | h | h | h <;> (subst h; rfl), by decide, by decide, by kernel_rfl, by kernel_rfl, Tryz.underlying61⟩
def codOf (cs : List Deed) (s f : ByteArray) : List CodP := if ((lastC cs s f).getD zeroD).val.size = 0 then [] else [(f, ((lastC cs s f).getD zeroD).val, ((lastC cs s f).getD zeroD).site, ((lastC cs s f).getD zeroD).no)]
def codL (cs : List Deed) (s : ByteArray) (ks : List (List UInt8)) : List CodP := ks.flatMap fun k => codOf cs s ⟨k.toArray⟩
theorem codOf_len (cs : List Deed) (s f : ByteArray) : (codOf cs s f).length ≤ 1 := by unfold codOf; split <;> simp
theorem codL_len (cs : List Deed) (s : ByteArray) (ks : List (List UInt8)) : (codL cs s ks).length ≤ ks.length := by
  induction ks with
  | nil => exact Nat.le_refl _
  | cons k ks ih =>
    show (codOf cs s ⟨k.toArray⟩ ++ codL cs s ks).length ≤ _
    have := codOf_len cs s ⟨k.toArray⟩
    rw [List.length_append, List.length_cons]; omega
theorem codL_snoc (cs : List Deed) (s : ByteArray) (ks : List (List UInt8)) (k : List UInt8) : codL cs s (ks ++ [k]) = codL cs s ks ++ codOf cs s ⟨k.toArray⟩ := by
  unfold codL; rw [List.flatMap_append]; simp
theorem codL_take (cs : List Deed) (s : ByteArray) (ks : List (List UInt8)) (i : Nat) (k : List UInt8) (h : ks[i]? = some k) : codL cs s (ks.take (i + 1)) = codL cs s (ks.take i) ++ codOf cs s ⟨k.toArray⟩ := by
  rw [← codL_snoc]
  congr 1
  rw [List.take_add_one, h]
  rfl
theorem lastC_mem {cs : List Deed} {s f : ByteArray} {d : Deed} (h : lastC cs s f = some d) : d ∈ cs ∧ d.kind = 1 ∧ d.id = s ∧ d.fld = f := by
  unfold lastC at h
  have h1 := List.mem_of_find?_eq_some h
  have h2 := List.find?_some h
  exact ⟨List.mem_reverse.1 h1, of_decide_eq_true h2⟩
/-- In their order, right deeds have one order. -/
theorem OrdOf.uniq {L L' l : List Deed} (h : OrdOf L l) (h' : OrdOf L' l) (hl : RightD l) : L = L' := by
  refine List.Perm.eq_of_pairwise (le := fun x y => ltOf cmpO y x = false) (fun a b ha hb h1 h2 => ?_) h.2 h'.2 (h.1.trans h'.1.symm)
  rcases OrdLt.tot a b with k | k | k
  · exact absurd k ((ltO_no a b).1 h2)
  · exact ord_uniq hl.ord (h.1.mem_iff.1 ha) (h'.1.mem_iff.1 hb) k.2.1 k.2.2
  · exact absurd k ((ltO_no b a).1 h1)
theorem nodup_perm {l m : List (List UInt8)} (h : l.Nodup) (h' : m.Nodup) (hm : ∀ x, x ∈ l ↔ x ∈ m) : l.Perm m := (List.perm_ext_iff_of_nodup h h').2 hm
/-- What Fields returns. -/
def FieldsI (l : List Deed) (s : ByteArray) (R : List CodP) : Prop :=
  ∃ (L : List Deed) (ks : List (List UInt8)), OrdOf L l ∧ ks.Nodup ∧ (∀ x : List UInt8, x ∈ ks ↔ (lastC (L.filter (cntD l)) s ⟨x.toArray⟩).isSome = true) ∧ ks.length ≤ 1000 ∧ R = codL (L.filter (cntD l)) s (sortK ks)
theorem FieldsI.uniq {l : List Deed} {s : ByteArray} {R R' : List CodP} (h : FieldsI l s R) (h' : FieldsI l s R') (hl : RightD l) : R = R' := by
  obtain ⟨L, ks, h1, h2, h3, _, rfl⟩ := h
  obtain ⟨L', ks', h1', h2', h3', _, rfl⟩ := h'
  obtain rfl := h1.uniq h1' hl
  rw [sortK_perm (nodup_perm h2 h2' (fun x => (h3 x).trans (h3' x).symm))]
theorem FieldsI.len {l : List Deed} {s : ByteArray} {R : List CodP} (h : FieldsI l s R) : R.length ≤ 1000 := by
  obtain ⟨L, ks, _, _, _, h4, rfl⟩ := h
  have := codL_len (L.filter (cntD l)) s (sortK ks)
  rw [sortK_length] at this
  omega

end Go.Proofs.YthogkcgklakibaaGreatDoor

namespace Go.Proofs.YthogkcgklakibaaGreatDoor
open Go.RowKit Go.Maps
attribute [local go_sem ↓] Go.wp_at_zero Go.wp_at_succ

set_option maxHeartbeats 1600000 in
theorem idError_ok (A : Option Addr) (n c : Nat) (s : ByteArray) (w : World) (h : CheckOk w A n c) (hk : keyL s.data.toList = true) :
    Calls Tryz.prog 56 #[.slice A n c, .string s] w fun e w' => e = .returned (.int .i64 0) ∧ Below w.heap.size w w' := by
  have HLE := Lib.hid (listError_ok A n c w h)
  have HKY := Lib.hid (fun wx => key_any s wx hk)
  clear h hk
  go_enter Tryz.func56, Tryz.ntmps56
  go_wp2_with fail
  refine HLE.out.mono ?_
  rintro e w1 ⟨rfl, hb1⟩
  have HB1 := Lib.hid hb1
  clear hb1 HLE
  go_wp2_with fail
  refine (HKY.out _).mono ?_
  rintro e wz ⟨rfl, hwz⟩
  obtain rfl := hwz
  go_wp2_with fail
  refine (when_none _ _).mono ?_
  rintro e wz ⟨rfl, hwz⟩
  obtain rfl := hwz.symm
  go_wp2_with fail
  refine (first_2D 0 0 0 _ _ rfl rfl _).mono ?_
  rintro e wz ⟨rfl, hwz⟩
  obtain rfl := hwz.symm
  go_wp2_with fail
  go_ret
  exact ⟨rfl, HB1.out.alloc HB1.out.size _⟩
/-- The keys within, and what is looked up there. -/
theorem keys_nest {w : World} {base M k : Nat} {g : InF} {cs : List Deed} (h : Nest w base M k g cs) (hk : k ≤ 1000) (s : ByteArray) (hsm : ∀ d ∈ cs, d.fld.size ≤ 1000000) :
    ∃ ks, KOf w (g false s) ks ∧ ks.Nodup ∧ (∀ x : List UInt8, x ∈ ks ↔ (lastC cs s ⟨x.toArray⟩).isSome = true) ∧ ks.length ≤ 1000 ∧
      (∀ x ∈ ks, ∀ wx, Below w.heap.size w wx → (Instr.lookup 111 (.map (g false s)) (.string ⟨x.toArray⟩) false).run Tryz.prog wx = .ok ((lastC cs s ⟨x.toArray⟩).getD zeroD).v wx) := by
  cases hg : g false s with
  | none =>
    have hn := (h.non false s hg).2
    refine ⟨[], .inl ⟨rfl, rfl⟩, List.nodup_nil, fun x => ?_, by simp, fun x hx => absurd hx (by simp)⟩
    have h1 : (lastC cs s ⟨x.toArray⟩).isSome = false := congrFun hn ⟨x.toArray⟩
    simp [h1]
  | some N =>
    obtain ⟨_, m, hm, hv⟩ := h.inn false s N hg
    obtain ⟨D, h1, h2, h3⟩ := hv.ex
    obtain ⟨k1, k2, k3⟩ := keys_ofD h1
    have hsz := h1.size_le
    have hmem : ∀ x : List UInt8, x ∈ strKeys D ↔ (lastC cs s ⟨x.toArray⟩).isSome = true := fun x => by rw [k2, h3]; rfl
    refine ⟨strKeys D, .inr ⟨N, m, D, rfl, h1, rfl, by omega⟩, k1, hmem, by omega, fun x hx wx hwx => ?_⟩
    obtain ⟨d, hd⟩ := Option.isSome_iff_exists.1 ((hmem x).1 hx)
    obtain ⟨hdm, -, -, hf⟩ := lastC_mem hd
    exact (hv.below hwx).look 111 40 Tryz.underlying111 (by kernel_rfl) ⟨x.toArray⟩ (by rw [← hf]; exact hsm d hdm)
theorem field_st (a b c d : Value) (w : World) : (Instr.field 106 (.agg #[a, b, c, d]) 0).run Tryz.prog w = .ok a w := by kernel_rfl
theorem field_val (d : Deed) (w : World) : (Instr.field 40 (.agg #[.string d.site, .int .i64 d.no, .int .i64 d.at_, .int .i64 d.kind, .string d.id, .string d.fld, .string d.val, .int .i64 d.from_, .int .i64 d.to_, .string d.osite, .int .i64 d.ono, .string d.sum]) 5).run Tryz.prog w = .ok (.string d.val) w := by kernel_rfl
theorem field_stamp (d : Deed) (w : World) : (Instr.field 40 (.agg #[.string d.site, .int .i64 d.no, .int .i64 d.at_, .int .i64 d.kind, .string d.id, .string d.fld, .string d.val, .int .i64 d.from_, .int .i64 d.to_, .string d.osite, .int .i64 d.ono, .string d.sum]) 0).run Tryz.prog w = .ok (.agg #[.string d.site, .int .i64 d.no]) w := by kernel_rfl
def FieldsPost (w : World) (l : List Deed) (s : ByteArray) (e : Ending) (w' : World) : Prop :=
  ∃ A n c R, e = .returned (.tuple #[.slice A n c, .int .i64 0]) ∧ FieldsI l s R ∧ ElemsAt CodE w' A n c R ∧ Below w.heap.size w w'
set_option maxHeartbeats 6400000 in
set_option maxRecDepth 100000 in
theorem fields_any (A : Option Addr) (n c : Nat) (l : List Deed) (s : ByteArray) (w : World) (h : DeedsAt w A n c l) (hl : RightD l) (hn : n < 20) (hk : keyL s.data.toList = true) (hs : s.size ≤ 1000000) (hLE : CheckOk w A n c) :
    Calls Tryz.prog 26 #[.slice A n c, .string s] w (FieldsPost w l s) := by
  have HL := Lib.hid hl
  have HID := Lib.hid (idError_ok A n c s w hLE hk)
  have HSZ : Hid (s.size ≤ 1000000) := hs
  have HAT0 := Lib.hid h
  clear h hl hLE hk hs
  go_enter Tryz.func26, Tryz.ntmps26
  go_wp2_with fail
  refine HID.out.mono ?_
  rintro e w1 ⟨rfl, hb1⟩
  have HB1 := Lib.hid hb1
  have HAT := Lib.hid (ElemsAt.keep HAT0.out hb1)
  clear hb1 HID HAT0
  go_wp2_with fail
  refine (newState_any A n c l w1 HAT.out HL.out hn).mono ?_
  rintro e w2 ⟨M, base, g, L, rfl, hO, -, -, hNe, -, -, hb2⟩
  have HO := Lib.hid hO
  have HB2 := Lib.hid (HB1.out.trans (hb2.mono HB1.out.size))
  have hsml : ∀ d ∈ L.filter (cntD l), d.fld.size ≤ 1000000 := fun d hd => by
    have h1 := (HL.out.small (hO.1.mem_iff.1 (List.mem_filter.1 hd).1)).1.fld
    omega
  obtain ⟨cs, hcs⟩ : ∃ cs, cs = L.filter (cntD l) := ⟨_, rfl⟩
  rw [← hcs] at hNe hsml
  have HCS := Lib.hid hcs
  obtain ⟨ks, hk1, hk2, hk3, hk4, hk5⟩ := keys_nest hNe (by omega) s hsml
  obtain ⟨m0, -, hv0⟩ := hNe.out false
  have hlk : (Instr.lookup 101 (.map (some M)) (.string s) false).run Tryz.prog w2 = .ok (.map (g false s)) w2 := hv0.look 101 111 Tryz.underlying101 (by kernel_rfl) s HSZ.out
  obtain ⟨mb, hmb⟩ : ∃ mb, mb = g false s := ⟨_, rfl⟩
  rw [← hmb] at hk1 hk5 hlk
  have HK1 := Lib.hid hk1
  have HK5 := Lib.hid hk5
  have HFI : Hid (∀ R, R = codL cs s (sortK ks) → FieldsI l s R) := fun R hR => ⟨L, ks, hO, hk2, fun x => by rw [← hcs]; exact hk3 x, hk4, by rw [← hcs]; exact hR⟩
  have HLN : Hid ((sortK ks).length ≤ 1000) := by show _ ≤ _; rw [sortK_length]; exact hk4
  clear hO hb2 hsml hcs hNe hk1 hk2 hk3 hk4 hk5 hv0 hmb HB1 HAT
  have hfs := field_st (.map (some M)) (.map (some (M + 1))) (.map (some (M + 2))) (.map (some (M + 3))) w2
  go_wp2_with fail
  clear hfs
  refine (keysC_any mb w2).mono ?_
  rintro e w3 ⟨rfl, hw3⟩
  obtain rfl := hw3
  go_wp2_with fail
  refine (sortedC_any mb ks w2 HK1.out).mono ?_
  rintro e w3 ⟨v, rfl, hown, hb3⟩
  obtain ⟨As, cS, rfl, -, hAt, -⟩ := Owns.at_ strE_ok hown
  have HST := Lib.hid hAt
  have HB23 := Lib.hid hb3
  have HB3 := Lib.hid (HB2.out.trans (hb3.mono HB2.out.size))
  obtain ⟨ns, hns⟩ : ∃ ns, ns = (sortK ks).length := ⟨_, rfl⟩
  rw [← hns] at HST HLN ⊢
  have HNS := Lib.hid hns
  clear hAt hb3 hown hns hlk HB2 HK1
  have hn1 : ns ≤ 1000 := HLN.out
  go_wp2_with fail
  go_loopg [8, 26] ns (fun gk v8 v wr => ∃ k : Nat, Hid (k + gk = ns) ∧ v = .int .i64 (k : Int) ∧ Hid (Owns CodE wr w3.heap.size v8 (codL cs s ((sortK ks).take k))) ∧ Hid (Below w3.heap.size w3 wr))
  case atStart => exact ⟨0, show 0 + ns = ns by omega, rfl, Owns.nil _ _, Below.refl _ _⟩
  case round =>
    obtain ⟨k, HK, rfl, HOW, HW⟩ := hrel
    have hkn : k ≤ ns := by have := HK.out; omega
    by_cases hlt : k < ns
    · have HGK := Lib.hid (show k + 1 + (gk - 1) = ns ∧ 0 < gk by have := HK.out; omega)
      have hkl : k < (sortK ks).length := by have := HNS.out; omega
      obtain ⟨x, hx⟩ : ∃ x, (sortK ks)[k]? = some x := ⟨_, List.getElem?_eq_getElem hkl⟩
      obtain ⟨gs, offs, rfl, -, hcc⟩ := (ElemsAt.keep HST.out HW.out).2.2.2 (by omega)
      have hcell : wr.cell? ⟨gs, offs + k, none⟩ = some (.string ⟨x.toArray⟩) := by
        have h1 := hcc k x 0 _ hx rfl
        simpa [StrE] using h1
      have hbw : Below w2.heap.size w2 wr := HB23.out.trans (HW.out.mono HB23.out.size)
      have hlk := HK5.out x (sortK_mem.1 (List.mem_of_getElem? hx)) wr hbw
      have HTK := Lib.hid (codL_take cs s (sortK ks) k x hx)
      have HCO : Hid (codOf cs s ⟨x.toArray⟩ = if ((lastC cs s ⟨x.toArray⟩).getD zeroD).val.size = 0 then [] else [(⟨x.toArray⟩, ((lastC cs s ⟨x.toArray⟩).getD zeroD).val, ((lastC cs s ⟨x.toArray⟩).getD zeroD).site, ((lastC cs s ⟨x.toArray⟩).getD zeroD).no)]) := rfl
      obtain ⟨d, hd⟩ : ∃ d, d = (lastC cs s ⟨x.toArray⟩).getD zeroD := ⟨_, rfl⟩
      rw [← hd] at hlk HCO
      clear hcc hkl hx hbw hd HK
      obtain ⟨xb, hxb⟩ : ∃ xb : ByteArray, xb = ⟨x.toArray⟩ := ⟨_, rfl⟩
      rw [← hxb] at hcell hlk HTK HCO
      clear hxb
      have hlk' : (Instr.lookup 111 (.map mb) (.string xb) false).run Tryz.prog wr = .ok (.agg #[.string d.site, .int .i64 d.no, .int .i64 d.at_, .int .i64 d.kind, .string d.id, .string d.fld, .string d.val, .int .i64 d.from_, .int .i64 d.to_, .string d.osite, .int .i64 d.ono, .string d.sum]) wr := hlk
      have hfv := field_val d wr
      have hft := field_stamp d wr
      clear hlk
      by_cases hv : byteL d.val = []
      · obtain ⟨q1, q2, q3⟩ := emptyD hv
        have HCE : Hid (codL cs s ((sortK ks).take (k + 1)) = codL cs s ((sortK ks).take k)) := by
          show _ = _
          rw [HTK.out, HCO.out, if_pos (by have h1 := congrArg List.length hv; simpa [byteL] using h1), List.append_nil]
        clear hv
        go_wp2_with fail
        go_roundg (gk - 1)
        case measure => exact Nat.sub_lt HGK.out.2 Nat.one_pos
        case rel => exact ⟨k + 1, HGK.out.1, by go_num, by rw [HCE.out]; exact HOW.out, HW.out⟩
      · obtain ⟨q1, q2, q3⟩ := fullD hv
        have HCE : Hid (codL cs s ((sortK ks).take (k + 1)) = codL cs s ((sortK ks).take k) ++ [(xb, d.val, d.site, d.no)]) := by
          show _ = _
          rw [HTK.out, HCO.out, if_neg (fun h => hv (List.length_eq_zero_iff.1 (by simpa [byteL] using h)))]
        have hal : Below wr.heap.size wr (wr.alloc (.cells #[.string xb, .string d.val, .string d.site, .int .i64 d.no] 66)) := (Below.refl _ _).alloc (Nat.le_refl _) _
        have HONE : Hid (ElemsAt CodE (wr.alloc (.cells #[.string xb, .string d.val, .string d.site, .int .i64 d.no] 66)) (some ⟨wr.heap.size, 0, none⟩) 1 1 [(xb, d.val, d.site, d.no)]) := one_elem (E := CodE) wr (xb, d.val, d.site, d.no)
        have HOA := Lib.hid (HOW.out.below_ hal)
        have HWA := Lib.hid (HW.out.trans (hal.mono HW.out.size))
        have hol : (codL cs s ((sortK ks).take k)).length ≤ 1000 := by
          have h1 := codL_len cs s ((sortK ks).take k)
          have h2 := List.length_take_le k (sortK ks)
          omega
        have hzz := HWA.out.size
        clear hal hv
        go_wp2_with (at_builtin; refine append_elems codE_ok rfl _ _ rfl w3.heap.size _ (codL cs s ((sortK ks).take k)) rfl HOA.out (some ⟨wr.heap.size, 0, none⟩) 1 1 [(xb, d.val, d.site, d.no)] rfl HONE.out (by simp only [List.length_singleton]; omega) hzz ?_; intro v6 w6 hown6 hgrow6 hv6)
        have HO6 := Lib.hid hown6
        have HW6 : Hid (Below w3.heap.size w3 w6) := HWA.out.grown hgrow6 HWA.out.size (fun i e => (HOA.out.lt i e).1)
        clear hown6 hgrow6 hv6
        go_wp2_with fail
        go_roundg (gk - 1)
        case measure => exact Nat.sub_lt HGK.out.2 Nat.one_pos
        case rel => exact ⟨k + 1, HGK.out.1, by go_num, by rw [HCE.out]; exact HO6.out, HW6.out⟩
    · have hnk : ¬ (k : Int) < (ns : Int) := by omega
      have hkk : k = (sortK ks).length := by have := HNS.out; omega
      have hOW := HOW.out
      rw [hkk, List.take_length] at hOW
      obtain ⟨Ar, cR, hev, -, hAr, -⟩ := Owns.at_ codE_ok hOW
      obtain rfl := hev
      have HRR := Lib.hid (HFI.out _ rfl)
      have HAR := Lib.hid hAr
      have HBR := Lib.hid (HB3.out.trans (HW.out.mono HB3.out.size))
      clear hkk hOW hAr HOW HW
      go_wp2_with fail
      go_ret2
      exact ⟨Ar, _, cR, _, rfl, HRR.out, HAR.out, HBR.out⟩
end Go.Proofs.YthogkcgklakibaaGreatDoor

namespace Go.Proofs.YthogkcgklakibaaGreatDoor
open Go.RowKit Go.Maps
attribute [local go_sem ↓] Go.wp_at_zero Go.wp_at_succ

set_option maxHeartbeats 800000 in
set_option maxRecDepth 100000 in
theorem mrgClo_gr (x y : Deed) (w : World) : Calls Tryz.prog 53 #[x.v, y.v] w fun e w' => e = .returned (.int .i64 (cmpD x y)) ∧ Gr w w' := by
  have HX : Hid (DeedAt ((w.alloc (.cells #[.string x.site, .int .i64 x.no, .int .i64 x.at_, .int .i64 x.kind, .string x.id, .string x.fld, .string x.val, .int .i64 x.from_, .int .i64 x.to_, .string x.osite, .int .i64 x.ono, .string x.sum] 40)).alloc (.cells #[.string y.site, .int .i64 y.no, .int .i64 y.at_, .int .i64 y.kind, .string y.id, .string y.fld, .string y.val, .int .i64 y.from_, .int .i64 y.to_, .string y.osite, .int .i64 y.ono, .string y.sum] 40)) w.heap.size x) := (deed_new w x).keep ((Below.refl _ _).alloc (Nat.le_refl _) _)
  have HY : Hid (DeedAt ((w.alloc (.cells #[.string x.site, .int .i64 x.no, .int .i64 x.at_, .int .i64 x.kind, .string x.id, .string x.fld, .string x.val, .int .i64 x.from_, .int .i64 x.to_, .string x.osite, .int .i64 x.ono, .string x.sum] 40)).alloc (.cells #[.string y.site, .int .i64 y.no, .int .i64 y.at_, .int .i64 y.kind, .string y.id, .string y.fld, .string y.val, .int .i64 y.from_, .int .i64 y.to_, .string y.osite, .int .i64 y.ono, .string y.sum] 40)) (w.alloc (.cells #[.string x.site, .int .i64 x.no, .int .i64 x.at_, .int .i64 x.kind, .string x.id, .string x.fld, .string x.val, .int .i64 x.from_, .int .i64 x.to_, .string x.osite, .int .i64 x.ono, .string x.sum] 40)).heap.size y) := deed_new _ y
  have hsz : (w.alloc (.cells #[.string x.site, .int .i64 x.no, .int .i64 x.at_, .int .i64 x.kind, .string x.id, .string x.fld, .string x.val, .int .i64 x.from_, .int .i64 x.to_, .string x.osite, .int .i64 x.ono, .string x.sum] 40)).heap.size = w.heap.size + 1 := by simp
  rw [hsz] at HY
  have HG : Hid (Gr w ((w.alloc (.cells #[.string x.site, .int .i64 x.no, .int .i64 x.at_, .int .i64 x.kind, .string x.id, .string x.fld, .string x.val, .int .i64 x.from_, .int .i64 x.to_, .string x.osite, .int .i64 x.ono, .string x.sum] 40)).alloc (.cells #[.string y.site, .int .i64 y.no, .int .i64 y.at_, .int .i64 y.kind, .string y.id, .string y.fld, .string y.val, .int .i64 y.from_, .int .i64 y.to_, .string y.osite, .int .i64 y.ono, .string y.sum] 40))) := ((Gr.refl w).alloc _).alloc _
  clear hsz
  unfold Deed.v
  go_enter Tryz.func53, Tryz.ntmps53
  go_upto_region 1 with (fail)
  obtain ⟨P, hP⟩ : ∃ P, P = w.heap.size := ⟨_, rfl⟩
  rw [← hP] at HX HY ⊢
  generalize (w.alloc (.cells #[.string x.site, .int .i64 x.no, .int .i64 x.at_, .int .i64 x.kind, .string x.id, .string x.fld, .string x.val, .int .i64 x.from_, .int .i64 x.to_, .string x.osite, .int .i64 x.ono, .string x.sum] 40)).alloc (.cells #[.string y.site, .int .i64 y.no, .int .i64 y.at_, .int .i64 y.kind, .string y.id, .string y.fld, .string y.val, .int .i64 y.from_, .int .i64 y.to_, .string y.osite, .int .i64 y.ono, .string y.sum] 40) = w1 at *
  clear hP
  obtain ⟨a0, a1, a2, a3, a4, a5, a6, a7, a8, a9, a10, a11⟩ := HX.out.c
  obtain ⟨b0, b1, b2, b3, b4, b5, b6, b7, b8, b9, b10, b11⟩ := HY.out.c
  go_wp2_with fail
  refine (byStamp_gr x y w1).mono ?_
  rintro e w2 ⟨rfl, hg2⟩
  have HG2 := Lib.hid (HG.out.trans hg2)
  clear hg2
  go_wp2_with fail
  go_ret
  exact ⟨rfl, HG2.out⟩
theorem mrg_lays (blk off size : Nat) (w : World) : CmpLays Tryz.prog 53 #[] Deed.cells 12 cmpD blk off size w :=
  fun _ _ _ _ x y => mrgClo_gr x y _
theorem sortM_any (base n c : Nat) (A : Option Addr) (l : List Deed) (w : World) (hn : n = l.length) (h : Owns DeedE w base (.slice A n c) l) (hl : n ≤ 100000) :
    Calls Tryz.prog 52 #[.slice A n c, .func (.func 53) #[] #[]] w (SortDPost w A n c l (Value.slice A n c).ownBlock) := by
  subst hn
  rcases Nat.eq_zero_or_pos l.length with h0 | h0
  · have hl := List.eq_nil_of_length_eq_zero h0
    subst hl
    obtain ⟨A', c', he, hcc, hat, _⟩ := h.at_ deedE_ok
    simp only [Value.slice.injEq] at he
    obtain ⟨rfl, _, rfl⟩ := he
    refine (AnyF.slices_SortFunc_none Tryz.sfQ52 A c _ w).mono ?_
    rintro e w' ⟨rfl, hw⟩
    rw [hw]
    exact ⟨rfl, ⟨[], List.Perm.refl _, List.Pairwise.nil, hat⟩, World.grownBy.refl _ _⟩
  · obtain ⟨g, c', he, hgb, hgl, _⟩ := h.where_ deedE_ok h0
    simp only [Value.slice.injEq] at he
    obtain ⟨rfl, _, rfl⟩ := he
    obtain ⟨A', c', he, hcc, hat, _⟩ := h.at_ deedE_ok
    simp only [Value.slice.injEq] at he
    obtain ⟨rfl, _, rfl⟩ := he
    have hlc := hat.2.1
    have hH := h.holdsS deedE_ok
    have eg : ∀ args w, (callFunc 53 args).run Tryz.prog w = .ok (.enter 53 args) w := enters_of Tryz.func53 (by kernel_rfl) rfl
    have hsz : l.toArray.size = l.length := by simp
    have hcon := AnyQ.slices_SortFunc Tryz.sfQ52 12 Tryz.isAgg40 Tryz.sizeOf40 Deed.cells (fun _ => rfl)
      (fun x v hv => deedE_ok.one x v hv) cmpD swoD 53 #[] g 0 c l.toArray w eg (mrg_lays g 0 _ w) hH hgl (by rw [hsz]; omega)
    rw [hsz] at hcon
    refine Calls.mono hcon ?_
    rintro e w' ⟨rfl, d', q, os, hpm, hso, rfl⟩
    have hs : d'.size = l.length := by rw [hpm.1]; exact hsz
    have hH' := holdsK_sortWorldK_c Deed.cells 12 w g 0 l.toArray d' q os hH hgl (by rw [hs, hsz])
    have hel := elems_of_holdsS deedE_ok (c := c) hH' (Nat.lt_of_lt_of_le hgl (size_sortWorldK_c Deed.cells 12 w g 0 q _ os)) (by rw [hs]; exact hlc)
    rw [hs] at hel
    refine ⟨rfl, ⟨d'.toList, ?_, ?_, hel⟩, grown_sortS Deed.cells 12 w g 0 q _ os⟩
    · have h3 := hpm.2.2
      have e1 : d'.extract 0 l.length = d' := by rw [← hs]; simp
      have e2 : l.toArray.extract 0 l.length = l.toArray := by simp
      rw [e1, e2] at h3
      exact h3
    · rw [List.pairwise_iff_getElem]
      intro i j hi hj hij
      have hi' : i < d'.size := by simpa using hi
      have hj' : j < d'.size := by simpa using hj
      have := hso i j (Nat.zero_le _) hij (by omega)
      rw [getElem!_pos d' i hi', getElem!_pos d' j hj'] at this
      simpa using this

def MergeMPost (w : World) (a b : List Deed) (e : Ending) (w' : World) : Prop := ∃ A n c U, e = .returned (.tuple #[.slice A n c, .int .i64 0]) ∧ DeedsAt w' A n c U ∧ RightD U ∧ (∀ x, x ∈ U ↔ x ∈ a ∨ x ∈ b) ∧ Below w.heap.size w w'
/-- Two lists can be put together. -/
structure FitD (a b : List Deed) : Prop where
  left : RightD a
  uniq : ∀ x ∈ a ++ b, ∀ y ∈ a ++ b, x.site = y.site → x.no = y.no → x = y
  small : ∀ x ∈ a ++ b, x.site.size ≤ 1000000 ∧ In64 x.no
  all : ∀ L : List Deed, L.Pairwise StLt → (∀ x, x ∈ L ↔ x ∈ a ∨ x ∈ b) → L.length ≤ 2000 → RightD L
theorem FitD.two {a b : List Deed} (ha : RightD a) (hb : RightD b) (hs : SameD a b) : FitD a b :=
  ⟨ha, union_uniq ha hb hs, fun x hx => by
    rcases List.mem_append.1 hx with h | h
    · exact ⟨site_bound ha h, in64_no ha h⟩
    · exact ⟨site_bound hb h, in64_no hb h⟩, fun L h1 h2 h3 => RightD.union ha hb h1 h2 h3⟩
theorem FitD.of {a b U : List Deed} (ha : RightD a) (hU : RightD U) (hm : ∀ x, x ∈ U ↔ x ∈ a ∨ x ∈ b) : FitD a b :=
  have hin : ∀ x ∈ a ++ b, x ∈ U := fun x hx => (hm x).2 (List.mem_append.1 hx)
  ⟨ha, fun x hx y hy h1 h2 => ord_uniq hU.ord (hin x hx) (hin y hy) h1 h2, fun x hx => ⟨site_bound hU (hin x hx), in64_no hU (hin x hx)⟩, fun L h1 h2 _ => by
    have : L = U := ord_ext h1 hU.ord (fun d => by rw [h2, hm])
    rw [this]; exact hU⟩
theorem findS_hit {O : List Deed} {x y : Deed} (h : findS O x.site x.no = some y) : y ∈ O ∧ y.site = x.site ∧ y.no = x.no := by
  unfold findS at h
  have h1 := List.find?_some h
  have h2 := List.mem_of_find?_eq_some h
  have := hasSt_true h1
  exact ⟨h2, this.1, this.2⟩
theorem findS_miss {O : List Deed} {x : Deed} (h : findS O x.site x.no = none) : NewT O x := fun y hy hyx => by
  unfold findS at h
  rw [List.find?_eq_none] at h
  have := h y hy
  simp [hasSt, hyx.1, hyx.2] at this
/-- A row of deeds lies in no map. -/
theorem deeds_neM {w : World} {A : Option Addr} {n c M : Nat} {l O : List Deed} (h : DeedsAt w A n c l) (hM : DMapAt w M O) (h0 : 0 < n) : ∀ g off, A = some ⟨g, off, none⟩ → g ≠ M := by
  intro g off e hg
  obtain ⟨D, ⟨es, cl, hb, -⟩, -⟩ := hM.ex
  obtain ⟨g', off', rfl, -, hc⟩ := h.2.2.2 h0
  simp only [Option.some.injEq, Addr.mk.injEq] at e
  obtain ⟨rfl, rfl, -⟩ := e
  subst hg
  have hl : 0 < l.length := by have := h.1; omega
  obtain ⟨x, hx⟩ : ∃ x, l[0]? = some x := ⟨_, List.getElem?_eq_getElem hl⟩
  have h1 := hc 0 x 0 (.string x.site) hx rfl
  simp [World.cell?, hb] at h1
/-- Blocks below B are as they were, but M. -/
structure KeepB (w : World) (B M : Nat) (w' : World) : Prop where
  size : w.heap.size ≤ w'.heap.size
  block : ∀ i, i < B → i ≠ M → w'.heap[i]? = w.heap[i]?
theorem KeepB.below {w w' w2 : World} {B M : Nat} (h : KeepB w B M w') (hB : B ≤ w.heap.size) (hb : Below w'.heap.size w' w2) : KeepB w B M w2 := ⟨Nat.le_trans h.size hb.size, fun i hi hne => (hb.block i (by have := h.size; omega)).trans (h.block i hi hne)⟩
theorem KeepB.grown {w w' w2 : World} {B M : Nat} {row : Option Nat} (h : KeepB w B M w') (hB : B ≤ w.heap.size) (hb : w'.grownBy w2 row) (hr : ∀ i, row = some i → i = M ∨ B ≤ i) : KeepB w B M w2 :=
  ⟨Nat.le_trans h.size hb.size, fun i hi hne => (hb.block i (by have := h.size; omega) (fun e => by rcases hr i e.symm with k | k <;> omega)).trans (h.block i hi hne)⟩
theorem ElemsAt.keepB {w w' : World} {A : Option Addr} {n c M : Nat} {l : List Deed} (h : DeedsAt w A n c l) (hne : 0 < n → ∀ g off, A = some ⟨g, off, none⟩ → g ≠ M) (hk : KeepB w w.heap.size M w') : DeedsAt w' A n c l := by
  refine ⟨h.1, h.2.1, h.2.2.1, fun h0 => ?_⟩
  obtain ⟨g, off, rfl, hg, hc⟩ := h.2.2.2 h0
  exact ⟨g, off, rfl, Nat.lt_of_lt_of_le hg hk.size, fun k x i v hx hv => (World.cell?_of_block (hk.block g hg (hne h0 g off rfl))).trans (hc k x i v hx hv)⟩
def ListOkAll (w : World) : Prop := ∀ wx, Below w.heap.size w wx → ∀ (A : Option Addr) (n c : Nat) (l : List Deed), DeedsAt wx A n c l → RightD l → CheckOk wx A n c
set_option maxHeartbeats 6400000 in
set_option maxRecDepth 100000 in
theorem mergeM_of (Aa : Option Addr) (na ca : Nat) (a : List Deed) (Ab : Option Addr) (nb cb : Nat) (b : List Deed) (w : World) (hA : DeedsAt w Aa na ca a) (hB : DeedsAt w Ab nb cb b) (hF : FitD a b) (hl : na + nb ≤ 2000) (hLE : ListOkAll w) :
    Calls Tryz.prog 17 #[.slice Aa na ca, .slice Ab nb cb] w (MergeMPost w a b) := by
  have HNA : Hid (na = a.length) := hA.1
  have HNB : Hid (nb = b.length) := hB.1
  have HF := Lib.hid hF
  have HLE := Lib.hid hLE
  have HLA := Lib.hid (listError_ok Aa na ca w (hLE w (Below.refl _ _) Aa na ca a hA hF.left))
  have HLL : Hid ((a ++ b).length = na + nb) := by show _ = _; rw [List.length_append, HNA.out, HNB.out]
  have hbig : ¬ (2000 : Int) < (nb : Int) := by omega
  have HA0 := Lib.hid hA
  have HB0 := Lib.hid hB
  have hmm := @run_makeMap Tryz.prog
  clear hA hB hF hLE
  go_enter Tryz.func17, Tryz.ntmps17
  go_wp2_with fail
  refine HLA.out.mono ?_
  rintro e w0 ⟨rfl, hb0⟩
  have HB00 := Lib.hid hb0
  clear hb0 HLA
  go_wp2_with fail
  rw [show decide ((2000 : Int) < (nb : Int)) = false from decide_eq_false (by omega)]
  refine (when_none _ _).mono ?_
  rintro e wz ⟨rfl, hwz⟩
  obtain rfl := hwz.symm
  go_wp2_with fail
  refine (first_2D 0 0 0 _ _ rfl rfl _).mono ?_
  rintro e wz ⟨rfl, hwz⟩
  obtain rfl := hwz.symm
  have HB1 : Hid (Below w.heap.size w (w0.alloc (.cells #[.int .i64 0, .int .i64 0] 29))) := HB00.out.alloc HB00.out.size _
  clear HB00
  go_upto_region 4 with (fail)
  generalize w0.alloc (.cells #[.int .i64 0, .int .i64 0] 29) = w1 at *
  have hz1 : (w1.alloc (.map #[] 0)).heap.size = w1.heap.size + 1 := by simp
  have hbm : Below w1.heap.size w1 (w1.alloc (.map #[] 0)) := (Below.refl _ _).alloc (Nat.le_refl _) _
  have hal : Below w1.heap.size w1 ((w1.alloc (.map #[] 0)).alloc (.cells #[.slice Aa na ca, .slice Ab nb cb] 26)) := hbm.alloc (by simp) _
  have HTB : Hid (TabD ((w1.alloc (.map #[] 0)).alloc (.cells #[.slice Aa na ca, .slice Ab nb cb] 26)) (some ⟨w1.heap.size + 1, 0, none⟩) 2 2 [a, b]) := by
    have hx : Below w.heap.size w ((w1.alloc (.map #[] 0)).alloc (.cells #[.slice Aa na ca, .slice Ab nb cb] 26)) := HB1.out.trans (hal.mono HB1.out.size)
    refine ⟨rfl, fun _ => ⟨w1.heap.size + 1, 0, rfl, by simp, fun k hk => ?_⟩⟩
    match k, hk with
    | 0, _ => exact ⟨Aa, na, ca, by rw [World.cell?_alloc_at _ _ _ _ hz1.symm]; rfl, ElemsAt.keep HA0.out hx⟩
    | 1, _ => exact ⟨Ab, nb, cb, by rw [World.cell?_alloc_at _ _ _ _ hz1.symm]; rfl, ElemsAt.keep HB0.out hx⟩
  have HM1 : Hid (DMapAt ((w1.alloc (.map #[] 0)).alloc (.cells #[.slice Aa na ca, .slice Ab nb cb] 26)) w1.heap.size []) := (DMapAt.start w1).below ((Below.refl _ _).alloc (Nat.le_refl _) _)
  have HB2 : Hid (Below w1.heap.size w1 ((w1.alloc (.map #[] 0)).alloc (.cells #[.slice Aa na ca, .slice Ab nb cb] 26))) := hal
  have HCC := Lib.hid (concatD_any (some ⟨w1.heap.size + 1, 0, none⟩) 2 2 [a, b] _ HTB.out (by omega) (by have := HNA.out; have := HNB.out; simp; omega))
  have hml : w1.heap.size < ((w1.alloc (.map #[] 0)).alloc (.cells #[.slice Aa na ca, .slice Ab nb cb] 26)).heap.size := by simp; omega
  clear hal hbm HTB HA0 HB0
  go_wp2_with fail
  try rw [hz1]
  refine HCC.out.mono ?_
  rintro e w3 ⟨v1, rfl, hown1, hb3⟩
  have hown2 : Owns DeedE w3 ((w1.alloc (.map #[] 0)).alloc (.cells #[.slice Aa na ca, .slice Ab nb cb] 26)).heap.size v1 (a ++ b) := by
    have e : ([a, b] : List (List Deed)).flatten = a ++ b := by simp
    rw [e] at hown1
    exact hown1
  obtain ⟨A1, c1, hv1, -, hat1, -⟩ := hown2.at_ deedE_ok
  subst hv1
  rw [HLL.out] at hat1 ⊢
  have HAT1 := Lib.hid hat1
  have HM3 := Lib.hid (HM1.out.below hb3)
  have HB3 : Hid (Below w1.heap.size w1 w3) := HB2.out.trans (hb3.mono HB2.out.size)
  have HML3 : Hid (w1.heap.size < w3.heap.size) := Nat.lt_of_lt_of_le hml hb3.size
  have HNM := Lib.hid (fun h0 => deeds_neM HAT1.out HM3.out h0)
  clear hown1 hown2 hb3 hat1 HCC HB2 HM1 hml hz1 HNA HNB
  obtain ⟨M, hM⟩ : ∃ M, M = w1.heap.size := ⟨_, rfl⟩
  have HMW : Hid (w1.heap.size ≤ M) := by show _ ≤ _; omega
  rw [← hM] at HM3 HML3 HNM ⊢
  clear hM
  obtain ⟨N, hN⟩ : ∃ N, N = na + nb := ⟨_, rfl⟩
  rw [← hN] at HAT1 HLL hl HNM ⊢
  clear hN
  go_wp2_with fail
  go_loopg [8, 31] N (fun gk v8 v wr => ∃ (k : Nat) (O : List Deed), Hid (k + gk = N) ∧ v = .int .i64 (k : Int) ∧ Hid (Owns DeedE wr w3.heap.size v8 O) ∧ Hid (O.Nodup ∧ (∀ d, d ∈ O ↔ d ∈ (a ++ b).take k) ∧ O.length ≤ k) ∧ Hid (DMapAt wr M O) ∧ Hid (KeepB w3 w3.heap.size M wr) ∧ Hid (Below w1.heap.size w1 wr))
  case atStart => exact ⟨0, [], show 0 + N = N by omega, rfl, Owns.nil _ _, ⟨List.nodup_nil, fun d => by simp, Nat.le_refl _⟩, HM3.out, ⟨Nat.le_refl _, fun _ _ _ => rfl⟩, HB3.out⟩
  case round =>
    obtain ⟨k, O, HK, rfl, HO, HS, HM, HKB, HW⟩ := hrel
    clear HB3 HM3
    have hkn : k ≤ N := by have := HK.out; omega
    by_cases hlt : k < N
    · have HGK := Lib.hid (show k + 1 + (gk - 1) = N ∧ 0 < gk by have := HK.out; omega)
      obtain ⟨g, off, rfl, hg, hc⟩ := (ElemsAt.keepB HAT1.out HNM.out HKB.out).deed (by omega)
      have hkl : k < (a ++ b).length := by rw [HLL.out]; exact hlt
      obtain ⟨x, hx⟩ : ∃ x, (a ++ b)[k]? = some x := ⟨_, List.getElem?_eq_getElem hkl⟩
      obtain ⟨c0, c1', c2, c3, c4, c5, c6, c7, c8, c9, c10, c11⟩ := hc k x hx
      have HXM := Lib.hid (List.mem_of_getElem? hx)
      have hxs := (HF.out.small x HXM.out).1
      have hxn := (HF.out.small x HXM.out).2
      have HTK : Hid ((a ++ b).take (k + 1) = (a ++ b).take k ++ [x]) := take_snocD hx
      have hal : Below wr.heap.size wr (wr.alloc (.cells #[.string x.site, .int .i64 x.no, .int .i64 x.at_, .int .i64 x.kind, .string x.id, .string x.fld, .string x.val, .int .i64 x.from_, .int .i64 x.to_, .string x.osite, .int .i64 x.ono, .string x.sum] 40)) := (Below.refl _ _).alloc (Nat.le_refl _) _
      have HX2 : Hid (DeedAt (wr.alloc (.cells #[.string x.site, .int .i64 x.no, .int .i64 x.at_, .int .i64 x.kind, .string x.id, .string x.fld, .string x.val, .int .i64 x.from_, .int .i64 x.to_, .string x.osite, .int .i64 x.ono, .string x.sum] 40)) wr.heap.size x) := deed_new wr x
      have HO2 := Lib.hid (HO.out.below_ hal)
      have HM2 := Lib.hid (HM.out.below hal)
      have HK2 := Lib.hid (HKB.out.below (Nat.le_refl _) hal)
      have HW2 := Lib.hid (HW.out.trans (hal.mono HW.out.size))
      clear hc hkl hx hg hal HO HK HM HKB HW
      go_upto_region 9 with (fail)
      obtain ⟨P, hP⟩ : ∃ P, P = wr.heap.size := ⟨_, rfl⟩
      rw [← hP] at HX2 ⊢
      generalize wr.alloc (.cells #[.string x.site, .int .i64 x.no, .int .i64 x.at_, .int .i64 x.kind, .string x.id, .string x.fld, .string x.val, .int .i64 x.from_, .int .i64 x.to_, .string x.osite, .int .i64 x.ono, .string x.sum] 40) = w2 at *
      clear hP c0 c1' c2 c3 c4 c5 c6 c7 c8 c9 c10 c11
      obtain ⟨a0, a1, a2, a3, a4, a5, a6, a7, a8, a9, a10, a11⟩ := HX2.out.c
      cases hf : findS O x.site x.no with
      | some y =>
        have hhit := findS_hit hf
        have hyx : y = x := HF.out.uniq y (List.mem_of_mem_take ((HS.out.2.1 y).1 hhit.1)) x HXM.out hhit.2.1 hhit.2.2
        subst hyx
        have HYO := Lib.hid hhit.1
        have hlook : (Instr.lookup 89 (.map (some M)) (.agg #[.string y.site, .int .i64 y.no]) true).run Tryz.prog w2 = .ok (.tuple #[.agg #[.string y.site, .int .i64 y.no, .int .i64 y.at_, .int .i64 y.kind, .string y.id, .string y.fld, .string y.val, .int .i64 y.from_, .int .i64 y.to_, .string y.osite, .int .i64 y.ono, .string y.sum], .bool true]) w2 := HM2.out.hit hxs hxn 0 hf
        have hal : Below w2.heap.size w2 (w2.alloc (.cells #[.string y.site, .int .i64 y.no, .int .i64 y.at_, .int .i64 y.kind, .string y.id, .string y.fld, .string y.val, .int .i64 y.from_, .int .i64 y.to_, .string y.osite, .int .i64 y.ono, .string y.sum] 40)) := (Below.refl _ _).alloc (Nat.le_refl _) _
        have HY3 : Hid (DeedAt (w2.alloc (.cells #[.string y.site, .int .i64 y.no, .int .i64 y.at_, .int .i64 y.kind, .string y.id, .string y.fld, .string y.val, .int .i64 y.from_, .int .i64 y.to_, .string y.osite, .int .i64 y.ono, .string y.sum] 40)) w2.heap.size y) := deed_new w2 y
        have HX3 := Lib.hid (HX2.out.keep hal)
        have HO3 := Lib.hid (HO2.out.below_ hal)
        have HM3 := Lib.hid (HM2.out.below hal)
        have HK3 := Lib.hid (HK2.out.below (Nat.le_refl _) hal)
        have HW3 := Lib.hid (HW2.out.trans (hal.mono HW2.out.size))
        clear hf hhit hal HX2 HO2 HM2 HK2 HW2
        go_upto_region 10 with (fail)
        obtain ⟨Q, hQ⟩ : ∃ Q, Q = w2.heap.size := ⟨_, rfl⟩
        rw [← hQ] at HY3 ⊢
        generalize w2.alloc (.cells #[.string y.site, .int .i64 y.no, .int .i64 y.at_, .int .i64 y.kind, .string y.id, .string y.fld, .string y.val, .int .i64 y.from_, .int .i64 y.to_, .string y.osite, .int .i64 y.ono, .string y.sum] 40) = w4 at *
        clear hQ hlook a0 a1 a2 a3 a4 a5 a6 a7 a8 a9 a10 a11
        obtain ⟨a0, a1, a2, a3, a4, a5, a6, a7, a8, a9, a10, a11⟩ := HX3.out.c
        obtain ⟨b0, b1, b2, b3, b4, b5, b6, b7, b8, b9, b10, b11⟩ := HY3.out.c
        have HSN : Hid (O.Nodup ∧ (∀ d, d ∈ O ↔ d ∈ (a ++ b).take (k + 1)) ∧ O.length ≤ k + 1) := by
          refine ⟨HS.out.1, fun d => ?_, Nat.le_succ_of_le HS.out.2.2⟩
          rw [HTK.out, List.mem_append, ← HS.out.2.1 d, List.mem_singleton]
          exact ⟨.inl, fun h => h.elim (fun h => h) (fun h => by rw [h]; exact HYO.out)⟩
        go_wp2_with fail
        go_roundg (gk - 1)
        case measure => exact Nat.sub_lt HGK.out.2 Nat.one_pos
        case rel => exact ⟨k + 1, O, HGK.out.1, by go_num, HO3.out, HSN.out, HM3.out, HK3.out, HW3.out⟩
      | none =>
        have HNW := Lib.hid (findS_miss hf)
        have hlook : (Instr.lookup 89 (.map (some M)) (.agg #[.string x.site, .int .i64 x.no]) true).run Tryz.prog w2 = .ok (.tuple #[.agg #[.string ⟨#[]⟩, .int .i64 0, .int .i64 0, .int .i64 0, .string ⟨#[]⟩, .string ⟨#[]⟩, .string ⟨#[]⟩, .int .i64 0, .int .i64 0, .string ⟨#[]⟩, .int .i64 0, .string ⟨#[]⟩], .bool false]) w2 := HM2.out.miss hxs hxn 0 hf
        have hal : Below w2.heap.size w2 (w2.alloc (.cells #[.string ⟨#[]⟩, .int .i64 0, .int .i64 0, .int .i64 0, .string ⟨#[]⟩, .string ⟨#[]⟩, .string ⟨#[]⟩, .int .i64 0, .int .i64 0, .string ⟨#[]⟩, .int .i64 0, .string ⟨#[]⟩] 40)) := (Below.refl _ _).alloc (Nat.le_refl _) _
        have HX3 := Lib.hid (HX2.out.keep hal)
        have HO3 := Lib.hid (HO2.out.below_ hal)
        have HM3 := Lib.hid (HM2.out.below hal)
        have HK3 := Lib.hid (HK2.out.below (Nat.le_refl _) hal)
        have HW3 := Lib.hid (HW2.out.trans (hal.mono HW2.out.size))
        clear hf hal HX2 HO2 HM2 HK2 HW2
        go_upto_region 10 with (fail)
        generalize w2.alloc (.cells #[.string ⟨#[]⟩, .int .i64 0, .int .i64 0, .int .i64 0, .string ⟨#[]⟩, .string ⟨#[]⟩, .string ⟨#[]⟩, .int .i64 0, .int .i64 0, .string ⟨#[]⟩, .int .i64 0, .string ⟨#[]⟩] 40) = w4 at *
        clear hlook a0 a1 a2 a3 a4 a5 a6 a7 a8 a9 a10 a11
        obtain ⟨a0, a1, a2, a3, a4, a5, a6, a7, a8, a9, a10, a11⟩ := HX3.out.c
        have HSN : Hid ((O ++ [x]).Nodup ∧ (∀ d, d ∈ O ++ [x] ↔ d ∈ (a ++ b).take (k + 1)) ∧ (O ++ [x]).length ≤ k + 1) := by
          refine ⟨?_, fun d => ?_, by rw [List.length_append]; exact Nat.add_le_add_right HS.out.2.2 1⟩
          · rw [List.nodup_append]
            refine ⟨HS.out.1, by simp, fun y hy z hz e => ?_⟩
            rw [List.mem_singleton] at hz
            subst hz
            subst e
            exact HNW.out y hy ⟨rfl, rfl⟩
          · rw [HTK.out, List.mem_append, List.mem_append, HS.out.2.1 d]
        have hol : O.length ≤ 2000 := by have := HS.out.2.2; omega
        obtain ⟨D, hD⟩ := HM3.out.ex
        have HD := Lib.hid hD
        have HKEY := Lib.hid (keyK_mk x.site x.no hxs hxn)
        have HXN := Lib.hid hxn
        clear hD HS hxn
        go_upto_region 14 with (at_mapUpdate; refine wpList_mapUpdate_own _ rfl _ _ _ 89 rfl 36 40 keyK Tryz.underlying89 _ M O.length D rfl HD.out.1 (by simp only [maxLen]; omega) _ _ (keyT x.site.data.toList x.no) rfl rfl HKEY.out (.held x.v) [] rfl ?_; intro w5 hown5 hgrow5)
        have HM5 : Hid (DMapAt w5 M (O ++ [x])) := DMapAt.put x hxs HXN.out HNW.out HD.out.1 HD.out.2.1 HD.out.2.2 hown5
        have HX5 : Hid (DeedAt w5 P x) := (hgrow5.block P HX3.out.lt (fun e => by have h1 : P = M := Option.some.inj e; have h2 := HX3.out; unfold DeedAt at h2; obtain ⟨D', ⟨es, cl, hb, -⟩, -⟩ := HM3.out.ex; rw [h1, hb] at h2; cases h2)).trans HX3.out
        have HO5 := Lib.hid (HO3.out.kept_ hgrow5 (fun i e => by have := Option.some.inj e; have := HML3.out; omega))
        have HK5 := Lib.hid (HK3.out.grown (Nat.le_refl _) hgrow5 (fun i e => .inl (Option.some.inj e).symm))
        have HW5 : Hid (Below w1.heap.size w1 w5) := HW3.out.grown hgrow5 HW3.out.size (fun i e => by have := Option.some.inj e; have := HMW.out; omega)
        clear hown5 hgrow5 HX3 HO3 HM3 HK3 HW3 HD a0 a1 a2 a3 a4 a5 a6 a7 a8 a9 a10 a11
        obtain ⟨a0, a1, a2, a3, a4, a5, a6, a7, a8, a9, a10, a11⟩ := HX5.out.c
        have hal : Below w5.heap.size w5 (w5.alloc (.cells #[.string x.site, .int .i64 x.no, .int .i64 x.at_, .int .i64 x.kind, .string x.id, .string x.fld, .string x.val, .int .i64 x.from_, .int .i64 x.to_, .string x.osite, .int .i64 x.ono, .string x.sum] 40)) := (Below.refl _ _).alloc (Nat.le_refl _) _
        have HOA := Lib.hid (HO5.out.below_ hal)
        have HMA := Lib.hid (HM5.out.below hal)
        have HKA := Lib.hid (HK5.out.below (Nat.le_refl _) hal)
        have HWA := Lib.hid (HW5.out.trans (hal.mono HW5.out.size))
        have HONE : Hid (ElemsAt DeedE (w5.alloc (.cells #[.string x.site, .int .i64 x.no, .int .i64 x.at_, .int .i64 x.kind, .string x.id, .string x.fld, .string x.val, .int .i64 x.from_, .int .i64 x.to_, .string x.osite, .int .i64 x.ono, .string x.sum] 40)) (some ⟨w5.heap.size, 0, none⟩) 1 1 [x]) := one_elem (E := DeedE) w5 x
        have hzz := HKA.out.size
        clear hal HO5 HM5 HK5 HW5
        go_wp2_with (at_builtin; refine append_elems deedE_ok rfl _ _ rfl w3.heap.size u8 O rfl HOA.out (some ⟨w5.heap.size, 0, none⟩) 1 1 [x] rfl HONE.out (by simp; omega) hzz ?_; intro v6 w6 hown6 hgrow6 hv6)
        have HO6 := Lib.hid hown6
        have HOL : Hid (∀ i, u8.ownBlock = some i → w3.heap.size ≤ i) := fun i e => (HOA.out.lt i e).1
        have HM6 := Lib.hid (HMA.out.kept hgrow6 (fun e => by have := HOL.out M e; have := HML3.out; omega))
        have HK6 := Lib.hid (HKA.out.grown (Nat.le_refl _) hgrow6 (fun i e => .inr (HOL.out i e)))
        have HW6 : Hid (Below w1.heap.size w1 w6) := HWA.out.grown hgrow6 HWA.out.size (fun i e => by have := HOL.out i e; have := HML3.out; have := HMW.out; omega)
        clear hown6 hgrow6 hv6
        go_wp2_with fail
        go_roundg (gk - 1)
        case measure => exact Nat.sub_lt HGK.out.2 Nat.one_pos
        case rel => exact ⟨k + 1, O ++ [x], HGK.out.1, by go_num, HO6.out, HSN.out, HM6.out, HK6.out, HW6.out⟩
    · have hnk : ¬ (k : Int) < (N : Int) := by omega
      have hta : (a ++ b).take k = a ++ b := List.take_of_length_le (by have := HLL.out; omega)
      have hst := HS.out
      rw [hta] at hst
      have HSU := Lib.hid hst
      have hol : O.length ≤ 2000 := by have := hst.2.2; omega
      obtain ⟨A6, c6, hv6, -, hat6, -⟩ := HO.out.at_ deedE_ok
      have HO2' := HO.out
      rw [hv6] at HO2'
      have HSO := Lib.hid (sortM_any w3.heap.size O.length c6 A6 O wr rfl HO2' (by omega))
      have HOL : Hid (∀ i, (Value.slice A6 O.length c6).ownBlock = some i → w1.heap.size ≤ i) := fun i e => by have := (HO2'.lt i e).1; have := HML3.out; have := HMW.out; omega
      have HOLE : Hid (O.length ≤ 2000) := hol
      clear HO2' hat6 hst hta HS HK HO HM HKB
      subst hv6
      obtain ⟨m, hm⟩ : ∃ m, m = O.length := ⟨_, rfl⟩
      rw [← hm] at HSO HOL hol ⊢
      clear hm
      go_wp2_with fail
      refine HSO.out.mono ?_
      rintro e w4 ⟨rfl, ⟨L, hperm, hsort, hatL⟩, hg4⟩
      have hstr : L.Pairwise StLt := sorted_strict hperm hsort (fun x hx y hy h1 h2 => HF.out.uniq x ((HSU.out.2.1 x).1 hx) y ((HSU.out.2.1 y).1 hy) h1 h2) HSU.out.1
      have hmem : ∀ x, x ∈ L ↔ x ∈ a ∨ x ∈ b := fun x => by rw [hperm.mem_iff, HSU.out.2.1 x, List.mem_append]
      have hll : L.length ≤ 2000 := by rw [hperm.length_eq]; exact HOLE.out
      have HRL := Lib.hid (HF.out.all L hstr hmem hll)
      have HML := Lib.hid hmem
      have HW4 : Hid (Below w1.heap.size w1 w4) := HW.out.grown hg4 HW.out.size (fun i e => HOL.out i e)
      have HB4 : Hid (Below w.heap.size w w4) := HB1.out.trans (HW4.out.mono HB1.out.size)
      have HATL := Lib.hid hatL
      have HFO := Lib.hid (listError_ok _ _ _ _ (HLE.out w4 HB4.out A6 m c6 L hatL HRL.out))
      clear hperm hsort hatL hg4 hstr hmem hll HSO
      go_wp2_with fail
      refine HFO.out.mono ?_
      rintro e w5 ⟨rfl, hb5⟩
      have HP : Hid (MergeMPost w a b (.returned (.tuple #[.slice A6 m c6, .int .i64 0])) w5) := ⟨A6, m, c6, L, rfl, ElemsAt.keep HATL.out hb5, HRL.out, HML.out, HB4.out.trans (hb5.mono HB4.out.size)⟩
      clear hb5
      go_wp2_with fail
      go_ret2
      exact HP.out
end Go.Proofs.YthogkcgklakibaaGreatDoor

namespace Go.Proofs.YthogkcgklakibaaGreatDoor
open Go.RowKit

def IntE : Elem Int := ⟨3, 22, 1, 8, .int .i64 0, fun z => [.int .i64 z]⟩
theorem intE_ok : IntE.Ok := ⟨fun _ => rfl, fun x u hu => by simp [IntE] at hu; subst hu; rfl, by decide, by decide, by kernel_rfl, by kernel_rfl, Tryz.underlying22⟩
theorem intE_cells (l : List Int) : IntE.cells l = l.map (Value.int .i64) := by
  induction l with
  | nil => rfl
  | cons x l ih => simp only [Elem.cells, List.flatMap_cons, List.map_cons] at *; rw [ih]; rfl
theorem Owns.ints {w : World} {base : Nat} {v : Value} {l : List Int} (h : Owns IntE w base v l) (h0 : 0 < l.length) : ∃ G c, v = .slice (some ⟨G, 0, none⟩) l.length c ∧ base ≤ G ∧ G < w.heap.size ∧ ∀ k, k < l.length → w.cell? ⟨G, k, none⟩ = some (.int .i64 (l.getD k 0)) ∧ w.frozen? ⟨G, k, none⟩ = false := by
  rcases h.2 with ⟨rfl, hn⟩ | ⟨g, cap, cur, rfl, hbase, hb, h1, h2, h3, h4⟩
  · omega
  · refine ⟨g, cap, rfl, hbase, (Array.getElem?_eq_some_iff.1 hb).1, fun k hk => ⟨?_, by simp [World.frozen?, hb]⟩⟩
    rw [cell_of_row w g k _ _ _ hb]
    have h5 := congrArg (fun x => x[k]?) h4
    rw [show l.length * IntE.size = l.length from Nat.mul_one _, intE_cells] at h5
    simp only [List.getElem?_take_of_lt hk, List.getElem?_map, List.getElem?_eq_getElem hk, Option.map_some] at h5
    rw [← Array.getElem?_toList, h5]
    simp [hk]
theorem Owns.setInt {w : World} {base G c n : Nat} {l : List Int} (h : Owns IntE w base (.slice (some ⟨G, 0, none⟩) n c) l) (k : Nat) (z : Int) : Owns IntE (w.setCell ⟨G, k, none⟩ (.int .i64 z)) base (.slice (some ⟨G, 0, none⟩) n c) (l.set k z) := by
  have hl := h.1
  refine ⟨by rw [Elem.cells_length intE_ok], ?_⟩
  rcases h.2 with ⟨h0, _⟩ | ⟨g, cap, cur, he, hbase, hb, h1, h2, h3, h4⟩
  · cases h0
  · simp only [Value.slice.injEq, Option.some.injEq, Addr.mk.injEq] at he
    obtain ⟨⟨rfl, _⟩, hn, rfl⟩ := he
    refine .inr ⟨G, c, cur.setIfInBounds k (.int .i64 z), by rw [List.length_set, ← hn], hbase, by simp [World.setCell, Array.getElem?_modify, hb], by rw [List.length_set]; exact h1, h2, by simpa using h3, ?_⟩
    rw [List.length_set, show l.length * IntE.size = l.length from Nat.mul_one _] at *
    rw [intE_cells] at h4 ⊢
    rw [Array.toList_setIfInBounds, List.take_set, h4, List.map_set]

def OrderPost (w : World) (g : Nat) (A : Option Addr) (n c K m : Nat) (e : Ending) (w' : World) : Prop :=
  ∃ (v : Value) (l : List Int), e = .returned v ∧ Owns IntE w' w.heap.size v l ∧ l.Perm ((List.range m).map Int.ofNat) ∧ StreamAt w' g A n c (K + m) ∧ w.grownBy w' (some g)

set_option maxHeartbeats 3200000 in
set_option maxRecDepth 100000 in
theorem order_any (g : Nat) (A : Option Addr) (n c K m : Nat) (w : World) (hs : StreamAt w g A n c K) (hK : K ≤ 100000) (hm : m ≤ 1000) :
    Calls Tryz.prog 25 #[.pointer (some ⟨g, 0, none⟩), .int .i64 m] w (OrderPost w g A n c K m) := by
  have hgw := hs.lt
  go_enter Tryz.func25, Tryz.ntmps25
  go_wp2_with fail
  go_loopg [5, 10] m (fun gk v i wr => ∃ k : Nat, Hid (k + gk = m) ∧ i = .int .i64 k ∧ Owns IntE wr w.heap.size v ((List.range k).map Int.ofNat) ∧ Below w.heap.size w wr)
  case atStart => exact ⟨0, show 0 + m = m by omega, rfl, Owns.nil _ _, Below.refl _ _⟩
  case round =>
    obtain ⟨k, HK, rfl, hown, hb⟩ := hrel
    have hkm : k ≤ m := by have := HK.out; omega
    have hzb := hb.size
    have HO := Lib.hid hown; clear hown
    by_cases hlt : k < m
    · have HR : Hid ((List.range (k + 1)).map Int.ofNat = (List.range k).map Int.ofNat ++ [(k : Int)]) := by show _ = _; rw [List.range_succ, List.map_append]; rfl
      go_wp2_with (at_builtin; refine append_elems intE_ok rfl _ _ rfl w.heap.size _ ((List.range k).map Int.ofNat) rfl (World.ownsRow.alloc HO.out _) (some ⟨wr.heap.size, 0, none⟩) 1 1 [(k : Int)] rfl (one_elem (E := IntE) wr (k : Int)) (by simp; omega) (by simp; omega) ?_; intro v4 w4 hown4 hgrow4 _)
      have hb4 : Below w.heap.size w w4 := (hb.alloc hb.size _).grown hgrow4 (by simp; omega) (fun i hi => (HO.out.lt i hi).1)
      have HO4 := Lib.hid hown4; clear hown4
      go_wp2_with fail
      go_roundg (gk - 1)
      case measure => have := HK.out; omega
      case rel => exact ⟨k + 1, show k + 1 + (gk - 1) = m by have := HK.out; omega, by go_num, by rw [HR.out]; exact HO4.out, hb4⟩
    · have hke : k = m := by omega
      rw [hke] at HO
      clear hke
      have hgr : w.grownBy wr (some g) := below_grown hb _
      have hsr := hs.below hb
      obtain ⟨wo, rfl⟩ : ∃ wo : World, wo = wr := ⟨_, rfl⟩
      obtain ⟨ko, rfl⟩ : ∃ ko : Nat, ko = gk := ⟨_, rfl⟩
      go_wp2_with fail
      go_loopg [7] m (fun gk v7 wr => ∃ (p : Nat) (z : Int) (l : List Int), p ≤ gk ∧ p ≤ m ∧ v7 = .int .i64 z ∧ z + 1 = p ∧ Owns IntE wr w.heap.size u5 l ∧ Hid (l.Perm ((List.range m).map Int.ofNat)) ∧ StreamAt wr g A n c (K + (m - p)) ∧ w.grownBy wr (some g))
      case atStart => exact ⟨m, (m : Int) - 1, _, Nat.le_refl _, Nat.le_refl _, rfl, by omega, HO.out, List.Perm.refl _, hsr.more (by omega), hgr⟩
      case round =>
        obtain ⟨p, z, l, hpg, hpm, rfl, hzp, hownl, HP, hsl, hgl⟩ := hrel
        have HPG := Lib.hid hpg; clear hpg
        have hlen : l.length = m := by have := HP.out.length_eq; simpa using this
        by_cases hz0 : 0 < z
        · obtain ⟨i, rfl⟩ := Int.eq_ofNat_of_zero_le (show 0 ≤ z by omega)
          obtain rfl : p = i + 1 := by omega
          clear hzp
          have HLEN := Lib.hid hlen; clear hlen
          have HOL := Lib.hid hownl; clear hownl
          go_wp2_with fail
          refine (next_any g A n c (K + (m - (i + 1))) ((i : Int) + 1) wr hsl (by omega) (by omega)).mono ?_
          rintro e w2 ⟨r, rfl, hr0, hr1, hs2, hg2⟩
          have hr1 := hr1 (by omega)
          obtain ⟨k2, rfl⟩ := Int.eq_ofNat_of_zero_le hr0
          have hown2 : Owns IntE w2 w.heap.size u5 l := HOL.out.kept_ hg2 (fun q hq => by cases hq; exact hgw)
          have hgl2 : w.grownBy w2 (some g) := grown_trans hgl hg2
          obtain ⟨G, cc, rfl, hGb, hGl, hGc⟩ := hown2.ints (by have := HLEN.out; omega)
          have ci := hGc i (by have := HLEN.out; omega)
          have ck := hGc k2 (by have := HLEN.out; omega)
          have HSW : Hid (((l.set i (l.getD k2 0)).set k2 (l.getD i 0)).Perm ((List.range m).map Int.ofNat)) := by
            have h1 : i < l.length := by have := HLEN.out; omega
            have h2 : k2 < l.length := by have := HLEN.out; omega
            have h3 : ((l.set i (l.getD k2 0)).set k2 (l.getD i 0)).Perm l := by
              simp only [List.getD_eq_getElem?_getD, List.getElem?_eq_getElem h1, List.getElem?_eq_getElem h2, Option.getD_some]
              exact List.set_set_perm h1 h2
            exact h3.trans HP.out
          generalize hzi : l.getD i 0 = zi at *
          generalize hzk : l.getD k2 0 = zk at *
          clear hzi hzk hGc
          obtain ⟨ci1, ci2⟩ := ci
          obtain ⟨ck1, ck2⟩ := ck
          have HO2 := Lib.hid hown2; clear hown2
          have b1 : (i : Int) < (l.length : Int) := by have := HLEN.out; omega
          have b2 : (k2 : Int) < (l.length : Int) := by have := HLEN.out; omega
          have hfin : ∀ q, Owns IntE (((w2.setCell ⟨G, i, none⟩ (.int .i64 zk)).setCell ⟨G, k2, none⟩ (.int .i64 zi)).drewN q) w.heap.size (.slice (some ⟨G, 0, none⟩) l.length cc) ((l.set i zk).set k2 zi) ∧ StreamAt (((w2.setCell ⟨G, i, none⟩ (.int .i64 zk)).setCell ⟨G, k2, none⟩ (.int .i64 zi)).drewN q) g A n c (K + (m - (i + 1)) + 1) ∧ w.grownBy (((w2.setCell ⟨G, i, none⟩ (.int .i64 zk)).setCell ⟨G, k2, none⟩ (.int .i64 zi)).drewN q) (some g) := fun q => by
            have hgg : w2.grownBy ((w2.setCell ⟨G, i, none⟩ (.int .i64 zk)).setCell ⟨G, k2, none⟩ (.int .i64 zi)) (some G) := grown_trans (grown_setCell _ _ _ _) (grown_setCell _ _ _ _)
            exact ⟨(HO2.out.setInt i zk).setInt k2 zi, (hs2.row_ hgg (fun q hq => by cases hq; omega)).keep fun _ _ => rfl, grown_drewN (grown_row hgl2 hgg (fun q hq => by cases hq; omega)) q⟩
          have HFIN := Lib.hid hfin; clear hfin
          by_cases hik : k2 = i
          · subst hik
            obtain rfl : zi = zk := by rw [ci1] at ck1; cases ck1; rfl
            clear ck1 ck2
            go_wp2_with fail
            go_region
            go_wp2_with fail
            go_roundg (gk - 1)
            case measure => have := HPG.out; omega
            case rel => exact ⟨k2, (k2 : Int) - 1, _, by have := HPG.out; omega, by omega, rfl, by omega, (HFIN.out 1).1, HSW.out, (HFIN.out 1).2.1.more (by omega), (HFIN.out 1).2.2⟩
          · have hik' : i ≠ k2 := fun e => hik e.symm
            go_wp2_with fail
            go_region
            go_wp2_with fail
            go_roundg (gk - 1)
            case measure => have := HPG.out; omega
            case rel => exact ⟨i, (i : Int) - 1, _, by have := HPG.out; omega, by omega, rfl, by omega, (HFIN.out 1).1, HSW.out, (HFIN.out 1).2.1.more (by omega), (HFIN.out 1).2.2⟩
        · go_wp2_with fail
          go_ret
          exact ⟨_, l, rfl, hownl, HP.out, hsl.more (by omega), hgl⟩

end Go.Proofs.YthogkcgklakibaaGreatDoor

namespace Go.Proofs.YthogkcgklakibaaGreatDoor
open Go.RowKit

theorem listOkAllO {w0 w : World} (hT : ∀ wx, Below w0.heap.size w0 wx → TabsAll wx) (hb : Below w0.heap.size w0 w) : ListOkAll w := fun wx hx A n c l h1 h2 => by
  have ht := hT wx (hb.trans (hx.mono hb.size))
  exact checkDeeds_ok A n c l wx h1 h2 ht.tabs ht.max ht.pow ht.stand
/-! ### Unions of sites in any order -/
structure JoinO (L : Nat → List Deed) (s : List Nat) (U : List Deed) : Prop where
  right : RightD U
  mem : ∀ x, x ∈ U ↔ ∃ k ∈ s, x ∈ L k
theorem JoinO.start (L : Nat → List Deed) : JoinO L [] [] := ⟨RightD.nil, fun x => ⟨fun h => absurd h (by simp), fun ⟨_, h, _⟩ => absurd h (by simp)⟩⟩
theorem JoinO.len {r : Nat} {L : Nat → List Deed} {s : List Nat} {U : List Deed} (h : SitesI r L) (hj : JoinO L s U) (hs : ∀ k ∈ s, k < 3) : U.length ≤ r := by
  obtain ⟨G, h1, -, -, h4⟩ := h.all
  refine Nat.le_trans (nodup_le _ G (ord_nodup hj.right.ord) fun x hx => ?_) h1
  obtain ⟨k, hk, hx⟩ := (hj.mem x).1 hx
  exact h4 k (hs k hk) x hx
theorem JoinO.same {r j : Nat} {L : Nat → List Deed} {s : List Nat} {U : List Deed} (h : SitesI r L) (hj : JoinO L s U) (hs : ∀ k ∈ s, k < 3) (hk : j < 3) : SameD U (L j) := fun x hx y hy e1 e2 => by
  obtain ⟨k, hk', hx⟩ := (hj.mem x).1 hx
  exact h.same (hs k hk') hk x hx y hy e1 e2
theorem JoinO.next {k : Nat} {L : Nat → List Deed} {s : List Nat} {U V : List Deed} (hj : JoinO L s U) (hV : RightD V) (hm : ∀ d, d ∈ V ↔ d ∈ U ∨ d ∈ L k) : JoinO L (s ++ [k]) V := ⟨hV, fun x => by
  rw [hm, hj.mem]
  constructor
  · rintro (⟨j, hj, h⟩ | h)
    · exact ⟨j, List.mem_append.2 (.inl hj), h⟩
    · exact ⟨k, by simp, h⟩
  · rintro ⟨j, hj, h⟩
    rcases List.mem_append.1 hj with h1 | h1
    · exact .inl ⟨j, h1, h⟩
    · obtain rfl : j = k := by simpa using h1
      exact .inr h⟩
theorem JoinO.uniq {L : Nat → List Deed} {s t : List Nat} {U V : List Deed} (h1 : JoinO L s U) (h2 : JoinO L t V) (h : ∀ k, k ∈ s ↔ k ∈ t) : U = V := ord_ext h1.right.ord h2.right.ord fun x => by
  rw [h1.mem, h2.mem]
  constructor
  · rintro ⟨k, hk, hx⟩; exact ⟨k, (h k).1 hk, hx⟩
  · rintro ⟨k, hk, hx⟩; exact ⟨k, (h k).2 hk, hx⟩
/-- The numbers of an order. -/
def natsO (o : List Int) : List Nat := o.map Int.toNat
theorem natsO_snoc (o : List Int) (z : Int) : natsO (o ++ [z]) = natsO o ++ [z.toNat] := by unfold natsO; simp
theorem natsO_take (o : List Int) (i : Nat) (z : Int) (h : o[i]? = some z) : natsO (o.take (i + 1)) = natsO (o.take i) ++ [z.toNat] := by
  rw [← natsO_snoc]
  congr 1
  rw [List.take_add_one, h]
  rfl
end Go.Proofs.YthogkcgklakibaaGreatDoor

namespace Go.Proofs.YthogkcgklakibaaGreatDoor
open Go.RowKit
attribute [local go_sem ↓] Go.wp_at_zero Go.wp_at_succ

theorem ElemsAt.cod {w : World} {A : Option Addr} {n c : Nat} {l : List CodP} (h : ElemsAt CodE w A n c l) (h0 : 0 < n) : ∃ g off, A = some ⟨g, off, none⟩ ∧ g < w.heap.size ∧ ∀ k x, l[k]? = some x →
    w.cell? ⟨g, off + k * 4, none⟩ = some (.string x.1) ∧ w.cell? ⟨g, off + k * 4 + 1, none⟩ = some (.string x.2.1) ∧ w.cell? ⟨g, off + k * 4 + 2, none⟩ = some (.string x.2.2.1) ∧ w.cell? ⟨g, off + k * 4 + 3, none⟩ = some (.int .i64 x.2.2.2) := by
  obtain ⟨g, off, hA, hg, hc⟩ := h.2.2.2 h0
  exact ⟨g, off, hA, hg, fun k x hx => ⟨hc k x 0 _ hx rfl, hc k x 1 _ hx rfl, hc k x 2 _ hx rfl, hc k x 3 _ hx rfl⟩⟩
set_option maxHeartbeats 3200000 in
set_option maxRecDepth 100000 in
theorem equalC_any (A B : Option Addr) (n c m d : Nat) (l : List CodP) (w : World) (hA : ElemsAt CodE w A n c l) (hB : ElemsAt CodE w B m d l) (hn : n ≤ 10000) :
    Calls Tryz.prog 27 #[.slice A n c, .slice B m d] w fun e w' => e = .returned (.bool true) ∧ Below w.heap.size w w' := by
  have HA := Lib.hid hA
  have HB := Lib.hid hB
  have HN := Lib.hid hA.1
  have hm : m = n := by have := hA.1; have := hB.1; omega
  subst hm
  clear hA hB
  go_enter Tryz.func27, Tryz.ntmps27
  go_wp2_with fail
  go_loopg [13] m (fun gk v wr => ∃ k : Nat, Hid (k + gk = m) ∧ v = .int .i64 (k : Int) ∧ Hid (Below w.heap.size w wr))
  case atStart => exact ⟨0, show 0 + m = m by omega, rfl, Below.refl _ _⟩
  case round =>
    obtain ⟨k, HK, rfl, HW⟩ := hrel
    have hkn : k ≤ m := by have := HK.out; omega
    by_cases hlt : k < m
    · have HGK := Lib.hid (show k + 1 + (gk - 1) = m ∧ 0 < gk by have := HK.out; omega)
      obtain ⟨g1, o1, rfl, hg1, hc1⟩ := ElemsAt.cod (ElemsAt.keep HA.out HW.out) (by omega)
      obtain ⟨g2, o2, rfl, hg2, hc2⟩ := ElemsAt.cod (ElemsAt.keep HB.out HW.out) (by omega)
      have hkl : k < l.length := by rw [← HN.out]; exact hlt
      obtain ⟨x, hx⟩ : ∃ x, l[k]? = some x := ⟨_, List.getElem?_eq_getElem hkl⟩
      obtain ⟨c0, c1, c2, c3⟩ := hc1 k x hx
      obtain ⟨e0, e1, e2, e3⟩ := hc2 k x hx
      have HWd := Lib.hid HW.out.drew
      have HWn := Lib.hid (fun q => Go.Proofs.YthogkcgklakibaaGreatDoor.below_drewN HW.out q)
      clear hc1 hc2 hx hkl hg1 hg2
      go_wp2_with fail
      go_quiet (fail)
      go_wp2_with fail
      go_roundg (gk - 1)
      case measure => exact Nat.sub_lt HGK.out.2 Nat.one_pos
      case rel => exact ⟨k + 1, HGK.out.1, by go_num, by first | exact HWd.out | exact HWn.out _ | exact HW.out⟩
    · have hnk : ¬ (k : Int) < (m : Int) := by omega
      go_wp2_with fail
      go_ret
      exact ⟨rfl, HW.out⟩
/-- Block V is the variable that holds the three sites. -/
abbrev PartsV (w : World) (V B : Nat) : Prop := w.heap[V]? = some (.cells #[.slice (some ⟨B, 0, none⟩) 3 3] 45 (0, 0))
theorem PartsV.keep {w w' : World} {V B : Nat} (h : PartsV w V B) (hb : Below w.heap.size w w') : PartsV w' V B := (hb.block V (Array.getElem?_eq_some_iff.1 h).1).trans h
theorem PartsV.c {w : World} {V B : Nat} (h : PartsV w V B) : w.cell? ⟨V, 0, none⟩ = some (.slice (some ⟨B, 0, none⟩) 3 3) := by rw [cell_of_row w V _ _ _ _ h]; rfl
theorem PartsV.but {w w' : World} {V B g : Nat} (h : PartsV w V B) (hg : w.grownBy w' (some g)) (hne : V ≠ g) : PartsV w' V B := (hg.block V (Array.getElem?_eq_some_iff.1 h).1 (fun e => hne (Option.some.inj e))).trans h
def MrgOPost (w : World) (L : Nat → List Deed) (o : List Int) (e : Ending) (w' : World) : Prop :=
  ∃ A n c U, e = .returned (.tuple #[.slice A n c, .bool true]) ∧ DeedsAt w' A n c U ∧ JoinO L (natsO o) U ∧ n ≤ 17 ∧ Below w.heap.size w w'
theorem nats3 {o : List Int} (h : ∀ z ∈ o, 0 ≤ z ∧ z < 3) : ∀ k ∈ natsO o, k < 3 := fun k hk => by
  obtain ⟨z, hz, rfl⟩ := List.mem_map.1 hk
  have := h z hz
  omega
theorem nats3_take {o : List Int} (h : ∀ z ∈ o, 0 ≤ z ∧ z < 3) (i : Nat) : ∀ k ∈ natsO (o.take i), k < 3 := nats3 fun z hz => h z (List.mem_of_mem_take hz)
set_option maxHeartbeats 6400000 in
set_option maxRecDepth 100000 in
theorem mergeO_any (V B : Nat) (hd : Nat → HdD) (L : Nat → List Deed) (Ao : Option Addr) (no co : Nat) (o : List Int) (w : World) (hV : PartsV w V B) (hO : OutAt w B hd L) (hI : SitesI 17 L) (ho : ElemsAt IntE w Ao no co o) (h3 : ∀ z ∈ o, 0 ≤ z ∧ z < 3) (hno : no ≤ 1000) (hLE : ListOkAll w) :
    Calls Tryz.prog 24 #[.slice Ao no co, .pointer (some ⟨V, 0, none⟩)] w (MrgOPost w L o) := by
  have HV := Lib.hid hV
  have HO := Lib.hid hO
  have HI := Lib.hid hI
  have HAO := Lib.hid ho
  have H3 := Lib.hid h3
  have HLE : Hid (∀ wx, Below w.heap.size w wx → ListOkAll wx) := fun wx hx wy hy => hLE wy (hx.trans (hy.mono hx.size))
  have HNO := Lib.hid ho.1
  clear hV hO hI ho h3 hLE
  go_enter Tryz.func24, Tryz.ntmps24
  go_wp2_with fail
  go_loopg [5, 12] no (fun gk v5 v wr => ∃ (k : Nat) (Au : Option Addr) (nu cu : Nat) (U : List Deed), Hid (k + gk = no) ∧ v = .int .i64 (k : Int) ∧ v5 = .slice Au nu cu ∧ Hid (DeedsAt wr Au nu cu U) ∧ Hid (JoinO L (natsO (o.take k)) U) ∧ Hid (Below w.heap.size w wr))
  case atStart => exact ⟨0, none, 0, 0, [], show 0 + no = no by omega, rfl, rfl, nilAt _, JoinO.start L, Below.refl _ _⟩
  case round =>
    obtain ⟨k, Au, nu, cu, U, HK, rfl, rfl, HU, HJ, HW⟩ := hrel
    have hkn : k ≤ no := by have := HK.out; omega
    have hnu : nu ≤ 17 := by have h1 := HU.out.1; have h2 := JoinO.len HI.out HJ.out (nats3_take H3.out k); omega
    by_cases hlt : k < no
    · have HGK := Lib.hid (show k + 1 + (gk - 1) = no ∧ 0 < gk by have := HK.out; omega)
      have hkl : k < o.length := by have := HNO.out; omega
      obtain ⟨z, hz⟩ : ∃ z, o[k]? = some z := ⟨_, List.getElem?_eq_getElem hkl⟩
      obtain ⟨go, oo, rfl, -, hco⟩ := (ElemsAt.keep HAO.out HW.out).2.2.2 (by omega)
      have hz3 := H3.out z (List.mem_of_getElem? hz)
      obtain ⟨j, rfl⟩ := Int.eq_ofNat_of_zero_le hz3.1
      have hj3 : j < 3 := by omega
      have hcell : wr.cell? ⟨go, oo + k, none⟩ = some (.int .i64 (j : Int)) := by
        have h1 := hco k _ 0 _ hz rfl
        simpa [IntE] using h1
      have hvc := (HV.out.keep HW.out).c
      have HOk := Lib.hid (HO.out.keep HW.out)
      obtain ⟨⟨Ak, nk, ck⟩, hhk⟩ : ∃ u : HdD, u = hd j := ⟨_, rfl⟩
      have hck := HOk.out.cell (k := j) hj3
      have hrk := HOk.out.row j hj3
      rw [← hhk] at hck hrk
      have HRK := Lib.hid hrk
      have hck' : wr.cell? ⟨B, j, none⟩ = some (.slice Ak nk ck) := hck
      have hnk : nk ≤ 17 := by have h1 : nk = (L j).length := hrk.1; have h2 := HI.out.len hj3; omega
      have HMD := Lib.hid (mergeM_of Au nu cu U Ak nk ck (L j) wr HU.out HRK.out (FitD.two HJ.out.right (HI.out.right j hj3) (JoinO.same HI.out HJ.out (nats3_take H3.out k) hj3)) (by omega) (HLE.out _ HW.out))
      have HTK : Hid (natsO (o.take (k + 1)) = natsO (o.take k) ++ [j]) := natsO_take o k (j : Int) hz
      clear hhk hck hrk HK HOk hco hkl hz
      go_wp2_with fail
      refine HMD.out.mono ?_
      rintro e w3 ⟨Av, nv, cv, V2, rfl, hAV, hRV, hMV, hb3⟩
      have HV2 := Lib.hid hAV
      have HJ2 : Hid (JoinO L (natsO (o.take (k + 1))) V2) := by show JoinO _ _ _; rw [HTK.out]; exact JoinO.next HJ.out hRV hMV
      have HW2 := Lib.hid (HW.out.trans (hb3.mono HW.out.size))
      clear hAV hRV hMV hb3 HMD hck'
      go_wp2_with fail
      go_roundg (gk - 1)
      case measure => exact Nat.sub_lt HGK.out.2 Nat.one_pos
      case rel => exact ⟨k + 1, Av, nv, cv, V2, HGK.out.1, by go_num, rfl, HV2.out, HJ2.out, HW2.out⟩
    · have hnk : ¬ (k : Int) < (no : Int) := by omega
      have hkk : k = o.length := by have := HNO.out; omega
      have hJ := HJ.out
      rw [hkk, List.take_length] at hJ
      have HJ2 := Lib.hid hJ
      clear hkk hJ
      go_wp2_with fail
      go_ret2
      exact ⟨Au, nu, cu, U, rfl, HU.out, HJ2.out, hnu, HW.out⟩
theorem ints3 (w : World) : ElemsAt IntE (w.alloc (.cells #[.int .i64 0, .int .i64 1, .int .i64 2] 3)) (some ⟨w.heap.size, 0, none⟩) 3 3 [0, 1, 2] := by
  refine ⟨rfl, by omega, (fun e => by cases e), fun _ => ⟨w.heap.size, 0, rfl, by simp, fun k y i v hk hv => ?_⟩⟩
  have hk3 : k < 3 := by have := (List.getElem?_eq_some_iff.1 hk).1; simpa using this
  have hi : i < 1 := by have := (List.getElem?_eq_some_iff.1 hv).1; simpa [IntE] using this
  obtain rfl : i = 0 := by omega
  rw [World.cell?_alloc_at _ _ _ _ rfl]
  match k, hk3 with
  | 0, _ => cases hk; cases hv; rfl
  | 1, _ => cases hk; cases hv; rfl
  | 2, _ => cases hk; cases hv; rfl
set_option maxHeartbeats 12800000 in
set_option maxRecDepth 100000 in
theorem any_any (A : Option Addr) (n c : Nat) (w : World) (h : RowAt w A n) (hbig : n ≤ 1000000000000000) (hT : TabsAll w) :
    Calls Tryz.prog 6 #[.slice A n c] w (LawPost w) := by
  have hst := stream_new w A n c h hbig
  have hb0 : Below w.heap.size w (w.alloc (.cells #[.slice A n c, .int .i64 0] 25)) := (Below.refl _ _).alloc (Nat.le_refl _) _
  have HB0 := Lib.hid hb0
  have HTT : Hid (∀ wx, Below w.heap.size w wx → TabsAll wx) := fun wx hx => hT.below hx
  have HS0 := Lib.hid hst
  clear hst hb0 h hT
  go_enter Tryz.func6, Tryz.ntmps6
  go_upto_region 2 with (fail)
  obtain ⟨g, hg⟩ : ∃ g, g = w.heap.size := ⟨_, rfl⟩
  rw [← hg] at HS0 ⊢
  have HGL : Hid (w.heap.size ≤ g) := by show _ ≤ _; omega
  generalize w.alloc (.cells #[.slice A n c, .int .i64 0] 25) = w1 at *
  clear hg
  have HGB : Hid (∀ wx, w1.grownBy wx (some g) → Below w.heap.size w wx) := fun wx hx => HB0.out.grown hx HB0.out.size (fun i e => by have := Option.some.inj e; have := HGL.out; omega)
  go_wp2_with fail
  refine (sites_any g A n c 0 w1 HS0.out (by omega) (fun wx hx => HTT.out wx (HGB.out wx hx))).mono ?_
  rintro e w2 ⟨B, hd, L, rfl, hO, hI, hgB, hs2, hg2⟩
  have hal : Below w2.heap.size w2 (w2.alloc (.cells #[.slice (some ⟨B, 0, none⟩) 3 3] 45)) := (Below.refl _ _).alloc (Nat.le_refl _) _
  have HV3 : Hid (PartsV (w2.alloc (.cells #[.slice (some ⟨B, 0, none⟩) 3 3] 45)) w2.heap.size B) := heap_alloc_new w2 _
  have HO3 := Lib.hid (hO.keep hal)
  have HI := Lib.hid hI
  have HS3 := Lib.hid (hs2.below hal)
  have HG3 := Lib.hid (grown_below hg2 hal)
  have HNE : Hid (B ≠ g) := by show _ ≠ _; omega
  have HNV : Hid (w2.heap.size ≠ g) := by show _ ≠ _; have := hO.lt; omega
  have HB3 := Lib.hid ((HGB.out w2 hg2).trans (hal.mono (HGB.out w2 hg2).size))
  clear hO hI hgB hs2 hg2 HS0 hal
  go_upto_region 3 with (fail)
  obtain ⟨V, hV⟩ : ∃ V, V = w2.heap.size := ⟨_, rfl⟩
  rw [← hV] at HV3 HNV ⊢
  generalize w2.alloc (.cells #[.slice (some ⟨B, 0, none⟩) 3 3] 45) = w3 at *
  clear hV
  have hal : Below w3.heap.size w3 (w3.alloc (.cells #[.int .i64 0, .int .i64 1, .int .i64 2] 3)) := (Below.refl _ _).alloc (Nat.le_refl _) _
  have HA4 := Lib.hid (ints3 w3)
  have HV4 := Lib.hid (HV3.out.keep hal)
  have HO4 := Lib.hid (HO3.out.keep hal)
  have HS4 := Lib.hid (HS3.out.below hal)
  have HG4 := Lib.hid (grown_below HG3.out hal)
  have HB4 := Lib.hid (HB3.out.trans (hal.mono HB3.out.size))
  clear hal HV3 HO3 HS3 HG3 HB3
  go_wp2_with fail
  refine (mergeO_any V B hd L _ 3 3 [0, 1, 2] _ HV4.out HO4.out HI.out HA4.out (by decide) (by omega) (listOkAllO HTT.out HB4.out)).mono ?_
  rintro e w5 ⟨Aa, na, ca, U, rfl, hUA, hJU, hna, hb5⟩
  have HU5 := Lib.hid hUA
  have HJU := Lib.hid hJU
  have HV5 := Lib.hid (HV4.out.keep hb5)
  have HO5 := Lib.hid (HO4.out.keep hb5)
  have HS5 := Lib.hid (HS4.out.below hb5)
  have HG5 := Lib.hid (grown_below HG4.out hb5)
  clear hUA hJU hb5 HV4 HO4 HS4 HG4 HB4 HA4
  go_wp2_with fail
  refine (order_any g A n c _ 3 w5 HS5.out (by omega) (by omega)).mono ?_
  rintro e w6 ⟨vo, o, rfl, hown, hperm, hs6, hg6⟩
  obtain ⟨Ao, co, rfl, -, hAo, -⟩ := Owns.at_ intE_ok hown
  have HAO := Lib.hid hAo
  have hol : o.length = 3 := by rw [hperm.length_eq]; rfl
  rw [hol] at HAO ⊢
  have H3 : Hid (∀ z ∈ o, 0 ≤ z ∧ z < 3) := fun z hz => by
    obtain ⟨q, hq, rfl⟩ := List.mem_map.1 (hperm.mem_iff.1 hz)
    have := List.mem_range.1 hq
    exact ⟨Int.natCast_nonneg _, by show (q : Int) < 3; omega⟩
  have HMM : Hid (∀ k, k ∈ natsO o ↔ k ∈ natsO [0, 1, 2]) := fun k => (hperm.map Int.toNat).mem_iff
  have HU6 := Lib.hid (deeds_stream HU5.out HS5.out hg6)
  have HV6 := Lib.hid (HV5.out.but hg6 HNV.out)
  have HO6 := Lib.hid (HO5.out.stream HS5.out hg6 HNE.out)
  have HB6 := Lib.hid (HGB.out w6 (grown_trans HG5.out hg6))
  clear hown hperm hs6 hg6 hAo hol HU5 HV5 HO5 HS5 HG5
  go_wp2_with fail
  refine (mergeO_any V B hd L _ 3 co o _ HV6.out HO6.out HI.out HAO.out H3.out (by omega) (listOkAllO HTT.out HB6.out)).mono ?_
  rintro e w7 ⟨Ab, nb, cb, U2, rfl, hUB, hJ2, hnb, hb7⟩
  obtain rfl : U2 = U := JoinO.uniq hJ2 HJU.out HMM.out
  have HU7 := Lib.hid (ElemsAt.keep HU6.out hb7)
  have HV7 := Lib.hid hUB
  have HB7 := Lib.hid (HB6.out.trans (hb7.mono HB6.out.size))
  have HRU := Lib.hid HJU.out.right
  clear hUB hJ2 hb7 HU6 HV6 HO6 HB6 HAO HJU HMM H3 HI HNE HNV
  go_wp2_with fail
  refine (equalD_any Aa Ab na ca nb cb U2 w7 HU7.out HV7.out (by omega)).mono ?_
  rintro e w8 ⟨rfl, hb8⟩
  have HU8 := Lib.hid (ElemsAt.keep HU7.out hb8)
  have HV8 := Lib.hid (ElemsAt.keep HV7.out hb8)
  have HB8 := Lib.hid (HB7.out.trans (hb8.mono HB7.out.size))
  clear hb8 HU7 HV7 HB7
  go_wp2_with fail
  refine (mergeM_of Aa na ca U2 Ab nb cb U2 w8 HU8.out HV8.out (FitD.two HRU.out HRU.out (fun x hx y hy e1 e2 => ord_uniq HRU.out.ord hx hy e1 e2)) (by omega) (listOkAllO HTT.out HB8.out)).mono ?_
  rintro e w9 ⟨Ac, nc, cc, U3, rfl, hUC, hRC, hMC, hb9⟩
  obtain rfl : U3 = U2 := ord_ext hRC.ord HRU.out.ord (fun x => by rw [hMC]; simp)
  have HU9 := Lib.hid (ElemsAt.keep HU8.out hb9)
  have HV9 := Lib.hid (ElemsAt.keep HV8.out hb9)
  have HC9 := Lib.hid hUC
  have HB9 := Lib.hid (HB8.out.trans (hb9.mono HB8.out.size))
  clear hUC hRC hMC hb9 HU8 HV8 HB8
  go_wp2_with fail
  refine (fields_any Aa na ca U3 ⟨#[105, 97]⟩ w9 HU9.out HRU.out (by omega) (by decide) (by decide) (listOkAllO HTT.out HB9.out w9 (Below.refl _ _) _ _ _ _ HU9.out HRU.out)).mono ?_
  rintro e w10 ⟨Ax, nx, cx, R, rfl, hFx, hXx, hb10⟩
  have HFX := Lib.hid hFx
  have HX10 := Lib.hid hXx
  have HU10 := Lib.hid (ElemsAt.keep HU9.out hb10)
  have HV10 := Lib.hid (ElemsAt.keep HV9.out hb10)
  have HC10 := Lib.hid (ElemsAt.keep HC9.out hb10)
  have HB10 := Lib.hid (HB9.out.trans (hb10.mono HB9.out.size))
  clear hFx hXx hb10 HU9 HV9 HC9 HB9
  go_wp2_with fail
  refine (fields_any Ab nb cb U3 ⟨#[105, 97]⟩ w10 HV10.out HRU.out (by omega) (by decide) (by decide) (listOkAllO HTT.out HB10.out w10 (Below.refl _ _) _ _ _ _ HV10.out HRU.out)).mono ?_
  rintro e w11 ⟨Ay, ny, cy, R2, rfl, hFy, hYy, hb11⟩
  obtain rfl : R2 = R := FieldsI.uniq hFy HFX.out HRU.out
  have hnx : nx ≤ 1000 := by have h1 := HX10.out.1; have h2 := hFy.len; omega
  have HY11 := Lib.hid hYy
  have HX11 := Lib.hid (ElemsAt.keep HX10.out hb11)
  have HU11 := Lib.hid (ElemsAt.keep HU10.out hb11)
  have HC11 := Lib.hid (ElemsAt.keep HC10.out hb11)
  have HB11 := Lib.hid (HB10.out.trans (hb11.mono HB10.out.size))
  clear hFy hYy hb11 HX10 HU10 HV10 HC10 HB10 HFX
  go_wp2_with fail
  refine (matters_any w11 (HTT.out _ HB11.out).tabs (HTT.out _ HB11.out).max (HTT.out _ HB11.out).pow (HTT.out _ HB11.out).stand).mono ?_
  rintro e w12 ⟨rfl, hb12⟩
  have HY12 := Lib.hid (ElemsAt.keep HY11.out hb12)
  have HX12 := Lib.hid (ElemsAt.keep HX11.out hb12)
  have HU12 := Lib.hid (ElemsAt.keep HU11.out hb12)
  have HC12 := Lib.hid (ElemsAt.keep HC11.out hb12)
  have HB12 := Lib.hid (HB11.out.trans (hb12.mono HB11.out.size))
  clear hb12 HY11 HX11 HU11 HC11 HB11
  go_wp2_with fail
  refine (equalD_any Aa Ac na ca nc cc U3 w12 HU12.out HC12.out (by omega)).mono ?_
  rintro e w13 ⟨rfl, hb13⟩
  have HY13 := Lib.hid (ElemsAt.keep HY12.out hb13)
  have HX13 := Lib.hid (ElemsAt.keep HX12.out hb13)
  have HB13 := Lib.hid (HB12.out.trans (hb13.mono HB12.out.size))
  clear hb13 HY12 HX12 HU12 HC12 HB12
  go_wp2_with fail
  refine (equalC_any Ax Ay nx cx ny cy R2 w13 HX13.out HY13.out (by omega)).mono ?_
  rintro e w14 ⟨rfl, hb14⟩
  have HB14 := Lib.hid (HB13.out.trans (hb14.mono HB13.out.size))
  clear hb14 HB13
  go_wp2_with fail
  go_ret
  exact ⟨rfl, HB14.out⟩
end Go.Proofs.YthogkcgklakibaaGreatDoor
