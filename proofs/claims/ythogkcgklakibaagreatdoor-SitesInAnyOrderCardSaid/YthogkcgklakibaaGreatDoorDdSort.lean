
/-
  stampOrder; deeds sorted by it.
-/
import Derived.Test.YthogkcgklakibaaGreatDoorDdOrd
import Derived.Test.YthogkcgklakibaaGreatDoorStrLib
import Derived.Test.YthogkcgklakibaaGreatDoorShelfB
import Derived.Test.YthogkcgklakibaaGreatDoorOwnSet
import Derived.Shelf.SlSortCmp.WholeK
import Derived.Shelf.SlSortCmp.NoneTotal
import Derived.Deep.RegionHeld3
namespace Go.Proofs.YthogkcgklakibaaGreatDoor
open Go.RowKit Go.Shelf Go.Sort Go.Lib

/-- Draws and blocks behind a world. -/
def Gr (w w' : World) : Prop := ∃ (q : Nat) (os : Array Obj), w' = grow (w.drewN q) os
theorem Gr.refl (w : World) : Gr w w := ⟨0, #[], by simp [grow, World.drewN]⟩
theorem Gr.trans {a b c : World} (h : Gr a b) (k : Gr b c) : Gr a c := by
  obtain ⟨q, os, rfl⟩ := h
  obtain ⟨r, os', rfl⟩ := k
  exact ⟨q + r, os ++ os', by simp [grow, World.drewN, Array.append_assoc, Nat.add_assoc]⟩
theorem Gr.alloc {a b : World} (h : Gr a b) (o : Obj) : Gr a (b.alloc o) := h.trans ⟨0, #[o], by rw [alloc_eq_grow]; rfl⟩
theorem Gr.drew {a b : World} (h : Gr a b) : Gr a b.drew := h.trans ⟨1, #[], by simp [grow]; rfl⟩
theorem Gr.undrew {a b : World} (h : Gr a.drew b) : Gr a b := (Gr.refl a).drew.trans h
theorem Gr.below {a b : World} (h : Gr a b) : Below a.heap.size a b := by
  obtain ⟨q, os, rfl⟩ := h
  refine ⟨rfl, rfl, rfl, by simp [grow, World.drewN], fun k hk => ?_⟩
  show ((a.drewN q).heap ++ os)[k]? = _
  rw [Array.getElem?_append_left (by simpa [World.drewN] using hk)]
  rfl
/-- What cmp.Or returns of two numbers. -/
theorem cmpOr_any (g : Nat) (a b : Int) (w : World) (h0 : w.cell? ⟨g, 0, none⟩ = some (.int .i64 a)) (h1 : w.cell? ⟨g, 1, none⟩ = some (.int .i64 b)) :
    Calls Tryz.prog 79 #[.slice (some ⟨g, 0, none⟩) 2 2] w fun e w' => e = .returned (.int .i64 (if a = 0 then b else a)) ∧ w' = w := by
  by_cases ha : a = 0
  · subst ha
    rw [if_pos rfl]
    by_cases hb : b = 0
    · subst hb
      go_enter Tryz.func79, Tryz.ntmps79
      go_wp2_with fail
      refine wp_loop_rounds 3 ?_
      rw [rounds_succ]
      go_wp2_with fail
      rw [rounds_succ]
      go_wp2_with fail
      rw [rounds_succ]
      go_wp2_with fail
      go_ret
      exact ⟨rfl, rfl⟩
    · have hbb : (b == 0) = false := by simpa using hb
      go_enter Tryz.func79, Tryz.ntmps79
      go_wp2_with fail
      refine wp_loop_rounds 3 ?_
      rw [rounds_succ]
      go_wp2_with fail
      rw [rounds_succ]
      go_wp2_with fail
      go_ret
      exact ⟨rfl, rfl⟩
  · rw [if_neg ha]
    go_enter Tryz.func79, Tryz.ntmps79
    go_wp2_with fail
    refine wp_loop_rounds 3 ?_
    rw [rounds_succ]
    go_wp2_with fail
    go_ret
    exact ⟨rfl, rfl⟩
theorem isNaNI_any (a : Int) (w : World) : Calls Tryz.prog 119 #[.int .i64 a] w fun e w' => e = .returned (.bool false) ∧ w' = w := by
  go_enter Tryz.func119, Tryz.ntmps119
  go_wp2_with fail
  go_ret
  exact ⟨by simp, rfl⟩
set_option maxHeartbeats 800000 in
theorem compareI_any (a b : Int) (w : World) : Calls Tryz.prog 81 #[.int .i64 a, .int .i64 b] w fun e w' => e = .returned (.int .i64 (cmpN a b)) ∧ w' = w := by
  by_cases h1 : a < b
  · have HC : Hid (cmpN a b = -1) := by show _ = _; simp [cmpN, h1]
    go_enter Tryz.func81, Tryz.ntmps81
    go_wp2_with fail
    refine (isNaNI_any _ _).mono ?_
    rintro e w' ⟨rfl, hw⟩
    obtain rfl := hw.symm
    go_wp2_with fail
    refine (isNaNI_any _ _).mono ?_
    rintro e w' ⟨rfl, hw⟩
    obtain rfl := hw.symm
    go_wp2_with fail
    go_ret
    exact ⟨ret_int (by rw [HC.out]), rfl⟩
  · by_cases h2 : b < a
    · have HC : Hid (cmpN a b = 1) := by show _ = _; simp [cmpN, h1, h2]
      go_enter Tryz.func81, Tryz.ntmps81
      go_wp2_with fail
      refine (isNaNI_any _ _).mono ?_
      rintro e w' ⟨rfl, hw⟩
      obtain rfl := hw.symm
      go_wp2_with fail
      refine (isNaNI_any _ _).mono ?_
      rintro e w' ⟨rfl, hw⟩
      obtain rfl := hw.symm
      go_wp2_with fail
      go_ret
      exact ⟨ret_int (by rw [HC.out]), rfl⟩
    · have HC : Hid (cmpN a b = 0) := by show _ = _; simp [cmpN, h1, h2]
      go_enter Tryz.func81, Tryz.ntmps81
      go_wp2_with fail
      refine (isNaNI_any _ _).mono ?_
      rintro e w' ⟨rfl, hw⟩
      obtain rfl := hw.symm
      go_wp2_with fail
      refine (isNaNI_any _ _).mono ?_
      rintro e w' ⟨rfl, hw⟩
      obtain rfl := hw.symm
      go_wp2_with fail
      go_ret
      exact ⟨ret_int (by rw [HC.out]), rfl⟩

set_option maxHeartbeats 1600000 in
set_option maxRecDepth 100000 in
theorem stampOrder_gr (x y : Deed) (w : World) : Calls Tryz.prog 75 #[x.v, y.v] w fun e w' => e = .returned (.int .i64 (cmpD x y)) ∧ Gr w w' := by
  have HX : Hid (DeedAt ((w.alloc (.cells #[.string x.site, .int .i64 x.no, .int .i64 x.at_, .int .i64 x.kind, .string x.id, .string x.fld, .string x.val, .int .i64 x.from_, .int .i64 x.to_, .string x.osite, .int .i64 x.ono, .string x.sum] 40)).alloc (.cells #[.string y.site, .int .i64 y.no, .int .i64 y.at_, .int .i64 y.kind, .string y.id, .string y.fld, .string y.val, .int .i64 y.from_, .int .i64 y.to_, .string y.osite, .int .i64 y.ono, .string y.sum] 40)) w.heap.size x) := (deed_new w x).keep ((Below.refl _ _).alloc (Nat.le_refl _) _)
  have HY : Hid (DeedAt ((w.alloc (.cells #[.string x.site, .int .i64 x.no, .int .i64 x.at_, .int .i64 x.kind, .string x.id, .string x.fld, .string x.val, .int .i64 x.from_, .int .i64 x.to_, .string x.osite, .int .i64 x.ono, .string x.sum] 40)).alloc (.cells #[.string y.site, .int .i64 y.no, .int .i64 y.at_, .int .i64 y.kind, .string y.id, .string y.fld, .string y.val, .int .i64 y.from_, .int .i64 y.to_, .string y.osite, .int .i64 y.ono, .string y.sum] 40)) (w.alloc (.cells #[.string x.site, .int .i64 x.no, .int .i64 x.at_, .int .i64 x.kind, .string x.id, .string x.fld, .string x.val, .int .i64 x.from_, .int .i64 x.to_, .string x.osite, .int .i64 x.ono, .string x.sum] 40)).heap.size y) := deed_new _ y
  have hsz : (w.alloc (.cells #[.string x.site, .int .i64 x.no, .int .i64 x.at_, .int .i64 x.kind, .string x.id, .string x.fld, .string x.val, .int .i64 x.from_, .int .i64 x.to_, .string x.osite, .int .i64 x.ono, .string x.sum] 40)).heap.size = w.heap.size + 1 := by simp
  rw [hsz] at HY
  have HG : Hid (Gr w ((w.alloc (.cells #[.string x.site, .int .i64 x.no, .int .i64 x.at_, .int .i64 x.kind, .string x.id, .string x.fld, .string x.val, .int .i64 x.from_, .int .i64 x.to_, .string x.osite, .int .i64 x.ono, .string x.sum] 40)).alloc (.cells #[.string y.site, .int .i64 y.no, .int .i64 y.at_, .int .i64 y.kind, .string y.id, .string y.fld, .string y.val, .int .i64 y.from_, .int .i64 y.to_, .string y.osite, .int .i64 y.ono, .string y.sum] 40))) := ((Gr.refl w).alloc _).alloc _
  have HCS := Lib.hid (fun wx => Tryz.strings_Compare x.site y.site wx)
  have HCI := Lib.hid (fun wx => compareI_any x.no y.no wx)
  have HOR := Lib.hid (fun (g : Nat) wx h0 h1 => cmpOr_any g (Lib.compareBytes (byteL x.site) (byteL y.site)) (cmpN x.no y.no) wx h0 h1)
  have HF : Hid ((if Lib.compareBytes (byteL x.site) (byteL y.site) = 0 then cmpN x.no y.no else Lib.compareBytes (byteL x.site) (byteL y.site)) = cmpD x y) := by
    show _ = _
    unfold cmpD
    by_cases h : Lib.compareBytes (byteL x.site) (byteL y.site) = 0
    · rw [if_pos h, if_neg (by simpa using h)]
    · rw [if_neg h, if_pos h]
  clear hsz
  rw [show x.site.data.toList = byteL x.site from rfl, show y.site.data.toList = byteL y.site from rfl] at HCS
  rw [HF.out] at HOR
  clear HF
  unfold Deed.v
  go_enter Tryz.func75, Tryz.ntmps75
  go_upto_region 1 with (fail)
  obtain ⟨P, hP⟩ : ∃ P, P = w.heap.size := ⟨_, rfl⟩
  rw [← hP] at HX HY ⊢
  generalize (w.alloc (.cells #[.string x.site, .int .i64 x.no, .int .i64 x.at_, .int .i64 x.kind, .string x.id, .string x.fld, .string x.val, .int .i64 x.from_, .int .i64 x.to_, .string x.osite, .int .i64 x.ono, .string x.sum] 40)).alloc (.cells #[.string y.site, .int .i64 y.no, .int .i64 y.at_, .int .i64 y.kind, .string y.id, .string y.fld, .string y.val, .int .i64 y.from_, .int .i64 y.to_, .string y.osite, .int .i64 y.ono, .string y.sum] 40) = w1 at *
  clear hP
  have HHELD : Hid (∀ w', Gr w1 w' → w'.cell? ⟨P, 0, none⟩ = some (.string x.site) ∧ w'.cell? ⟨P, 1, none⟩ = some (.int .i64 x.no) ∧ w'.cell? ⟨P + 1, 0, none⟩ = some (.string y.site) ∧ w'.cell? ⟨P + 1, 1, none⟩ = some (.int .i64 y.no) ∧ Gr w1 w') := fun w' hg => by
    obtain ⟨a0, a1, -⟩ := (HX.out.keep hg.below).c
    obtain ⟨b0, b1, -⟩ := (HY.out.keep hg.below).c
    exact ⟨a0, a1, b0, b1, hg⟩
  obtain ⟨a0, a1, b0, b1, -⟩ := HHELD.out w1 (Gr.refl _)
  generalize Lib.compareBytes (byteL x.site) (byteL y.site) = cs at *
  generalize cmpN x.no y.no = ci at *
  go_region_held3 (fun w' => w'.cell? ⟨P, 0, none⟩ = some (.string x.site) ∧ w'.cell? ⟨P, 1, none⟩ = some (.int .i64 x.no) ∧ w'.cell? ⟨P + 1, 0, none⟩ = some (.string y.site) ∧ w'.cell? ⟨P + 1, 1, none⟩ = some (.int .i64 y.no) ∧ Gr w1 w')
    (first | assumption | exact HHELD.out _ (Gr.refl _).drew | exact HHELD.out _ (Gr.refl _) | exact HHELD.out _ ((Gr.refl _).drew.alloc _) | exact HHELD.out _ ((Gr.refl _).alloc _).drew)
    (first
      | (go_at_call 80; (with_reducible refine Calls.mono (HCS.out _) ?_); rintro e wz ⟨rfl, hwz⟩; obtain rfl := hwz.symm)
      | (go_at_call 81; (with_reducible refine Calls.mono (HCI.out _) ?_); rintro e wz ⟨rfl, hwz⟩; obtain rfl := hwz.symm)
      | (go_at_call 79; (refine Calls.mono (HOR.out _ _ (show World.cell? (World.alloc _ _) _ = _ from by rw [World.cell?_alloc_at _ _ _ _ rfl]; rfl) (show World.cell? (World.alloc _ _) _ = _ from by rw [World.cell?_alloc_at _ _ _ _ rfl]; rfl)) ?_); rintro e wz ⟨rfl, hwz⟩; obtain rfl := hwz.symm))
  all_goals
    go_wp2_with fail
    go_ret
    exact ⟨rfl, by first | exact HG.out.trans ((Gr.refl _).alloc _).drew | exact HG.out.trans ((Gr.refl _).drew.alloc _)⟩
section
variable {α : Type} {E : Elem α} [Inhabited α]
theorem Owns.holdsS (hE : E.Ok) {w : World} {base g c n : Nat} {l : List α} (h : Owns E w base (.slice (some ⟨g, 0, none⟩) n c) l) : HoldsK E.enc E.size w g 0 l.toArray := by
  intro j hj
  rw [size_flatK, List.size_toArray] at hj
  have hp := hE.pos
  have hk : j / E.size < l.length := (Nat.div_lt_iff_lt_mul hp).2 hj
  have hm : j % E.size < E.size := Nat.mod_lt _ hp
  obtain ⟨G, c', he, _, _, hc⟩ := h.where_ hE (Nat.lt_of_le_of_lt (Nat.zero_le _) hk)
  simp only [Value.slice.injEq, Option.some.injEq, Addr.mk.injEq] at he
  obtain ⟨⟨rfl, _⟩, _⟩ := he
  have hx : l[j / E.size]? = some l[j / E.size]! := by simp [hk]
  have hu : (E.enc l[j / E.size]!)[j % E.size]? = some (E.enc l[j / E.size]!)[j % E.size]! := by
    have : j % E.size < (E.enc l[j / E.size]!).length := by rw [hE.len]; exact hm
    rw [List.getElem?_eq_getElem this, getElem!_pos (E.enc l[j / E.size]!) (j % E.size) this]
  have h1 := hc _ _ _ _ hx hu
  have e : j / E.size * E.size + j % E.size = j := by rw [Nat.mul_comm]; exact Nat.div_add_mod _ _
  rw [e] at h1
  rw [get_flatK _ _ _ _ (by rw [List.size_toArray]; exact hj), Nat.zero_add]
  simpa using h1
theorem elems_of_holdsS (hE : E.Ok) {w : World} {g c : Nat} {d : Array α} (h : HoldsK E.enc E.size w g 0 d) (hlt : g < w.heap.size) (hc : d.size ≤ c) : ElemsAt E w (some ⟨g, 0, none⟩) d.size c d.toList := by
  refine ⟨by simp, hc, (fun e => by cases e), fun _ => ⟨g, 0, rfl, hlt, fun k x i v hk hv => ?_⟩⟩
  have hk' : k < d.size := by have := (List.getElem?_eq_some_iff.1 hk).1; simpa using this
  have hi : i < E.size := by have := (List.getElem?_eq_some_iff.1 hv).1; rw [hE.len] at this; exact this
  have h1 := (h.cell (i := k) (c := i) hk' hi).1
  have ex : d[k]! = x := by
    have h2 := hk
    rw [Array.getElem?_toList, Array.getElem?_eq_getElem hk'] at h2
    rw [getElem!_pos d k hk']
    exact Option.some.inj h2
  rw [ex] at h1
  have ev : (E.enc x)[i]! = v := by
    obtain ⟨h3, h4⟩ := List.getElem?_eq_some_iff.1 hv
    rw [getElem!_pos _ i h3, h4]
  rw [ev] at h1
  exact h1
theorem grown_sortS (enc : α → List Value) (k : Nat) (w : World) (blk off m : Nat) (d : Array α) (os : Array Obj) : w.grownBy (sortWorldK enc k w blk off m d os) (some blk) := by
  refine ⟨rfl, rfl, rfl, size_sortWorldK_c enc k w blk off m d os, fun i hi hne => ?_⟩
  have hne' : blk ≠ i := fun e => hne (by rw [e])
  show ((w.heap.modify blk _) ++ os)[i]? = _
  rw [Array.getElem?_append_left (by simpa using hi), Array.getElem?_modify, if_neg hne']
end

theorem stamp_lays (blk off size : Nat) (w : World) : CmpLays Tryz.prog 75 #[] Deed.cells 12 cmpD blk off size w :=
  fun _ _ _ _ x y => stampOrder_gr x y _
def SortDPost (w : World) (A : Option Addr) (n c : Nat) (l : List Deed) (row : Option Nat) (e : Ending) (w' : World) : Prop :=
  e = .returned (.tuple #[]) ∧ (∃ L, L.Perm l ∧ (L.Pairwise fun x y => ltOf cmpD y x = false) ∧ DeedsAt w' A n c L) ∧ w.grownBy w' row
theorem sortD_any (base n c : Nat) (A : Option Addr) (l : List Deed) (w : World) (hn : n = l.length) (h : Owns DeedE w base (.slice A n c) l) (hl : n ≤ 100000) :
    Calls Tryz.prog 52 #[.slice A n c, .func (.func 75) #[] #[]] w (SortDPost w A n c l (Value.slice A n c).ownBlock) := by
  subst hn
  rcases Nat.eq_zero_or_pos l.length with h0 | h0
  · have hl := List.eq_nil_of_length_eq_zero h0
    subst hl
    obtain ⟨A', c', he, hcc, hat, _⟩ := h.at_ deedE_ok
    simp only [Value.slice.injEq] at he
    obtain ⟨rfl, _, rfl⟩ := he
    refine (AnyF.slices_SortFunc_none Tryz.sfQ52 A c _ w).mono ?_
    rintro e w' ⟨rfl, hw⟩
    rw [hw]
    exact ⟨rfl, ⟨[], List.Perm.refl _, List.Pairwise.nil, hat⟩, World.grownBy.refl _ _⟩
  · obtain ⟨g, c', he, hgb, hgl, _⟩ := h.where_ deedE_ok h0
    simp only [Value.slice.injEq] at he
    obtain ⟨rfl, _, rfl⟩ := he
    obtain ⟨A', c', he, hcc, hat, _⟩ := h.at_ deedE_ok
    simp only [Value.slice.injEq] at he
    obtain ⟨rfl, _, rfl⟩ := he
    have hlc := hat.2.1
    have hH := h.holdsS deedE_ok
    have eg : ∀ args w, (callFunc 75 args).run Tryz.prog w = .ok (.enter 75 args) w := enters_of Tryz.func75 (by kernel_rfl) rfl
    have hsz : l.toArray.size = l.length := by simp
    have hcon := AnyQ.slices_SortFunc Tryz.sfQ52 12 Tryz.isAgg40 Tryz.sizeOf40 Deed.cells (fun _ => rfl)
      (fun x v hv => deedE_ok.one x v hv) cmpD swoD 75 #[] g 0 c l.toArray w eg (stamp_lays g 0 _ w) hH hgl (by rw [hsz]; omega)
    rw [hsz] at hcon
    refine Calls.mono hcon ?_
    rintro e w' ⟨rfl, d', q, os, hpm, hso, rfl⟩
    have hs : d'.size = l.length := by rw [hpm.1]; exact hsz
    have hH' := holdsK_sortWorldK_c Deed.cells 12 w g 0 l.toArray d' q os hH hgl (by rw [hs, hsz])
    have hel := elems_of_holdsS deedE_ok (c := c) hH' (Nat.lt_of_lt_of_le hgl (size_sortWorldK_c Deed.cells 12 w g 0 q _ os)) (by rw [hs]; exact hlc)
    rw [hs] at hel
    refine ⟨rfl, ⟨d'.toList, ?_, ?_, hel⟩, grown_sortS Deed.cells 12 w g 0 q _ os⟩
    · have h3 := hpm.2.2
      have e1 : d'.extract 0 l.length = d' := by rw [← hs]; simp
      have e2 : l.toArray.extract 0 l.length = l.toArray := by simp
      rw [e1, e2] at h3
      exact h3
    · rw [List.pairwise_iff_getElem]
      intro i j hi hj hij
      have hi' : i < d'.size := by simpa using hi
      have hj' : j < d'.size := by simpa using hj
      have := hso i j (Nat.zero_le _) hij (by omega)
      rw [getElem!_pos d' i hi', getElem!_pos d' j hj'] at this
      simpa using this
end Go.Proofs.YthogkcgklakibaaGreatDoor
