
/-
  base.Plain and base.Moment at right values, base.When.
  A map from stamps to deeds.
  What a list of deeds was at a moment, in plain lists.
-/
import Derived.Test.YthogkcgklakibaaGreatDoorKey
import Derived.Test.YthogkcgklakibaaGreatDoorText
import Derived.Test.YthogkcgklakibaaGreatDoorTrimPlain
import Derived.Test.YthogkcgklakibaaGreatDoorItemFn
import Derived.Test.YthogkcgklakibaaGreatDoorDdOf2
import Derived.Test.YthogkcgklakibaaGreatDoorSetMap
import Derived.DeepKeys4
import Derived.Test.YthogkcgklakibaaGreatDoorDdPlain

namespace Go.Proofs.YthogkcgklakibaaGreatDoor
open Go.RowKit

theorem inB_in (v lo hi : Int) (h0 : lo ≤ v) (h1 : v ≤ hi) : inB v lo hi = true := by
  unfold inB; simp; omega
set_option maxHeartbeats 1600000 in
theorem plainP_ok (s : ByteArray) (w : World) (hp : plainB s.data.toList = true) (hs : s.size ≤ 1000000) (hT : Tabs w) (hM : MaxAt w) :
    Calls Tryz.prog 83 #[.string s] w (BoolPost w true) := by
  unfold plainB at hp
  simp only [Bool.and_eq_true, decide_eq_true_eq, Bool.not_eq_true'] at hp
  obtain ⟨h1, h2, h3⟩ := hp
  have hv := visible_any s false w hs hT
  rw [h1] at hv
  have HV := Lib.hid hv
  have HP := Lib.hid (fun wx => Tryz.strings_HasPrefix s ⟨#[32]⟩ wx)
  have HS := Lib.hid (fun wx => Tryz.strings_HasSuffix s ⟨#[32]⟩ wx (by omega))
  rw [show Lib.hasPrefix s.data.toList (⟨#[32]⟩ : ByteArray).data.toList = false from trimB_head h2] at HP
  rw [show Lib.hasSuffix s.data.toList (⟨#[32]⟩ : ByteArray).data.toList = false from trimB_last h2] at HS
  have HC := Lib.hid (fun wx (hb : Below w.heap.size w wx) => strContains_any s ⟨#[32, 32]⟩ wx hs (MaxAt.below hM hb))
  rw [show Lib.contains s.data.toList (⟨#[32, 32]⟩ : ByteArray).data.toList = false from h3] at HC
  clear hv hM hT h1 h2 h3
  go_enter Tryz.func83, Tryz.ntmps83
  go_wp2_with fail
  refine HV.out.mono ?_
  rintro e w2 ⟨rfl, hb2⟩
  have HB2 := Lib.hid hb2
  clear hb2
  go_wp2_with fail
  refine (HP.out w2).mono ?_
  rintro e w3 ⟨rfl, rfl⟩
  go_wp2_with fail
  refine (HS.out _).mono ?_
  rintro e w4 ⟨rfl, rfl⟩
  go_wp2_with fail
  refine (HC.out _ HB2.out).mono ?_
  rintro e w5 ⟨rfl, hb5⟩
  have HB5 := Lib.hid (below_trans' HB2.out hb5)
  clear hb5
  go_wp2_with fail
  go_ret
  exact ⟨rfl, HB5.out⟩
theorem moment_ok (z : Int) (w : World) (h : 0 ≤ z ∧ z ≤ 5761439) : Calls Tryz.prog 40 #[.int .i64 z] w fun e w' => e = .returned (.bool true) ∧ w' = w := by
  have hi := in_any z 0 5761439 w
  rw [inB_in _ _ _ h.1 h.2] at hi
  go_enter Tryz.func40, Tryz.ntmps40
  go_wp2_with fail
  refine hi.mono ?_
  rintro e w' ⟨rfl, hw⟩
  obtain rfl := hw
  go_wp2_with fail
  go_ret
  exact ⟨rfl, rfl⟩
theorem when_still (b : Bool) (c : Int) (w : World) : Calls Tryz.prog 39 #[.bool b, .int .i64 c] w fun e w' => e = .returned (.int .i64 (whenE b c)) ∧ w' = w := (when_any b c w).mono fun _ _ h => ⟨h.1, h.2.symm⟩
theorem in_still (n lo hi : Int) (w : World) : Calls Tryz.prog 44 #[.int .i64 n, .int .i64 lo, .int .i64 hi] w fun e w' => e = .returned (.bool (inB n lo hi)) ∧ w' = w := (in_any n lo hi w).mono fun _ _ h => ⟨h.1, h.2.symm⟩
end Go.Proofs.YthogkcgklakibaaGreatDoor

namespace Go.Proofs.YthogkcgklakibaaGreatDoor
open Go.RowKit Go.Maps

def In64 (z : Int) : Prop := -1000000000 ≤ z ∧ z ≤ 1000000000
theorem int_wf (z : Int) (h : In64 z) : (Lit.int .i64 z).wf = true := by
  obtain ⟨h1, h2⟩ := h
  simp only [Lit.wf, IntKind.min, IntKind.max, IntKind.signed, IntKind.bits, Bool.and_eq_true, decide_eq_true_eq, if_true]
  omega
/-- How a stamp reads. -/
def keyT (s : List UInt8) (z : Int) : Lit := .string (keyBytes [.string s, .int .i64 z])
theorem keyT_inj {s s' : List UInt8} {z z' : Int} (h1 : s.length ≤ 1000000) (h2 : In64 z) (h3 : s'.length ≤ 1000000) (h4 : In64 z') (h : keyT s z = keyT s' z') : s = s' ∧ z = z' := by
  unfold keyT at h
  have e : keyBytes [.string s, .int .i64 z] = keyBytes [.string s', .int .i64 z'] := by simpa using h
  have := keyBytes_inj (l := [.string s, .int .i64 z]) (l' := [.string s', .int .i64 z']) ⟨trivial, rfl, trivial⟩
    (fun a ha => by
      simp only [List.mem_cons, List.not_mem_nil, or_false] at ha
      rcases ha with rfl | rfl
      · simp only [Lit.keyWf, maxLen]; omega
      · exact int_wf z h2)
    (fun a ha => by
      simp only [List.mem_cons, List.not_mem_nil, or_false] at ha
      rcases ha with rfl | rfl
      · simp only [Lit.keyWf, maxLen]; omega
      · exact int_wf z' h4) e
  simpa using this
theorem keyT_key (s : List UInt8) (z : Int) : WideAt.IsKeyLit (keyT s z) := by first | trivial | exact Or.inl trivial | simp [WideAt.IsKeyLit, keyT]
theorem laidT : laidOutB Tryz.prog = true := by kernel_rfl
theorem keyK : Keyed Tryz.prog 36 := Keyed.of_law (deep_law_laid laidT (m := 2) (by omega) (of_decide_eq_true (by kernel_rfl)) (by kernel_rfl) (by kernel_rfl))
theorem keyK_mk (s : ByteArray) (z : Int) (hs : s.size ≤ 1000000) (hz : In64 z) : keyOf Tryz.prog 36 (.agg #[.string s, .int .i64 z]) = some (keyT s.data.toList z) := by
  have hkt : Tryz.prog.keyType 36 = true := by kernel_rfl
  have hsz : Tryz.prog.cellsOf 36 = 2 := by kernel_rfl
  have h1 : Tryz.prog.cellsOf 9 = 1 := by kernel_rfl
  have h2 : Tryz.prog.cellsOf 3 = 1 := by kernel_rfl
  have hw := int_wf z hz
  obtain ⟨m, hm⟩ : ∃ m, Tryz.prog.types.size = m + 1 := ⟨Tryz.prog.types.size - 1, by kernel_rfl⟩
  have e1 : s.size ≤ maxLen := by simp only [maxLen]; omega
  unfold keyOf
  simp only [Tryz.underlying36]
  rw [if_pos (by simp [hkt, Value.formed, Tryz.underlying36, hsz]), hm]
  unfold Program.keyLits
  simp only [Tryz.underlying36, Value.cells]
  rw [if_pos (by rw [hsz]; exact ⟨rfl, by simp⟩)]
  simp [List.mapM_cons, h1, h2, Program.keyLits, Tryz.underlying9, Tryz.underlying3, e1, hw, keyT]

def findS (l : List Deed) (s : ByteArray) (z : Int) : Option Deed := l.find? (hasSt s z)
def valT (l : List Deed) (s : ByteArray) (z : Int) : Value := match findS l s z with
  | some x => x.v
  | none => zeroD.v
def NewT (l : List Deed) (x : Deed) : Prop := ∀ y ∈ l, ¬ (y.site = x.site ∧ y.no = x.no)
theorem findS_snoc_new {l : List Deed} {x : Deed} (hn : NewT l x) : findS (l ++ [x]) x.site x.no = some x := by
  unfold findS
  rw [List.find?_append]
  have h0 : l.find? (hasSt x.site x.no) = none := by
    rw [List.find?_eq_none]
    intro y hy
    have := hn y hy
    simpa [hasSt] using this
  rw [h0]
  simp [hasSt]
theorem findS_snoc_old {l : List Deed} {x : Deed} {s : ByteArray} {z : Int} (h : ¬ (x.site = s ∧ x.no = z)) : findS (l ++ [x]) s z = findS l s z := by
  unfold findS
  rw [List.find?_append]
  have : hasSt s z x = false := by simpa [hasSt] using h
  simp [this]
theorem valT_some {l : List Deed} {s : ByteArray} {z : Int} {x : Deed} (h : findS l s z = some x) : valT l s z = x.v := by unfold valT; rw [h]
theorem valT_none {l : List Deed} {s : ByteArray} {z : Int} (h : findS l s z = none) : valT l s z = zeroD.v := by unfold valT; rw [h]
/-- A value as it is. -/
def heldE : Value → Option (DataW Value × List MemPlace) := fun v => some (.held v, [])
theorem mk_data (x : ByteArray) : (⟨x.data.toList.toArray⟩ : ByteArray) = x := by simp
/-- Block M holds the deeds by their stamps. -/
structure DMapAt (w : World) (M : Nat) (l : List Deed) : Prop where
  ex : ∃ D : DataW Value, w.ownsMap Tryz.prog 36 heldE M l.length D ∧ (∀ (s : List UInt8) (z : Int), s.length ≤ 1000000 → In64 z → D.atKey (keyT s z) (.held zeroD.v) = .held (valT l ⟨s.toArray⟩ z)) ∧ (∀ (s : List UInt8) (z : Int), s.length ≤ 1000000 → In64 z → has D (keyT s z) = (findS l ⟨s.toArray⟩ z).isSome)
theorem DMapAt.start (w : World) : DMapAt (w.alloc (.map #[] 0)) w.heap.size [] := ⟨⟨.map [], World.ownsMap_made w _ _ _, fun _ _ _ _ => rfl, fun _ _ _ _ => rfl⟩⟩
theorem DMapAt.kept {w w' : World} {M : Nat} {l : List Deed} {row : Option Nat} (h : DMapAt w M l) (hg : w.grownBy w' row) (hr : row ≠ some M) : DMapAt w' M l := by
  obtain ⟨D, h1, h2⟩ := h.ex
  exact ⟨⟨D, h1.kept hg hr.symm, h2⟩⟩
theorem DMapAt.below {w w' : World} {M : Nat} {l : List Deed} (h : DMapAt w M l) (hb : Below w.heap.size w w') : DMapAt w' M l := h.kept (below_grown hb none) (by simp)
theorem DMapAt.lt {w : World} {M : Nat} {l : List Deed} (h : DMapAt w M l) : M < w.heap.size := by
  obtain ⟨D, h1, _⟩ := h.ex
  exact h1.lt
theorem size_data (s : ByteArray) : s.data.toList.length = s.size := by simp
theorem DMapAt.look2 {w : World} {M : Nat} {l : List Deed} (h : DMapAt w M l) (s : ByteArray) (z : Int) (hs : s.size ≤ 1000000) (hz : In64 z) (q : Nat) :
    (Instr.lookup 89 (.map (some M)) (.agg #[.string s, .int .i64 z]) true).run Tryz.prog (w.drewN q) = .ok (.tuple #[valT l s z, .bool (findS l s z).isSome]) (w.drewN q) := by
  obtain ⟨D, h1, h2, h3⟩ := h.ex
  have hd : (w.drewN q).ownsMap Tryz.prog 36 heldE M l.length D := h1
  obtain ⟨v, ps, hrun, hv⟩ := hd.look_ok keyK Tryz.underlying89 (z := zeroD.v) (by kernel_rfl) (zd := .held zeroD.v) (zp := []) rfl (keyK_mk s z hs hz)
  have hl : s.data.toList.length ≤ 1000000 := by rw [size_data]; exact hs
  rw [h2 _ _ hl hz, mk_data] at hv
  rw [h3 _ _ hl hz, mk_data] at hrun
  simp only [heldE, Option.some.injEq, Prod.mk.injEq, DataW.held.injEq] at hv
  rw [hv.1] at hrun
  exact hrun
theorem DMapAt.hit {w : World} {M : Nat} {l : List Deed} (h : DMapAt w M l) {s : ByteArray} {z : Int} {x : Deed} (hs : s.size ≤ 1000000) (hz : In64 z) (q : Nat) (hf : findS l s z = some x) :
    (Instr.lookup 89 (.map (some M)) (.agg #[.string s, .int .i64 z]) true).run Tryz.prog (w.drewN q) = .ok (.tuple #[.agg #[.string x.site, .int .i64 x.no, .int .i64 x.at_, .int .i64 x.kind, .string x.id, .string x.fld, .string x.val, .int .i64 x.from_, .int .i64 x.to_, .string x.osite, .int .i64 x.ono, .string x.sum], .bool true]) (w.drewN q) := by
  have := h.look2 s z hs hz q
  rw [valT_some hf, hf] at this
  exact this
theorem DMapAt.miss {w : World} {M : Nat} {l : List Deed} (h : DMapAt w M l) {s : ByteArray} {z : Int} (hs : s.size ≤ 1000000) (hz : In64 z) (q : Nat) (hf : findS l s z = none) :
    (Instr.lookup 89 (.map (some M)) (.agg #[.string s, .int .i64 z]) true).run Tryz.prog (w.drewN q) = .ok (.tuple #[.agg #[.string ⟨#[]⟩, .int .i64 0, .int .i64 0, .int .i64 0, .string ⟨#[]⟩, .string ⟨#[]⟩, .string ⟨#[]⟩, .int .i64 0, .int .i64 0, .string ⟨#[]⟩, .int .i64 0, .string ⟨#[]⟩], .bool false]) (w.drewN q) := by
  have := h.look2 s z hs hz q
  rw [valT_none hf, hf] at this
  exact this
/-- Behind a further deed. -/
theorem DMapAt.put {w w' : World} {M : Nat} {l : List Deed} {D : DataW Value} (x : Deed) (hxs : x.site.size ≤ 1000000) (hxn : In64 x.no) (hn : NewT l x) (h1 : w.ownsMap Tryz.prog 36 heldE M l.length D)
    (h2 : ∀ (s : List UInt8) (z : Int), s.length ≤ 1000000 → In64 z → D.atKey (keyT s z) (.held zeroD.v) = .held (valT l ⟨s.toArray⟩ z)) (h3 : ∀ (s : List UInt8) (z : Int), s.length ≤ 1000000 → In64 z → has D (keyT s z) = (findS l ⟨s.toArray⟩ z).isSome)
    (hm : w'.ownsMap Tryz.prog 36 heldE M (l.length + 1) (D.put (keyT x.site.data.toList x.no) (.held x.v))) : DMapAt w' M (l ++ [x]) := by
  have hl : x.site.data.toList.length ≤ 1000000 := by rw [size_data]; exact hxs
  refine ⟨⟨D.put (keyT x.site.data.toList x.no) (.held x.v), by rw [List.length_append]; exact hm, fun s z hs hz => ?_, fun s z hs hz => ?_⟩⟩
  · by_cases e : s = x.site.data.toList ∧ z = x.no
    · obtain ⟨rfl, rfl⟩ := e
      rw [atKey_put_same h1.isMap (keyT_key _ _), mk_data, valT_some (findS_snoc_new hn)]
    · have hne : keyT s z ≠ keyT x.site.data.toList x.no := fun h => e (keyT_inj hs hz hl hxn h)
      have hne2 : ¬ (x.site = (⟨s.toArray⟩ : ByteArray) ∧ x.no = z) := fun ⟨h1, h2⟩ => e ⟨by rw [h1], h2.symm⟩
      rw [atKey_put_other hne, h2 s z hs hz]
      unfold valT
      rw [findS_snoc_old hne2]
  · by_cases e : s = x.site.data.toList ∧ z = x.no
    · obtain ⟨rfl, rfl⟩ := e
      rw [has_put_same h1.isMap (keyT_key _ _), mk_data, findS_snoc_new hn]
      rfl
    · have hne : keyT s z ≠ keyT x.site.data.toList x.no := fun h => e (keyT_inj hs hz hl hxn h)
      have hne2 : ¬ (x.site = (⟨s.toArray⟩ : ByteArray) ∧ x.no = z) := fun ⟨h1, h2⟩ => e ⟨by rw [h1], h2.symm⟩
      rw [has_put_other hne, h3 s z hs hz, findS_snoc_old hne2]
end Go.Proofs.YthogkcgklakibaaGreatDoor

namespace Go.Proofs.YthogkcgklakibaaGreatDoor
open Go.RowKit

/-- The number of the first deed of a site that is left out. -/
abbrev CutF : Type := ByteArray → Int
def cutS (f : CutF) (s : ByteArray) (z : Int) : CutF := fun t => if t = s then z else f t
def thereS (f : CutF) (s : ByteArray) (n : Int) : Bool := decide (f s = 0) || decide (n < f s)
def thereD (f : CutF) (d : Deed) : Bool := thereS f d.site d.no
theorem thereS_iff {f : CutF} {s : ByteArray} {n : Int} : thereS f s n = true ↔ f s = 0 ∨ n < f s := by simp [thereS]
theorem thereS_not {f : CutF} {s : ByteArray} {n : Int} : thereS f s n = false ↔ f s ≠ 0 ∧ f s ≤ n := by simp [thereS]
theorem cutS_self (f : CutF) (s : ByteArray) (z : Int) : cutS f s z s = z := by simp [cutS]
theorem cutS_ne (f : CutF) {s t : ByteArray} (z : Int) (h : t ≠ s) : cutS f s z t = f t := by simp [cutS, h]
structure Cut1 (l : List Deed) (at_ : Int) (k : Nat) (f : CutF) : Prop where
  late : ∀ d ∈ l.take k, at_ < d.at_ → f d.site ≠ 0 ∧ f d.site ≤ d.no
  src : ∀ s, f s ≠ 0 → ∃ x ∈ l.take k, x.site = s ∧ f s = x.no ∧ at_ < x.at_
theorem Cut1.start (l : List Deed) (at_ : Int) : Cut1 l at_ 0 (fun _ => 0) := ⟨fun d hd => by simp at hd, fun s h => absurd rfl h⟩
theorem take_lt {l : List Deed} (h : RightD l) {k : Nat} {x d : Deed} (hx : x ∈ l.take k) (hd : l[k]? = some d) : StLt x d := by
  obtain ⟨hk, rfl⟩ := List.getElem?_eq_some_iff.1 hd
  obtain ⟨i, hi, rfl⟩ := List.mem_take_iff_getElem.1 hx
  exact List.pairwise_iff_getElem.1 h.ord i k (by omega) hk (by omega)
theorem take_snocD {l : List Deed} {k : Nat} {d : Deed} (hd : l[k]? = some d) : l.take (k + 1) = l.take k ++ [d] := by
  obtain ⟨h1, rfl⟩ := List.getElem?_eq_some_iff.1 hd
  rw [List.take_succ_eq_append_getElem h1]
theorem StLt.no {a b : Deed} (h : StLt a b) (hs : a.site = b.site) : a.no < b.no := by
  rcases h with h | ⟨-, h⟩
  · rw [hs] at h; exact absurd h (List.lt_irrefl _)
  · exact h
theorem Cut1.put {l : List Deed} {at_ : Int} {k : Nat} {f : CutF} (hl : RightD l) (h : Cut1 l at_ k f) {d : Deed} (hd : l[k]? = some d) (h0 : f d.site = 0) (ha : at_ < d.at_) : Cut1 l at_ (k + 1) (cutS f d.site d.no) := by
  have hpos := (hl.pred d (List.mem_of_getElem? hd)).pos
  rw [show Cut1 l at_ (k + 1) (cutS f d.site d.no) ↔ _ from Iff.rfl]
  refine ⟨fun y hy hya => ?_, fun s hs => ?_⟩
  · rw [take_snocD hd, List.mem_append, List.mem_singleton] at hy
    rcases hy with hy | rfl
    · have k1 := h.late y hy hya
      by_cases e : y.site = d.site
      · rw [e] at k1; exact absurd h0 k1.1
      · rw [cutS_ne _ _ e]; exact k1
    · rw [cutS_self]; exact ⟨by omega, Int.le_refl _⟩
  · rw [take_snocD hd]
    by_cases e : s = d.site
    · subst e
      exact ⟨d, by simp, rfl, cutS_self .., ha⟩
    · rw [cutS_ne _ _ e] at hs ⊢
      obtain ⟨x, hx, h2⟩ := h.src s hs
      exact ⟨x, List.mem_append_left _ hx, h2⟩
theorem Cut1.pass {l : List Deed} {at_ : Int} {k : Nat} {f : CutF} (hl : RightD l) (h : Cut1 l at_ k f) {d : Deed} (hd : l[k]? = some d) (hn : ¬ (f d.site = 0 ∧ at_ < d.at_)) : Cut1 l at_ (k + 1) f := by
  refine ⟨fun y hy hya => ?_, fun s hs => ?_⟩
  · rw [take_snocD hd, List.mem_append, List.mem_singleton] at hy
    rcases hy with hy | rfl
    · exact h.late y hy hya
    · have h1 : f y.site ≠ 0 := fun e => hn ⟨e, hya⟩
      obtain ⟨x, hx, h2, h3, -⟩ := h.src _ h1
      have := (take_lt hl hx hd).no h2
      exact ⟨h1, by omega⟩
  · rw [take_snocD hd]
    obtain ⟨x, hx, h2⟩ := h.src s hs
    exact ⟨x, List.mem_append_left _ hx, h2⟩
structure Cut2 (l : List Deed) (at_ : Int) (f : CutF) : Prop where
  late : ∀ d ∈ l, at_ < d.at_ → thereD f d = false
  src : ∀ s, f s ≠ 0 → ∃ x ∈ l, at_ < x.at_
  val : ∀ s, 0 ≤ f s ∧ f s ≤ 2001
theorem no_bound {l : List Deed} (hl : RightD l) {x : Deed} (hx : x ∈ l) : 1 ≤ x.no ∧ x.no ≤ 2001 := by
  obtain ⟨k, hk⟩ := List.getElem?_of_mem hx
  have h1 := hl.no_le k x hk
  have h2 := (List.getElem?_eq_some_iff.1 hk).1
  have h3 := hl.few
  have h5 := (hl.pred x hx).pos
  exact ⟨h5, by omega⟩
theorem Cut1.val {l : List Deed} {at_ : Int} {k : Nat} {f : CutF} (hl : RightD l) (h : Cut1 l at_ k f) (s : ByteArray) : 0 ≤ f s ∧ f s ≤ 2001 := by
  by_cases e : f s = 0
  · rw [e]; omega
  · obtain ⟨x, hx, -, h2, -⟩ := h.src s e
    have := no_bound hl (List.mem_of_mem_take hx)
    omega
theorem Cut1.done {l : List Deed} {at_ : Int} {k : Nat} {f : CutF} (hl : RightD l) (h : Cut1 l at_ k f) (hk : l.length ≤ k) : Cut2 l at_ f := by
  have e : l.take k = l := List.take_of_length_le hk
  have hv := h.val hl
  obtain ⟨h1, h2⟩ := h
  rw [e] at h1 h2
  exact ⟨fun d hd ha => thereS_not.2 (h1 d hd ha), fun s hs => by obtain ⟨x, hx, -, -, h4⟩ := h2 s hs; exact ⟨x, hx, h4⟩, hv⟩
def cntT (l : List Deed) (f : CutF) : Nat := (l.filter (thereD f)).length
theorem cntT_le (l : List Deed) (f : CutF) : cntT l f ≤ l.length := List.length_filter_le _ _
theorem filter_le' {p q : Deed → Bool} : ∀ (l : List Deed), (∀ x ∈ l, q x = true → p x = true) → (l.filter q).length ≤ (l.filter p).length
  | [], _ => Nat.le_refl _
  | x :: l, h => by
    have ih := filter_le' l fun y hy => h y (List.mem_cons_of_mem _ hy)
    have hx := h x (List.mem_cons_self ..)
    rw [List.filter_cons, List.filter_cons]
    by_cases hq : q x = true
    · rw [if_pos hq, if_pos (hx hq)]
      simp only [List.length_cons]; omega
    · rw [if_neg hq]
      split
      · simp only [List.length_cons]; omega
      · exact ih
theorem filter_lt' {p q : Deed → Bool} {d : Deed} (hp : p d = true) (hq : q d = false) : ∀ (l : List Deed), d ∈ l → (∀ x ∈ l, q x = true → p x = true) → (l.filter q).length < (l.filter p).length
  | [], h, _ => by cases h
  | x :: l, hd, h => by
    have hx := h x (List.mem_cons_self ..)
    have hle := filter_le' l fun y hy => h y (List.mem_cons_of_mem _ hy)
    rw [List.filter_cons, List.filter_cons]
    rcases List.mem_cons.1 hd with rfl | hd
    · rw [if_pos hp, if_neg (by rw [hq]; decide)]
      simp only [List.length_cons]; omega
    · have ih := filter_lt' hp hq l hd fun y hy => h y (List.mem_cons_of_mem _ hy)
      by_cases hqx : q x = true
      · rw [if_pos hqx, if_pos (hx hqx)]
        simp only [List.length_cons]; omega
      · rw [if_neg hqx]
        split
        · simp only [List.length_cons]; omega
        · exact ih
theorem there_less {f : CutF} {d x : Deed} (hd : thereD f d = true) (h0 : d.no ≠ 0) (h : thereD (cutS f d.site d.no) x = true) : thereD f x = true := by
  unfold thereD at *
  rw [thereS_iff] at *
  by_cases e : x.site = d.site
  · rw [e, cutS_self] at h
    rw [e]
    omega
  · rw [cutS_ne _ _ e] at h
    exact h
theorem Cut2.put {l : List Deed} {at_ : Int} {f : CutF} (hl : RightD l) (h : Cut2 l at_ f) {d : Deed} (hd : d ∈ l) (ht : thereD f d = true) (ho : thereS f d.osite d.ono = false) : Cut2 l at_ (cutS f d.site d.no) ∧ cntT l (cutS f d.site d.no) < cntT l f := by
  have hb := no_bound hl hd
  have h0 : d.no ≠ 0 := by omega
  refine ⟨⟨fun y hy hya => ?_, fun s hs => ?_, fun s => ?_⟩, ?_⟩
  · have k1 := h.late y hy hya
    cases e : thereD (cutS f d.site d.no) y with
    | false => rfl
    | true => rw [there_less ht h0 e] at k1; cases k1
  · by_cases e : s = d.site
    · exact h.src _ (thereS_not.1 ho).1
    · rw [cutS_ne _ _ e] at hs; exact h.src s hs
  · by_cases e : s = d.site
    · subst e; rw [cutS_self]; omega
    · rw [cutS_ne _ _ e]; exact h.val s
  · refine filter_lt' ht ?_ l hd fun x _ hx => there_less ht h0 hx
    unfold thereD
    rw [thereS_not, cutS_self]
    exact ⟨h0, Int.le_refl _⟩
def FixD (l : List Deed) (k : Nat) (f : CutF) : Prop := ∀ d ∈ l.take k, backB d.kind = true → thereD f d = true → thereS f d.osite d.ono = true
theorem FixD.start (l : List Deed) (f : CutF) : FixD l 0 f := fun d hd => by simp at hd
theorem FixD.next {l : List Deed} {k : Nat} {f : CutF} (h : FixD l k f) {d : Deed} (hd : l[k]? = some d) (hn : ¬ (backB d.kind = true ∧ thereD f d = true ∧ thereS f d.osite d.ono = false)) : FixD l (k + 1) f := fun y hy hb ht => by
  rw [take_snocD hd, List.mem_append, List.mem_singleton] at hy
  rcases hy with hy | rfl
  · exact h y hy hb ht
  · cases e : thereS f y.osite y.ono with
    | true => rfl
    | false => exact absurd ⟨hb, ht, e⟩ hn
structure PastD (l : List Deed) (at_ : Int) (L : List Deed) : Prop where
  right : RightD L
  sub : ∀ d ∈ L, d ∈ l
  early : ∀ d ∈ L, d.at_ ≤ at_
  same : (∀ d ∈ l, d.at_ ≤ at_) → L = l
theorem Cut2.past {l : List Deed} {at_ : Int} {f : CutF} (hl : RightD l) (h : Cut2 l at_ f) (hf : FixD l l.length f) : PastD l at_ (l.filter (thereD f)) := by
  rw [FixD, List.take_length] at hf
  refine ⟨hl.part _ (fun d hd e he hp hs hn => ?_) (fun d hd hp hb x hx hs hn => ?_), fun d hd => (List.mem_filter.1 hd).1, fun d hd => ?_, fun hA => ?_⟩
  · unfold thereD at *
    rw [thereS_iff] at *
    rw [hs]
    omega
  · have := hf d hd hb hp
    unfold thereD
    rw [hs, hn]
    exact this
  · obtain ⟨h1, h2⟩ := List.mem_filter.1 hd
    refine Int.not_lt.1 fun ha => ?_
    rw [h.late d h1 ha] at h2
    cases h2
  · rw [List.filter_eq_self]
    intro d hd
    unfold thereD
    rw [thereS_iff]
    refine .inl (Classical.byContradiction fun e => ?_)
    obtain ⟨x, hx, h2⟩ := h.src _ e
    have := hA x hx
    omega
end Go.Proofs.YthogkcgklakibaaGreatDoor
