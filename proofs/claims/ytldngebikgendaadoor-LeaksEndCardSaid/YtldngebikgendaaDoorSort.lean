/-
  slices.SortFunc at spans, by From.
-/
import Derived.Test.YtldngebikgendaaDoorConcat
import Derived.Shelf.SlSortCmp.NoneTotal
namespace Go.Proofs.YtldngebikgendaaDoor
open Go.RowKit Go.Shelf Go.Sort

abbrev BSpan : Type := { x : Int × Int // 0 ≤ x.1 ∧ x.1 ≤ 1000000 }
instance : Inhabited BSpan := ⟨⟨(0, 0), by decide⟩⟩
def encB (x : BSpan) : List Value := [.int .i64 x.1.1, .int .i64 x.1.2]
def cmpB (x y : BSpan) : Int := x.1.1 - y.1.1

theorem ltB (x y : BSpan) : ltOf cmpB x y = decide (x.1.1 < y.1.1) := by
  unfold ltOf cmpB
  apply decide_eq_decide.2; omega
theorem swoB : SWO (ltOf cmpB) where
  irrefl x := by rw [ltB]; simp
  trans x y z h1 h2 := by rw [ltB] at *; simp at *; omega
  ntrans x y z h1 h2 := by rw [ltB] at *; simp at *; omega

set_option maxHeartbeats 400000 in
theorem cmp_closure (x y : BSpan) (W : World) : Calls Tryd.prog 50 #[.agg #[.int .i64 x.1.1, .int .i64 x.1.2], .agg #[.int .i64 y.1.1, .int .i64 y.1.2]] W fun e w' => e = .returned (.int .i64 (cmpB x y)) ∧ ∃ q os', w' = grow (W.drewN q) os' := by
  obtain ⟨⟨x1, x2⟩, hx1, hx2⟩ := x
  obtain ⟨⟨y1, y2⟩, hy1, hy2⟩ := y
  simp only at hx1 hx2 hy1 hy2
  unfold cmpB
  simp only
  go_enter Tryd.func50, Tryd.ntmps50
  go_wp2
  go_ret
  exact ⟨rfl, 0, _, by rw [alloc_eq_grow, alloc_eq_grow, grow_grow]; rfl⟩

theorem cmp_lays (blk off size : Nat) (w : World) : CmpLays Tryd.prog 50 #[] encB 2 cmpB blk off size w :=
  fun _ _ _ _ x y => cmp_closure x y _

/-- Spans in order of From. -/
def Sorted (l : List (Int × Int)) : Prop := l.Pairwise fun x y => x.1 ≤ y.1

def SortPost (w : World) (A : Option Addr) (v : Value) (l : List (Int × Int)) (e : Ending) (w' : World) : Prop :=
  e = .returned (.tuple #[]) ∧ ∃ l', l'.Perm l ∧ Sorted l' ∧ SpansAt w' A l.length l' ∧ w.grownBy w' v.ownBlock

theorem grown_sort {α : Type} [Inhabited α] (enc : α → List Value) (k : Nat) (w : World) (blk off m : Nat) (d : Array α) (os : Array Obj) : w.grownBy (sortWorldK enc k w blk off m d os) (some blk) := by
  refine ⟨rfl, rfl, rfl, size_sortWorldK_c enc k w blk off m d os, fun i hi hne => ?_⟩
  have hne' : blk ≠ i := fun e => hne (by rw [e])
  show ((w.heap.modify blk _) ++ os)[i]? = _
  rw [Array.getElem?_append_left (by simpa using hi), Array.getElem?_modify, if_neg hne']

theorem flat_get (d : Array BSpan) (k : Nat) (hk : k < d.size) : (flatK encB 2 d)[k * 2]! = .int .i64 d[k]!.1.1 ∧ (flatK encB 2 d)[k * 2 + 1]! = .int .i64 d[k]!.1.2 := by
  rw [get_flatK _ _ _ _ (by omega), get_flatK _ _ _ _ (by omega)]
  have e1 : k * 2 / 2 = k := by omega
  have e2 : k * 2 % 2 = 0 := by omega
  have e3 : (k * 2 + 1) / 2 = k := by omega
  have e4 : (k * 2 + 1) % 2 = 1 := by omega
  rw [e1, e2, e3, e4]
  exact ⟨rfl, rfl⟩

theorem sort_any (base n c : Nat) (A : Option Addr) (l : List (Int × Int)) (w : World) (hl : ∀ x ∈ l, 0 ≤ x.1 ∧ x.1 ≤ 1000000) (hn : n = l.length) (hn2 : n ≤ 10000) (h : OwnSpans w base (.slice A n c) l) :
    Calls Tryd.prog 49 #[.slice A n c, .func (.func 50) #[] #[]] w (SortPost w A (.slice A n c) l) := by
  subst hn
  cases l with
  | nil =>
    refine (AnyF.slices_SortFunc_none Tryd.sfQ49 A c _ w).mono ?_
    rintro e w' ⟨rfl, rfl⟩
    exact ⟨rfl, [], List.Perm.refl _, List.Pairwise.nil, ⟨rfl, fun h => by simp at h⟩, World.grownBy.refl _ _⟩
  | cons x0 r0 =>
    generalize hlx : x0 :: r0 = l at *
    have hpos : 0 < l.length := by rw [← hlx]; simp
    clear hlx
    obtain ⟨g, rfl, hgb, hgl, _⟩ := h.cells_ 0 hpos
    obtain ⟨cur, hcur⟩ : ∃ cur, w.heap[g]? = some (.cells cur 38 (0, 0)) := by
      rcases h.2 with ⟨hv, _⟩ | ⟨g', cap, cur, hv, _, hh, _⟩
      · cases hv
      · injection hv with h1 h2 h3
        injection h1 with h1
        injection h1 with h1 _
        subst h1
        exact ⟨cur, hh⟩
    let dl : List BSpan := l.attachWith (fun x => 0 ≤ x.1 ∧ x.1 ≤ 1000000) hl
    have hval : dl.map Subtype.val = l := List.attachWith_map_subtype_val ..
    have hlen : dl.length = l.length := by simp [dl]
    generalize dl = dl at hval hlen
    have hget : ∀ (d : Array BSpan) (k : Nat), k < d.size → ((d.toList.map Subtype.val).getD k (0, 0)) = d[k]!.1 := by
      intro d k hk
      simp [hk]
    have hH : HoldsK encB 2 w g 0 dl.toArray := by
      intro j hj
      rw [size_flatK] at hj
      have hj' : j / 2 < l.length := by simp [hlen] at hj; omega
      obtain ⟨g', hg', _, _, hc1, hc2⟩ := h.cells_ (j / 2) hj'
      injection hg' with hg'
      injection hg' with hg' _
      subst hg'
      have hv : l.getD (j / 2) (0, 0) = (dl.toArray[j / 2]!).1 := by rw [← hval]; exact hget dl.toArray (j / 2) (by simp; omega)
      have hfl := flat_get dl.toArray (j / 2) (by simp; omega)
      refine ⟨?_, by simp [World.frozen?, hcur]⟩
      rw [Nat.zero_add]
      rcases Nat.mod_two_eq_zero_or_one j with h0 | h0
      · have e : j / 2 * 2 = j := by omega
        rw [e] at hc1 hfl
        rw [hc1, hv, id_eq, hfl.1]
      · have e : j / 2 * 2 + 1 = j := by omega
        rw [e] at hc2 hfl
        rw [hc2, hv, id_eq, hfl.2]
    have eg : ∀ args w, (callFunc 50 args).run Tryd.prog w = .ok (.enter 50 args) w := enters_of Tryd.func50 (by kernel_rfl) rfl
    have hcon := AnyQ.slices_SortFunc Tryd.sfQ49 2 Tryd.isAgg38 Tryd.sizeOf38 encB (fun _ => rfl)
      (fun x v hv => by simp [encB] at hv; rcases hv with rfl | rfl <;> rfl) cmpB swoB 50 #[] g 0 c dl.toArray w eg (cmp_lays g 0 _ w) hH hgl (by simp; omega)
    have hsz : dl.toArray.size = l.length := by simp [hlen]
    rw [hsz] at hcon
    refine hcon.mono ?_
    rintro e w' ⟨rfl, d', q, os, hp, hs, rfl⟩
    have hd' : d'.size = l.length := by rw [hp.1, hsz]
    have hH' := holdsK_sortWorldK_c encB 2 w g 0 dl.toArray d' q os hH hgl (by rw [hp.1])
    refine ⟨rfl, d'.toList.map Subtype.val, ?_, ?_, ⟨by simp [hd'], fun _ => ⟨g, rfl, Nat.lt_of_lt_of_le hgl (size_sortWorldK_c encB 2 w g 0 q d' os), fun k hk => ?_⟩⟩, ?_⟩
    · have := hp.2.2
      rw [← hval]
      have e1 : d'.extract 0 l.length = d' := by rw [← hd']; simp
      have e2 : dl.toArray.extract 0 l.length = dl.toArray := by rw [← hsz]; simp
      rw [e1, e2] at this
      exact this.map _
    · unfold Sorted
      rw [List.pairwise_iff_getElem]
      intro i j hi hj hij
      have hi' : i < d'.size := by simpa using hi
      have hj' : j < d'.size := by simpa using hj
      have := hs i j (Nat.zero_le _) hij (by omega)
      rw [ltB, getElem!_pos d' i hi', getElem!_pos d' j hj'] at this
      simp at this ⊢
      exact this
    · have hk' : k < d'.size := by omega
      have c1 := (hH'.cell (i := k) (c := 0) hk' (by omega)).1
      have c2 := (hH'.cell (i := k) (c := 1) hk' (by omega)).1
      rw [hget d' k hk']
      simp only [Nat.zero_add, Nat.add_zero] at c1 c2
      exact ⟨c1, c2⟩
    · exact grown_sort encB 2 w g 0 q d' os

end Go.Proofs.YtldngebikgendaaDoor
