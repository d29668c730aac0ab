
/-
  Matches: how they lie, how they are sorted and compared.
-/
import Derived.Test.YtehhigcdeahopaaGreatDoorCat2
import Derived.Shelf.SlSortCmp.InsertionK
import Derived.Shelf.SlicesQ.Equal
import Derived.Laws.StructEq
namespace Go.Proofs.YtehhigcdeahopaaGreatDoor
open Go.RowKit Go.Shelf Go.Sort Go.Lib

section
variable {α : Type} {E : Elem α} [Inhabited α]
theorem Owns.holds (hE : E.Ok) {w : World} {base g c n : Nat} {l : List α} (h : Owns E w base (.slice (some ⟨g, 0, none⟩) n c) l) : HoldsK E.enc E.size w g 0 l.toArray := by
  intro j hj
  rw [size_flatK, List.size_toArray] at hj
  have hp := hE.pos
  have hk : j / E.size < l.length := (Nat.div_lt_iff_lt_mul hp).2 hj
  have hm : j % E.size < E.size := Nat.mod_lt _ hp
  obtain ⟨G, c', he, _, _, hc⟩ := h.where_ hE (Nat.lt_of_le_of_lt (Nat.zero_le _) hk)
  simp only [Value.slice.injEq, Option.some.injEq, Addr.mk.injEq] at he
  obtain ⟨⟨rfl, _⟩, _⟩ := he
  have hx : l[j / E.size]? = some l[j / E.size]! := by simp [hk]
  have hu : (E.enc l[j / E.size]!)[j % E.size]? = some (E.enc l[j / E.size]!)[j % E.size]! := by
    have : j % E.size < (E.enc l[j / E.size]!).length := by rw [hE.len]; exact hm
    rw [List.getElem?_eq_getElem this, getElem!_pos (E.enc l[j / E.size]!) (j % E.size) this]
  have h1 := hc _ _ _ _ hx hu
  have e : j / E.size * E.size + j % E.size = j := by rw [Nat.mul_comm]; exact Nat.div_add_mod _ _
  rw [e] at h1
  rw [get_flatK _ _ _ _ (by rw [List.size_toArray]; exact hj), Nat.zero_add]
  simpa using h1
theorem elems_of_holds (hE : E.Ok) {w : World} {g c : Nat} {d : Array α} (h : HoldsK E.enc E.size w g 0 d) (hlt : g < w.heap.size) (hc : d.size ≤ c) : ElemsAt E w (some ⟨g, 0, none⟩) d.size c d.toList := by
  refine ⟨by simp, hc, (fun e => by cases e), fun _ => ⟨g, 0, rfl, hlt, fun k x i v hk hv => ?_⟩⟩
  have hk' : k < d.size := by have := (List.getElem?_eq_some_iff.1 hk).1; simpa using this
  have hi : i < E.size := by have := (List.getElem?_eq_some_iff.1 hv).1; rw [hE.len] at this; exact this
  have h1 := (h.cell (i := k) (c := i) hk' hi).1
  have ex : d[k]! = x := by
    have h2 := hk
    rw [Array.getElem?_toList, Array.getElem?_eq_getElem hk'] at h2
    rw [getElem!_pos d k hk']
    exact Option.some.inj h2
  rw [ex] at h1
  have ev : (E.enc x)[i]! = v := by
    obtain ⟨h3, h4⟩ := List.getElem?_eq_some_iff.1 hv
    rw [getElem!_pos _ i h3, h4]
  rw [ev] at h1
  exact h1
theorem grown_sort (enc : α → List Value) (k : Nat) (w : World) (blk off m : Nat) (d : Array α) (os : Array Obj) : w.grownBy (sortWorldK enc k w blk off m d os) (some blk) := by
  refine ⟨rfl, rfl, rfl, size_sortWorldK_c enc k w blk off m d os, fun i hi hne => ?_⟩
  have hne' : blk ≠ i := fun e => hne (by rw [e])
  show ((w.heap.modify blk _) ++ os)[i]? = _
  rw [Array.getElem?_append_left (by simpa using hi), Array.getElem?_modify, if_neg hne']
theorem size_insInner (lt : α → α → Bool) (a : Nat) : ∀ (j : Nat) (d : Array α), (insInner lt a j d).size = d.size
  | 0, d => rfl
  | j + 1, d => by
    unfold insInner
    split
    · rw [size_insInner lt a j]; simp [swp]
    · rfl
theorem size_insOuter (lt : α → α → Bool) (a b : Nat) : ∀ (n i : Nat) (d : Array α), b - i ≤ n → (insOuter lt a b i d).size = d.size
  | 0, i, d, h => by
    rw [insOuter, if_neg (by omega)]
  | n + 1, i, d, h => by
    rw [insOuter]
    split
    · rw [size_insOuter lt a b n (i + 1) _ (by omega), size_insInner]
    · rfl
theorem size_insertionSort (lt : α → α → Bool) (d : Array α) (a b : Nat) : (insertionSort lt d a b).size = d.size := size_insOuter lt a b _ _ _ (Nat.le_refl _)
end

abbrev MatchT : Type := List UInt8 × (Nat × Nat)
def MatchE : Elem MatchT := ⟨59, 52, 3, 32, .agg #[.string ⟨#[]⟩, .int .i64 0, .int .i64 0], fun x => [.string ⟨x.1.toArray⟩, .int .i64 (x.2.1 : Int), .int .i64 (x.2.2 : Int)]⟩
theorem matchE_ok : MatchE.Ok := ⟨fun _ => rfl, fun x u hu => by simp [MatchE] at hu; rcases hu with rfl | rfl | rfl <;> rfl, by decide, by decide, by kernel_rfl, by kernel_rfl, Tryz.underlying52⟩

def greatW (f g : Nat × Nat) : Int := cmpI (wrap64 ((g.1 : Int) * (f.2 : Int))) (wrap64 ((f.1 : Int) * (g.2 : Int)))
set_option maxHeartbeats 800000 in
theorem greaterW_any (f g : Nat × Nat) (w : World) :
    Calls Tryz.prog 57 #[.agg #[.int .i64 (f.1 : Int), .int .i64 (f.2 : Int)], .agg #[.int .i64 (g.1 : Int), .int .i64 (g.2 : Int)]] w fun e w' => e = .returned (.int .i64 (greatW f g)) ∧ w' = (w.alloc (.cells #[.int .i64 (f.1 : Int), .int .i64 (f.2 : Int)] 57)).alloc (.cells #[.int .i64 (g.1 : Int), .int .i64 (g.2 : Int)] 57) := by
  obtain ⟨a, b⟩ := f
  obtain ⟨c, d⟩ := g
  simp only at *
  go_enter Tryz.func57, Tryz.ntmps57
  go_wp2_with fail
  refine (compareI_any _ _ _).mono ?_
  rintro e w' ⟨rfl, hw⟩
  obtain rfl := hw.symm
  go_wp2_with fail
  go_ret
  exact ⟨ret_int (by simp [greatW]), rfl⟩

def cmpM (x y : MatchT) : Int := greatW x.2 y.2
set_option maxHeartbeats 800000 in
theorem cmpM_closure (x y : MatchT) (W : World) : Calls Tryz.prog 56 #[.agg #[.string ⟨x.1.toArray⟩, .int .i64 (x.2.1 : Int), .int .i64 (x.2.2 : Int)], .agg #[.string ⟨y.1.toArray⟩, .int .i64 (y.2.1 : Int), .int .i64 (y.2.2 : Int)]] W fun e w' => e = .returned (.int .i64 (cmpM x y)) ∧ ∃ q os', w' = grow (W.drewN q) os' := by
  obtain ⟨x1, x2, x3⟩ := x
  obtain ⟨y1, y2, y3⟩ := y
  unfold cmpM
  simp only at *
  generalize (⟨x1.toArray⟩ : ByteArray) = xs
  generalize (⟨y1.toArray⟩ : ByteArray) = ys
  go_enter Tryz.func56, Tryz.ntmps56
  go_wp2_with fail
  refine (greaterW_any (x2, x3) (y2, y3) _).mono ?_
  rintro e w' ⟨rfl, rfl⟩
  go_wp2_with fail
  go_ret
  exact ⟨rfl, 0, _, by rw [alloc_eq_grow, alloc_eq_grow, alloc_eq_grow, alloc_eq_grow, grow_grow, grow_grow, grow_grow]; rfl⟩
theorem cmpM_lays (blk off size : Nat) (w : World) : CmpLays Tryz.prog 56 #[] MatchE.enc 3 cmpM blk off size w :=
  fun _ _ _ _ x y => cmpM_closure x y _

def sortM (l : List MatchT) : List MatchT := (insertionSort (ltOf cmpM) l.toArray 0 l.length).toList
theorem sortM_length (l : List MatchT) : (sortM l).length = l.length := by
  unfold sortM
  rw [Array.length_toList, size_insertionSort, List.size_toArray]
theorem sortM_nil : sortM [] = [] := List.eq_nil_of_length_eq_zero (sortM_length [])

def SortMPost (w : World) (A : Option Addr) (n c : Nat) (l : List MatchT) (row : Option Nat) (e : Ending) (w' : World) : Prop :=
  e = .returned (.tuple #[]) ∧ ElemsAt MatchE w' A n c (sortM l) ∧ w.grownBy w' row

set_option maxHeartbeats 800000 in
theorem insM_zero (A : Option Addr) (c : Nat) (w : World) (F : Value) : Calls Tryz.prog 122 #[.slice A 0 c, .int .i64 0, .int .i64 0, F] w fun e w' => e = .returned (.tuple #[]) ∧ w' = w := by
  go_enter Tryz.func122, Tryz.ntmps122
  go_wp2_with fail
  refine wp_loop_rounds 1 ?_
  rw [rounds_succ]
  go_wp2_with fail
  go_end0
  exact ⟨rfl, rfl⟩

set_option maxHeartbeats 800000 in
theorem insM_any (base n c : Nat) (A : Option Addr) (l : List MatchT) (w : World) (hn : n = l.length) (hn2 : n ≤ 1000) (h : Owns MatchE w base (.slice A n c) l) :
    Calls Tryz.prog 122 #[.slice A n c, .int .i64 0, .int .i64 n, .func (.func 56) #[] #[]] w (SortMPost w A n c l (Value.slice A n c).ownBlock) := by
  subst hn
  rcases Nat.eq_zero_or_pos l.length with h0 | h0
  · have hl := List.eq_nil_of_length_eq_zero h0
    subst hl
    obtain ⟨A', c', he, hcc, hat, _⟩ := h.at_ matchE_ok
    simp only [Value.slice.injEq] at he
    obtain ⟨rfl, _, rfl⟩ := he
    refine (insM_zero A c w _).mono ?_
    rintro e w' ⟨rfl, hw⟩
    rw [hw]
    exact ⟨rfl, by rw [sortM_nil]; exact hat, World.grownBy.refl _ _⟩
  · obtain ⟨g, c', he, hgb, hgl, _⟩ := h.where_ matchE_ok h0
    simp only [Value.slice.injEq] at he
    obtain ⟨rfl, _, rfl⟩ := he
    obtain ⟨A', c', he, hcc, hat, _⟩ := h.at_ matchE_ok
    simp only [Value.slice.injEq] at he
    obtain ⟨rfl, _, rfl⟩ := he
    have hlc := hat.2.1
    have hH := h.holds matchE_ok
    have eg : ∀ args w, (callFunc 56 args).run Tryz.prog w = .ok (.enter 56 args) w := enters_of Tryz.func56 (by kernel_rfl) rfl
    have hcon := AnyQ.insertionSortCmpFunc Tryz.inQ122 3 Tryz.isAgg59 Tryz.sizeOf59 MatchE.enc (fun _ => rfl)
      (fun x v hv => matchE_ok.one x v hv) cmpM 56 #[] g 0 c 0 l.length l.toArray w eg (cmpM_lays g 0 _ w) hH hgl (Nat.zero_le _) (by simp) (by simp; omega)
    have hsz : l.toArray.size = l.length := by simp
    rw [hsz] at hcon
    refine Calls.mono hcon ?_
    rintro e w' ⟨rfl, q, os, rfl⟩
    have hs : (insertionSort (ltOf cmpM) l.toArray 0 l.length).size = l.length := by rw [size_insertionSort, hsz]
    have hH' := holdsK_sortWorldK_c MatchE.enc 3 w g 0 l.toArray _ q os hH hgl (by rw [hs, hsz])
    have hel := elems_of_holds matchE_ok (c := c) hH' (Nat.lt_of_lt_of_le hgl (size_sortWorldK_c MatchE.enc 3 w g 0 q _ os)) (by rw [hs]; exact hlc)
    rw [hs] at hel
    exact ⟨rfl, hel, grown_sort MatchE.enc 3 w g 0 q _ os⟩

set_option maxHeartbeats 1600000 in
set_option maxRecDepth 100000 in
theorem stableM_any (base n c : Nat) (A : Option Addr) (l : List MatchT) (w : World) (hn : n = l.length) (hn2 : n < 20) (h : Owns MatchE w base (.slice A n c) l) :
    Calls Tryz.prog 95 #[.slice A n c, .int .i64 n, .func (.func 56) #[] #[]] w (SortMPost w A n c l (Value.slice A n c).ownBlock) := by
  have HN := Lib.hid hn; clear hn
  have hI := insM_any base n c A l w HN.out (by omega) h
  clear h
  have h20 : ¬ (20 : Int) ≤ (n : Int) := by omega
  have h21 : ¬ (20 : Int) < (n : Int) := by omega
  go_enter Tryz.func95, Tryz.ntmps95
  go_wp2_with fail
  refine wp_loop_rounds 1 ?_
  rw [rounds_succ]
  go_wp2_with fail
  refine hI.mono ?_
  rintro e w' ⟨rfl, h1, h2⟩
  clear hI
  go_wp2_with fail
  refine wp_loop_rounds 1 ?_
  rw [rounds_succ]
  go_wp2_with fail
  go_end0
  exact ⟨rfl, h1, h2⟩

set_option maxHeartbeats 800000 in
theorem sortStableM_any (base n c : Nat) (A : Option Addr) (l : List MatchT) (w : World) (hn : n = l.length) (hn2 : n < 20) (h : Owns MatchE w base (.slice A n c) l) :
    Calls Tryz.prog 55 #[.slice A n c, .func (.func 56) #[] #[]] w (SortMPost w A n c l (Value.slice A n c).ownBlock) := by
  have HI := Lib.hid (stableM_any base n c A l w hn hn2 h); clear h hn
  go_enter Tryz.func55, Tryz.ntmps55
  go_wp2_with fail
  refine HI.out.mono ?_
  rintro e w' ⟨rfl, h1, h2⟩
  go_wp2_with fail
  go_end0
  exact ⟨rfl, h1, h2⟩

end Go.Proofs.YtehhigcdeahopaaGreatDoor
