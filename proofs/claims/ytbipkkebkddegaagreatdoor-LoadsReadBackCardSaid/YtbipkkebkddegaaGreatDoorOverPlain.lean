
/-
  Rows that are put over others, twice. Plain lists.
-/
import Derived.Test.YtbipkkebkddegaaGreatDoorTokPlain
import Derived.Lib.Hide
namespace Go.Proofs.YtbipkkebkddegaaGreatDoor

abbrev Tab : Type := List (List (List UInt8))
/-- One write: a row, a column, a string. -/
abbrev Wr : Type := Nat × Nat × List UInt8
def setW (T : Tab) (w : Wr) : Tab := match T[w.1]? with
  | some r => T.set w.1 (r.set w.2.1 w.2.2)
  | none => T
def runW (T : Tab) (W : List Wr) : Tab := W.foldl setW T
theorem setW_some {T : Tab} {w : Wr} {r : List (List UInt8)} (h : T[w.1]? = some r) : setW T w = T.set w.1 (r.set w.2.1 w.2.2) := by unfold setW; rw [h]
theorem setW_none {T : Tab} {w : Wr} (h : T[w.1]? = none) : setW T w = T := by unfold setW; rw [h]
theorem setW_length (T : Tab) (w : Wr) : (setW T w).length = T.length := by
  cases h : T[w.1]? with
  | none => rw [setW_none h]
  | some r => rw [setW_some h, List.length_set]
theorem runW_length (W : List Wr) : ∀ T : Tab, (runW T W).length = T.length := by
  induction W with
  | nil => intro T; rfl
  | cons w W ih => intro T; show (runW (setW T w) W).length = _; rw [ih, setW_length]
/-- What stands at a place. -/
def atT (T : Tab) (x y : Nat) : Option (List UInt8) := match T[x]? with
  | some r => r[y]?
  | none => none
theorem atT_some {T : Tab} {x : Nat} {r : List (List UInt8)} (h : T[x]? = some r) (y : Nat) : atT T x y = r[y]? := by unfold atT; rw [h]
theorem atT_none {T : Tab} {x : Nat} (h : T[x]? = none) (y : Nat) : atT T x y = none := by unfold atT; rw [h]
theorem atT_set_same {T : Tab} {w : Wr} {u : List UInt8} (h : atT T w.1 w.2.1 = some u) : atT (setW T w) w.1 w.2.1 = some w.2.2 := by
  cases hr : T[w.1]? with
  | none => rw [atT_none hr] at h; cases h
  | some r =>
    rw [atT_some hr] at h
    have h1 : (setW T w)[w.1]? = some (r.set w.2.1 w.2.2) := by rw [setW_some hr, List.getElem?_set_self (List.getElem?_eq_some_iff.1 hr).1]
    rw [atT_some h1, List.getElem?_set_self (List.getElem?_eq_some_iff.1 h).1]
theorem atT_set_other (T : Tab) (w : Wr) (x y : Nat) (h : ¬ (x = w.1 ∧ y = w.2.1)) : atT (setW T w) x y = atT T x y := by
  cases hr : T[w.1]? with
  | none => rw [setW_none hr]
  | some r =>
    by_cases hx : x = w.1
    · subst hx
      have h1 : (setW T w)[w.1]? = some (r.set w.2.1 w.2.2) := by rw [setW_some hr, List.getElem?_set_self (List.getElem?_eq_some_iff.1 hr).1]
      rw [atT_some h1, atT_some hr, List.getElem?_set_ne (fun e => h ⟨rfl, e.symm⟩)]
    · have h1 : (setW T w)[x]? = T[x]? := by rw [setW_some hr, List.getElem?_set_ne (fun e => hx e.symm)]
      unfold atT; rw [h1]
theorem atT_run_other (x y : Nat) : ∀ (W : List Wr) (T : Tab), (∀ w ∈ W, ¬ (x = w.1 ∧ y = w.2.1)) → atT (runW T W) x y = atT T x y
  | [], T, _ => rfl
  | w :: W, T, h => by
    show atT (runW (setW T w) W) x y = _
    rw [atT_run_other x y W _ (fun v hv => h v (List.mem_cons_of_mem _ hv)), atT_set_other T w x y (h w (by simp))]
/-- The writes go to different places, each in the table. -/
def ApartW (T : Tab) (W : List Wr) : Prop := (W.Pairwise fun v w => ¬ (v.1 = w.1 ∧ v.2.1 = w.2.1)) ∧ ∀ w ∈ W, ∃ u, atT T w.1 w.2.1 = some u
theorem atT_run (W : List Wr) : ∀ (T : Tab), ApartW T W → ∀ w ∈ W, atT (runW T W) w.1 w.2.1 = some w.2.2 := by
  induction W with
  | nil => intro T _ w hw; cases hw
  | cons v W ih =>
    intro T h w hw
    obtain ⟨hp, hin⟩ := h
    rw [List.pairwise_cons] at hp
    show atT (runW (setW T v) W) w.1 w.2.1 = _
    rcases List.mem_cons.1 hw with rfl | hw
    · rw [atT_run_other _ _ W _ (fun u hu => hp.1 u hu)]
      obtain ⟨u, hu⟩ := hin w (by simp)
      exact atT_set_same hu
    · refine ih (setW T v) ⟨hp.2, fun u hu => ?_⟩ w hw
      obtain ⟨q, hq⟩ := hin u (List.mem_cons_of_mem _ hu)
      refine ⟨q, ?_⟩
      rw [atT_set_other T v u.1 u.2.1 (fun e => hp.1 u hu ⟨e.1.symm, e.2.symm⟩)]
      exact hq
/-- A write of what stands there changes nothing. -/
theorem setW_noop {T : Tab} {w : Wr} (h : atT T w.1 w.2.1 = some w.2.2) : setW T w = T := by
  cases hr : T[w.1]? with
  | none => exact setW_none hr
  | some r =>
    rw [atT_some hr] at h
    obtain ⟨h1, h2⟩ := List.getElem?_eq_some_iff.1 hr
    obtain ⟨h3, h4⟩ := List.getElem?_eq_some_iff.1 h
    have e1 : r.set w.2.1 w.2.2 = r := by rw [← h4]; exact List.set_getElem_self h3
    rw [setW_some hr, e1, ← h2]
    exact List.set_getElem_self h1
theorem runW_noop : ∀ (W : List Wr) (T : Tab), (∀ w ∈ W, atT T w.1 w.2.1 = some w.2.2) → runW T W = T
  | [], T, _ => rfl
  | w :: W, T, h => by
    show runW (setW T w) W = T
    rw [setW_noop (h w (by simp))]
    exact runW_noop W T (fun v hv => h v (List.mem_cons_of_mem _ hv))
/-- The writes made twice are the writes made once. -/
theorem runW_twice (W : List Wr) (T : Tab) (h : ApartW T W) : runW (runW T W) W = runW T W := runW_noop W _ (atT_run W T h)

/-- The heads of both tables. -/
def headsL (b o : List (List UInt8)) : List (List UInt8) := o.foldl (fun hs h => if h ∈ hs then hs else hs ++ [h]) b
theorem headsL_sub (o : List (List UInt8)) : ∀ b : List (List UInt8), ∃ m, headsL b o = b ++ m := by
  induction o with
  | nil => intro b; exact ⟨[], by simp [headsL]⟩
  | cons h o ih =>
    intro b
    by_cases hm : h ∈ b
    · obtain ⟨m, hm2⟩ := ih b
      refine ⟨m, ?_⟩
      show headsL (if h ∈ b then b else b ++ [h]) o = _
      rw [if_pos hm, hm2]
    · obtain ⟨m, hm2⟩ := ih (b ++ [h])
      refine ⟨h :: m, ?_⟩
      show headsL (if h ∈ b then b else b ++ [h]) o = _
      rw [if_neg hm, hm2]; simp
theorem headsL_all (o : List (List UInt8)) : ∀ b : List (List UInt8), (∀ h ∈ b, h ∈ headsL b o) ∧ ∀ h ∈ o, h ∈ headsL b o := by
  induction o with
  | nil => intro b; exact ⟨fun h hh => hh, fun h hh => by cases hh⟩
  | cons x o ih =>
    intro b
    have e : headsL b (x :: o) = headsL (if x ∈ b then b else b ++ [x]) o := rfl
    rw [e]
    obtain ⟨h1, h2⟩ := ih (if x ∈ b then b else b ++ [x])
    have hx : x ∈ (if x ∈ b then b else b ++ [x]) := by
      by_cases hm : x ∈ b
      · rw [if_pos hm]; exact hm
      · rw [if_neg hm]; simp
    refine ⟨fun h hh => h1 h ?_, fun h hh => ?_⟩
    · by_cases hm : x ∈ b
      · rw [if_pos hm]; exact hh
      · rw [if_neg hm]; simp [hh]
    · rcases List.mem_cons.1 hh with rfl | hh
      · exact h1 h hx
      · exact h2 h hh
theorem headsL_id (o b : List (List UInt8)) (h : ∀ x ∈ o, x ∈ b) : headsL b o = b := by
  induction o with
  | nil => rfl
  | cons x o ih =>
    show headsL (if x ∈ b then b else b ++ [x]) o = b
    rw [if_pos (h x (by simp))]
    exact ih (fun y hy => h y (List.mem_cons_of_mem _ hy))
theorem headsL_nodup (o : List (List UInt8)) : ∀ b : List (List UInt8), b.Nodup → (headsL b o).Nodup := by
  induction o with
  | nil => intro b h; exact h
  | cons x o ih =>
    intro b h
    show (headsL (if x ∈ b then b else b ++ [x]) o).Nodup
    by_cases hm : x ∈ b
    · rw [if_pos hm]; exact ih b h
    · rw [if_neg hm]
      refine ih _ ?_
      rw [List.nodup_append]
      refine ⟨h, by simp, fun a ha c hc e => ?_⟩
      rw [List.mem_singleton] at hc
      subst hc; subst e
      exact hm ha
theorem headsL_len (o : List (List UInt8)) : ∀ b : List (List UInt8), (headsL b o).length ≤ b.length + o.length := by
  induction o with
  | nil => intro b; exact Nat.le_refl _
  | cons x o ih =>
    intro b
    show (headsL (if x ∈ b then b else b ++ [x]) o).length ≤ _
    have h := ih (if x ∈ b then b else b ++ [x])
    have h2 : (if x ∈ b then b else b ++ [x]).length ≤ b.length + 1 := by split <;> simp
    simp only [List.length_cons]; omega
end Go.Proofs.YtbipkkebkddegaaGreatDoor
