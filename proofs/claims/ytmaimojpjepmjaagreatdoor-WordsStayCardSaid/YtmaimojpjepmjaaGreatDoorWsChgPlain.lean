
/-
  What Changes of a stream makes, as a function of the numbers; how large it is. Plain lists.
-/
import Derived.Test.YtmaimojpjepmjaaGreatDoorWsDiffer
import Derived.Test.YtmaimojpjepmjaaGreatDoorWsProse
namespace Go.Proofs.YtmaimojpjepmjaaGreatDoor
open Go.RowKit

theorem seg_sub {α : Type} (x : List α) (i j : Nat) : (seg x i j).Sublist x := (List.take_sublist _ _).trans (List.drop_sublist _ _)
theorem lensL_sub {l m : List (List UInt8)} (h : l.Sublist m) : lensL l ≤ lensL m := by
  unfold lensL
  induction h with
  | slnil => exact Nat.le_refl _
  | cons a _ ih => simp only [List.map_cons, List.sum_cons]; omega
  | cons_cons a _ ih => simp only [List.map_cons, List.sum_cons]; omega
theorem findK_lt {p : Nat → Bool} : ∀ (f k q : Nat), findK p f k = some q → k ≤ q ∧ q < k + f
  | 0, k, q, h => by simp [findK] at h
  | f + 1, k, q, h => by
    unfold findK at h
    split at h
    · simp at h; omega
    · have := findK_lt f (k + 1) q h; omega
theorem keptR_bd (x y : List (List UInt8)) : ∀ (f i j : Nat), j ≤ y.length → ∀ p ∈ keptR x y f i j, p.1 < i + f ∧ p.2 < y.length
  | 0, i, j, _, p, hp => by simp [keptR] at hp
  | f + 1, i, j, hj, p, hp => by
    cases hf : findK (hitB x y i j) (y.length - j) j with
    | none =>
      rw [keptR_none hf] at hp
      have := keptR_bd x y f (i + 1) j hj p hp
      omega
    | some k =>
      have hk := findK_lt _ _ _ hf
      rw [keptR_some hf] at hp
      rcases List.mem_cons.1 hp with rfl | hp
      · simp only; omega
      · have := keptR_bd x y f (i + 1) (k + 1) (by omega) p hp
        omega
theorem keptR_len (x y : List (List UInt8)) : ∀ (f i j : Nat), (keptR x y f i j).length ≤ f
  | 0, i, j => by simp [keptR]
  | f + 1, i, j => by
    cases hf : findK (hitB x y i j) (y.length - j) j with
    | none => rw [keptR_none hf]; have := keptR_len x y f (i + 1) j; omega
    | some k => rw [keptR_some hf]; have := keptR_len x y f (i + 1) (k + 1); simp only [List.length_cons]; omega
theorem chgs_bd (x y : List (List UInt8)) (B : Nat) : ∀ (ps : List (Nat × Nat)) (i j : Nat), (∀ p ∈ ps, p.1 ≤ B) → i ≤ B + 1 → ∀ c ∈ chgs x y i j ps, c.1 ≤ B + 1 ∧ c.2.1.Sublist x ∧ c.2.2.Sublist y
  | [], i, j, _, _, c, hc => by simp [chgs] at hc
  | p :: ps, i, j, hp, hi, c, hc => by
    simp only [chgs, List.mem_append] at hc
    rcases hc with hc | hc
    · split at hc
      · simp at hc; subst hc; exact ⟨hi, seg_sub _ _ _, seg_sub _ _ _⟩
      · simp at hc
    · exact chgs_bd x y B ps (p.1 + 1) (p.2 + 1) (fun q hq => hp q (List.mem_cons_of_mem _ hq)) (by have := hp p (by simp); omega) c hc

/-- How large the changes are that DifferOf makes of short texts. -/
structure SmallC (c : TokC) : Prop where
  lo : 0 ≤ c.1
  hi : c.1 ≤ 1000
  dn : c.2.1.length ≤ 100
  dl : lensL c.2.1 ≤ 200
  an : c.2.2.length ≤ 100
  al : lensL c.2.2 ≤ 200
theorem diffF_bd (x y : List (List UInt8)) (hx : x.length ≤ 100) (hy : y.length ≤ 100) (lx : lensL x ≤ 200) (ly : lensL y ≤ 200) :
    ((diffF x y).length ≤ 101) ∧ ∀ c ∈ diffF x y, SmallC c := by
  constructor
  · unfold diffF
    rw [List.length_map]
    have h1 := chgs_length x y (keptR x y x.length 0 0 ++ [(x.length, y.length)]) 0 0
    have h2 := keptR_len x y x.length 0 0
    rw [List.length_append, List.length_singleton] at h1
    omega
  · intro c hc
    unfold diffF at hc
    obtain ⟨d, hd, rfl⟩ := List.mem_map.1 hc
    obtain ⟨h1, h2, h3⟩ := chgs_bd x y x.length _ 0 0 (fun p hp => by
      rcases List.mem_append.1 hp with hp | hp
      · have := keptR_bd x y x.length 0 0 (Nat.zero_le _) p hp; omega
      · simp at hp; subst hp; exact Nat.le_refl _) (by omega) d hd
    have a1 := h2.length_le
    have a2 := h3.length_le
    have a3 := lensL_sub h2
    have a4 := lensL_sub h3
    exact ⟨by simp only [castC]; omega, by simp only [castC]; omega, by simp only [castC]; omega, by simp only [castC]; omega, by simp only [castC]; omega, by simp only [castC]; omega⟩

def repB : ByteArray := ⟨(Lib.repeatL (⟨#[120]⟩ : ByteArray).data.toList 20000).toArray⟩
def dropW : List ByteArray := [⟨#[97]⟩, ⟨#[]⟩, ⟨#[97, 32, 98]⟩, ⟨#[10]⟩]
def addW : List ByteArray := [⟨#[97]⟩, ⟨#[]⟩, ⟨#[97, 32, 98]⟩, ⟨#[10]⟩, repB]
theorem repB_size : repB.size = 20000 := by
  have h : repB.size = (Lib.repeatL (⟨#[120]⟩ : ByteArray).data.toList 20000).length := bag_size _
  rw [h, Lib.repeatL_length]
  rfl
theorem dropW_le : ∀ s ∈ dropW, s.data.toList.length ≤ 3 := by decide +kernel
theorem addW_le : ∀ s ∈ addW, s.data.toList.length ≤ 20000 := by
  intro s hs
  have e : s.data.toList.length = s.size := by simp
  rw [e]
  simp only [addW, List.mem_cons, List.not_mem_nil, or_false] at hs
  rcases hs with rfl | rfl | rfl | rfl | rfl
  · decide
  · decide
  · decide
  · decide
  · rw [repB_size]; exact Nat.le_refl _
/-- The changes with one of them made wrong, or none. -/
def tailF (zs : List Int) (k : Nat) (l : List TokC) : List TokC :=
  if nextF zs k 3 == 0 && decide (0 < l.length) then
    if nextF zs (k + 2) 5 = 0 then l.set (nextN zs (k + 1) l.length) ((l.getD (nextN zs (k + 1) l.length) (0, [], [])).1 + (-2 + nextF zs (k + 3) 5), (l.getD (nextN zs (k + 1) l.length) (0, [], [])).2)
    else if nextF zs (k + 2) 5 = 1 then l.set (nextN zs (k + 1) l.length) ((l.getD (nextN zs (k + 1) l.length) (0, [], [])).1, (l.getD (nextN zs (k + 1) l.length) (0, [], [])).2.1 ++ [(oneF zs (k + 3) dropW).data.toList], (l.getD (nextN zs (k + 1) l.length) (0, [], [])).2.2)
    else if nextF zs (k + 2) 5 = 2 then l.set (nextN zs (k + 1) l.length) ((l.getD (nextN zs (k + 1) l.length) (0, [], [])).1, (l.getD (nextN zs (k + 1) l.length) (0, [], [])).2.1, (l.getD (nextN zs (k + 1) l.length) (0, [], [])).2.2 ++ [(oneF zs (k + 3) addW).data.toList])
    else if nextF zs (k + 2) 5 = 3 then l.set (nextN zs (k + 1) l.length) ((l.getD (nextN zs (k + 1) l.length) (0, [], [])).1, [], [])
    else l ++ [l.getD 0 (0, [], [])]
  else l
def abxB : ByteArray := ⟨#[97, 98, 32, 120, 10]⟩
def cdB : ByteArray := ⟨#[99, 100, 32]⟩
def changesF (zs : List Int) (k : Nat) (t : ByteArray) : List TokC :=
  tailF zs (changedK (changedK k t) (changedF zs k t abxB)) (diffF (tokL t.data.toList) (tokL (changedF zs (changedK k t) (changedF zs k t abxB) cdB).data.toList))

/-- How large the changes are that a stream makes. -/
structure ChgBd (cs : List TokC) : Prop where
  len : cs.length ≤ 102
  at_ : ∀ c ∈ cs, -10 ≤ c.1 ∧ c.1 ≤ 1010
  drop : ∀ c ∈ cs, c.2.1.length ≤ 101 ∧ lensL c.2.1 ≤ 20200
  add : ∀ c ∈ cs, c.2.2.length ≤ 101 ∧ lensL c.2.2 ≤ 20200
  addn : (cs.map fun c => c.2.2.length).sum ≤ 20000
  addl : (cs.map fun c => lensL c.2.2).sum ≤ 50000
theorem sum_set_le (f : TokC → Nat) : ∀ (l : List TokC) (i : Nat) (c : TokC), ((l.set i c).map f).sum ≤ (l.map f).sum + f c
  | [], i, c => by simp
  | a :: l, 0, c => by simp; omega
  | a :: l, i + 1, c => by have := sum_set_le f l i c; simp only [List.set_cons_succ, List.map_cons, List.sum_cons]; omega
theorem sum_le_mul (f : TokC → Nat) (B : Nat) : ∀ (l : List TokC), (∀ c ∈ l, f c ≤ B) → (l.map f).sum ≤ l.length * B
  | [], _ => by simp
  | a :: l, h => by
    have h1 := sum_le_mul f B l (fun c hc => h c (List.mem_cons_of_mem _ hc))
    have h2 := h a (by simp)
    simp only [List.map_cons, List.sum_cons, List.length_cons, Nat.add_mul, Nat.one_mul]; omega
theorem small_sums {l : List TokC} (hl : l.length ≤ 101) (h : ∀ c ∈ l, SmallC c) : (l.map fun c => c.2.2.length).sum ≤ 10100 ∧ (l.map fun c => lensL c.2.2).sum ≤ 20200 := by
  have h1 := sum_le_mul (fun c => c.2.2.length) 100 l (fun c hc => (h c hc).an)
  have h2 := sum_le_mul (fun c => lensL c.2.2) 200 l (fun c hc => (h c hc).al)
  omega
theorem SmallC.zero : SmallC (0, [], []) := ⟨by simp, by simp, by simp, by simp [lensL], by simp, by simp [lensL]⟩
theorem small_getD {l : List TokC} (h : ∀ c ∈ l, SmallC c) (i : Nat) : SmallC (l.getD i (0, [], [])) := by
  rw [List.getD_eq_getElem?_getD]
  cases e : l[i]? with
  | none => exact SmallC.zero
  | some c => exact h c (List.mem_of_getElem? e)
theorem bd_set {l : List TokC} (hl : l.length ≤ 101) (h : ∀ c ∈ l, SmallC c) (i : Nat) (c : TokC) (h1 : -10 ≤ c.1 ∧ c.1 ≤ 1010) (h2 : c.2.1.length ≤ 101 ∧ lensL c.2.1 ≤ 20200) (h3 : c.2.2.length ≤ 101 ∧ lensL c.2.2 ≤ 20200) : ChgBd (l.set i c) := by
  obtain ⟨s1, s2⟩ := small_sums hl h
  have a1 : ((l.set i c).map fun c => c.2.2.length).sum ≤ (l.map fun c => c.2.2.length).sum + c.2.2.length := sum_set_le _ l i c
  have a2 : ((l.set i c).map fun c => lensL c.2.2).sum ≤ (l.map fun c => lensL c.2.2).sum + lensL c.2.2 := sum_set_le _ l i c
  have key : ∀ d ∈ l.set i c, d = c ∨ SmallC d := fun d hd => by
    rcases List.mem_or_eq_of_mem_set hd with hd | hd
    · exact .inr (h d hd)
    · exact .inl hd
  refine ⟨by rw [List.length_set]; omega, fun d hd => ?_, fun d hd => ?_, fun d hd => ?_, by omega, by omega⟩
  · rcases key d hd with rfl | k
    · exact h1
    · have := k.lo; have := k.hi; omega
  · rcases key d hd with rfl | k
    · exact h2
    · have := k.dn; have := k.dl; omega
  · rcases key d hd with rfl | k
    · exact h3
    · have := k.an; have := k.al; omega
theorem bd_small {l : List TokC} (hl : l.length ≤ 102) (h : ∀ c ∈ l, SmallC c) : ChgBd l := by
  have h1 := sum_le_mul (fun c => c.2.2.length) 100 l (fun c hc => (h c hc).an)
  have h2 := sum_le_mul (fun c => lensL c.2.2) 200 l (fun c hc => (h c hc).al)
  refine ⟨hl, fun d hd => ?_, fun d hd => ?_, fun d hd => ?_, by omega, by omega⟩
  · have := (h d hd).lo; have := (h d hd).hi; omega
  · have := (h d hd).dn; have := (h d hd).dl; omega
  · have := (h d hd).an; have := (h d hd).al; omega
theorem lensL_snoc (l : List (List UInt8)) (t : List UInt8) : lensL (l ++ [t]) = lensL l + t.length := by simp [lensL]
theorem tailF_bd (zs : List Int) (k : Nat) (l : List TokC) (hl : l.length ≤ 101) (h : ∀ c ∈ l, SmallC c) : ChgBd (tailF zs k l) := by
  have hg := small_getD h (nextN zs (k + 1) l.length)
  have h0 := small_getD h 0
  have hr := nextF_range zs (k + 3) 5
  have hr1 := hr.1
  have hr2 := hr.2 (by omega)
  have hd := dropW_le _ (oneF_mem zs (k + 3) dropW (by decide))
  have ha := addW_le _ (oneF_mem zs (k + 3) addW (by decide))
  unfold tailF
  have g1 := hg.lo; have g2 := hg.hi; have g3 := hg.dn; have g4 := hg.dl; have g5 := hg.an; have g6 := hg.al
  split
  · split
    · exact bd_set hl h _ _ ⟨by simp only; omega, by simp only; omega⟩ ⟨by simp only; omega, by simp only; omega⟩ ⟨by simp only; omega, by simp only; omega⟩
    · split
      · exact bd_set hl h _ _ ⟨by simp only; omega, by simp only; omega⟩ ⟨by simp only [List.length_append, List.length_singleton]; omega, by simp only [lensL_snoc]; omega⟩ ⟨by simp only; omega, by simp only; omega⟩
      · split
        · exact bd_set hl h _ _ ⟨by simp only; omega, by simp only; omega⟩ ⟨by simp only; omega, by simp only; omega⟩ ⟨by simp only [List.length_append, List.length_singleton]; omega, by simp only [lensL_snoc]; omega⟩
        · split
          · exact bd_set hl h _ _ ⟨by simp only; omega, by simp only; omega⟩ ⟨by simp, by simp [lensL]⟩ ⟨by simp, by simp [lensL]⟩
          · exact bd_small (by rw [List.length_append, List.length_singleton]; omega) (fun c hc => by
              rcases List.mem_append.1 hc with hc | hc
              · exact h c hc
              · simp at hc; subst hc; simpa using h0)
  · exact bd_small (by omega) h
end Go.Proofs.YtmaimojpjepmjaaGreatDoor
