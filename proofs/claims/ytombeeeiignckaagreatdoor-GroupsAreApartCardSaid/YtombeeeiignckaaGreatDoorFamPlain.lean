
/-
  Families in plain lists: the items below the tops, in order of the walk, are all items, each once.
-/
import Derived.Test.YtombeeeiignckaaGreatDoorItm
namespace Go.Proofs.YtombeeeiignckaaGreatDoor

/-- The item so many steps above one. -/
def upI (l : List Itm) : Nat → Nat → Option Nat
  | 0, j => some j
  | k + 1, j => (upI l k j).bind (parI l)
theorem upI_succ' (l : List Itm) : ∀ k j, upI l (k + 1) j = (parI l j).bind (upI l k)
  | 0, j => by simp [upI]
  | k + 1, j => by
    rw [upI, upI_succ' l k j]
    cases h : parI l j with
    | none => rfl
    | some p => rfl
theorem upI_lt {l : List Itm} : ∀ {k j i : Nat}, j < l.length → upI l k j = some i → i < l.length
  | 0, j, i, hj, h => by simp [upI] at h; omega
  | k + 1, j, i, hj, h => by
    rw [upI] at h
    cases hu : upI l k j with
    | none => rw [hu] at h; cases h
    | some m => rw [hu] at h; exact parI_lt h
/-- The items right below one. -/
def kidsI (l : List Itm) (i : Nat) : List Nat := (List.range l.length).filter fun j => decide (parI l j = some i)
def topsI (l : List Itm) : List Nat := (List.range l.length).filter fun j => decide (parI l j = none)
/-- An item and all below it, as deep as that. -/
def famI (l : List Itm) : Nat → Nat → List Nat
  | 0, i => [i]
  | f + 1, i => i :: (kidsI l i).flatMap (famI l f)
/-- How often an item comes when one walks up so far. -/
def hitsI (l : List Itm) (j i : Nat) : Nat → Nat
  | 0 => if upI l 0 j = some i then 1 else 0
  | k + 1 => hitsI l j i k + if upI l (k + 1) j = some i then 1 else 0
theorem sum_map_add {α : Type} (L : List α) (f g : α → Nat) : (L.map fun x => f x + g x).sum = (L.map f).sum + (L.map g).sum := by
  induction L with
  | nil => rfl
  | cons a L ih => simp only [List.map_cons, List.sum_cons, ih]; omega
theorem sum_one {P : Nat → Prop} [DecidablePred P] (o : Option Nat) (n : Nat) (ho : ∀ c, o = some c → c < n) :
    (((List.range n).filter fun c => decide (P c)).map fun c => if o = some c then 1 else 0).sum = if ∃ c, o = some c ∧ P c then 1 else 0 := by
  have key : ∀ m, (((List.range m).filter fun c => decide (P c)).map fun c => if o = some c then 1 else 0).sum = if ∃ c, c < m ∧ o = some c ∧ P c then 1 else 0 := by
    intro m
    induction m with
    | zero => simp
    | succ m ih =>
      rw [List.range_succ, List.filter_append, List.map_append, List.sum_append, ih]
      by_cases hm : o = some m
      · have h0 : ¬ ∃ c, c < m ∧ o = some c ∧ P c := fun ⟨c, hc, h1, _⟩ => by rw [hm] at h1; cases h1; omega
        rw [if_neg h0]
        by_cases hp : P m
        · rw [if_pos ⟨m, by omega, hm, hp⟩]; simp [hp, hm]
        · have h1 : ¬ ∃ c, c < m + 1 ∧ o = some c ∧ P c := fun ⟨c, _, h1, h2⟩ => by rw [hm] at h1; cases h1; exact hp h2
          rw [if_neg h1]; simp [hp]
      · have e : (∃ c, c < m + 1 ∧ o = some c ∧ P c) ↔ ∃ c, c < m ∧ o = some c ∧ P c := ⟨fun ⟨c, hc, h1, h2⟩ => ⟨c, by rcases Nat.lt_succ_iff_lt_or_eq.1 hc with h | h; exact h; subst h; exact absurd h1 hm, h1, h2⟩, fun ⟨c, hc, h⟩ => ⟨c, by omega, h⟩⟩
        simp only [e]
        by_cases hp : P m <;> simp [hp, hm]
  rw [key n]
  have e : (∃ c, c < n ∧ o = some c ∧ P c) ↔ ∃ c, o = some c ∧ P c := ⟨fun ⟨c, _, h⟩ => ⟨c, h⟩, fun ⟨c, h⟩ => ⟨c, ho c h.1, h⟩⟩
  simp only [e]
theorem famI_count (l : List Itm) (j : Nat) (hj : j < l.length) : ∀ f i, (famI l f i).count j = hitsI l j i f
  | 0, i => by
    simp only [famI, hitsI, upI, List.count_cons, List.count_nil]
    by_cases h : j = i
    · subst h; simp
    · have h2 : ¬ i = j := fun e => h e.symm
      simp [h, h2]
  | f + 1, i => by
    have ih := famI_count l j hj f
    simp only [famI, List.count_cons, List.count_flatMap]
    have e : (List.map (List.count j ∘ famI l f) (kidsI l i)) = (kidsI l i).map fun c => hitsI l j c f := List.map_congr_left fun c _ => ih c
    rw [e]
    have key : ∀ g, ((kidsI l i).map fun c => hitsI l j c g).sum + (if upI l 0 j = some i then 1 else 0) = hitsI l j i (g + 1) := by
      intro g
      induction g with
      | zero =>
        have hs : ((kidsI l i).map fun c => hitsI l j c 0).sum = if ∃ c, upI l 0 j = some c ∧ parI l c = some i then 1 else 0 := sum_one (P := fun c => parI l c = some i) (upI l 0 j) l.length (fun c hc => upI_lt hj hc)
        rw [hs]
        simp only [hitsI]
        have e2 : (∃ c, upI l 0 j = some c ∧ parI l c = some i) ↔ upI l (0 + 1) j = some i := by
          rw [show upI l (0 + 1) j = (upI l 0 j).bind (parI l) from rfl]; cases upI l 0 j <;> simp
        simp only [e2]; omega
      | succ g ih2 =>
        have hs : ((kidsI l i).map fun c => if upI l (g + 1) j = some c then 1 else 0).sum = if ∃ c, upI l (g + 1) j = some c ∧ parI l c = some i then 1 else 0 := sum_one (P := fun c => parI l c = some i) (upI l (g + 1) j) l.length (fun c hc => upI_lt hj hc)
        have e2 : (∃ c, upI l (g + 1) j = some c ∧ parI l c = some i) ↔ upI l (g + 1 + 1) j = some i := by
          rw [show upI l (g + 1 + 1) j = (upI l (g + 1) j).bind (parI l) from rfl]; cases upI l (g + 1) j <;> simp
        have e3 : ((kidsI l i).map fun c => hitsI l j c (g + 1)) = (kidsI l i).map fun c => hitsI l j c g + if upI l (g + 1) j = some c then 1 else 0 := rfl
        rw [e3, sum_map_add, hs]
        simp only [e2]
        rw [show hitsI l j i (g + 1 + 1) = hitsI l j i (g + 1) + if upI l (g + 1 + 1) j = some i then 1 else 0 from rfl, ← ih2]
        omega
    rw [← key f]
    simp only [upI]
    by_cases h : j = i
    · subst h; simp
    · have h2 : ¬ i = j := fun e => h e.symm
      simp [h, h2]
/-- How many of the first steps end at a top. -/
def endsI (l : List Itm) (j : Nat) : Nat → Nat
  | 0 => if ∃ c, upI l 0 j = some c ∧ parI l c = none then 1 else 0
  | k + 1 => endsI l j k + if ∃ c, upI l (k + 1) j = some c ∧ parI l c = none then 1 else 0
theorem tops_count (l : List Itm) (j : Nat) (hj : j < l.length) (f : Nat) : ((topsI l).flatMap (famI l f)).count j = endsI l j f := by
  rw [List.count_flatMap]
  have e : (List.map (List.count j ∘ famI l f) (topsI l)) = (topsI l).map fun c => hitsI l j c f := List.map_congr_left fun c _ => famI_count l j hj f c
  rw [e]
  induction f with
  | zero => exact sum_one (P := fun c => parI l c = none) (upI l 0 j) l.length (fun c hc => upI_lt hj hc)
  | succ g ih =>
    have hs : ((topsI l).map fun c => if upI l (g + 1) j = some c then 1 else 0).sum = if ∃ c, upI l (g + 1) j = some c ∧ parI l c = none then 1 else 0 := sum_one (P := fun c => parI l c = none) (upI l (g + 1) j) l.length (fun c hc => upI_lt hj hc)
    have e3 : ((topsI l).map fun c => hitsI l j c (g + 1)) = (topsI l).map fun c => hitsI l j c g + if upI l (g + 1) j = some c then 1 else 0 := rfl
    rw [e3, sum_map_add, hs, ih (List.map_congr_left fun c _ => famI_count l j hj g c)]
    rfl
theorem ends_none {l : List Itm} {j k : Nat} (h : upI l k j = none) : ∀ m, endsI l j (k + m) = endsI l j k
  | 0 => rfl
  | m + 1 => by
    have hz : ∀ q, upI l (k + q) j = none := by
      intro q
      induction q with
      | zero => exact h
      | succ q ih => rw [← Nat.add_assoc, upI, ih]; rfl
    have h1 : ¬ ∃ c, upI l (k + m + 1) j = some c ∧ parI l c = none := fun ⟨c, hc, _⟩ => by rw [Nat.add_assoc, hz] at hc; cases hc
    rw [← Nat.add_assoc, endsI, if_neg h1, ends_none h m, Nat.add_zero]
theorem ends_some {l : List Itm} {j : Nat} : ∀ k, upI l (k + 1) j ≠ none → endsI l j k = 0
  | 0, h => by
    have : ¬ ∃ c, upI l 0 j = some c ∧ parI l c = none := fun ⟨c, hc, h2⟩ => h (by rw [upI, hc]; exact h2)
    rw [endsI, if_neg this]
  | k + 1, h => by
    have h0 : upI l (k + 1) j ≠ none := fun e => h (by rw [upI, e]; rfl)
    have : ¬ ∃ c, upI l (k + 1) j = some c ∧ parI l c = none := fun ⟨c, hc, h2⟩ => h (by rw [upI, hc]; exact h2)
    rw [endsI, if_neg this, ends_some k h0]
theorem ends_one {l : List Itm} {j : Nat} : ∀ f, upI l (f + 1) j = none → endsI l j f = 1
  | 0, h => by
    have : ∃ c, upI l 0 j = some c ∧ parI l c = none := ⟨j, rfl, by rw [upI] at h; exact h⟩
    rw [endsI, if_pos this]
  | f + 1, h => by
    by_cases h1 : upI l (f + 1) j = none
    · have h2 := ends_none h1 0
      have h3 : ¬ ∃ c, upI l (f + 1) j = some c ∧ parI l c = none := fun ⟨c, hc, _⟩ => by rw [h1] at hc; cases hc
      rw [endsI, if_neg h3, ends_one f h1]
    · have : ∃ c, upI l (f + 1) j = some c ∧ parI l c = none := by
        cases hc : upI l (f + 1) j with
        | none => exact absurd hc h1
        | some c => exact ⟨c, rfl, by rw [upI, hc] at h; exact h⟩
      rw [endsI, if_pos this, ends_some f h1]
theorem up_of_chain (l : List Itm) : ∀ (f k j : Nat), (chainI l f j).length ≤ k → k < f → upI l (k + 1) j = none
  | 0, _, _, _, h => by omega
  | f + 1, k, j, h, hk => by
    rw [upI_succ']
    cases hp : parI l j with
    | none => rfl
    | some p =>
      rw [chainI_some hp] at h
      obtain ⟨k', rfl⟩ : ∃ k', k = k' + 1 := ⟨k - 1, by simp at h; omega⟩
      exact up_of_chain l f k' p (by simpa using h) (by omega)
theorem famI_mem {l : List Itm} : ∀ {f i j : Nat}, i < l.length → j ∈ famI l f i → j < l.length
  | 0, i, j, hi, h => by simp [famI] at h; omega
  | f + 1, i, j, hi, h => by
    rw [famI, List.mem_cons, List.mem_flatMap] at h
    rcases h with rfl | ⟨c, hc, h⟩
    · exact hi
    · have : c < l.length := by
        have := (List.mem_filter.1 hc).1
        simpa using this
      exact famI_mem this h
theorem pigeon : ∀ (n : Nat) (g : Nat → Nat), (∀ a, a ≤ n → g a < n) → ∃ a b, a < b ∧ b ≤ n ∧ g a = g b
  | 0, g, h => absurd (h 0 (Nat.le_refl _)) (by omega)
  | n + 1, g, h => by
    by_cases hx : ∃ a, a ≤ n ∧ g a = g (n + 1)
    · obtain ⟨a, ha, e⟩ := hx
      exact ⟨a, n + 1, by omega, Nat.le_refl _, e⟩
    · have hne : ∀ a, a ≤ n → g a ≠ g (n + 1) := fun a ha e => hx ⟨a, ha, e⟩
      obtain ⟨a, b, hab, hb, e⟩ := pigeon n (fun a => if g a = n then g (n + 1) else g a) (fun a ha => by
        have h1 := h a (by omega)
        have h2 := h (n + 1) (Nat.le_refl _)
        have h3 := hne a ha
        show (if g a = n then g (n + 1) else g a) < n
        split <;> omega)
      have h3 := hne a (by omega)
      have h4 := hne b hb
      have e' : (if g a = n then g (n + 1) else g a) = if g b = n then g (n + 1) else g b := e
      refine ⟨a, b, hab, by omega, ?_⟩
      split at e' <;> split at e' <;> omega
theorem upI_add (l : List Itm) (m : Nat) : ∀ (k j : Nat), upI l (m + k) j = (upI l k j).bind (upI l m)
  | 0, j => rfl
  | k + 1, j => by
    rw [← Nat.add_assoc, upI_succ', upI_succ']
    cases parI l j with
    | none => rfl
    | some p => exact upI_add l m k p
theorem chain_get {l : List Itm} : ∀ (f a j : Nat), a < f → (chainI l f j)[a]? = upI l (a + 1) j
  | 0, _, _, h => by omega
  | f + 1, a, j, h => by
    rw [upI_succ']
    cases hp : parI l j with
    | none => rw [chainI_none hp]; rfl
    | some p =>
      rw [chainI_some hp]
      cases a with
      | zero => rfl
      | succ a => rw [List.getElem?_cons_succ]; exact chain_get f a p (by omega)
theorem chain_short {l : List Itm} (h : ∀ i, i < l.length → i ∉ chainI l (l.length + 1) i) (j : Nat) : (chainI l (l.length + 1) j).length < l.length + 1 := by
  by_cases hlt : (chainI l (l.length + 1) j).length < l.length + 1
  · exact hlt
  exfalso
  obtain ⟨a, b, hab, hb, e⟩ := pigeon l.length (fun a => (chainI l (l.length + 1) j).getD a 0) (fun a ha => by
    have hal : a < (chainI l (l.length + 1) j).length := by omega
    show (chainI l (l.length + 1) j).getD a 0 < _
    rw [List.getD_eq_getElem?_getD, List.getElem?_eq_getElem hal]
    exact chainI_lt l _ j _ (List.getElem_mem hal))
  have hal : a < (chainI l (l.length + 1) j).length := by omega
  have hbl : b < (chainI l (l.length + 1) j).length := by omega
  have e' : (chainI l (l.length + 1) j).getD a 0 = (chainI l (l.length + 1) j).getD b 0 := e
  rw [List.getD_eq_getElem?_getD, List.getElem?_eq_getElem hal, List.getD_eq_getElem?_getD, List.getElem?_eq_getElem hbl] at e'
  have ga := chain_get (l := l) (l.length + 1) a j (by omega)
  have gb := chain_get (l := l) (l.length + 1) b j (by omega)
  rw [List.getElem?_eq_getElem hal] at ga
  rw [List.getElem?_eq_getElem hbl] at gb
  have hc := chainI_lt l _ j _ (List.getElem_mem hal)
  simp only [Option.getD_some] at e'
  rw [← e'] at gb
  generalize (chainI l (l.length + 1) j)[a] = c at *
  have hcc : upI l (b - a) c = some c := by
    have := upI_add l (b - a) (a + 1) j
    rw [← ga, show b - a + (a + 1) = b + 1 by omega, ← gb] at this
    exact this.symm
  refine h c hc ?_
  have := chain_get (l := l) (l.length + 1) (b - a - 1) c (by omega)
  rw [show b - a - 1 + 1 = b - a by omega, hcc] at this
  exact List.mem_of_getElem? this
theorem up_top {l : List Itm} (ht : TreeOk l) {j : Nat} (hj : j < l.length) {f : Nat} (hf : 4 ≤ f) : upI l (f + 1) j = none := by
  have h5 := up_of_chain l (l.length + 1) (chainI l (l.length + 1) j).length j (Nat.le_refl _) (chain_short ht.loop j)
  have hz : ∀ q, upI l ((chainI l (l.length + 1) j).length + 1 + q) j = none := by
    intro q
    induction q with
    | zero => exact h5
    | succ q ih => rw [← Nat.add_assoc, upI, ih]; rfl
  have h6 := ht.deep j hj
  have := hz (f - (chainI l (l.length + 1) j).length)
  rwa [show (chainI l (l.length + 1) j).length + 1 + (f - (chainI l (l.length + 1) j).length) = f + 1 by omega] at this
theorem fam_perm {l : List Itm} (ht : TreeOk l) {f : Nat} (hf : 4 ≤ f) : ((topsI l).flatMap (famI l f)).Perm (List.range l.length) := by
  rw [List.perm_iff_count]
  intro j
  by_cases hj : j < l.length
  · rw [tops_count l j hj f]
    have hr : (List.range l.length).count j = 1 := by
      rw [List.count_range]; simp [hj]
    rw [ends_one f (up_top ht hj hf), hr]
  · have h1 : (List.range l.length).count j = 0 := List.count_eq_zero.2 (by simp; omega)
    have h2 : ((topsI l).flatMap (famI l f)).count j = 0 := List.count_eq_zero.2 (fun hm => by
      rw [List.mem_flatMap] at hm
      obtain ⟨c, hc, hm⟩ := hm
      have : c < l.length := by
        have := (List.mem_filter.1 hc).1
        simpa using this
      exact hj (famI_mem this hm))
    rw [h1, h2]
end Go.Proofs.YtombeeeiignckaaGreatDoor
