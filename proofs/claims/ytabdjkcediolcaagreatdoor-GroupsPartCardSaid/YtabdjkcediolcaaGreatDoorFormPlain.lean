
/-
  Words of a string one byte after the other; forms of paragraphs, and what is common to documents. Plain lists.
-/
import Derived.Test.YtabdjkcediolcaaGreatDoorParaPlain
import Derived.Test.YtabdjkcediolcaaGreatDoorFaultPlain
namespace Go.Proofs.YtabdjkcediolcaaGreatDoor
open Go

def letC (c : UInt8) : Bool := letB (c.toNat : Int)
def wgo : Str → Str → List Str
  | cur, [] => if cur = [] then [] else [cur]
  | cur, c :: cs => if letC c then wgo (cur ++ [lowB c]) cs else if cur = [] then wgo [] cs else cur :: wgo [] cs
def openW (L : Str) (k : Nat) : Str := match (scan L k).1 with
  | none => []
  | some f => lowL (cutL L f k)
theorem cutL_more (L : Str) (f k : Nat) (hf : f ≤ k) (hk : k < L.length) : cutL L f (k + 1) = cutL L f k ++ [L[k]] := by
  unfold cutL
  have h : k - f < (L.drop f).length := by rw [List.length_drop]; omega
  rw [show k + 1 - f = (k - f) + 1 by omega, List.take_succ_eq_append_getElem h]
  congr 2
  rw [List.getElem_drop]
  congr 1
  omega
theorem wgo_scan (L : Str) : ∀ k, k ≤ L.length → wgo [] L = wordsTo L k ++ wgo (openW L k) (L.drop k)
  | 0, _ => by simp [wordsTo, openW, scan]
  | k + 1, hk => by
    rw [wgo_scan L k (by omega)]
    have hk' : k < L.length := by omega
    have hl : letAt L k = letC L[k] := by simp [letAt, letC, hk']
    have hd : L.drop k = L[k] :: L.drop (k + 1) := List.drop_eq_getElem_cons hk'
    have hf : ∀ f, (scan L k).1 = some f → f < k := fun f h => (scan_from L k f h).1
    rw [hd]
    unfold wordsTo openW
    rw [show scan L (k + 1) = scanStep (letAt L k) k (scan L k) from rfl, hl]
    generalize scan L k = x at *
    obtain ⟨o, out⟩ := x
    cases o with
    | none =>
      cases hc : letC L[k]
      · simp [scanStep, wgo, hc]
      · have e := cutL_more L k k (Nat.le_refl _) hk'
        have e0 : cutL L k k = [] := by simp [cutL]
        rw [e0] at e
        simp [scanStep, wgo, hc, e, lowL]
    | some f =>
      have hfk := hf f rfl
      have hne : lowL (cutL L f k) ≠ [] := by
        intro h
        have := congrArg List.length h
        simp [lowL, cutL] at this
        omega
      cases hc : letC L[k]
      · simp [scanStep, wgo, hc, hne]
      · have e := cutL_more L f k (by omega) hk'
        simp [scanStep, wgo, hc, e, lowL]
theorem wordsL_go (L : Str) : wordsL L = wgo [] L := by
  rw [wgo_scan L L.length (Nat.le_refl _)]
  have hl : letAt L L.length = false := by simp [letAt]
  have hf : ∀ f, (scan L L.length).1 = some f → f < L.length := fun f h => (scan_from L L.length f h).1
  unfold wordsL wordsTo openW
  rw [show scan L (L.length + 1) = scanStep (letAt L L.length) L.length (scan L L.length) from rfl, hl, List.drop_length]
  generalize scan L L.length = x at *
  obtain ⟨o, out⟩ := x
  cases o with
  | none => simp [scanStep, wgo]
  | some f =>
    have hfk := hf f rfl
    have hne : lowL (cutL L f L.length) ≠ [] := by
      intro h
      have := congrArg List.length h
      simp [lowL, cutL] at this
      omega
    simp [scanStep, wgo, hne]
def GoodC (c : UInt8) : Prop := letC c = true ∧ lowB c = c
def GoodW (x : Str) : Prop := x ≠ [] ∧ ∀ c ∈ x, GoodC c
theorem goodC_low (c : UInt8) (h : letC c = true) : GoodC (lowB c) := by
  have := byte_all (fun c => !letC c || (letC (lowB c) && lowB (lowB c) == lowB c)) (by decide +kernel) c
  simpa [h, GoodC] using this
theorem wgo_good : ∀ (L cur : Str), (∀ c ∈ cur, GoodC c) → ∀ x ∈ wgo cur L, GoodW x
  | [], cur, h, x, hx => by
    unfold wgo at hx
    split at hx
    · cases hx
    · rename_i hc
      simp at hx; subst hx
      exact ⟨hc, h⟩
  | c :: cs, cur, h, x, hx => by
    unfold wgo at hx
    split at hx
    · rename_i hc
      refine wgo_good cs _ (fun d hd => ?_) x hx
      rcases List.mem_append.1 hd with hd | hd
      · exact h d hd
      · simp at hd; subst hd; exact goodC_low c hc
    · split at hx
      · exact wgo_good cs [] (fun d hd => by cases hd) x hx
      · rename_i hc
        rcases List.mem_cons.1 hx with rfl | hx
        · exact ⟨hc, h⟩
        · exact wgo_good cs [] (fun d hd => by cases hd) x hx
theorem wgo_word : ∀ (x cur r : Str), (∀ c ∈ x, GoodC c) → wgo cur (x ++ r) = wgo (cur ++ x) r
  | [], cur, r, _ => by simp
  | c :: x, cur, r, h => by
    have hc := h c (by simp)
    have ih := wgo_word x (cur ++ [c]) r (fun d hd => h d (List.mem_cons_of_mem _ hd))
    rw [List.cons_append, wgo, if_pos hc.1, hc.2, ih]
    simp
theorem wgo_join : ∀ ws : List Str, (∀ x ∈ ws, GoodW x) → wgo [] (Lib.join ws [32]) = ws
  | [], _ => by rw [Lib.join_nil]; simp [wgo]
  | [x], h => by
    have hx := h x (by simp)
    rw [Lib.join_one]
    have := wgo_word x [] [] hx.2
    rw [List.append_nil, List.nil_append] at this
    rw [this, wgo, if_neg hx.1]
  | x :: y :: r, h => by
    have hx := h x (by simp)
    have ih := wgo_join (y :: r) (fun z hz => h z (List.mem_cons_of_mem _ hz))
    rw [join_two, wgo_word x [] _ hx.2, List.nil_append, List.singleton_append, wgo, if_neg (by decide), if_neg hx.1, ih]
theorem join_pair (a : Str) (r : List Str) : (Lib.join (a :: r) [32]).length ≤ a.length + 1 + (Lib.join r [32]).length := by
  cases r with
  | nil => rw [Lib.join_one]; omega
  | cons b r => rw [join_two]; simp; omega
theorem wgo_size : ∀ (L cur : Str), (Lib.join (wgo cur L) [32]).length ≤ cur.length + L.length
  | [], cur => by
    unfold wgo
    split
    · simp [Lib.join_nil]
    · rw [Lib.join_one]; simp
  | c :: cs, cur => by
    unfold wgo
    split
    · have := wgo_size cs (cur ++ [lowB c])
      simp at this ⊢; omega
    · split
      · have := wgo_size cs []
        simp at this ⊢; omega
      · have h1 := wgo_size cs []
        have h2 := join_pair cur (wgo [] cs)
        simp at h1 ⊢; omega

def formL (p : List Str) : Str := Lib.join (wordsL (Lib.join p [10])) [32]
theorem formL_size (p : List Str) : (formL p).length ≤ (Lib.join p [10]).length := by
  unfold formL; rw [wordsL_go]
  have := wgo_size (Lib.join p [10]) []
  simpa using this
theorem formL_again (p : List Str) : formL [formL p] = formL p := by
  show Lib.join (wordsL (Lib.join [formL p] [10])) [32] = formL p
  rw [Lib.join_one, wordsL_go]
  unfold formL
  rw [wordsL_go, wgo_join _ (wgo_good _ _ (fun c hc => by cases hc))]

/-- The forms of a text. -/
def formsT (t : Str) : List Str := (parasL t).map formL
def hasF (f : Str) (t : Str) : Bool := (formsT t).contains f
def cntF (l : List Str) (f : Str) : Nat := l.countP (hasF f)
/-- What is common to so many texts. -/
structure CommonOf (l : List Str) (least : Nat) (out : List Str) : Prop where
  rise : out.Pairwise (· < ·)
  mem : ∀ f, f ∈ out ↔ f ≠ [] ∧ least ≤ cntF l f
def keepP (c : List Str) (p : List Str) : Bool := decide (formL p = []) || !c.contains (formL p)
def stripL (c : List Str) (t : Str) : Str := textOf ((parasL t).filter (keepP c))
theorem parasL_strip (c : List Str) (t : Str) : parasL (stripL c t) = (parasL t).filter (keepP c) :=
  parasL_text _ fun p hp => parasL_right t p (List.mem_filter.1 hp).1
theorem stripL_again (c : List Str) (t : Str) : stripL c (stripL c t) = stripL c t := by
  have h : stripL c (stripL c t) = textOf ((parasL (stripL c t)).filter (keepP c)) := rfl
  rw [h, parasL_strip, List.filter_filter]
  simp [stripL]
theorem hasF_strip {c : List Str} {t f : Str} (h : hasF f (stripL c t) = true) (hf : f ≠ []) : f ∉ c ∧ hasF f t = true := by
  unfold hasF formsT at *
  rw [parasL_strip] at h
  simp only [List.contains_eq_mem, List.mem_map, List.mem_filter, decide_eq_true_eq] at h ⊢
  obtain ⟨p, ⟨hp, hk⟩, rfl⟩ := h
  refine ⟨?_, p, hp, rfl⟩
  unfold keepP at hk
  simp only [Bool.or_eq_true, decide_eq_true_eq, Bool.not_eq_true', List.contains_eq_mem, decide_eq_false_iff_not] at hk
  rcases hk with hk | hk
  · exact absurd hk hf
  · exact hk
theorem common_stripped {l c left : List Str} (hc : CommonOf l 2 c) (hl : CommonOf (l.map (stripL c)) 2 left) : left = [] := by
  cases left with
  | nil => rfl
  | cons f r =>
    exfalso
    obtain ⟨h1, h2⟩ := (hl.mem f).1 (by simp)
    unfold cntF at h2
    rw [List.countP_map] at h2
    have hle : l.countP (hasF f ∘ stripL c) ≤ l.countP (hasF f) := List.countP_mono_left fun x _ h => (hasF_strip h h1).2
    have hin : f ∈ c := (hc.mem f).2 ⟨h1, by unfold cntF; omega⟩
    have hpos : 0 < l.countP (hasF f ∘ stripL c) := by omega
    rw [List.countP_pos_iff] at hpos
    obtain ⟨x, _, hx⟩ := hpos
    exact (hasF_strip hx h1).1 hin
theorem hasF_form {f t : Str} (h : hasF f t = true) : ∃ p ∈ parasL t, formL p = f := by
  unfold hasF formsT at h
  simpa [List.contains_eq_mem] using h
theorem common_form {l c : List Str} {n : Nat} (hn : 1 ≤ n) (hc : CommonOf l n c) (f : Str) (hf : f ∈ c) : f ≠ [] ∧ formL [f] = f ∧ ∃ t ∈ l, f.length ≤ t.length + 2 := by
  obtain ⟨h1, h2⟩ := (hc.mem f).1 hf
  have hpos : 0 < l.countP (hasF f) := by unfold cntF at h2; omega
  rw [List.countP_pos_iff] at hpos
  obtain ⟨t, ht, hx⟩ := hpos
  obtain ⟨p, hp, rfl⟩ := hasF_form hx
  refine ⟨h1, formL_again p, t, ht, ?_⟩
  have a1 := formL_size p
  have a2 := join_cost p
  have a3 := costP_mem hp
  have a4 := parasL_cost t
  omega
theorem stripL_size (c : List Str) (t : Str) : (stripL c t).length ≤ t.length + 1 := strip_length t _
end Go.Proofs.YtabdjkcediolcaaGreatDoor
