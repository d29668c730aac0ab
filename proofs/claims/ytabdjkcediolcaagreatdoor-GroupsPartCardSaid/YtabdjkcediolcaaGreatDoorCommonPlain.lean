
/-
  Maps that count: which forms some paragraphs have, and how many texts have a form.
-/
import Derived.Test.YtabdjkcediolcaaGreatDoorFormPlain
import Derived.Test.YtabdjkcediolcaaGreatDoorIds
import Derived.Sort.KeysCollected
import Derived.Maps.Ext
import Derived.Maps.OwnSet
import Derived.Maps.RangeWalk
import Derived.StringKeys
namespace Go.Proofs.YtabdjkcediolcaaGreatDoor
open Go Go.Maps

theorem keyS' : Keyed Tryz.prog 9 := string_keyed Tryz.underlying9
theorem str_key' (x : List UInt8) : WideAt.IsKeyLit (.string x) := by first | trivial | exact Or.inl trivial | simp [WideAt.IsKeyLit]
theorem str_same (x y : List UInt8) : (Lit.string x).sameKey (.string y) = decide (x = y) := by simp [Lit.sameKey, Bool.beq_eq_decide_eq]
theorem str_ne {x y : List UInt8} (h : x ≠ y) : (Lit.string x) ≠ .string y := fun e => h (by simpa using e)

/-- The forms of some paragraphs, as a map. -/
def inD (ps : List (List Str)) : DataW Unit := ps.foldl (fun D p => D.put (.string (formL p)) (.lit (.bool true))) (.map [])
theorem inD_snoc (ps : List (List Str)) (p : List Str) : inD (ps ++ [p]) = (inD ps).put (.string (formL p)) (.lit (.bool true)) := by simp [inD]
theorem inD_has (ps : List (List Str)) (f : Str) : has (inD ps) (.string f) = (ps.map formL).contains f := by
  have h : ∀ (ps : List (List Str)) (D : DataW Unit), IsMap D → has (ps.foldl (fun D p => D.put (.string (formL p)) (.lit (.bool true))) D) (.string f) = (has D (.string f) || (ps.map formL).contains f) := by
    intro ps
    induction ps with
    | nil => intro D _; simp
    | cons p ps ih =>
      intro D hD
      rw [List.foldl_cons, ih _ (hD.put _ _)]
      by_cases hf : f = formL p
      · subst hf
        rw [has_put_same hD (str_key' _)]
        simp
      · rw [has_put_other (str_ne hf)]
        simp [hf]
  have := h ps (.map []) isMap_empty
  rw [show has (.map [] : DataW Unit) (.string f) = false from rfl, Bool.false_or] at this
  exact this

/-- A map that counts. -/
structure Many (D : DataW Unit) (g : Str → Nat) : Prop where
  isMap : IsMap D
  at_ : ∀ f, D.atKey (.string f) (.lit (.int .i64 0)) = .lit (.int .i64 (g f : Nat))
  has_ : ∀ f, has D (.string f) = decide (0 < g f)
theorem Many.start : Many (.map []) (fun _ => 0) := ⟨isMap_empty, fun _ => rfl, fun _ => rfl⟩
theorem Many.congr {D : DataW Unit} {g g' : Str → Nat} (h : Many D g) (e : ∀ f, g' f = g f) : Many D g' := by
  obtain rfl : g' = g := funext e
  exact h
def partG (ts : List Str) (Din : DataW Unit) (left : Lit → Bool) (f : Str) : Nat := cntF ts f + (if has Din (.string f) && !left (.string f) then 1 else 0)
theorem partG_start (ts : List Str) (Din : DataW Unit) (f : Str) : partG ts Din (has Din) f = cntF ts f := by
  unfold partG
  cases has Din (.string f) <;> simp
theorem partG_end (ts : List Str) (t : Str) (left : Lit → Bool) (hl : ∀ k, left k = false) (f : Str) : partG ts (inD (parasL t)) left f = cntF (ts ++ [t]) f := by
  unfold partG cntF
  rw [hl, inD_has, List.countP_append]
  simp only [Bool.not_false, Bool.and_true, List.countP_cons, List.countP_nil, hasF, formsT, Nat.zero_add]
  rfl
theorem Many.step {D Din : DataW Unit} {ts : List Str} {left : Lit → Bool} (h : Many D (partG ts Din left)) (x : Str) (hl : left (.string x) = true) (hh : has Din (.string x) = true) :
    Many (D.put (.string x) (.lit (.int .i64 ((partG ts Din left x : Nat) + 1 : Int)))) (partG ts Din (fun z => left z && !z.sameKey (.string x))) := by
  have e1 : partG ts Din (fun z => left z && !z.sameKey (.string x)) x = partG ts Din left x + 1 := by
    unfold partG
    simp [hl, hh, str_same]
  have e2 : ∀ f, f ≠ x → partG ts Din (fun z => left z && !z.sameKey (.string x)) f = partG ts Din left f := fun f hf => by
    unfold partG
    simp [str_same, hf]
  refine ⟨h.isMap.put _ _, fun f => ?_, fun f => ?_⟩
  · by_cases hf : f = x
    · subst hf
      rw [atKey_put_same h.isMap (str_key' _), e1]
      rfl
    · rw [atKey_put_other (str_ne hf), e2 f hf]
      exact h.at_ f
  · by_cases hf : f = x
    · subst hf
      rw [has_put_same h.isMap (str_key' _), e1]
      simp
    · rw [has_put_other (str_ne hf), e2 f hf]
      exact h.has_ f

def outL (ks : List Str) (g : Str → Nat) (least : Nat) : List Str := ks.filter fun f => !decide (f = []) && decide (least ≤ g f)
theorem keys_of {w : World} {M m : Nat} {D : DataW Unit} {R : Value → Option (DataW Unit × List MemPlace)} (h : w.ownsMap Tryz.prog 9 R M m D) : (strKeys D).Nodup ∧ ∀ x, x ∈ strKeys D ↔ has D (.string x) = true := by
  obtain ⟨es, hD, hpw, _⟩ := h.entries keyS'
  obtain ⟨es', hD', hko⟩ := h.keysOf
  obtain rfl : es = es' := by rw [hD] at hD'; simpa using hD'
  subst hD
  have hk : ∀ p ∈ es, ∃ x, p.1 = .string x := fun p hp => by obtain ⟨v, hv⟩ := hko p hp; obtain ⟨x, _, hx, _⟩ := Maps.keyOf_str Tryz.underlying9 hv; exact ⟨x, hx⟩
  refine ⟨?_, fun x => ?_⟩
  · show (es.map fun p => strOf p.1).Nodup
    refine List.pairwise_map.2 (hpw.imp_of_mem fun {p q} hp' hq' hne e => hne ?_)
    obtain ⟨a, ha⟩ := hk p hp'
    obtain ⟨b, hb⟩ := hk q hq'
    rw [ha, hb] at e ⊢
    exact congrArg _ e
  · rw [has_eq, List.any_eq_true]
    show x ∈ es.map (fun p => strOf p.1) ↔ _
    rw [List.mem_map]
    constructor
    · rintro ⟨p, hp', rfl⟩
      obtain ⟨a, ha⟩ := hk p hp'
      exact ⟨p, hp', by rw [ha]; simp [Lit.sameKey, strOf]⟩
    · rintro ⟨p, hp', hs⟩
      obtain ⟨a, ha⟩ := hk p hp'
      rw [ha] at hs
      exact ⟨p, hp', by rw [ha]; simpa [Lit.sameKey, strOf] using hs⟩
theorem sortK_rises {l : List Str} (h : l.Nodup) : (sortK l).Pairwise (· < ·) := by
  have tr : ∀ a b c : List UInt8, decide (a ≤ b) = true → decide (b ≤ c) = true → decide (a ≤ c) = true := fun a b c h1 h2 => decide_eq_true (List.le_trans (of_decide_eq_true h1) (of_decide_eq_true h2))
  have tt : ∀ a b : List UInt8, (decide (a ≤ b) || decide (b ≤ a)) = true := fun a b => by
    rcases List.le_total a b with h | h <;> simp [h]
  have h1 : (sortK l).Pairwise (fun a b => decide (a ≤ b) = true) := List.pairwise_mergeSort tr tt l
  have h2 : (sortK l).Nodup := (List.mergeSort_perm l _).nodup_iff.2 h
  refine (h1.and h2).imp ?_
  rintro a b ⟨x, y⟩
  have hle := of_decide_eq_true x
  rcases Classical.em (a < b) with hh | hh
  · exact hh
  · exact absurd (List.le_antisymm hle (List.not_lt.1 hh)) y
theorem outL_common {w : World} {M m : Nat} {D : DataW Unit} {R : Value → Option (DataW Unit × List MemPlace)} (h : w.ownsMap Tryz.prog 9 R M m D) {ts : List Str} (hm : Many D (cntF ts)) (least : Nat) (hl : 1 ≤ least) : CommonOf ts least (outL (sortK (strKeys D)) (cntF ts) least) := by
  obtain ⟨h1, h2⟩ := keys_of h
  refine ⟨(sortK_rises h1).filter _, fun f => ?_⟩
  unfold outL
  rw [List.mem_filter]
  simp only [Bool.and_eq_true, Bool.not_eq_true', decide_eq_false_iff_not, decide_eq_true_eq]
  constructor
  · rintro ⟨_, a⟩; exact a
  · rintro ⟨a, b⟩
    refine ⟨(List.mergeSort_perm _ _).mem_iff.2 ((h2 f).2 ?_), a, b⟩
    rw [hm.has_]
    exact decide_eq_true (by omega)
end Go.Proofs.YtabdjkcediolcaaGreatDoor
