
/-
  Deeds sorted by their stamps.
-/
import Derived.Test.YthogkcgklakibaaGreatDoorDdE
import Derived.Shelf.SlSortCmp.InsertionK
import Derived.Sort.LotA
namespace Go.Proofs.YthogkcgklakibaaGreatDoor
open Go.RowKit Go.Shelf Go.Sort Go.Lib

instance : Inhabited Deed := ⟨⟨zeroB, 0, 0, 0, zeroB, zeroB, zeroB, 0, 0, zeroB, 0, zeroB⟩⟩
theorem cmpB_lessD : ∀ (a b : List UInt8), decide (Lib.compareBytes a b < 0) = Op.bytesLess a b
  | [], [] => by simp [Lib.compareBytes, Op.bytesLess]
  | [], _ :: _ => by simp [Lib.compareBytes, Op.bytesLess]
  | _ :: _, [] => by simp [Lib.compareBytes, Op.bytesLess]
  | x :: a, y :: b => by
    have ih := cmpB_lessD a b
    unfold Lib.compareBytes Op.bytesLess
    by_cases h1 : x < y
    · simp [h1]
    · by_cases h2 : y < x
      · have h3 : ¬ x = y := fun e => by subst e; exact h1 h2
        simp [h1, h2, h3]
      · have h3 : x = y := UInt8.le_antisymm (UInt8.not_lt.1 h2) (UInt8.not_lt.1 h1)
        subst h3
        simp only [h1, if_false, decide_false, Bool.false_or, beq_self_eq_true, Bool.true_and]
        exact ih
theorem cmpB_zeroD : ∀ (a b : List UInt8), Lib.compareBytes a b = 0 ↔ a = b
  | [], [] => by simp [Lib.compareBytes]
  | [], _ :: _ => by simp [Lib.compareBytes]
  | _ :: _, [] => by simp [Lib.compareBytes]
  | x :: a, y :: b => by
    have ih := cmpB_zeroD a b
    unfold Lib.compareBytes
    by_cases h1 : x < y
    · have h3 : ¬ x = y := fun e => by subst e; exact absurd h1 (UInt8.lt_irrefl _)
      simp [h1, h3]
    · by_cases h2 : y < x
      · have h3 : ¬ x = y := fun e => by subst e; exact h1 h2
        simp [h1, h2, h3]
      · have h3 : x = y := UInt8.le_antisymm (UInt8.not_lt.1 h2) (UInt8.not_lt.1 h1)
        subst h3
        simp only [h1, if_false, List.cons.injEq, true_and]
        exact ih
theorem cmpB_ltD (a b : ByteArray) : Lib.compareBytes (byteL a) (byteL b) < 0 ↔ byteL a < byteL b := by
  rw [← decide_eq_true_iff (p := Lib.compareBytes (byteL a) (byteL b) < 0), cmpB_lessD, bytesLess_eq, decide_eq_true_iff]
def cmpN (a b : Int) : Int := if a < b then -1 else if b < a then 1 else 0
/-- How stamps are compared. -/
def cmpD (x y : Deed) : Int := if Lib.compareBytes (byteL x.site) (byteL y.site) ≠ 0 then Lib.compareBytes (byteL x.site) (byteL y.site) else cmpN x.no y.no
theorem cmpD_neg (x y : Deed) : cmpD x y < 0 ↔ StLt x y := by
  unfold cmpD StLt
  by_cases h : Lib.compareBytes (byteL x.site) (byteL y.site) = 0
  · rw [if_neg (by simpa using h)]
    have e := (cmpB_zeroD _ _).1 h
    have e2 : x.site = y.site := byteL_inj e
    rw [e2]
    unfold cmpN
    constructor
    · intro h2
      split at h2
      · exact .inr ⟨rfl, by assumption⟩
      · split at h2 <;> omega
    · rintro (h2 | ⟨-, h2⟩)
      · exact absurd h2 (List.lt_irrefl _)
      · rw [if_pos h2]; omega
  · rw [if_pos h, cmpB_ltD]
    constructor
    · exact .inl
    · rintro (h2 | ⟨h2, -⟩)
      · exact h2
      · exact absurd ((cmpB_zeroD _ _).2 (by rw [h2])) h
theorem cmpD_zero (x y : Deed) : cmpD x y = 0 ↔ x.site = y.site ∧ x.no = y.no := by
  unfold cmpD
  by_cases h : Lib.compareBytes (byteL x.site) (byteL y.site) = 0
  · rw [if_neg (by simpa using h)]
    have e2 : x.site = y.site := byteL_inj ((cmpB_zeroD _ _).1 h)
    unfold cmpN
    constructor
    · intro h2
      split at h2
      · omega
      · split at h2
        · omega
        · exact ⟨e2, by omega⟩
    · rintro ⟨-, h2⟩
      rw [h2]
      simp
  · rw [if_pos h]
    constructor
    · exact fun e => absurd e h
    · rintro ⟨h2, -⟩
      exact absurd ((cmpB_zeroD _ _).2 (by rw [h2])) h
theorem ltD (x y : Deed) : ltOf cmpD x y = true ↔ StLt x y := by
  unfold ltOf
  rw [decide_eq_true_iff, cmpD_neg]
theorem ltD_no (x y : Deed) : ltOf cmpD x y = false ↔ ¬ StLt x y := by
  rw [← ltD, Bool.not_eq_true]
theorem swoD : SWO (ltOf cmpD) where
  irrefl x := (ltD_no x x).2 (StLt.irr x)
  trans x y z h1 h2 := (ltD x z).2 (((ltD x y).1 h1).trans ((ltD y z).1 h2))
  ntrans x y z h1 h2 := by
    rw [ltD_no] at *
    intro h
    rcases StLt.tot x y with k | k | k
    · exact h1 k
    · rcases StLt.tot y z with m | m | m
      · exact h2 m
      · have e1 : x.site = z.site := k.1.trans m.1
        have e2 : x.no = z.no := k.2.trans m.2
        rcases h with h | ⟨-, h⟩
        · rw [e1] at h; exact List.lt_irrefl _ h
        · omega
      · have : StLt x y := h.trans m
        exact h1 this
    · have : StLt y z := k.trans h
      exact h2 this
/-- Deeds of different stamps, sorted. -/
theorem sorted_strict {l L : List Deed} (hp : L.Perm l) (hs : L.Pairwise fun x y => ltOf cmpD y x = false) (hu : ∀ a ∈ l, ∀ b ∈ l, a.site = b.site → a.no = b.no → a = b) (hn : l.Nodup) : L.Pairwise StLt := by
  have hn2 : L.Nodup := hp.nodup_iff.2 hn
  have hm : ∀ x ∈ L, x ∈ l := fun x hx => hp.mem_iff.1 hx
  refine List.Pairwise.imp_of_mem ?_ (hs.and hn2)
  intro a b ha hb hab
  obtain ⟨h1, h2⟩ := hab
  rw [ltD_no] at h1
  rcases StLt.tot a b with k | k | k
  · exact k
  · exact absurd (hu a (hm a ha) b (hm b hb) k.1 k.2) h2
  · exact absurd k h1
end Go.Proofs.YthogkcgklakibaaGreatDoor
