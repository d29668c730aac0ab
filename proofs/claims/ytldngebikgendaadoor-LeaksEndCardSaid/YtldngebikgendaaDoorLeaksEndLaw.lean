/-
  With the leaks covered too nothing leaks any more: the law on lists.
-/
import Derived.Test.YtldngebikgendaaDoorLeaksEndPlain
namespace Go.Proofs.YtldngebikgendaaDoor
open Go.Lib

theorem cutL_len (L : List UInt8) (a b : Nat) (hb : b ≤ L.length) : (cutL L a b).length = b - a := by
  unfold cutL
  rw [List.length_take, List.length_drop]
  omega
theorem cutL_get (L : List UInt8) (a b i : Nat) (hi : i < b - a) : (cutL L a b).getD i 0 = L.getD (a + i) 0 := by
  rw [List.getD_eq_getElem?_getD, List.getD_eq_getElem?_getD, cutL, List.getElem?_take, if_pos hi, List.getElem?_drop]
theorem cut_let (L : List UInt8) (a b i : Nat) (hb : b ≤ L.length) : letAt (cutL L a b) i = (decide (i < b - a) && letAt L (a + i)) := by
  by_cases hi : i < b - a
  · rw [letAt, letAt, cutL_len L a b hb, cutL_get L a b i hi, decide_eq_true hi, decide_eq_true (show a + i < L.length by omega)]
    simp
  · rw [letAt, cutL_len L a b hb, decide_eq_false hi]
    simp
theorem cut_cut (L : List UInt8) (a b f t : Nat) (ht : t ≤ b - a) : cutL (cutL L a b) f t = cutL L (a + f) (a + t) := by
  unfold cutL
  rw [List.drop_take, List.take_take, List.drop_drop]
  congr 1
  omega

theorem words_mem (L : List UInt8) (v : List UInt8) : v ∈ wordsL L ↔ ∃ f t, IsWord L f t ∧ v = lowL (cutL L f t) := by
  unfold wordsL wordsTo
  rw [List.mem_map]
  constructor
  · rintro ⟨⟨f, t⟩, hx, rfl⟩
    exact ⟨f, t, (((scan_ok L _).2 f t).1 hx).1, rfl⟩
  · rintro ⟨f, t, hw, rfl⟩
    refine ⟨(f, t), ((scan_ok L _).2 f t).2 ⟨hw, ?_⟩, rfl⟩
    have := letAt_lt (hw.2.1 (t - 1) (by have := hw.1; omega) (by have := hw.1; omega))
    omega

theorem secret_mem {L : List UInt8} {u : List (Int × Int)} (h : Ends L u) (v : List UInt8) : v ∈ secretL L u ↔ ∃ f t, IsWord L f t ∧ (∀ i, f ≤ i → i < t → inS u i = true) ∧ v = lowL (cutL L f t) := by
  unfold secretL
  rw [List.mem_flatMap]
  constructor
  · rintro ⟨x, hx, hv⟩
    obtain ⟨h1, h2, h3, h4, h5⟩ := h x hx
    obtain ⟨a, b, rfl⟩ : ∃ a b : Nat, x = ((a : Int), (b : Int)) := ⟨x.1.toNat, x.2.toNat, by ext <;> simp <;> omega⟩
    simp only [Int.toNat_natCast] at *
    obtain ⟨f, t, ⟨w1, w2, w3, w4⟩, rfl⟩ := (words_mem _ _).1 hv
    have hb : b ≤ L.length := by omega
    have hall : ∀ i, f ≤ i → i < t → i < b - a ∧ letAt L (a + i) = true := by
      intro i i1 i2
      have := w2 i i1 i2
      rw [cut_let L a b i hb, Bool.and_eq_true, decide_eq_true_eq] at this
      exact this
    have htb : t ≤ b - a := by have := (hall (t - 1) (by omega) (by omega)).1; omega
    refine ⟨a + f, a + t, ⟨by omega, ?_, ?_, ?_⟩, ?_, ?_⟩
    · intro i i1 i2
      have := (hall (i - a) (by omega) (by omega)).2
      rwa [show a + (i - a) = i by omega] at this
    · rcases Nat.eq_zero_or_pos (a + f) with h0 | h0
      · exact .inl h0
      · right
        rcases w3 with w3 | w3
        · subst w3
          cases hl : letAt L (a + 0 - 1)
          · rfl
          · have h6 := (hall 0 (by omega) (by omega)).2
            obtain ⟨a', rfl⟩ : ∃ a', a = a' + 1 := ⟨a - 1, by omega⟩
            rw [mid_of (by simpa using hl) (by simpa using h6)] at h4
            cases h4
        · rcases Nat.eq_zero_or_pos f with hf | hf
          · subst hf
            cases hl : letAt L (a + 0 - 1)
            · rfl
            · have h6 := (hall 0 (by omega) (by omega)).2
              obtain ⟨a', rfl⟩ : ∃ a', a = a' + 1 := ⟨a - 1, by omega⟩
              rw [mid_of (by simpa using hl) (by simpa using h6)] at h4
              cases h4
          · rw [cut_let L a b _ hb, decide_eq_true (show f - 1 < b - a by omega), Bool.true_and] at w3
            rwa [show a + f - 1 = a + (f - 1) by omega]
    · rcases Nat.lt_or_ge t (b - a) with h0 | h0
      · rw [cut_let L a b _ hb, decide_eq_true h0, Bool.true_and] at w4
        exact w4
      · have e : a + t = b := by omega
        rw [e]
        cases hl : letAt L b
        · rfl
        · have h6 := (hall (t - 1) (by omega) (by omega)).2
          obtain ⟨b', rfl⟩ : ∃ b', b = b' + 1 := ⟨b - 1, by omega⟩
          rw [mid_of (i := b') (by rw [← h6]; congr 1; omega) hl] at h5
          cases h5
    · intro i i1 i2
      exact inS_iff.2 ⟨_, hx, by simp; omega, by simp; omega⟩
    · rw [cut_cut L a b f t htb]
  · rintro ⟨f, t, ⟨w1, w2, w3, w4⟩, hin, rfl⟩
    obtain ⟨x, hx, x1, x2⟩ := inS_iff.1 (hin f (Nat.le_refl _) w1)
    obtain ⟨h1, h2, h3, h4, h5⟩ := h x hx
    refine ⟨x, hx, ?_⟩
    obtain ⟨a, b, rfl⟩ : ∃ a b : Nat, x = ((a : Int), (b : Int)) := ⟨x.1.toNat, x.2.toNat, by ext <;> simp <;> omega⟩
    simp only [Int.toNat_natCast] at *
    have hb : b ≤ L.length := by omega
    have htb : t ≤ b := by
      rcases Nat.lt_or_ge b t with h6 | h6
      · obtain ⟨b', rfl⟩ : ∃ b', b = b' + 1 := ⟨b - 1, by omega⟩
        rw [mid_of (w2 b' (by omega) (by omega)) (w2 (b' + 1) (by omega) (by omega))] at h5
        cases h5
      · exact h6
    refine (words_mem _ _).2 ⟨f - a, t - a, ⟨by omega, ?_, ?_, ?_⟩, ?_⟩
    · intro i i1 i2
      rw [cut_let L a b i hb, decide_eq_true (show i < b - a by omega), Bool.true_and]
      exact w2 _ (by omega) (by omega)
    · rcases Nat.eq_zero_or_pos (f - a) with h0 | h0
      · exact .inl h0
      · right
        rcases w3 with w3 | w3
        · omega
        · rw [cut_let L a b _ hb, show a + (f - a - 1) = f - 1 by omega, w3, Bool.and_false]
    · rw [cut_let L a b _ hb, show a + (t - a) = t by omega, w4, Bool.and_false]
    · rw [cut_cut L a b _ _ (by omega), show a + (f - a) = f by omega, show a + (t - a) = t by omega]

theorem IsWord.le {L : List UInt8} {f t : Nat} (h : IsWord L f t) : t ≤ L.length := by
  have := letAt_lt (h.2.1 (t - 1) (by have := h.1; omega) (by have := h.1; omega))
  omega
theorem IsWord.same {L : List UInt8} {f t f' t' i : Nat} (h : IsWord L f t) (h' : IsWord L f' t') (h1 : f ≤ i) (h2 : i < t) (h3 : f' ≤ i) (h4 : i < t') : f = f' ∧ t = t' := by
  obtain ⟨a1, a2, a3, a4⟩ := h
  obtain ⟨b1, b2, b3, b4⟩ := h'
  constructor
  · rcases Nat.lt_trichotomy f f' with h | h | h
    · rcases b3 with b3 | b3
      · omega
      · rw [a2 (f' - 1) (by omega) (by omega)] at b3; cases b3
    · exact h
    · rcases a3 with a3 | a3
      · omega
      · rw [b2 (f - 1) (by omega) (by omega)] at a3; cases a3
  · rcases Nat.lt_trichotomy t t' with h | h | h
    · rw [b2 t (by omega) h] at a4; cases a4
    · exact h
    · rw [a2 t' (by omega) h] at b4; cases b4
theorem IsWord.ends {L : List UInt8} (hv : validD L = true) {f t : Nat} (h : IsWord L f t) : mid L f = false ∧ mid L t = false := by
  obtain ⟨a1, a2, a3, a4⟩ := h
  constructor
  · cases hm : mid L f
    · rfl
    · obtain ⟨i, e, b1, b2⟩ := mid_let hv hm
      subst e
      rcases a3 with a3 | a3
      · omega
      · rw [Nat.add_sub_cancel, b1] at a3; cases a3
  · cases hm : mid L t
    · rfl
    · obtain ⟨i, e, b1, b2⟩ := mid_let hv hm
      subst e
      rw [b2] at a4; cases a4

theorem leaks_mem (L : List UInt8) (pts : List (Int × Int)) (x : Int × Int) : x ∈ leaksL L pts ↔ ∃ f t : Nat, x = ((f : Int), (t : Int)) ∧ IsWord L f t ∧ leakB L pts (f, t) = true := by
  unfold leaksL leaksTo
  rw [List.mem_map]
  constructor
  · rintro ⟨⟨f, t⟩, hx, rfl⟩
    obtain ⟨h1, h2⟩ := List.mem_filter.1 hx
    exact ⟨f, t, rfl, (((scan_ok L _).2 f t).1 h1).1, h2⟩
  · rintro ⟨f, t, rfl, hw, hl⟩
    exact ⟨(f, t), List.mem_filter.2 ⟨((scan_ok L _).2 f t).2 ⟨hw, by have := hw.le; omega⟩, hl⟩, rfl⟩

def spanN (x : Nat × Nat) : Int × Int := ((x.1 : Int), (x.2 : Int))
theorem Right.lo_le {size : Int} : ∀ {lo lo' : Int} {l : List (Int × Int)}, Right size lo l → lo' ≤ lo → Right size lo' l
  | _, _, [], _, _ => trivial
  | _, _, _ :: _, ⟨a, b, c, d⟩, h => ⟨by omega, b, c, d⟩
theorem Right.filter {size : Int} (p : Nat × Nat → Bool) : ∀ {lo : Int} {l : List (Nat × Nat)}, Right size lo (l.map spanN) → Right size lo ((l.filter p).map spanN)
  | _, [], _ => trivial
  | lo, x :: l, ⟨a, b, c, d⟩ => by
    have ih := Right.filter p d
    rw [List.filter_cons]
    split
    · exact ⟨a, b, c, ih⟩
    · exact ih.lo_le (by omega)
theorem scan_right (L : List UInt8) : ∀ k : Nat, Right (k : Int) (-1) ((scan L k).2.map spanN) ∧ lastTo (-1) ((scan L k).2.map spanN) < (match (scan L k).1 with | none => (k : Int) | some f => (f : Int))
  | 0 => ⟨trivial, by simp [scan, lastTo]⟩
  | k + 1 => by
    have ih := scan_right L k
    have hf := (scan_ok L k).1
    unfold scan
    generalize scan L k = x at *
    obtain ⟨o, out⟩ := x
    obtain ⟨h1, h2⟩ := ih
    have h1' : Right ((k + 1 : Nat) : Int) (-1) (out.map spanN) := Right.mono (by omega) h1
    cases o with
    | none =>
      simp only at h2
      cases letAt L k
      · exact ⟨h1', show lastTo (-1) (out.map spanN) < ((k + 1 : Nat) : Int) from Int.lt_trans h2 (Int.ofNat_lt.2 (Nat.lt_succ_self k))⟩
      · exact ⟨h1', h2⟩
    | some f =>
      simp only at h2 hf
      cases letAt L k
      · simp only [scanStep, Bool.false_eq_true, if_false, List.map_append, List.map_cons, List.map_nil]
        refine ⟨h1'.snoc h2 (by simp [spanN]; omega) (by simp [spanN]; omega), ?_⟩
        rw [lastTo_snoc]
        exact Int.ofNat_lt.2 (Nat.lt_succ_self k)
      · exact ⟨h1', h2⟩
theorem Right.bound {size size' : Int} : ∀ {lo : Int} {l : List (Int × Int)}, Right size lo l → (∀ x ∈ l, x.2 ≤ size') → Right size' lo l
  | _, [], _, _ => trivial
  | _, x :: _, ⟨a, b, _, d⟩, h => ⟨a, b, h x (by simp), d.bound (fun y hy => h y (by simp [hy]))⟩
theorem leaks_right (L : List UInt8) (pts : List (Int × Int)) : Right L.length (-1) (leaksL L pts) := by
  refine Right.bound (Right.filter (leakB L pts) (scan_right L (L.length + 1)).1) ?_
  intro x hx
  obtain ⟨f, t, rfl, hw, _⟩ := (leaks_mem L pts x).1 hx
  have := hw.le
  simp
  omega

/-- What the law says of the lists. -/
theorem leaks_end {L : List UInt8} (hv : validD L = true) {l a u : List (Int × Int)} (hl : Right L.length (-1) l) (hRa : Right L.length (-1) a) (ha : ∀ i, inS a i = inS (widenL L l) i)
    (hRu : Right L.length (-1) u) (hu : ∀ i, inS u i = (inS a i || inS (leaksL L (pointsL L a)) i)) : leaksL L (pointsL L u) = [] ∧ widenL L u = u := by
  have sa : Sat L (inS a) := by
    have := sat_ends (L := L) (u := widenL L l) (fun x hx => widenL_mem L l hl x hx)
    intro i h1 h2
    rw [ha, ha]
    exact this i h1 h2
  have ea := ends_sat hv hRa sa
  rw [ends_points hv ea] at hu
  have ek : Ends L (leaksL L a) := by
    intro x hx
    have hm := (leaks_right L a).mem x hx
    obtain ⟨f, t, rfl, hw, _⟩ := (leaks_mem L a x).1 hx
    obtain ⟨e1, e2⟩ := hw.ends hv
    exact ⟨hm.1, hm.2.1, hm.2.2, by simpa using e1, by simpa using e2⟩
  have sk := sat_ends ek
  have su : Sat L (inS u) := by
    intro i h1 h2
    rw [hu, hu, sa i h1 h2, sk i h1 h2]
  have eu := ends_sat hv hRu su
  refine ⟨?_, ends_widen eu⟩
  rw [ends_points hv eu]
  rw [List.eq_nil_iff_forall_not_mem]
  intro x hx
  obtain ⟨f, t, rfl, hw, hlk⟩ := (leaks_mem L u x).1 hx
  simp only [leakB, Bool.and_eq_true, decide_eq_true_eq, Bool.not_eq_true'] at hlk
  obtain ⟨⟨h4, hno⟩, hsec⟩ := hlk
  have hno' : ∀ i, f ≤ i → i < t → inS u i = false := fun i => anyIn_false hno i
  have hsa : lowL (cutL L f t) ∈ secretL L a := by
    obtain ⟨f', t', hw', hin, he⟩ := (secret_mem eu _).1 hsec
    have h0 := hin f' (Nat.le_refl _) hw'.1
    rw [hu, Bool.or_eq_true] at h0
    rcases h0 with h0 | h0
    · exact (secret_mem ea _).2 ⟨f', t', hw', fun i i1 i2 => by rw [sa.all hw'.2.1 i1 i2]; exact h0, he⟩
    · obtain ⟨y, hy, y1, y2⟩ := inS_iff.1 h0
      obtain ⟨g, s, rfl, hwy, hly⟩ := (leaks_mem L a y).1 hy
      simp only at y1 y2
      obtain ⟨rfl, rfl⟩ := hwy.same hw' (i := f') (by omega) (by omega) (Nat.le_refl _) hw'.1
      simp only [leakB, Bool.and_eq_true, decide_eq_true_eq] at hly
      rw [he]
      exact hly.2
  have hk : ((f : Int), (t : Int)) ∈ leaksL L a := by
    refine (leaks_mem L a _).2 ⟨f, t, rfl, hw, ?_⟩
    simp only [leakB, Bool.and_eq_true, decide_eq_true_eq, Bool.not_eq_true']
    refine ⟨⟨h4, anyIn_none fun i i1 i2 => ?_⟩, hsa⟩
    have := hno' i i1 i2
    rw [hu, Bool.or_eq_false_iff] at this
    exact this.1
  have h5 := hno' f (Nat.le_refl _) hw.1
  rw [hu, Bool.or_eq_false_iff] at h5
  have h6 : inS (leaksL L a) f = true := inS_iff.2 ⟨_, hk, by simp, by have := hw.1; simp; omega⟩
  rw [h6] at h5
  cases h5.2

end Go.Proofs.YtldngebikgendaaDoor
