
/-
  Strings of ASCII and of the two bytes of an accented letter are valid UTF-8.
-/
import Derived.Test.YtmaimojpjepmjaaGreatDoorTextPlain
import Derived.Lib.TrimUEq
import Derived.Lib.TrimAscii
import Derived.Lib.MapLaws
namespace Go.Proofs.YtmaimojpjepmjaaGreatDoor
open Go Go.Lib

/-- ASCII, or two bytes of a letter. -/
inductive Uni : List UInt8 → Prop
  | nil : Uni []
  | one (c : UInt8) (l : List UInt8) (h : c.toNat < 128) : Uni l → Uni (c :: l)
  | two (d : UInt8) (l : List UInt8) (h : 128 ≤ d.toNat ∧ d.toNat < 192) : Uni l → Uni (195 :: d :: l)
theorem Uni.append {a b : List UInt8} (ha : Uni a) (hb : Uni b) : Uni (a ++ b) := by
  induction ha with
  | nil => exact hb
  | one c l h _ ih => exact .one c _ h ih
  | two d l h _ ih => exact .two d _ h ih
def uniB : List UInt8 → Bool
  | [] => true
  | [c] => decide (c.toNat < 128)
  | c :: d :: l => if c.toNat < 128 then uniB (d :: l) else (c == 195) && decide (128 ≤ d.toNat ∧ d.toNat < 192) && uniB l
theorem uni_of : ∀ (n : Nat) (l : List UInt8), l.length ≤ n → uniB l = true → Uni l
  | _, [], _, _ => .nil
  | _, [c], _, h => .one c _ (by simpa [uniB] using h) .nil
  | 0, c :: d :: l, hl, _ => by simp at hl
  | n + 1, c :: d :: l, hl, h => by
    unfold uniB at h
    by_cases hc : c.toNat < 128
    · rw [if_pos hc] at h
      exact .one c _ hc (uni_of n (d :: l) (by simp at hl ⊢; omega) h)
    · rw [if_neg hc] at h
      simp only [Bool.and_eq_true, beq_iff_eq, decide_eq_true_eq] at h
      obtain ⟨⟨rfl, h2⟩, h3⟩ := h
      exact .two d _ h2 (uni_of n l (by simp at hl ⊢; omega) h3)
theorem validGo_uni {l : List UInt8} (h : Uni l) : ∀ n, validGoD n l = true := by
  induction h with
  | nil => intro n; cases n <;> simp [validGoD]
  | one c l hc _ ih =>
    intro n
    cases n with
    | zero => rfl
    | succ n =>
      unfold validGoD
      rw [if_neg (by simp), decodeL_ascii c l hc, if_neg (by simp; omega)]
      exact ih n
  | two d l hd _ ih =>
    intro n
    cases n with
    | zero => rfl
    | succ n =>
      have e : decodeL (195 :: d :: l) = (192 + d.toNat % 64, 2) := by
        rw [decodeL_N]
        unfold decodeN
        simp only [List.getD_cons_zero, List.getD_cons_succ, List.length_cons]
        rw [if_neg (by decide), if_pos (by refine ⟨by decide, by omega, by omega⟩), if_pos (by show 128 ≤ 195 % 32 * 64 + d.toNat % 64; omega)]
        rfl
      unfold validGoD
      rw [if_neg (by simp), e, if_neg (by simp)]
      exact ih n
theorem valid_uni {l : List UInt8} (h : Uni l) : validD l = true := validGo_uni h _
/-- What a piece of a text may be. -/
def pieceB (l : List UInt8) : Bool := uniB l && l.all (fun c => okByte true c.toNat)
/-- A text so far. -/
structure TextL (l : List UInt8) (m : Nat) : Prop where
  uni : Uni l
  ok : l.all (fun c => okByte true c.toNat) = true
  endd : l.isEmpty = true ∨ [10].isSuffixOf l = true
  len : l.length ≤ m
theorem textL_nil (m : Nat) : TextL [] m := ⟨.nil, rfl, .inl rfl, Nat.zero_le _⟩
theorem suffix_snoc (l : List UInt8) : [10].isSuffixOf (l ++ [10]) = true := by
  rw [List.isSuffixOf_iff_suffix]; exact List.suffix_append _ _
theorem TextL.more {l a b : List UInt8} {m k : Nat} (h : TextL l m) (ha : pieceB a = true) (hb : pieceB b = true) (hk : a.length + b.length + 1 ≤ k) : TextL (l ++ (a ++ b ++ [10])) (m + k) := by
  simp only [pieceB, Bool.and_eq_true] at ha hb
  refine ⟨h.uni.append (((uni_of _ a (Nat.le_refl _) ha.1).append (uni_of _ b (Nat.le_refl _) hb.1)).append (.one 10 [] (by decide) .nil)), ?_, .inr ?_, ?_⟩
  · rw [List.all_append, List.all_append, List.all_append, h.ok, ha.2, hb.2]; rfl
  · rw [← List.append_assoc]; exact suffix_snoc _
  · have := h.len
    simp only [List.length_append, List.length_singleton]
    omega
theorem TextL.text {l : List UInt8} {m : Nat} (h : TextL l m) : textB l = true := by
  unfold textB visB
  rw [h.ok, valid_uni h.uni]
  rcases h.endd with e | e
  · rw [e]; rfl
  · rw [e]; simp
theorem TextL.wide {l : List UInt8} {m k : Nat} (h : TextL l m) (hk : m ≤ k) : TextL l k := ⟨h.uni, h.ok, h.endd, Nat.le_trans h.len hk⟩
end Go.Proofs.YtmaimojpjepmjaaGreatDoor
