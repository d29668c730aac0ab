
/-
  Numbers in digits of 32 bits: their values, the form without zeros at the end, and the steps of sums, products, quotients and comparisons.
-/
namespace Go.Proofs.YtmliaiinfgddhaaGreatDoor

def valD : List Nat → Nat
  | [] => 0
  | d :: l => d + 4294967296 * valD l
def powB (n : Nat) : Nat := 4294967296 ^ n
theorem powB_zero : powB 0 = 1 := rfl
theorem powB_succ (n : Nat) : powB (n + 1) = 4294967296 * powB n := by unfold powB; rw [Nat.pow_succ, Nat.mul_comm]
theorem powB_pos (n : Nat) : 0 < powB n := Nat.pow_pos (by omega)
theorem powB_le {m n : Nat} (h : m ≤ n) : powB m ≤ powB n := Nat.pow_le_pow_right (by omega) h
theorem valD_append : ∀ l m : List Nat, valD (l ++ m) = valD l + powB l.length * valD m
  | [], m => by simp [valD, powB]
  | d :: l, m => by
    rw [List.cons_append, valD, valD, valD_append l m, List.length_cons, powB_succ, Nat.mul_add, Nat.mul_assoc]
    omega
theorem valD_snoc (l : List Nat) (d : Nat) : valD (l ++ [d]) = valD l + powB l.length * d := by
  rw [valD_append]; simp [valD]
def Dig (l : List Nat) : Prop := ∀ d ∈ l, d < 4294967296
theorem Dig.take {l : List Nat} (h : Dig l) (k : Nat) : Dig (l.take k) := fun d hd => h d (List.mem_of_mem_take hd)
theorem Dig.drop {l : List Nat} (h : Dig l) (k : Nat) : Dig (l.drop k) := fun d hd => h d (List.mem_of_mem_drop hd)
theorem Dig.getD {l : List Nat} (h : Dig l) (k : Nat) : l.getD k 0 < 4294967296 := by
  rw [List.getD_eq_getElem?_getD]
  cases hk : l[k]? with
  | none => simp
  | some d => exact h d (List.mem_of_getElem? hk)
theorem Dig.snoc {l : List Nat} (h : Dig l) {d : Nat} (hd : d < 4294967296) : Dig (l ++ [d]) := by
  intro x hx
  rcases List.mem_append.1 hx with hx | hx
  · exact h x hx
  · rw [List.mem_singleton.1 hx]; exact hd
theorem Dig.set {l : List Nat} (h : Dig l) (k : Nat) {d : Nat} (hd : d < 4294967296) : Dig (l.set k d) := by
  intro x hx
  rcases List.mem_or_eq_of_mem_set hx with hx | rfl
  · exact h x hx
  · exact hd
theorem valD_lt : ∀ l : List Nat, Dig l → valD l < powB l.length
  | [], _ => by simp [valD, powB]
  | d :: l, h => by
    have h1 := valD_lt l (fun x hx => h x (List.mem_cons_of_mem _ hx))
    have h2 := h d List.mem_cons_self
    rw [valD, List.length_cons, powB_succ]
    have h3 : 4294967296 * (valD l + 1) ≤ 4294967296 * powB l.length := Nat.mul_le_mul_left _ h1
    omega
theorem valD_take_succ (l : List Nat) (k : Nat) (h : k < l.length) : valD (l.take (k + 1)) = valD (l.take k) + powB k * l.getD k 0 := by
  rw [List.take_succ_eq_append_getElem h, valD_snoc, List.length_take, Nat.min_eq_left (by omega), List.getD_eq_getElem?_getD, List.getElem?_eq_getElem h]
  rfl
theorem valD_take_ge (l : List Nat) (k : Nat) (h : l.length ≤ k) : valD (l.take (k + 1)) = valD (l.take k) + powB k * l.getD k 0 := by
  rw [List.take_of_length_le (by omega), List.take_of_length_le (by omega), List.getD_eq_getElem?_getD, List.getElem?_eq_none h]
  simp
theorem valD_take_next (l : List Nat) (k : Nat) : valD (l.take (k + 1)) = valD (l.take k) + powB k * l.getD k 0 := by
  rcases Nat.lt_or_ge k l.length with h | h
  · exact valD_take_succ l k h
  · exact valD_take_ge l k h
theorem valD_set : ∀ (l : List Nat) (k d : Nat), k < l.length → valD (l.set k d) + powB k * l.getD k 0 = valD l + powB k * d
  | [], k, d, h => by simp at h
  | x :: l, 0, d, _ => by simp [valD, powB]; omega
  | x :: l, k + 1, d, h => by
    have ih := valD_set l k d (by simpa using h)
    rw [List.set_cons_succ, valD, valD, powB_succ, List.getD_cons_succ, Nat.mul_assoc, Nat.mul_assoc]
    have := congrArg (4294967296 * ·) ih
    simp only [Nat.mul_add] at this
    omega
theorem valD_zeros : ∀ n, valD (List.replicate n 0) = 0
  | 0 => rfl
  | n + 1 => by rw [List.replicate_succ, valD, valD_zeros n]
/-- No zero at the end. -/
def Canon (l : List Nat) : Prop := l.length = 0 ∨ l.getD (l.length - 1) 0 ≠ 0
theorem Canon.ge {l : List Nat} (h : Canon l) (h0 : 0 < l.length) : powB (l.length - 1) ≤ valD l := by
  rcases h with h | h
  · omega
  · have e := valD_take_succ l (l.length - 1) (by omega)
    rw [List.take_of_length_le (by omega)] at e
    rw [e]
    have : powB (l.length - 1) * 1 ≤ powB (l.length - 1) * l.getD (l.length - 1) 0 := Nat.mul_le_mul_left _ (by omega)
    omega
theorem Canon.lt_of_shorter {l m : List Nat} (hm : Canon m) (dl : Dig l) (h : l.length < m.length) : valD l < valD m := by
  have h1 := valD_lt l dl
  have h2 := hm.ge (by omega)
  have h3 := powB_le (show l.length ≤ m.length - 1 by omega)
  omega
/-- One step of cut. -/
theorem cut_step (l : List Nat) (k : Nat) (h : k < l.length) (hz : l.getD k 0 = 0) : valD (l.take k) = valD (l.take (k + 1)) := by
  rw [valD_take_succ l k h, hz]; omega
theorem canon_take {l : List Nat} {k : Nat} (hk : k ≤ l.length) (h : k = 0 ∨ l.getD (k - 1) 0 ≠ 0) : Canon (l.take k) := by
  rcases Nat.eq_zero_or_pos k with h0 | h0
  · exact .inl (by simp [h0])
  · rcases h with h | h
    · omega
    · right
      rw [List.length_take, Nat.min_eq_left hk]
      rw [List.getD_eq_getElem?_getD] at h ⊢
      rw [List.getElem?_take_of_lt (by omega)]; exact h
/-- One step of plus: the digits so far, the carry. -/
theorem plus_step (x y ds : List Nat) (c : Nat) (h : valD ds + powB ds.length * c = valD (x.take ds.length) + valD (y.take ds.length)) :
    valD (ds ++ [(c + x.getD ds.length 0 + y.getD ds.length 0) % 4294967296]) + powB (ds.length + 1) * ((c + x.getD ds.length 0 + y.getD ds.length 0) / 4294967296) = valD (x.take (ds.length + 1)) + valD (y.take (ds.length + 1)) := by
  rw [valD_snoc, valD_take_next, valD_take_next, powB_succ]
  generalize x.getD ds.length 0 = a at *
  generalize y.getD ds.length 0 = b at *
  generalize powB ds.length = p at *
  have e1 : 4294967296 * p * ((c + a + b) / 4294967296) = p * (4294967296 * ((c + a + b) / 4294967296)) := by rw [Nat.mul_comm 4294967296 p, Nat.mul_assoc]
  have e2 : p * ((c + a + b) % 4294967296) + p * (4294967296 * ((c + a + b) / 4294967296)) = p * (c + a + b) := by rw [← Nat.mul_add, Nat.mod_add_div]
  rw [Nat.add_assoc, e1, e2, Nat.mul_add, Nat.mul_add]
  omega
theorem plus_end (x y ds : List Nat) (c : Nat) (dx : Dig x) (dy : Dig y) (hl : max x.length y.length + 1 = ds.length) (h : valD ds + powB ds.length * c = valD (x.take ds.length) + valD (y.take ds.length)) : valD ds = valD x + valD y := by
  rw [List.take_of_length_le (by omega), List.take_of_length_le (by omega)] at h
  have h1 := valD_lt x dx
  have h2 := valD_lt y dy
  have h3 := powB_le (show x.length ≤ max x.length y.length by omega)
  have h4 := powB_le (show y.length ≤ max x.length y.length by omega)
  have h5 := powB_succ (max x.length y.length)
  rw [hl] at h5
  have h6 := powB_pos (max x.length y.length)
  rcases Nat.eq_zero_or_pos c with rfl | hc
  · omega
  · have : powB ds.length * 1 ≤ powB ds.length * c := Nat.mul_le_mul_left _ hc
    omega
/-- A step of times within a digit a of the first number: position p = i + k. -/
theorem times_step (o : List Nat) (p a b c V : Nat) (hp : p < o.length) (h : valD o + powB p * c = V) :
    valD (o.set p ((a * b + o.getD p 0 + c) % 4294967296)) + powB (p + 1) * ((a * b + o.getD p 0 + c) / 4294967296) = V + powB p * (a * b) := by
  have e := valD_set o p ((a * b + o.getD p 0 + c) % 4294967296) hp
  rw [powB_succ]
  generalize o.getD p 0 = q at *
  generalize powB p = r at *
  generalize hn : a * b + q + c = n at *
  have e1 : 4294967296 * r * (n / 4294967296) = r * (4294967296 * (n / 4294967296)) := by rw [Nat.mul_comm 4294967296 r, Nat.mul_assoc]
  have e2 : r * (n % 4294967296) + r * (4294967296 * (n / 4294967296)) = r * n := by rw [← Nat.mul_add, Nat.mod_add_div]
  have e3 : r * n = r * (a * b) + r * q + r * c := by rw [← hn, Nat.mul_add, Nat.mul_add]
  rw [e1]
  omega
theorem times_fits {a b q c : Nat} (ha : a < 4294967296) (hb : b < 4294967296) (hq : q < 4294967296) (hc : c < 4294967296) : a * b + q + c < 18446744073709551616 := by
  have : a * b ≤ 4294967295 * 4294967295 := Nat.mul_le_mul (by omega) (by omega)
  omega
/-- A step of over. -/
theorem over_step {X Q r k d : Nat} (hk : 0 < k) (h : X = k * Q + r) : d + 4294967296 * X = k * ((r * 4294967296 + d) / k + 4294967296 * Q) + (r * 4294967296 + d) % k ∧ (r * 4294967296 + d) % k < k := by
  refine ⟨?_, Nat.mod_lt _ hk⟩
  have e := Nat.div_add_mod (r * 4294967296 + d) k
  rw [Nat.mul_add, h, Nat.mul_add]
  have e2 : 4294967296 * (k * Q) = k * (4294967296 * Q) := by rw [← Nat.mul_assoc, Nat.mul_comm 4294967296 k, Nat.mul_assoc]
  rw [e2]
  omega
theorem over_fits {r k d : Nat} (hd : d < 4294967296) (hr : r < k) : (r * 4294967296 + d) / k < 4294967296 := by
  rw [Nat.div_lt_iff_lt_mul (by omega)]
  have : (r + 1) * 4294967296 ≤ k * 4294967296 := Nat.mul_le_mul_right _ hr
  rw [Nat.mul_comm 4294967296 k]
  omega
theorem valD_drop (l : List Nat) (k : Nat) (h : k < l.length) : valD (l.drop k) = l.getD k 0 + 4294967296 * valD (l.drop (k + 1)) := by
  rw [List.drop_eq_getElem_cons h, valD, List.getD_eq_getElem?_getD, List.getElem?_eq_getElem h]
  rfl
theorem div_of_eq {X Q r k : Nat} (h : X = k * Q + r) (hr : r < k) : X / k = Q := by
  subst h
  rw [Nat.mul_add_div (by omega), Nat.div_eq_of_lt hr]
  omega
def cmpI (a b : Nat) : Int := if a < b then -1 else if b < a then 1 else 0
theorem cmpI_lt {a b : Nat} (h : a < b) : cmpI a b = -1 := by simp [cmpI, h]
theorem cmpI_gt {a b : Nat} (h : b < a) : cmpI a b = 1 := by unfold cmpI; rw [if_neg (by omega), if_pos h]
theorem cmpI_self (a : Nat) : cmpI a a = 0 := by simp [cmpI]
/-- The tops are the same from k on, and differ at k. -/
theorem cmp_top {l m : List Nat} (dl : Dig l) (k : Nat) (hl : k < l.length) (hlm : l.length = m.length) (ht : l.drop (k + 1) = m.drop (k + 1)) (h : l.getD k 0 < m.getD k 0) : valD l < valD m := by
  have el := valD_append (l.take k) (l.drop k)
  have em := valD_append (m.take k) (m.drop k)
  rw [List.take_append_drop, List.length_take, Nat.min_eq_left (by omega), valD_drop _ _ hl] at el
  rw [List.take_append_drop, List.length_take, Nat.min_eq_left (by omega), valD_drop _ _ (by omega), ← ht] at em
  have h1 := valD_lt _ (dl.take k)
  rw [List.length_take, Nat.min_eq_left (by omega)] at h1
  rw [el, em]
  have h2 : powB k * (l.getD k 0 + 4294967296 * valD (l.drop (k + 1)) + 1) ≤ powB k * (m.getD k 0 + 4294967296 * valD (l.drop (k + 1))) := Nat.mul_le_mul_left _ (by omega)
  rw [Nat.mul_add _ _ 1] at h2
  omega
theorem canon_len {l : List Nat} (h : Canon l) {m : Nat} (hv : valD l < powB m) : l.length ≤ m := by
  rcases Nat.eq_zero_or_pos l.length with h0 | h0
  · omega
  · have h1 := h.ge h0
    rcases Nat.lt_or_ge m l.length with h2 | h2
    · have := powB_le (show m ≤ l.length - 1 by omega)
      omega
    · exact h2
end Go.Proofs.YtmliaiinfgddhaaGreatDoor
