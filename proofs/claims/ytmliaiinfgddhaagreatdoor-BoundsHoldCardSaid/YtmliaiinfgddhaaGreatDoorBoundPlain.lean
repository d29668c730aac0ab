
/-
  Numbers of ways to choose, the chance of finding few of them, and where it turns from likely to unlikely. Plain numbers.
-/
namespace Go.Proofs.YtmliaiinfgddhaaGreatDoor

def chs : Nat → Nat → Nat
  | _, 0 => 1
  | 0, _ + 1 => 0
  | n + 1, k + 1 => chs n k + chs n (k + 1)
theorem chs_zero (n : Nat) : chs n 0 = 1 := by cases n <;> rfl
theorem chs_nil (k : Nat) : chs 0 (k + 1) = 0 := rfl
theorem chs_succ (n k : Nat) : chs (n + 1) (k + 1) = chs n k + chs n (k + 1) := rfl
theorem chs_over : ∀ (n k : Nat), n < k → chs n k = 0
  | 0, k + 1, _ => rfl
  | n + 1, k + 1, h => by rw [chs_succ, chs_over n k (by omega), chs_over n (k + 1) (by omega)]
theorem chs_pos : ∀ (n k : Nat), k ≤ n → 0 < chs n k
  | n, 0, _ => by rw [chs_zero]; omega
  | n + 1, k + 1, h => by have := chs_pos n k (by omega); rw [chs_succ]; omega
theorem chs_mul : ∀ (n k : Nat), (k + 1) * chs n (k + 1) = chs n k * (n - k)
  | 0, k => by rw [chs_nil]; simp
  | n + 1, 0 => by
    have h := chs_mul n 0
    rw [chs_succ, chs_zero, chs_zero]
    rw [chs_zero] at h
    omega
  | n + 1, k + 1 => by
    have h1 := chs_mul n k
    have h2 := chs_mul n (k + 1)
    rw [chs_succ n (k + 1), chs_succ n k]
    have e : n + 1 - (k + 1) = n - k := by omega
    rw [e]
    rcases Nat.lt_or_ge k n with h | h
    · obtain ⟨d, hd⟩ : ∃ d, n - k = d + 1 := ⟨n - k - 1, by omega⟩
      have hd2 : n - (k + 1) = d := by omega
      rw [hd] at h1 ⊢
      rw [hd2] at h2
      generalize chs n k = a at *
      generalize chs n (k + 1) = b at *
      generalize chs n (k + 1 + 1) = c at *
      rw [Nat.mul_add, Nat.add_mul a b, ← h1]
      have e1 : (k + 1 + 1) * b = (k + 1) * b + b := by rw [Nat.add_mul, Nat.one_mul]
      have e2 : b * (d + 1) = b * d + b := by rw [Nat.mul_add, Nat.mul_one]
      omega
    · have z1 : chs n (k + 1) = 0 := chs_over n _ (by omega)
      have z2 : chs n (k + 1 + 1) = 0 := chs_over n _ (by omega)
      rw [z1, z2, show n - k = 0 by omega]
      simp
theorem chs_div (n k : Nat) : chs n k * (n - k) / (k + 1) = chs n (k + 1) := by
  rw [← chs_mul, Nat.mul_div_cancel_left _ (by omega)]
theorem chs_le : ∀ (n k m : Nat), n ≤ m → 0 < m → chs n k ≤ m ^ k
  | n, 0, m, _, _ => by rw [chs_zero]; simp
  | n, k + 1, m, h, h0 => by
    have h1 := chs_mul n k
    have h2 := chs_le n k m h h0
    have h3 : chs n k * (n - k) ≤ m ^ k * m := Nat.mul_le_mul h2 (by omega)
    rw [Nat.pow_succ]
    have h4 : 1 * chs n (k + 1) ≤ (k + 1) * chs n (k + 1) := Nat.mul_le_mul_right _ (by omega)
    omega

/-- The sum of the products from lo on, so many. -/
def sumF (f : Nat → Nat) (lo : Nat) : Nat → Nat
  | 0 => 0
  | n + 1 => sumF f lo n + f (lo + n)
theorem sumF_split (f : Nat → Nat) (lo n : Nat) : ∀ m, sumF f lo (n + m) = sumF f lo n + sumF f (lo + n) m
  | 0 => by simp [sumF]
  | m + 1 => by rw [← Nat.add_assoc, sumF, sumF, sumF_split f lo n m, Nat.add_assoc lo n m]; omega
theorem sumF_congr {f g : Nat → Nat} {lo : Nat} : ∀ {n : Nat}, (∀ i, i < n → f (lo + i) = g (lo + i)) → sumF f lo n = sumF g lo n
  | 0, _ => rfl
  | n + 1, h => by rw [sumF, sumF, sumF_congr (fun i hi => h i (by omega)), h n (by omega)]
theorem sumF_head (f : Nat → Nat) (lo n : Nat) : sumF f lo (n + 1) = f lo + sumF f (lo + 1) n := by
  have := sumF_split f lo 1 n
  rw [Nat.add_comm] at this
  rw [this]; simp [sumF]
theorem sumF_flip (f : Nat → Nat) (lo : Nat) : ∀ n, sumF f lo n = sumF (fun i => f (lo + (n - 1 - i))) 0 n
  | 0 => rfl
  | n + 1 => by
    rw [sumF_head (fun i => f (lo + (n + 1 - 1 - i))), sumF, sumF_flip f lo n]
    have e : sumF (fun i => f (lo + (n + 1 - 1 - i))) (0 + 1) n = sumF (fun i => f (lo + (n - 1 - i))) 0 n := by
      have : ∀ m, m ≤ n → sumF (fun i => f (lo + (n + 1 - 1 - i))) (0 + 1) m = sumF (fun i => f (lo + (n - 1 - i))) 0 m := by
        intro m
        induction m with
        | zero => intro _; rfl
        | succ m ih =>
          intro hm
          rw [sumF, sumF, ih (by omega)]
          have e : lo + (n + 1 - 1 - (0 + 1 + m)) = lo + (n - 1 - (0 + m)) := by omega
          rw [e]
      exact this n (Nat.le_refl _)
    rw [e]
    simp
    omega

/-- The products that count what is found: i of a, the others of b; s in all. -/
def trm (a b s i : Nat) : Nat := chs a i * chs b (s - i)
/-- Up to f of a. -/
def low (a b s f : Nat) : Nat := sumF (trm a b s) 0 (f + 1)
theorem low_zero (a b s : Nat) : low a b s 0 = chs b s := by simp [low, sumF, trm, chs_zero]
theorem low_succ (a b s f : Nat) : low a b s (f + 1) = low a b s f + chs a (f + 1) * chs b (s - (f + 1)) := by
  unfold low; rw [sumF]; simp [trm]
/-- One of b for one of a. -/
theorem low_turn (a b s : Nat) : ∀ f, f ≤ s → low a (b + 1) s f = low (a + 1) b s f + (if f < s then chs a f * chs b (s - (f + 1)) else 0)
  | 0, h => by
    rw [low_zero, low_zero, chs_zero]
    cases s with
    | zero => simp [chs_zero]
    | succ s => rw [chs_succ, if_pos (by omega)]; simp; omega
  | f + 1, h => by
    rw [low_succ, low_succ, low_turn a b s f (by omega), if_pos (by omega)]
    rw [chs_succ a f]
    obtain ⟨t, ht⟩ : ∃ t, s - (f + 1) = t := ⟨_, rfl⟩
    rw [ht]
    cases t with
    | zero =>
      rw [if_neg (by omega), chs_zero, chs_zero]
      omega
    | succ t =>
      rw [if_pos (by omega), chs_succ b t, show s - (f + 1 + 1) = t by omega, Nat.mul_add, Nat.add_mul]
      omega
theorem low_le (a b s f : Nat) (h : f ≤ s) : low (a + 1) b s f ≤ low a (b + 1) s f := by
  rw [low_turn a b s f h]; omega
theorem low_up (a b s f : Nat) (h : f < s) : low a (b + 1) s f ≤ low (a + 1) b s (f + 1) := by
  rw [low_turn a b s f (by omega), if_pos h, low_succ, chs_succ]
  have : chs a f * chs b (s - (f + 1)) ≤ (chs a f + chs a (f + 1)) * chs b (s - (f + 1)) := Nat.mul_le_mul_right _ (by omega)
  omega
theorem low_more (a b s f : Nat) : low a b s f ≤ low a b s (f + 1) := by rw [low_succ]; omega
theorem low_all : ∀ (a b s : Nat), low a b s s = chs (a + b) s
  | 0, b, s => by
    have : ∀ f, low 0 b s f = chs b s := by
      intro f
      induction f with
      | zero => exact low_zero 0 b s
      | succ f ih => rw [low_succ, ih, chs_nil]; simp
    rw [this, Nat.zero_add]
  | a + 1, b, s => by
    have h : low a (b + 1) s s = low (a + 1) b s s := by
      rw [low_turn a b s s (Nat.le_refl _), if_neg (by omega)]; rfl
    rw [← h, low_all a (b + 1) s]
    congr 1; omega

/-- With N in all. -/
def lowN (N s K f : Nat) : Nat := low K (N - K) s f
theorem lowN_down {N s K f : Nat} (hK : K < N) (hf : f ≤ s) : lowN N s (K + 1) f ≤ lowN N s K f := by
  unfold lowN
  obtain ⟨b, hb⟩ : ∃ b, N - K = b + 1 := ⟨N - K - 1, by omega⟩
  rw [hb, show N - (K + 1) = b by omega]
  exact low_le K b s f hf
theorem lowN_anti {N s f : Nat} (hf : f ≤ s) {K : Nat} : ∀ {L : Nat}, K ≤ L → L ≤ N → lowN N s L f ≤ lowN N s K f := by
  intro L h
  induction L with
  | zero => intro _; obtain rfl : K = 0 := by omega
            exact Nat.le_refl _
  | succ L ih =>
    intro hL
    rcases Nat.lt_or_ge K (L + 1) with h' | h'
    · exact Nat.le_trans (lowN_down (by omega) hf) (ih (by omega) (by omega))
    · obtain rfl : K = L + 1 := by omega
      exact Nat.le_refl _
theorem lowN_up {N s K f : Nat} (hK : K < N) (hf : f < s) : lowN N s K f ≤ lowN N s (K + 1) (f + 1) := by
  unfold lowN
  obtain ⟨b, hb⟩ : ∃ b, N - K = b + 1 := ⟨N - K - 1, by omega⟩
  rw [hb, show N - (K + 1) = b by omega]
  exact low_up K b s f hf
theorem lowN_more (N s K f : Nat) : lowN N s K f ≤ lowN N s K (f + 1) := low_more _ _ _ _
theorem lowN_all {N s K : Nat} (hK : K ≤ N) : lowN N s K s = chs N s := by
  unfold lowN; rw [low_all]; congr 1; omega
/-- From f up to s of K. -/
def highN (N s K f : Nat) : Nat := sumF (trm K (N - K) s) f (s + 1 - f)
theorem highN_zero (N s K : Nat) (hK : K ≤ N) : highN N s K 0 = chs N s := by
  rw [← lowN_all hK]; rfl
theorem high_low {N s K f : Nat} (hK : K ≤ N) (hf : f < s) : lowN N s K f + highN N s K (f + 1) = chs N s := by
  rw [← lowN_all (s := s) hK]
  unfold lowN low highN
  have h := sumF_split (trm K (N - K) s) 0 (f + 1) (s + 1 - (f + 1))
  rw [show f + 1 + (s + 1 - (f + 1)) = s + 1 by omega] at h
  rw [h, Nat.zero_add]
/-- The mirror. -/
theorem high_mirror {N s K f : Nat} (hK : K ≤ N) (hf : f ≤ s) : highN N s K (s - f) = lowN N s (N - K) f := by
  unfold highN lowN low
  rw [show s + 1 - (s - f) = f + 1 by omega, sumF_flip]
  refine sumF_congr fun i hi => ?_
  unfold trm
  have e1 : s - f + (f + 1 - 1 - (0 + i)) = s - (0 + i) := by omega
  have e2 : s - (s - (0 + i)) = 0 + i := by omega
  have e3 : N - (N - K) = K := by omega
  rw [e1, e2, e3, Nat.mul_comm]

/-- Likely enough: at least 1 - num / den. -/
def lik (x all num den : Nat) : Bool := decide (all * (den - num) ≤ x * den)
theorem lik_more {x y all num den : Nat} (h : x ≤ y) (hl : lik x all num den = true) : lik y all num den = true := by
  simp only [lik, decide_eq_true_eq] at *
  exact Nat.le_trans hl (Nat.mul_le_mul_right _ h)

/-- The search: the least from low to high for which p holds, if p holds for all greater ones. -/
def firstF (p : Nat → Bool) : Nat → Nat → Nat → Nat
  | 0, low, _ => low
  | k + 1, low, high => if low < high then (if p (low + (high - low) / 2) then firstF p k low (low + (high - low) / 2) else firstF p k (low + (high - low) / 2 + 1) high) else low
theorem firstF_spec (p : Nat → Bool) : ∀ (k lo hi : Nat), lo ≤ hi → hi - lo ≤ k →
    lo ≤ firstF p k lo hi ∧ firstF p k lo hi ≤ hi ∧ (firstF p k lo hi < hi → p (firstF p k lo hi) = true) ∧ (lo < firstF p k lo hi → p (firstF p k lo hi - 1) = false)
  | 0, lo, hi, h, hk => by
    rw [firstF]; exact ⟨Nat.le_refl _, h, fun h' => by omega, fun h' => by omega⟩
  | k + 1, lo, hi, h, hk => by
    rw [firstF]
    by_cases hlt : lo < hi
    · rw [if_pos hlt]
      obtain ⟨m, hm⟩ : ∃ m, m = lo + (hi - lo) / 2 := ⟨_, rfl⟩
      have hm1 : lo ≤ m ∧ m < hi := by omega
      rw [← hm]
      clear hm
      cases hp : p m with
      | true =>
        rw [if_pos rfl]
        obtain ⟨a, b, c, d⟩ := firstF_spec p k lo m hm1.1 (by omega)
        refine ⟨a, by omega, fun h' => ?_, d⟩
        rcases Nat.lt_or_ge (firstF p k lo m) m with h2 | h2
        · exact c h2
        · have : firstF p k lo m = m := by omega
          rw [this]; exact hp
      | false =>
        rw [if_neg (by simp)]
        obtain ⟨a, b, c, d⟩ := firstF_spec p k (m + 1) hi (by omega) (by omega)
        refine ⟨by omega, b, c, fun h' => ?_⟩
        rcases Nat.lt_or_ge (m + 1) (firstF p k (m + 1) hi) with h2 | h2
        · exact d h2
        · have : firstF p k (m + 1) hi = m + 1 := by omega
          rw [this]; simpa using hp
    · rw [if_neg hlt]; exact ⟨Nat.le_refl _, h, fun h' => by omega, fun h' => by omega⟩
/-- More fuel changes nothing. -/
theorem firstF_fuel (p : Nat → Bool) : ∀ (k k' lo hi : Nat), hi - lo ≤ k → hi - lo ≤ k' → firstF p k lo hi = firstF p k' lo hi
  | 0, 0, _, _, _, _ => rfl
  | 0, k' + 1, lo, hi, h, _ => by rw [firstF, firstF, if_neg (by omega)]
  | k + 1, 0, lo, hi, _, h => by rw [firstF, firstF, if_neg (by omega)]
  | k + 1, k' + 1, lo, hi, h, h' => by
    rw [firstF, firstF]
    by_cases hlt : lo < hi
    · rw [if_pos hlt, if_pos hlt, firstF_fuel p k k' _ _ (by omega) (by omega), firstF_fuel p k k' _ _ (by omega) (by omega)]
    · rw [if_neg hlt, if_neg hlt]

/-- The greatest number that is likely, and the least one. -/
def mostV (N s f num den : Nat) : Nat := firstF (fun K => !lik (lowN N s K f) (chs N s) num den) (N + 1) (f + 1) (N - s + f + 1) - 1
def fewV (N s f num den : Nat) : Nat := firstF (fun K => lik (highN N s K f) (chs N s) num den) (N + 1) f (N - s + f)

section
variable {N s f num den : Nat}
theorem most_spec : f ≤ mostV N s f num den ∧ mostV N s f num den ≤ N - s + f ∧ (mostV N s f num den < N - s + f → lik (lowN N s (mostV N s f num den + 1) f) (chs N s) num den = false) ∧ (f < mostV N s f num den → lik (lowN N s (mostV N s f num den) f) (chs N s) num den = true) := by
  obtain ⟨a, b, c, d⟩ := firstF_spec (fun K => !lik (lowN N s K f) (chs N s) num den) (N + 1) (f + 1) (N - s + f + 1) (by omega) (by omega)
  unfold mostV
  generalize firstF (fun K => !lik (lowN N s K f) (chs N s) num den) (N + 1) (f + 1) (N - s + f + 1) = r at *
  refine ⟨by omega, by omega, fun h => ?_, fun h => ?_⟩
  · have := c (by omega)
    rw [show r - 1 + 1 = r by omega]
    simpa using this
  · have := d (by omega)
    simpa using this
theorem few_spec : f ≤ fewV N s f num den ∧ fewV N s f num den ≤ N - s + f ∧ (fewV N s f num den < N - s + f → lik (highN N s (fewV N s f num den) f) (chs N s) num den = true) ∧ (f < fewV N s f num den → lik (highN N s (fewV N s f num den - 1) f) (chs N s) num den = false) :=
  firstF_spec (fun K => lik (highN N s K f) (chs N s) num den) (N + 1) f (N - s + f) (by omega) (by omega)
end
/-- Not likely stays not likely with more of them. -/
theorem lik_down {N s f num den K L : Nat} (hf : f ≤ s) (hK : K ≤ L) (hL : L ≤ N) (h : lik (lowN N s L f) (chs N s) num den = true) : lik (lowN N s K f) (chs N s) num den = true :=
  lik_more (lowN_anti hf hK hL) h
theorem highN_mono {N s f K L : Nat} (hf : f ≤ s) (hK : K ≤ L) (hL : L ≤ N) : highN N s K f ≤ highN N s L f := by
  cases f with
  | zero => rw [highN_zero N s K (by omega), highN_zero N s L hL]; exact Nat.le_refl _
  | succ f =>
    have h1 := high_low (N := N) (s := s) (K := K) (f := f) (by omega) hf
    have h2 := high_low (N := N) (s := s) (K := L) (f := f) hL hf
    have h3 := lowN_anti (N := N) (s := s) (f := f) (by omega) hK hL
    omega
theorem highN_less {N s f K : Nat} : highN N s K (f + 1) ≤ highN N s K f := by
  unfold highN
  rcases Nat.lt_or_ge f (s + 1) with h | h
  · rw [show s + 1 - f = (s + 1 - (f + 1)) + 1 by omega, sumF_head]
    omega
  · rw [show s + 1 - (f + 1) = 0 by omega]; simp [sumF]
/-- Fewest is at most Most from 1 / 2 on. -/
theorem few_most {N s f num den : Nat} (hs : s ≤ N) (hf : f ≤ s) (h0 : 0 < num) (h1 : num < den) (h2 : den ≤ 2 * num) : fewV N s f num den ≤ mostV N s f num den := by
  obtain ⟨a1, a2, a3, a4⟩ := few_spec (N := N) (s := s) (f := f) (num := num) (den := den)
  obtain ⟨b1, b2, b3, b4⟩ := most_spec (N := N) (s := s) (f := f) (num := num) (den := den)
  generalize mostV N s f num den = m at *
  generalize fewV N s f num den = n at *
  apply Classical.byContradiction
  intro hn
  have c1 := b3 (by omega)
  have c2 := a4 (by omega)
  have hp := chs_pos N s hs
  have c3 : lik (highN N s m f) (chs N s) num den = false := by
    cases h : lik (highN N s m f) (chs N s) num den with
    | false => rfl
    | true =>
      have := lik_more (highN_mono (f := f) hf (show m ≤ n - 1 by omega) (by omega)) h
      rw [this] at c2; cases c2
  simp only [lik, decide_eq_false_iff_not, Nat.not_le] at c1 c3
  generalize hA : chs N s = A at *
  have hA2 : A * den = A * (den - num) + A * num := by rw [← Nat.mul_add]; congr 1; omega
  have hA3 : A * (den - num) ≤ A * num := Nat.mul_le_mul_left _ (by omega)
  cases f with
  | zero =>
    rw [highN_zero N s m (by omega), hA] at c3
    have : A * 1 ≤ A * num := Nat.mul_le_mul_left _ h0
    omega
  | succ f =>
    have e1 := high_low (N := N) (s := s) (K := m) (f := f) (by omega) (by omega)
    have e2 := lowN_up (N := N) (s := s) (K := m) (f := f) (by omega) (by omega)
    have e3 : (lowN N s m f + highN N s m (f + 1)) * den = A * den := by rw [e1, hA]
    rw [Nat.add_mul] at e3
    have e4 : lowN N s m f * den ≤ lowN N s (m + 1) (f + 1) * den := Nat.mul_le_mul_right _ e2
    omega
/-- With a greater level Most is not less. -/
theorem most_level {N s f n1 d1 n2 d2 : Nat} (hs : s ≤ N) (hf : f ≤ s) (h : ∀ x, lik x (chs N s) n1 d1 = true → lik x (chs N s) n2 d2 = true) : mostV N s f n1 d1 ≤ mostV N s f n2 d2 := by
  obtain ⟨a1, a2, a3, a4⟩ := most_spec (N := N) (s := s) (f := f) (num := n1) (den := d1)
  obtain ⟨b1, b2, b3, b4⟩ := most_spec (N := N) (s := s) (f := f) (num := n2) (den := d2)
  generalize mostV N s f n1 d1 = m at *
  generalize mostV N s f n2 d2 = n at *
  apply Classical.byContradiction
  intro hn
  have c1 := b3 (by omega)
  have c2 := h _ (lik_down hf (show n + 1 ≤ m by omega) (by omega) (a4 (by omega)))
  rw [c1] at c2; cases c2
theorem few_level {N s f n1 d1 n2 d2 : Nat} (hs : s ≤ N) (hf : f ≤ s) (h : ∀ x, lik x (chs N s) n1 d1 = true → lik x (chs N s) n2 d2 = true) : fewV N s f n2 d2 ≤ fewV N s f n1 d1 := by
  obtain ⟨a1, a2, a3, a4⟩ := few_spec (N := N) (s := s) (f := f) (num := n1) (den := d1)
  obtain ⟨b1, b2, b3, b4⟩ := few_spec (N := N) (s := s) (f := f) (num := n2) (den := d2)
  generalize fewV N s f n1 d1 = m at *
  generalize fewV N s f n2 d2 = n at *
  apply Classical.byContradiction
  intro hn
  have c1 := b4 (by omega)
  have c2 := h _ (a3 (by omega))
  have c3 := lik_more (highN_mono (f := f) hf (show m ≤ n - 1 by omega) (by omega)) c2
  rw [c1] at c3; cases c3
theorem lik_level {x all : Nat} {n1 d1 n2 d2 : Nat} (h1 : 0 < d1) (h : (d2 - n2) * d1 ≤ (d1 - n1) * d2) (hl : lik x all n1 d1 = true) : lik x all n2 d2 = true := by
  simp only [lik, decide_eq_true_eq] at *
  have e1 : all * (d1 - n1) * d2 ≤ x * d1 * d2 := Nat.mul_le_mul_right _ hl
  have e2 : all * ((d2 - n2) * d1) ≤ all * ((d1 - n1) * d2) := Nat.mul_le_mul_left _ h
  have e3 : all * (d2 - n2) * d1 ≤ x * d2 * d1 := by
    rw [Nat.mul_assoc, Nat.mul_assoc x, Nat.mul_comm d2 d1, ← Nat.mul_assoc x]
    rw [Nat.mul_assoc all] at e1
    omega
  exact Nat.le_of_mul_le_mul_right e3 h1
/-- The mirror. -/
theorem most_mirror {N s f num den : Nat} (hs : s ≤ N) (hf : f ≤ s) : mostV N s f num den = N - fewV N s (s - f) num den := by
  obtain ⟨a1, a2, a3, a4⟩ := few_spec (N := N) (s := s) (num := num) (den := den) (f := s - f)
  obtain ⟨b1, b2, b3, b4⟩ := most_spec (N := N) (s := s) (f := f) (num := num) (den := den)
  generalize mostV N s f num den = m at *
  generalize fewV N s (s - f) num den = n at *
  have hm := high_mirror (N := N) (s := s) (K := n) (f := f) (by omega) hf
  rw [hm] at a3
  rcases Nat.lt_trichotomy m (N - n) with h | h | h
  · have c1 := b3 (by omega)
    have c2 := lik_down (num := num) (den := den) hf (show m + 1 ≤ N - n by omega) (by omega) (a3 (by omega))
    rw [c1] at c2; cases c2
  · exact h
  · have c1 := a4 (by omega)
    rw [high_mirror (by omega) hf] at c1
    have c2 := lik_down (num := num) (den := den) hf (show N - (n - 1) ≤ m by omega) (by omega) (b4 (by omega))
    rw [c1] at c2; cases c2
/-- One more found. -/
theorem most_found {N s f num den : Nat} (hs : s ≤ N) (hf : f < s) : mostV N s f num den ≤ mostV N s (f + 1) num den := by
  obtain ⟨a1, a2, a3, a4⟩ := most_spec (N := N) (s := s) (num := num) (den := den) (f := f)
  obtain ⟨b1, b2, b3, b4⟩ := most_spec (N := N) (s := s) (num := num) (den := den) (f := f + 1)
  generalize mostV N s f num den = m at *
  generalize mostV N s (f + 1) num den = n at *
  apply Classical.byContradiction
  intro hn
  have c1 := b3 (by omega)
  have c2 := lik_more (lowN_more N s _ f) (lik_down (num := num) (den := den) (by omega) (show n + 1 ≤ m by omega) (by omega) (a4 (by omega)))
  rw [c1] at c2; cases c2
theorem few_found {N s f num den : Nat} (hs : s ≤ N) (hf : f < s) : fewV N s f num den ≤ fewV N s (f + 1) num den := by
  obtain ⟨a1, a2, a3, a4⟩ := few_spec (N := N) (s := s) (num := num) (den := den) (f := f)
  obtain ⟨b1, b2, b3, b4⟩ := few_spec (N := N) (s := s) (num := num) (den := den) (f := f + 1)
  generalize fewV N s f num den = m at *
  generalize fewV N s (f + 1) num den = n at *
  apply Classical.byContradiction
  intro hn
  have c1 := a4 (by omega)
  have c2 := lik_more (highN_less (f := f)) (b3 (by omega))
  have c3 := lik_more (highN_mono (f := f) (by omega) (show n ≤ m - 1 by omega) (by omega)) c2
  rw [c1] at c3; cases c3
end Go.Proofs.YtmliaiinfgddhaaGreatDoor
