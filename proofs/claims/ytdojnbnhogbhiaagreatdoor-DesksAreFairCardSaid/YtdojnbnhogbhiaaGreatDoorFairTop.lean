
/-
  Desk.Progress: how many ids have which state.
  A desk in the midst of its work: what a step of the stream, a Take and a Return leave of it.
  DesksAreFair returns true.
-/
import Derived.Test.YtdojnbnhogbhiaaGreatDoorDeskTop
import Derived.Test.YtdojnbnhogbhiaaGreatDoorStrLib
import Derived.Sort.KeysCollected
import Derived.Maps.RangeWalk
import Derived.Test.YtdojnbnhogbhiaaGreatDoorRange
import Derived.Test.YtdojnbnhogbhiaaGreatDoorStands
import Derived.Test.YtdojnbnhogbhiaaGreatDoorStreamNew
import Derived.Deep.CutBlock

namespace Go.Proofs.YtdojnbnhogbhiaaGreatDoor
open Go.RowKit Go.Maps
attribute [local go_sem ↓] Go.wp_at_zero Go.wp_at_succ

theorem cnt_stepD {α : Type} (p p' : α → Bool) (x : α) : ∀ (ks : List α), ks.Nodup → x ∈ ks → (∀ y, y ≠ x → p' y = p y) → p x = false → ks.countP p' = ks.countP p + (if p' x = true then 1 else 0)
  | [], _, h, _, _ => by cases h
  | y :: ks, hn, hm, he, hp => by
    rw [List.nodup_cons] at hn
    rw [List.countP_cons, List.countP_cons]
    rcases List.mem_cons.1 hm with rfl | hm
    · have h1 : ks.countP p' = ks.countP p := List.countP_congr (fun z hz => by rw [he z (fun e => hn.1 (e ▸ hz))])
      rw [h1, hp]
      simp
    · have hne : y ≠ x := fun e => hn.1 (e ▸ hm)
      have := cnt_stepD p p' x ks hn.2 hm he hp
      rw [he y hne, this]
      omega
theorem keys_ofD {H : Type} {w : World} {M m : Nat} {D : DataW H} {R : Value → Option (DataW H × List MemPlace)} (h : w.ownsMap Tryz.prog 9 R M m D) : (strKeys D).Nodup ∧ (∀ x, x ∈ strKeys D ↔ has D (.string x) = true) ∧ (strKeys D).length = Maps.size D := by
  obtain ⟨es, hD, hpw, _⟩ := h.entries keyS
  obtain ⟨es', hD', hko⟩ := h.keysOf
  obtain rfl : es = es' := by rw [hD] at hD'; simpa using hD'
  subst hD
  have hk : ∀ p ∈ es, ∃ x, p.1 = .string x := fun p hp => by obtain ⟨v, hv⟩ := hko p hp; obtain ⟨x, _, hx, _⟩ := Maps.keyOf_str Tryz.underlying9 hv; exact ⟨x, hx⟩
  refine ⟨?_, fun x => ?_, ?_⟩
  · show (es.map fun p => strOf p.1).Nodup
    refine List.pairwise_map.2 (hpw.imp_of_mem fun {p q} hp' hq' hne e => hne ?_)
    obtain ⟨a, ha⟩ := hk p hp'
    obtain ⟨b, hb⟩ := hk q hq'
    rw [ha, hb] at e ⊢
    exact congrArg _ e
  · rw [has_eq, List.any_eq_true]
    show x ∈ es.map (fun p => strOf p.1) ↔ _
    rw [List.mem_map]
    constructor
    · rintro ⟨p, hp', rfl⟩
      obtain ⟨a, ha⟩ := hk p hp'
      exact ⟨p, hp', by rw [ha]; simp [Lit.sameKey, strOf]⟩
    · rintro ⟨p, hp', hs⟩
      obtain ⟨a, ha⟩ := hk p hp'
      rw [ha] at hs
      exact ⟨p, hp', by rw [ha]; simpa [Lit.sameKey, strOf] using hs⟩
  · show (es.map fun p => strOf p.1).length = _
    rw [List.length_map]
    rfl
theorem invK_strD : ∀ key kl, keyOf Tryz.prog 9 key = some kl → ∃ x : List UInt8, key = .string (bag x) := fun key kl h => by
  obtain ⟨x, hx, _⟩ := Maps.keyOf_str Tryz.underlying9 h
  exact ⟨x, hx⟩
theorem key_bagD {x : List UInt8} {kl : Lit} (h : keyOf Tryz.prog 9 (.string (bag x)) = some kl) : kl = .string x := by
  obtain ⟨y, hy, hk, _⟩ := Maps.keyOf_str Tryz.underlying9 h
  have : bag x = bag y := by simpa [encStr, bag] using hy
  rw [hk, bag_inj.1 this]
theorem sameK (x y : List UInt8) : (Lit.string x).sameKey (.string y) = decide (x = y) := by simp [Lit.sameKey, Bool.beq_eq_decide_eq]
/-- How many of the keys that have come hold z. -/
def cntL (ks : List (List UInt8)) (left : Lit → Bool) (q : List UInt8 → Bool) : Nat := ks.countP fun x => !left (.string x) && q x
theorem cntL_start {ks : List (List UInt8)} {left : Lit → Bool} (h : ∀ x ∈ ks, left (.string x) = true) (q : List UInt8 → Bool) : cntL ks left q = 0 := by
  unfold cntL
  rw [List.countP_eq_zero]
  intro x hx
  rw [h x hx]
  simp
theorem cntL_end {ks : List (List UInt8)} {left : Lit → Bool} (h : ∀ k, left k = false) (q : List UInt8 → Bool) : cntL ks left q = ks.countP q := by
  unfold cntL
  congr 1
  funext x
  rw [h]
  simp
theorem cntL_step {ks : List (List UInt8)} (hn : ks.Nodup) {left : Lit → Bool} {x : List UInt8} (hx : x ∈ ks) (hl : left (.string x) = true) (q : List UInt8 → Bool) : cntL ks (fun z => left z && !z.sameKey (.string x)) q = cntL ks left q + (if q x = true then 1 else 0) := by
  unfold cntL
  have h := cnt_stepD (fun y => !left (.string y) && q y) (fun y => !(left (.string y) && !(Lit.string y).sameKey (.string x)) && q y) x ks hn hx (fun y hy => by rw [sameK, decide_eq_false hy]; simp) (by simp [hl])
  rw [h]
  congr 1
  simp [sameK]
theorem cntL_le (ks : List (List UInt8)) (left : Lit → Bool) (q : List UInt8 → Bool) : cntL ks left q ≤ ks.length := List.countP_le_length
/-- A block with four numbers. -/
def ProgB (w : World) (Q : Nat) (a b c d : Int) : Prop := w.heap[Q]? = some (.cells #[.int .i64 a, .int .i64 b, .int .i64 c, .int .i64 d] 52 (0, 0))
theorem ProgB.lt {w : World} {Q : Nat} {a b c d : Int} (h : ProgB w Q a b c d) : Q < w.heap.size := (Array.getElem?_eq_some_iff.1 h).1
theorem ProgB.c {w : World} {Q : Nat} {a b c d : Int} (h : ProgB w Q a b c d) : w.cell? ⟨Q, 0, none⟩ = some (.int .i64 a) ∧ w.cell? ⟨Q, 1, none⟩ = some (.int .i64 b) ∧ w.cell? ⟨Q, 2, none⟩ = some (.int .i64 c) ∧ w.cell? ⟨Q, 3, none⟩ = some (.int .i64 d) := by
  refine ⟨?_, ?_, ?_, ?_⟩ <;> (rw [cell_of_row w Q _ _ _ _ h]; rfl)
theorem ProgB.f {w : World} {Q : Nat} {a b c d : Int} (h : ProgB w Q a b c d) (j : Nat) : w.frozen? ⟨Q, j, none⟩ = false := by
  unfold ProgB at h
  simp [World.frozen?, h]
theorem ProgB.set1 {w : World} {Q : Nat} {a b c d : Int} (h : ProgB w Q a b c d) (u : Int) : ProgB (w.setCell ⟨Q, 1, none⟩ (.int .i64 u)) Q a u c d := by
  unfold ProgB at *; simp [World.setCell, Array.getElem?_modify, h]
theorem ProgB.set2 {w : World} {Q : Nat} {a b c d : Int} (h : ProgB w Q a b c d) (u : Int) : ProgB (w.setCell ⟨Q, 2, none⟩ (.int .i64 u)) Q a b u d := by
  unfold ProgB at *; simp [World.setCell, Array.getElem?_modify, h]
theorem ProgB.set3 {w : World} {Q : Nat} {a b c d : Int} (h : ProgB w Q a b c d) (u : Int) : ProgB (w.setCell ⟨Q, 3, none⟩ (.int .i64 u)) Q a b c u := by
  unfold ProgB at *; simp [World.setCell, Array.getElem?_modify, h]
def ProgPost (w : World) (I : List (List UInt8)) (st : List UInt8 → Int) (e : Ending) (w' : World) : Prop :=
  ∃ c : Nat, e = .returned (.agg #[.int .i64 (I.length : Int), .int .i64 (c : Int), .int .i64 ((I.countP fun x => decide (st x = 1) : Nat) : Int), .int .i64 ((I.countP fun x => decide (st x = 0) : Nat) : Int)]) ∧ c + (I.countP fun x => decide (st x = 1)) + (I.countP fun x => decide (st x = 0)) = I.length ∧ Below w.heap.size w w'
theorem three_sum (ks : List (List UInt8)) (st : List UInt8 → Int) : (ks.countP fun x => !decide (st x = 0) && !decide (st x = 1)) + (ks.countP fun x => decide (st x = 1)) + (ks.countP fun x => decide (st x = 0)) = ks.length := by
  induction ks with
  | nil => rfl
  | cons x ks ih =>
    simp only [List.countP_cons, List.length_cons]
    by_cases h0 : st x = 0
    · have h1 : ¬ st x = 1 := by omega
      simp only [h0]
      simp
      omega
    · by_cases h1 : st x = 1
      · simp only [h1]
        simp
        omega
      · simp only [h0, h1]
        simp
        omega
set_option maxHeartbeats 3200000 in
set_option maxRecDepth 100000 in
theorem progress_any (g M m : Nat) (st : List UInt8 → Int) (dom : List UInt8 → Bool) (I : List (List UInt8)) (w : World) (hc : w.cell? ⟨g, 1, none⟩ = some (.map (some M))) (hg : g < w.heap.size) (hS : StAt w M m st dom) (hn : I.Nodup) (hdom : ∀ x, dom x = decide (x ∈ I)) (hI : I.length ≤ 1000) :
    Calls Tryz.prog 19 #[.pointer (some ⟨g, 0, none⟩)] w (ProgPost w I st) := by
  obtain ⟨D, hm1, hm2, hm3⟩ := hS.ex
  obtain ⟨hk1, hk2, hk3⟩ := keys_ofD hm1
  have hperm : (strKeys D).Perm I := by
    rw [List.perm_ext_iff_of_nodup hk1 hn]
    intro x
    rw [hk2, hm3, hdom, decide_eq_true_eq]
  have HC1 : Hid (∀ q : List UInt8 → Bool, (strKeys D).countP q = I.countP q) := fun q => hperm.countP_eq q
  have HSZ : Hid (Maps.size D = I.length) := by show _ = _; rw [← hk3]; exact hperm.length_eq
  have HKS := Lib.hid (And.intro hk1 (And.intro hk2 hk3))
  have HAT := Lib.hid hm2
  have HMP := Lib.hid hm1
  have hMl := hS.lt
  generalize strKeys D = ks at *
  clear hk1 hk2 hk3 hm2 hm3 hperm hdom hS
  have hb1 : Below w.heap.size w (w.alloc (.cells #[.int .i64 0, .int .i64 0, .int .i64 0, .int .i64 0] 52)) := (Below.refl _ _).alloc (Nat.le_refl _) _
  have HR1 : Hid (ProgB (w.alloc (.cells #[.int .i64 0, .int .i64 0, .int .i64 0, .int .i64 0] 52)) w.heap.size 0 0 0 0) := heap_alloc_new w _
  have hc1 : (w.alloc (.cells #[.int .i64 0, .int .i64 0, .int .i64 0, .int .i64 0] 52)).cell? ⟨g, 1, none⟩ = some (.map (some M)) := (hb1.cell (p := ⟨g, _, none⟩) hg).trans hc
  have HM1 := Lib.hid (hm1.kept (below_grown hb1 none) (by simp))
  have HB1 := Lib.hid hb1
  clear hb1 hc hm1 HMP
  go_enter Tryz.func19, Tryz.ntmps19
  go_upto_region 1 with (fail)
  obtain ⟨B, hB⟩ : ∃ B, B = w.heap.size := ⟨_, rfl⟩
  rw [← hB] at HR1 ⊢
  generalize w.alloc (.cells #[.int .i64 0, .int .i64 0, .int .i64 0, .int .i64 0] 52) = w1 at *
  have HBB := Lib.hid hB
  have hMB : M < B := by omega
  have hgB : g < B := by omega
  clear hB hMl hg
  have hlen := fun ty => HM1.out.len Tryz.underlying63 ty
  rw [HSZ.out] at hlen
  have hb2 : Below w1.heap.size w1 (w1.alloc (.cells #[.int .i64 (I.length : Int), .int .i64 0, .int .i64 0, .int .i64 0] 52)) := (Below.refl _ _).alloc (Nat.le_refl _) _
  have HR2 : Hid (ProgB (w1.alloc (.cells #[.int .i64 (I.length : Int), .int .i64 0, .int .i64 0, .int .i64 0] 52)) w1.heap.size (I.length : Int) 0 0 0) := heap_alloc_new w1 _
  have hc2 : (w1.alloc (.cells #[.int .i64 (I.length : Int), .int .i64 0, .int .i64 0, .int .i64 0] 52)).cell? ⟨g, 1, none⟩ = some (.map (some M)) := (hb2.cell (p := ⟨g, _, none⟩) (show g < _ by have := HR1.out.lt; omega)).trans hc1
  have HR12 : Hid (ProgB (w1.alloc (.cells #[.int .i64 (I.length : Int), .int .i64 0, .int .i64 0, .int .i64 0] 52)) B 0 0 0 0) := (hb2.block B HR1.out.lt).trans HR1.out
  have HM2 := Lib.hid (HM1.out.kept (below_grown hb2 none) (by simp))
  have HB2 := Lib.hid (HB1.out.trans (hb2.mono HB1.out.size))
  have hBl := HR1.out.lt
  clear hb2 HM1
  go_upto_region 2 with (fail)
  obtain ⟨Q, hQ⟩ : ∃ Q, Q = w1.heap.size := ⟨_, rfl⟩
  rw [← hQ] at HR2 ⊢
  have HQB : Hid (B < Q) := by show _ < _; omega
  clear hQ hBl hlen hc1 HR1
  generalize w1.alloc (.cells #[.int .i64 (I.length : Int), .int .i64 0, .int .i64 0, .int .i64 0] 52) = w2 at *
  go_wp2_with (at_range; refine wpList_range_own _ rfl _ 63 rfl 9 3 keyS Tryz.underlying63 _ M m _ rfl HM2.out ?_; intro w6 hrg6 hg6 hs6)
  go_frame
  have HQ6 : Hid (ProgB w6 Q (I.length : Int) 0 0 0) := (hg6.block Q HR2.out.lt (by simp)).trans HR2.out
  have HR6 : Hid (ProgB w6 B 0 0 0 0) := (hg6.block B HR12.out.lt (by simp)).trans HR12.out
  have HB6 : Hid (Below w.heap.size w w6) := HB2.out.grown hg6 HB2.out.size (fun i hi => by cases hi)
  have HRG6 := Lib.hid hrg6
  obtain ⟨R, hR⟩ : ∃ R, R = w2.heap.size := ⟨_, rfl⟩
  rw [← hR] at HRG6 ⊢
  have HRB : Hid (Q < R ∧ w.heap.size ≤ R) := ⟨by rw [hR]; exact HR2.out.lt, by rw [hR]; exact HB2.out.size⟩
  clear hrg6 hg6 hs6 HR2 HR12 HB2 hc2 HM2 hR
  go_loopg [5] (Maps.size D) (fun gk _ wr => ∃ left : Lit → Bool, Hid (wr.ranges Tryz.prog 9 heldE M R m D left gk) ∧ Hid (ProgB wr Q (I.length : Int) (cntL ks left (fun x => !decide (st x = 0) && !decide (st x = 1)) : Nat) (cntL ks left (fun x => decide (st x = 1)) : Nat) (cntL ks left (fun x => decide (st x = 0)) : Nat)) ∧ Hid (ProgB wr B 0 0 0 0) ∧ Hid (Below w.heap.size w wr))
  case atStart =>
    refine ⟨_, HRG6.out, ?_, HR6.out, HB6.out⟩
    show ProgB _ _ _ _ _ _
    rw [cntL_start (fun x hx => (HKS.out.2.1 x).1 hx), cntL_start (fun x hx => (HKS.out.2.1 x).1 hx), cntL_start (fun x hx => (HKS.out.2.1 x).1 hx)]
    exact HQ6.out
  case round =>
    obtain ⟨left, HRG, HQ, HR, HB⟩ := hrel
    clear HRG6 HQ6 HR6 HB6
    go_wp2_with (at_next; refine wpList_next_ranges _ rfl _ rfl 9 keyS _ (fun x : List UInt8 => Value.string (bag x)) (fun v : Value => v) invK_strD (fun v _ _ => ⟨v, rfl⟩) M R m _ _ _ rfl HRG.out (Hid.out ?_) (Hid.out ?_))
    · refine Lib.hid ?_
      intro hc0 hl0
      have HQE : Hid (ProgB wr Q (I.length : Int) ((I.countP fun x => !decide (st x = 0) && !decide (st x = 1) : Nat) : Int) ((I.countP fun x => decide (st x = 1) : Nat) : Int) ((I.countP fun x => decide (st x = 0) : Nat) : Int)) := by
        have h := HQ.out
        rw [cntL_end hl0, cntL_end hl0, cntL_end hl0, HC1.out, HC1.out, HC1.out] at h
        exact h
      have HSUM := Lib.hid (three_sum I st)
      have HPOST : Hid (∀ wx, Below w.heap.size w wx → ProgPost w I st (.returned (.agg #[.int .i64 (I.length : Int), .int .i64 ((I.countP fun x => !decide (st x = 0) && !decide (st x = 1) : Nat) : Int), .int .i64 ((I.countP fun x => decide (st x = 1) : Nat) : Int), .int .i64 ((I.countP fun x => decide (st x = 0) : Nat) : Int)])) wx) := fun wx hb => ⟨_, rfl, HSUM.out, hb⟩
      clear hl0 HQ HRG HSUM
      generalize (I.countP fun x => !decide (st x = 0) && !decide (st x = 1)) = nc at *
      generalize (I.countP fun x => decide (st x = 1)) = n1 at *
      generalize (I.countP fun x => decide (st x = 0)) = n0 at *
      obtain ⟨p0, p1, p2, p3⟩ := HQE.out.c
      obtain ⟨r0, r1, r2, r3⟩ := HR.out.c
      have q0 := HR.out.f 0
      have q1 := HR.out.f 1
      have q2 := HR.out.f 2
      have q3 := HR.out.f 3
      go_wp2_with fail
      have hg4 : wr.grownBy ((((wr.setCell ⟨B, 0, none⟩ (.int .i64 (I.length : Int))).setCell ⟨B, 1, none⟩ (.int .i64 (nc : Int))).setCell ⟨B, 2, none⟩ (.int .i64 (n1 : Int))).setCell ⟨B, 3, none⟩ (.int .i64 (n0 : Int))) (some B) := grown_trans (grown_trans (grown_trans (grown_setCell _ _ _ _) (grown_setCell _ _ _ _)) (grown_setCell _ _ _ _)) (grown_setCell _ _ _ _)
      refine bodyPost_ret (v := .agg #[.int .i64 (I.length : Int), .int .i64 (nc : Int), .int .i64 (n1 : Int), .int .i64 (n0 : Int)]) (by simp [results, Tryz.results19, go_sem, r0, r1, r2, r3]) rfl ?_
      exact HPOST.out _ (HB.out.grown hg4 HB.out.size (fun i e => by cases e; exact Nat.le_of_eq HBB.out.symm))
    · refine Lib.hid ?_
      intro x cb kl ya yb w7 cnt7 hkey hlk hRv hat hrg7 hlt7 hg7 hs7 hen
      obtain rfl := key_bagD hkey
      have hhas := has_true_of_atKey hat
      have hx : x ∈ ks := (HKS.out.2.1 x).2 hhas
      have hya : ya = .held cb := by
        simp only [heldE, Option.some.injEq, Prod.mk.injEq] at hRv
        exact hRv.1.symm
      have hcb : cb = .int .i64 (st x) := by
        have h1 := hat (.held (.int .i64 0))
        rw [HAT.out, hya] at h1
        simp only [DataW.held.injEq] at h1
        exact h1.symm
      subst hcb
      have HRG7 := Lib.hid hrg7
      have HS0 := Lib.hid (cntL_step HKS.out.1 hx hlk (fun x => decide (st x = 0)))
      have HS1 := Lib.hid (cntL_step HKS.out.1 hx hlk (fun x => decide (st x = 1)))
      have HSC := Lib.hid (cntL_step HKS.out.1 hx hlk (fun x => !decide (st x = 0) && !decide (st x = 1)))
      have hl0 := cntL_le ks left (fun x => decide (st x = 0))
      have hl1 := cntL_le ks left (fun x => decide (st x = 1))
      have hlc := cntL_le ks left (fun x => !decide (st x = 0) && !decide (st x = 1))
      rw [HKS.out.2.2, HSZ.out] at hl0 hl1 hlc
      have hne : ∀ {P : Nat}, P < R → P ≠ R := fun h => by omega
      have HQ7 : Hid (ProgB w7 Q (I.length : Int) (cntL ks left (fun x => !decide (st x = 0) && !decide (st x = 1)) : Nat) (cntL ks left (fun x => decide (st x = 1)) : Nat) (cntL ks left (fun x => decide (st x = 0)) : Nat)) := (hg7.block Q HQ.out.lt (fun e => by have := Option.some.inj e; have := HRB.out.1; omega)).trans HQ.out
      have HR7 : Hid (ProgB w7 B 0 0 0 0) := (hg7.block B HR.out.lt (fun e => by have := Option.some.inj e; have := HRB.out.1; have := HQB.out; omega)).trans HR.out
      have HB7 : Hid (Below w.heap.size w w7) := HB.out.grown hg7 HB.out.size (fun i hi => by cases hi; exact HRB.out.2)
      clear hkey hlk hRv hat hhas hx hya hrg7 hg7 hs7 HRG HQ HR HB hne
      generalize hz : st x = z at *
      generalize cntL ks left (fun x => decide (st x = 0)) = c0 at *
      generalize cntL ks left (fun x => decide (st x = 1)) = c1 at *
      generalize cntL ks left (fun x => !decide (st x = 0) && !decide (st x = 1)) = cc at *
      have HZ := Lib.hid hz
      clear hz
      obtain ⟨p0, p1, p2, p3⟩ := HQ7.out.c
      have e0 : IntKind.i64.wrap ((c0 : Int) + 1) = (c0 : Int) + 1 := IntWalk.i64_in _ (by omega)
      have e1 : IntKind.i64.wrap ((c1 : Int) + 1) = (c1 : Int) + 1 := IntWalk.i64_in _ (by omega)
      have ec : IntKind.i64.wrap ((cc : Int) + 1) = (cc : Int) + 1 := IntWalk.i64_in _ (by omega)
      have hQw := HB7.out.size
      have hKM : some M ≠ some Q := fun e => by have := Option.some.inj e; have := HQB.out; omega
      have hKR : some R ≠ some Q := fun e => by have := Option.some.inj e; have := HRB.out.1; omega
      have HKK := Lib.hid (And.intro hKM hKR)
      have hQB := HQB.out
      have HWQ : Hid (w.heap.size ≤ Q) := by have := HBB.out; show _ ≤ _; omega
      have HBQ : Hid (B ≠ Q) := by show _ ≠ _; omega
      clear hKM hKR
      by_cases h0 : z = 0
      · have z0 : (z == 0) = true := by simp [h0]
        rw [h0] at HS0 HS1 HSC
        simp at HS0 HS1 HSC
        have gf := HQ7.out.f 3
        have HQ8 := Lib.hid (HQ7.out.set3 ((c0 : Int) + 1))
        have HR8 : Hid (ProgB (w7.setCell ⟨Q, 3, none⟩ (.int .i64 ((c0 : Int) + 1))) B 0 0 0 0) := (Below.heap_setCell w7 ⟨Q, 3, none⟩ _ B HBQ.out).trans HR7.out
        have HB8 : Hid (Below w.heap.size w (w7.setCell ⟨Q, 3, none⟩ (.int .i64 ((c0 : Int) + 1)))) := HB7.out.setCell HWQ.out _
        have HRG8 := Lib.hid (HRG7.out.kept (grown_setCell w7 Q 3 (.int .i64 ((c0 : Int) + 1))) HKK.out.1 HKK.out.2)
        clear h0
        go_wp2_with fail
        go_roundg cnt7
        case measure => exact hlt7
        case rel => exact ⟨_, HRG8.out, by show ProgB _ _ _ _ _ _; rw [HS0.out, HS1.out, HSC.out]; exact HQ8.out, HR8.out, HB8.out⟩
      · have z0 : (z == 0) = false := by simpa using h0
        by_cases h1 : z = 1
        · have z1 : (z == 1) = true := by simp [h1]
          rw [h1] at HS0 HS1 HSC
          simp at HS0 HS1 HSC
          have gf := HQ7.out.f 2
          have HQ8 := Lib.hid (HQ7.out.set2 ((c1 : Int) + 1))
          have HR8 : Hid (ProgB (w7.setCell ⟨Q, 2, none⟩ (.int .i64 ((c1 : Int) + 1))) B 0 0 0 0) := (Below.heap_setCell w7 ⟨Q, 2, none⟩ _ B HBQ.out).trans HR7.out
          have HB8 : Hid (Below w.heap.size w (w7.setCell ⟨Q, 2, none⟩ (.int .i64 ((c1 : Int) + 1)))) := HB7.out.setCell HWQ.out _
          have HRG8 := Lib.hid (HRG7.out.kept (grown_setCell w7 Q 2 (.int .i64 ((c1 : Int) + 1))) HKK.out.1 HKK.out.2)
          clear h0 h1
          go_wp2_with fail
          go_roundg cnt7
          case measure => exact hlt7
          case rel => exact ⟨_, HRG8.out, by show ProgB _ _ _ _ _ _; rw [HS0.out, HS1.out, HSC.out]; exact HQ8.out, HR8.out, HB8.out⟩
        · have z1 : (z == 1) = false := by simpa using h1
          simp [h0, h1] at HS0 HS1 HSC
          have gf := HQ7.out.f 1
          have HQ8 := Lib.hid (HQ7.out.set1 ((cc : Int) + 1))
          have HR8 : Hid (ProgB (w7.setCell ⟨Q, 1, none⟩ (.int .i64 ((cc : Int) + 1))) B 0 0 0 0) := (Below.heap_setCell w7 ⟨Q, 1, none⟩ _ B HBQ.out).trans HR7.out
          have HB8 : Hid (Below w.heap.size w (w7.setCell ⟨Q, 1, none⟩ (.int .i64 ((cc : Int) + 1)))) := HB7.out.setCell HWQ.out _
          have HRG8 := Lib.hid (HRG7.out.kept (grown_setCell w7 Q 1 (.int .i64 ((cc : Int) + 1))) HKK.out.1 HKK.out.2)
          clear h0 h1
          go_wp2_with fail
          go_roundg cnt7
          case measure => exact hlt7
          case rel => exact ⟨_, HRG8.out, by show ProgB _ _ _ _ _ _; rw [HS0.out, HS1.out, HSC.out]; exact HQ8.out, HR8.out, HB8.out⟩
end Go.Proofs.YtdojnbnhogbhiaaGreatDoor

namespace Go.Proofs.YtdojnbnhogbhiaaGreatDoor
open Go.RowKit Go.Maps

/-- What stays of a desk. -/
structure FairC (P : List (Str × Hd3)) (items : Str → List Str) (I : List Str) (dom : Str → Bool) : Prop where
  few : P.length ≤ 12
  each : ∀ p ∈ P, (items p.1).length ≤ 12 ∧ ∀ x ∈ items p.1, x.length ≤ 40
  domP : ∀ p ∈ P, ∀ x ∈ items p.1, dom x = true
  domI : ∀ x, dom x = decide (x ∈ I)
  nodup : I.Nodup
  perm : (P.flatMap fun p => items p.1).Perm I
  ilen : I.length ≤ 9
theorem FairC.ids {P : List (Str × Hd3)} {items : Str → List Str} {I : List Str} {dom : Str → Bool} (h : FairC P items I dom) : ∀ x ∈ I, x.length ≤ 40 := fun x hx => by
  obtain ⟨p, hp, hx⟩ := List.mem_flatMap.1 (h.perm.symm.subset hx)
  exact (h.each p hp).2 x hx
/-- A desk in the midst of its work, and the stream. -/
structure FairAt (w w00 : World) (base g M s : Nat) (A : Option Addr) (n c K : Nat) (fv : Value) (P : List (Str × Hd3)) (items : Str → List Str) (I : List Str) (dom : Str → Bool) (k : Nat) : Prop where
  ex : ∃ (m : Nat) (bv : Value) (st : Str → Int) (bats : List Bat) (last : Int), DeskAt w base g M fv P items dom m bv st bats last ∧ DInv I P items st bats ∧ m ≤ 100 + 40 * k ∧ bats.length ≤ k ∧ ∀ b ∈ bats, b.ids.length ≤ 12
  str : StreamAt w s A n c K
  low : s < base
  bas : base ≤ w.heap.size
  bel : Below s w00 w
section
variable {w w' w00 : World} {base g M s : Nat} {A : Option Addr} {n c K k : Nat} {fv : Value} {P : List (Str × Hd3)} {items : Str → List Str} {I : List Str} {dom : Str → Bool}
theorem FairAt.keep (h : FairAt w w00 base g M s A n c K fv P items I dom k) (hb : Below w.heap.size w w') : FairAt w' w00 base g M s A n c K fv P items I dom k := by
  obtain ⟨m, bv, st, bats, last, h1, h2⟩ := h.ex
  exact ⟨⟨m, bv, st, bats, last, h1.keep hb, h2⟩, h.str.below hb, h.low, Nat.le_trans h.bas hb.size, h.bel.trans (hb.mono (by have := h.low; have := h.bas; omega))⟩
theorem FairAt.alloc (h : FairAt w w00 base g M s A n c K fv P items I dom k) (o : Obj) : FairAt (w.alloc o) w00 base g M s A n c K fv P items I dom k := h.keep ((Below.refl _ _).alloc (Nat.le_refl _) _)
theorem FairAt.drew (h : FairAt w w00 base g M s A n c K fv P items I dom k) : FairAt w.drew w00 base g M s A n c K fv P items I dom k := h.keep ((Below.refl _ _).drew)
theorem FairAt.step {K' : Nat} (h : FairAt w w00 base g M s A n c K fv P items I dom k) (hg : w.grownBy w' (some s)) (hs : StreamAt w' s A n c K') : FairAt w' w00 base g M s A n c K' fv P items I dom k := by
  obtain ⟨m, bv, st, bats, last, h1, h2⟩ := h.ex
  exact ⟨⟨m, bv, st, bats, last, h1.far hg h.low, h2⟩, hs, h.low, Nat.le_trans h.bas hg.size, h.bel.grown hg (by have := h.low; have := h.bas; omega) (fun i e => Nat.le_of_eq (Option.some.inj e))⟩
theorem FairAt.more {K' k' : Nat} (h : FairAt w w00 base g M s A n c K fv P items I dom k) (hK : K ≤ K') (hk : k ≤ k') : FairAt w w00 base g M s A n c K' fv P items I dom k' := by
  obtain ⟨m, bv, st, bats, last, h1, h2, h3, h4, h5⟩ := h.ex
  exact ⟨⟨m, bv, st, bats, last, h1, h2, by omega, by omega, h5⟩, h.str.more hK, h.low, h.bas, h.bel⟩
theorem str_low (h : StreamAt w s A n c K) (hs : s < base) (hb : Below base w w') : StreamAt w' s A n c K := h.keep fun i hi => hb.block i (by omega)
/-- Behind Take or Return. -/
def FairPost (w w00 : World) (base g M s : Nat) (A : Option Addr) (n c K : Nat) (fv : Value) (P : List (Str × Hd3)) (items : Str → List Str) (I : List Str) (dom : Str → Bool) (k : Nat) (e : Ending) (w' : World) : Prop :=
  ∃ v, e = .returned v ∧ FairAt w' w00 base g M s A n c K fv P items I dom k ∧ Below base w w'
theorem takeF_any (hF : FairAt w w00 base g M s A n c K fv P items I dom k) (hC : FairC P items I dom) (hk : k ≤ 100) (who : ByteArray) (at_ most : Int) (hw : who.size ≤ 1000000) :
    Calls Tryz.prog 9 #[.pointer (some ⟨g, 0, none⟩), .string who, .int .i64 at_, .int .i64 most] w (FairPost w w00 base g M s A n c K fv P items I dom (k + 1)) := by
  obtain ⟨m, bv, st, bats, last, h1, h2, h3, h4, h5⟩ := hF.ex
  refine (take_any base g M m fv bv P items dom st bats last who at_ most w h1 hw (by have := hC.few; omega) (fun p hp => ⟨by have := (hC.each p hp).1; omega, fun x hx => by have := (hC.each p hp).2 x hx; omega⟩) hC.domP (by omega) (by omega)).mono ?_
  rintro e w' ⟨b, C, z, rfl, hown, hCb, hCs, hb, hcs⟩
  refine ⟨_, rfl, ⟨?_, str_low hF.str hF.low hb, hF.low, Nat.le_trans hF.bas hb.size, hF.bel.trans (hb.mono (Nat.le_of_lt hF.low))⟩, hb⟩
  rcases hcs with ⟨-, hk', -, -⟩ | ⟨-, hids, -, -, bv', hd, hk'⟩
  · exact ⟨m, bv, st, bats, last, hk' w' (Below.refl _ _), h2, by omega, by omega, h5⟩
  · have hsub := taken_sub st items P most
    rw [← hids] at hsub
    have hlen : b.ids.length ≤ 9 := by
      have e1 : b.ids.length ≤ I.length := Nat.le_trans hsub.length_le (Nat.le_trans (openL_le _ _) (Nat.le_of_eq hC.perm.length_eq))
      exact Nat.le_trans e1 hC.ilen
    refine ⟨_, bv', _, _, at_, hk' w' (Below.refl _ _), h2.take (b := ⟨(bats.length : Int) + 1, at_, -1, who.data.toList, hd, b.ids⟩) rfl hids, by omega, by rw [List.length_append, List.length_singleton]; omega, fun b' hb' => ?_⟩
    rcases List.mem_append.1 hb' with hb' | hb'
    · exact h5 b' hb'
    · rw [List.mem_singleton.1 hb']
      show b.ids.length ≤ 12
      omega
theorem returnF_any (hF : FairAt w w00 base g M s A n c K fv P items I dom k) (hC : FairC P items I dom) (hk : k ≤ 100) (no at_ : Int) (DA : Option Addr) (dn dc : Nat) (done : List Str) (hd : StrsAt w DA dn dc done) (hdn : dn ≤ 10000) (hds : ∀ x ∈ done, x.length ≤ 1000) :
    Calls Tryz.prog 14 #[.pointer (some ⟨g, 0, none⟩), .int .i64 no, .int .i64 at_, .slice DA dn dc] w (FairPost w w00 base g M s A n c K fv P items I dom (k + 1)) := by
  obtain ⟨m, bv, st, bats, last, h1, h2, h3, h4, h5⟩ := hF.ex
  refine (return_any base g M m fv bv P items dom st bats last no at_ DA dn dc done w h1 hd hdn hds (by omega) (fun p hp => ⟨by have := h5 p hp; omega, fun x hx => ?_⟩) (by omega)).mono ?_
  · have hx2 := h2.sub p hp x hx
    exact ⟨by have := hC.ids x hx2; omega, by rw [hC.domI]; exact decide_eq_true hx2⟩
  rintro e w' ⟨z, rfl, hb, hcs⟩
  refine ⟨_, rfl, ⟨?_, str_low hF.str hF.low hb, hF.low, Nat.le_trans hF.bas hb.size, hF.bel.trans (hb.mono (Nat.le_of_lt hF.low))⟩, hb⟩
  rcases hcs with ⟨-, hk', -⟩ | ⟨-, k', b, m', hok, hm', hk'⟩
  · exact ⟨m, bv, st, bats, last, hk', h2, by omega, by omega, h5⟩
  · have hlen := h5 b (List.mem_of_getElem? hok.at_k)
    refine ⟨m', bv, _, _, at_, hk', h2.back hok.at_k hok.out hok.mom.1, by omega, by rw [List.length_set]; omega, fun b' hb' => ?_⟩
    rcases List.mem_or_eq_of_mem_set hb' with hb' | rfl
    · exact h5 b' hb'
    · exact hlen
def NextFP (w w00 : World) (base g M s : Nat) (A : Option Addr) (n c K : Nat) (fv : Value) (P : List (Str × Hd3)) (items : Str → List Str) (I : List Str) (dom : Str → Bool) (k lo hi : Nat) (e : Ending) (w' : World) : Prop :=
  ∃ j : Nat, e = .returned (.int .i64 (j : Int)) ∧ lo ≤ j ∧ j ≤ hi ∧ FairAt w' w00 base g M s A n c K fv P items I dom k ∧ w.grownBy w' (some s)
theorem nextF_any (hF : FairAt w w00 base g M s A n c K fv P items I dom k) (hK : K ≤ 100000) (N : Nat) (hN : 1 ≤ N) (hN2 : N ≤ 1000) :
    Calls Tryz.prog 18 #[.pointer (some ⟨s, 0, none⟩), .int .i64 (N : Int)] w (NextFP w w00 base g M s A n c (K + 1) fv P items I dom k 0 (N - 1)) := by
  refine (next_any s A n c K (N : Int) w hF.str (by omega) (by omega)).mono ?_
  rintro e w' ⟨r, rfl, h0, h1, hs, hg⟩
  obtain ⟨j, rfl⟩ := Int.eq_ofNat_of_zero_le h0
  exact ⟨j, rfl, Nat.zero_le _, by have := h1 (by omega); omega, hF.step hg hs, hg⟩
theorem rangeF_any (hF : FairAt w w00 base g M s A n c K fv P items I dom k) (hK : K ≤ 100000) (lo hi : Nat) (hlh : lo ≤ hi) (hh : hi ≤ 1000) :
    Calls Tryz.prog 15 #[.pointer (some ⟨s, 0, none⟩), .int .i64 (lo : Int), .int .i64 (hi : Int)] w (NextFP w w00 base g M s A n c (K + 1) fv P items I dom k lo hi) := by
  refine (rangeR_any s A n c K (lo : Int) (hi : Int) w hF.str (by omega) (by omega) (by omega) (by omega)).mono ?_
  rintro e w' ⟨r, rfl, h0, h1, hs, hg⟩
  obtain ⟨j, rfl⟩ := Int.eq_ofNat_of_zero_le (show 0 ≤ r by omega)
  exact ⟨j, rfl, by omega, by omega, hF.step hg hs, hg⟩
end
def who3 : Nat → ByteArray
  | 0 => ⟨#[97, 110, 110]⟩
  | 1 => ⟨#[98, 111, 98]⟩
  | _ => ⟨#[99, 105, 100]⟩
theorem who3_size (j : Nat) : (who3 j).size ≤ 1000000 := by unfold who3; split <;> decide
theorem cell3 (w : World) (j : Nat) (hj : j ≤ 2) : (w.alloc (.cells #[.string ⟨#[97, 110, 110]⟩, .string ⟨#[98, 111, 98]⟩, .string ⟨#[99, 105, 100]⟩] 9)).cell? ⟨w.heap.size, j, none⟩ = some (.string (who3 j)) := by
  rw [World.cell?_alloc_at _ _ _ _ rfl]
  match j, hj with
  | 0, _ => rfl
  | 1, _ => rfl
  | 2, _ => rfl
theorem grown_undrewF {v w : World} {s : Nat} (h : v.drew.grownBy w (some s)) : v.grownBy w (some s) := ⟨h.os, h.tape, h.output, h.size, h.block⟩
theorem below_undrwF {v w : World} (h : Below v.drew.heap.size v.drew w) : Below v.heap.size v w := ⟨h.os, h.tape, h.output, h.size, h.block⟩
theorem kept3b {v w : World} {s j h : Nat} {u : Value} (hc : v.cell? ⟨h, j, none⟩ = some u) (hg : v.grownBy w (some s)) (hs : s < h) : w.cell? ⟨h, j, none⟩ = some u := by
  have hlt : h < v.heap.size := by
    rcases Nat.lt_or_ge h v.heap.size with hh | hh
    · exact hh
    · simp [World.cell?, Array.getElem?_eq_none hh] at hc
  exact (World.cell?_of_block (hg.block h hlt (fun e => by have := Option.some.inj e; omega))).trans hc
theorem sl_toD (B : Option Addr) (m d j : Nat) (hj : j ≤ d) (V : Value) (h : sliced B 0 j d StrE.size = V) (wx : World) : (Instr.slice 32 (.slice B m d) none (some (.int .i64 (j : Int))) none).run Tryz.prog wx = .ok V wx := by
  rw [run_slice_h (P := Tryz.prog) (w := wx) (t := 32) (a := B) (len := m) (cap := d) (ht := und_strs) (kh := .i64) (h := (j : Int)) (h0 := by omega) (h2 := by omega), elem_strs, Tryz.sizeOf9]
  show Result.ok (sliced B 0 ((j : Int)).toNat d 1) wx = _
  rw [Int.toNat_natCast, ← h]; rfl
theorem pieceD {w : World} {A : Option Addr} {n c q : Nat} {l : List Str} (h : StrsAt w A n c l) (hq : q ≤ n) : ∃ A', (∀ wx, (Instr.slice 32 (.slice A n c) none (some (.int .i64 (q : Int))) none).run Tryz.prog wx = .ok (.slice A' q c) wx) ∧ ∀ wx, StrsAt wx A n c l → StrsAt wx A' q c (l.take q) := by
  have key : ∀ wx, StrsAt wx A n c l → ∃ A', sliced A 0 q c StrE.size = .slice A' q c ∧ StrsAt wx A' q c (l.take q) := fun wx hx => by
    obtain ⟨A', h1, h2⟩ := hx.piece 0 q (Nat.zero_le _) hq
    rw [Nat.sub_zero, Nat.sub_zero] at h1
    rw [Nat.sub_zero, Nat.sub_zero, List.drop_zero] at h2
    exact ⟨A', h1, h2⟩
  obtain ⟨A', h1, -⟩ := key w h
  refine ⟨A', fun wx => sl_toD A n c q (Nat.le_trans hq h.2.1) _ h1 wx, fun wx hx => ?_⟩
  obtain ⟨A2, h3, h4⟩ := key wx hx
  rw [h1] at h3
  simp only [Value.slice.injEq] at h3
  rw [h3.1]
  exact h4
theorem kept3 {v w : World} {s j : Nat} (hg : (v.alloc (.cells #[.string ⟨#[97, 110, 110]⟩, .string ⟨#[98, 111, 98]⟩, .string ⟨#[99, 105, 100]⟩] 9)).grownBy w (some s)) (hs : s < v.heap.size) (hj : j ≤ 2) : w.cell? ⟨v.heap.size, j, none⟩ = some (.string (who3 j)) :=
  (World.cell?_of_block (hg.block v.heap.size (by simp) (fun e => by have := Option.some.inj e; omega))).trans (cell3 v j hj)
/-- The ids that were seen, and which of them are out. -/
structure OutAt (w : World) (M m : Nat) (o dom : Str → Bool) : Prop where
  ex : ∃ D : DataW Value, w.ownsMap Tryz.prog 9 heldE M m D ∧ (∀ id : Str, D.atKey (.string id) (.held (.bool false)) = .held (.bool (o id))) ∧ ∀ id : Str, has D (.string id) = dom id
theorem OutAt.start (w : World) : OutAt (w.alloc (.map #[] 0)) w.heap.size 0 (fun _ => false) (fun _ => false) := ⟨⟨.map [], World.ownsMap_made w _ _ _, fun _ => rfl, fun _ => rfl⟩⟩
theorem OutAt.kept {w w' : World} {M m : Nat} {o dom : Str → Bool} {row : Option Nat} (h : OutAt w M m o dom) (hg : w.grownBy w' row) (hr : row ≠ some M) : OutAt w' M m o dom := by
  obtain ⟨D, h1, h2⟩ := h.ex
  exact ⟨⟨D, h1.kept hg hr.symm, h2⟩⟩
theorem OutAt.below {w w' : World} {M m : Nat} {o dom : Str → Bool} (h : OutAt w M m o dom) (hb : Below w.heap.size w w') : OutAt w' M m o dom := h.kept (below_grown hb none) (by simp)
theorem OutAt.lt {w : World} {M m : Nat} {o dom : Str → Bool} (h : OutAt w M m o dom) : M < w.heap.size := by
  obtain ⟨D, h1, _⟩ := h.ex
  exact h1.lt
theorem OutAt.look {w : World} {M m : Nat} {o dom : Str → Bool} (h : OutAt w M m o dom) (id : ByteArray) (hid : id.size ≤ 1000000) (q : Nat) :
    (Instr.lookup 50 (.map (some M)) (.string id) false).run Tryz.prog (w.drewN q) = .ok (.bool (o id.data.toList)) (w.drewN q) := by
  obtain ⟨D, h1, h2, _⟩ := h.ex
  have hd : (w.drewN q).ownsMap Tryz.prog 9 heldE M m D := h1
  obtain ⟨v, ps, hrun, hv⟩ := hd.lookup keyS Tryz.underlying50 (z := .bool false) (by kernel_rfl) (zd := .held (.bool false)) (zp := []) rfl (keyS_mk id hid)
  rw [h2] at hv
  simp only [heldE, Option.some.injEq, Prod.mk.injEq, DataW.held.injEq] at hv
  rw [hv.1] at hrun
  exact hrun
theorem OutAt.put {w w' : World} {M m : Nat} {o dom : Str → Bool} {D : DataW Value} (x : Str) (z : Bool) (h1 : w.ownsMap Tryz.prog 9 heldE M m D) (h2 : ∀ id : Str, D.atKey (.string id) (.held (.bool false)) = .held (.bool (o id))) (h3 : ∀ id : Str, has D (.string id) = dom id)
    (hm : w'.ownsMap Tryz.prog 9 heldE M (m + 1) (D.put (.string x) (.held (.bool z)))) : OutAt w' M (m + 1) (fun id => if id = x then z else o id) (fun id => decide (id = x) || dom id) := by
  refine ⟨⟨_, hm, fun id => ?_, fun id => ?_⟩⟩
  · by_cases e : id = x
    · subst e
      rw [atKey_put_same h1.isMap (str_key _)]
      simp
    · rw [atKey_put_other (str_neI e), h2]
      simp [e]
  · by_cases e : id = x
    · subst e
      rw [has_put_same h1.isMap (str_key _)]
      simp
    · rw [has_put_other (str_neI e), h3]
      simp [e]
theorem OutAt.congr {w : World} {M m : Nat} {o o' dom dom' : Str → Bool} (h : OutAt w M m o dom) (h1 : ∀ x, o' x = o x) (h2 : ∀ x, dom' x = dom x) : OutAt w M m o' dom' := by
  obtain rfl : o' = o := funext h1
  obtain rfl : dom' = dom := funext h2
  exact h
theorem owns_ne_out {α : Type} {E : Elem α} {w : World} {base O m : Nat} {v : Value} {l : List α} {o dom : Str → Bool} (h : Owns E w base v l) (hm : OutAt w O m o dom) : v.ownBlock ≠ some O := by
  obtain ⟨D, ⟨es, cl, hb, _⟩, _⟩ := hm.ex
  intro e
  rcases h.2 with ⟨rfl, _⟩ | ⟨g, cap, cur, rfl, _, hh, _⟩
  · cases e
  · have e2 : g = O := Option.some.inj e
    subst e2
    rw [hb] at hh
    cases hh
theorem DeskAt.besideOut {w w' : World} {base g M m O mr : Nat} {fv bv : Value} {P : List (Str × Hd3)} {items : Str → List Str} {dom o domr : Str → Bool} {st : Str → Int} {bats : List Bat} {last : Int} (h : DeskAt w base g M fv P items dom m bv st bats last) (hr : OutAt w O mr o domr) (hne : O ≠ M) (hg : w.grownBy w' (some O)) : DeskAt w' base g M fv P items dom m bv st bats last := by
  have hgO : g ≠ O := fun e => by
    obtain ⟨D, ⟨es, cl, hb, _⟩, _⟩ := hr.ex
    subst e
    have := h.row
    rw [hb] at this
    cases this
  exact ⟨(hg.block g h.lt (fun e => hgO (Option.some.inj e))).trans h.row, h.hg, h.hM, h.fam.notin hg (fun b hb e => owns_ne_out h.fam hr (hb.trans e.symm)), fun p hp => (h.frow p hp).notin hg (fun b hb e => owns_ne_out (h.frow p hp) hr (hb.trans e.symm)), h.st.kept hg (fun e => hne (Option.some.inj e)),
    ⟨h.bats.own.notin hg (fun b hb e => owns_ne_out h.bats.own hr (hb.trans e.symm)), fun p hp => (h.bats.row p hp).notin hg (fun b hb e => owns_ne_out (h.bats.row p hp) hr (hb.trans e.symm))⟩⟩
theorem outsL_core : ∀ (a b : List Bat), a.map Bat.core = b.map Bat.core → outsL a = outsL b
  | [], [], _ => rfl
  | [], y :: b, h => by simp at h
  | x :: a, [], h => by simp at h
  | x :: a, y :: b, h => by
    simp only [List.map_cons, List.cons.injEq] at h
    have ih := outsL_core a b h.2
    have h1 : x.inn = y.inn := congrArg (fun x : Int × Int × Int × List UInt8 × List (List UInt8) => x.2.2.1) h.1
    have h2 : x.ids = y.ids := congrArg (fun x : Int × Int × Int × List UInt8 × List (List UInt8) => x.2.2.2.2) h.1
    simp only [outsL, List.flatMap_cons] at *
    rw [ih, h1, h2]
theorem core_mem {a b : List Bat} (h : a.map Bat.core = b.map Bat.core) {p : Bat} (hp : p ∈ a) : ∃ q ∈ b, q.ids = p.ids ∧ q.inn = p.inn := by
  have h1 : p.core ∈ b.map Bat.core := by rw [← h]; exact List.mem_map.2 ⟨p, hp, rfl⟩
  obtain ⟨q, hq, e⟩ := List.mem_map.1 h1
  exact ⟨q, hq, congrArg (fun x : Int × Int × Int × List UInt8 × List (List UInt8) => x.2.2.2.2) e, congrArg (fun x : Int × Int × Int × List UInt8 × List (List UInt8) => x.2.2.1) e⟩
theorem outsL_next {out : List Bat} {i : Nat} {p : Bat} (h : out[i]? = some p) : outsL (out.take (i + 1)) = outsL (out.take i) ++ (if p.inn < 0 then p.ids else []) := by
  rw [takeP h, outsL_append]
  simp [outsL]
theorem outsL_new {out : List Bat} (hn : (outsL out).Nodup) {i j : Nat} {p : Bat} {x : Str} (h : out[i]? = some p) (hp : p.inn < 0) (hx : p.ids[j]? = some x) : x ∉ outsL (out.take i) ++ p.ids.take j := by
  have e : outsL out = outsL (out.take i) ++ (p.ids ++ outsL (out.drop (i + 1))) := by
    obtain ⟨h1, h2⟩ := List.getElem?_eq_some_iff.1 h
    conv => lhs; rw [← List.take_append_drop i out, List.drop_eq_getElem_cons h1, h2, outsL_append]
    simp [outsL, hp]
  rw [e, List.nodup_append] at hn
  obtain ⟨-, n2, n3⟩ := hn
  rw [List.nodup_append] at n2
  intro hm
  rcases List.mem_append.1 hm with hm | hm
  · exact n3 x hm x (List.mem_append_left _ (List.mem_of_getElem? hx)) rfl
  · exact not_onceD hx hm n2.1
theorem outs_sub (out : List Bat) : ∀ x ∈ outsL out, x ∈ out.flatMap Bat.ids := fun x hx => by
  unfold outsL at hx
  obtain ⟨b, hb, hx⟩ := List.mem_flatMap.1 hx
  split at hx
  · exact List.mem_flatMap.2 ⟨b, hb, hx⟩
  · cases hx
theorem many_len {ks L : List Str} {o dom : Str → Bool} (hk : ks.Nodup) (hd : ∀ x, x ∈ ks ↔ dom x = true) (ho : ∀ x, o x = decide (x ∈ L)) (hs : ∀ x ∈ L, dom x = true) (hn : L.Nodup) : ks.countP o = L.length := by
  rw [List.countP_eq_length_filter]
  have hp : (ks.filter o).Perm L := by
    rw [List.perm_ext_iff_of_nodup (hk.filter _) hn]
    intro x
    rw [List.mem_filter, ho, decide_eq_true_eq]
    exact ⟨fun h => h.2, fun h => ⟨(hd x).2 (hs x h), h⟩⟩
  exact hp.length_eq
end Go.Proofs.YtdojnbnhogbhiaaGreatDoor

namespace Go.Proofs.YtdojnbnhogbhiaaGreatDoor
open Go.RowKit Go.Maps
attribute [local go_sem ↓] Go.wp_at_zero Go.wp_at_succ

set_option maxHeartbeats 6400000 in
set_option maxRecDepth 100000 in
theorem fairLaw_any (A : Option Addr) (n c : Nat) (w : World) (hA : RowAt w A n) (hbig : n ≤ 1000000000000000) (hS : StandAt w) (hT : Tabs w) (hM : MaxAt w) :
    Calls Tryz.prog 4 #[.slice A n c] w (LawPost w) := by
  have hst := stream_new w A n c hA hbig
  have hB : Below w.heap.size w (w.alloc (.cells #[.slice A n c, .int .i64 0] 25)) := (Below.refl _ _).alloc (Nat.le_refl _) _
  have HS := Lib.hid hS
  have HTM : Hid (∀ w', Below w.heap.size w w' → Tabs w' ∧ MaxAt w') := fun w' hb => ⟨Tabs.below hT hb, MaxAt.below hM hb⟩
  clear hS hT hM
  go_enter Tryz.func4, Tryz.ntmps4
  go_upto_region 2 with (fail)
  generalize w.alloc (.cells #[.slice A n c, .int .i64 0] 25) = w0 at *
  go_wp2_with fail
  refine (rangeR_any w.heap.size A n c 0 0 9 _ hst (by omega) (by omega) (by omega) (by omega)).mono ?_
  rintro e w1 ⟨r, rfl, hr0, hr1, hs1, hg1⟩
  obtain ⟨many, rfl⟩ := Int.eq_ofNat_of_zero_le hr0
  have hmany : many ≤ 9 := by omega
  have HB1 : Hid (Below w.heap.size w w1) := hB.grown hg1 hB.size (fun i e => Nat.le_of_eq (Option.some.inj e))
  have HRI := Lib.hid (rightItems_any w.heap.size A n c 1 many w1 hs1 (by omega) (by omega) (fun w' hg => HTM.out w' (HB1.out.grown hg HB1.out.size (fun i e => Nat.le_of_eq (Option.some.inj e)))))
  clear hst hB hr0 hr1 hs1 hg1
  go_wp2_with fail
  refine HRI.out.mono ?_
  rintro e w2 ⟨v2, l, rfl, hown2, hgd, hl9, hs2, hg2⟩
  have HB2 : Hid (Below w.heap.size w w2) := HB1.out.grown hg2 HB1.out.size (fun i e => Nat.le_of_eq (Option.some.inj e))
  obtain ⟨A2, c2, hv2, -, hat2, -⟩ := hown2.at_ itemE_ok
  subst hv2
  have HGD := Lib.hid hgd
  obtain ⟨nl, hnl⟩ : ∃ nl, nl = l.length := ⟨_, rfl⟩
  rw [← hnl] at hat2 ⊢
  have HNL := Lib.hid hnl
  have hnl9 : nl ≤ 9 := by omega
  have HNW := Lib.hid (newDesk_any A2 nl c2 l w2 hat2 hgd.setRD (HTM.out w2 HB2.out).1 (HTM.out w2 HB2.out).2)
  have hsl : w.heap.size < w2.heap.size := hs2.lt
  have hs2' := hs2.more (show 1 + 210 * many ≤ 2000 by omega)
  have HST2 := Lib.hid hs2'
  clear hown2 hgd hg2 hat2 hnl hl9 HRI hs2 hs2'
  go_wp2_with fail
  refine HNW.out.mono ?_
  rintro e w3 ⟨g, M, fv, P, rfl, hd3, htops, hb3⟩
  have HF := Lib.hid (newFacts HGD.out htops)
  generalize belS (kidN l l.length) 4 = items at *
  obtain ⟨I, hI⟩ : ∃ I, I = l.map idOf := ⟨_, rfl⟩
  have HI : Hid (I.Nodup ∧ (P.flatMap fun p => items p.1).Perm I ∧ I.length = nl) := by
    rw [hI]
    exact ⟨HF.out.nodup, HF.out.perm, by rw [List.length_map]; exact HNL.out.symm⟩
  generalize hLA : (P.flatMap fun p => items p.1) = LA at *
  have hlal : LA.length ≤ 9 := by
    have := HI.out.2.1.length_eq
    have := HI.out.2.2
    omega
  obtain ⟨FA, fc, hfv, -, -, -⟩ := hd3.fam.at_ famE_ok
  subst hfv
  obtain ⟨np, hnp⟩ : ∃ np, np = P.length := ⟨_, rfl⟩
  rw [← hnp] at hd3
  have hnp12 : np ≤ 12 := by rw [hnp]; exact HF.out.few
  have HLA := Lib.hid hLA
  have HNP := Lib.hid hnp
  obtain ⟨base, hbs⟩ : ∃ base, base = w2.heap.size := ⟨_, rfl⟩
  rw [← hbs] at hd3
  have HBS : Hid (w.heap.size < base) := by show _ < _; omega
  have HB3 := Lib.hid (HB2.out.trans (hb3.mono HB2.out.size))
  have HD3 : Hid (FairAt w3 w base g M w.heap.size A n c 2000 (.slice FA np fc) P items I (domL LA) 0) :=
    ⟨⟨_, _, _, _, _, hd3, DInv.start HI.out.1 (by rw [HLA.out]; exact HI.out.2.1), by omega, by simp, (fun b hb => by cases hb)⟩, HST2.out.below hb3, HBS.out, by have := hb3.size; omega, HB3.out⟩
  have HC : Hid (FairC P items I (domL LA)) := by
    refine ⟨HF.out.few, HF.out.each, fun p hp x hx => decide_eq_true (by rw [← HLA.out]; exact List.mem_flatMap.2 ⟨p, hp, hx⟩), fun x => ?_, HI.out.1, by rw [HLA.out]; exact HI.out.2.1, by have := HI.out.2.2; omega⟩
    unfold domL
    by_cases hx : x ∈ LA
    · rw [decide_eq_true hx, decide_eq_true (HI.out.2.1.subset hx)]
    · rw [decide_eq_false hx, decide_eq_false (fun h => hx (HI.out.2.1.symm.subset h))]
  clear hd3 hnp hb3 htops hLA hbs HNW hsl HST2 hI
  go_wp2_with fail
  have hs3 := HD3.out.str
  refine (rangeR_any w.heap.size A n c 2000 0 12 _ hs3 (by omega) (by omega) (by omega) (by omega)).mono ?_
  rintro e w4 ⟨r, rfl, hr0, hr1, hs4, hg4⟩
  obtain ⟨N, rfl⟩ := Int.eq_ofNat_of_zero_le hr0
  have hN : N ≤ 12 := by omega
  have HD4 : Hid (FairAt w4 w base g M w.heap.size A n c 3000 (.slice FA np fc) P items I (domL LA) 0) := HD3.out.step hg4 (hs4.more (by omega))
  have HB4 : Hid (Below w.heap.size w w4) := HB3.out.grown hg4 HB3.out.size (fun i e => Nat.le_of_eq (Option.some.inj e))
  clear hs3 hr0 hr1 hs4 hg4 HD3
  go_wp2_with fail
  go_loopg [7, 39] N (fun gk v7 v wr => ∃ (k : Nat) (at_ : Nat), Hid (k + gk = N) ∧ v = .int .i64 (k : Int) ∧ v7 = .int .i64 (at_ : Int) ∧ Hid (at_ ≤ 5 * k) ∧ Hid (FairAt wr w base g M w.heap.size A n c (3000 + 10 * k) (.slice FA np fc) P items I (domL LA) k) ∧ Hid (Below w.heap.size w wr))
  case atStart => exact ⟨0, 0, show 0 + N = N by omega, rfl, rfl, Nat.le_refl _, HD4.out, HB4.out⟩
  case round =>
    obtain ⟨k, at_, HK, rfl, rfl, HAT, HD, HB⟩ := hrel
    clear HD4 HB4
    have hkn : k ≤ N := by have := HK.out; omega
    have hat60 : at_ ≤ 60 := by have := HAT.out; omega
    by_cases hlt : k < N
    · have HGK := Lib.hid (show k + 1 + (gk - 1) = N ∧ 0 < gk by have := HK.out; omega)
      have hsr := HD.out.str
      have hsl := hsr.lt
      have hb5 : Below wr.heap.size wr (wr.alloc (.cells #[.int .i64 0, .int .i64 1, .int .i64 5] 3)) := (Below.refl _ _).alloc (Nat.le_refl _) _
      have HPK := Lib.hid (pick_any w.heap.size A n c (3000 + 10 * k) [0, 1, 5] wr.heap.size 3 3 (wr.alloc (.cells #[.int .i64 0, .int .i64 1, .int .i64 5] 3)) (hsr.below hb5) (by omega) rfl (by omega) (by omega) (by omega) (fun j hj => by
        rw [World.cell?_alloc_at _ _ _ _ rfl]
        match j, hj with
        | 0, _ => rfl
        | 1, _ => rfl
        | 2, _ => rfl))
      have HB5 := Lib.hid hb5
      clear hsr hsl hb5
      go_wp2_with fail
      refine HPK.out.mono ?_
      rintro e w6 ⟨d, rfl, hd, hs6, hg6⟩
      obtain ⟨d, rfl⟩ : ∃ d' : Nat, d = (d' : Int) := ⟨d.toNat, by simp at hd; omega⟩
      have hd5 : d ≤ 5 := by simp at hd; omega
      have HD6 : Hid (FairAt w6 w base g M w.heap.size A n c (3000 + 10 * k + 1) (.slice FA np fc) P items I (domL LA) k) := (HD.out.keep HB5.out).step hg6 hs6
      have HB6 : Hid (Below w.heap.size w w6) := (HB.out.trans (HB5.out.mono HB.out.size)).grown hg6 (by have := HB.out.size; have := HB5.out.size; omega) (fun i e => Nat.le_of_eq (Option.some.inj e))
      have ew : IntKind.i64.wrap ((at_ : Int) + (d : Int)) = ((at_ + d : Nat) : Int) := by rw [IntWalk.i64_in _ (by omega)]; omega
      have HAT2 : Hid (at_ + d ≤ 5 * (k + 1)) := by have := HAT.out; show _ ≤ _; omega
      have hs6' := HD6.out.str
      clear hd hs6 hg6 HD HB HB5 HPK
      go_upto_if 47 with (go_at_call 17; refine (flip_any w.heap.size A n c (3000 + 10 * k + 1) 2 _ hs6' (by omega) (by omega)).mono ?_; rintro e w7 ⟨fb, rfl, hs7, hg7⟩)
      have HD7 := Lib.hid (HD6.out.step hg7 hs7)
      have HB7 : Hid (Below w.heap.size w w7) := HB6.out.grown hg7 HB6.out.size (fun i e => Nat.le_of_eq (Option.some.inj e))
      clear hs7 hg7 HD6 HB6 hs6'
      go_cut [8, 9] (fun v8 v9 wx => Hid (FairAt wx w base g M w.heap.size A n c (3000 + 10 * k + 8) (.slice FA np fc) P items I (domL LA) (k + 1)) ∧ Hid (Below w.heap.size w wx))
      case first =>
        cases fb with
        | true =>
          have HNX : Hid (∀ wy, FairAt wy w base g M w.heap.size A n c (3000 + 10 * k + 1 + 1) (.slice FA np fc) P items I (domL LA) k → Calls Tryz.prog 18 #[.pointer (some ⟨w.heap.size, 0, none⟩), .int .i64 3] wy (NextFP wy w base g M w.heap.size A n c (3000 + 10 * k + 1 + 1 + 1) (.slice FA np fc) P items I (domL LA) k 0 2)) := fun wy h => nextF_any h (by omega) 3 (by omega) (by omega)
          have HRG : Hid (∀ wy, FairAt wy w base g M w.heap.size A n c (3000 + 10 * k + 1 + 1 + 1) (.slice FA np fc) P items I (domL LA) k → Calls Tryz.prog 15 #[.pointer (some ⟨w.heap.size, 0, none⟩), .int .i64 1, .int .i64 4] wy (NextFP wy w base g M w.heap.size A n c (3000 + 10 * k + 1 + 1 + 1 + 1) (.slice FA np fc) P items I (domL LA) k 1 4)) := fun wy h => rangeF_any h (by omega) 1 4 (by omega) (by omega)
          have HTK : Hid (∀ wy j (r : Nat), FairAt wy w base g M w.heap.size A n c (3000 + 10 * k + 1 + 1 + 1 + 1) (.slice FA np fc) P items I (domL LA) k → Calls Tryz.prog 9 #[.pointer (some ⟨g, 0, none⟩), .string (who3 j), .int .i64 ((at_ : Int) + (d : Int)), .int .i64 (r : Int)] wy (FairPost wy w base g M w.heap.size A n c (3000 + 10 * k + 1 + 1 + 1 + 1) (.slice FA np fc) P items I (domL LA) (k + 1))) := fun wy j r h => takeF_any h HC.out (by omega) (who3 j) ((at_ : Int) + (d : Int)) r (who3_size j)
          have hs7 : w.heap.size < w7.heap.size := by have := HD7.out.low; have := HD7.out.bas; omega
          go_wp2_with fail
          have HHELD : Hid (∀ wy K' k', FairAt wy w base g M w.heap.size A n c K' (.slice FA np fc) P items I (domL LA) k' → wy.cell? ⟨g, 0, none⟩ = some (.slice FA np fc)) := fun wy K' k' h => by
            obtain ⟨m, bv, st, bats, last, hd, -⟩ := h.ex
            exact hd.c.1
          have hh0 := HHELD.out _ _ _ HD7.out
          --A0
          refine wp_region_held_drew (S := fun wy => wy.cell? ⟨g, 0, none⟩ = some (.slice FA np fc)) (by kernel_rfl) (HHELD.out _ _ _ HD7.out.drew) (fun hHeld => ?_)
          refine wpAnyH_take (i := 0) (oi := ⟨some 48, _, _, _, _, _⟩) (v := .pointer (some ⟨g, 0, none⟩)) rfl (by kernel_rfl) (by kernel_rfl) (by kernel_rfl) (fun _ _ _ h => h) (Or.inl ⟨by rfl, ?_⟩) hHeld ?_
          · intro w hSw
            (try dsimp only at hSw)
            go_simp
          simp only [Act.put, List.setIfInBounds_toArray, List.set_cons_zero, List.set_cons_succ]
          refine wpAnyH_take (i := 2) (oi := ⟨some 50, _, _, _, _, _⟩) (v := .pointer (some ⟨w.heap.size, 0, none⟩)) rfl (by kernel_rfl) (by kernel_rfl) (by kernel_rfl) (fun _ _ _ h => h) (Or.inl ⟨by rfl, ?_⟩) hHeld ?_
          · intro w hSw
            (try dsimp only at hSw)
            go_simp
          simp only [Act.put, List.setIfInBounds_toArray, List.set_cons_zero, List.set_cons_succ]
          refine wpAnyH_take (i := 6) (oi := ⟨some 54, _, _, _, _, _⟩) (v := .int .i64 ((at_ : Int) + (d : Int))) rfl (by kernel_rfl) (by kernel_rfl) (by kernel_rfl) (fun _ _ _ h => h) (Or.inl ⟨by rfl, ?_⟩) hHeld ?_
          · intro w hSw
            (try dsimp only at hSw)
            go_simp
          simp only [Act.put, List.setIfInBounds_toArray, List.set_cons_zero, List.set_cons_succ]
          refine wpAnyH_take (i := 7) (oi := ⟨some 55, _, _, _, _, _⟩) (v := .pointer (some ⟨w.heap.size, 0, none⟩)) rfl (by kernel_rfl) (by kernel_rfl) (by kernel_rfl) (fun _ _ _ h => h) (Or.inl ⟨by rfl, ?_⟩) hHeld ?_
          · intro w hSw
            (try dsimp only at hSw)
            go_simp
          simp only [Act.put, List.setIfInBounds_toArray, List.set_cons_zero, List.set_cons_succ]
          refine wpAnyH_ready (rs := [1, 3]) (by kernel_rfl) (by simp) ?_
          refine AllReadyH.cons (o := ⟨some 49, _, _, _, _, _⟩) rfl (fun K hK => ?_) (AllReadyH.cons (o := ⟨some 51, _, _, _, _, _⟩) rfl (fun K hK => ?_) AllReadyH.nil)
          · rw [if_pos (by rfl)]
            go_wp2_with fail
            clear hHeld
            refine hK.out _ _ (by first | exact HHELD.out _ _ _ (HD7.out.alloc _).drew | exact HHELD.out _ _ _ (HD7.out.alloc _)) (fun hHeld => ?_)
            clear hK
            (try simp only [Act.put, List.setIfInBounds_toArray, List.set_cons_zero, List.set_cons_succ])
            refine wpAnyH_ready (rs := [3]) (by kernel_rfl) (by simp) ?_
            refine AllReadyH.cons (o := ⟨some 51, _, _, _, _, _⟩) rfl (fun K hK => ?_) AllReadyH.nil
            rw [if_pos (by rfl)]
            go_wp2_with fail
            refine Calls.mono (HNX.out _ (by first | exact (HD7.out.alloc _).drew | exact (HD7.out.alloc _))) ?_
            rintro e w8 ⟨j, rfl, -, hj, hd8, hg8⟩
            have HD8 := Lib.hid hd8
            have hs8 : w.heap.size < w8.heap.size := by have := hd8.low; have := hd8.bas; omega
            have hji : (j : Int) < 3 := by omega
            have hc8 : w8.cell? ⟨w7.heap.size, j, none⟩ = some (.string (who3 j)) := by first | exact kept3 (v := w7) (grown_undrewF hg8) hs7 hj | exact kept3 (v := w7) hg8 hs7 hj
            clear hd8 hHeld
            refine hK.out _ _ (by first | exact HHELD.out _ _ _ HD8.out) (fun hHeld => ?_)
            clear hK
            (try simp only [Act.put, List.setIfInBounds_toArray, List.set_cons_zero, List.set_cons_succ])
            refine wpAnyH_take (i := 4) (oi := ⟨some 52, _, _, _, _, _⟩) (v := .pointer (some ⟨w7.heap.size, j, none⟩)) rfl (by kernel_rfl) (by kernel_rfl) (by kernel_rfl) (fun _ _ _ h => h) (Or.inl ⟨by rfl, ?_⟩) hHeld ?_
            · intro w hSw
              (try dsimp only at hSw)
              go_simp
            simp only [Act.put, List.setIfInBounds_toArray, List.set_cons_zero, List.set_cons_succ]
            refine wpAnyH_ready (rs := [5, 8]) (by kernel_rfl) (by simp) ?_
            refine AllReadyH.cons (o := ⟨some 53, _, _, _, _, _⟩) rfl (fun K hK => ?_) (AllReadyH.cons (o := ⟨some 56, _, _, _, _, _⟩) rfl (fun K hK => ?_) AllReadyH.nil)
            · rw [if_pos (by rfl)]
              go_wp2_with fail
              clear hHeld
              refine hK.out _ _ (by first | exact HHELD.out _ _ _ HD8.out | exact HHELD.out _ _ _ HD8.out) (fun hHeld => ?_)
              clear hK
              (try simp only [Act.put, List.setIfInBounds_toArray, List.set_cons_zero, List.set_cons_succ])
              refine wpAnyH_ready (rs := [8]) (by kernel_rfl) (by simp) ?_
              refine AllReadyH.cons (o := ⟨some 56, _, _, _, _, _⟩) rfl (fun K hK => ?_) AllReadyH.nil
              rw [if_pos (by rfl)]
              go_wp2_with fail
              refine Calls.mono (HRG.out _ (HD8.out)) ?_
              rintro e w9 ⟨r, rfl, hr1, hr4, hd9, hg9⟩
              have HD9 := Lib.hid hd9
              have hc9 : w9.cell? ⟨w7.heap.size, j, none⟩ = some (.string (who3 j)) := kept3b hc8 hg9 hs7
              clear hd9 hHeld
              refine hK.out _ _ (by first | exact HHELD.out _ _ _ HD9.out) (fun hHeld => ?_)
              clear hK
              (try simp only [Act.put, List.setIfInBounds_toArray, List.set_cons_zero, List.set_cons_succ])
              refine wpAnyH_ready (rs := [9]) (by kernel_rfl) (by simp) ?_
              refine AllReadyH.cons (o := ⟨some 57, _, _, _, _, _⟩) rfl (fun K hK => ?_) AllReadyH.nil
              rw [if_pos (by rfl)]
              go_wp2_with fail
              refine Calls.mono (HTK.out _ _ _ (HD9.out)) ?_
              rintro e w10 ⟨v10, rfl, hd10, -⟩
              clear hHeld
              refine hK.out _ _ (by first | exact HHELD.out _ _ _ hd10) (fun hHeld => ?_)
              clear hK
              (try simp only [Act.put, List.setIfInBounds_toArray, List.set_cons_zero, List.set_cons_succ])
              refine wpAnyH_done (by kernel_rfl) ?_ _
              clear hHeld
              have HD10 := Lib.hid (hd10.more (show 3000 + 10 * k + 1 + 1 + 1 + 1 ≤ 3000 + 10 * k + 8 by omega) (Nat.le_refl _))
              clear hd10
              go_wp2_with fail
              go_meet
              exact ⟨HD10.out, HD10.out.bel⟩
            · rw [if_pos (by rfl)]
              go_wp2_with fail
              refine Calls.mono (HRG.out _ (HD8.out)) ?_
              rintro e w9 ⟨r, rfl, hr1, hr4, hd9, hg9⟩
              have HD9 := Lib.hid hd9
              have hc9 : w9.cell? ⟨w7.heap.size, j, none⟩ = some (.string (who3 j)) := kept3b hc8 hg9 hs7
              clear hd9 hHeld
              refine hK.out _ _ (by first | exact HHELD.out _ _ _ HD9.out) (fun hHeld => ?_)
              clear hK
              (try simp only [Act.put, List.setIfInBounds_toArray, List.set_cons_zero, List.set_cons_succ])
              refine wpAnyH_ready (rs := [5]) (by kernel_rfl) (by simp) ?_
              refine AllReadyH.cons (o := ⟨some 53, _, _, _, _, _⟩) rfl (fun K hK => ?_) AllReadyH.nil
              rw [if_pos (by rfl)]
              go_wp2_with fail
              clear hHeld
              refine hK.out _ _ (by first | exact HHELD.out _ _ _ HD9.out | exact HHELD.out _ _ _ HD9.out) (fun hHeld => ?_)
              clear hK
              (try simp only [Act.put, List.setIfInBounds_toArray, List.set_cons_zero, List.set_cons_succ])
              refine wpAnyH_ready (rs := [9]) (by kernel_rfl) (by simp) ?_
              refine AllReadyH.cons (o := ⟨some 57, _, _, _, _, _⟩) rfl (fun K hK => ?_) AllReadyH.nil
              rw [if_pos (by rfl)]
              go_wp2_with fail
              refine Calls.mono (HTK.out _ _ _ (HD9.out)) ?_
              rintro e w10 ⟨v10, rfl, hd10, -⟩
              clear hHeld
              refine hK.out _ _ (by first | exact HHELD.out _ _ _ hd10) (fun hHeld => ?_)
              clear hK
              (try simp only [Act.put, List.setIfInBounds_toArray, List.set_cons_zero, List.set_cons_succ])
              refine wpAnyH_done (by kernel_rfl) ?_ _
              clear hHeld
              have HD10 := Lib.hid (hd10.more (show 3000 + 10 * k + 1 + 1 + 1 + 1 ≤ 3000 + 10 * k + 8 by omega) (Nat.le_refl _))
              clear hd10
              go_wp2_with fail
              go_meet
              exact ⟨HD10.out, HD10.out.bel⟩
          · rw [if_pos (by rfl)]
            go_wp2_with fail
            refine Calls.mono (HNX.out _ (by first | exact HD7.out.drew | exact HD7.out)) ?_
            rintro e w8 ⟨j, rfl, -, hj, hd8, hg8⟩
            have HD8 := Lib.hid hd8
            have hs8 : w.heap.size < w8.heap.size := by have := hd8.low; have := hd8.bas; omega
            have hji : (j : Int) < 3 := by omega
            have hc8 := cell3 w8 j hj
            clear hd8 hHeld
            refine hK.out _ _ (by first | exact HHELD.out _ _ _ HD8.out) (fun hHeld => ?_)
            clear hK
            (try simp only [Act.put, List.setIfInBounds_toArray, List.set_cons_zero, List.set_cons_succ])
            refine wpAnyH_ready (rs := [1, 8]) (by kernel_rfl) (by simp) ?_
            refine AllReadyH.cons (o := ⟨some 49, _, _, _, _, _⟩) rfl (fun K hK => ?_) (AllReadyH.cons (o := ⟨some 56, _, _, _, _, _⟩) rfl (fun K hK => ?_) AllReadyH.nil)
            · rw [if_pos (by rfl)]
              go_wp2_with fail
              clear hHeld
              refine hK.out _ _ (by first | exact HHELD.out _ _ _ (HD8.out.alloc _) | exact HHELD.out _ _ _ (HD8.out.alloc _)) (fun hHeld => ?_)
              clear hK
              (try simp only [Act.put, List.setIfInBounds_toArray, List.set_cons_zero, List.set_cons_succ])
              refine wpAnyH_take (i := 4) (oi := ⟨some 52, _, _, _, _, _⟩) (v := .pointer (some ⟨w8.heap.size, j, none⟩)) rfl (by kernel_rfl) (by kernel_rfl) (by kernel_rfl) (fun _ _ _ h => h) (Or.inl ⟨by rfl, ?_⟩) hHeld ?_
              · intro w hSw
                (try dsimp only at hSw)
                go_simp
              simp only [Act.put, List.setIfInBounds_toArray, List.set_cons_zero, List.set_cons_succ]
              refine wpAnyH_ready (rs := [5, 8]) (by kernel_rfl) (by simp) ?_
              refine AllReadyH.cons (o := ⟨some 53, _, _, _, _, _⟩) rfl (fun K hK => ?_) (AllReadyH.cons (o := ⟨some 56, _, _, _, _, _⟩) rfl (fun K hK => ?_) AllReadyH.nil)
              · rw [if_pos (by rfl)]
                go_wp2_with fail
                clear hHeld
                refine hK.out _ _ (by first | exact HHELD.out _ _ _ (HD8.out.alloc _) | exact HHELD.out _ _ _ (HD8.out.alloc _)) (fun hHeld => ?_)
                clear hK
                (try simp only [Act.put, List.setIfInBounds_toArray, List.set_cons_zero, List.set_cons_succ])
                refine wpAnyH_ready (rs := [8]) (by kernel_rfl) (by simp) ?_
                refine AllReadyH.cons (o := ⟨some 56, _, _, _, _, _⟩) rfl (fun K hK => ?_) AllReadyH.nil
                rw [if_pos (by rfl)]
                go_wp2_with fail
                refine Calls.mono (HRG.out _ ((HD8.out.alloc _))) ?_
                rintro e w9 ⟨r, rfl, hr1, hr4, hd9, hg9⟩
                have HD9 := Lib.hid hd9
                have hc9 : w9.cell? ⟨w8.heap.size, j, none⟩ = some (.string (who3 j)) := kept3 hg9 hs8 hj
                clear hd9 hHeld
                refine hK.out _ _ (by first | exact HHELD.out _ _ _ HD9.out) (fun hHeld => ?_)
                clear hK
                (try simp only [Act.put, List.setIfInBounds_toArray, List.set_cons_zero, List.set_cons_succ])
                refine wpAnyH_ready (rs := [9]) (by kernel_rfl) (by simp) ?_
                refine AllReadyH.cons (o := ⟨some 57, _, _, _, _, _⟩) rfl (fun K hK => ?_) AllReadyH.nil
                rw [if_pos (by rfl)]
                go_wp2_with fail
                refine Calls.mono (HTK.out _ _ _ (HD9.out)) ?_
                rintro e w10 ⟨v10, rfl, hd10, -⟩
                clear hHeld
                refine hK.out _ _ (by first | exact HHELD.out _ _ _ hd10) (fun hHeld => ?_)
                clear hK
                (try simp only [Act.put, List.setIfInBounds_toArray, List.set_cons_zero, List.set_cons_succ])
                refine wpAnyH_done (by kernel_rfl) ?_ _
                clear hHeld
                have HD10 := Lib.hid (hd10.more (show 3000 + 10 * k + 1 + 1 + 1 + 1 ≤ 3000 + 10 * k + 8 by omega) (Nat.le_refl _))
                clear hd10
                go_wp2_with fail
                go_meet
                exact ⟨HD10.out, HD10.out.bel⟩
              · rw [if_pos (by rfl)]
                go_wp2_with fail
                refine Calls.mono (HRG.out _ ((HD8.out.alloc _))) ?_
                rintro e w9 ⟨r, rfl, hr1, hr4, hd9, hg9⟩
                have HD9 := Lib.hid hd9
                have hc9 : w9.cell? ⟨w8.heap.size, j, none⟩ = some (.string (who3 j)) := kept3 hg9 hs8 hj
                clear hd9 hHeld
                refine hK.out _ _ (by first | exact HHELD.out _ _ _ HD9.out) (fun hHeld => ?_)
                clear hK
                (try simp only [Act.put, List.setIfInBounds_toArray, List.set_cons_zero, List.set_cons_succ])
                refine wpAnyH_ready (rs := [5]) (by kernel_rfl) (by simp) ?_
                refine AllReadyH.cons (o := ⟨some 53, _, _, _, _, _⟩) rfl (fun K hK => ?_) AllReadyH.nil
                rw [if_pos (by rfl)]
                go_wp2_with fail
                clear hHeld
                refine hK.out _ _ (by first | exact HHELD.out _ _ _ HD9.out | exact HHELD.out _ _ _ HD9.out) (fun hHeld => ?_)
                clear hK
                (try simp only [Act.put, List.setIfInBounds_toArray, List.set_cons_zero, List.set_cons_succ])
                refine wpAnyH_ready (rs := [9]) (by kernel_rfl) (by simp) ?_
                refine AllReadyH.cons (o := ⟨some 57, _, _, _, _, _⟩) rfl (fun K hK => ?_) AllReadyH.nil
                rw [if_pos (by rfl)]
                go_wp2_with fail
                refine Calls.mono (HTK.out _ _ _ (HD9.out)) ?_
                rintro e w10 ⟨v10, rfl, hd10, -⟩
                clear hHeld
                refine hK.out _ _ (by first | exact HHELD.out _ _ _ hd10) (fun hHeld => ?_)
                clear hK
                (try simp only [Act.put, List.setIfInBounds_toArray, List.set_cons_zero, List.set_cons_succ])
                refine wpAnyH_done (by kernel_rfl) ?_ _
                clear hHeld
                have HD10 := Lib.hid (hd10.more (show 3000 + 10 * k + 1 + 1 + 1 + 1 ≤ 3000 + 10 * k + 8 by omega) (Nat.le_refl _))
                clear hd10
                go_wp2_with fail
                go_meet
                exact ⟨HD10.out, HD10.out.bel⟩
            · rw [if_pos (by rfl)]
              go_wp2_with fail
              refine Calls.mono (HRG.out _ (HD8.out)) ?_
              rintro e w9 ⟨r, rfl, hr1, hr4, hd9, hg9⟩
              have HD9 := Lib.hid hd9
              have hc9 := cell3 w9 j hj
              clear hd9 hHeld
              refine hK.out _ _ (by first | exact HHELD.out _ _ _ HD9.out) (fun hHeld => ?_)
              clear hK
              (try simp only [Act.put, List.setIfInBounds_toArray, List.set_cons_zero, List.set_cons_succ])
              refine wpAnyH_ready (rs := [1]) (by kernel_rfl) (by simp) ?_
              refine AllReadyH.cons (o := ⟨some 49, _, _, _, _, _⟩) rfl (fun K hK => ?_) AllReadyH.nil
              rw [if_pos (by rfl)]
              go_wp2_with fail
              clear hHeld
              refine hK.out _ _ (by first | exact HHELD.out _ _ _ (HD9.out.alloc _) | exact HHELD.out _ _ _ (HD9.out.alloc _)) (fun hHeld => ?_)
              clear hK
              (try simp only [Act.put, List.setIfInBounds_toArray, List.set_cons_zero, List.set_cons_succ])
              refine wpAnyH_take (i := 4) (oi := ⟨some 52, _, _, _, _, _⟩) (v := .pointer (some ⟨w9.heap.size, j, none⟩)) rfl (by kernel_rfl) (by kernel_rfl) (by kernel_rfl) (fun _ _ _ h => h) (Or.inl ⟨by rfl, ?_⟩) hHeld ?_
              · intro w hSw
                (try dsimp only at hSw)
                go_simp
              simp only [Act.put, List.setIfInBounds_toArray, List.set_cons_zero, List.set_cons_succ]
              refine wpAnyH_ready (rs := [5]) (by kernel_rfl) (by simp) ?_
              refine AllReadyH.cons (o := ⟨some 53, _, _, _, _, _⟩) rfl (fun K hK => ?_) AllReadyH.nil
              rw [if_pos (by rfl)]
              go_wp2_with fail
              clear hHeld
              refine hK.out _ _ (by first | exact HHELD.out _ _ _ (HD9.out.alloc _) | exact HHELD.out _ _ _ (HD9.out.alloc _)) (fun hHeld => ?_)
              clear hK
              (try simp only [Act.put, List.setIfInBounds_toArray, List.set_cons_zero, List.set_cons_succ])
              refine wpAnyH_ready (rs := [9]) (by kernel_rfl) (by simp) ?_
              refine AllReadyH.cons (o := ⟨some 57, _, _, _, _, _⟩) rfl (fun K hK => ?_) AllReadyH.nil
              rw [if_pos (by rfl)]
              go_wp2_with fail
              refine Calls.mono (HTK.out _ _ _ ((HD9.out.alloc _))) ?_
              rintro e w10 ⟨v10, rfl, hd10, -⟩
              clear hHeld
              refine hK.out _ _ (by first | exact HHELD.out _ _ _ hd10) (fun hHeld => ?_)
              clear hK
              (try simp only [Act.put, List.setIfInBounds_toArray, List.set_cons_zero, List.set_cons_succ])
              refine wpAnyH_done (by kernel_rfl) ?_ _
              clear hHeld
              have HD10 := Lib.hid (hd10.more (show 3000 + 10 * k + 1 + 1 + 1 + 1 ≤ 3000 + 10 * k + 8 by omega) (Nat.le_refl _))
              clear hd10
              go_wp2_with fail
              go_meet
              exact ⟨HD10.out, HD10.out.bel⟩
          --A1
        | false =>
          obtain ⟨m, bv, st, bats, last, hd, hinv, hm, hbl, hlen⟩ := HD7.out.ex
          have HBA := Lib.hid (batches_any base g bv bats w7 hd.c.2.2.1 hd.bats (by omega) (fun p hp => by have := hlen p hp; omega))
          have HIV := Lib.hid hinv
          have HLN := Lib.hid hlen
          have hbl12 : bats.length ≤ 12 := by omega
          clear hd hinv hm hbl hlen
          go_wp2_with fail
          refine HBA.out.mono ?_
          rintro e w8 ⟨v8, out, rfl, hbt, hcore, hb8⟩
          have hlen := congrArg List.length hcore
          rw [List.length_map, List.length_map] at hlen
          have HD8 := Lib.hid (HD7.out.keep hb8)
          have HB8 := Lib.hid (HB7.out.trans (hb8.mono HB7.out.size))
          obtain ⟨A8, c8, hv8, -, hat8, hoff8⟩ := hbt.own.at_ batE_ok
          subst hv8
          obtain ⟨nb, hnb⟩ : ∃ nb, nb = out.length := ⟨_, rfl⟩
          rw [← hnb] at hat8 ⊢
          have hnb12 : nb ≤ 12 := by omega
          have HNB := Lib.hid hnb
          have HAT8 := Lib.hid hat8
          have HBT := Lib.hid hbt.row
          have HCO := Lib.hid hcore
          have HOF := Lib.hid hoff8
          have hs7 : w.heap.size < w7.heap.size := by have := HD7.out.low; have := HD7.out.bas; omega
          clear hbt hcore hb8 hlen hnb hat8 HBA hoff8
          by_cases hnb0 : 0 < nb
          · have hni : (0 : Int) < (nb : Int) := by omega
            have HNX := Lib.hid (nextF_any HD8.out (by omega) nb hnb0 (by omega))
            go_wp2_with fail
            refine HNX.out.mono ?_
            rintro e w9 ⟨j, rfl, -, hj, hd9, hg9⟩
            have hjn : j < nb := by omega
            have hji : (j : Int) < (nb : Int) := by omega
            have hA9 : ElemsAt BatE w9 A8 nb c8 out := HAT8.out.grown hg9 (fun g' off e => fun e2 => by have := (HOF.out g' off e).2; have := Option.some.inj e2; omega)
            obtain ⟨gA, off, rfl, hgA, hcA⟩ := hA9.2.2.2 (by omega)
            have hkl : j < out.length := by rw [← HNB.out]; exact hjn
            obtain ⟨p, hp⟩ : ∃ p, out[j]? = some p := ⟨_, List.getElem?_eq_getElem hkl⟩
            have hmem : p ∈ out := List.mem_of_getElem? hp
            have c0 := hcA j p 0 (.int .i64 p.no) hp rfl
            have c1 := hcA j p 1 (.int .i64 p.out) hp rfl
            have c2 := hcA j p 2 (.int .i64 p.inn) hp rfl
            have c3 := hcA j p 3 (.string ⟨p.who.toArray⟩) hp rfl
            have c4 := hcA j p 4 (hv3 p.hd) hp rfl
            have e2 : BatE.size = 5 := rfl
            rw [e2] at c0 c1 c2 c3 c4
            rw [Nat.add_zero] at c0
            have hrow : OwnStrs w9 w7.heap.size (hv3 p.hd) p.ids := (HBT.out p hmem).kept_ hg9 (fun i e => by cases e; exact hs7)
            obtain ⟨q, hq, hqi, -⟩ := core_mem HCO.out hmem
            have HPL : Hid (p.ids.length ≤ 12 ∧ ∀ x ∈ p.ids, x.length ≤ 1000) := by
              rw [← hqi]
              exact ⟨HLN.out q hq, fun x hx => by have := HC.out.ids x (HIV.out.sub q hq x hx); omega⟩
            obtain ⟨pno, pout, pinn, pwho, ⟨R, rn, rc⟩, pids⟩ := p
            simp only [hv3] at c0 c1 c2 c3 c4 hrow HPL
            obtain ⟨R', rc', hv, -, hatr, -⟩ := hrow.at_ strE_ok
            simp only [Value.slice.injEq] at hv
            obtain ⟨rfl, hrn, rfl⟩ := hv
            rw [← hrn] at hatr
            have hrn12 : rn ≤ 12 := by have := HPL.out.1; omega
            have hb10 : Below w9.heap.size w9 (w9.alloc (.cells #[.int .i64 pno, .int .i64 pout, .int .i64 pinn, .string ⟨pwho.toArray⟩, .slice R rn rc] 36)) := (Below.refl _ _).alloc (Nat.le_refl _) _
            have HQ10 : Hid (BatB (w9.alloc (.cells #[.int .i64 pno, .int .i64 pout, .int .i64 pinn, .string ⟨pwho.toArray⟩, .slice R rn rc] 36)) w9.heap.size pno pout pinn ⟨pwho.toArray⟩ (.slice R rn rc)) := heap_alloc_new w9 _
            have HD10 := Lib.hid (hd9.keep hb10)
            have HAT10 := Lib.hid (ElemsAt.keep hatr hb10)
            have HRO10 := Lib.hid (hrow.below_ hb10)
            have hs9 : w.heap.size < w9.heap.size := by have := hd9.low; have := hd9.bas; omega
            clear hcA hkl hp hmem hb10 hrow hatr hrn hgA hA9 e2 hq hqi hd9 hg9 HNX HAT8
            go_upto_region 15 with (fail)
            obtain ⟨Q, hQ⟩ : ∃ Q, Q = w9.heap.size := ⟨_, rfl⟩
            rw [← hQ] at HQ10 hs9 ⊢
            clear hQ
            generalize w9.alloc (.cells #[.int .i64 pno, .int .i64 pout, .int .i64 pinn, .string ⟨pwho.toArray⟩, .slice R rn rc] 36) = w10 at *
            clear c0 c1 c2 c3 c4
            have HHELD : Hid (∀ wy, w10.grownBy wy (some w.heap.size) → wy.cell? ⟨Q, 0, none⟩ = some (.int .i64 pno) ∧ wy.cell? ⟨Q, 4, none⟩ = some (.slice R rn rc)) := fun wy hg => by
              have hB : BatB wy Q pno pout pinn ⟨pwho.toArray⟩ (.slice R rn rc) := (hg.block Q HQ10.out.lt (fun e => by have := Option.some.inj e; omega)).trans HQ10.out
              exact ⟨hB.c.1, hB.c.2.2.2.2⟩
            obtain ⟨d0, d4⟩ := HHELD.out w10 (World.grownBy.refl _ _)
            have HRG : Hid (∀ wy, FairAt wy w base g M w.heap.size A n c (3000 + 10 * k + 1 + 1 + 1) (.slice FA np fc) P items I (domL LA) k → Calls Tryz.prog 15 #[.pointer (some ⟨w.heap.size, 0, none⟩), .int .i64 0, .int .i64 (rn : Int)] wy (NextFP wy w base g M w.heap.size A n c (3000 + 10 * k + 1 + 1 + 1 + 1) (.slice FA np fc) P items I (domL LA) k 0 rn)) := fun wy h => rangeF_any h (by omega) 0 rn (by omega) (by omega)
            have HRT : Hid (∀ wy (A' : Option Addr) (q : Nat), q ≤ rn → StrsAt wy A' q rc (pids.take q) → FairAt wy w base g M w.heap.size A n c (3000 + 10 * k + 1 + 1 + 1 + 1) (.slice FA np fc) P items I (domL LA) k → Calls Tryz.prog 14 #[.pointer (some ⟨g, 0, none⟩), .int .i64 pno, .int .i64 ((at_ : Int) + (d : Int)), .slice A' q rc] wy (FairPost wy w base g M w.heap.size A n c (3000 + 10 * k + 1 + 1 + 1 + 1) (.slice FA np fc) P items I (domL LA) (k + 1))) := fun wy A' q hq hst h => returnF_any h HC.out (by omega) pno ((at_ : Int) + (d : Int)) A' q rc (pids.take q) hst (by omega) (fun x hx => HPL.out.2 x (List.mem_of_mem_take hx))
            have HKR : Hid (∀ wy, w10.grownBy wy (some w.heap.size) → StrsAt wy R rn rc pids) := fun wy hg => by
              have h1 : OwnStrs wy w7.heap.size (.slice R rn rc) pids := HRO10.out.kept_ hg (fun i e => by cases e; exact hs7)
              obtain ⟨R', rc', hv, -, hatr, -⟩ := h1.at_ strE_ok
              simp only [Value.slice.injEq] at hv
              obtain ⟨rfl, hrn, rfl⟩ := hv
              rw [← hrn] at hatr
              exact hatr
            have HHQ : Hid (∀ wy, w10.grownBy wy (some w.heap.size) → wy.cell? ⟨Q, 0, none⟩ = some (.int .i64 pno) ∧ wy.cell? ⟨Q, 4, none⟩ = some (.slice R rn rc)) := HHELD.out
            clear HHELD
            have HHELD : Hid (∀ wy K' k', FairAt wy w base g M w.heap.size A n c K' (.slice FA np fc) P items I (domL LA) k' → wy.cell? ⟨g, 0, none⟩ = some (.slice FA np fc)) := fun wy K' k' h => by
              obtain ⟨m, bv, st, bats, last, hd, -⟩ := h.ex
              exact hd.c.1
            have hh0 := HHELD.out _ _ _ HD10.out
            --B0
            refine wp_region_held_drew (S := fun wy => wy.cell? ⟨g, 0, none⟩ = some (.slice FA np fc)) (by kernel_rfl) (HHELD.out _ _ _ HD10.out.drew) (fun hHeld => ?_)
            refine wpAnyH_take (i := 0) (oi := ⟨some 70, _, _, _, _, _⟩) (v := .pointer (some ⟨g, 0, none⟩)) rfl (by kernel_rfl) (by kernel_rfl) (by kernel_rfl) (fun _ _ _ h => h) (Or.inl ⟨by rfl, ?_⟩) hHeld ?_
            · intro w hSw
              (try dsimp only at hSw)
              go_simp
            simp only [Act.put, List.setIfInBounds_toArray, List.set_cons_zero, List.set_cons_succ]
            refine wpAnyH_take (i := 1) (oi := ⟨some 71, _, _, _, _, _⟩) (v := .pointer (some ⟨Q, 0, none⟩)) rfl (by kernel_rfl) (by kernel_rfl) (by kernel_rfl) (fun _ _ _ h => h) (Or.inl ⟨by rfl, ?_⟩) hHeld ?_
            · intro w hSw
              (try dsimp only at hSw)
              go_simp
            simp only [Act.put, List.setIfInBounds_toArray, List.set_cons_zero, List.set_cons_succ]
            refine wpAnyH_take (i := 3) (oi := ⟨some 73, _, _, _, _, _⟩) (v := .int .i64 ((at_ : Int) + (d : Int))) rfl (by kernel_rfl) (by kernel_rfl) (by kernel_rfl) (fun _ _ _ h => h) (Or.inl ⟨by rfl, ?_⟩) hHeld ?_
            · intro w hSw
              (try dsimp only at hSw)
              go_simp
            simp only [Act.put, List.setIfInBounds_toArray, List.set_cons_zero, List.set_cons_succ]
            refine wpAnyH_take (i := 4) (oi := ⟨some 74, _, _, _, _, _⟩) (v := .pointer (some ⟨Q, 4, none⟩)) rfl (by kernel_rfl) (by kernel_rfl) (by kernel_rfl) (fun _ _ _ h => h) (Or.inl ⟨by rfl, ?_⟩) hHeld ?_
            · intro w hSw
              (try dsimp only at hSw)
              go_simp
            simp only [Act.put, List.setIfInBounds_toArray, List.set_cons_zero, List.set_cons_succ]
            refine wpAnyH_take (i := 6) (oi := ⟨some 76, _, _, _, _, _⟩) (v := .pointer (some ⟨w.heap.size, 0, none⟩)) rfl (by kernel_rfl) (by kernel_rfl) (by kernel_rfl) (fun _ _ _ h => h) (Or.inl ⟨by rfl, ?_⟩) hHeld ?_
            · intro w hSw
              (try dsimp only at hSw)
              go_simp
            simp only [Act.put, List.setIfInBounds_toArray, List.set_cons_zero, List.set_cons_succ]
            refine wpAnyH_take (i := 7) (oi := ⟨some 77, _, _, _, _, _⟩) (v := .pointer (some ⟨Q, 4, none⟩)) rfl (by kernel_rfl) (by kernel_rfl) (by kernel_rfl) (fun _ _ _ h => h) (Or.inl ⟨by rfl, ?_⟩) hHeld ?_
            · intro w hSw
              (try dsimp only at hSw)
              go_simp
            simp only [Act.put, List.setIfInBounds_toArray, List.set_cons_zero, List.set_cons_succ]
            refine wpAnyH_ready (rs := [2, 5, 8]) (by kernel_rfl) (by simp) ?_
            refine AllReadyH.cons (o := ⟨some 72, _, _, _, _, _⟩) rfl (fun K hK => ?_) (AllReadyH.cons (o := ⟨some 75, _, _, _, _, _⟩) rfl (fun K hK => ?_) (AllReadyH.cons (o := ⟨some 78, _, _, _, _, _⟩) rfl (fun K hK => ?_) AllReadyH.nil))
            · rw [if_pos (by rfl)]
              go_wp2_with fail
              clear hHeld
              refine hK.out _ _ (by first | exact HHELD.out _ _ _ HD10.out.drew | exact HHELD.out _ _ _ HD10.out) (fun hHeld => ?_)
              clear hK
              (try simp only [Act.put, List.setIfInBounds_toArray, List.set_cons_zero, List.set_cons_succ])
              refine wpAnyH_ready (rs := [5, 8]) (by kernel_rfl) (by simp) ?_
              refine AllReadyH.cons (o := ⟨some 75, _, _, _, _, _⟩) rfl (fun K hK => ?_) (AllReadyH.cons (o := ⟨some 78, _, _, _, _, _⟩) rfl (fun K hK => ?_) AllReadyH.nil)
              · rw [if_pos (by rfl)]
                go_wp2_with fail
                clear hHeld
                refine hK.out _ _ (by first | exact HHELD.out _ _ _ HD10.out.drew | exact HHELD.out _ _ _ HD10.out) (fun hHeld => ?_)
                clear hK
                (try simp only [Act.put, List.setIfInBounds_toArray, List.set_cons_zero, List.set_cons_succ])
                refine wpAnyH_ready (rs := [8]) (by kernel_rfl) (by simp) ?_
                refine AllReadyH.cons (o := ⟨some 78, _, _, _, _, _⟩) rfl (fun K hK => ?_) AllReadyH.nil
                rw [if_pos (by rfl)]
                go_wp2_with fail
                clear hHeld
                refine hK.out _ _ (by first | exact HHELD.out _ _ _ HD10.out.drew | exact HHELD.out _ _ _ HD10.out) (fun hHeld => ?_)
                clear hK
                (try simp only [Act.put, List.setIfInBounds_toArray, List.set_cons_zero, List.set_cons_succ])
                refine wpAnyH_take (i := 9) (oi := ⟨some 79, _, _, _, _, _⟩) (v := .int .i64 (rn : Int)) rfl (by kernel_rfl) (by kernel_rfl) (by kernel_rfl) (fun _ _ _ h => h) (Or.inl ⟨by rfl, ?_⟩) hHeld ?_
                · intro w hSw
                  (try dsimp only at hSw)
                  go_simp
                simp only [Act.put, List.setIfInBounds_toArray, List.set_cons_zero, List.set_cons_succ]
                refine wpAnyH_ready (rs := [10]) (by kernel_rfl) (by simp) ?_
                refine AllReadyH.cons (o := ⟨some 80, _, _, _, _, _⟩) rfl (fun K hK => ?_) AllReadyH.nil
                rw [if_pos (by rfl)]
                go_wp2_with fail
                refine Calls.mono (HRG.out _ (by first | exact HD10.out.drew | exact HD10.out)) ?_
                rintro e wx ⟨q, rfl, -, hq, hdx, hgx⟩
                have hx0 : w10.grownBy wx (some w.heap.size) := by first | exact hgx | exact grown_undrewF hgx
                have HDX := Lib.hid hdx
                obtain ⟨hq0, hq4⟩ := HHQ.out wx hx0
                obtain ⟨A', hsl, hpc⟩ := pieceD (HKR.out wx hx0) hq
                have HPC := Lib.hid (hpc wx (HKR.out wx hx0))
                clear hpc hdx hgx hHeld
                refine hK.out _ _ (by first | exact HHELD.out _ _ _ HDX.out) (fun hHeld => ?_)
                clear hK
                (try simp only [Act.put, List.setIfInBounds_toArray, List.set_cons_zero, List.set_cons_succ])
                refine wpAnyH_take (i := 11) (oi := ⟨some 81, _, _, _, _, _⟩) (v := .slice A' q rc) rfl (by kernel_rfl) (by kernel_rfl) (by kernel_rfl) (fun _ _ _ h => h) (Or.inl ⟨by rfl, ?_⟩) hHeld ?_
                · intro w hSw
                  (try dsimp only at hSw)
                  go_simp
                simp only [Act.put, List.setIfInBounds_toArray, List.set_cons_zero, List.set_cons_succ]
                refine wpAnyH_ready (rs := [12]) (by kernel_rfl) (by simp) ?_
                refine AllReadyH.cons (o := ⟨some 82, _, _, _, _, _⟩) rfl (fun K hK => ?_) AllReadyH.nil
                rw [if_pos (by rfl)]
                go_wp2_with fail
                refine Calls.mono (HRT.out _ _ _ hq HPC.out HDX.out) ?_
                rintro e wz ⟨vz, rfl, hdz, -⟩
                clear hHeld
                refine hK.out _ _ (by first | exact HHELD.out _ _ _ hdz) (fun hHeld => ?_)
                clear hK
                (try simp only [Act.put, List.setIfInBounds_toArray, List.set_cons_zero, List.set_cons_succ])
                refine wpAnyH_done (by kernel_rfl) ?_ _
                clear hHeld
                have HDZ := Lib.hid (hdz.more (show 3000 + 10 * k + 1 + 1 + 1 + 1 ≤ 3000 + 10 * k + 8 by omega) (Nat.le_refl _))
                clear hdz
                go_wp2_with fail
                go_meet
                exact ⟨HDZ.out, HDZ.out.bel⟩
              · rw [if_pos (by rfl)]
                go_wp2_with fail
                clear hHeld
                refine hK.out _ _ (by first | exact HHELD.out _ _ _ HD10.out.drew | exact HHELD.out _ _ _ HD10.out) (fun hHeld => ?_)
                clear hK
                (try simp only [Act.put, List.setIfInBounds_toArray, List.set_cons_zero, List.set_cons_succ])
                refine wpAnyH_take (i := 9) (oi := ⟨some 79, _, _, _, _, _⟩) (v := .int .i64 (rn : Int)) rfl (by kernel_rfl) (by kernel_rfl) (by kernel_rfl) (fun _ _ _ h => h) (Or.inl ⟨by rfl, ?_⟩) hHeld ?_
                · intro w hSw
                  (try dsimp only at hSw)
                  go_simp
                simp only [Act.put, List.setIfInBounds_toArray, List.set_cons_zero, List.set_cons_succ]
                refine wpAnyH_ready (rs := [5, 10]) (by kernel_rfl) (by simp) ?_
                refine AllReadyH.cons (o := ⟨some 75, _, _, _, _, _⟩) rfl (fun K hK => ?_) (AllReadyH.cons (o := ⟨some 80, _, _, _, _, _⟩) rfl (fun K hK => ?_) AllReadyH.nil)
                · rw [if_pos (by rfl)]
                  go_wp2_with fail
                  clear hHeld
                  refine hK.out _ _ (by first | exact HHELD.out _ _ _ HD10.out.drew | exact HHELD.out _ _ _ HD10.out) (fun hHeld => ?_)
                  clear hK
                  (try simp only [Act.put, List.setIfInBounds_toArray, List.set_cons_zero, List.set_cons_succ])
                  refine wpAnyH_ready (rs := [10]) (by kernel_rfl) (by simp) ?_
                  refine AllReadyH.cons (o := ⟨some 80, _, _, _, _, _⟩) rfl (fun K hK => ?_) AllReadyH.nil
                  rw [if_pos (by rfl)]
                  go_wp2_with fail
                  refine Calls.mono (HRG.out _ (by first | exact HD10.out.drew | exact HD10.out)) ?_
                  rintro e wx ⟨q, rfl, -, hq, hdx, hgx⟩
                  have hx0 : w10.grownBy wx (some w.heap.size) := by first | exact hgx | exact grown_undrewF hgx
                  have HDX := Lib.hid hdx
                  obtain ⟨hq0, hq4⟩ := HHQ.out wx hx0
                  obtain ⟨A', hsl, hpc⟩ := pieceD (HKR.out wx hx0) hq
                  have HPC := Lib.hid (hpc wx (HKR.out wx hx0))
                  clear hpc hdx hgx hHeld
                  refine hK.out _ _ (by first | exact HHELD.out _ _ _ HDX.out) (fun hHeld => ?_)
                  clear hK
                  (try simp only [Act.put, List.setIfInBounds_toArray, List.set_cons_zero, List.set_cons_succ])
                  refine wpAnyH_take (i := 11) (oi := ⟨some 81, _, _, _, _, _⟩) (v := .slice A' q rc) rfl (by kernel_rfl) (by kernel_rfl) (by kernel_rfl) (fun _ _ _ h => h) (Or.inl ⟨by rfl, ?_⟩) hHeld ?_
                  · intro w hSw
                    (try dsimp only at hSw)
                    go_simp
                  simp only [Act.put, List.setIfInBounds_toArray, List.set_cons_zero, List.set_cons_succ]
                  refine wpAnyH_ready (rs := [12]) (by kernel_rfl) (by simp) ?_
                  refine AllReadyH.cons (o := ⟨some 82, _, _, _, _, _⟩) rfl (fun K hK => ?_) AllReadyH.nil
                  rw [if_pos (by rfl)]
                  go_wp2_with fail
                  refine Calls.mono (HRT.out _ _ _ hq HPC.out HDX.out) ?_
                  rintro e wz ⟨vz, rfl, hdz, -⟩
                  clear hHeld
                  refine hK.out _ _ (by first | exact HHELD.out _ _ _ hdz) (fun hHeld => ?_)
                  clear hK
                  (try simp only [Act.put, List.setIfInBounds_toArray, List.set_cons_zero, List.set_cons_succ])
                  refine wpAnyH_done (by kernel_rfl) ?_ _
                  clear hHeld
                  have HDZ := Lib.hid (hdz.more (show 3000 + 10 * k + 1 + 1 + 1 + 1 ≤ 3000 + 10 * k + 8 by omega) (Nat.le_refl _))
                  clear hdz
                  go_wp2_with fail
                  go_meet
                  exact ⟨HDZ.out, HDZ.out.bel⟩
                · rw [if_pos (by rfl)]
                  go_wp2_with fail
                  refine Calls.mono (HRG.out _ (by first | exact HD10.out.drew | exact HD10.out)) ?_
                  rintro e wx ⟨q, rfl, -, hq, hdx, hgx⟩
                  have hx0 : w10.grownBy wx (some w.heap.size) := by first | exact hgx | exact grown_undrewF hgx
                  have HDX := Lib.hid hdx
                  obtain ⟨hq0, hq4⟩ := HHQ.out wx hx0
                  obtain ⟨A', hsl, hpc⟩ := pieceD (HKR.out wx hx0) hq
                  have HPC := Lib.hid (hpc wx (HKR.out wx hx0))
                  clear hpc hdx hgx hHeld
                  refine hK.out _ _ (by first | exact HHELD.out _ _ _ HDX.out) (fun hHeld => ?_)
                  clear hK
                  (try simp only [Act.put, List.setIfInBounds_toArray, List.set_cons_zero, List.set_cons_succ])
                  refine wpAnyH_ready (rs := [5]) (by kernel_rfl) (by simp) ?_
                  refine AllReadyH.cons (o := ⟨some 75, _, _, _, _, _⟩) rfl (fun K hK => ?_) AllReadyH.nil
                  rw [if_pos (by rfl)]
                  go_wp2_with fail
                  clear hHeld
                  refine hK.out _ _ (by first | exact HHELD.out _ _ _ HDX.out) (fun hHeld => ?_)
                  clear hK
                  (try simp only [Act.put, List.setIfInBounds_toArray, List.set_cons_zero, List.set_cons_succ])
                  refine wpAnyH_take (i := 11) (oi := ⟨some 81, _, _, _, _, _⟩) (v := .slice A' q rc) rfl (by kernel_rfl) (by kernel_rfl) (by kernel_rfl) (fun _ _ _ h => h) (Or.inl ⟨by rfl, ?_⟩) hHeld ?_
                  · intro w hSw
                    (try dsimp only at hSw)
                    go_simp
                  simp only [Act.put, List.setIfInBounds_toArray, List.set_cons_zero, List.set_cons_succ]
                  refine wpAnyH_ready (rs := [12]) (by kernel_rfl) (by simp) ?_
                  refine AllReadyH.cons (o := ⟨some 82, _, _, _, _, _⟩) rfl (fun K hK => ?_) AllReadyH.nil
                  rw [if_pos (by rfl)]
                  go_wp2_with fail
                  refine Calls.mono (HRT.out _ _ _ hq HPC.out HDX.out) ?_
                  rintro e wz ⟨vz, rfl, hdz, -⟩
                  clear hHeld
                  refine hK.out _ _ (by first | exact HHELD.out _ _ _ hdz) (fun hHeld => ?_)
                  clear hK
                  (try simp only [Act.put, List.setIfInBounds_toArray, List.set_cons_zero, List.set_cons_succ])
                  refine wpAnyH_done (by kernel_rfl) ?_ _
                  clear hHeld
                  have HDZ := Lib.hid (hdz.more (show 3000 + 10 * k + 1 + 1 + 1 + 1 ≤ 3000 + 10 * k + 8 by omega) (Nat.le_refl _))
                  clear hdz
                  go_wp2_with fail
                  go_meet
                  exact ⟨HDZ.out, HDZ.out.bel⟩
            · rw [if_pos (by rfl)]
              go_wp2_with fail
              clear hHeld
              refine hK.out _ _ (by first | exact HHELD.out _ _ _ HD10.out.drew | exact HHELD.out _ _ _ HD10.out) (fun hHeld => ?_)
              clear hK
              (try simp only [Act.put, List.setIfInBounds_toArray, List.set_cons_zero, List.set_cons_succ])
              refine wpAnyH_ready (rs := [2, 8]) (by kernel_rfl) (by simp) ?_
              refine AllReadyH.cons (o := ⟨some 72, _, _, _, _, _⟩) rfl (fun K hK => ?_) (AllReadyH.cons (o := ⟨some 78, _, _, _, _, _⟩) rfl (fun K hK => ?_) AllReadyH.nil)
              · rw [if_pos (by rfl)]
                go_wp2_with fail
                clear hHeld
                refine hK.out _ _ (by first | exact HHELD.out _ _ _ HD10.out.drew | exact HHELD.out _ _ _ HD10.out) (fun hHeld => ?_)
                clear hK
                (try simp only [Act.put, List.setIfInBounds_toArray, List.set_cons_zero, List.set_cons_succ])
                refine wpAnyH_ready (rs := [8]) (by kernel_rfl) (by simp) ?_
                refine AllReadyH.cons (o := ⟨some 78, _, _, _, _, _⟩) rfl (fun K hK => ?_) AllReadyH.nil
                rw [if_pos (by rfl)]
                go_wp2_with fail
                clear hHeld
                refine hK.out _ _ (by first | exact HHELD.out _ _ _ HD10.out.drew | exact HHELD.out _ _ _ HD10.out) (fun hHeld => ?_)
                clear hK
                (try simp only [Act.put, List.setIfInBounds_toArray, List.set_cons_zero, List.set_cons_succ])
                refine wpAnyH_take (i := 9) (oi := ⟨some 79, _, _, _, _, _⟩) (v := .int .i64 (rn : Int)) rfl (by kernel_rfl) (by kernel_rfl) (by kernel_rfl) (fun _ _ _ h => h) (Or.inl ⟨by rfl, ?_⟩) hHeld ?_
                · intro w hSw
                  (try dsimp only at hSw)
                  go_simp
                simp only [Act.put, List.setIfInBounds_toArray, List.set_cons_zero, List.set_cons_succ]
                refine wpAnyH_ready (rs := [10]) (by kernel_rfl) (by simp) ?_
                refine AllReadyH.cons (o := ⟨some 80, _, _, _, _, _⟩) rfl (fun K hK => ?_) AllReadyH.nil
                rw [if_pos (by rfl)]
                go_wp2_with fail
                refine Calls.mono (HRG.out _ (by first | exact HD10.out.drew | exact HD10.out)) ?_
                rintro e wx ⟨q, rfl, -, hq, hdx, hgx⟩
                have hx0 : w10.grownBy wx (some w.heap.size) := by first | exact hgx | exact grown_undrewF hgx
                have HDX := Lib.hid hdx
                obtain ⟨hq0, hq4⟩ := HHQ.out wx hx0
                obtain ⟨A', hsl, hpc⟩ := pieceD (HKR.out wx hx0) hq
                have HPC := Lib.hid (hpc wx (HKR.out wx hx0))
                clear hpc hdx hgx hHeld
                refine hK.out _ _ (by first | exact HHELD.out _ _ _ HDX.out) (fun hHeld => ?_)
                clear hK
                (try simp only [Act.put, List.setIfInBounds_toArray, List.set_cons_zero, List.set_cons_succ])
                refine wpAnyH_take (i := 11) (oi := ⟨some 81, _, _, _, _, _⟩) (v := .slice A' q rc) rfl (by kernel_rfl) (by kernel_rfl) (by kernel_rfl) (fun _ _ _ h => h) (Or.inl ⟨by rfl, ?_⟩) hHeld ?_
                · intro w hSw
                  (try dsimp only at hSw)
                  go_simp
                simp only [Act.put, List.setIfInBounds_toArray, List.set_cons_zero, List.set_cons_succ]
                refine wpAnyH_ready (rs := [12]) (by kernel_rfl) (by simp) ?_
                refine AllReadyH.cons (o := ⟨some 82, _, _, _, _, _⟩) rfl (fun K hK => ?_) AllReadyH.nil
                rw [if_pos (by rfl)]
                go_wp2_with fail
                refine Calls.mono (HRT.out _ _ _ hq HPC.out HDX.out) ?_
                rintro e wz ⟨vz, rfl, hdz, -⟩
                clear hHeld
                refine hK.out _ _ (by first | exact HHELD.out _ _ _ hdz) (fun hHeld => ?_)
                clear hK
                (try simp only [Act.put, List.setIfInBounds_toArray, List.set_cons_zero, List.set_cons_succ])
                refine wpAnyH_done (by kernel_rfl) ?_ _
                clear hHeld
                have HDZ := Lib.hid (hdz.more (show 3000 + 10 * k + 1 + 1 + 1 + 1 ≤ 3000 + 10 * k + 8 by omega) (Nat.le_refl _))
                clear hdz
                go_wp2_with fail
                go_meet
                exact ⟨HDZ.out, HDZ.out.bel⟩
              · rw [if_pos (by rfl)]
                go_wp2_with fail
                clear hHeld
                refine hK.out _ _ (by first | exact HHELD.out _ _ _ HD10.out.drew | exact HHELD.out _ _ _ HD10.out) (fun hHeld => ?_)
                clear hK
                (try simp only [Act.put, List.setIfInBounds_toArray, List.set_cons_zero, List.set_cons_succ])
                refine wpAnyH_take (i := 9) (oi := ⟨some 79, _, _, _, _, _⟩) (v := .int .i64 (rn : Int)) rfl (by kernel_rfl) (by kernel_rfl) (by kernel_rfl) (fun _ _ _ h => h) (Or.inl ⟨by rfl, ?_⟩) hHeld ?_
                · intro w hSw
                  (try dsimp only at hSw)
                  go_simp
                simp only [Act.put, List.setIfInBounds_toArray, List.set_cons_zero, List.set_cons_succ]
                refine wpAnyH_ready (rs := [2, 10]) (by kernel_rfl) (by simp) ?_
                refine AllReadyH.cons (o := ⟨some 72, _, _, _, _, _⟩) rfl (fun K hK => ?_) (AllReadyH.cons (o := ⟨some 80, _, _, _, _, _⟩) rfl (fun K hK => ?_) AllReadyH.nil)
                · rw [if_pos (by rfl)]
                  go_wp2_with fail
                  clear hHeld
                  refine hK.out _ _ (by first | exact HHELD.out _ _ _ HD10.out.drew | exact HHELD.out _ _ _ HD10.out) (fun hHeld => ?_)
                  clear hK
                  (try simp only [Act.put, List.setIfInBounds_toArray, List.set_cons_zero, List.set_cons_succ])
                  refine wpAnyH_ready (rs := [10]) (by kernel_rfl) (by simp) ?_
                  refine AllReadyH.cons (o := ⟨some 80, _, _, _, _, _⟩) rfl (fun K hK => ?_) AllReadyH.nil
                  rw [if_pos (by rfl)]
                  go_wp2_with fail
                  refine Calls.mono (HRG.out _ (by first | exact HD10.out.drew | exact HD10.out)) ?_
                  rintro e wx ⟨q, rfl, -, hq, hdx, hgx⟩
                  have hx0 : w10.grownBy wx (some w.heap.size) := by first | exact hgx | exact grown_undrewF hgx
                  have HDX := Lib.hid hdx
                  obtain ⟨hq0, hq4⟩ := HHQ.out wx hx0
                  obtain ⟨A', hsl, hpc⟩ := pieceD (HKR.out wx hx0) hq
                  have HPC := Lib.hid (hpc wx (HKR.out wx hx0))
                  clear hpc hdx hgx hHeld
                  refine hK.out _ _ (by first | exact HHELD.out _ _ _ HDX.out) (fun hHeld => ?_)
                  clear hK
                  (try simp only [Act.put, List.setIfInBounds_toArray, List.set_cons_zero, List.set_cons_succ])
                  refine wpAnyH_take (i := 11) (oi := ⟨some 81, _, _, _, _, _⟩) (v := .slice A' q rc) rfl (by kernel_rfl) (by kernel_rfl) (by kernel_rfl) (fun _ _ _ h => h) (Or.inl ⟨by rfl, ?_⟩) hHeld ?_
                  · intro w hSw
                    (try dsimp only at hSw)
                    go_simp
                  simp only [Act.put, List.setIfInBounds_toArray, List.set_cons_zero, List.set_cons_succ]
                  refine wpAnyH_ready (rs := [12]) (by kernel_rfl) (by simp) ?_
                  refine AllReadyH.cons (o := ⟨some 82, _, _, _, _, _⟩) rfl (fun K hK => ?_) AllReadyH.nil
                  rw [if_pos (by rfl)]
                  go_wp2_with fail
                  refine Calls.mono (HRT.out _ _ _ hq HPC.out HDX.out) ?_
                  rintro e wz ⟨vz, rfl, hdz, -⟩
                  clear hHeld
                  refine hK.out _ _ (by first | exact HHELD.out _ _ _ hdz) (fun hHeld => ?_)
                  clear hK
                  (try simp only [Act.put, List.setIfInBounds_toArray, List.set_cons_zero, List.set_cons_succ])
                  refine wpAnyH_done (by kernel_rfl) ?_ _
                  clear hHeld
                  have HDZ := Lib.hid (hdz.more (show 3000 + 10 * k + 1 + 1 + 1 + 1 ≤ 3000 + 10 * k + 8 by omega) (Nat.le_refl _))
                  clear hdz
                  go_wp2_with fail
                  go_meet
                  exact ⟨HDZ.out, HDZ.out.bel⟩
                · rw [if_pos (by rfl)]
                  go_wp2_with fail
                  refine Calls.mono (HRG.out _ (by first | exact HD10.out.drew | exact HD10.out)) ?_
                  rintro e wx ⟨q, rfl, -, hq, hdx, hgx⟩
                  have hx0 : w10.grownBy wx (some w.heap.size) := by first | exact hgx | exact grown_undrewF hgx
                  have HDX := Lib.hid hdx
                  obtain ⟨hq0, hq4⟩ := HHQ.out wx hx0
                  obtain ⟨A', hsl, hpc⟩ := pieceD (HKR.out wx hx0) hq
                  have HPC := Lib.hid (hpc wx (HKR.out wx hx0))
                  clear hpc hdx hgx hHeld
                  refine hK.out _ _ (by first | exact HHELD.out _ _ _ HDX.out) (fun hHeld => ?_)
                  clear hK
                  (try simp only [Act.put, List.setIfInBounds_toArray, List.set_cons_zero, List.set_cons_succ])
                  refine wpAnyH_take (i := 11) (oi := ⟨some 81, _, _, _, _, _⟩) (v := .slice A' q rc) rfl (by kernel_rfl) (by kernel_rfl) (by kernel_rfl) (fun _ _ _ h => h) (Or.inl ⟨by rfl, ?_⟩) hHeld ?_
                  · intro w hSw
                    (try dsimp only at hSw)
                    go_simp
                  simp only [Act.put, List.setIfInBounds_toArray, List.set_cons_zero, List.set_cons_succ]
                  refine wpAnyH_ready (rs := [2]) (by kernel_rfl) (by simp) ?_
                  refine AllReadyH.cons (o := ⟨some 72, _, _, _, _, _⟩) rfl (fun K hK => ?_) AllReadyH.nil
                  rw [if_pos (by rfl)]
                  go_wp2_with fail
                  clear hHeld
                  refine hK.out _ _ (by first | exact HHELD.out _ _ _ HDX.out) (fun hHeld => ?_)
                  clear hK
                  (try simp only [Act.put, List.setIfInBounds_toArray, List.set_cons_zero, List.set_cons_succ])
                  refine wpAnyH_ready (rs := [12]) (by kernel_rfl) (by simp) ?_
                  refine AllReadyH.cons (o := ⟨some 82, _, _, _, _, _⟩) rfl (fun K hK => ?_) AllReadyH.nil
                  rw [if_pos (by rfl)]
                  go_wp2_with fail
                  refine Calls.mono (HRT.out _ _ _ hq HPC.out HDX.out) ?_
                  rintro e wz ⟨vz, rfl, hdz, -⟩
                  clear hHeld
                  refine hK.out _ _ (by first | exact HHELD.out _ _ _ hdz) (fun hHeld => ?_)
                  clear hK
                  (try simp only [Act.put, List.setIfInBounds_toArray, List.set_cons_zero, List.set_cons_succ])
                  refine wpAnyH_done (by kernel_rfl) ?_ _
                  clear hHeld
                  have HDZ := Lib.hid (hdz.more (show 3000 + 10 * k + 1 + 1 + 1 + 1 ≤ 3000 + 10 * k + 8 by omega) (Nat.le_refl _))
                  clear hdz
                  go_wp2_with fail
                  go_meet
                  exact ⟨HDZ.out, HDZ.out.bel⟩
            · rw [if_pos (by rfl)]
              go_wp2_with fail
              clear hHeld
              refine hK.out _ _ (by first | exact HHELD.out _ _ _ HD10.out.drew | exact HHELD.out _ _ _ HD10.out) (fun hHeld => ?_)
              clear hK
              (try simp only [Act.put, List.setIfInBounds_toArray, List.set_cons_zero, List.set_cons_succ])
              refine wpAnyH_take (i := 9) (oi := ⟨some 79, _, _, _, _, _⟩) (v := .int .i64 (rn : Int)) rfl (by kernel_rfl) (by kernel_rfl) (by kernel_rfl) (fun _ _ _ h => h) (Or.inl ⟨by rfl, ?_⟩) hHeld ?_
              · intro w hSw
                (try dsimp only at hSw)
                go_simp
              simp only [Act.put, List.setIfInBounds_toArray, List.set_cons_zero, List.set_cons_succ]
              refine wpAnyH_ready (rs := [2, 5, 10]) (by kernel_rfl) (by simp) ?_
              refine AllReadyH.cons (o := ⟨some 72, _, _, _, _, _⟩) rfl (fun K hK => ?_) (AllReadyH.cons (o := ⟨some 75, _, _, _, _, _⟩) rfl (fun K hK => ?_) (AllReadyH.cons (o := ⟨some 80, _, _, _, _, _⟩) rfl (fun K hK => ?_) AllReadyH.nil))
              · rw [if_pos (by rfl)]
                go_wp2_with fail
                clear hHeld
                refine hK.out _ _ (by first | exact HHELD.out _ _ _ HD10.out.drew | exact HHELD.out _ _ _ HD10.out) (fun hHeld => ?_)
                clear hK
                (try simp only [Act.put, List.setIfInBounds_toArray, List.set_cons_zero, List.set_cons_succ])
                refine wpAnyH_ready (rs := [5, 10]) (by kernel_rfl) (by simp) ?_
                refine AllReadyH.cons (o := ⟨some 75, _, _, _, _, _⟩) rfl (fun K hK => ?_) (AllReadyH.cons (o := ⟨some 80, _, _, _, _, _⟩) rfl (fun K hK => ?_) AllReadyH.nil)
                · rw [if_pos (by rfl)]
                  go_wp2_with fail
                  clear hHeld
                  refine hK.out _ _ (by first | exact HHELD.out _ _ _ HD10.out.drew | exact HHELD.out _ _ _ HD10.out) (fun hHeld => ?_)
                  clear hK
                  (try simp only [Act.put, List.setIfInBounds_toArray, List.set_cons_zero, List.set_cons_succ])
                  refine wpAnyH_ready (rs := [10]) (by kernel_rfl) (by simp) ?_
                  refine AllReadyH.cons (o := ⟨some 80, _, _, _, _, _⟩) rfl (fun K hK => ?_) AllReadyH.nil
                  rw [if_pos (by rfl)]
                  go_wp2_with fail
                  refine Calls.mono (HRG.out _ (by first | exact HD10.out.drew | exact HD10.out)) ?_
                  rintro e wx ⟨q, rfl, -, hq, hdx, hgx⟩
                  have hx0 : w10.grownBy wx (some w.heap.size) := by first | exact hgx | exact grown_undrewF hgx
                  have HDX := Lib.hid hdx
                  obtain ⟨hq0, hq4⟩ := HHQ.out wx hx0
                  obtain ⟨A', hsl, hpc⟩ := pieceD (HKR.out wx hx0) hq
                  have HPC := Lib.hid (hpc wx (HKR.out wx hx0))
                  clear hpc hdx hgx hHeld
                  refine hK.out _ _ (by first | exact HHELD.out _ _ _ HDX.out) (fun hHeld => ?_)
                  clear hK
                  (try simp only [Act.put, List.setIfInBounds_toArray, List.set_cons_zero, List.set_cons_succ])
                  refine wpAnyH_take (i := 11) (oi := ⟨some 81, _, _, _, _, _⟩) (v := .slice A' q rc) rfl (by kernel_rfl) (by kernel_rfl) (by kernel_rfl) (fun _ _ _ h => h) (Or.inl ⟨by rfl, ?_⟩) hHeld ?_
                  · intro w hSw
                    (try dsimp only at hSw)
                    go_simp
                  simp only [Act.put, List.setIfInBounds_toArray, List.set_cons_zero, List.set_cons_succ]
                  refine wpAnyH_ready (rs := [12]) (by kernel_rfl) (by simp) ?_
                  refine AllReadyH.cons (o := ⟨some 82, _, _, _, _, _⟩) rfl (fun K hK => ?_) AllReadyH.nil
                  rw [if_pos (by rfl)]
                  go_wp2_with fail
                  refine Calls.mono (HRT.out _ _ _ hq HPC.out HDX.out) ?_
                  rintro e wz ⟨vz, rfl, hdz, -⟩
                  clear hHeld
                  refine hK.out _ _ (by first | exact HHELD.out _ _ _ hdz) (fun hHeld => ?_)
                  clear hK
                  (try simp only [Act.put, List.setIfInBounds_toArray, List.set_cons_zero, List.set_cons_succ])
                  refine wpAnyH_done (by kernel_rfl) ?_ _
                  clear hHeld
                  have HDZ := Lib.hid (hdz.more (show 3000 + 10 * k + 1 + 1 + 1 + 1 ≤ 3000 + 10 * k + 8 by omega) (Nat.le_refl _))
                  clear hdz
                  go_wp2_with fail
                  go_meet
                  exact ⟨HDZ.out, HDZ.out.bel⟩
                · rw [if_pos (by rfl)]
                  go_wp2_with fail
                  refine Calls.mono (HRG.out _ (by first | exact HD10.out.drew | exact HD10.out)) ?_
                  rintro e wx ⟨q, rfl, -, hq, hdx, hgx⟩
                  have hx0 : w10.grownBy wx (some w.heap.size) := by first | exact hgx | exact grown_undrewF hgx
                  have HDX := Lib.hid hdx
                  obtain ⟨hq0, hq4⟩ := HHQ.out wx hx0
                  obtain ⟨A', hsl, hpc⟩ := pieceD (HKR.out wx hx0) hq
                  have HPC := Lib.hid (hpc wx (HKR.out wx hx0))
                  clear hpc hdx hgx hHeld
                  refine hK.out _ _ (by first | exact HHELD.out _ _ _ HDX.out) (fun hHeld => ?_)
                  clear hK
                  (try simp only [Act.put, List.setIfInBounds_toArray, List.set_cons_zero, List.set_cons_succ])
                  refine wpAnyH_ready (rs := [5]) (by kernel_rfl) (by simp) ?_
                  refine AllReadyH.cons (o := ⟨some 75, _, _, _, _, _⟩) rfl (fun K hK => ?_) AllReadyH.nil
                  rw [if_pos (by rfl)]
                  go_wp2_with fail
                  clear hHeld
                  refine hK.out _ _ (by first | exact HHELD.out _ _ _ HDX.out) (fun hHeld => ?_)
                  clear hK
                  (try simp only [Act.put, List.setIfInBounds_toArray, List.set_cons_zero, List.set_cons_succ])
                  refine wpAnyH_take (i := 11) (oi := ⟨some 81, _, _, _, _, _⟩) (v := .slice A' q rc) rfl (by kernel_rfl) (by kernel_rfl) (by kernel_rfl) (fun _ _ _ h => h) (Or.inl ⟨by rfl, ?_⟩) hHeld ?_
                  · intro w hSw
                    (try dsimp only at hSw)
                    go_simp
                  simp only [Act.put, List.setIfInBounds_toArray, List.set_cons_zero, List.set_cons_succ]
                  refine wpAnyH_ready (rs := [12]) (by kernel_rfl) (by simp) ?_
                  refine AllReadyH.cons (o := ⟨some 82, _, _, _, _, _⟩) rfl (fun K hK => ?_) AllReadyH.nil
                  rw [if_pos (by rfl)]
                  go_wp2_with fail
                  refine Calls.mono (HRT.out _ _ _ hq HPC.out HDX.out) ?_
                  rintro e wz ⟨vz, rfl, hdz, -⟩
                  clear hHeld
                  refine hK.out _ _ (by first | exact HHELD.out _ _ _ hdz) (fun hHeld => ?_)
                  clear hK
                  (try simp only [Act.put, List.setIfInBounds_toArray, List.set_cons_zero, List.set_cons_succ])
                  refine wpAnyH_done (by kernel_rfl) ?_ _
                  clear hHeld
                  have HDZ := Lib.hid (hdz.more (show 3000 + 10 * k + 1 + 1 + 1 + 1 ≤ 3000 + 10 * k + 8 by omega) (Nat.le_refl _))
                  clear hdz
                  go_wp2_with fail
                  go_meet
                  exact ⟨HDZ.out, HDZ.out.bel⟩
              · rw [if_pos (by rfl)]
                go_wp2_with fail
                clear hHeld
                refine hK.out _ _ (by first | exact HHELD.out _ _ _ HD10.out.drew | exact HHELD.out _ _ _ HD10.out) (fun hHeld => ?_)
                clear hK
                (try simp only [Act.put, List.setIfInBounds_toArray, List.set_cons_zero, List.set_cons_succ])
                refine wpAnyH_ready (rs := [2, 10]) (by kernel_rfl) (by simp) ?_
                refine AllReadyH.cons (o := ⟨some 72, _, _, _, _, _⟩) rfl (fun K hK => ?_) (AllReadyH.cons (o := ⟨some 80, _, _, _, _, _⟩) rfl (fun K hK => ?_) AllReadyH.nil)
                · rw [if_pos (by rfl)]
                  go_wp2_with fail
                  clear hHeld
                  refine hK.out _ _ (by first | exact HHELD.out _ _ _ HD10.out.drew | exact HHELD.out _ _ _ HD10.out) (fun hHeld => ?_)
                  clear hK
                  (try simp only [Act.put, List.setIfInBounds_toArray, List.set_cons_zero, List.set_cons_succ])
                  refine wpAnyH_ready (rs := [10]) (by kernel_rfl) (by simp) ?_
                  refine AllReadyH.cons (o := ⟨some 80, _, _, _, _, _⟩) rfl (fun K hK => ?_) AllReadyH.nil
                  rw [if_pos (by rfl)]
                  go_wp2_with fail
                  refine Calls.mono (HRG.out _ (by first | exact HD10.out.drew | exact HD10.out)) ?_
                  rintro e wx ⟨q, rfl, -, hq, hdx, hgx⟩
                  have hx0 : w10.grownBy wx (some w.heap.size) := by first | exact hgx | exact grown_undrewF hgx
                  have HDX := Lib.hid hdx
                  obtain ⟨hq0, hq4⟩ := HHQ.out wx hx0
                  obtain ⟨A', hsl, hpc⟩ := pieceD (HKR.out wx hx0) hq
                  have HPC := Lib.hid (hpc wx (HKR.out wx hx0))
                  clear hpc hdx hgx hHeld
                  refine hK.out _ _ (by first | exact HHELD.out _ _ _ HDX.out) (fun hHeld => ?_)
                  clear hK
                  (try simp only [Act.put, List.setIfInBounds_toArray, List.set_cons_zero, List.set_cons_succ])
                  refine wpAnyH_take (i := 11) (oi := ⟨some 81, _, _, _, _, _⟩) (v := .slice A' q rc) rfl (by kernel_rfl) (by kernel_rfl) (by kernel_rfl) (fun _ _ _ h => h) (Or.inl ⟨by rfl, ?_⟩) hHeld ?_
                  · intro w hSw
                    (try dsimp only at hSw)
                    go_simp
                  simp only [Act.put, List.setIfInBounds_toArray, List.set_cons_zero, List.set_cons_succ]
                  refine wpAnyH_ready (rs := [12]) (by kernel_rfl) (by simp) ?_
                  refine AllReadyH.cons (o := ⟨some 82, _, _, _, _, _⟩) rfl (fun K hK => ?_) AllReadyH.nil
                  rw [if_pos (by rfl)]
                  go_wp2_with fail
                  refine Calls.mono (HRT.out _ _ _ hq HPC.out HDX.out) ?_
                  rintro e wz ⟨vz, rfl, hdz, -⟩
                  clear hHeld
                  refine hK.out _ _ (by first | exact HHELD.out _ _ _ hdz) (fun hHeld => ?_)
                  clear hK
                  (try simp only [Act.put, List.setIfInBounds_toArray, List.set_cons_zero, List.set_cons_succ])
                  refine wpAnyH_done (by kernel_rfl) ?_ _
                  clear hHeld
                  have HDZ := Lib.hid (hdz.more (show 3000 + 10 * k + 1 + 1 + 1 + 1 ≤ 3000 + 10 * k + 8 by omega) (Nat.le_refl _))
                  clear hdz
                  go_wp2_with fail
                  go_meet
                  exact ⟨HDZ.out, HDZ.out.bel⟩
                · rw [if_pos (by rfl)]
                  go_wp2_with fail
                  refine Calls.mono (HRG.out _ (by first | exact HD10.out.drew | exact HD10.out)) ?_
                  rintro e wx ⟨q, rfl, -, hq, hdx, hgx⟩
                  have hx0 : w10.grownBy wx (some w.heap.size) := by first | exact hgx | exact grown_undrewF hgx
                  have HDX := Lib.hid hdx
                  obtain ⟨hq0, hq4⟩ := HHQ.out wx hx0
                  obtain ⟨A', hsl, hpc⟩ := pieceD (HKR.out wx hx0) hq
                  have HPC := Lib.hid (hpc wx (HKR.out wx hx0))
                  clear hpc hdx hgx hHeld
                  refine hK.out _ _ (by first | exact HHELD.out _ _ _ HDX.out) (fun hHeld => ?_)
                  clear hK
                  (try simp only [Act.put, List.setIfInBounds_toArray, List.set_cons_zero, List.set_cons_succ])
                  refine wpAnyH_take (i := 11) (oi := ⟨some 81, _, _, _, _, _⟩) (v := .slice A' q rc) rfl (by kernel_rfl) (by kernel_rfl) (by kernel_rfl) (fun _ _ _ h => h) (Or.inl ⟨by rfl, ?_⟩) hHeld ?_
                  · intro w hSw
                    (try dsimp only at hSw)
                    go_simp
                  simp only [Act.put, List.setIfInBounds_toArray, List.set_cons_zero, List.set_cons_succ]
                  refine wpAnyH_ready (rs := [2]) (by kernel_rfl) (by simp) ?_
                  refine AllReadyH.cons (o := ⟨some 72, _, _, _, _, _⟩) rfl (fun K hK => ?_) AllReadyH.nil
                  rw [if_pos (by rfl)]
                  go_wp2_with fail
                  clear hHeld
                  refine hK.out _ _ (by first | exact HHELD.out _ _ _ HDX.out) (fun hHeld => ?_)
                  clear hK
                  (try simp only [Act.put, List.setIfInBounds_toArray, List.set_cons_zero, List.set_cons_succ])
                  refine wpAnyH_ready (rs := [12]) (by kernel_rfl) (by simp) ?_
                  refine AllReadyH.cons (o := ⟨some 82, _, _, _, _, _⟩) rfl (fun K hK => ?_) AllReadyH.nil
                  rw [if_pos (by rfl)]
                  go_wp2_with fail
                  refine Calls.mono (HRT.out _ _ _ hq HPC.out HDX.out) ?_
                  rintro e wz ⟨vz, rfl, hdz, -⟩
                  clear hHeld
                  refine hK.out _ _ (by first | exact HHELD.out _ _ _ hdz) (fun hHeld => ?_)
                  clear hK
                  (try simp only [Act.put, List.setIfInBounds_toArray, List.set_cons_zero, List.set_cons_succ])
                  refine wpAnyH_done (by kernel_rfl) ?_ _
                  clear hHeld
                  have HDZ := Lib.hid (hdz.more (show 3000 + 10 * k + 1 + 1 + 1 + 1 ≤ 3000 + 10 * k + 8 by omega) (Nat.le_refl _))
                  clear hdz
                  go_wp2_with fail
                  go_meet
                  exact ⟨HDZ.out, HDZ.out.bel⟩
              · rw [if_pos (by rfl)]
                go_wp2_with fail
                refine Calls.mono (HRG.out _ (by first | exact HD10.out.drew | exact HD10.out)) ?_
                rintro e wx ⟨q, rfl, -, hq, hdx, hgx⟩
                have hx0 : w10.grownBy wx (some w.heap.size) := by first | exact hgx | exact grown_undrewF hgx
                have HDX := Lib.hid hdx
                obtain ⟨hq0, hq4⟩ := HHQ.out wx hx0
                obtain ⟨A', hsl, hpc⟩ := pieceD (HKR.out wx hx0) hq
                have HPC := Lib.hid (hpc wx (HKR.out wx hx0))
                clear hpc hdx hgx hHeld
                refine hK.out _ _ (by first | exact HHELD.out _ _ _ HDX.out) (fun hHeld => ?_)
                clear hK
                (try simp only [Act.put, List.setIfInBounds_toArray, List.set_cons_zero, List.set_cons_succ])
                refine wpAnyH_ready (rs := [2, 5]) (by kernel_rfl) (by simp) ?_
                refine AllReadyH.cons (o := ⟨some 72, _, _, _, _, _⟩) rfl (fun K hK => ?_) (AllReadyH.cons (o := ⟨some 75, _, _, _, _, _⟩) rfl (fun K hK => ?_) AllReadyH.nil)
                · rw [if_pos (by rfl)]
                  go_wp2_with fail
                  clear hHeld
                  refine hK.out _ _ (by first | exact HHELD.out _ _ _ HDX.out) (fun hHeld => ?_)
                  clear hK
                  (try simp only [Act.put, List.setIfInBounds_toArray, List.set_cons_zero, List.set_cons_succ])
                  refine wpAnyH_ready (rs := [5]) (by kernel_rfl) (by simp) ?_
                  refine AllReadyH.cons (o := ⟨some 75, _, _, _, _, _⟩) rfl (fun K hK => ?_) AllReadyH.nil
                  rw [if_pos (by rfl)]
                  go_wp2_with fail
                  clear hHeld
                  refine hK.out _ _ (by first | exact HHELD.out _ _ _ HDX.out) (fun hHeld => ?_)
                  clear hK
                  (try simp only [Act.put, List.setIfInBounds_toArray, List.set_cons_zero, List.set_cons_succ])
                  refine wpAnyH_take (i := 11) (oi := ⟨some 81, _, _, _, _, _⟩) (v := .slice A' q rc) rfl (by kernel_rfl) (by kernel_rfl) (by kernel_rfl) (fun _ _ _ h => h) (Or.inl ⟨by rfl, ?_⟩) hHeld ?_
                  · intro w hSw
                    (try dsimp only at hSw)
                    go_simp
                  simp only [Act.put, List.setIfInBounds_toArray, List.set_cons_zero, List.set_cons_succ]
                  refine wpAnyH_ready (rs := [12]) (by kernel_rfl) (by simp) ?_
                  refine AllReadyH.cons (o := ⟨some 82, _, _, _, _, _⟩) rfl (fun K hK => ?_) AllReadyH.nil
                  rw [if_pos (by rfl)]
                  go_wp2_with fail
                  refine Calls.mono (HRT.out _ _ _ hq HPC.out HDX.out) ?_
                  rintro e wz ⟨vz, rfl, hdz, -⟩
                  clear hHeld
                  refine hK.out _ _ (by first | exact HHELD.out _ _ _ hdz) (fun hHeld => ?_)
                  clear hK
                  (try simp only [Act.put, List.setIfInBounds_toArray, List.set_cons_zero, List.set_cons_succ])
                  refine wpAnyH_done (by kernel_rfl) ?_ _
                  clear hHeld
                  have HDZ := Lib.hid (hdz.more (show 3000 + 10 * k + 1 + 1 + 1 + 1 ≤ 3000 + 10 * k + 8 by omega) (Nat.le_refl _))
                  clear hdz
                  go_wp2_with fail
                  go_meet
                  exact ⟨HDZ.out, HDZ.out.bel⟩
                · rw [if_pos (by rfl)]
                  go_wp2_with fail
                  clear hHeld
                  refine hK.out _ _ (by first | exact HHELD.out _ _ _ HDX.out) (fun hHeld => ?_)
                  clear hK
                  (try simp only [Act.put, List.setIfInBounds_toArray, List.set_cons_zero, List.set_cons_succ])
                  refine wpAnyH_take (i := 11) (oi := ⟨some 81, _, _, _, _, _⟩) (v := .slice A' q rc) rfl (by kernel_rfl) (by kernel_rfl) (by kernel_rfl) (fun _ _ _ h => h) (Or.inl ⟨by rfl, ?_⟩) hHeld ?_
                  · intro w hSw
                    (try dsimp only at hSw)
                    go_simp
                  simp only [Act.put, List.setIfInBounds_toArray, List.set_cons_zero, List.set_cons_succ]
                  refine wpAnyH_ready (rs := [2]) (by kernel_rfl) (by simp) ?_
                  refine AllReadyH.cons (o := ⟨some 72, _, _, _, _, _⟩) rfl (fun K hK => ?_) AllReadyH.nil
                  rw [if_pos (by rfl)]
                  go_wp2_with fail
                  clear hHeld
                  refine hK.out _ _ (by first | exact HHELD.out _ _ _ HDX.out) (fun hHeld => ?_)
                  clear hK
                  (try simp only [Act.put, List.setIfInBounds_toArray, List.set_cons_zero, List.set_cons_succ])
                  refine wpAnyH_ready (rs := [12]) (by kernel_rfl) (by simp) ?_
                  refine AllReadyH.cons (o := ⟨some 82, _, _, _, _, _⟩) rfl (fun K hK => ?_) AllReadyH.nil
                  rw [if_pos (by rfl)]
                  go_wp2_with fail
                  refine Calls.mono (HRT.out _ _ _ hq HPC.out HDX.out) ?_
                  rintro e wz ⟨vz, rfl, hdz, -⟩
                  clear hHeld
                  refine hK.out _ _ (by first | exact HHELD.out _ _ _ hdz) (fun hHeld => ?_)
                  clear hK
                  (try simp only [Act.put, List.setIfInBounds_toArray, List.set_cons_zero, List.set_cons_succ])
                  refine wpAnyH_done (by kernel_rfl) ?_ _
                  clear hHeld
                  have HDZ := Lib.hid (hdz.more (show 3000 + 10 * k + 1 + 1 + 1 + 1 ≤ 3000 + 10 * k + 8 by omega) (Nat.le_refl _))
                  clear hdz
                  go_wp2_with fail
                  go_meet
                  exact ⟨HDZ.out, HDZ.out.bel⟩
            --B1
          · have hni : ¬ (0 : Int) < (nb : Int) := by omega
            have HD9 := Lib.hid (HD8.out.more (show 3000 + 10 * k + 1 + 1 ≤ 3000 + 10 * k + 8 by omega) (Nat.le_succ k))
            go_wp2_with fail
            go_meet
            exact ⟨HD9.out, HB8.out⟩
      case rest =>
        obtain ⟨HD8, HB8⟩ := hcut
        have HDX := Lib.hid (HD8.out.more (show 3000 + 10 * k + 8 ≤ 3000 + 10 * (k + 1) by omega) (Nat.le_refl _))
        clear HD8 HD7 HB7
        obtain ⟨m, bv, st, bats, last, hd, hinv, hm, hbl, hlen⟩ := HDX.out.ex
        have HIV := Lib.hid hinv
        have HLN := Lib.hid hlen
        have HMB := Lib.hid (And.intro hm hbl)
        have hbl13 : bats.length ≤ 13 := by omega
        have hmm := @run_makeMap Tryz.prog
        have hb9 : Below wc.heap.size wc (wc.alloc (.map #[] 0)) := (Below.refl _ _).alloc (Nat.le_refl _) _
        have HO9 := Lib.hid (OutAt.start wc)
        have HD9 := Lib.hid (hd.keep hb9)
        have HF9 := Lib.hid (HDX.out.keep hb9)
        have hsO : w.heap.size < wc.heap.size := by have := HDX.out.low; have := HDX.out.bas; omega
        have hMO : M < wc.heap.size := hd.st.lt
        clear hinv hm hbl hlen hd hb9 HDX HB8
        go_upto_region 17 with (fail)
        clear hmm
        obtain ⟨O, hO⟩ : ∃ O, O = wc.heap.size := ⟨_, rfl⟩
        rw [← hO] at HO9 hsO hMO ⊢
        clear hO
        generalize wc.alloc (.map #[] 0) = w9 at *
        have HBA := Lib.hid (batches_any base g bv bats w9 HD9.out.c.2.2.1 HD9.out.bats (by omega) (fun p hp => by have := HLN.out p hp; omega))
        go_wp2_with fail
        refine HBA.out.mono ?_
        rintro e w10 ⟨v10, out, rfl, hbt, hcore, hb10⟩
        have hlen := congrArg List.length hcore
        rw [List.length_map, List.length_map] at hlen
        have HD10 := Lib.hid (HD9.out.keep hb10)
        have HF10 := Lib.hid (HF9.out.keep hb10)
        have HO10 := Lib.hid (HO9.out.below hb10)
        have HO10B := Lib.hid (HO9.out.below hb10)
        have hO9 := HO9.out.lt
        obtain ⟨A10, c10, hv10, -, hat10, hoff10⟩ := hbt.own.at_ batE_ok
        subst hv10
        obtain ⟨nb, hnb⟩ : ∃ nb, nb = out.length := ⟨_, rfl⟩
        rw [← hnb] at hat10 ⊢
        have hnb13 : nb ≤ 13 := by omega
        have HNB := Lib.hid hnb
        have HAT10 := Lib.hid hat10
        have HBT := Lib.hid hbt.row
        have HOF : Hid (∀ g off, A10 = some ⟨g, off, none⟩ → O < g) := fun g' off e => by have := (hoff10 g' off e).2; omega
        have HON : Hid ((outsL out).Nodup ∧ outsL out = outsL bats) := by
          have e := outsL_core _ _ hcore
          exact ⟨by rw [e]; exact HIV.out.apart, e⟩
        have HPL : Hid (∀ p ∈ out, p.ids.length ≤ 12 ∧ ∀ x ∈ p.ids, x.length ≤ 1000) := fun p hp => by
          obtain ⟨q, hq, hqi, -⟩ := core_mem hcore hp
          rw [← hqi]
          exact ⟨HLN.out q hq, fun x hx => by have := HC.out.ids x (HIV.out.sub q hq x hx); omega⟩
        have HZ9 : Hid (O < w9.heap.size ∧ w9.heap.size ≤ w10.heap.size) := ⟨hO9, hb10.size⟩
        clear hbt hcore hb10 hlen hnb hat10 hoff10 HBA HD9 HF9 HO9 hO9
        go_wp2_with fail
        obtain ⟨ko, rfl⟩ : ∃ ko : Nat, ko = gk := ⟨_, rfl⟩
        obtain ⟨wq, rfl⟩ : ∃ wq : World, wq = wr := ⟨_, rfl⟩
        go_loopg [87] nb (fun gk v wr => ∃ i mm : Nat, Hid (i + gk = nb) ∧ v = .int .i64 (i : Int) ∧ Hid (OutAt wr O mm (fun x => decide (x ∈ outsL (out.take i))) (fun x => decide (x ∈ (out.take i).flatMap Bat.ids))) ∧ Hid (mm ≤ 12 * i) ∧ Hid (w10.grownBy wr (some O)))
        case atStart => exact ⟨0, 0, show 0 + nb = nb by omega, rfl, HO10.out.congr (fun x => by simp [outsL]) (fun x => by simp), Nat.le_refl _, World.grownBy.refl _ _⟩
        case round =>
          obtain ⟨i, mm, HI2, rfl, HO, HMM, HG⟩ := hrel
          clear HO10
          have hin : i ≤ nb := by have := HI2.out; omega
          have hmm2 := HMM.out
          by_cases hilt : i < nb
          · have HGI := Lib.hid (show i + 1 + (gk - 1) = nb ∧ 0 < gk by have := HI2.out; omega)
            have hAr : ElemsAt BatE wr A10 nb c10 out := HAT10.out.grown HG.out (fun g' off e => fun e2 => by have := HOF.out g' off e; have := Option.some.inj e2; omega)
            obtain ⟨gA, off, rfl, hgA, hcA⟩ := hAr.2.2.2 (by omega)
            have hkl : i < out.length := by rw [← HNB.out]; exact hilt
            obtain ⟨p, hp⟩ : ∃ p, out[i]? = some p := ⟨_, List.getElem?_eq_getElem hkl⟩
            have hmem : p ∈ out := List.mem_of_getElem? hp
            have c0 := hcA i p 0 (.int .i64 p.no) hp rfl
            have c1 := hcA i p 1 (.int .i64 p.out) hp rfl
            have c2 := hcA i p 2 (.int .i64 p.inn) hp rfl
            have c3 := hcA i p 3 (.string ⟨p.who.toArray⟩) hp rfl
            have c4 := hcA i p 4 (hv3 p.hd) hp rfl
            have e2 : BatE.size = 5 := rfl
            rw [e2] at c0 c1 c2 c3 c4
            rw [Nat.add_zero] at c0
            have hrow : OwnStrs w10 w9.heap.size (hv3 p.hd) p.ids := HBT.out p hmem
            have HPI := Lib.hid (HPL.out p hmem)
            have HNW2 : Hid (p.inn < 0 → ∀ j x, p.ids[j]? = some x → x ∉ outsL (out.take i) ++ p.ids.take j) := fun hp0 j x hx => outsL_new HON.out.1 hp hp0 hx
            have HNEXT := Lib.hid (outsL_next hp)
            have HTKI := Lib.hid (takeP hp)
            obtain ⟨pno, pout, pinn, pwho, ⟨R, rn, rc⟩, pids⟩ := p
            simp only [hv3] at c0 c1 c2 c3 c4 hrow HPI HNW2 HNEXT HTKI
            obtain ⟨R', rc', hv, -, hatr, -⟩ := hrow.at_ strE_ok
            simp only [Value.slice.injEq] at hv
            obtain ⟨rfl, hrn, rfl⟩ := hv
            have HRN := Lib.hid hrn
            have hrn12 : rn ≤ 12 := by have := HPI.out.1; omega
            have HRO := Lib.hid hrow
            have hz10 := HG.out.size
            have hOr : O < wr.heap.size := HO.out.lt
            have hb11 : Below wr.heap.size wr (wr.alloc (.cells #[.int .i64 pno, .int .i64 pout, .int .i64 pinn, .string ⟨pwho.toArray⟩, .slice R rn rc] 36)) := (Below.refl _ _).alloc (Nat.le_refl _) _
            have HQ11 : Hid (BatB (wr.alloc (.cells #[.int .i64 pno, .int .i64 pout, .int .i64 pinn, .string ⟨pwho.toArray⟩, .slice R rn rc] 36)) wr.heap.size pno pout pinn ⟨pwho.toArray⟩ (.slice R rn rc)) := heap_alloc_new wr _
            have HO11 := Lib.hid (HO.out.below hb11)
            have HG11 := Lib.hid (grown_below HG.out hb11)
            clear hcA hkl hp hmem hrow hatr hrn hgA hAr e2 hb11 HO HG
            go_upto_region 20 with (fail)
            obtain ⟨Q, hQ⟩ : ∃ Q, Q = wr.heap.size := ⟨_, rfl⟩
            rw [← hQ] at HQ11 hOr ⊢
            clear hQ hz10
            generalize wr.alloc (.cells #[.int .i64 pno, .int .i64 pout, .int .i64 pinn, .string ⟨pwho.toArray⟩, .slice R rn rc] 36) = w11 at *
            clear c0 c1 c2 c3 c4
            obtain ⟨d0, d1, d2, d3, d4⟩ := HQ11.out.c
            obtain ⟨kj, rfl⟩ : ∃ kj : Nat, kj = gk := ⟨_, rfl⟩
            obtain ⟨wp, rfl⟩ : ∃ wp : World, wp = wr := ⟨_, rfl⟩
            generalize hLo : outsL (out.take i) = Lo at *
            generalize hLf : (out.take i).flatMap Bat.ids = Lf at *
            have HLF := Lib.hid hLf
            have HLO := Lib.hid hLo
            clear hLf hLo
            go_wp2_with fail
            clear d0 d1 d2 d3 d4
            go_loopg [94] rn (fun gk v wr => ∃ j m2 : Nat, Hid (j + gk = rn) ∧ v = .int .i64 (j : Int) ∧ Hid (OutAt wr O m2 (fun x => decide (x ∈ Lo ++ (if pinn < 0 then pids.take j else []))) (fun x => decide (x ∈ Lf ++ pids.take j))) ∧ Hid (m2 ≤ 12 * i + j) ∧ Hid (BatB wr Q pno pout pinn ⟨pwho.toArray⟩ (.slice R rn rc)) ∧ Hid (w10.grownBy wr (some O)))
            case atStart => exact ⟨0, mm, show 0 + rn = rn by omega, rfl, HO11.out.congr (fun x => by simp) (fun x => by simp), hmm2, HQ11.out, HG11.out⟩
            case round =>
              obtain ⟨j, m2, HJ, rfl, HO, HM2, HQ, HG⟩ := hrel
              clear HO11 HQ11 HG11
              have hjn : j ≤ rn := by have := HJ.out; omega
              have hm2 := HM2.out
              by_cases hjlt : j < rn
              · have HGJ := Lib.hid (show j + 1 + (gk - 1) = rn ∧ 0 < gk by have := HJ.out; omega)
                have hrow : OwnStrs wr w9.heap.size (.slice R rn rc) pids := HRO.out.kept_ HG.out (fun i e => by cases e; exact HZ9.out.1)
                obtain ⟨R', rc', hv, -, hatr, -⟩ := hrow.at_ strE_ok
                simp only [Value.slice.injEq] at hv
                obtain ⟨rfl, hrn, rfl⟩ := hv
                rw [← hrn] at hatr
                obtain ⟨gB, ob, rfl, hgB, hcB⟩ := ElemsAt.str hatr (by omega)
                have hcj := hcB j hjlt
                have hjl : j < pids.length := by omega
                obtain ⟨x, hx⟩ : ∃ x, pids[j]? = some x := ⟨_, List.getElem?_eq_getElem hjl⟩
                have hgd : pids.getD j [] = x := by rw [List.getD_eq_getElem?_getD, hx]; rfl
                rw [hgd] at hcj
                have hxs := HPI.out.2 x (List.mem_of_getElem? hx)
                have hxb : (⟨x.toArray⟩ : ByteArray).size ≤ 1000000 := by simp [ByteArray.size]; omega
                have HKX : Hid (keyOf Tryz.prog 9 (.string ⟨x.toArray⟩) = some (.string x)) := keyS_mk ⟨x.toArray⟩ hxb
                have HTX := Lib.hid (takeP hx)
                have HNX3 : Hid (pinn < 0 → x ∉ Lo ++ pids.take j) := fun h0 => HNW2.out h0 j x hx
                obtain ⟨d0, d1, d2, d3, d4⟩ := HQ.out.c
                obtain ⟨D, hm1, hm2', hm3⟩ := HO.out.ex
                have HM1 := Lib.hid hm1
                have HM23 := Lib.hid (And.intro hm2' hm3)
                have HCO : Hid (∀ (w5 : World) (z : Bool), (z = (decide (x ∈ Lo ++ (if pinn < 0 then pids.take j else [])) || decide (pinn < 0))) → w5.ownsMap Tryz.prog 9 heldE O (m2 + 1) (D.put (.string x) (.held (.bool z))) → OutAt w5 O (m2 + 1) (fun x => decide (x ∈ Lo ++ (if pinn < 0 then pids.take (j + 1) else []))) (fun x => decide (x ∈ Lf ++ pids.take (j + 1)))) := fun w5 z hz hown => by
                  refine (OutAt.put x z HM1.out HM23.out.1 HM23.out.2 hown).congr (fun y => ?_) (fun y => ?_)
                  · rw [HTX.out, hz]
                    by_cases h0 : pinn < 0
                    · simp only [if_pos h0, decide_eq_true h0, Bool.or_true]
                      by_cases e : y = x <;> simp [e]
                    · simp only [if_neg h0, decide_eq_false h0, Bool.or_false]
                      by_cases e : y = x
                      · subst e; simp
                      · simp [e]
                  · rw [HTX.out]
                    by_cases e : y = x <;> simp [e]
                have hlk : (Instr.lookup 50 (.map (some O)) (.string ⟨x.toArray⟩) false).run Tryz.prog wr = .ok (.bool (decide (x ∈ Lo ++ (if pinn < 0 then pids.take j else [])))) wr := HO.out.look ⟨x.toArray⟩ hxb 0
                have hQO : Q ≠ O := by omega
                have HQO := Lib.hid hQO
                clear hcB hgd hjl hx hxs hxb hatr hrow hrn hgB hm1 hm2' hm3 hQO
                by_cases h0 : pinn < 0
                · have hbx : decide (x ∈ Lo ++ (if pinn < 0 then pids.take j else [])) = false := by
                    rw [if_pos h0]
                    exact decide_eq_false (HNX3.out h0)
                  rw [hbx] at hlk
                  have HC2 : Hid (∀ (w5 : World), w5.ownsMap Tryz.prog 9 heldE O (m2 + 1) (D.put (.string x) (.held (.bool true))) → OutAt w5 O (m2 + 1) (fun x => decide (x ∈ Lo ++ (if pinn < 0 then pids.take (j + 1) else []))) (fun x => decide (x ∈ Lf ++ pids.take (j + 1)))) := fun w5 h => HCO.out w5 true (by rw [hbx]; simp [h0]) h
                  clear hbx HCO
                  go_wp2_with (at_mapUpdate; refine wpList_mapUpdate_own _ rfl _ _ _ 50 rfl 9 4 keyS Tryz.underlying50 _ O m2 D rfl HM1.out (by simp only [maxLen]; omega) _ _ (.string x) rfl rfl HKX.out (.held (.bool true)) [] rfl ?_; intro w5 hown5 hgrow5)
                  have HO5 := Lib.hid (HC2.out w5 hown5)
                  have HQ5 : Hid (BatB w5 Q pno pout pinn ⟨pwho.toArray⟩ (.slice (some ⟨gB, ob, none⟩) rn rc)) := (hgrow5.block Q HQ.out.lt (fun e => HQO.out (Option.some.inj e))).trans HQ.out
                  have HG5 := Lib.hid (grown_trans HG.out hgrow5)
                  clear hown5 hgrow5 d0 d1 d2 d3 d4 hlk
                  go_wp2_with fail
                  go_roundg (gk - 1)
                  case measure => have := HGJ.out; omega
                  case rel => exact ⟨j + 1, m2 + 1, HGJ.out.1, by go_num, HO5.out, (show m2 + 1 ≤ 12 * i + (j + 1) by omega), HQ5.out, HG5.out⟩
                · generalize hbv : decide (x ∈ Lo ++ (if pinn < 0 then pids.take j else [])) = b1 at *
                  have HC2 : Hid (∀ (w5 : World), w5.ownsMap Tryz.prog 9 heldE O (m2 + 1) (D.put (.string x) (.held (.bool b1))) → OutAt w5 O (m2 + 1) (fun x => decide (x ∈ Lo ++ (if pinn < 0 then pids.take (j + 1) else []))) (fun x => decide (x ∈ Lf ++ pids.take (j + 1)))) := fun w5 h => HCO.out w5 b1 (by simp [h0]) h
                  clear hbv HCO
                  cases b1 with
                  | true =>
                    go_wp2_with (at_mapUpdate; refine wpList_mapUpdate_own _ rfl _ _ _ 50 rfl 9 4 keyS Tryz.underlying50 _ O m2 D rfl HM1.out (by simp only [maxLen]; omega) _ _ (.string x) rfl rfl HKX.out (.held (.bool true)) [] rfl ?_; intro w5 hown5 hgrow5)
                    have HO5 := Lib.hid (HC2.out w5 hown5)
                    have HQ5 : Hid (BatB w5 Q pno pout pinn ⟨pwho.toArray⟩ (.slice (some ⟨gB, ob, none⟩) rn rc)) := (hgrow5.block Q HQ.out.lt (fun e => HQO.out (Option.some.inj e))).trans HQ.out
                    have HG5 := Lib.hid (grown_trans HG.out hgrow5)
                    clear hown5 hgrow5 d0 d1 d2 d3 d4 hlk
                    go_wp2_with fail
                    go_roundg (gk - 1)
                    case measure => have := HGJ.out; omega
                    case rel => exact ⟨j + 1, m2 + 1, HGJ.out.1, by go_num, HO5.out, (show m2 + 1 ≤ 12 * i + (j + 1) by omega), HQ5.out, HG5.out⟩
                  | false =>
                    go_wp2_with (at_mapUpdate; refine wpList_mapUpdate_own _ rfl _ _ _ 50 rfl 9 4 keyS Tryz.underlying50 _ O m2 D rfl HM1.out (by simp only [maxLen]; omega) _ _ (.string x) rfl rfl HKX.out (.held (.bool false)) [] rfl ?_; intro w5 hown5 hgrow5)
                    have HO5 := Lib.hid (HC2.out w5 hown5)
                    have HQ5 : Hid (BatB w5 Q pno pout pinn ⟨pwho.toArray⟩ (.slice (some ⟨gB, ob, none⟩) rn rc)) := (hgrow5.block Q HQ.out.lt (fun e => HQO.out (Option.some.inj e))).trans HQ.out
                    have HG5 := Lib.hid (grown_trans HG.out hgrow5)
                    clear hown5 hgrow5 d0 d1 d2 d3 d4 hlk
                    go_wp2_with fail
                    go_roundg (gk - 1)
                    case measure => have := HGJ.out; omega
                    case rel => exact ⟨j + 1, m2 + 1, HGJ.out.1, by go_num, HO5.out, (show m2 + 1 ≤ 12 * i + (j + 1) by omega), HQ5.out, HG5.out⟩
              · have hjk : ¬ (j : Int) < (rn : Int) := by omega
                have hta : pids.take j = pids := List.take_of_length_le (by rw [← HRN.out]; omega)
                have hOn : OutAt wr O m2 (fun x => decide (x ∈ outsL (out.take (i + 1)))) (fun x => decide (x ∈ (out.take (i + 1)).flatMap Bat.ids)) := by
                  refine HO.out.congr (fun x => ?_) (fun x => ?_)
                  · rw [HNEXT.out, hta]
                  · rw [HTKI.out, hta, List.flatMap_append, HLF.out]
                    simp
                have HON2 := Lib.hid hOn
                clear hta hOn HO
                go_wp2_with fail
                go_roundg (kj - 1)
                case measure => have := HGI.out; omega
                case rel => exact ⟨i + 1, m2, HGI.out.1, by go_num, HON2.out, (show m2 ≤ 12 * (i + 1) by omega), HG.out⟩
          · have hik : ¬ (i : Int) < (nb : Int) := by omega
            have hta : out.take i = out := List.take_of_length_le (by rw [← HNB.out]; omega)
            rw [hta] at HO
            have HD12 := Lib.hid (HD10.out.besideOut HO10B.out (by omega) HG.out)
            have HDV := Lib.hid (HD10.out.besideOut HO10B.out (by omega) HG.out)
            have HF12 : Hid (FairAt wr w base g M w.heap.size A n c (3000 + 10 * (k + 1)) (.slice FA np fc) P items I (domL LA) (k + 1)) :=
              ⟨⟨m, bv, st, bats, last, HD12.out, HIV.out, HMB.out.1, HMB.out.2, HLN.out⟩, HF10.out.str.row_ HG.out (fun i e => by cases e; exact hsO), HF10.out.low, Nat.le_trans HF10.out.bas HG.out.size, HF10.out.bel.grown HG.out (by have := HF10.out.low; have := HF10.out.bas; omega) (fun i e => by cases e; exact Nat.le_of_lt hsO)⟩
            obtain ⟨o, ho⟩ : ∃ o : Str → Bool, o = fun x => decide (x ∈ outsL out) := ⟨_, rfl⟩
            have ho2 : ∀ x, o x = decide (x ∈ outsL out) := fun x => by rw [ho]
            rw [← ho] at HO
            obtain ⟨D, hm1, hm2, hm3⟩ := HO.out.ex
            obtain ⟨hk1, hk2, hk3⟩ := keys_ofD hm1
            have HM := Lib.hid hm1
            have HAT3 := Lib.hid hm2
            have HKS := Lib.hid (And.intro hk1 hk2)
            have HMANY : Hid ((strKeys D).countP o = (outsL out).length) := many_len (dom := fun x => decide (x ∈ out.flatMap Bat.ids)) hk1 (fun x => (hk2 x).trans (Iff.of_eq (congrArg (fun b => b = true) (hm3 x)))) ho2 (fun x hx => decide_eq_true (outs_sub out x hx)) HON.out.1
            have HKL : Hid ((strKeys D).length = Maps.size D) := hk3
            have HSL : Hid ((strKeys D).length ≤ 1000) := by
              have h1 := hm1.size_le
              have h2 := HMM.out
              show _ ≤ _
              omega
            generalize strKeys D = ks at *
            clear hm1 hm2 hm3 hk1 hk2 hk3 hta ho ho2 HO HI2 HMM hmm2 hin hilt HD12 HG HD10 HF10 HO10B HAT10 HBT HOF HPL HZ9
            obtain ⟨V, rfl⟩ : ∃ V : World, V = wr := ⟨_, rfl⟩
            obtain ⟨k2, rfl⟩ : ∃ k2 : Nat, k2 = gk := ⟨_, rfl⟩
            go_wp2_with (at_range; refine wpList_range_own _ rfl _ 50 rfl 9 4 keyS Tryz.underlying50 _ O mm _ rfl HM.out ?_; intro w13 hrg13 hg13 hs13)
            (try go_frame)
            have HR13 := Lib.hid hrg13
            have HB13 : Hid (Below V.heap.size V w13) := (Below.refl _ _).grown hg13 (Nat.le_refl _) (fun i hi => by cases hi)
            have hOV : O < V.heap.size := HM.out.lt
            clear hrg13 hg13 hs13 HM
            go_loopg [15, 17] (Maps.size D) (fun gk v15 _ wx => ∃ left : Lit → Bool, Hid (wx.ranges Tryz.prog 9 heldE O V.heap.size mm D left gk) ∧ v15 = .int .i64 (cntL ks left o : Nat) ∧ Hid (Below V.heap.size V wx))
            case atStart =>
              refine ⟨_, HR13.out, ?_, HB13.out⟩
              rw [cntL_start (fun x hx => (HKS.out.2 x).1 hx)]
              rfl
            case round =>
              obtain ⟨left, HRG, rfl, HB⟩ := hrel
              clear HR13 HB13
              go_wp2_with (at_next; refine wpList_next_ranges _ rfl _ rfl 9 keyS _ (fun x : List UInt8 => Value.string (bag x)) (fun v : Value => v) invK_strD (fun v _ _ => ⟨v, rfl⟩) O V.heap.size mm _ _ _ rfl HRG.out (Hid.out ?_) (Hid.out ?_))
              · refine Lib.hid ?_
                intro hc0 hl0
                rw [cntL_end hl0, HMANY.out]
                have HF14 := Lib.hid (HF12.out.keep HB.out)
                have hdw := HF14.out.ex
                have hd14 : DeskAt wr base g M (.slice FA np fc) P items (domL LA) m bv st bats last := HDV.out.keep HB.out
                have HPG := Lib.hid (progress_any g M m st (domL LA) I wr hd14.c.2.1 hd14.lt hd14.st HC.out.nodup HC.out.domI (by have := HC.out.ilen; omega))
                have HD14 := Lib.hid hd14
                clear hl0 hdw hd14 HRG HF12 HB HDV
                go_wp2_with fail
                refine HPG.out.mono ?_
                rintro e w15 ⟨cc, rfl, hsum, hb15⟩
                have e1 : (I.countP fun x => decide (st x = 1)) = (outsL out).length := by
                  rw [List.countP_eq_length_filter, HIV.out.many, HON.out.2]
                have e0 : (I.countP fun x => decide (st x = 0)) = (leftL st items P).length := by
                  rw [List.countP_eq_length_filter, HIV.out.left]
                rw [e1, e0, HI.out.2.2] at hsum
                rw [e1, e0, HI.out.2.2]
                have HF15 := Lib.hid (HF14.out.keep hb15)
                have HD15 := Lib.hid (HD14.out.keep hb15)
                have HLL : Hid ((leftL st items P).length ≤ 1000) := by show _ ≤ _; omega
                have hb16 : Below w15.heap.size w15 (w15.alloc (.cells #[.int .i64 (nl : Int), .int .i64 (cc : Int), .int .i64 ((outsL out).length : Int), .int .i64 ((leftL st items P).length : Int)] 52)) := (Below.refl _ _).alloc (Nat.le_refl _) _
                have HQ16 : Hid (ProgB (w15.alloc (.cells #[.int .i64 (nl : Int), .int .i64 (cc : Int), .int .i64 ((outsL out).length : Int), .int .i64 ((leftL st items P).length : Int)] 52)) w15.heap.size (nl : Int) (cc : Int) ((outsL out).length : Int) ((leftL st items P).length : Int)) := heap_alloc_new w15 _
                have HD16 := Lib.hid (HD15.out.keep hb16)
                have HF16 := Lib.hid (HF15.out.keep hb16)
                have HLF : Hid (∀ wy, Below (w15.alloc (.cells #[.int .i64 (nl : Int), .int .i64 (cc : Int), .int .i64 ((outsL out).length : Int), .int .i64 ((leftL st items P).length : Int)] 52)).heap.size (w15.alloc (.cells #[.int .i64 (nl : Int), .int .i64 (cc : Int), .int .i64 ((outsL out).length : Int), .int .i64 ((leftL st items P).length : Int)] 52)) wy → Calls Tryz.prog 7 #[.pointer (some ⟨g, 0, none⟩)] wy (LeftPost wy st items P)) := fun wy hb => by
                  have hd := HD16.out.keep hb
                  exact left_any g M m st (domL LA) FA np fc P items wy hd.c.1 hd.c.2.1 hd.lt hd.st hd.famsAt (by omega) (fun p hp => ⟨by have := (HC.out.each p hp).1; omega, fun x hx => by have := (HC.out.each p hp).2 x hx; omega⟩)
                clear hb15 hb16 HD15 HF15 HD14 HF14 HPG HD16 e1 e0
                generalize hn0 : (leftL st items P).length = n0 at *
                have HN0 := Lib.hid hn0
                clear hn0
                generalize (outsL out).length = n1 at *
                go_upto_region 35 with (fail)
                obtain ⟨T, hT⟩ : ∃ T, T = w15.heap.size := ⟨_, rfl⟩
                rw [← hT] at HQ16 ⊢
                clear hT
                generalize w15.alloc (.cells #[.int .i64 (nl : Int), .int .i64 (cc : Int), .int .i64 (n1 : Int), .int .i64 (n0 : Int)] 52) = w16 at *
                have HHELD : Hid (∀ wy, Below w16.heap.size w16 wy → wy.cell? ⟨T, 0, none⟩ = some (.int .i64 (nl : Int)) ∧ wy.cell? ⟨T, 1, none⟩ = some (.int .i64 (cc : Int)) ∧ wy.cell? ⟨T, 2, none⟩ = some (.int .i64 (n1 : Int)) ∧ wy.cell? ⟨T, 3, none⟩ = some (.int .i64 (n0 : Int))) := fun wy hb => by
                  have hB : ProgB wy T (nl : Int) (cc : Int) (n1 : Int) (n0 : Int) := (hb.block T HQ16.out.lt).trans HQ16.out
                  exact hB.c
                obtain ⟨d0, d1, d2, d3⟩ := HHELD.out w16 (Below.refl _ _)
                have ea : IntKind.i64.wrap ((cc : Int) + (n1 : Int)) = (cc : Int) + (n1 : Int) := IntWalk.i64_in _ (by omega)
                have eb : IntKind.i64.wrap ((cc : Int) + (n1 : Int) + (n0 : Int)) = (nl : Int) := by rw [IntWalk.i64_in _ (by omega)]; omega
                clear hsum
                go_region_held3 (fun wy => wy.cell? ⟨T, 0, none⟩ = some (.int .i64 (nl : Int)) ∧ wy.cell? ⟨T, 1, none⟩ = some (.int .i64 (cc : Int)) ∧ wy.cell? ⟨T, 2, none⟩ = some (.int .i64 (n1 : Int)) ∧ wy.cell? ⟨T, 3, none⟩ = some (.int .i64 (n0 : Int)))
                  (first | assumption | exact HHELD.out _ (Below.refl _ _) | exact HHELD.out _ hx0 | exact HHELD.out _ ((Below.refl _ _).drew))
                  (first
                    | (go_at_call 7; (with_reducible refine Calls.mono (HLF.out _ ?_) ?_); (first | exact Below.refl _ _ | exact (Below.refl _ _).drew | fail); rintro e wx ⟨vx, rfl, hownx, hbx⟩; have hx0 : Below w16.heap.size w16 wx := (by first | exact hbx | exact below_undrwF hbx | fail); obtain ⟨Ax, cx, hvx, -, -, -⟩ := hownx.at_ strE_ok; rw [HN0.out] at hvx; subst hvx; clear hownx hbx)
                    | fail)
                all_goals
                  have HF17 := Lib.hid (HF16.out.keep hx0)
                  clear hx0
                  go_wp2_with fail
                  go_roundg (ko - 1)
                  case measure => have := HGK.out; omega
                  case rel => exact ⟨k + 1, at_ + d, HGK.out.1, by go_num, by go_num, HAT2.out, HF17.out, HF17.out.bel⟩
              · refine Lib.hid ?_
                intro x cb kl ya yb w14 cnt14 hkey hlk hRv hat hrg14 hlt14 hg14 hs14 hen
                obtain rfl := key_bagD hkey
                have hx : x ∈ ks := (HKS.out.2 x).2 (has_true_of_atKey hat)
                have hya : ya = .held cb := by
                  simp only [heldE, Option.some.injEq, Prod.mk.injEq] at hRv
                  exact hRv.1.symm
                have hcb : cb = .bool (o x) := by
                  have h1 := hat (.held (.bool false))
                  rw [HAT3.out, hya] at h1
                  simp only [DataW.held.injEq] at h1
                  exact h1.symm
                subst hcb
                have HRG14 := Lib.hid hrg14
                have HST := Lib.hid (cntL_step HKS.out.1 hx hlk o)
                have hle := cntL_le ks left o
                have hle2 := HSL.out
                have HB14 : Hid (Below V.heap.size V w14) := HB.out.grown hg14 HB.out.size (fun i hi => by cases hi; exact Nat.le_refl _)
                clear hkey hlk hRv hat hx hya hrg14 hg14 hs14 HRG HB
                generalize cntL ks left o = cn at *
                have ew : IntKind.i64.wrap ((cn : Int) + 1) = ((cn + 1 : Nat) : Int) := by rw [IntWalk.i64_in _ (by omega)]; omega
                generalize hox : o x = ox at *
                cases ox with
                | true =>
                  go_wp2_with fail
                  go_roundg cnt14
                  case measure => exact hlt14
                  case rel => exact ⟨_, HRG14.out, (by rw [HST.out]; go_num), HB14.out⟩
                | false =>
                  go_wp2_with fail
                  go_roundg cnt14
                  case measure => exact hlt14
                  case rel => exact ⟨_, HRG14.out, (by rw [HST.out]; rfl), HB14.out⟩
    · have hnk : ¬ (k : Int) < (N : Int) := by omega
      have HST := Lib.hid (stands_any wr (HS.out.below HB.out))
      go_wp2_with fail
      refine HST.out.mono ?_
      rintro e w9 ⟨rfl, hb9⟩
      have HB9 := Lib.hid (HB.out.trans (hb9.mono HB.out.size))
      clear hb9
      go_wp2_with fail
      go_ret
      exact ⟨rfl, HB9.out⟩
end Go.Proofs.YtdojnbnhogbhiaaGreatDoor
