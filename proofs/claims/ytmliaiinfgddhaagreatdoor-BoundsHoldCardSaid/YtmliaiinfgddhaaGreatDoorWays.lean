
/-
  What ways and likely return: the numbers of ways to choose; whether a number is likely.
-/
import Derived.Test.YtmliaiinfgddhaaGreatDoorNat2
import Derived.Test.YtmliaiinfgddhaaGreatDoorBoundPlain
import Derived.Test.YtmliaiinfgddhaaGreatDoorOwnSet
import Derived.Deep.RegionHeld3
import Derived.Deep.RegionLaw
import Derived.Deep.DrawnRows
namespace Go.Proofs.YtmliaiinfgddhaaGreatDoor
open Go.RowKit
attribute [local go_sem ↓] Go.wp_at_zero Go.wp_at_succ

theorem below_undrw {w w' : World} (h : Below w.drew.heap.size w.drew w') : Below w.heap.size w w' := ⟨h.os, h.tape, h.output, h.size, h.block⟩
/-- Headers of numbers. -/
abbrev HdN := Option Addr × Nat × Nat
def NatHE : Elem HdN := ⟨113, 110, 1, 24, .slice none 0 0, fun r => [.slice r.1 r.2.1 r.2.2]⟩
theorem natHE_ok : NatHE.Ok := ⟨fun _ => rfl, fun x u hu => by simp [NatHE] at hu; subst hu; rfl, by decide, by decide, by kernel_rfl, by kernel_rfl, Tryz.underlying110⟩
theorem NatAt.form {w : World} {v : Value} {x m : Nat} (h : NatAt w v x m) : ∃ A n c, v = .slice A n c := by
  obtain ⟨A, n, c, l, rfl, _⟩ := h
  exact ⟨A, n, c, rfl⟩
theorem NatAt.wide {w : World} {v : Value} {x m k : Nat} (h : NatAt w v x m) (hk : m ≤ k) : NatAt w v x k := by
  obtain ⟨A, n, c, l, h1, h2, h3, h4, h5, h6, h7, h8⟩ := h
  exact ⟨A, n, c, l, h1, h2, h3, h4, h5, h6, by omega, h8⟩
theorem NatAt.grown {w w' : World} {v u : Value} {x m base : Nat} {hs : List HdN} (h : NatAt w v x m) (ho : Owns NatHE w base u hs) (hb : w.grownBy w' u.ownBlock) : NatAt w' v x m := by
  obtain ⟨A, n, c, l, rfl, h2, h3, h4, h5, h6, h7, h8⟩ := h
  have hne : ∀ a, A = some a → u.ownBlock ≠ some a.block := fun a e => by
    obtain ⟨arr, fr, hh⟩ := h8 a e
    exact ho.ne_block hh (by decide)
  refine ⟨A, n, c, l, rfl, h2, h3.grown hb (fun g off e => hne _ e), h4, h5, h6, h7, fun a e => ?_⟩
  obtain ⟨arr, fr, hh⟩ := h8 a e
  exact ⟨arr, fr, (hb.block a.block (Array.getElem?_eq_some_iff.1 hh).1 (fun e2 => hne a e e2.symm)).trans hh⟩
def NatsOf (w : World) (hs : List HdN) (f : Nat → Nat) (m : Nat) : Prop := ∀ i r, hs[i]? = some r → NatAt w (.slice r.1 r.2.1 r.2.2) (f i) m
theorem NatsOf.keep {w w' : World} {hs : List HdN} {f : Nat → Nat} {m : Nat} (h : NatsOf w hs f m) (hb : Below w.heap.size w w') : NatsOf w' hs f m := fun i r hr => (h i r hr).keep hb
theorem Owns.lit {α : Type} {E : Elem α} (hE : E.Ok) (w : World) (base : Nat) (l : List α) (hb : base ≤ w.heap.size) (hl : l.length ≤ 1000) : Owns E (w.alloc (.cells (E.cells l).toArray E.t)) base (.slice (some ⟨w.heap.size, 0, none⟩) l.length l.length) l := by
  refine ⟨Elem.cells_length hE l, .inr ⟨w.heap.size, l.length, (E.cells l).toArray, rfl, hb, heap_alloc_new _ _, Nat.le_refl _, by unfold maxLen; omega, by simp [Elem.cells_length hE], ?_⟩⟩
  rw [List.take_of_length_le]
  rw [List.toList_toArray, Elem.cells_length hE]
  exact Nat.le_refl _
theorem chs_fits {n : Nat} (hn : n ≤ 100000) (i : Nat) : chs n i < powB (i + 1) := by
  rcases Nat.eq_zero_or_pos n with h | h
  · subst h
    have h1 : chs 0 i ≤ 1 := by cases i <;> simp [chs]
    have h2 : powB 1 ≤ powB (i + 1) := powB_le (by omega)
    have h3 : powB 1 = 4294967296 := by simp [powB]
    omega
  · have h1 := chs_le n i n (Nat.le_refl _) h
    have h2 : n ^ i ≤ 4294967296 ^ i := Nat.pow_le_pow_left (by omega) i
    have h3 : powB i < powB (i + 1) := by rw [powB_succ]; have := powB_pos i; omega
    unfold powB at *
    omega
/-- Where the elements lie, and that what they name was there before. -/
def WaysPost (w : World) (n k : Nat) (e : Ending) (w' : World) : Prop :=
  ∃ v hs, e = .returned v ∧ Owns NatHE w' w.heap.size v hs ∧ hs.length = k + 1 ∧ NatsOf w' hs (chs n) 200 ∧ Below w.heap.size w w'
theorem Owns.headAt {w : World} {base : Nat} {v : Value} {hs : List HdN} (h : Owns NatHE w base v hs) (h0 : 0 < hs.length) : ∃ G c, v = .slice (some ⟨G, 0, none⟩) hs.length c ∧ base ≤ G ∧ G < w.heap.size ∧ ∀ k r, hs[k]? = some r → w.cell? ⟨G, k, none⟩ = some (.slice r.1 r.2.1 r.2.2) := by
  obtain ⟨G, c, hv, hb, hg, hc⟩ := Owns.where_ natHE_ok h h0
  refine ⟨G, c, hv, hb, hg, fun k r hk => ?_⟩
  have := (hc k r 0 _ hk rfl).1
  rw [show k * NatHE.size + 0 = k by rw [Nat.add_zero]; exact Nat.mul_one k] at this
  exact this
theorem ways_done {w0 wz w5 : World} {u5 : Value} {hs : List HdN} {n i base : Nat} {r : HdN} {o : Obj}
    (hO : Owns NatHE w0 base u5 hs) (hN : NatsOf w0 hs (chs n) 200) (hl : hs.length = i) (hz : Below w0.heap.size w0 wz) (hr : NatAt wz (.slice r.1 r.2.1 r.2.2) (chs n i) 200) (hg : (wz.alloc o).grownBy w5 u5.ownBlock) :
    NatsOf w5 (hs ++ [r]) (chs n) 200 := by
  subst hl
  have key : ∀ v x, NatAt wz v x 200 → NatAt w5 v x 200 := fun v x hv =>
    (hv.keep ((Below.refl _ _).alloc (Nat.le_refl _) o)).grown (World.ownsRow.alloc (hO.below_ hz) o) hg
  intro k r' hk
  rcases Nat.lt_or_ge k hs.length with h | h
  · rw [List.getElem?_append_left h] at hk
    exact key _ _ ((hN k r' hk).keep hz)
  · rw [List.getElem?_append_right h] at hk
    have h0 : k - hs.length = 0 := by have := (List.getElem?_eq_some_iff.1 hk).1; simpa using this
    rw [h0] at hk
    simp at hk
    subst hk
    have : k = hs.length := by omega
    subst this
    exact key _ _ hr
theorem newNat_i (z : Int) (w : World) (h0 : 0 ≤ z) (h1 : z ≤ 1000000) : Calls Tryz.prog 68 #[.int .i64 z] w (NatPost w z.toNat 3) := by
  obtain ⟨n, rfl⟩ := Int.eq_ofNat_of_zero_le h0
  exact newNat_any n w (by omega)
theorem newNat_m (z : Int) (w : World) (h1 : z ≤ 1000000) : Calls Tryz.prog 68 #[.int .i64 (if 0 < z then z else 0)] w (NatPost w z.toNat 3) := by
  by_cases h : 0 < z
  · rw [if_pos h]; exact newNat_i z w (by omega) h1
  · rw [if_neg h, show z.toNat = (0 : Int).toNat by omega]; exact newNat_i 0 w (by omega) (by omega)
set_option maxHeartbeats 3200000 in
set_option maxRecDepth 100000 in
theorem ways_any (n k : Nat) (w : World) (hn : n ≤ 2000) (hk : k ≤ 100) :
    Calls Tryz.prog 65 #[.int .i64 (n : Int), .int .i64 (k : Int)] w (WaysPost w n k) := by
  go_enter Tryz.func65, Tryz.ntmps65
  go_wp2_with fail
  refine (newNat_i 1 w (by omega) (by omega)).mono ?_
  rintro e w1 ⟨v1, rfl, hnat, hb1⟩
  obtain ⟨A1, n1, c1, rfl⟩ := hnat.form
  have hO1 : Owns NatHE (w1.alloc (.cells #[.slice A1 n1 c1] 113)) w.heap.size (.slice (some ⟨w1.heap.size, 0, none⟩) 1 1) [(A1, n1, c1)] := Owns.lit natHE_ok w1 w.heap.size [(A1, n1, c1)] hb1.size (by simp)
  have hB1 : Below w.heap.size w (w1.alloc (.cells #[.slice A1 n1 c1] 113)) := hb1.alloc hb1.size _
  have hN1 : NatsOf (w1.alloc (.cells #[.slice A1 n1 c1] 113)) [(A1, n1, c1)] (chs n) 200 := by
    intro i r hr
    have hi : i = 0 := by have := (List.getElem?_eq_some_iff.1 hr).1; simpa using this
    subst hi
    simp at hr
    subst hr
    rw [chs_zero]
    exact (hnat.keep ((Below.refl _ _).alloc (Nat.le_refl _) _)).wide (by omega)
  have HO1 := Lib.hid hO1
  have HB1 := Lib.hid hB1
  have HN1 := Lib.hid hN1
  clear hO1 hB1 hN1 hnat hb1
  go_wp2_with fail
  go_loopg [5, 6] k (fun gk v i wr => ∃ (p : Nat) (hs : List HdN), Hid (p + gk = k + 1) ∧ 1 ≤ p ∧ i = .int .i64 (p : Int) ∧ Hid (Owns NatHE wr w.heap.size v hs) ∧ Hid (hs.length = p) ∧ Hid (NatsOf wr hs (chs n) 200) ∧ Hid (Below w.heap.size w wr))
  case atStart => exact ⟨1, _, show 1 + k = k + 1 by omega, Nat.le_refl _, rfl, HO1, rfl, HN1, HB1⟩
  case round =>
    obtain ⟨p, hs, HG, hp1, rfl, HO, HL, HN, HB⟩ := hrel
    clear HO1 HB1 HN1
    have hpk : p ≤ k + 1 := by have := HG.out; omega
    by_cases hlt : p ≤ k
    · have hli : (p : Int) ≤ (k : Int) := by omega
      have hl0 := HL.out
      obtain ⟨G, c, rfl, hG1, hG2, hcell⟩ := Owns.headAt HO.out (by omega)
      obtain ⟨⟨A3, n3, c3⟩, hr⟩ : ∃ r, hs[p - 1]? = some r := ⟨_, List.getElem?_eq_getElem (show p - 1 < hs.length by omega)⟩
      have hck := hcell (p - 1) _ hr
      have HR := Lib.hid (HN.out (p - 1) _ hr)
      have HDIV : Hid (chs n (p - 1) * (n - (p - 1)) / p = chs n p) := by
        have h := chs_div n (p - 1)
        rw [show p - 1 + 1 = p by omega] at h
        exact h
      have HHELD : Hid (∀ w', Below wr.heap.size wr w' → w'.cell? ⟨G, p - 1, none⟩ = some (.slice A3 n3 c3)) := fun w' hw => (hw.cell (p := ⟨G, p - 1, none⟩) hG2).trans hck
      have hwp : IntKind.u32.wrap (p : Int) = (p : Int) := IntWalk.u32_in _ (by omega)
      rw [hl0] at HO ⊢
      have HHL := Lib.hid hl0
      clear hcell hr hl0
      go_upto_region 5 with (fail)
      have e1 : IntKind.i64.wrap ((p : Int) - 1) = (p : Int) - 1 := IntWalk.i64_in _ (by omega)
      have e2 : ((p : Int) - 1).toNat = p - 1 := by omega
      have e3 : (0 : Int) ≤ (p : Int) - 1 := by omega
      have e4 : (1 : Int) ≤ (p : Int) := by omega
      have e5 : (p : Int) - 1 < (p : Int) := by omega
      have e6 : IntKind.i64.wrap ((n : Int) - (p : Int)) = (n : Int) - (p : Int) := IntWalk.i64_in _ (by omega)
      have e7 : IntKind.i64.wrap ((n : Int) - (p : Int) + 1) = (n : Int) - (p : Int) + 1 := IntWalk.i64_in _ (by omega)
      go_region_law (first
          | (refine step_elems natHE_ok (by rfl) _ _ (by rfl) w.heap.size (.slice (some ⟨G, 0, none⟩) p c) hs (by rfl) ?_ _ 1 1 [(Az, nz, cz)] (by rfl) ?_ (by omega) ?_ ?_ ?_; (exact World.ownsRow.alloc (HO.out.below_ hz0) _); (exact one_elem (E := NatHE) wz _); (have := HHL.out; simp only [List.length_singleton]; omega); (have h1 := hz0.size; have h2 := HB.out.size; simp; omega); intro v5 w5 hown5 hgrow5 hv5; have HOW5 := Lib.hid hown5; have HGW5 := Lib.hid hgrow5; clear hown5 hgrow5 hv5)
          | (go_simp; go_at_call 68; (with_reducible refine Calls.mono (newNat_m _ _ ?_) ?_); (omega); rintro e wx ⟨vx, rfl, hnx, hbx⟩; obtain ⟨Ax, nx, cx, rfl⟩ := hnx.form; have hx0 : Below wr.heap.size wr wx := (by first | exact hbx | exact below_undrw hbx); clear hbx; have kx := HHELD.out wx hx0; have HNX : Hid (NatAt wx (.slice Ax nx cx) (n - (p - 1)) 3) := (by have e : ((n : Int) - p + 1).toNat = n - (p - 1) := (by omega); rw [e] at hnx; exact hnx); clear hnx)
          | (go_simp; go_at_call 67; (with_reducible refine Calls.mono (times_q _ _ (chs n (p - 1)) (n - (p - 1)) 200 3 _ ?_ ?_ ?_ ?_) ?_); (exact HR.out.keep hx0); (exact HNX.out); (omega); (omega); rintro e wy ⟨vy, rfl, hny, hby⟩; obtain ⟨Ay, ny, cy, rfl⟩ := hny.form; have hy0 := below_trans' hx0 hby; have HNY := Lib.hid hny; clear hny hby)
          | (go_simp; go_at_call 97; (with_reducible refine Calls.mono (over_q _ (chs n (p - 1) * (n - (p - 1))) 203 p _ ?_ ?_ ?_ ?_) ?_); (exact HNY.out); (omega); (omega); (omega); rintro e wz ⟨vz, rfl, hnz, hbz⟩; obtain ⟨Az, nz, cz, rfl⟩ := hnz.form; have hz0 := below_trans' hy0 hbz; have HNZ : Hid (NatAt wz (.slice Az nz cz) (chs n p) 200) := (by rw [HDIV.out] at hnz; exact (hnz.fit (chs_fits (by omega) p)).wide (by omega)); clear hnz hbz))
      all_goals
        have HOW := Lib.hid (show Hid _ from HOW5).out
        have HNW := Lib.hid (ways_done HO.out HN.out HHL.out hz0 (r := (Az, nz, cz)) HNZ.out HGW5.out)
        have HBW : Hid (Below w.heap.size w w5) := ((below_trans' HB.out hz0).alloc (below_trans' HB.out hz0).size _).grown HGW5.out (by have := HB.out.size; have := hz0.size; simp; omega) (fun i e => (HO.out.lt i e).1)
        go_wp2_with fail
        all_goals
          go_roundg (gk - 1)
          case measure => have := HG.out; omega
          case rel => exact ⟨p + 1, hs ++ [(Az, nz, cz)], show p + 1 + (gk - 1) = k + 1 by have := HG.out; omega, by omega, by go_num, HOW.out, (by show _ = _; rw [List.length_append, HHL.out]; rfl), HNW, HBW⟩
    · have hli : ¬ (p : Int) ≤ (k : Int) := by omega
      have HF : Hid (WaysPost w n k (.returned u5) wr) := ⟨_, hs, rfl, HO.out, by have := HG.out; have := HL.out; omega, HN.out, HB.out⟩
      go_wp2_with fail
      go_ret
      exact HF.out
end Go.Proofs.YtmliaiinfgddhaaGreatDoor
