
/-
  What first, most, Most, Fewest return; the checks of samples and levels.
-/
import Derived.Test.YtmliaiinfgddhaaGreatDoorLikely
import Derived.Shelf.Abstract
namespace Go.Proofs.YtmliaiinfgddhaaGreatDoor
open Go.RowKit
attribute [local go_sem ↓] Go.wp_at_zero Go.wp_at_succ

theorem inB_yes (v lo hi : Int) (h0 : lo ≤ v) (h1 : v ≤ hi) : inB v lo hi = true := by
  unfold inB; simp; omega
def FirstPost (w : World) (r : Nat) (e : Ending) (w' : World) : Prop := e = .returned (.int .i64 (r : Int)) ∧ Below w.heap.size w w'
theorem firstF_step (p : Nat → Bool) (lo hi : Nat) (h : lo < hi) : firstF p (hi - lo) lo hi = if p (lo + (hi - lo) / 2) then firstF p (lo + (hi - lo) / 2 - lo) lo (lo + (hi - lo) / 2) else firstF p (hi - (lo + (hi - lo) / 2 + 1)) (lo + (hi - lo) / 2 + 1) hi := by
  obtain ⟨k, hk⟩ : ∃ k, hi - lo = k + 1 := ⟨hi - lo - 1, by omega⟩
  rw [hk, firstF, if_pos h, hk]
  split
  · exact firstF_fuel p _ _ _ _ (by omega) (by omega)
  · exact firstF_fuel p _ _ _ _ (by omega) (by omega)
theorem firstF_stop (p : Nat → Bool) (lo hi : Nat) (h : ¬ lo < hi) : firstF p (hi - lo) lo hi = lo := by
  rw [show hi - lo = 0 by omega, firstF]
set_option maxHeartbeats 1600000 in
set_option maxRecDepth 100000 in
theorem search_any (N : Nat) (cap : Array Value) (p : Nat → Bool) (lo hi : Nat) (w : World) (hh : hi ≤ 100000) (hle : lo ≤ hi)
    (eg : ∀ args w, (callFunc N args).run Tryz.prog w = .ok (.enter N args) w)
    (hp : ∀ n wx, lo ≤ n → n < hi → Below w.heap.size w wx → Calls Tryz.prog N (#[.int .i64 (n : Int)] ++ cap) wx fun e w' => e = .returned (.bool (p n)) ∧ Below wx.heap.size wx w') :
    Calls Tryz.prog 40 #[.int .i64 (lo : Int), .int .i64 (hi : Int), .func (.func N) #[] cap] w (FirstPost w (firstF p (hi - lo) lo hi)) := by
  have HP := Lib.hid hp
  clear hp
  go_enter Tryz.func40, Tryz.ntmps40
  go_wp2_with fail
  go_loopg [0, 1, 7] (hi - lo) (fun gk v0 v1 v7 wr => ∃ a b : Nat, Hid (b - a ≤ gk) ∧ a ≤ b ∧ Hid (lo ≤ a ∧ b ≤ hi) ∧ v0 = .int .i64 (a : Int) ∧ v1 = .int .i64 (b : Int) ∧ Hid (firstF p (hi - lo) lo hi = firstF p (b - a) a b) ∧ Below w.heap.size w wr)
  case atStart => exact ⟨lo, hi, Nat.le_refl _, hle, ⟨Nat.le_refl _, Nat.le_refl _⟩, rfl, rfl, rfl, Below.refl _ _⟩
  case round =>
    obtain ⟨a, b, HG, hab, HR, rfl, rfl, HF, hb⟩ := hrel
    have hbh : b ≤ 100000 := by have := HR.out.2; omega
    by_cases hlt : a < b
    · have hli : (a : Int) < (b : Int) := by omega
      obtain ⟨m, hm⟩ : ∃ m, m = a + (b - a) / 2 := ⟨_, rfl⟩
      have hmi : (a : Int) + ((b : Int) - (a : Int)) / 2 = (m : Int) := by omega
      have HST := Lib.hid (firstF_step p a b hlt)
      rw [← hm] at HST
      have hma : a ≤ m := by omega
      have hmb : m < b := by omega
      clear hm
      obtain ⟨bb, hbb⟩ : ∃ bb, p m = bb := ⟨_, rfl⟩
      have HC := Lib.hid (HP.out m wr (by have := HR.out.1; omega) (by have := HR.out.2; omega) hb)
      rw [hbb] at HC HST
      clear hbb
      have HMI := Lib.hid hmi
      clear hmi
      go_wp2_with fail
      rw [HMI.out]
      refine HC.out.mono ?_
      rintro e w' ⟨rfl, hb'⟩
      have hbw := below_trans' hb hb'
      cases bb
      · go_wp2_with fail
        go_roundg (gk - 1)
        case measure => have := HG.out; omega
        case rel => exact ⟨m + 1, b, show b - (m + 1) ≤ gk - 1 by have := HG.out; omega, by omega, ⟨by have := HR.out.1; omega, HR.out.2⟩, by go_num, rfl, by show _ = _; rw [HF.out, HST.out]; rfl, hbw⟩
      · go_wp2_with fail
        go_roundg (gk - 1)
        case measure => have := HG.out; omega
        case rel => exact ⟨a, m, show m - a ≤ gk - 1 by have := HG.out; omega, hma, ⟨HR.out.1, by have := HR.out.2; omega⟩, rfl, rfl, by show _ = _; rw [HF.out, HST.out]; rfl, hbw⟩
    · have hli : ¬ (a : Int) < (b : Int) := by omega
      have HS := Lib.hid (firstF_stop p a b hlt)
      go_wp2_with fail
      go_ret
      exact ⟨by rw [HF.out, HS.out]; rfl, hb⟩
theorem search_i (N : Nat) (cap : Array Value) (p : Nat → Bool) (lo hi : Nat) (zl zh : Int) (w : World) (el : zl = lo) (eh : zh = hi) (hh : hi ≤ 100000) (hle : lo ≤ hi)
    (eg : ∀ args w, (callFunc N args).run Tryz.prog w = .ok (.enter N args) w)
    (hp : ∀ n wx, lo ≤ n → n < hi → Below w.heap.size w wx → Calls Tryz.prog N (#[.int .i64 (n : Int)] ++ cap) wx fun e w' => e = .returned (.bool (p n)) ∧ Below wx.heap.size wx w') :
    Calls Tryz.prog 40 #[.int .i64 zl, .int .i64 zh, .func (.func N) #[] cap] w (FirstPost w (firstF p (hi - lo) lo hi)) := by
  subst el eh
  exact search_any N cap p lo hi w hh hle eg hp
theorem entersM : ∀ args w, (callFunc 64 args).run Tryz.prog w = .ok (.enter 64 args) w := enters_of Tryz.func64 (by kernel_rfl) rfl
theorem entersF : ∀ args w, (callFunc 41 args).run Tryz.prog w = .ok (.enter 41 args) w := enters_of Tryz.func41 (by kernel_rfl) rfl
set_option maxHeartbeats 1600000 in
set_option maxRecDepth 100000 in
theorem mostF_any (P Q N s f K num den : Nat) (w : World) (hN : N ≤ 2000) (hs : s ≤ 100) (hf : f ≤ s) (hK : K ≤ N) (hn : num ≤ den) (hd : den ≤ 1000) (hP : BoxD w P N s f) (hQ : BoxF w Q num den) :
    Calls Tryz.prog 64 #[.int .i64 (K : Int), .pointer (some ⟨P, 0, none⟩), .pointer (some ⟨Q, 0, none⟩)] w fun e w' => e = .returned (.bool (!lik (lowN N s K f) (chs N s) num den)) ∧ Below w.heap.size w w' := by
  obtain ⟨a0, a1, a2⟩ := hP.c
  obtain ⟨b0, b1⟩ := hQ.c
  have HL := Lib.hid (fun wx => likely_any N s f K 0 f num den wx hN hs hK hf (by omega) hn hd)
  have HE : Hid (sumF (trm K (N - K) s) 0 (f + 1 - 0) = lowN N s K f) := rfl
  go_enter Tryz.func64, Tryz.ntmps64
  go_wp2_with fail
  refine (HL.out _).mono ?_
  rw [HE.out]
  rintro e w' ⟨rfl, hb⟩
  obtain ⟨bb, hbb⟩ : ∃ bb, lik (lowN N s K f) (chs N s) num den = bb := ⟨_, rfl⟩
  rw [hbb]
  have HBB := Lib.hid hbb; clear hbb
  go_wp2_with fail
  go_ret
  exact ⟨by rw [HBB.out]; rfl, hb⟩
set_option maxHeartbeats 1600000 in
set_option maxRecDepth 100000 in
theorem fewF_any (P Q N s f K num den : Nat) (w : World) (hN : N ≤ 2000) (hs : s ≤ 100) (hf : f ≤ s) (hK : K ≤ N) (hn : num ≤ den) (hd : den ≤ 1000) (hP : BoxD w P N s f) (hQ : BoxF w Q num den) :
    Calls Tryz.prog 41 #[.int .i64 (K : Int), .pointer (some ⟨P, 0, none⟩), .pointer (some ⟨Q, 0, none⟩)] w fun e w' => e = .returned (.bool (lik (highN N s K f) (chs N s) num den)) ∧ Below w.heap.size w w' := by
  obtain ⟨a0, a1, a2⟩ := hP.c
  obtain ⟨b0, b1⟩ := hQ.c
  have HL := Lib.hid (fun wx => likely_any N s f K f s num den wx hN hs hK (Nat.le_refl _) (by omega) hn hd)
  have HE : Hid (sumF (trm K (N - K) s) f (s + 1 - f) = highN N s K f) := rfl
  go_enter Tryz.func41, Tryz.ntmps41
  go_wp2_with fail
  refine (HL.out _).mono ?_
  rw [HE.out]
  rintro e w' ⟨rfl, hb⟩
  obtain ⟨bb, hbb⟩ : ∃ bb, lik (highN N s K f) (chs N s) num den = bb := ⟨_, rfl⟩
  rw [hbb]
  have HBB := Lib.hid hbb; clear hbb
  go_wp2_with fail
  go_ret
  exact ⟨by rw [HBB.out]; rfl, hb⟩
set_option maxHeartbeats 1600000 in
set_option maxRecDepth 100000 in
theorem most_any (N s f num den : Nat) (w : World) (hN : N ≤ 2000) (hs : s ≤ 100) (hsN : s ≤ N) (hf : f ≤ s) (hn : num ≤ den) (hd : den ≤ 1000) :
    Calls Tryz.prog 39 #[.agg #[.int .i64 (N : Int), .int .i64 (s : Int), .int .i64 (f : Int)], .agg #[.int .i64 (num : Int), .int .i64 (den : Int)]] w (FirstPost w (mostV N s f num den)) := by
  go_enter Tryz.func39, Tryz.ntmps39
  go_upto_region 1 with (fail)
  obtain ⟨hp, hq, hB⟩ := two_boxes w (.cells #[.int .i64 (N : Int), .int .i64 (s : Int), .int .i64 (f : Int)] 45) (.cells #[.int .i64 (num : Int), .int .i64 (den : Int)] 31)
  generalize (w.alloc (.cells #[.int .i64 (N : Int), .int .i64 (s : Int), .int .i64 (f : Int)] 45)).alloc (.cells #[.int .i64 (num : Int), .int .i64 (den : Int)] 31) = w1 at *
  have HP : Hid (BoxD w1 w.heap.size N s f) := hp
  have HQ : Hid (BoxF w1 (w.heap.size + 1) num den) := hq
  have HB := Lib.hid hB
  clear hp hq hB
  obtain ⟨a0, a1, a2⟩ := HP.out.c
  have e1 : IntKind.i64.wrap ((N : Int) - (s : Int)) = ((N - s : Nat) : Int) := by rw [IntWalk.i64_in _ (by omega)]; omega
  have e2 : IntKind.i64.wrap (((N - s : Nat) : Int) + (f : Int)) = ((N - s + f : Nat) : Int) := by rw [IntWalk.i64_in _ (by omega)]; omega
  have HS := Lib.hid (search_i 64 #[.pointer (some ⟨w.heap.size, 0, none⟩), .pointer (some ⟨w.heap.size + 1, 0, none⟩)] (fun K => !lik (lowN N s K f) (chs N s) num den) (f + 1) (N - s + f + 1) ((f : Int) + 1) (((N - s : Nat) : Int) + (f : Int) + 1) w1 (by omega) (by omega) (by omega) (by omega) entersM
    (fun n wx hn1 hn2 hbx => mostF_any _ _ N s f n num den wx hN hs hf (by omega) hn hd (HP.out.keep hbx) (HQ.out.keep hbx)))
  have HM : Hid (firstF (fun K => !lik (lowN N s K f) (chs N s) num den) (N - s + f + 1 - (f + 1)) (f + 1) (N - s + f + 1) = mostV N s f num den + 1) := by
    show _ = _
    rw [firstF_fuel _ _ (N + 1) _ _ (Nat.le_refl _) (by omega)]
    have := (firstF_spec (fun K => !lik (lowN N s K f) (chs N s) num den) (N + 1) (f + 1) (N - s + f + 1) (by omega) (by omega)).1
    unfold mostV
    omega
  have hmv := (most_spec (N := N) (s := s) (f := f) (num := num) (den := den)).2.1
  rw [HM.out] at HS
  clear HM
  obtain ⟨M, hM⟩ : ∃ M, mostV N s f num den = M := ⟨_, rfl⟩
  rw [hM] at HS hmv
  have HMV := Lib.hid hM; clear hM
  go_wp2_with fail
  refine HS.out.mono ?_
  rintro e w' ⟨rfl, hb⟩
  have HB2 := Lib.hid (HB.out.trans (hb.mono HB.out.size))
  have e3 : ((M + 1 : Nat) : Int) - 1 = (M : Int) := by omega
  clear hb HS
  go_wp2_with fail
  go_ret
  exact ⟨by rw [HMV.out]; simp, HB2.out⟩
def MinI (N : Nat) : Int := if (N : Int) < 60 then (N : Int) else 60
set_option maxHeartbeats 1600000 in
set_option maxRecDepth 100000 in
theorem checkDrawn_ok (N s f : Nat) (w : World) (hN0 : 1 ≤ N) (hN : N ≤ 2000) (hs0 : 1 ≤ s) (hs : s ≤ 60) (hsN : s ≤ N) (hf : f ≤ s) :
    Calls Tryz.prog 63 #[.agg #[.int .i64 (N : Int), .int .i64 (s : Int), .int .i64 (f : Int)]] w fun e w' => e = .returned (.int .i64 0) ∧ Below w.heap.size w w' := by
  have h1 := fun w => in_any (N : Int) 1 2000 w
  rw [inB_yes _ _ _ (by omega) (by omega)] at h1
  have h2 := fun z (hz : (s : Int) ≤ z) w => by have k := in_any (s : Int) 1 z w; rw [inB_yes _ _ _ (by omega) hz] at k; exact k
  have h3 := fun w => in_any (f : Int) 0 (s : Int) w
  rw [inB_yes _ _ _ (by omega) (by omega)] at h3
  have H1 := Lib.hid h1
  have H2 := Lib.hid h2
  have H3 := Lib.hid h3
  clear h1 h2 h3
  go_enter Tryz.func63, Tryz.ntmps63
  go_wp2_with fail
  refine (H1.out _).mono ?_
  rintro e w' ⟨rfl, hw⟩
  subst hw
  go_wp2_with fail
  all_goals
    refine (H2.out _ (by omega) _).mono ?_
    rintro e w' ⟨rfl, hw⟩
    subst hw
    go_wp2_with fail
    refine (H3.out _).mono ?_
    rintro e w' ⟨rfl, hw⟩
    subst hw
    go_wp2_with fail
    refine (when_any false 1 _).mono ?_
    rintro e w' ⟨rfl, hw⟩
    subst hw
    go_wp2_with fail
    go_ret
    exact ⟨rfl, (Below.refl _ _).alloc (Nat.le_refl _) _⟩
set_option maxHeartbeats 1600000 in
set_option maxRecDepth 100000 in
theorem checkLevel_ok (a b : Nat) (w : World) (hb0 : 2 ≤ b) (hb : b ≤ 1000) (ha0 : 1 ≤ a) (ha : a < b) :
    Calls Tryz.prog 45 #[.agg #[.int .i64 (a : Int), .int .i64 (b : Int)]] w fun e w' => e = .returned (.int .i64 0) ∧ Below w.heap.size w w' := by
  have h1 := fun w => in_any (b : Int) 2 1000 w
  rw [inB_yes _ _ _ (by omega) (by omega)] at h1
  have h2 := fun w => in_any (a : Int) 1 ((b : Int) - 1) w
  rw [inB_yes _ _ _ (by omega) (by omega)] at h2
  have H1 := Lib.hid h1
  have H2 := Lib.hid h2
  clear h1 h2
  go_enter Tryz.func45, Tryz.ntmps45
  go_wp2_with fail
  refine (H1.out _).mono ?_
  rintro e w' ⟨rfl, hw⟩
  subst hw
  go_wp2_with fail
  refine (H2.out _).mono ?_
  rintro e w' ⟨rfl, hw⟩
  subst hw
  go_wp2_with fail
  refine (when_any false 1 _).mono ?_
  rintro e w' ⟨rfl, hw⟩
  subst hw
  go_wp2_with fail
  go_ret
  exact ⟨rfl, (Below.refl _ _).alloc (Nat.le_refl _) _⟩
theorem first_2n (g : Nat) (w : World) (h : g = w.heap.size) (t : TypeId) : Calls Tryz.prog 27 #[.slice (some ⟨g, 0, none⟩) 2 2] (w.alloc (.cells #[.int .i64 0, .int .i64 0] t)) fun e w' => e = .returned (.int .i64 0) ∧ (w.alloc (.cells #[.int .i64 0, .int .i64 0] t)) = w' := by
  subst h
  refine first_any _ 2 2 [0, 0] _ rfl (by omega) (fun j hj => ?_)
  rw [World.cell?_alloc_at _ _ _ _ rfl]
  match j, hj with
  | 0, _ => rfl
  | 1, _ => rfl
set_option maxHeartbeats 1600000 in
set_option maxRecDepth 100000 in
theorem drawnError_ok (N s f a b : Nat) (w : World) (hN0 : 1 ≤ N) (hN : N ≤ 2000) (hs0 : 1 ≤ s) (hs : s ≤ 60) (hsN : s ≤ N) (hf : f ≤ s) (hb0 : 2 ≤ b) (hb : b ≤ 1000) (ha0 : 1 ≤ a) (ha : a < b) :
    Calls Tryz.prog 38 #[.agg #[.int .i64 (N : Int), .int .i64 (s : Int), .int .i64 (f : Int)], .agg #[.int .i64 (a : Int), .int .i64 (b : Int)]] w fun e w' => e = .returned (.int .i64 0) ∧ Below w.heap.size w w' := by
  have HD := Lib.hid (fun wx => checkDrawn_ok N s f wx hN0 hN hs0 hs hsN hf)
  have HL := Lib.hid (fun wx => checkLevel_ok a b wx hb0 hb ha0 ha)
  go_enter Tryz.func38, Tryz.ntmps38
  go_upto_region 1 with (fail)
  obtain ⟨hp, hq, hB⟩ := two_boxes w (.cells #[.int .i64 (N : Int), .int .i64 (s : Int), .int .i64 (f : Int)] 45) (.cells #[.int .i64 (a : Int), .int .i64 (b : Int)] 31)
  generalize (w.alloc (.cells #[.int .i64 (N : Int), .int .i64 (s : Int), .int .i64 (f : Int)] 45)).alloc (.cells #[.int .i64 (a : Int), .int .i64 (b : Int)] 31) = w1 at *
  have HP : Hid (BoxD w1 w.heap.size N s f) := hp
  have HQ : Hid (BoxF w1 (w.heap.size + 1) a b) := hq
  have HB := Lib.hid hB
  clear hp hq hB
  have HHELD : Hid (∀ w', Below w1.heap.size w1 w' → w'.cell? ⟨w.heap.size, 0, none⟩ = some (.int .i64 (N : Int)) ∧ w'.cell? ⟨w.heap.size, 1, none⟩ = some (.int .i64 (s : Int)) ∧ w'.cell? ⟨w.heap.size, 2, none⟩ = some (.int .i64 (f : Int)) ∧ w'.cell? ⟨w.heap.size + 1, 0, none⟩ = some (.int .i64 (a : Int)) ∧ w'.cell? ⟨w.heap.size + 1, 1, none⟩ = some (.int .i64 (b : Int))) := fun w' hw => by
    obtain ⟨x0, x1, x2⟩ := (HP.out.keep hw).c
    obtain ⟨y0, y1⟩ := (HQ.out.keep hw).c
    exact ⟨x0, x1, x2, y0, y1⟩
  obtain ⟨a0, a1, a2, b0, b1⟩ := HHELD.out w1 (Below.refl _ _)
  go_region_held3 (fun w' => w'.cell? ⟨w.heap.size, 0, none⟩ = some (.int .i64 (N : Int)) ∧ w'.cell? ⟨w.heap.size, 1, none⟩ = some (.int .i64 (s : Int)) ∧ w'.cell? ⟨w.heap.size, 2, none⟩ = some (.int .i64 (f : Int)) ∧ w'.cell? ⟨w.heap.size + 1, 0, none⟩ = some (.int .i64 (a : Int)) ∧ w'.cell? ⟨w.heap.size + 1, 1, none⟩ = some (.int .i64 (b : Int)))
    (first | assumption | exact HHELD.out _ ((Below.refl _ _).drew) | exact HHELD.out _ hx0 | exact HHELD.out _ hy0 | exact HHELD.out _ (hx0.alloc hx0.size _) | exact HHELD.out _ (hy0.alloc hy0.size _))
    (first
      | (go_at_call 63; (with_reducible refine Calls.mono (HD.out _) ?_); rintro e wx ⟨rfl, hbx⟩; have hx0 : Below w1.heap.size w1 wx := (by first | exact below_trans' hy0 hbx | exact below_undrw hbx); clear hbx)
      | (go_at_call 45; (with_reducible refine Calls.mono (HL.out _) ?_); rintro e wy ⟨rfl, hby⟩; have hy0 : Below w1.heap.size w1 wy := (by first | exact below_trans' hx0 hby | exact below_undrw hby); clear hby)
      | (go_at_call 27; (with_reducible refine Calls.mono (first_2n _ _ rfl _) ?_); rintro e wz ⟨rfl, hwz⟩; obtain rfl := hwz))
  all_goals
    go_wp2_with fail
    go_ret
    first
      | exact ⟨rfl, HB.out.trans ((hx0.alloc hx0.size _).mono HB.out.size)⟩
      | exact ⟨rfl, HB.out.trans ((hy0.alloc hy0.size _).mono HB.out.size)⟩
def PairPost (w : World) (r : Nat) (e : Ending) (w' : World) : Prop := e = .returned (.tuple #[.int .i64 (r : Int), .int .i64 0]) ∧ Below w.heap.size w w'
set_option maxHeartbeats 1600000 in
set_option maxRecDepth 100000 in
theorem Most_any (N s f a b : Nat) (w : World) (hN0 : 1 ≤ N) (hN : N ≤ 2000) (hs0 : 1 ≤ s) (hs : s ≤ 60) (hsN : s ≤ N) (hf : f ≤ s) (hb0 : 2 ≤ b) (hb : b ≤ 1000) (ha0 : 1 ≤ a) (ha : a < b) :
    Calls Tryz.prog 20 #[.agg #[.int .i64 (N : Int), .int .i64 (s : Int), .int .i64 (f : Int)], .agg #[.int .i64 (a : Int), .int .i64 (b : Int)]] w (PairPost w (mostV N s f a b)) := by
  have HD := Lib.hid (fun wx => drawnError_ok N s f a b wx hN0 hN hs0 hs hsN hf hb0 hb ha0 ha)
  have HM := Lib.hid (fun wx => most_any N s f a b wx hN (by omega) hsN hf (by omega) hb)
  obtain ⟨M, hM⟩ : ∃ M, mostV N s f a b = M := ⟨_, rfl⟩
  rw [hM] at HM ⊢
  clear hM
  go_enter Tryz.func20, Tryz.ntmps20
  go_upto_region 1 with (fail)
  obtain ⟨hp, hq, hB⟩ := two_boxes w (.cells #[.int .i64 (N : Int), .int .i64 (s : Int), .int .i64 (f : Int)] 45) (.cells #[.int .i64 (a : Int), .int .i64 (b : Int)] 31)
  generalize (w.alloc (.cells #[.int .i64 (N : Int), .int .i64 (s : Int), .int .i64 (f : Int)] 45)).alloc (.cells #[.int .i64 (a : Int), .int .i64 (b : Int)] 31) = w1 at *
  have HP : Hid (BoxD w1 w.heap.size N s f) := hp
  have HQ : Hid (BoxF w1 (w.heap.size + 1) a b) := hq
  have HB := Lib.hid hB
  clear hp hq hB
  obtain ⟨a0, a1, a2⟩ := HP.out.c
  obtain ⟨b0, b1⟩ := HQ.out.c
  go_wp2_with fail
  refine (HD.out _).mono ?_
  rintro e w2 ⟨rfl, hb2⟩
  obtain ⟨c0, c1, c2⟩ := (HP.out.keep hb2).c
  obtain ⟨d0, d1⟩ := (HQ.out.keep hb2).c
  go_wp2_with fail
  refine (HM.out _).mono ?_
  rintro e w3 ⟨rfl, hb3⟩
  have HB3 := Lib.hid (HB.out.trans ((below_trans' hb2 hb3).mono HB.out.size))
  go_wp2_with fail
  go_ret2
  exact ⟨rfl, HB3.out⟩
set_option maxHeartbeats 1600000 in
set_option maxRecDepth 100000 in
theorem Fewest_any (N s f a b : Nat) (w : World) (hN0 : 1 ≤ N) (hN : N ≤ 2000) (hs0 : 1 ≤ s) (hs : s ≤ 60) (hsN : s ≤ N) (hf : f ≤ s) (hb0 : 2 ≤ b) (hb : b ≤ 1000) (ha0 : 1 ≤ a) (ha : a < b) :
    Calls Tryz.prog 21 #[.agg #[.int .i64 (N : Int), .int .i64 (s : Int), .int .i64 (f : Int)], .agg #[.int .i64 (a : Int), .int .i64 (b : Int)]] w (PairPost w (fewV N s f a b)) := by
  have HD := Lib.hid (fun wx => drawnError_ok N s f a b wx hN0 hN hs0 hs hsN hf hb0 hb ha0 ha)
  go_enter Tryz.func21, Tryz.ntmps21
  go_upto_region 1 with (fail)
  obtain ⟨hp, hq, hB⟩ := two_boxes w (.cells #[.int .i64 (N : Int), .int .i64 (s : Int), .int .i64 (f : Int)] 45) (.cells #[.int .i64 (a : Int), .int .i64 (b : Int)] 31)
  generalize (w.alloc (.cells #[.int .i64 (N : Int), .int .i64 (s : Int), .int .i64 (f : Int)] 45)).alloc (.cells #[.int .i64 (a : Int), .int .i64 (b : Int)] 31) = w1 at *
  have HP : Hid (BoxD w1 w.heap.size N s f) := hp
  have HQ : Hid (BoxF w1 (w.heap.size + 1) a b) := hq
  have HB := Lib.hid hB
  clear hp hq hB
  obtain ⟨a0, a1, a2⟩ := HP.out.c
  obtain ⟨b0, b1⟩ := HQ.out.c
  go_wp2_with fail
  refine (HD.out _).mono ?_
  rintro e w2 ⟨rfl, hb2⟩
  have HP2 := Lib.hid (HP.out.keep hb2)
  have HQ2 := Lib.hid (HQ.out.keep hb2)
  obtain ⟨c0, c1, c2⟩ := HP2.out.c
  obtain ⟨d0, d1⟩ := HQ2.out.c
  have e1 : IntKind.i64.wrap ((N : Int) - (s : Int)) = ((N - s : Nat) : Int) := by rw [IntWalk.i64_in _ (by omega)]; omega
  have e2 : IntKind.i64.wrap (((N - s : Nat) : Int) + (f : Int)) = ((N - s + f : Nat) : Int) := by rw [IntWalk.i64_in _ (by omega)]; omega
  have HS := Lib.hid (search_i 41 #[.pointer (some ⟨w.heap.size, 0, none⟩), .pointer (some ⟨w.heap.size + 1, 0, none⟩)] (fun K => lik (highN N s K f) (chs N s) a b) f (N - s + f) (f : Int) (((N - s : Nat) : Int) + (f : Int)) w2 rfl (by omega) (by omega) (by omega) entersF
    (fun n wx hn1 hn2 hbx => fewF_any _ _ N s f n a b wx hN (by omega) hf (by omega) (by omega) hb (HP2.out.keep hbx) (HQ2.out.keep hbx)))
  have HM : Hid (firstF (fun K => lik (highN N s K f) (chs N s) a b) (N - s + f - f) f (N - s + f) = fewV N s f a b) := by
    show _ = _
    rw [firstF_fuel _ _ (N + 1) _ _ (Nat.le_refl _) (by omega)]
    rfl
  rw [HM.out] at HS
  clear HM
  obtain ⟨M, hM⟩ : ∃ M, fewV N s f a b = M := ⟨_, rfl⟩
  rw [hM] at HS
  have HMV := Lib.hid hM; clear hM
  go_wp2_with fail
  refine HS.out.mono ?_
  rintro e w3 ⟨rfl, hb3⟩
  have HB3 := Lib.hid (HB.out.trans ((below_trans' hb2 hb3).mono HB.out.size))
  clear hb3 HS
  go_wp2_with fail
  go_ret2
  exact ⟨by rw [HMV.out]; rfl, HB3.out⟩
end Go.Proofs.YtmliaiinfgddhaaGreatDoor
