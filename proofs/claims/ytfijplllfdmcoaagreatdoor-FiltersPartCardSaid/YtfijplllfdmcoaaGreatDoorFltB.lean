
/-
  What CheckFilter asks of the parts of a filter: the word of a kind, the window, the form of a sum.
  intake.why: a number.
  CheckFilter as a function of a filter's parts.
  CheckFilter at a filter of few names and sums: what it returns.
  intake.Keep at right items and a filter: the error of the filter, or the items whose top is in some set.
  FiltersPart returns true.
-/
import Derived.Test.YtfijplllfdmcoaaGreatDoorFltGen
import Derived.Test.YtfijplllfdmcoaaGreatDoorFltA
import Derived.Test.YtfijplllfdmcoaaGreatDoorTreeFault
import Derived.Test.YtfijplllfdmcoaaGreatDoorStands
import Derived.Test.YtfijplllfdmcoaaGreatDoorStreamNew
import Derived.Test.YtfijplllfdmcoaaGreatDoorRightItems

namespace Go.Proofs.YtfijplllfdmcoaaGreatDoor
open Go.RowKit

/-- Whether there is such a kind. -/
def kindOkB (z : Int) : Bool := decide (1 ≤ z ∧ z ≤ 4)
set_option maxHeartbeats 800000 in
theorem kindWordE_any (z : Int) (w : World) : Calls Tryz.prog 42 #[.int .i64 z] w fun e w' => (∃ s : ByteArray, e = .returned (.string s) ∧ (s = ⟨#[]⟩ ↔ kindOkB z = false)) ∧ w' = w := by
  by_cases h : 1 ≤ z ∧ z ≤ 4
  · refine (kindL_any z w h).mono ?_
    rintro e w' ⟨rfl, rfl⟩
    refine ⟨⟨_, rfl, ?_⟩, rfl⟩
    have hz : z = 1 ∨ z = 2 ∨ z = 3 ∨ z = 4 := by omega
    rcases hz with rfl | rfl | rfl | rfl <;> decide
  · have h1 : ¬ z = 1 := by omega
    have h2 : ¬ z = 2 := by omega
    have h3 : ¬ z = 3 := by omega
    have h4 : ¬ z = 4 := by omega
    have hk : kindOkB z = false := by simp only [kindOkB, decide_eq_false_iff_not]; exact h
    go_enter Tryz.func42, Tryz.ntmps42
    go_wp2_with fail
    go_ret
    exact ⟨⟨_, rfl, by simp [hk]⟩, rfl⟩
def winB (x y : Int) : Bool := decide (0 ≤ x) && decide (x ≤ y) && decide (y ≤ 5761440)
set_option maxHeartbeats 800000 in
theorem window_any (x y : Int) (w : World) : Calls Tryz.prog 44 #[.agg #[.int .i64 x, .int .i64 y]] w fun e w' => e = .returned (.bool (winB x y)) ∧ Below w.heap.size w w' := by
  have hb : Below w.heap.size w (w.alloc (.cells #[.int .i64 x, .int .i64 y] 31)) := (Below.refl _ _).alloc (Nat.le_refl _) _
  by_cases h1 : 0 ≤ x <;> by_cases h2 : x ≤ y <;> by_cases h3 : y ≤ 5761440
  all_goals try (exfalso; omega)
  all_goals
    have HW : Hid (winB x y = (decide (0 ≤ x) && decide (x ≤ y) && decide (y ≤ 5761440))) := rfl
    have HZ := Lib.hid (And.intro h1 (And.intro h2 h3))
    go_enter Tryz.func44, Tryz.ntmps44
    go_wp2_with fail
    go_ret
    exact ⟨ret_bool (by rw [HW.out]; obtain ⟨a1, a2, a3⟩ := HZ.out; simp [a1, a2, a3]), hb⟩
/-- Whether a byte stands in a sum. -/
def sumC (c : UInt8) : Bool := digB (c.toNat : Int) || (decide (97 ≤ (c.toNat : Int)) && decide ((c.toNat : Int) ≤ 102))
def isSumL (l : List UInt8) : Bool := l.all sumC && decide (l.length = 16)
set_option maxHeartbeats 1600000 in
set_option maxRecDepth 100000 in
theorem isSum_any (s : ByteArray) (w : World) (hs : s.size ≤ 1000000) : Calls Tryz.prog 45 #[.string s] w fun e w' => e = .returned (.bool (isSumL s.data.toList)) ∧ w' = w := by
  have HLEN : Hid (s.data.toList.length = s.size) := by show _ = _; simp
  go_enter Tryz.func45, Tryz.ntmps45
  go_wp2_with fail
  go_loopg [7] s.size (fun gk i wr => ∃ (k : Nat), Hid (k + gk = s.size) ∧ i = .int .i64 k ∧ Hid ((s.data.toList.take k).all sumC = true) ∧ w = wr)
  case atStart => exact ⟨0, show 0 + s.size = _ by omega, rfl, (show _ = _ by simp), rfl⟩
  case round =>
    obtain ⟨k, HK, rfl, HA, rfl⟩ := hrel
    have hkn : k ≤ s.size := by have := HK.out; omega
    by_cases hlt : k < s.size
    · have HGK := Lib.hid (show k + 1 + (gk - 1) = s.size ∧ 0 < gk by have := HK.out; omega)
      have hkl : k < s.data.toList.length := by rw [HLEN.out]; exact hlt
      have HX : Hid (s.data.toList[k]? = some (s[k]'hlt)) := by
        show _ = _
        rw [List.getElem?_eq_getElem hkl]; rfl
      have HTK : Hid (s.data.toList.take (k + 1) = s.data.toList.take k ++ [s[k]'hlt]) := by
        show _ = _
        obtain ⟨h1, h2⟩ := List.getElem?_eq_some_iff.1 HX.out
        rw [List.take_succ_eq_append_getElem h1, h2]
      clear hkl HK
      go_wp2_with fail
      refine (digit_any _ w).mono ?_
      rintro e w2 ⟨rfl, hw⟩
      obtain rfl := hw
      generalize hc : s[k]'hlt = c at *
      have HBAD : Hid (sumC c = false → isSumL s.data.toList = false) := fun hb => by
        unfold isSumL
        have hf : s.data.toList.all sumC = false := by
          rw [List.all_eq_false]
          exact ⟨c, List.mem_of_getElem? HX.out, by simp [hb]⟩
        rw [hf]; rfl
      have HNEXT : Hid (sumC c = true → (s.data.toList.take (k + 1)).all sumC = true) := fun hg => by
        rw [HTK.out, List.all_append, HA.out]
        simp [hg]
      have HS : Hid (sumC c = (digB (c.toNat : Int) || (decide (97 ≤ (c.toNat : Int)) && decide ((c.toNat : Int) ≤ 102)))) := rfl
      clear hc HX HTK HA
      generalize sumC c = sc at *
      by_cases hd : digB (c.toNat : Int) = true
      · rw [hd] at HS ⊢
        have HGO := Lib.hid (HNEXT.out (by rw [HS.out]; rfl))
        clear hd
        go_wp2_with fail
        go_roundg (gk - 1)
        case measure => have := HGK.out; omega
        case rel => exact ⟨k + 1, HGK.out.1, by go_num, HGO.out, rfl⟩
      · have hd' : digB (c.toNat : Int) = false := by simpa using hd
        rw [hd'] at HS ⊢
        clear hd hd'
        by_cases h1 : 97 ≤ (c.toNat : Int)
        · by_cases h2 : (c.toNat : Int) ≤ 102
          · have HGO := Lib.hid (HNEXT.out (by rw [HS.out]; simp [h1, h2]))
            go_wp2_with fail
            go_roundg (gk - 1)
            case measure => have := HGK.out; omega
            case rel => exact ⟨k + 1, HGK.out.1, by go_num, HGO.out, rfl⟩
          · have HB := Lib.hid (HBAD.out (by rw [HS.out]; simp [h2]))
            go_wp2_with fail
            all_goals first
              | (go_ret; exact ⟨by rw [HB.out]; rfl, rfl⟩)
              | (exfalso; simp_all; omega)
        · have HB := Lib.hid (HBAD.out (by rw [HS.out]; simp [h1]))
          go_wp2_with fail
          go_ret
          exact ⟨by rw [HB.out]; first | rfl | simp, rfl⟩
    · have hnk : ¬ (k : Int) < (s.size : Int) := by omega
      have hta : s.data.toList.take k = s.data.toList := List.take_of_length_le (by rw [HLEN.out]; omega)
      rw [hta] at HA
      have HF : Hid (isSumL s.data.toList = decide ((s.size : Int) = 16)) := by
        show _ = _
        unfold isSumL
        rw [HA.out, HLEN.out, Bool.true_and]
        by_cases h : s.size = 16
        · simp [h]
        · simp [h]; omega
      clear hta
      go_wp2_with fail
      go_ret
      exact ⟨by rw [HF.out]; first | rfl | simp, rfl⟩
end Go.Proofs.YtfijplllfdmcoaaGreatDoor

namespace Go.Proofs.YtfijplllfdmcoaaGreatDoor
open Go.RowKit Go.Maps

set_option maxHeartbeats 3200000 in
set_option maxRecDepth 100000 in
theorem why_any (x : Itm) (Ak : Option Addr) (nk ck : Nat) (lk : List Int) (Aq : Option Addr) (nq cq : Nat) (lq : List Str) (Av : Option Addr) (nv cv : Nat) (lv : List Str) (a b : Int) (w : World) (hk : ElemsAt IntE w Ak nk ck lk) (hq : StrsAt w Aq nq cq lq) (hv : StrsAt w Av nv cv lv)
    (hnk : nk ≤ 1000) (hnq : nq ≤ 1000) (hnv : nv ≤ 1000) (hS : StandAt w) (hkd : 1 ≤ x.kind ∧ x.kind ≤ 4) (ht : x.text.size ≤ 500000) :
    Calls Tryz.prog 39 #[x.v, .agg #[.slice Ak nk ck, .slice Aq nq cq, .int .i64 a, .int .i64 b, .slice Av nv cv]] w fun e w' => (∃ z : Int, e = .returned (.int .i64 z)) ∧ Below w.heap.size w w' := by
  have hb1 : Below w.heap.size w (w.alloc (.cells #[.string x.id, .string x.cu, .int .i64 x.kind, .string x.name, .int .i64 x.at_, .string x.par, .string x.text] 60)) := (Below.refl _ _).alloc (Nat.le_refl _) _
  have HI1 : Hid (ItemAt (w.alloc (.cells #[.string x.id, .string x.cu, .int .i64 x.kind, .string x.name, .int .i64 x.at_, .string x.par, .string x.text] 60)) w.heap.size x) := item_new w x
  have hb2 : Below (w.alloc (.cells #[.string x.id, .string x.cu, .int .i64 x.kind, .string x.name, .int .i64 x.at_, .string x.par, .string x.text] 60)).heap.size (w.alloc (.cells #[.string x.id, .string x.cu, .int .i64 x.kind, .string x.name, .int .i64 x.at_, .string x.par, .string x.text] 60)) ((w.alloc (.cells #[.string x.id, .string x.cu, .int .i64 x.kind, .string x.name, .int .i64 x.at_, .string x.par, .string x.text] 60)).alloc (.cells #[.slice Ak nk ck, .slice Aq nq cq, .int .i64 a, .int .i64 b, .slice Av nv cv] 33)) := (Below.refl _ _).alloc (Nat.le_refl _) _
  have hz1 : (w.alloc (.cells #[.string x.id, .string x.cu, .int .i64 x.kind, .string x.name, .int .i64 x.at_, .string x.par, .string x.text] 60)).heap.size = w.heap.size + 1 := by simp
  have HI2 := Lib.hid (HI1.out.keep hb2)
  have HF2 : Hid (FiltB ((w.alloc (.cells #[.string x.id, .string x.cu, .int .i64 x.kind, .string x.name, .int .i64 x.at_, .string x.par, .string x.text] 60)).alloc (.cells #[.slice Ak nk ck, .slice Aq nq cq, .int .i64 a, .int .i64 b, .slice Av nv cv] 33)) (w.heap.size + 1) (.slice Ak nk ck) (.slice Aq nq cq) (.int .i64 a) (.int .i64 b) (.slice Av nv cv)) := by
    show FiltB _ _ _ _ _ _ _
    rw [← hz1]
    exact heap_alloc_new _ _
  have HB2 := Lib.hid (hb1.trans (hb2.mono hb1.size))
  clear hz1 hb2 HI1
  have HSU := Lib.hid (fun (wx : World) (h : StandAt wx) => sumI_any x wx h hkd ht)
  unfold Itm.v at HSU ⊢
  clear hb1
  go_enter Tryz.func39, Tryz.ntmps39
  go_upto_region 1 with (fail)
  generalize (w.alloc (.cells #[.string x.id, .string x.cu, .int .i64 x.kind, .string x.name, .int .i64 x.at_, .string x.par, .string x.text] 60)).alloc (.cells #[.slice Ak nk ck, .slice Aq nq cq, .int .i64 a, .int .i64 b, .slice Av nv cv] 33) = w2 at *
  obtain ⟨P, hP⟩ : ∃ P, P = w.heap.size := ⟨_, rfl⟩
  obtain ⟨F, hF⟩ : ∃ F, F = w.heap.size + 1 := ⟨_, rfl⟩
  rw [← hF] at HF2 ⊢
  rw [← hP] at HI2 ⊢
  clear hP hF
  have HK2 := Lib.hid (hk.keep HB2.out)
  have HQ2 := Lib.hid (ElemsAt.keep hq HB2.out)
  have HV2 := Lib.hid (ElemsAt.keep hv HB2.out)
  have HS2 := Lib.hid (hS.below HB2.out)
  obtain ⟨c0, c1, c2, c3, c4, c5, c6⟩ := HI2.out.c
  obtain ⟨t0, t1, t2, t3, t4, -, -, -, -, -⟩ := HF2.out.c
  clear hk hq hv hS
  have HC1 := Lib.hid (containsI_any Ak nk ck lk x.kind w2 HK2.out (by omega))
  have HC2 := Lib.hid (containsS_any Aq nq cq lq x.cu.data.toList w2 HQ2.out (by omega))
  rw [show bag x.cu.data.toList = x.cu from bag_of x.cu] at HC2
  generalize lk.contains x.kind = b1 at *
  generalize lq.contains x.cu.data.toList = b2 at *
  have HT : Hid (∀ wx, Below w2.heap.size w2 wx → wx.cell? ⟨F, 4, none⟩ = some (.slice Av nv cv)) := fun wx hb => ((hb.block F HF2.out.lt).trans HF2.out |> fun h : FiltB wx F _ _ _ _ _ => h.c.2.2.2.2.1)
  have HFIN : Hid (∀ wx, Below w2.heap.size w2 wx → Below w.heap.size w wx) := fun wx hb => HB2.out.trans (hb.mono HB2.out.size)
  have HCV : Hid (∀ wx (sb : ByteArray), Below w2.heap.size w2 wx → Calls Tryz.prog 54 #[.slice Av nv cv, .string sb] wx fun e w' => (∃ bb : Bool, e = .returned (.bool bb)) ∧ w' = wx) := fun wx sb hb => by
    have := containsS_any Av nv cv lv sb.data.toList wx (ElemsAt.keep HV2.out hb) (by omega)
    rw [show bag sb.data.toList = sb from bag_of sb] at this
    exact this.mono fun e w' h => ⟨⟨_, h.1⟩, h.2⟩
  have HSD : Hid (StandAt w2.drew) := HS2.out.below (Below.refl _ _).drew
  by_cases h1 : (0 : Int) < (nk : Int) <;> by_cases h2 : (0 : Int) < (nq : Int) <;> cases b1 <;> cases b2
  all_goals
    go_upto_region 9 with (first | (go_at_call 86; refine HC1.out.mono ?_; rintro e w' ⟨rfl, hw⟩; obtain rfl := hw) | (go_at_call 54; refine HC2.out.mono ?_; rintro e w' ⟨rfl, hw⟩; obtain rfl := hw))
    all_goals first
      | (go_ret; exact ⟨⟨_, rfl⟩, HB2.out⟩)
      | (go_region_law (first
          | (go_simp; go_at_call 87; (with_reducible refine Calls.mono (HSU.out _ ?_) ?_); (first | exact HSD.out | exact HS2.out | fail); rintro e w9 ⟨rfl, hb9⟩; have hb29 : Below _ _ w9 := (by first | exact (Below.refl _ _).drew.trans hb9 | exact hb9); have t49 := HT.out w9 hb29; have HCV9 := Lib.hid (fun sb => HCV.out w9 sb hb29); have HFI9 := Lib.hid (HFIN.out w9 hb29); clear hb9 hb29)
          | (go_simp; go_at_call 54; (with_reducible refine Calls.mono (HCV9.out _) ?_); rintro e wc ⟨⟨bb, rfl⟩, hw⟩; obtain rfl := hw))
         all_goals
           cases bb
           all_goals
             go_wp2_with fail
             go_ret
             exact ⟨⟨_, rfl⟩, HFI9.out⟩)
end Go.Proofs.YtfijplllfdmcoaaGreatDoor

namespace Go.Proofs.YtfijplllfdmcoaaGreatDoor
open Go.RowKit

/-- The first error of some that is not zero. -/
def seqF (f : Nat → Int) : Nat → Nat → Int
  | _, 0 => 0
  | k, m + 1 => if f k = 0 then seqF f (k + 1) m else f k
theorem seqF_ok {f : Nat → Int} {k m : Nat} (h : f k = 0) : seqF f k (m + 1) = seqF f (k + 1) m := by rw [seqF, if_pos h]
theorem seqF_bad {f : Nat → Int} {k m : Nat} (h : f k ≠ 0) : seqF f k (m + 1) = f k := by rw [seqF, if_neg h]
/-- Whether a string is not greater than another one. -/
def leS (x y : Str) : Bool := Op.bytesLess x y || x == y
def errK (l : List Int) (k : Nat) : Int := firstE [whenE (!kindOkB (l.getD k 0)) 4, whenE (decide (0 < k) && decide (l.getD k 0 ≤ l.getD (k - 1) 0)) 7]
def errQ (l : List Str) (k : Nat) : Int := firstE [whenE (!keyL (l.getD k [])) 5, whenE (decide (0 < k) && leS (l.getD k []) (l.getD (k - 1) [])) 7]
def errV (l : List Str) (k : Nat) : Int := firstE [whenE (!isSumL (l.getD k [])) 3, whenE (decide (0 < k) && leS (l.getD k []) (l.getD (k - 1) [])) 7]
/-- What CheckFilter returns (of few names and sums). -/
def cfE (lk : List Int) (lq : List Str) (a b : Int) (lv : List Str) : Int :=
  if seqF (errK lk) 0 lk.length ≠ 0 then seqF (errK lk) 0 lk.length
  else if seqF (errQ lq) 0 lq.length ≠ 0 then seqF (errQ lq) 0 lq.length
  else if !winB a b then 1
  else seqF (errV lv) 0 lv.length
theorem cfE_1 {lk : List Int} (lq : List Str) (a b : Int) (lv : List Str) (h : seqF (errK lk) 0 lk.length ≠ 0) : cfE lk lq a b lv = seqF (errK lk) 0 lk.length := by rw [cfE, if_pos h]
theorem cfE_2 {lk : List Int} {lq : List Str} (a b : Int) (lv : List Str) (h : seqF (errK lk) 0 lk.length = 0) (h2 : seqF (errQ lq) 0 lq.length ≠ 0) : cfE lk lq a b lv = seqF (errQ lq) 0 lq.length := by rw [cfE, if_neg (by simpa using h), if_pos h2]
theorem cfE_3 {lk : List Int} {lq : List Str} {a b : Int} (lv : List Str) (h : seqF (errK lk) 0 lk.length = 0) (h2 : seqF (errQ lq) 0 lq.length = 0) (h3 : winB a b = false) : cfE lk lq a b lv = 1 := by rw [cfE, if_neg (by simpa using h), if_neg (by simpa using h2), h3]; rfl
theorem cfE_4 {lk : List Int} {lq : List Str} {a b : Int} (lv : List Str) (h : seqF (errK lk) 0 lk.length = 0) (h2 : seqF (errQ lq) 0 lq.length = 0) (h3 : winB a b = true) : cfE lk lq a b lv = seqF (errV lv) 0 lv.length := by rw [cfE, if_neg (by simpa using h), if_neg (by simpa using h2), h3]; rfl
/-- An error of one of two kinds. -/
def errB (c : Int) (ok b : Bool) : Int := if ok then (if b then 7 else 0) else c
theorem firstE_two (c : Int) (hc : c ≠ 0) (ok b : Bool) : firstE [whenE (!ok) c, whenE b 7] = errB c ok b := by
  cases ok <;> cases b <;> simp [firstE, whenE, errB, hc]
theorem errK_val {lk : List Int} {k : Nat} {ok b : Bool} (h1 : kindOkB (lk.getD k 0) = ok) (h2 : (decide (0 < k) && decide (lk.getD k 0 ≤ lk.getD (k - 1) 0)) = b) : errK lk k = errB 4 ok b := by
  rw [errK, h1, h2, firstE_two 4 (by decide)]
theorem errQ_val {lk : List Str} {k : Nat} {ok b : Bool} (h1 : keyL (lk.getD k []) = ok) (h2 : (decide (0 < k) && leS (lk.getD k []) (lk.getD (k - 1) [])) = b) : errQ lk k = errB 5 ok b := by
  rw [errQ, h1, h2, firstE_two 5 (by decide)]
theorem errV_val {lk : List Str} {k : Nat} {ok b : Bool} (h1 : isSumL (lk.getD k []) = ok) (h2 : (decide (0 < k) && leS (lk.getD k []) (lk.getD (k - 1) [])) = b) : errV lk k = errB 3 ok b := by
  rw [errV, h1, h2, firstE_two 3 (by decide)]
theorem first_2f (a b E : Int) (g : Nat) (w : World) (h : g = w.heap.size) (hE : firstE [a, b] = E) (t : TypeId) : Calls Tryz.prog 36 #[.slice (some ⟨g, 0, none⟩) 2 2] (w.alloc (.cells #[.int .i64 a, .int .i64 b] t)) fun e w' => e = .returned (.int .i64 E) ∧ (w.alloc (.cells #[.int .i64 a, .int .i64 b] t)) = w' := by
  subst h
  subst hE
  refine first_any _ 2 2 [a, b] _ rfl (by omega) (fun j hj => ?_)
  rw [World.cell?_alloc_at _ _ _ _ rfl]
  match j, hj with
  | 0, _ => rfl
  | 1, _ => rfl
theorem when_f (b : Bool) (c : Int) (w : World) : Calls Tryz.prog 41 #[.bool b, .int .i64 c] w fun e w' => e = .returned (.int .i64 (if b then c else 0)) ∧ w' = w := (when_any b c w).mono fun _ _ h => ⟨h.1, h.2.symm⟩
theorem kindOk_any (z : Int) (w : World) (h : kindOkB z = true) : Calls Tryz.prog 42 #[.int .i64 z] w fun e w' => (∃ s : ByteArray, e = .returned (.string s) ∧ (¬ s.toList = []) ∧ (s.toList == []) = false ∧ s.toList.isEmpty = false) ∧ w' = w := by
  refine (kindWordE_any z w).mono ?_
  rintro e w' ⟨⟨s, rfl, hs⟩, rfl⟩
  have h1 : ¬ s.data.toList = [] := fun e => by
    have h2 : s = ⟨#[]⟩ := ByteArray.ext (Array.toList_inj.1 (by simpa using e))
    rw [hs, h] at h2
    cases h2
  exact ⟨⟨s, rfl, par_fullL h1⟩, rfl⟩
theorem kindBad_any (z : Int) (w : World) (h : kindOkB z = false) : Calls Tryz.prog 42 #[.int .i64 z] w fun e w' => e = .returned (.string ⟨#[]⟩) ∧ w' = w := by
  refine (kindWordE_any z w).mono ?_
  rintro e w' ⟨⟨s, rfl, hs⟩, rfl⟩
  rw [hs.2 h]
  exact ⟨rfl, rfl⟩
theorem ElemsAt.ints {w : World} {A : Option Addr} {n c : Nat} {l : List Int} (h : ElemsAt IntE w A n c l) (h0 : 0 < n) : ∃ g off, A = some ⟨g, off, none⟩ ∧ ∀ k, k < n → w.cell? ⟨g, off + k, none⟩ = some (.int .i64 (l.getD k 0)) := by
  obtain ⟨g, off, e, hg, hc⟩ := h.2.2.2 h0
  refine ⟨g, off, e, fun k hk => ?_⟩
  have hk' : k < l.length := by have := h.1; omega
  have := hc k (l.getD k 0) 0 (.int .i64 (l.getD k 0)) (by rw [List.getD_eq_getElem?_getD, List.getElem?_eq_getElem hk']; rfl) rfl
  rw [show IntE.size = 1 from rfl, Nat.mul_one, Nat.add_zero] at this
  exact this
theorem leS_true {x y : Str} (h : leS x y = true) : Op.bytesLess x y = true ∨ x = y := by simpa [leS] using h
theorem leS_false {x y : Str} (h : leS x y = false) : ¬ (Op.bytesLess x y = true ∨ x = y) := by
  rw [leS, Bool.or_eq_false_iff] at h
  intro e
  rcases e with e | e
  · rw [h.1] at e; cases e
  · rw [e] at h; simp at h
end Go.Proofs.YtfijplllfdmcoaaGreatDoor

namespace Go.Proofs.YtfijplllfdmcoaaGreatDoor
open Go.RowKit
attribute [local go_sem ↓] Go.wp_at_zero Go.wp_at_succ

set_option maxHeartbeats 6400000 in
set_option maxRecDepth 100000 in
theorem checkFilter_any (Ak : Option Addr) (nk ck : Nat) (lk : List Int) (Aq : Option Addr) (nq cq : Nat) (lq : List Str) (Av : Option Addr) (nv cv : Nat) (lv : List Str) (a b : Int) (w : World) (hk : ElemsAt IntE w Ak nk ck lk) (hq : StrsAt w Aq nq cq lq) (hv : StrsAt w Av nv cv lv)
    (hnk : nk ≤ 100) (hnq : nq ≤ 100) (hnv : nv ≤ 100) (hqs : ∀ s ∈ lq, s.length ≤ 1000) (hvs : ∀ s ∈ lv, s.length ≤ 1000) :
    Calls Tryz.prog 9 #[.agg #[.slice Ak nk ck, .slice Aq nq cq, .int .i64 a, .int .i64 b, .slice Av nv cv]] w fun e w' => e = .returned (.int .i64 (cfE lk lq a b lv)) ∧ Below w.heap.size w w' := by
  have hb1 : Below w.heap.size w (w.alloc (.cells #[.slice Ak nk ck, .slice Aq nq cq, .int .i64 a, .int .i64 b, .slice Av nv cv] 33)) := (Below.refl _ _).alloc (Nat.le_refl _) _
  have HF1 : Hid (FiltB (w.alloc (.cells #[.slice Ak nk ck, .slice Aq nq cq, .int .i64 a, .int .i64 b, .slice Av nv cv] 33)) w.heap.size (.slice Ak nk ck) (.slice Aq nq cq) (.int .i64 a) (.int .i64 b) (.slice Av nv cv)) := heap_alloc_new w _
  have HK1 := Lib.hid (ElemsAt.keep hk hb1)
  have HQ1 := Lib.hid (ElemsAt.keep hq hb1)
  have HV1 := Lib.hid (ElemsAt.keep hv hb1)
  have HB1 := Lib.hid hb1
  have HQS := Lib.hid hqs
  have HVS := Lib.hid hvs
  clear hk hq hv hb1 hqs hvs
  go_enter Tryz.func9, Tryz.ntmps9
  go_upto_region 1 with (fail)
  obtain ⟨T, hT⟩ : ∃ T, T = w.heap.size := ⟨_, rfl⟩
  rw [← hT] at HF1 ⊢
  generalize w.alloc (.cells #[.slice Ak nk ck, .slice Aq nq cq, .int .i64 a, .int .i64 b, .slice Av nv cv] 33) = w1 at *
  clear hT
  obtain ⟨t0, t1, t2, t3, t4, -, -, -, -, -⟩ := HF1.out.c
  have HNK : Hid (nk = lk.length) := HK1.out.1
  have HNQ : Hid (nq = lq.length) := HQ1.out.1
  have HNV : Hid (nv = lv.length) := HV1.out.1
  have HFB : Hid (∀ wx, Below w1.heap.size w1 wx → Below w.heap.size w wx) := fun wx hb => HB1.out.trans (hb.mono HB1.out.size)
  have HFT : Hid (∀ wx, Below w1.heap.size w1 wx → FiltB wx T (.slice Ak nk ck) (.slice Aq nq cq) (.int .i64 a) (.int .i64 b) (.slice Av nv cv)) := fun wx hb => (hb.block T HF1.out.lt).trans HF1.out
  go_wp2_with fail
  clear t0 t1 t2 t3 t4
  go_loopg [15] nk (fun gk v wr => ∃ k : Nat, Hid (k + gk = nk) ∧ v = .int .i64 (k : Int) ∧ Hid (seqF (errK lk) k gk = seqF (errK lk) 0 lk.length) ∧ Hid (Below w1.heap.size w1 wr))
  case atStart => exact ⟨0, show 0 + nk = nk by omega, rfl, by show _ = _; rw [HNK.out], Below.refl _ _⟩
  case round =>
    obtain ⟨k, HK, rfl, HR, HW⟩ := hrel
    have hkn : k ≤ nk := by have := HK.out; omega
    by_cases hlt : k < nk
    · have HGK := Lib.hid (show k + 1 + (gk - 1) = nk ∧ 0 < gk by have := HK.out; omega)
      obtain ⟨g, off, rfl, hc⟩ := ElemsAt.ints (ElemsAt.keep HK1.out HW.out) (by omega)
      have c1 := hc k hlt
      obtain ⟨t0, t1, t2, t3, t4, -, -, -, -, -⟩ := (HFT.out wr HW.out).c
      have HFIN : Hid (∀ E : Int, E ≠ 0 → errK lk k = E → cfE lk lq a b lv = E) := fun E hE he => by
        have h1 := HR.out
        rw [show gk = (gk - 1) + 1 by have := HGK.out; omega, seqF_bad (by rw [he]; exact hE), he] at h1
        rw [cfE_1 lq a b lv (by rw [← h1]; exact hE), ← h1]
      have HNX : Hid (errK lk k = 0 → seqF (errK lk) (k + 1) (gk - 1) = seqF (errK lk) 0 lk.length) := fun he => by
        have h1 := HR.out
        rwa [show gk = (gk - 1) + 1 by have := HGK.out; omega, seqF_ok he] at h1
      have HEV := Lib.hid (fun (ok bb : Bool) => @errK_val lk k ok bb)
      have HWB9 := Lib.hid (HFB.out wr HW.out)
      generalize hz : lk.getD k 0 = z at *
      by_cases hk0 : k = 0
      · have h0 : ¬ (0 : Int) < (k : Int) := by omega
        have hb0 : ∀ x y : Int, (decide (0 < k) && decide (x ≤ y)) = false := fun x y => by rw [hk0]; rfl
        cases hok : kindOkB z with
        | false =>
          have HE := Lib.hid (HEV.out false false hok (hb0 _ _))
          clear hc hb0 hk0
          have HX := Lib.hid (HFIN.out 4 (by decide) HE.out)
          clear HEV HNX HFIN HR HK HE hz
          go_upto_region 5 with (first
            | (go_at_call 42; refine (kindBad_any _ _ hok).mono ?_; rintro e w' ⟨rfl, hw⟩; obtain rfl := hw.symm)
            | (go_at_call 41; refine (when_f _ _ _).mono ?_; rintro e w' ⟨rfl, hw⟩; obtain rfl := hw.symm)
            | (go_at_call 36; refine (first_2f 4 0 4 _ _ rfl rfl _).mono ?_; rintro e w' ⟨rfl, rfl⟩))
          have hal := (Below.refl wr.heap.size wr).alloc (Nat.le_refl _) (.cells #[.int .i64 4, .int .i64 0] 36)
          have HW9 := Lib.hid (HW.out.trans (hal.mono HW.out.size))
          clear hal
          go_wp2_with fail
          go_ret
          exact ⟨by rw [HX.out]; first | rfl | skip, HFB.out _ HW9.out⟩
        | true =>
          have HE := Lib.hid (HEV.out true false hok (hb0 _ _))
          clear hc hb0 hk0
          have HX := Lib.hid (HNX.out HE.out)
          clear HEV HNX HFIN HR HK HE hz
          go_upto_region 5 with (first
            | (go_at_call 42; refine (kindOk_any _ _ hok).mono ?_; rintro e w' ⟨⟨s, rfl, q1, q2, q3⟩, hw⟩; obtain rfl := hw.symm)
            | (go_at_call 41; refine (when_f _ _ _).mono ?_; rintro e w' ⟨rfl, hw⟩; obtain rfl := hw.symm)
            | (go_at_call 36; refine (first_2f 0 0 0 _ _ rfl rfl _).mono ?_; rintro e w' ⟨rfl, rfl⟩))
          have hal := (Below.refl wr.heap.size wr).alloc (Nat.le_refl _) (.cells #[.int .i64 0, .int .i64 0] 36)
          have HW9 := Lib.hid (HW.out.trans (hal.mono HW.out.size))
          clear hal
          go_wp2_with fail
          go_roundg (gk - 1)
          case measure => exact Nat.sub_lt HGK.out.2 Nat.one_pos
          case rel => exact ⟨k + 1, HGK.out.1, by go_num, HX.out, HW9.out⟩
      · obtain ⟨j, hj⟩ : ∃ j : Nat, k = j + 1 := ⟨k - 1, by omega⟩
        have h0 : (0 : Int) < (k : Int) := by omega
        have hmx : max (k : Int) 1 = (k : Int) := by omega
        have hsb : (k : Int) - 1 = (j : Int) := by omega
        have hjn : j < nk := by omega
        have c2 := hc j hjn
        generalize hy : lk.getD j 0 = y at *
        have hb1 : ∀ bb, decide (z ≤ y) = bb → (decide (0 < k) && decide (z ≤ lk.getD (k - 1) 0)) = bb := fun bb h => by
          rw [show k - 1 = j by omega, hy, h, decide_eq_true (show 0 < k by omega), Bool.true_and]
        by_cases hle : z ≤ y
        · cases hok : kindOkB z with
          | false =>
            have HE := Lib.hid (HEV.out false true hok (hb1 _ (by exact decide_eq_true hle)))
            clear hc hb1 hj hy hk0
            have HX := Lib.hid (HFIN.out 4 (by decide) HE.out)
            clear HEV HNX HFIN HR HK HE hz
            go_upto_region 5 with (first
              | (go_at_call 42; refine (kindBad_any _ _ hok).mono ?_; rintro e w' ⟨rfl, hw⟩; obtain rfl := hw.symm)
              | (go_at_call 41; refine (when_f _ _ _).mono ?_; rintro e w' ⟨rfl, hw⟩; obtain rfl := hw.symm)
              | (go_at_call 36; refine (first_2f 4 7 4 _ _ rfl rfl _).mono ?_; rintro e w' ⟨rfl, rfl⟩))
            have hal := (Below.refl wr.heap.size wr).alloc (Nat.le_refl _) (.cells #[.int .i64 4, .int .i64 7] 36)
            have HW9 := Lib.hid (HW.out.trans (hal.mono HW.out.size))
            clear hal
            go_wp2_with fail
            go_ret
            exact ⟨by rw [HX.out]; first | rfl | skip, HFB.out _ HW9.out⟩
          | true =>
            have HE := Lib.hid (HEV.out true true hok (hb1 _ (by exact decide_eq_true hle)))
            clear hc hb1 hj hy hk0
            have HX := Lib.hid (HFIN.out 7 (by decide) HE.out)
            clear HEV HNX HFIN HR HK HE hz
            go_upto_region 5 with (first
              | (go_at_call 42; refine (kindOk_any _ _ hok).mono ?_; rintro e w' ⟨⟨s, rfl, q1, q2, q3⟩, hw⟩; obtain rfl := hw.symm)
              | (go_at_call 41; refine (when_f _ _ _).mono ?_; rintro e w' ⟨rfl, hw⟩; obtain rfl := hw.symm)
              | (go_at_call 36; refine (first_2f 0 7 7 _ _ rfl rfl _).mono ?_; rintro e w' ⟨rfl, rfl⟩))
            have hal := (Below.refl wr.heap.size wr).alloc (Nat.le_refl _) (.cells #[.int .i64 0, .int .i64 7] 36)
            have HW9 := Lib.hid (HW.out.trans (hal.mono HW.out.size))
            clear hal
            go_wp2_with fail
            go_ret
            exact ⟨by rw [HX.out]; first | rfl | skip, HFB.out _ HW9.out⟩
        · cases hok : kindOkB z with
          | false =>
            have HE := Lib.hid (HEV.out false false hok (hb1 _ (by exact decide_eq_false hle)))
            clear hc hb1 hj hy hk0
            have HX := Lib.hid (HFIN.out 4 (by decide) HE.out)
            clear HEV HNX HFIN HR HK HE hz
            go_upto_region 5 with (first
              | (go_at_call 42; refine (kindBad_any _ _ hok).mono ?_; rintro e w' ⟨rfl, hw⟩; obtain rfl := hw.symm)
              | (go_at_call 41; refine (when_f _ _ _).mono ?_; rintro e w' ⟨rfl, hw⟩; obtain rfl := hw.symm)
              | (go_at_call 36; refine (first_2f 4 0 4 _ _ rfl rfl _).mono ?_; rintro e w' ⟨rfl, rfl⟩))
            have hal := (Below.refl wr.heap.size wr).alloc (Nat.le_refl _) (.cells #[.int .i64 4, .int .i64 0] 36)
            have HW9 := Lib.hid (HW.out.trans (hal.mono HW.out.size))
            clear hal
            go_wp2_with fail
            go_ret
            exact ⟨by rw [HX.out]; first | rfl | skip, HFB.out _ HW9.out⟩
          | true =>
            have HE := Lib.hid (HEV.out true false hok (hb1 _ (by exact decide_eq_false hle)))
            clear hc hb1 hj hy hk0
            have HX := Lib.hid (HNX.out HE.out)
            clear HEV HNX HFIN HR HK HE hz
            go_upto_region 5 with (first
              | (go_at_call 42; refine (kindOk_any _ _ hok).mono ?_; rintro e w' ⟨⟨s, rfl, q1, q2, q3⟩, hw⟩; obtain rfl := hw.symm)
              | (go_at_call 41; refine (when_f _ _ _).mono ?_; rintro e w' ⟨rfl, hw⟩; obtain rfl := hw.symm)
              | (go_at_call 36; refine (first_2f 0 0 0 _ _ rfl rfl _).mono ?_; rintro e w' ⟨rfl, rfl⟩))
            have hal := (Below.refl wr.heap.size wr).alloc (Nat.le_refl _) (.cells #[.int .i64 0, .int .i64 0] 36)
            have HW9 := Lib.hid (HW.out.trans (hal.mono HW.out.size))
            clear hal
            go_wp2_with fail
            go_roundg (gk - 1)
            case measure => exact Nat.sub_lt HGK.out.2 Nat.one_pos
            case rel => exact ⟨k + 1, HGK.out.1, by go_num, HX.out, HW9.out⟩
    · have hnk0 : ¬ (k : Int) < (nk : Int) := by omega
      have HZ1 : Hid (seqF (errK lk) 0 lk.length = 0) := by
        have h1 := HR.out
        rw [show gk = 0 by have := HK.out; omega] at h1
        exact h1.symm
      have HW0 := Lib.hid HW.out
      obtain ⟨t0, t1, t2, t3, t4, -, -, -, -, -⟩ := (HFT.out wr HW.out).c
      obtain ⟨wd0, hwd⟩ : ∃ wd : World, wd = wr := ⟨_, rfl⟩
      rw [← hwd] at HW0 t0 t1 t2 t3 t4 ⊢
      obtain ⟨go0, hgo⟩ : ∃ go : Nat, go = gk := ⟨_, rfl⟩
      clear hwd hgo HR HK HW hlt hkn
      have hbig : ¬ (200 : Int) < (nq : Int) := by omega
      go_wp2_with fail
      clear t0 t1 t2 t3 t4
      go_loopg [51] nq (fun gk v wr => ∃ k : Nat, Hid (k + gk = nq) ∧ v = .int .i64 (k : Int) ∧ Hid (seqF (errQ lq) k gk = seqF (errQ lq) 0 lq.length) ∧ Hid (Below w1.heap.size w1 wr))
      case atStart => exact ⟨0, show 0 + nq = nq by omega, rfl, by show _ = _; rw [HNQ.out], HW0.out⟩
      case round =>
        obtain ⟨k, HK, rfl, HR, HW⟩ := hrel
        clear HW0
        have hkn : k ≤ nq := by have := HK.out; omega
        by_cases hlt : k < nq
        · have HGK := Lib.hid (show k + 1 + (gk - 1) = nq ∧ 0 < gk by have := HK.out; omega)
          obtain ⟨g, off, rfl, hg, hc⟩ := (ElemsAt.keep HQ1.out HW.out).str (by omega)
          have c1 := hc k hlt
          obtain ⟨t0, t1, t2, t3, t4, -, -, -, -, -⟩ := (HFT.out wr HW.out).c
          have HFIN : Hid (∀ E : Int, E ≠ 0 → errQ lq k = E → cfE lk lq a b lv = E) := fun E hE he => by
            have h1 := HR.out
            rw [show gk = (gk - 1) + 1 by have := HGK.out; omega, seqF_bad (by rw [he]; exact hE), he] at h1
            rw [cfE_2 a b lv HZ1.out (by rw [← h1]; exact hE), ← h1]
          have HNX : Hid (errQ lq k = 0 → seqF (errQ lq) (k + 1) (gk - 1) = seqF (errQ lq) 0 lq.length) := fun he => by
            have h1 := HR.out
            rwa [show gk = (gk - 1) + 1 by have := HGK.out; omega, seqF_ok he] at h1
          have HEV := Lib.hid (fun (ok bb : Bool) => @errQ_val lq k ok bb)
          have HWB9 := Lib.hid (HFB.out wr HW.out)
          have hzs : (⟨(lq.getD k []).toArray⟩ : ByteArray).size ≤ 1000000 := by
            have := HQS.out _ (show lq.getD k [] ∈ lq by rw [List.getD_eq_getElem?_getD, List.getElem?_eq_getElem (by have := HNQ.out; omega)]; exact List.getElem_mem (by have := HNQ.out; omega))
            simp only [ByteArray.size, List.size_toArray]; omega
          have hcall := fun wx => keyAll_any ⟨(lq.getD k []).toArray⟩ wx hzs
          rw [show (⟨(lq.getD k []).toArray⟩ : ByteArray).data.toList = lq.getD k [] by simp] at hcall
          have HCALL := Lib.hid hcall
          clear hcall hzs hg
          generalize hz : lq.getD k [] = z at *
          by_cases hk0 : k = 0
          · have h0 : ¬ (0 : Int) < (k : Int) := by omega
            have hb0 : ∀ x y : Str, (decide (0 < k) && leS x y) = false := fun x y => by rw [hk0]; rfl
            cases hok : keyL z with
            | false =>
              have HE := Lib.hid (HEV.out false false hok (hb0 _ _))
              clear hc hb0 hk0
              have HX := Lib.hid (HFIN.out 5 (by decide) HE.out)
              clear HEV HNX HFIN HR HK HE hz
              go_upto_region 14 with (first
                | (go_at_call 43; refine (HCALL.out _).mono ?_; rintro e w' ⟨rfl, hw⟩; obtain rfl := hw.symm; rw [hok])
                | (go_at_call 41; refine (when_f _ _ _).mono ?_; rintro e w' ⟨rfl, hw⟩; obtain rfl := hw.symm)
                | (go_at_call 36; refine (first_2f 5 0 5 _ _ rfl rfl _).mono ?_; rintro e w' ⟨rfl, rfl⟩))
              have hal := (Below.refl wr.heap.size wr).alloc (Nat.le_refl _) (.cells #[.int .i64 5, .int .i64 0] 36)
              have HW9 := Lib.hid (HW.out.trans (hal.mono HW.out.size))
              clear hal
              go_wp2_with fail
              go_ret
              exact ⟨by rw [HX.out]; first | rfl | skip, HFB.out _ HW9.out⟩
            | true =>
              have HE := Lib.hid (HEV.out true false hok (hb0 _ _))
              clear hc hb0 hk0
              have HX := Lib.hid (HNX.out HE.out)
              clear HEV HNX HFIN HR HK HE hz
              go_upto_region 14 with (first
                | (go_at_call 43; refine (HCALL.out _).mono ?_; rintro e w' ⟨rfl, hw⟩; obtain rfl := hw.symm; rw [hok])
                | (go_at_call 41; refine (when_f _ _ _).mono ?_; rintro e w' ⟨rfl, hw⟩; obtain rfl := hw.symm)
                | (go_at_call 36; refine (first_2f 0 0 0 _ _ rfl rfl _).mono ?_; rintro e w' ⟨rfl, rfl⟩))
              have hal := (Below.refl wr.heap.size wr).alloc (Nat.le_refl _) (.cells #[.int .i64 0, .int .i64 0] 36)
              have HW9 := Lib.hid (HW.out.trans (hal.mono HW.out.size))
              clear hal
              go_wp2_with fail
              go_roundg (gk - 1)
              case measure => exact Nat.sub_lt HGK.out.2 Nat.one_pos
              case rel => exact ⟨k + 1, HGK.out.1, by go_num, HX.out, HW9.out⟩
          · obtain ⟨j, hj⟩ : ∃ j : Nat, k = j + 1 := ⟨k - 1, by omega⟩
            have h0 : (0 : Int) < (k : Int) := by omega
            have hmx : max (k : Int) 1 = (k : Int) := by omega
            have hsb : (k : Int) - 1 = (j : Int) := by omega
            have hjn : j < nq := by omega
            have c2 := hc j hjn
            generalize hy : lq.getD j [] = y at *
            have hb1 : ∀ bb, leS z y = bb → (decide (0 < k) && leS z (lq.getD (k - 1) [])) = bb := fun bb h => by
              rw [show k - 1 = j by omega, hy, h, decide_eq_true (show 0 < k by omega), Bool.true_and]
            cases hle : leS z y with
            | false =>
              have hlq := leS_false hle
              cases hok : keyL z with
              | false =>
                have HE := Lib.hid (HEV.out false false hok (hb1 _ hle))
                clear hc hb1 hj hy hk0 hle
                have HX := Lib.hid (HFIN.out 5 (by decide) HE.out)
                clear HEV HNX HFIN HR HK HE hz
                go_upto_region 14 with (first
                  | (go_at_call 43; refine (HCALL.out _).mono ?_; rintro e w' ⟨rfl, hw⟩; obtain rfl := hw.symm; rw [hok])
                  | (go_at_call 41; refine (when_f _ _ _).mono ?_; rintro e w' ⟨rfl, hw⟩; obtain rfl := hw.symm)
                  | (go_at_call 36; refine (first_2f 5 0 5 _ _ rfl rfl _).mono ?_; rintro e w' ⟨rfl, rfl⟩))
                have hal := (Below.refl wr.heap.size wr).alloc (Nat.le_refl _) (.cells #[.int .i64 5, .int .i64 0] 36)
                have HW9 := Lib.hid (HW.out.trans (hal.mono HW.out.size))
                clear hal
                go_wp2_with fail
                go_ret
                exact ⟨by rw [HX.out]; first | rfl | skip, HFB.out _ HW9.out⟩
              | true =>
                have HE := Lib.hid (HEV.out true false hok (hb1 _ hle))
                clear hc hb1 hj hy hk0 hle
                have HX := Lib.hid (HNX.out HE.out)
                clear HEV HNX HFIN HR HK HE hz
                go_upto_region 14 with (first
                  | (go_at_call 43; refine (HCALL.out _).mono ?_; rintro e w' ⟨rfl, hw⟩; obtain rfl := hw.symm; rw [hok])
                  | (go_at_call 41; refine (when_f _ _ _).mono ?_; rintro e w' ⟨rfl, hw⟩; obtain rfl := hw.symm)
                  | (go_at_call 36; refine (first_2f 0 0 0 _ _ rfl rfl _).mono ?_; rintro e w' ⟨rfl, rfl⟩))
                have hal := (Below.refl wr.heap.size wr).alloc (Nat.le_refl _) (.cells #[.int .i64 0, .int .i64 0] 36)
                have HW9 := Lib.hid (HW.out.trans (hal.mono HW.out.size))
                clear hal
                go_wp2_with fail
                go_roundg (gk - 1)
                case measure => exact Nat.sub_lt HGK.out.2 Nat.one_pos
                case rel => exact ⟨k + 1, HGK.out.1, by go_num, HX.out, HW9.out⟩
            | true =>
              have hlq := leS_true hle
              cases hok : keyL z with
              | false =>
                have HE := Lib.hid (HEV.out false true hok (hb1 _ hle))
                clear hc hb1 hj hy hk0 hle
                have HX := Lib.hid (HFIN.out 5 (by decide) HE.out)
                clear HEV HNX HFIN HR HK HE hz
                go_upto_region 14 with (first
                  | (go_at_call 43; refine (HCALL.out _).mono ?_; rintro e w' ⟨rfl, hw⟩; obtain rfl := hw.symm; rw [hok])
                  | (go_at_call 41; refine (when_f _ _ _).mono ?_; rintro e w' ⟨rfl, hw⟩; obtain rfl := hw.symm)
                  | (go_at_call 36; refine (first_2f 5 7 5 _ _ rfl rfl _).mono ?_; rintro e w' ⟨rfl, rfl⟩))
                have hal := (Below.refl wr.heap.size wr).alloc (Nat.le_refl _) (.cells #[.int .i64 5, .int .i64 7] 36)
                have HW9 := Lib.hid (HW.out.trans (hal.mono HW.out.size))
                clear hal
                go_wp2_with fail
                go_ret
                exact ⟨by rw [HX.out]; first | rfl | skip, HFB.out _ HW9.out⟩
              | true =>
                have HE := Lib.hid (HEV.out true true hok (hb1 _ hle))
                clear hc hb1 hj hy hk0 hle
                have HX := Lib.hid (HFIN.out 7 (by decide) HE.out)
                clear HEV HNX HFIN HR HK HE hz
                go_upto_region 14 with (first
                  | (go_at_call 43; refine (HCALL.out _).mono ?_; rintro e w' ⟨rfl, hw⟩; obtain rfl := hw.symm; rw [hok])
                  | (go_at_call 41; refine (when_f _ _ _).mono ?_; rintro e w' ⟨rfl, hw⟩; obtain rfl := hw.symm)
                  | (go_at_call 36; refine (first_2f 0 7 7 _ _ rfl rfl _).mono ?_; rintro e w' ⟨rfl, rfl⟩))
                have hal := (Below.refl wr.heap.size wr).alloc (Nat.le_refl _) (.cells #[.int .i64 0, .int .i64 7] 36)
                have HW9 := Lib.hid (HW.out.trans (hal.mono HW.out.size))
                clear hal
                go_wp2_with fail
                go_ret
                exact ⟨by rw [HX.out]; first | rfl | skip, HFB.out _ HW9.out⟩
        · have hnk0 : ¬ (k : Int) < (nq : Int) := by omega
          have HZ2 : Hid (seqF (errQ lq) 0 lq.length = 0) := by
            have h1 := HR.out
            rw [show gk = 0 by have := HK.out; omega] at h1
            exact h1.symm
          have HW0 := Lib.hid HW.out
          obtain ⟨t0, t1, t2, t3, t4, -, -, -, -, -⟩ := (HFT.out wr HW.out).c
          obtain ⟨wd1, hwd⟩ : ∃ wd : World, wd = wr := ⟨_, rfl⟩
          rw [← hwd] at HW0 t0 t1 t2 t3 t4 ⊢
          obtain ⟨go1, hgo⟩ : ∃ go : Nat, go = gk := ⟨_, rfl⟩
          clear hwd hgo HR HK HW hlt hkn
          have hbig : ¬ (500 : Int) < (nv : Int) := by omega
          have HWI := Lib.hid (window_any a b)
          cases hwb : winB a b with
          | false =>
            have HX := Lib.hid (cfE_3 lv HZ1.out HZ2.out hwb)
            go_wp2_with fail
            refine (HWI.out _).mono ?_
            rintro e w4 ⟨rfl, hb4⟩
            have HW4 := Lib.hid (HW0.out.trans (hb4.mono HW0.out.size))
            rw [hwb]
            clear hb4
            go_wp2_with fail
            go_ret
            exact ⟨by rw [HX.out]; first | rfl | skip, HFB.out _ HW4.out⟩
          | true =>
            have HWB : Hid (winB a b = true) := hwb
            go_wp2_with fail
            refine (HWI.out _).mono ?_
            rintro e w4 ⟨rfl, hb4⟩
            have HW4 := Lib.hid (HW0.out.trans (hb4.mono HW0.out.size))
            rw [hwb]
            clear hb4 HW0 t0 t1 t2 t3 t4
            have HW0 := Lib.hid HW4.out
            obtain ⟨t0, t1, t2, t3, t4, -, -, -, -, -⟩ := (HFT.out w4 HW4.out).c
            go_wp2_with fail
            clear t0 t1 t2 t3 t4 HW4
            go_loopg [91] nv (fun gk v wr => ∃ k : Nat, Hid (k + gk = nv) ∧ v = .int .i64 (k : Int) ∧ Hid (seqF (errV lv) k gk = seqF (errV lv) 0 lv.length) ∧ Hid (Below w1.heap.size w1 wr))
            case atStart => exact ⟨0, show 0 + nv = nv by omega, rfl, by show _ = _; rw [HNV.out], HW0.out⟩
            case round =>
              obtain ⟨k, HK, rfl, HR, HW⟩ := hrel
              clear HW0
              have hkn : k ≤ nv := by have := HK.out; omega
              by_cases hlt : k < nv
              · have HGK := Lib.hid (show k + 1 + (gk - 1) = nv ∧ 0 < gk by have := HK.out; omega)
                obtain ⟨g, off, rfl, hg, hc⟩ := (ElemsAt.keep HV1.out HW.out).str (by omega)
                have c1 := hc k hlt
                obtain ⟨t0, t1, t2, t3, t4, -, -, -, -, -⟩ := (HFT.out wr HW.out).c
                have HFIN : Hid (∀ E : Int, E ≠ 0 → errV lv k = E → cfE lk lq a b lv = E) := fun E hE he => by
                  have h1 := HR.out
                  rw [show gk = (gk - 1) + 1 by have := HGK.out; omega, seqF_bad (by rw [he]; exact hE), he] at h1
                  rw [cfE_4 lv HZ1.out HZ2.out HWB.out, ← h1]
                have HNX : Hid (errV lv k = 0 → seqF (errV lv) (k + 1) (gk - 1) = seqF (errV lv) 0 lv.length) := fun he => by
                  have h1 := HR.out
                  rwa [show gk = (gk - 1) + 1 by have := HGK.out; omega, seqF_ok he] at h1
                have HEV := Lib.hid (fun (ok bb : Bool) => @errV_val lv k ok bb)
                have HWB9 := Lib.hid (HFB.out wr HW.out)
                have hzs : (⟨(lv.getD k []).toArray⟩ : ByteArray).size ≤ 1000000 := by
                  have := HVS.out _ (show lv.getD k [] ∈ lv by rw [List.getD_eq_getElem?_getD, List.getElem?_eq_getElem (by have := HNV.out; omega)]; exact List.getElem_mem (by have := HNV.out; omega))
                  simp only [ByteArray.size, List.size_toArray]; omega
                have hcall := fun wx => isSum_any ⟨(lv.getD k []).toArray⟩ wx hzs
                rw [show (⟨(lv.getD k []).toArray⟩ : ByteArray).data.toList = lv.getD k [] by simp] at hcall
                have HCALL := Lib.hid hcall
                clear hcall hzs hg
                generalize hz : lv.getD k [] = z at *
                by_cases hk0 : k = 0
                · have h0 : ¬ (0 : Int) < (k : Int) := by omega
                  have hb0 : ∀ x y : Str, (decide (0 < k) && leS x y) = false := fun x y => by rw [hk0]; rfl
                  cases hok : isSumL z with
                  | false =>
                    have HE := Lib.hid (HEV.out false false hok (hb0 _ _))
                    clear hc hb0 hk0
                    have HX := Lib.hid (HFIN.out 3 (by decide) HE.out)
                    clear HEV HNX HFIN HR HK HE hz
                    go_upto_region 25 with (first
                      | (go_at_call 45; refine (HCALL.out _).mono ?_; rintro e w' ⟨rfl, hw⟩; obtain rfl := hw.symm; rw [hok])
                      | (go_at_call 41; refine (when_f _ _ _).mono ?_; rintro e w' ⟨rfl, hw⟩; obtain rfl := hw.symm)
                      | (go_at_call 36; refine (first_2f 3 0 3 _ _ rfl rfl _).mono ?_; rintro e w' ⟨rfl, rfl⟩))
                    have hal := (Below.refl wr.heap.size wr).alloc (Nat.le_refl _) (.cells #[.int .i64 3, .int .i64 0] 36)
                    have HW9 := Lib.hid (HW.out.trans (hal.mono HW.out.size))
                    clear hal
                    go_wp2_with fail
                    go_ret
                    exact ⟨by rw [HX.out]; first | rfl | skip, HFB.out _ HW9.out⟩
                  | true =>
                    have HE := Lib.hid (HEV.out true false hok (hb0 _ _))
                    clear hc hb0 hk0
                    have HX := Lib.hid (HNX.out HE.out)
                    clear HEV HNX HFIN HR HK HE hz
                    go_upto_region 25 with (first
                      | (go_at_call 45; refine (HCALL.out _).mono ?_; rintro e w' ⟨rfl, hw⟩; obtain rfl := hw.symm; rw [hok])
                      | (go_at_call 41; refine (when_f _ _ _).mono ?_; rintro e w' ⟨rfl, hw⟩; obtain rfl := hw.symm)
                      | (go_at_call 36; refine (first_2f 0 0 0 _ _ rfl rfl _).mono ?_; rintro e w' ⟨rfl, rfl⟩))
                    have hal := (Below.refl wr.heap.size wr).alloc (Nat.le_refl _) (.cells #[.int .i64 0, .int .i64 0] 36)
                    have HW9 := Lib.hid (HW.out.trans (hal.mono HW.out.size))
                    clear hal
                    go_wp2_with fail
                    go_roundg (gk - 1)
                    case measure => exact Nat.sub_lt HGK.out.2 Nat.one_pos
                    case rel => exact ⟨k + 1, HGK.out.1, by go_num, HX.out, HW9.out⟩
                · obtain ⟨j, hj⟩ : ∃ j : Nat, k = j + 1 := ⟨k - 1, by omega⟩
                  have h0 : (0 : Int) < (k : Int) := by omega
                  have hmx : max (k : Int) 1 = (k : Int) := by omega
                  have hsb : (k : Int) - 1 = (j : Int) := by omega
                  have hjn : j < nv := by omega
                  have c2 := hc j hjn
                  generalize hy : lv.getD j [] = y at *
                  have hb1 : ∀ bb, leS z y = bb → (decide (0 < k) && leS z (lv.getD (k - 1) [])) = bb := fun bb h => by
                    rw [show k - 1 = j by omega, hy, h, decide_eq_true (show 0 < k by omega), Bool.true_and]
                  cases hle : leS z y with
                  | false =>
                    have hlq := leS_false hle
                    cases hok : isSumL z with
                    | false =>
                      have HE := Lib.hid (HEV.out false false hok (hb1 _ hle))
                      clear hc hb1 hj hy hk0 hle
                      have HX := Lib.hid (HFIN.out 3 (by decide) HE.out)
                      clear HEV HNX HFIN HR HK HE hz
                      go_upto_region 25 with (first
                        | (go_at_call 45; refine (HCALL.out _).mono ?_; rintro e w' ⟨rfl, hw⟩; obtain rfl := hw.symm; rw [hok])
                        | (go_at_call 41; refine (when_f _ _ _).mono ?_; rintro e w' ⟨rfl, hw⟩; obtain rfl := hw.symm)
                        | (go_at_call 36; refine (first_2f 3 0 3 _ _ rfl rfl _).mono ?_; rintro e w' ⟨rfl, rfl⟩))
                      have hal := (Below.refl wr.heap.size wr).alloc (Nat.le_refl _) (.cells #[.int .i64 3, .int .i64 0] 36)
                      have HW9 := Lib.hid (HW.out.trans (hal.mono HW.out.size))
                      clear hal
                      go_wp2_with fail
                      go_ret
                      exact ⟨by rw [HX.out]; first | rfl | skip, HFB.out _ HW9.out⟩
                    | true =>
                      have HE := Lib.hid (HEV.out true false hok (hb1 _ hle))
                      clear hc hb1 hj hy hk0 hle
                      have HX := Lib.hid (HNX.out HE.out)
                      clear HEV HNX HFIN HR HK HE hz
                      go_upto_region 25 with (first
                        | (go_at_call 45; refine (HCALL.out _).mono ?_; rintro e w' ⟨rfl, hw⟩; obtain rfl := hw.symm; rw [hok])
                        | (go_at_call 41; refine (when_f _ _ _).mono ?_; rintro e w' ⟨rfl, hw⟩; obtain rfl := hw.symm)
                        | (go_at_call 36; refine (first_2f 0 0 0 _ _ rfl rfl _).mono ?_; rintro e w' ⟨rfl, rfl⟩))
                      have hal := (Below.refl wr.heap.size wr).alloc (Nat.le_refl _) (.cells #[.int .i64 0, .int .i64 0] 36)
                      have HW9 := Lib.hid (HW.out.trans (hal.mono HW.out.size))
                      clear hal
                      go_wp2_with fail
                      go_roundg (gk - 1)
                      case measure => exact Nat.sub_lt HGK.out.2 Nat.one_pos
                      case rel => exact ⟨k + 1, HGK.out.1, by go_num, HX.out, HW9.out⟩
                  | true =>
                    have hlq := leS_true hle
                    cases hok : isSumL z with
                    | false =>
                      have HE := Lib.hid (HEV.out false true hok (hb1 _ hle))
                      clear hc hb1 hj hy hk0 hle
                      have HX := Lib.hid (HFIN.out 3 (by decide) HE.out)
                      clear HEV HNX HFIN HR HK HE hz
                      go_upto_region 25 with (first
                        | (go_at_call 45; refine (HCALL.out _).mono ?_; rintro e w' ⟨rfl, hw⟩; obtain rfl := hw.symm; rw [hok])
                        | (go_at_call 41; refine (when_f _ _ _).mono ?_; rintro e w' ⟨rfl, hw⟩; obtain rfl := hw.symm)
                        | (go_at_call 36; refine (first_2f 3 7 3 _ _ rfl rfl _).mono ?_; rintro e w' ⟨rfl, rfl⟩))
                      have hal := (Below.refl wr.heap.size wr).alloc (Nat.le_refl _) (.cells #[.int .i64 3, .int .i64 7] 36)
                      have HW9 := Lib.hid (HW.out.trans (hal.mono HW.out.size))
                      clear hal
                      go_wp2_with fail
                      go_ret
                      exact ⟨by rw [HX.out]; first | rfl | skip, HFB.out _ HW9.out⟩
                    | true =>
                      have HE := Lib.hid (HEV.out true true hok (hb1 _ hle))
                      clear hc hb1 hj hy hk0 hle
                      have HX := Lib.hid (HFIN.out 7 (by decide) HE.out)
                      clear HEV HNX HFIN HR HK HE hz
                      go_upto_region 25 with (first
                        | (go_at_call 45; refine (HCALL.out _).mono ?_; rintro e w' ⟨rfl, hw⟩; obtain rfl := hw.symm; rw [hok])
                        | (go_at_call 41; refine (when_f _ _ _).mono ?_; rintro e w' ⟨rfl, hw⟩; obtain rfl := hw.symm)
                        | (go_at_call 36; refine (first_2f 0 7 7 _ _ rfl rfl _).mono ?_; rintro e w' ⟨rfl, rfl⟩))
                      have hal := (Below.refl wr.heap.size wr).alloc (Nat.le_refl _) (.cells #[.int .i64 0, .int .i64 7] 36)
                      have HW9 := Lib.hid (HW.out.trans (hal.mono HW.out.size))
                      clear hal
                      go_wp2_with fail
                      go_ret
                      exact ⟨by rw [HX.out]; first | rfl | skip, HFB.out _ HW9.out⟩
              · have hnk0 : ¬ (k : Int) < (nv : Int) := by omega
                have HZ3 : Hid (seqF (errV lv) 0 lv.length = 0) := by
                  have h1 := HR.out
                  rw [show gk = 0 by have := HK.out; omega] at h1
                  exact h1.symm
                have HW0 := Lib.hid HW.out
                obtain ⟨t0, t1, t2, t3, t4, -, -, -, -, -⟩ := (HFT.out wr HW.out).c
                obtain ⟨wd2, hwd⟩ : ∃ wd : World, wd = wr := ⟨_, rfl⟩
                rw [← hwd] at HW0 t0 t1 t2 t3 t4 ⊢
                obtain ⟨go2, hgo⟩ : ∃ go : Nat, go = gk := ⟨_, rfl⟩
                clear hwd hgo HR HK HW hlt hkn
                have HX := Lib.hid (cfE_4 (lk := lk) (lq := lq) (a := a) (b := b) lv HZ1.out HZ2.out HWB.out)
                rw [HZ3.out] at HX
                go_wp2_with fail
                go_ret
                exact ⟨by rw [HX.out]; first | rfl | skip, HFB.out _ HW0.out⟩
end Go.Proofs.YtfijplllfdmcoaaGreatDoor

namespace Go.Proofs.YtfijplllfdmcoaaGreatDoor
open Go.RowKit Go.Maps
attribute [local go_sem ↓] Go.wp_at_zero Go.wp_at_succ

/-- An item that is left out, and why. -/
def LeftE : Elem (Str × Int) := ⟨88, 35, 2, 24, .agg #[.string ⟨#[]⟩, .int .i64 0], fun p => [.string ⟨p.1.toArray⟩, .int .i64 p.2]⟩
theorem leftE_ok : LeftE.Ok := ⟨fun _ => rfl, fun x u hu => by
  have hm : u ∈ [Value.string ⟨x.1.toArray⟩, Value.int .i64 x.2] := hu
  simp only [List.mem_cons, List.not_mem_nil, or_false] at hm
  rcases hm with h | h <;> (subst h; rfl), by decide, by decide, by kernel_rfl, by kernel_rfl, Tryz.underlying35⟩
theorem left_ne_str : LeftE.t ≠ StrE.t := by decide
theorem str_ne_left : StrE.t ≠ LeftE.t := by decide
theorem firstE_z (E : Int) : firstE [0, E] = E := by
  by_cases h : E = 0 <;> simp [firstE, h]
def KeepPost (w : World) (l : List Itm) (E : Int) (e : Ending) (w' : World) : Prop :=
  (E ≠ 0 → e = .returned (.tuple #[.slice none 0 0, .slice none 0 0, .int .i64 E])) ∧
  (E = 0 → ∃ (v u : Value) (K : List Str) (L : List (Str × Int)), e = .returned (.tuple #[v, u, .int .i64 0]) ∧ OwnStrs w' w.heap.size v ((keptI l K).map idOf) ∧ Owns LeftE w' w.heap.size u L ∧ L.length + (keptI l K).length = l.length) ∧ Below w.heap.size w w'
set_option maxHeartbeats 6400000 in
set_option maxRecDepth 100000 in
theorem keep_any (A : Option Addr) (n c : Nat) (l : List Itm) (Ak : Option Addr) (nk ck : Nat) (lk : List Int) (Aq : Option Addr) (nq cq : Nat) (lq : List Str) (Av : Option Addr) (nv cv : Nat) (lv : List Str) (a b : Int) (w : World) (h : ItemsAt w A n c l) (hk : ElemsAt IntE w Ak nk ck lk) (hq : StrsAt w Aq nq cq lq) (hv : StrsAt w Av nv cv lv)
    (hnk : nk ≤ 100) (hnq : nq ≤ 100) (hnv : nv ≤ 100) (hqs : ∀ s ∈ lq, s.length ≤ 1000) (hvs : ∀ s ∈ lv, s.length ≤ 1000) (hl : SetR l) (hT : Tabs w) (hM : MaxAt w) (hS : StandAt w) :
    Calls Tryz.prog 8 #[.slice A n c, .agg #[.slice Ak nk ck, .slice Aq nq cq, .int .i64 a, .int .i64 b, .slice Av nv cv]] w (KeepPost w l (cfE lk lq a b lv)) := by
  have hb1 : Below w.heap.size w (w.alloc (.cells #[.slice Ak nk ck, .slice Aq nq cq, .int .i64 a, .int .i64 b, .slice Av nv cv] 33)) := (Below.refl _ _).alloc (Nat.le_refl _) _
  have HF1 : Hid (FiltB (w.alloc (.cells #[.slice Ak nk ck, .slice Aq nq cq, .int .i64 a, .int .i64 b, .slice Av nv cv] 33)) w.heap.size (.slice Ak nk ck) (.slice Aq nq cq) (.int .i64 a) (.int .i64 b) (.slice Av nv cv)) := heap_alloc_new w _
  have hmm := @run_makeMap Tryz.prog
  have hfew := hl.set.few
  have HNL : Hid (n = l.length) := h.1
  have HK1 := Lib.hid (ElemsAt.keep hk hb1)
  have HQ1 := Lib.hid (ElemsAt.keep hq hb1)
  have HV1 := Lib.hid (ElemsAt.keep hv hb1)
  have HB1 := Lib.hid hb1
  have HI1 := Lib.hid (h.keep hb1)
  have HL := Lib.hid hl
  have HTM : Hid (∀ wx, Below w.heap.size w wx → Tabs wx ∧ MaxAt wx ∧ StandAt wx) := fun wx hb => ⟨Tabs.below hT hb, MaxAt.below hM hb, hS.below hb⟩
  clear hk hq hv hb1 h hl hT hM hS
  obtain ⟨E, hE⟩ : ∃ E, cfE lk lq a b lv = E := ⟨_, rfl⟩
  rw [hE]
  have HE := Lib.hid hE
  clear hE
  go_enter Tryz.func8, Tryz.ntmps8
  go_upto_region 1 with (fail)
  obtain ⟨T, hT⟩ : ∃ T, T = w.heap.size := ⟨_, rfl⟩
  rw [← hT] at HF1 ⊢
  generalize w.alloc (.cells #[.slice Ak nk ck, .slice Aq nq cq, .int .i64 a, .int .i64 b, .slice Av nv cv] 33) = w1 at *
  clear hT
  have HW0 : Hid (∀ wx, Below w1.heap.size w1 wx → Below w.heap.size w wx) := fun wx hb => HB1.out.trans (hb.mono HB1.out.size)
  have HCK : Hid (∀ wx, Below w1.heap.size w1 wx → Calls Tryz.prog 37 #[.slice A n c] wx fun e w' => e = .returned (.int .i64 0) ∧ Below w1.heap.size w1 w') := fun wx hb =>
    (check_ok A n c l wx (HI1.out.keep hb) HL.out (HTM.out wx (HW0.out wx hb)).1 (HTM.out wx (HW0.out wx hb)).2.1).mono fun e w' h => ⟨h.1, hb.trans (h.2.mono hb.size)⟩
  have HCF : Hid (∀ wx, Below w1.heap.size w1 wx → Calls Tryz.prog 9 #[.agg #[.slice Ak nk ck, .slice Aq nq cq, .int .i64 a, .int .i64 b, .slice Av nv cv]] wx fun e w' => e = .returned (.int .i64 E) ∧ Below w1.heap.size w1 w') := fun wx hb =>
    (checkFilter_any Ak nk ck lk Aq nq cq lq Av nv cv lv a b wx (ElemsAt.keep HK1.out hb) (ElemsAt.keep HQ1.out hb) (ElemsAt.keep HV1.out hb) hnk hnq hnv hqs hvs).mono fun e w' h => ⟨by rw [← HE.out]; exact h.1, hb.trans (h.2.mono hb.size)⟩
  clear hqs hvs HE
  go_cut [7] (fun v wx => v = .int .i64 E ∧ Below w1.heap.size w1 wx)
  case first =>
    have HHELD : Hid (∀ w', Below w1.heap.size w1 w' → w'.cell? ⟨T, 0, none⟩ = some (.slice Ak nk ck) ∧ w'.cell? ⟨T, 1, none⟩ = some (.slice Aq nq cq) ∧ w'.cell? ⟨T, 2, none⟩ = some (.int .i64 a) ∧ w'.cell? ⟨T, 3, none⟩ = some (.int .i64 b) ∧ w'.cell? ⟨T, 4, none⟩ = some (.slice Av nv cv) ∧ Below w1.heap.size w1 w') := fun w' hb => by
      obtain ⟨t0, t1, t2, t3, t4, -, -, -, -, -⟩ := FiltB.c ((hb.block T HF1.out.lt).trans HF1.out)
      exact ⟨t0, t1, t2, t3, t4, hb⟩
    have HF2 := Lib.hid (fun wx => first_2f 0 E E wx.heap.size wx rfl (firstE_z E))
    go_region_held3 (fun w' => w'.cell? ⟨T, 0, none⟩ = some (.slice Ak nk ck) ∧ w'.cell? ⟨T, 1, none⟩ = some (.slice Aq nq cq) ∧ w'.cell? ⟨T, 2, none⟩ = some (.int .i64 a) ∧ w'.cell? ⟨T, 3, none⟩ = some (.int .i64 b) ∧ w'.cell? ⟨T, 4, none⟩ = some (.slice Av nv cv) ∧ Below w1.heap.size w1 w')
      (first | assumption | exact HHELD.out _ ((Below.refl _ _).drew) | exact HHELD.out _ hx1 | exact HHELD.out _ hx0 | exact HHELD.out _ (Below.refl _ _) | exact HHELD.out _ (hx1.alloc hx1.size _))
      (first
        | (go_at_call 37; (with_reducible refine Calls.mono (HCK.out _ ?_) ?_); (first | exact (Below.refl _ _).drew | exact Below.refl _ _); rintro e wx ⟨rfl, hx0⟩)
        | (go_at_call 9; (with_reducible refine Calls.mono (HCF.out _ ?_) ?_); (first | exact hx0); rintro e wy ⟨rfl, hx1⟩)
        | (go_at_call 36; (with_reducible refine Calls.mono (HF2.out _ _) ?_); rintro e wz ⟨rfl, hwz⟩; obtain rfl := hwz))
    all_goals
      go_wp2_with fail
      go_meet
      exact ⟨rfl, hx1.alloc hx1.size _⟩
  case rest =>
    obtain ⟨rfl, hbc⟩ := hcut
    have HBC : Hid (Below w.heap.size w wc) := HW0.out wc hbc
    have HFC : Hid (FiltB wc T (.slice Ak nk ck) (.slice Aq nq cq) (.int .i64 a) (.int .i64 b) (.slice Av nv cv)) := (hbc.block T HF1.out.lt).trans HF1.out
    have HIC := Lib.hid (HI1.out.keep hbc)
    have HKC := Lib.hid (ElemsAt.keep HK1.out hbc)
    have HQC := Lib.hid (ElemsAt.keep HQ1.out hbc)
    have HVC := Lib.hid (ElemsAt.keep HV1.out hbc)
    clear HCK HCF hbc HI1 HK1 HQ1 HV1 HF1 HB1 HW0
    by_cases hE : E ≠ 0
    · have HP : Hid (KeepPost w l E (.returned (.tuple #[.slice none 0 0, .slice none 0 0, .int .i64 E])) wc) := ⟨fun _ => rfl, fun e => absurd e hE, HBC.out⟩
      go_wp2_with fail
      go_ret3
      exact HP.out
    · have hE0 : E = 0 := by omega
      subst hE0
      clear hE
      have HNX := Lib.hid (newTree_any A n c l wc HIC.out HL.out.set)
      go_wp2_with fail
      refine HNX.out.mono ?_
      rintro e w2 ⟨Mi, Mk, m, tv, D, hd, rfl, hmi, htr, hb2⟩
      obtain ⟨A5, c5, hv9, -, -, -⟩ := htr.tops.at_ strE_ok
      subst hv9
      have hb3 : Below w2.heap.size w2 (w2.alloc (.cells #[.map (some Mi), .map (some Mk), .slice A5 (topN l l.length).length c5] 82)) := (Below.refl _ _).alloc (Nat.le_refl _) _
      have HT3 : Hid (TB (w2.alloc (.cells #[.map (some Mi), .map (some Mk), .slice A5 (topN l l.length).length c5] 82)) w2.heap.size (.map (some Mi)) (.map (some Mk)) (.slice A5 (topN l l.length).length c5)) := heap_alloc_new w2 _
      have HMI3 := Lib.hid (hmi.below hb3)
      have HBC3 := Lib.hid (hb2.trans (hb3.mono hb2.size))
      clear hmi htr hb2 HNX
      go_upto_region 5 with (fail)
      obtain ⟨TT, hTT⟩ : ∃ TT, TT = w2.heap.size := ⟨_, rfl⟩
      rw [← hTT] at HT3 ⊢
      generalize w2.alloc (.cells #[.map (some Mi), .map (some Mk), .slice A5 (topN l l.length).length c5] 82) = w3 at *
      clear hTT hb3
      generalize (topN l l.length).length = nt at *
      have HB3 : Hid (Below w.heap.size w w3) := HBC.out.trans (HBC3.out.mono HBC.out.size)
      have HF3 : Hid (FiltB w3 T (.slice Ak nk ck) (.slice Aq nq cq) (.int .i64 a) (.int .i64 b) (.slice Av nv cv)) := (HBC3.out.block T HFC.out.lt).trans HFC.out
      have HI3 := Lib.hid (HIC.out.keep HBC3.out)
      have HK3 := Lib.hid (ElemsAt.keep HKC.out HBC3.out)
      have HQ3 := Lib.hid (ElemsAt.keep HQC.out HBC3.out)
      have HV3 := Lib.hid (ElemsAt.keep HVC.out HBC3.out)
      have HFT : Hid (∀ wx, Below w3.heap.size w3 wx → TB wx TT (.map (some Mi)) (.map (some Mk)) (.slice A5 nt c5) ∧ FiltB wx T (.slice Ak nk ck) (.slice Aq nq cq) (.int .i64 a) (.int .i64 b) (.slice Av nv cv) ∧ ItemsAt wx A n c l) := fun wx hb => ⟨HT3.out.keep hb, (hb.block T HF3.out.lt).trans HF3.out, HI3.out.keep hb⟩
      have HWHY : Hid (∀ x ∈ l, ∀ wx, Below w3.heap.size w3 wx → Calls Tryz.prog 39 #[x.v, .agg #[.slice Ak nk ck, .slice Aq nq cq, .int .i64 a, .int .i64 b, .slice Av nv cv]] wx fun e w' => (∃ z : Int, e = .returned (.int .i64 z)) ∧ Below wx.heap.size wx w') := fun x hx wx hb =>
        why_any x Ak nk ck lk Aq nq cq lq Av nv cv lv a b wx (ElemsAt.keep HK3.out hb) (ElemsAt.keep HQ3.out hb) (ElemsAt.keep HV3.out hb) (by omega) (by omega) (by omega) (HTM.out wx (HB3.out.trans (hb.mono HB3.out.size))).2.2 (HL.out.set.ok.each x hx).kind (by have := (HL.out.set.ok.each x hx).size; omega)
      have HTOP : Hid (∀ x ∈ l, ∀ wx, Below w3.heap.size w3 wx → Calls Tryz.prog 40 #[.agg #[.map (some Mi), .map (some Mk), .slice A5 nt c5], .string x.id] wx fun e w' => e = .returned (.string (rootS l 4 x.id)) ∧ Below wx.heap.size wx w') := fun x hx wx hb =>
        top_any Mi Mk A5 nt c5 l 4 x.id wx (HMI3.out.below hb) (ItemOk.small (HL.out.set.ok.each x hx)).1 (par_small HL.out.set) (endUp_item HL.out.set hx)
      have HRS : Hid (∀ x ∈ l, (rootS l 4 x.id).size ≤ 1000000) := fun x hx => by
        have := root_size HL.out.set (List.mem_map.2 ⟨x, hx, rfl⟩ : idOf x ∈ l.map idOf)
        rwa [show bag (idOf x) = x.id from bag_of x.id] at this
      have HRL : Hid (∀ x : Itm, rootL l (idOf x) = (rootS l 4 x.id).data.toList) := fun x => by
        unfold rootL
        rw [show bag (idOf x) = x.id from bag_of x.id]
      clear HBC HFC HIC HKC HQC HVC HBC3 HF3 HI3 HK3 HQ3 HV3 HT3 HMI3 HTM
      have hbm : Below w3.heap.size w3 (w3.alloc (.map #[] 0)) := (Below.refl _ _).alloc (Nat.le_refl _) _
      have HS4 : Hid (SetAt (w3.alloc (.map #[] 0)) w3.heap.size []) := SetAt.start w3
      have HW4 := Lib.hid hbm
      clear hbm
      have hn2 : n ≤ 2000 := by have := HNL.out; omega
      go_wp2_with fail
      generalize w3.alloc (.map #[] 0) = w4 at *
      obtain ⟨M, hM⟩ : ∃ M, M = w3.heap.size := ⟨_, rfl⟩
      rw [← hM] at HS4 ⊢
      have HMB : Hid (w3.heap.size ≤ M) := Nat.le_of_eq hM.symm
      clear hM
      go_loopg [30] n (fun gk v wr => ∃ (k : Nat) (K : List Str), Hid (k + gk = n) ∧ v = .int .i64 (k : Int) ∧ Hid (K.length ≤ k) ∧ Hid (SetAt wr M K) ∧ Hid (Below w3.heap.size w3 wr))
      case atStart => exact ⟨0, [], show 0 + n = n by omega, rfl, Nat.le_refl _, HS4.out, HW4.out⟩
      case round =>
        obtain ⟨k, K, HK, rfl, HKL, HS, HW⟩ := hrel
        clear HS4 HW4
        have hkn : k ≤ n := by have := HK.out; omega
        by_cases hlt : k < n
        · have HGK := Lib.hid (show k + 1 + (gk - 1) = n ∧ 0 < gk by have := HK.out; omega)
          obtain ⟨g, off, rfl, hg, hc⟩ := (HFT.out wr HW.out).2.2.item (by omega)
          have hkl : k < l.length := by have := HNL.out; omega
          obtain ⟨x, hx⟩ : ∃ x, l[k]? = some x := ⟨_, List.getElem?_eq_getElem hkl⟩
          obtain ⟨c0, c1, c2, c3, c4, c5', c6⟩ := hc k x hx
          have hmem := List.mem_of_getElem? hx
          have HWX := Lib.hid (HWHY.out x hmem)
          have HTX := Lib.hid (HTOP.out x hmem)
          have hrs := HRS.out x hmem
          have hb5 : Below wr.heap.size wr (wr.alloc (.cells #[.string x.id, .string x.cu, .int .i64 x.kind, .string x.name, .int .i64 x.at_, .string x.par, .string x.text] 60)) := (Below.refl _ _).alloc (Nat.le_refl _) _
          have HI5 : Hid (ItemAt (wr.alloc (.cells #[.string x.id, .string x.cu, .int .i64 x.kind, .string x.name, .int .i64 x.at_, .string x.par, .string x.text] 60)) wr.heap.size x) := item_new wr x
          have HW5 := Lib.hid (HW.out.trans (hb5.mono HW.out.size))
          have HS5 := Lib.hid (HS.out.below hb5)
          unfold Itm.v at HWX
          clear hc hx hkl HK hb5 hg hmem HS
          go_upto_region 9 with (fail)
          obtain ⟨P, hP⟩ : ∃ P, P = wr.heap.size := ⟨_, rfl⟩
          rw [← hP] at HI5 ⊢
          generalize wr.alloc (.cells #[.string x.id, .string x.cu, .int .i64 x.kind, .string x.name, .int .i64 x.at_, .string x.par, .string x.text] 60) = w5 at *
          clear hP c0 c1 c2 c3 c4 c5' c6 HW
          obtain ⟨c0, c1, c2, c3, c4, c5', c6⟩ := HI5.out.c
          obtain ⟨t0, t1, t2, t3, t4, -, -, -, -, -⟩ := (HFT.out w5 HW5.out).2.1.c
          go_wp2_with fail
          refine (HWX.out w5 HW5.out).mono ?_
          rintro e w6 ⟨⟨z, rfl⟩, hb6⟩
          have HW6 : Hid (Below w3.heap.size w3 w6) := HW5.out.trans (hb6.mono HW5.out.size)
          have HI6 := Lib.hid (HI5.out.keep hb6)
          have HS6 := Lib.hid (HS5.out.below hb6)
          clear hb6 HW5 HI5 HS5 HWX c0 c1 c2 c3 c4 c5' c6 t0 t1 t2 t3 t4
          by_cases hz : z ≠ 0
          · go_wp2_with fail
            go_roundg (gk - 1)
            case measure => exact Nat.sub_lt HGK.out.2 Nat.one_pos
            case rel => exact ⟨k + 1, K, HGK.out.1, by go_num, Nat.le_succ_of_le HKL.out, HS6.out, HW6.out⟩
          · have hz0 : z = 0 := by omega
            subst hz0
            clear hz
            obtain ⟨c0, c1, c2, c3, c4, c5', c6⟩ := HI6.out.c
            obtain ⟨t0, t1, t2, -, -, -⟩ := (HFT.out w6 HW6.out).1.c
            generalize rootS l 4 x.id = r at *
            go_wp2_with fail
            refine (HTX.out w6 HW6.out).mono ?_
            rintro e w7 ⟨rfl, hb7⟩
            have HS7 : Hid (w7.ownsMap Tryz.prog 9 (plainElem Tryz.prog 4) M K.length (setD K)) := HS6.out.below hb7
            have HW7 : Hid (Below w3.heap.size w3 w7) := HW6.out.trans (hb7.mono HW6.out.size)
            have hKl : K.length ≤ 2000 := by have := HKL.out; omega
            clear hb7 HW6 HI6 HS6 HTX c0 c1 c2 c3 c4 c5' c6 t0 t1 t2
            go_wp2_with (at_mapUpdate; refine wpList_mapUpdate_own _ rfl _ _ _ 84 rfl 9 4 keyS Tryz.underlying84 _ M K.length _ rfl HS7.out (by simp only [maxLen]; omega) _ _ (.string r.data.toList) rfl rfl (keyS_mk r hrs) (.lit (.bool true)) [] (plainElem_bool Tryz.underlying4 true) ?_; intro w8 hown8 hgrow8)
            have HS8 : Hid (SetAt w8 M (K ++ [r.data.toList])) := SetAt.put hown8
            have HW8 : Hid (Below w3.heap.size w3 w8) := HW7.out.grown hgrow8 HW7.out.size (fun i e => by cases e; exact HMB.out)
            clear hown8 hgrow8 HS7 HW7
            go_wp2_with fail
            go_roundg (gk - 1)
            case measure => exact Nat.sub_lt HGK.out.2 Nat.one_pos
            case rel => exact ⟨k + 1, _, HGK.out.1, by go_num, by have := HKL.out; show (K ++ [r.data.toList]).length ≤ k + 1; rw [List.length_append]; exact Nat.add_le_add_right this 1, HS8.out, HW8.out⟩
        · have hnk : ¬ (k : Int) < (n : Int) := by omega
          have HBW : Hid (Below w.heap.size w wr) := HB3.out.trans (HW.out.mono HB3.out.size)
          obtain ⟨wd, hwd⟩ : ∃ wd : World, wd = wr := ⟨_, rfl⟩
          rw [← hwd] at HS HW HBW
          rw [← hwd]
          clear hwd hlt HK hkn
          have HSD := Lib.hid HS.out
          have HBD := Lib.hid HBW.out
          have HFT2 : Hid (∀ wx, Below wd.heap.size wd wx → Below w3.heap.size w3 wx) := fun wx hb => HW.out.trans (hb.mono HW.out.size)
          have HPOST : Hid (∀ v u L wr, OwnStrs wr wd.heap.size v ((keptI l K).map idOf) → Owns LeftE wr wd.heap.size u L → L.length + (keptI l K).length = l.length → Below wd.heap.size wd wr → KeepPost w l 0 (.returned (.tuple #[v, u, .int .i64 0])) wr) := fun v u L wr h1 h2 h3 h4 => ⟨fun e => absurd rfl e, fun _ => ⟨v, u, K, L, rfl, h1.base_ HBD.out.size, h2.base_ HBD.out.size, h3⟩, HBD.out.trans (h4.mono HBD.out.size)⟩
          clear HS HW HBW
          go_wp2_with fail
          go_loopg [12, 13, 46] n (fun gk v12 v13 v wr => ∃ (k : Nat) (L : List (Str × Int)), Hid (k + gk = n) ∧ v = .int .i64 (k : Int) ∧ Hid (OwnStrs wr wd.heap.size v12 (((l.take k).filter fun x => K.contains (rootL l (idOf x))).map idOf)) ∧ Hid (Owns LeftE wr wd.heap.size v13 L) ∧ Hid (L.length + ((l.take k).filter fun x => K.contains (rootL l (idOf x))).length = k) ∧ Hid (Below wd.heap.size wd wr))
          case atStart => exact ⟨0, [], show 0 + n = n by omega, rfl, Owns.nil _ _, Owns.nil _ _, rfl, Below.refl _ _⟩
          case round =>
            obtain ⟨k, L, HK, rfl, HO, HLE, HLN, HW⟩ := hrel
            have hkn : k ≤ n := by have := HK.out; omega
            by_cases hlt : k < n
            · have HGK := Lib.hid (show k + 1 + (gk - 1) = n ∧ 0 < gk by have := HK.out; omega)
              obtain ⟨g, off, rfl, hg, hc⟩ := (HFT.out wr (HFT2.out wr HW.out)).2.2.item (by omega)
              have hkl : k < l.length := by have := HNL.out; omega
              obtain ⟨x, hx⟩ : ∃ x, l[k]? = some x := ⟨_, List.getElem?_eq_getElem hkl⟩
              obtain ⟨c0, c1, c2, c3, c4, c5', c6⟩ := hc k x hx
              have hmem := List.mem_of_getElem? hx
              have HWX := Lib.hid (HWHY.out x hmem)
              have HTX := Lib.hid (HTOP.out x hmem)
              have hrs := HRS.out x hmem
              have HTK : Hid (l.take (k + 1) = l.take k ++ [x]) := by
                show _ = _
                obtain ⟨h1, h2⟩ := List.getElem?_eq_some_iff.1 hx
                rw [List.take_succ_eq_append_getElem h1, h2]
              have hb5 : Below wr.heap.size wr (wr.alloc (.cells #[.string x.id, .string x.cu, .int .i64 x.kind, .string x.name, .int .i64 x.at_, .string x.par, .string x.text] 60)) := (Below.refl _ _).alloc (Nat.le_refl _) _
              have HI5 : Hid (ItemAt (wr.alloc (.cells #[.string x.id, .string x.cu, .int .i64 x.kind, .string x.name, .int .i64 x.at_, .string x.par, .string x.text] 60)) wr.heap.size x) := item_new wr x
              have HW5 := Lib.hid (HW.out.trans (hb5.mono HW.out.size))
              have HO5 := Lib.hid (HO.out.below_ hb5)
              have HL5 := Lib.hid (HLE.out.below_ hb5)
              have hln := HLN.out
              have HRX := Lib.hid (HRL.out x)
              unfold Itm.v at HWX
              clear hc hx hkl HK hb5 hg hmem HO HLE
              go_upto_region 17 with (fail)
              obtain ⟨P, hP⟩ : ∃ P, P = wr.heap.size := ⟨_, rfl⟩
              rw [← hP] at HI5 ⊢
              generalize wr.alloc (.cells #[.string x.id, .string x.cu, .int .i64 x.kind, .string x.name, .int .i64 x.at_, .string x.par, .string x.text] 60) = w5 at *
              clear hP c0 c1 c2 c3 c4 c5' c6 HW
              obtain ⟨c0, c1, c2, c3, c4, c5', c6⟩ := HI5.out.c
              obtain ⟨t0, t1, t2, -, -, -⟩ := (HFT.out w5 (HFT2.out w5 HW5.out)).1.c
              generalize rootS l 4 x.id = r at *
              have HLK := Lib.hid (fun wx (hb : Below wd.heap.size wd wx) => (HSD.out.below hb).look0 r hrs)
              have HRT : Hid (∀ bb, K.contains r.data.toList = bb → ((l.take (k + 1)).filter fun x => K.contains (rootL l (idOf x))) = ((l.take k).filter fun x => K.contains (rootL l (idOf x))) ++ if bb then [x] else []) := fun bb e => by
                rw [HTK.out, List.filter_append]
                congr 1
                cases bb with
                | true => rw [List.filter_cons_of_pos (by rw [HRX.out]; exact e)]; rfl
                | false => rw [List.filter_cons_of_neg (by rw [HRX.out, e]; decide)]; rfl
              clear HTK HRX
              generalize hFk : ((l.take k).filter fun x => K.contains (rootL l (idOf x))) = Fk at *
              cases hbb : K.contains r.data.toList with
              | true =>
                have HR2 := Lib.hid (HRT.out true hbb)
                rw [hbb] at HLK
                clear HRT hbb hFk
                go_upto_region 18 with (go_at_call 40; refine (HTX.out w5 (HFT2.out w5 HW5.out)).mono ?_; rintro e w6 ⟨rfl, hb6⟩; have hlk := HLK.out w6 (HW5.out.trans (hb6.mono HW5.out.size)); have HB6 := Lib.hid hb6; clear hb6)
                have HI6 := Lib.hid (HI5.out.keep HB6.out)
                have HO6 := Lib.hid (HO5.out.below_ HB6.out)
                have HL6 := Lib.hid (HL5.out.below_ HB6.out)
                have HW6 : Hid (Below wd.heap.size wd w6) := HW5.out.trans (HB6.out.mono HW5.out.size)
                clear c0 c1 c2 c3 c4 c5' c6 t0 t1 t2 hlk HB6 HI5 HO5 HL5 HW5 HTX HWX
                obtain ⟨c0, c1, c2, c3, c4, c5', c6⟩ := HI6.out.c
                have HONE : Hid (ElemsAt StrE (w6.alloc (.cells #[.string x.id] 9)) (some ⟨w6.heap.size, 0, none⟩) 1 1 [x.id.data.toList]) := one_elem (E := StrE) w6 x.id.data.toList
                have hal : Below w6.heap.size w6 (w6.alloc (.cells #[.string x.id] 9)) := (Below.refl _ _).alloc (Nat.le_refl _) _
                have HOA := Lib.hid (HO6.out.below_ hal)
                have HLA := Lib.hid (HL6.out.below_ hal)
                have HWA := Lib.hid (HW6.out.trans (hal.mono HW6.out.size))
                have hfl : Fk.length ≤ 2000 := by omega
                have hfm : (Fk.map idOf).length = Fk.length := List.length_map ..
                have hws := HW6.out.size
                go_wp2_with (at_builtin; refine append_elems strE_ok rfl _ _ rfl wd.heap.size u12 (Fk.map idOf) rfl HOA.out (some ⟨w6.heap.size, 0, none⟩) 1 1 [x.id.data.toList] rfl HONE.out (by simp only [List.length_singleton]; omega) (by simp; omega) ?_; intro v7 w7 hown7 hgrow7 hv7)
                have HO7 : Hid (OwnStrs w7 wd.heap.size v7 (((l.take (k + 1)).filter fun x => K.contains (rootL l (idOf x))).map idOf)) := by
                  show OwnStrs _ _ _ _
                  rw [HR2.out, List.map_append]
                  exact hown7
                have HL7 : Hid (Owns LeftE w7 wd.heap.size u13 L) := Owns.beside HLA.out HOA.out str_ne_left hgrow7
                have HW7 : Hid (Below wd.heap.size wd w7) := HWA.out.grown hgrow7 HWA.out.size (fun i e => (HOA.out.lt i e).1)
                have HN7 : Hid (L.length + ((l.take (k + 1)).filter fun x => K.contains (rootL l (idOf x))).length = k + 1) := by show _ = _; rw [HR2.out, List.length_append]; simp only [if_true, List.length_singleton]; omega
                clear hown7 hgrow7 hv7 HR2 hal
                go_wp2_with fail
                go_roundg (gk - 1)
                case measure => exact Nat.sub_lt HGK.out.2 Nat.one_pos
                case rel => exact ⟨k + 1, L, HGK.out.1, by go_num, HO7.out, HL7.out, HN7.out, HW7.out⟩
              | false =>
                have HR2 := Lib.hid (HRT.out false hbb)
                rw [hbb] at HLK
                clear HRT hbb hFk
                go_upto_region 19 with (go_at_call 40; refine (HTX.out w5 (HFT2.out w5 HW5.out)).mono ?_; rintro e w6 ⟨rfl, hb6⟩; have hlk := HLK.out w6 (HW5.out.trans (hb6.mono HW5.out.size)); have HB6 := Lib.hid hb6; clear hb6)
                have HI6 := Lib.hid (HI5.out.keep HB6.out)
                have HO6 := Lib.hid (HO5.out.below_ HB6.out)
                have HL6 := Lib.hid (HL5.out.below_ HB6.out)
                have HW6 : Hid (Below wd.heap.size wd w6) := HW5.out.trans (HB6.out.mono HW5.out.size)
                clear c0 c1 c2 c3 c4 c5' c6 t0 t1 t2 hlk HB6 HI5 HO5 HL5 HW5 HTX
                obtain ⟨c0, c1, c2, c3, c4, c5', c6⟩ := HI6.out.c
                obtain ⟨t0, t1, t2, t3, t4, -, -, -, -, -⟩ := (HFT.out w6 (HFT2.out w6 HW6.out)).2.1.c
                have HWZ : Hid (∀ wx, Below w6.heap.size w6 wx → Calls Tryz.prog 39 #[.agg #[.string x.id, .string x.cu, .int .i64 x.kind, .string x.name, .int .i64 x.at_, .string x.par, .string x.text], .agg #[.slice Ak nk ck, .slice Aq nq cq, .int .i64 a, .int .i64 b, .slice Av nv cv]] wx fun e w' => (∃ z : Int, e = .returned (.int .i64 z)) ∧ Below wx.heap.size wx w') := fun wx hb => HWX.out wx (HFT2.out wx (HW6.out.trans (hb.mono HW6.out.size)))
                have HLL : Hid (L.length ≤ 2000) := by show _ ≤ _; omega
                have hws := HW6.out.size
                go_region_law (first
                  | (refine step_elems leftE_ok (by rfl) _ _ (by rfl) wd.heap.size u13 L (by rfl) ?_ _ 1 1 [(x.id.data.toList, z)] (by rfl) ?_ (by omega) ?_ ?_ ?_; (exact HLA.out); (exact HONE.out); (simp only [List.length_singleton]; have := HLL.out; omega); (simp; omega); intro v10 w10 hown10 hgrow10 hv10)
                  | (go_simp; go_at_call 39; (with_reducible refine Calls.mono (HWZ.out _ ?_) ?_); (first | exact (Below.refl _ _).drew | exact Below.refl _ _ | exact below_drewN (Below.refl _ _) _); rintro e w8 ⟨⟨z, rfl⟩, hb8⟩; have hb86 : Below w6.heap.size w6 w8 := (by first | exact hb8 | exact ((Below.refl _ _).drew).trans hb8 | exact (below_drewN (Below.refl _ _) _).trans hb8); have hk8 := (HI6.out.keep hb86).c.1; have hz8 := hb86.size; have HLA : Hid (Owns LeftE (w8.alloc (.cells #[.string x.id, .int .i64 z] 88)) wd.heap.size u13 L) := (HL6.out.below_ hb86).below_ ((Below.refl _ _).alloc (Nat.le_refl _) _); have HONE : Hid (ElemsAt LeftE (w8.alloc (.cells #[.string x.id, .int .i64 z] 88)) (some ⟨w8.heap.size, 0, none⟩) 1 1 [(x.id.data.toList, z)]) := one_elem (E := LeftE) w8 (x.id.data.toList, z)))
                all_goals
                  have hbx : Below w6.heap.size w6 (w8.alloc (.cells #[.string x.id, .int .i64 z] 88)) := hb86.trans ((Below.refl _ _).alloc hz8 _)
                  have HWA := Lib.hid (HW6.out.trans (hbx.mono hws))
                  have HO7 : Hid (OwnStrs w10 wd.heap.size u12 (((l.take (k + 1)).filter fun x => K.contains (rootL l (idOf x))).map idOf)) := by
                    show OwnStrs _ _ _ _
                    rw [HR2.out, if_neg (by decide), List.append_nil]
                    exact Owns.beside (HO6.out.below_ hbx) HLA.out left_ne_str hgrow10
                  have HL7 := Lib.hid hown10
                  have HW7 : Hid (Below wd.heap.size wd w10) := HWA.out.grown hgrow10 HWA.out.size (fun i e => (HLA.out.lt i e).1)
                  have HN7 : Hid ((L ++ [(x.id.data.toList, z)]).length + ((l.take (k + 1)).filter fun x => K.contains (rootL l (idOf x))).length = k + 1) := by show _ = _; rw [HR2.out, List.length_append, List.length_append]; simp; omega
                  clear hown10 hgrow10 hv10 HR2 hbx
                  go_wp2_with fail
                  go_roundg (gk - 1)
                  case measure => exact Nat.sub_lt HGK.out.2 Nat.one_pos
                  case rel => exact ⟨k + 1, _, HGK.out.1, by go_num, HO7.out, HL7.out, HN7.out, HW7.out⟩
            · have hnk : ¬ (k : Int) < (n : Int) := by omega
              have hta : l.take k = l := List.take_of_length_le (by have := HNL.out; omega)
              have hkl : k = l.length := by have := HNL.out; omega
              rw [hta] at HO HLN
              have HFF := Lib.hid (HPOST.out _ _ L wr HO.out HLE.out (by rw [← hkl]; exact HLN.out) HW.out)
              clear hta hkl
              go_wp2_with fail
              go_ret3
              exact HFF.out
end Go.Proofs.YtfijplllfdmcoaaGreatDoor

namespace Go.Proofs.YtfijplllfdmcoaaGreatDoor
open Go.RowKit Go.Maps
attribute [local go_sem ↓] Go.wp_at_zero Go.wp_at_succ

theorem GoodI.setRF {l : List Itm} (h : GoodI l) : SetR l := by
  refine ⟨⟨h.ok, ?_, by have := h.short; omega⟩, h.rise⟩
  have hr : (l.map fun x => x.id.data.toList).Pairwise fun a b => a ≠ b := h.rise.imp (fun {a b} hab e => by
    subst e
    rw [Bool.or_eq_false_iff] at hab
    simp at hab)
  have : (l.map Itm.id).Pairwise fun a b => a ≠ b := by
    rw [List.pairwise_map] at hr ⊢
    exact hr.imp (fun {a b} hab e => hab (by rw [e]))
  exact this
set_option maxHeartbeats 6400000 in
set_option maxRecDepth 100000 in
theorem filtersLaw_any (A : Option Addr) (n c : Nat) (w : World) (hA : RowAt w A n) (hbig : n ≤ 1000000000000000) (hS : StandAt w) (hT : Tabs w) (hM : MaxAt w) :
    Calls Tryz.prog 3 #[.slice A n c] w (LawPost w) := by
  have hst := stream_new w A n c hA hbig
  have hB : Below w.heap.size w (w.alloc (.cells #[.slice A n c, .int .i64 0] 25)) := (Below.refl _ _).alloc (Nat.le_refl _) _
  have HTM : Hid (∀ w', Below w.heap.size w w' → Tabs w' ∧ MaxAt w' ∧ StandAt w') := fun w' hb => ⟨Tabs.below hT hb, MaxAt.below hM hb, hS.below hb⟩
  clear hS hT hM
  go_enter Tryz.func3, Tryz.ntmps3
  go_upto_region 2 with (fail)
  generalize w.alloc (.cells #[.slice A n c, .int .i64 0] 25) = w1 at *
  go_wp2_with fail
  refine (rangeR_any w.heap.size A n c 0 0 12 _ hst (by omega) (by omega) (by omega) (by omega)).mono ?_
  rintro e w2 ⟨r, rfl, hr0, hr1, hs2, hg2⟩
  obtain ⟨m, rfl⟩ := Int.eq_ofNat_of_zero_le hr0
  have hm : m ≤ 12 := by omega
  have HB2 : Hid (Below w.heap.size w w2) := hB.grown hg2 hB.size (fun i e => Nat.le_of_eq (Option.some.inj e))
  have HRI := Lib.hid (rightItems_any w.heap.size A n c 1 m w2 hs2 (by omega) hm (fun w' hg => ⟨(HTM.out w' (HB2.out.grown hg HB2.out.size (fun i e => Nat.le_of_eq (Option.some.inj e)))).1, (HTM.out w' (HB2.out.grown hg HB2.out.size (fun i e => Nat.le_of_eq (Option.some.inj e)))).2.1⟩))
  have HGL : Hid (w.heap.size < w2.heap.size) := hs2.lt
  clear hst hB hr0 hr1 hs2 hg2
  go_wp2_with fail
  refine HRI.out.mono ?_
  rintro e w3 ⟨v3, l, rfl, hown3, hgd, -, hs3, hg3⟩
  have HB3 : Hid (Below w.heap.size w w3) := HB2.out.grown hg3 HB2.out.size (fun i e => Nat.le_of_eq (Option.some.inj e))
  obtain ⟨A3, c3, hv3, -, hat3, hbl3⟩ := hown3.at_ itemE_ok
  subst hv3
  have HL := Lib.hid hgd.setRF
  have hl12 := hgd.short
  obtain ⟨nl, hnl⟩ : ∃ nl, nl = l.length := ⟨_, rfl⟩
  rw [← hnl] at hat3 hl12 ⊢
  have HNL : Hid (nl = l.length) := hnl
  have HFI := Lib.hid (filter_any w.heap.size A n c (1 + 210 * m) A3 nl c3 w3 hs3 (by omega) l hat3 (fun g' off e => by have := (hbl3 g' off e).2; have := HGL.out; omega) (fun x hx => ⟨(HL.out.set.ok.each x hx).kind, by have := (HL.out.set.ok.each x hx).size; omega⟩) (by omega))
  have HOW3 := Lib.hid hown3
  have hz23 := hg3.size
  clear hgd hg3 hat3 hnl HRI hs3 hbl3 hown3
  go_wp2_with fail
  refine HFI.out.mono ?_
  rintro e w4 ⟨k, q, v, x, y, lk, lq, kn, rfl, hok, hoq, hov, hk10, ⟨hq10, hqs⟩, ⟨hv10, hvs⟩, -, hg4⟩
  have hat4 : ItemsAt w4 A3 nl c3 l := by
    have h := HOW3.out.free hg4 HGL.out
    obtain ⟨A', c', hv', -, hat', -⟩ := h.at_ itemE_ok
    simp only [Value.slice.injEq] at hv'
    obtain ⟨rfl, -, rfl⟩ := hv'
    rw [HNL.out]
    exact hat'
  have HB4 : Hid (Below w.heap.size w w4) := HB3.out.grown hg4 HB3.out.size (fun i e => Nat.le_of_eq (Option.some.inj e))
  obtain ⟨Ak, ck, hvk, -, hatk, -⟩ := hok.at_ intE_ok
  obtain ⟨Aq, cq, hvq, -, hatq, -⟩ := hoq.at_ strE_ok
  obtain ⟨Av, cv, hvv, -, hatv, -⟩ := hov.at_ strE_ok
  subst hvk hvq hvv
  obtain ⟨nk, hnk⟩ : ∃ nk, nk = lk.length := ⟨_, rfl⟩
  obtain ⟨nq, hnq⟩ : ∃ nq, nq = lq.length := ⟨_, rfl⟩
  obtain ⟨nv, hnv⟩ : ∃ nv, nv = kn.length := ⟨_, rfl⟩
  rw [← hnk] at hatk hk10 ⊢
  rw [← hnq] at hatq hq10 ⊢
  rw [← hnv] at hatv hv10 ⊢
  have hb5 : Below w4.heap.size w4 (w4.alloc (.cells #[.slice Ak nk ck, .slice Aq nq cq, .int .i64 x, .int .i64 y, .slice Av nv cv] 33)) := (Below.refl _ _).alloc (Nat.le_refl _) _
  have HF5 : Hid (FiltB (w4.alloc (.cells #[.slice Ak nk ck, .slice Aq nq cq, .int .i64 x, .int .i64 y, .slice Av nv cv] 33)) w4.heap.size (.slice Ak nk ck) (.slice Aq nq cq) (.int .i64 x) (.int .i64 y) (.slice Av nv cv)) := heap_alloc_new w4 _
  have HI5 := Lib.hid (hat4.keep hb5)
  have HK5 := Lib.hid (ElemsAt.keep hatk hb5)
  have HQ5 := Lib.hid (ElemsAt.keep hatq hb5)
  have HV5 := Lib.hid (ElemsAt.keep hatv hb5)
  have HB5 := Lib.hid (HB4.out.trans (hb5.mono HB4.out.size))
  clear hok hoq hov hg4 hat4 hatk hatq hatv hnk hnq hnv hb5 HFI HOW3
  go_upto_region 4 with (fail)
  obtain ⟨T, hT⟩ : ∃ T, T = w4.heap.size := ⟨_, rfl⟩
  rw [← hT] at HF5 ⊢
  generalize w4.alloc (.cells #[.slice Ak nk ck, .slice Aq nq cq, .int .i64 x, .int .i64 y, .slice Av nv cv] 33) = w5 at *
  clear hT
  obtain ⟨t0, t1, t2, t3, t4, -, -, -, -, -⟩ := HF5.out.c
  obtain ⟨E, hE⟩ : ∃ E, cfE lk lq x y kn = E := ⟨_, rfl⟩
  have hke := keep_any A3 nl c3 l Ak nk ck lk Aq nq cq lq Av nv cv kn x y w5 HI5.out HK5.out HQ5.out HV5.out (by omega) (by omega) (by omega) (fun s hs => by have := hqs s hs; omega) (fun s hs => by have := hvs s hs; omega) HL.out (HTM.out w5 HB5.out).1 (HTM.out w5 HB5.out).2.1 (HTM.out w5 HB5.out).2.2
  have HCF : Hid (∀ wx, Below w5.heap.size w5 wx → Calls Tryz.prog 9 #[.agg #[.slice Ak nk ck, .slice Aq nq cq, .int .i64 x, .int .i64 y, .slice Av nv cv]] wx fun e w' => e = .returned (.int .i64 E) ∧ Below wx.heap.size wx w') := fun wx hb =>
    (checkFilter_any Ak nk ck lk Aq nq cq lq Av nv cv kn x y wx (ElemsAt.keep HK5.out hb) (ElemsAt.keep HQ5.out hb) (ElemsAt.keep HV5.out hb) (by omega) (by omega) (by omega) (fun s hs => by have := hqs s hs; omega) (fun s hs => by have := hvs s hs; omega)).mono fun e w' h => ⟨by rw [← hE]; exact h.1, h.2⟩
  rw [hE] at hke
  have HKE := Lib.hid hke
  clear hE hqs hvs hke
  go_wp2_with fail
  refine HKE.out.mono ?_
  rintro e w6 ⟨h1, h2, hb6⟩
  have HB6 := Lib.hid (HB5.out.trans (hb6.mono HB5.out.size))
  have HB56 := Lib.hid hb6
  have HF6 : Hid (FiltB w6 T (.slice Ak nk ck) (.slice Aq nq cq) (.int .i64 x) (.int .i64 y) (.slice Av nv cv)) := (hb6.block T HF5.out.lt).trans HF5.out
  clear t0 t1 t2 t3 t4 HF5 hb6 HKE
  obtain ⟨t0, t1, t2, t3, t4, -, -, -, -, -⟩ := HF6.out.c
  by_cases hE : E ≠ 0
  · obtain rfl := h1 hE
    clear h1 h2
    go_wp2_with fail
    refine (HCF.out w6 HB56.out).mono ?_
    rintro e w7 ⟨rfl, hb7⟩
    have HB7 := Lib.hid (HB6.out.trans (hb7.mono HB6.out.size))
    clear hb7 t0 t1 t2 t3 t4
    go_wp2_with fail
    refine (stands_any w7 (HTM.out w7 HB7.out).2.2).mono ?_
    rintro e w9 ⟨rfl, hb9⟩
    have HB9 := Lib.hid (HB7.out.trans (hb9.mono HB7.out.size))
    clear hb9
    go_wp2_with fail
    go_ret
    exact ⟨rfl, HB9.out⟩
  · have hE0 : E = 0 := by omega
    obtain ⟨v, u, K, L, rfl, hown, hown2, hsum⟩ := h2 hE0
    clear h1 h2
    subst hE0
    clear hE t0 t1 t2 t3 t4
    obtain ⟨A7, c7, hv7, -, hat7, -⟩ := hown.at_ strE_ok
    obtain ⟨A8, c8, hv8, -, hat8, -⟩ := hown2.at_ leftE_ok
    subst hv7 hv8
    obtain ⟨n7, hn7⟩ : ∃ n7, n7 = ((keptI l K).map idOf).length := ⟨_, rfl⟩
    obtain ⟨n8, hn8⟩ : ∃ n8, n8 = L.length := ⟨_, rfl⟩
    rw [← hn7] at hat7 ⊢
    rw [← hn8] at hat8 ⊢
    have hkl : (keptI l K).length ≤ l.length := List.length_filter_le _ _
    have hn7' := hn7
    rw [List.length_map] at hn7'
    have hnl := HNL.out
    have hsi : (n7 : Int) + (n8 : Int) = (nl : Int) := by omega
    have hn712 : n7 ≤ 12 := by omega
    have HSUM := Lib.hid hsi
    have HAT7 := Lib.hid hat7
    have HWH := Lib.hid (whole_any A3 nl c3 l A7 n7 c7 ((keptI l K).map idOf) w6 (HI5.out.keep HB56.out) hat7 (fun s hs => by
      obtain ⟨z, hz, rfl⟩ := List.mem_map.1 hs
      exact List.mem_map.2 ⟨z, (List.mem_filter.1 hz).1, rfl⟩) HL.out (HTM.out w6 HB6.out).1 (HTM.out w6 HB6.out).2.1 (by omega))
    have HSORT : Hid (sortH (wholeL l ((keptI l K).map idOf)) = (keptI l K).map idOf) := whole_kept HL.out.set HL.out.rise K
    have HWLL : Hid ((wholeL l ((keptI l K).map idOf)).length = n7) := by
      show _ = _
      rw [← sortH_length, HSORT.out, hn7]
    clear hown hown2 hsum hat7 hat8 hn7 hn8 hkl hn7' hnl HCF HF6 HI5 HK5 HQ5 HV5
    generalize wholeL l ((keptI l K).map idOf) = WL at *
    generalize (keptI l K).map idOf = KL at *
    go_wp2_with fail
    refine HWH.out.mono ?_
    rintro e w7 ⟨v7, rfl, hown7, hb7⟩
    obtain ⟨A9, c9, hv9, -, -, -⟩ := hown7.at_ strE_ok
    subst hv9
    have HB67 := Lib.hid hb7
    have HSO := Lib.hid (sortH_any w6.heap.size _ WL w7 hown7 (by have := HWLL.out; omega))
    have HLT : Hid (∀ i, (Value.slice A9 WL.length c9).ownBlock = some i → w6.heap.size ≤ i) := fun i e => (hown7.lt i e).1
    rw [HSORT.out] at HSO
    rw [HWLL.out] at HSO HLT ⊢
    clear hown7 hb7 HWH
    go_wp2_with fail
    refine HSO.out.mono ?_
    rintro e w8 ⟨rfl, hown8, hg8⟩
    have HB68 : Hid (Below w6.heap.size w6 w8) := HB67.out.grown hg8 HB67.out.size (fun i e => HLT.out i e)
    have HAT8 := Lib.hid (ElemsAt.keep HAT7.out HB68.out)
    have HB8 := Lib.hid (HB6.out.trans (HB68.out.mono HB6.out.size))
    obtain ⟨A10, c10, hv10, -, hat10, -⟩ := hown8.at_ strE_ok
    have hkl7 : KL.length = n7 := HAT7.out.1.symm
    rw [hkl7] at hv10 hat10
    simp only [Value.slice.injEq] at hv10
    obtain ⟨rfl, -, rfl⟩ := hv10
    have HEQ := equal_any A9 A7 n7 c9 n7 c7 KL KL w8 hat10 HAT8.out (by omega) (by omega)
    rw [decide_eq_true (rfl : KL = KL)] at HEQ
    have HEQ := Lib.hid HEQ
    clear hown8 hg8 hat10 hkl7 HSO
    go_wp2_with fail
    refine HEQ.out.mono ?_
    rintro e w9 ⟨rfl, q, hq⟩
    have HB9 : Hid (Below w.heap.size w w9) := by
      show Below _ _ _
      rw [hq]
      exact below_drewN HB8.out q
    clear hq
    go_wp2_with fail
    refine (stands_any w9 (HTM.out w9 HB9.out).2.2).mono ?_
    rintro e w10 ⟨rfl, hb10⟩
    have HB10 := Lib.hid (HB9.out.trans (hb10.mono HB9.out.size))
    clear hb10
    go_wp2_with fail
    go_ret
    exact ⟨rfl, HB10.out⟩
end Go.Proofs.YtfijplllfdmcoaaGreatDoor
