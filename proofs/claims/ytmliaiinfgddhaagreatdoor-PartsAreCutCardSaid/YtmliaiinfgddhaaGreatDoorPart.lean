
/-
  What Part returns.
-/
import Derived.Test.YtmliaiinfgddhaaGreatDoorPartErr
import Derived.Test.YtmliaiinfgddhaaGreatDoorOwnSet
import Derived.Deep.RegionHeld3
import Derived.Deep.DrawnRows
namespace Go.Proofs.YtmliaiinfgddhaaGreatDoor
open Go.RowKit
attribute [local go_sem ↓] Go.wp_at_zero Go.wp_at_succ

theorem first_3z (g : Nat) (w : World) (h : g = w.heap.size) (t : TypeId) : Calls Tryz.prog 27 #[.slice (some ⟨g, 0, none⟩) 3 3] (w.alloc (.cells #[.int .i64 0, .int .i64 0, .int .i64 0] t)) fun e w' => e = .returned (.int .i64 0) ∧ (w.alloc (.cells #[.int .i64 0, .int .i64 0, .int .i64 0] t)) = w' := by
  subst h
  refine first_any _ 3 3 [0, 0, 0] _ rfl (by omega) (fun j hj => ?_)
  rw [World.cell?_alloc_at _ _ _ _ rfl]
  match j, hj with
  | 0, _ => rfl
  | 1, _ => rfl
  | 2, _ => rfl
theorem xor32_range (a b : Int) : 0 ≤ bits .xor .u32 a b ∧ bits .xor .u32 a b < 4294967296 := by
  simp only [bits]
  rw [IntKind.wrap_u32]
  exact ⟨Int.emod_nonneg _ (by decide), Int.emod_lt_of_pos _ (by decide)⟩
theorem hashN_range (L : List UInt8) : 0 ≤ hashN L ∧ hashN L < 4294967296 := by
  have h := xor32_range (mixH (mixH (fnvTo L L.length))) (mixH (mixH (fnvTo L L.length)) / 8192)
  unfold hashN
  generalize bits .xor .u32 (mixH (mixH (fnvTo L L.length))) (mixH (mixH (fnvTo L L.length)) / 8192) = z at *
  have e : wrap64 z = z := by unfold wrap64; omega
  rw [e]; exact h
/-- One that is in. -/
def inP (seed : List UInt8) (a b : Nat) (id : List UInt8) : Bool := decide (hashN (seed ++ 32 :: id) * (b : Int) < (a : Int) * 4294967296)
theorem inP_eq (seed : List UInt8) (a b : Nat) (id : List UInt8) : inP seed a b id = decide (hashN (seed ++ 32 :: id) * (b : Int) < (a : Int) * 4294967296) := rfl
theorem keyL_len {l : List UInt8} (h : keyL l = true) : l.length ≤ 40 := by
  unfold keyL at h
  simp at h
  omega
theorem mul_bound {z b : Int} (h : 0 ≤ z ∧ z < 4294967296) (hb : b ≤ 1000) (h0 : 0 ≤ b) : z * b ≤ 4294967296000 ∧ 0 ≤ z * b := by
  refine ⟨?_, Int.mul_nonneg h.1 h0⟩
  exact Int.mul_le_mul (show z ≤ 4294967296 by omega) hb h0 (by omega)
abbrev oneK : List UInt8 := [111, 110, 101]
theorem hash_one (x : List UInt8) (h : (⟨x.toArray⟩ : ByteArray).size ≤ 1000) (wx : World) : Calls Tryz.prog 31 #[.string ⟨x.toArray⟩, .string ⟨#[111, 110, 101]⟩] wx fun e w' => e = .returned (.int .i64 (hashN (oneK ++ 32 :: x))) ∧ Below wx.heap.size wx w' := by
  have k := hash_any ⟨x.toArray⟩ ⟨#[111, 110, 101]⟩ wx h (by decide)
  have e : (⟨#[111, 110, 101]⟩ : ByteArray).data.toList ++ 32 :: (⟨x.toArray⟩ : ByteArray).data.toList = oneK ++ 32 :: x := by simp
  rw [e] at k
  exact k
def PartsPost (w : World) (l : List (List UInt8)) (a b : Nat) (e : Ending) (w' : World) : Prop := ∃ v, e = .returned (.tuple #[v, .int .i64 0]) ∧ OwnStrs w' w.heap.size v (l.filter (inP oneK a b)) ∧ Below w.heap.size w w'
set_option maxHeartbeats 3200000 in
set_option maxRecDepth 100000 in
theorem part_any (A : Option Addr) (n c a b : Nat) (l : List (List UInt8)) (w : World) (h : StrsAt w A n c l) (hn : n ≤ 100) (hk : ∀ x ∈ l, keyL x = true) (hr : Rising l) (hb0 : 1 ≤ b) (hb : b ≤ 1000) (ha : a ≤ b) :
    Calls Tryz.prog 10 #[.slice A n c, .string ⟨#[111, 110, 101]⟩, .agg #[.int .i64 (a : Int), .int .i64 (b : Int)]] w (PartsPost w l a b) := by
  have HN := Lib.hid h.1
  have HS := Lib.hid h; clear h
  have HK := Lib.hid hk; clear hk
  have HR := Lib.hid hr; clear hr
  have HKO := Lib.hid (fun w => keyError_ok ⟨#[111, 110, 101]⟩ w (by decide +kernel))
  have HSH := Lib.hid (fun w => shareError_ok a b w hb0 (by omega) ha)
  go_enter Tryz.func10, Tryz.ntmps10
  go_upto_region 1 with (fail)
  have hp := heap_alloc_new w (.cells #[.int .i64 (a : Int), .int .i64 (b : Int)] 31)
  have hB : Below w.heap.size w (w.alloc (.cells #[.int .i64 (a : Int), .int .i64 (b : Int)] 31)) := (Below.refl _ _).alloc (Nat.le_refl _) _
  generalize w.alloc (.cells #[.int .i64 (a : Int), .int .i64 (b : Int)] 31) = w1 at *
  have HS1 := Lib.hid (HS.out.keep hB)
  have HP := Lib.hid hp; clear hp
  have hpl := (Array.getElem?_eq_some_iff.1 HP.out).1
  have HHELD : Hid (∀ w', Below w1.heap.size w1 w' → w'.cell? ⟨w.heap.size, 0, none⟩ = some (.int .i64 (a : Int)) ∧ w'.cell? ⟨w.heap.size, 1, none⟩ = some (.int .i64 (b : Int)) ∧ Below w1.heap.size w1 w') := fun w' hw => by
    obtain ⟨x0, x1, _⟩ := two_c ((hw.block _ hpl).trans HP.out)
    exact ⟨x0, x1, hw⟩
  go_cut [8] (fun v wx => v = .int .i64 0 ∧ Below w1.heap.size w1 wx)
  case first =>
    have hh0 := HHELD.out w1 (Below.refl _ _)
    obtain ⟨hh1, hh2, hh3⟩ := hh0
    go_region_held3 (fun w' => w'.cell? ⟨w.heap.size, 0, none⟩ = some (.int .i64 (a : Int)) ∧ w'.cell? ⟨w.heap.size, 1, none⟩ = some (.int .i64 (b : Int)) ∧ Below w1.heap.size w1 w')
      (first | assumption | exact HHELD.out _ ((Below.refl _ _).drew) | exact HHELD.out _ hx0 | exact HHELD.out _ hy0 | exact HHELD.out _ (hx0.alloc hx0.size _) | exact HHELD.out _ (hy0.alloc hy0.size _))
      (first
        | (go_at_call 28; (with_reducible refine Calls.mono (idsError_ok A n c l _ ?_ (by omega) HK.out HR.out) ?_); (first | exact HS1.out.keep hy0 | exact HS1.out.keep ((Below.refl _ _).drew)); rintro e wx ⟨rfl, hbx⟩; have hx0 : Below w1.heap.size w1 wx := (by first | exact below_trans' hy0 hbx | exact below_undr hbx); clear hbx)
        | (go_at_call 30; (with_reducible refine Calls.mono (HSH.out _) ?_); rintro e wy ⟨rfl, hby⟩; have hy0 : Below w1.heap.size w1 wy := (by first | exact below_trans' hx0 hby | exact below_undr hby); clear hby)
        | (go_at_call 29; (with_reducible refine Calls.mono (HKO.out _) ?_); rintro e wz ⟨rfl, hwz⟩; obtain rfl := hwz.symm)
        | (go_at_call 27; (with_reducible refine Calls.mono (first_3z _ _ rfl _) ?_); rintro e wz ⟨rfl, hwz⟩; obtain rfl := hwz))
    all_goals
      go_wp2_with fail
      go_meet
      first
        | (with_reducible exact ⟨rfl, hx0.alloc hx0.size _⟩)
        | (with_reducible exact ⟨rfl, hy0.alloc hy0.size _⟩)
  case rest =>
    obtain ⟨rfl, hbx⟩ := hcut
    generalize wc = w2 at *
    have HS2 := Lib.hid (HS1.out.keep hbx)
    have HP2 := Lib.hid ((hbx.block _ hpl).trans HP.out)
    have hB2 := below_trans' hB hbx
    have hni : (n : Int) ≤ 100 := by omega
    clear hbx HS1 HP HHELD hB HKO HSH HR
    go_wp2_with fail
    go_loopg [9, 25] n (fun gk v i wr => ∃ k : Nat, Hid (k + gk = n) ∧ i = .int .i64 (k : Int) ∧ Hid (OwnStrs wr w2.heap.size v ((l.take k).filter (inP oneK a b))) ∧ Hid (Below w2.heap.size w2 wr))
    case atStart => exact ⟨0, show 0 + n = n by omega, rfl, Owns.nil _ _, Below.refl _ _⟩
    case round =>
      obtain ⟨k, HG, rfl, HO, HB⟩ := hrel
      have hkn : k ≤ n := by have := HG.out; omega
      by_cases hlt : k < n
      · obtain ⟨g, off, rfl, hg, hc⟩ := HS2.out.str (by omega)
        have hck := (HB.out.cell (p := ⟨g, off + k, none⟩) hg).trans (hc k hlt)
        have hkl : k < l.length := by have := HN.out; omega
        have hkey : keyL (l.getD k []) = true := HK.out _ (by rw [List.getD_eq_getElem?_getD, List.getElem?_eq_getElem hkl]; exact List.getElem_mem hkl)
        have HF : Hid ((l.take (k + 1)).filter (inP oneK a b) = (l.take k).filter (inP oneK a b) ++ (if inP oneK a b (l.getD k []) = true then [l.getD k []] else [])) := by
          show _ = _
          have e : l.getD k [] = l[k] := by simp [hkl]
          rw [List.take_succ_eq_append_getElem hkl, List.filter_append, e]
          congr 1
          by_cases hi : inP oneK a b l[k] = true <;> simp [hi]
        have hpw := (HB.out.block _ (Array.getElem?_eq_some_iff.1 HP2.out).1).trans HP2.out
        obtain ⟨d0, d1, _, _, hpl2⟩ := two_c hpw
        generalize l.getD k [] = x at *
        have hlen : (⟨x.toArray⟩ : ByteArray).size ≤ 1000 := by
          have := keyL_len hkey
          simp [ByteArray.size]; omega
        have HH := Lib.hid (hash_one x hlen)
        have hrg := hashN_range (oneK ++ 32 :: x)
        have HIN := Lib.hid (inP_eq oneK a b x)
        generalize hashN (oneK ++ 32 :: x) = z at *
        have hmul := mul_bound hrg (show (b : Int) ≤ 1000 by omega) (by omega)
        have hw1 : IntKind.i64.wrap (z * (b : Int)) = z * (b : Int) := IntWalk.i64_in _ (by omega)
        have hw2 : IntKind.i64.wrap ((a : Int) * 4294967296) = (a : Int) * 4294967296 := IntWalk.i64_in _ (by omega)
        clear hc hkey hlen hkl hmul
        go_upto_region 8 with (fail)
        go_cut [38] (fun v wx => v = .bool (decide (z * (b : Int) < (a : Int) * 4294967296)) ∧ Below wr.heap.size wr wx)
        case first =>
          have HHELD : Hid (∀ w', Below wr.heap.size wr w' → w'.cell? ⟨w.heap.size, 0, none⟩ = some (.int .i64 (a : Int)) ∧ w'.cell? ⟨w.heap.size, 1, none⟩ = some (.int .i64 (b : Int))) := fun w' hw => by
            obtain ⟨x0, x1, _⟩ := two_c ((hw.block _ hpl2).trans hpw)
            exact ⟨x0, x1⟩
          clear hck
          go_region_held3 (fun w' => w'.cell? ⟨w.heap.size, 0, none⟩ = some (.int .i64 (a : Int)) ∧ w'.cell? ⟨w.heap.size, 1, none⟩ = some (.int .i64 (b : Int)))
            (first | assumption | exact HHELD.out _ ((Below.refl _ _).drew) | exact HHELD.out _ hx0)
            (first
              | (go_at_call 31; (with_reducible refine Calls.mono (HH.out _) ?_); rintro e wx ⟨rfl, hbx⟩; have hx0 : Below wr.heap.size wr wx := below_undr hbx; clear hbx))
          all_goals
            go_wp2_with fail
            go_meet
            (with_reducible exact ⟨rfl, hx0⟩)
        case rest =>
          obtain ⟨rfl, hbc⟩ := hcut
          have HOC := Lib.hid (HO.out.below_ hbc)
          have HBC := Lib.hid (below_trans' HB.out hbc)
          have hzc := HBC.out.size
          have hfl : ((l.take k).filter (inP oneK a b)).length ≤ k := Nat.le_trans (List.length_filter_le _ _) (by simp; omega)
          clear hck d0 d1 hpw hbc HO HB
          by_cases hzz : z * (b : Int) < (a : Int) * 4294967296
          · have HIT : Hid (inP oneK a b x = true) := by show _ = _; rw [HIN.out]; exact decide_eq_true hzz
            go_wp2_with (at_builtin; refine append_elems strE_ok rfl _ _ rfl w2.heap.size _ ((l.take k).filter (inP oneK a b)) rfl (World.ownsRow.alloc HOC.out _) (some ⟨wc.heap.size, 0, none⟩) 1 1 [x] rfl (one_elem (E := StrE) wc x) (by simp; omega) (by simp; omega) ?_; intro v4 w4 hown4 hgrow4 hv4; have HO4 := Lib.hid hown4; have HG4 : Hid ((wc.alloc (.cells #[.string ⟨x.toArray⟩] 9)).grownBy w4 u9.ownBlock) := hgrow4; clear hown4 hgrow4 hv4)
            go_roundg (gk - 1)
            case measure => have := HG.out; omega
            case rel => exact ⟨k + 1, show k + 1 + (gk - 1) = n by have := HG.out; omega, by go_num, by rw [HF.out, if_pos HIT.out]; exact HO4.out, (HBC.out.alloc HBC.out.size _).grown HG4.out (by simp; omega) (fun i e => (HOC.out.lt i e).1)⟩
          · have HIT : Hid (¬ inP oneK a b x = true) := by show ¬ _; rw [HIN.out]; simpa using hzz
            go_wp2_with fail
            go_roundg (gk - 1)
            case measure => have := HG.out; omega
            case rel => exact ⟨k + 1, show k + 1 + (gk - 1) = n by have := HG.out; omega, by go_num, by rw [HF.out, if_neg HIT.out, List.append_nil]; exact HOC.out, HBC.out⟩
      · have hnk : ¬ (k : Int) < (n : Int) := by omega
        have hall : l.take k = l := List.take_of_length_le (by have := HN.out; omega)
        rw [hall] at HO
        have hz2 := hB2.size
        go_wp2_with fail
        go_ret2
        exact ⟨_, rfl, HO.out.base_ hz2, below_trans' hB2 HB.out⟩
end Go.Proofs.YtmliaiinfgddhaaGreatDoor
