
/-
  PaperText makes a text of at most 20001 bytes.
-/
import Derived.Test.YtemgaanmpgpdcaaGreatDoorPap
namespace Go.Proofs.YtemgaanmpgpdcaaGreatDoor
open Go.RowKit

def PaperPost (w : World) (g : Nat) (A : Option Addr) (n c K : Nat) (e : Ending) (w' : World) : Prop :=
  ∃ t : ByteArray, e = .returned (.string t) ∧ t.size ≤ 20001 ∧ StreamAt w' g A n c (K + 50) ∧ w.grownBy w' (some g)
theorem nine {a b c d e f : ByteArray} (ha : a.size ≤ 20001) (hb : b.size ≤ 20001) (hc : c.size ≤ 20001) (hd : d.size ≤ 20001) (he : e.size ≤ 20001) (hf : f.size ≤ 20001) : ∀ r ∈ [(⟨#[]⟩ : ByteArray), ⟨#[120]⟩, ⟨#[97, 9, 98, 10]⟩, a, b, c, d, e, f], r.size ≤ 20001 := by
  intro r hr
  simp only [List.mem_cons, List.not_mem_nil, or_false] at hr
  rcases hr with rfl | rfl | rfl | rfl | rfl | rfl | rfl | rfl | rfl
  · decide
  · decide
  · decide
  · exact ha
  · exact hb
  · exact hc
  · exact hd
  · exact he
  · exact hf
theorem rep_any (s : ByteArray) (z m : Nat) (W : World) (hz : z ≤ 20000) (hs : s.size * z = m) (hm : m ≤ 20000) : Calls Tryz.prog 46 #[.string s, .int .i64 (z : Int)] W fun e w' => (∃ r : ByteArray, e = .returned (.string r) ∧ r.size = m) ∧ Below W.heap.size W w' :=
  (Tryz.strings_Repeat s z W (by omega) (by rw [hs]; omega)).mono fun e w' h => ⟨⟨_, h.1, by rw [rep_size]; rw [← hs, Nat.mul_comm]; rfl⟩, h.2⟩
set_option maxHeartbeats 3200000 in
set_option maxRecDepth 100000 in
theorem paperText_any (g : Nat) (A : Option Addr) (n c K : Nat) (w : World) (hs : StreamAt w g A n c K) (hK : K ≤ 9000) :
    Calls Tryz.prog 13 #[.pointer (some ⟨g, 0, none⟩)] w (PaperPost w g A n c K) := by
  have hgw := hs.lt
  go_enter Tryz.func13, Tryz.ntmps13
  go_wp2_with fail
  refine (papers_any g A n c K w hs (by omega)).mono ?_
  rintro e w1 ⟨v, l, rfl, hown, hl1, hal, hs1, hg1⟩
  have HG1 := Lib.hid hg1
  obtain ⟨A1, c1, rfl, hc1, hat, hq0⟩ := hown.at_ itemE_ok
  have HNE : Hid (∀ gi oi, A1 = some ⟨gi, oi, none⟩ → g < gi) := fun gi oi e => by have := (hq0 gi oi e).2; omega
  have HAL := Lib.hid hal
  obtain ⟨m, hm⟩ : ∃ m, m = l.length := ⟨_, rfl⟩
  rw [← hm] at hat hl1 ⊢
  have HM := Lib.hid hm
  have HAT := Lib.hid hat
  clear hm
  clear hown hs hg1 hal hat hq0
  go_upto_region 2 with (fail)
  go_cut [12] (fun v wx => ∃ b : Bool, v = .bool b ∧ (b = false → m = 1) ∧ StreamAt wx g A n c (K + 41) ∧ Hid (w.grownBy wx (some g)) ∧ Hid (ElemsAt ItemE wx A1 m c1 l))
  case first =>
    rcases Nat.eq_zero_or_pos m with h0 | h0
    · have e0 : ((m : Int) == 0) = true := by simp; exact h0
      clear h0
      go_wp2_with fail
      go_meet
      exact ⟨true, rfl, (fun h => by cases h), hs1.more (by omega), HG1, HAT⟩
    · have H1 := Lib.hid (show m = 1 by omega)
      have e0 : ((m : Int) == 0) = false := by simp; omega
      obtain ⟨gi, oi, rfl, hgi, hci⟩ := HAT.out.2.2.2 (by omega)
      go_wp2_with fail
      refine (flip_any g A n c _ 12 _ hs1 (by omega) (by omega)).mono ?_
      rintro e w2 ⟨b, rfl, hs2, hg2⟩
      have HG2 := Lib.hid (grown_trans HG1.out hg2)
      have HAT2 : Hid (ElemsAt ItemE w2 (some ⟨gi, oi, none⟩) m c1 l) := HAT.out.grown hg2 (fun g' off' e => by
        have := HNE.out gi oi rfl
        cases e
        intro e2
        injection e2 with e2
        omega)
      clear hci hg2
      go_wp2_with fail
      go_meet
      exact ⟨b, rfl, fun _ => H1.out, hs2, HG2, HAT2⟩
  case rest =>
    obtain ⟨b, rfl, hb, hsx, HGX, HATX⟩ := hcut
    have HSX := Lib.hid hsx
    clear hs1 HG1 HAT hsx
    cases b with
    | true =>
      go_wp2_with fail
      refine (rep_any ⟨#[112]⟩ 20000 20000 wc (by omega) rfl (by omega)).mono ?_
      rintro e w2 ⟨⟨r1, rfl, hr1⟩, hb2⟩
      have HB2 := Lib.hid hb2
      clear hb2
      go_wp2_with fail
      refine (rep_any ⟨#[32]⟩ 90 90 w2 (by omega) rfl (by omega)).mono ?_
      rintro e w3 ⟨⟨r2, rfl, hr2⟩, hb3⟩
      have HB3 := Lib.hid (below_trans' HB2.out hb3)
      clear hb3 HB2
      go_wp2_with fail
      refine (rep_any ⟨#[32]⟩ 81 81 w3 (by omega) rfl (by omega)).mono ?_
      rintro e w4 ⟨⟨r3, rfl, hr3⟩, hb4⟩
      have HB4 := Lib.hid (below_trans' HB3.out hb4)
      clear hb4 HB3
      go_wp2_with fail
      refine (rep_any ⟨#[195, 169]⟩ 41 82 w4 (by omega) rfl (by omega)).mono ?_
      rintro e w5 ⟨⟨r4, rfl, hr4⟩, hb5⟩
      have HB5 := Lib.hid (below_trans' HB4.out hb5)
      clear hb5 HB4
      go_wp2_with fail
      refine (rep_any ⟨#[195, 169]⟩ 41 82 w5 (by omega) rfl (by omega)).mono ?_
      rintro e w6 ⟨⟨r5, rfl, hr5⟩, hb6⟩
      have HB6 := Lib.hid (below_trans' HB5.out hb6)
      clear hb6 HB5
      have hz5 : ((⟨#[120]⟩ : ByteArray) ++ r5).size = 83 := by rw [ByteArray.size_append, hr5]; rfl
      go_wp2_with fail
      refine (rep_any ⟨#[98]⟩ 90 90 w6 (by omega) rfl (by omega)).mono ?_
      rintro e w7 ⟨⟨r6, rfl, hr6⟩, hb7⟩
      have HB7 := Lib.hid (below_trans' HB6.out hb7)
      clear hb7 HB6
      have hz6 : ((⟨#[97, 32]⟩ : ByteArray) ++ r6).size = 92 := by rw [ByteArray.size_append, hr6]; rfl
      go_wp2_with fail
      have a1 : (r1 ++ (⟨#[10]⟩ : ByteArray)).size ≤ 20001 := by rw [ByteArray.size_append, hr1]; decide
      have a2 : (r2 ++ (⟨#[10]⟩ : ByteArray)).size ≤ 20001 := by rw [ByteArray.size_append, hr2]; decide
      have a3 : (r3 ++ (⟨#[120, 10]⟩ : ByteArray)).size ≤ 20001 := by rw [ByteArray.size_append, hr3]; decide
      have a4 : (r4 ++ (⟨#[10]⟩ : ByteArray)).size ≤ 20001 := by rw [ByteArray.size_append, hr4]; decide
      have a5 : ((⟨#[120]⟩ : ByteArray) ++ r5 ++ (⟨#[32, 121, 10]⟩ : ByteArray)).size ≤ 20001 := by rw [ByteArray.size_append, hz5]; decide
      have a6 : ((⟨#[97, 32]⟩ : ByteArray) ++ r6 ++ (⟨#[10]⟩ : ByteArray)).size ≤ 20001 := by rw [ByteArray.size_append, hz6]; decide
      generalize r1 ++ (⟨#[10]⟩ : ByteArray) = s1 at *
      generalize r2 ++ (⟨#[10]⟩ : ByteArray) = s2 at *
      generalize r3 ++ (⟨#[120, 10]⟩ : ByteArray) = s3 at *
      generalize r4 ++ (⟨#[10]⟩ : ByteArray) = s4 at *
      generalize (⟨#[120]⟩ : ByteArray) ++ r5 ++ (⟨#[32, 121, 10]⟩ : ByteArray) = s5 at *
      generalize (⟨#[97, 32]⟩ : ByteArray) ++ r6 ++ (⟨#[10]⟩ : ByteArray) = s6 at *
      have hs7 := HSX.out.below HB7.out
      have hgl7 := hs7.lt
      have HN := Lib.hid (nine a1 a2 a3 a4 a5 a6)
      refine (one_any g A n c _ [⟨#[]⟩, ⟨#[120]⟩, ⟨#[97, 9, 98, 10]⟩, s1, s2, s3, s4, s5, s6] w7.heap.size 9 9 _ (hs7.alloc _) (by omega) rfl (by omega) (by omega) (by omega) (fun j hj => cells_strings w7 [⟨#[]⟩, ⟨#[120]⟩, ⟨#[97, 9, 98, 10]⟩, s1, s2, s3, s4, s5, s6] _ j hj)).mono ?_
      rintro e w8 ⟨r, rfl, hr, hs8, hg8⟩
      have HF : Hid (PaperPost w g A n c K (.returned (.string r)) w8) := ⟨r, rfl, HN.out r hr, hs8.more (by omega), grown_trans (grown_alloc (grown_below HGX.out HB7.out) _) hg8⟩
      clear hr hs8 hg8 hs7
      go_wp2_with fail
      go_ret
      exact HF.out
    | false =>
      have h1 := hb rfl
      obtain rfl := h1
      obtain ⟨x, rfl⟩ : ∃ x, l = [x] := List.length_eq_one_iff.1 HM.out.symm
      obtain ⟨gi, oi, rfl, hgi, hci⟩ := HATX.out.2.2.2 (by simp)
      have hc6 : wc.cell? ⟨gi, oi + 6, none⟩ = some (.string x.text) := hci 0 x 6 _ rfl rfl
      have HF : Hid (PaperPost w g A n c K (.returned (.string x.text)) wc) := ⟨x.text, rfl, Nat.le_trans (HAL.out x (by simp)) (by omega), HSX.out.more (by omega), HGX.out⟩
      clear hci hb
      go_wp2_with fail
      go_ret
      exact HF.out
end Go.Proofs.YtemgaanmpgpdcaaGreatDoor
