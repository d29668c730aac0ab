
/-
  LeastOf leaves some of the names, in their order.
-/
import Derived.Test.YtmliaiinfgddhaaGreatDoorLeast
import Derived.Deep.RegionHeld3
import Derived.Deep.DrawnRows
namespace Go.Proofs.YtmliaiinfgddhaaGreatDoor
open Go.RowKit
attribute [local go_sem ↓] Go.wp_at_zero Go.wp_at_succ

theorem hashOf_some (x : List UInt8) (h : x.length ≤ 1000) (wx : World) : Calls Tryz.prog 24 #[.string ⟨x.toArray⟩, .string ⟨#[99, 117, 116]⟩] wx fun e w' => ∃ z, e = .returned (.int .i64 z) ∧ Below wx.heap.size wx w' := by
  refine (hashOf_any ⟨x.toArray⟩ ⟨#[99, 117, 116]⟩ wx (by simpa [ByteArray.size] using h) (by decide)).mono ?_
  rintro e w' ⟨rfl, hb⟩
  exact ⟨_, rfl, hb⟩
theorem Owns.strAt {w : World} {base n c : Nat} {A : Option Addr} {l : List (List UInt8)} (h : OwnStrs w base (.slice A n c) l) (h0 : 0 < l.length) : ∃ G, A = some ⟨G, 0, none⟩ ∧ base ≤ G ∧ G < w.heap.size ∧ n = l.length ∧ n ≤ c ∧ ∀ k, k < l.length → w.cell? ⟨G, k, none⟩ = some (.string ⟨(l.getD k []).toArray⟩) := by
  obtain ⟨A', c', e, hc, hat, hG⟩ := h.at_ strE_ok
  simp only [Value.slice.injEq] at e
  obtain ⟨rfl, rfl, rfl⟩ := e
  obtain ⟨g, off, rfl, hg, hcell⟩ := hat.str h0
  obtain ⟨rfl, hb⟩ := hG g off rfl
  exact ⟨g, rfl, hb, hg, rfl, hat.2.1, fun k hk => by have := hcell k hk; rwa [Nat.zero_add] at this⟩
def LeastPost (w : World) (l : List (List UInt8)) (e : Ending) (w' : World) : Prop := ∃ v l', e = .returned v ∧ OwnStrs w' w.heap.size v l' ∧ l'.Sublist l ∧ Below w.heap.size w w'
set_option maxHeartbeats 3200000 in
set_option maxRecDepth 100000 in
theorem leastOf_any (A : Option Addr) (n c m : Nat) (l : List (List UInt8)) (w : World) (h : StrsAt w A n c l) (hn : n ≤ 50) (hsz : ∀ x ∈ l, x.length ≤ 1000) (hm : m ≤ 1000) :
    Calls Tryz.prog 7 #[.slice A n c, .string ⟨#[99, 117, 116]⟩, .int .i64 (m : Int)] w (LeastPost w l) := by
  have hnl := h.1
  have HC := Lib.hid (clone_any A n c l w h (by omega))
  have HZ := Lib.hid hsz
  have HNL := Lib.hid hnl
  clear h hsz hnl
  go_enter Tryz.func7, Tryz.ntmps7
  go_wp2_with fail
  refine HC.out.mono ?_
  rintro e w1 ⟨v, rfl, hown, hb1⟩
  have HO1 := Lib.hid hown
  have HB1 := Lib.hid hb1
  clear hown hb1 HC
  go_wp2_with fail
  go_loopg [7] n (fun gk v7 wr => ∃ l', Hid (l'.length = gk) ∧ Hid (OwnStrs wr w.heap.size v7 l') ∧ Hid (l'.Sublist l) ∧ Hid (Below w.heap.size w wr))
  case atStart => exact ⟨l, HNL.out.symm, HO1.out, List.Sublist.refl _, HB1.out⟩
  case round =>
    obtain ⟨l', HL, HO, HSB, HB⟩ := hrel
    clear HO1 HB1
    have hl50 : l'.length ≤ 50 := by have := HSB.out.length_le; have := HNL.out; omega
    obtain ⟨A', c', rfl, hc', hat', hG'⟩ := HO.out.at_ strE_ok
    clear hat' hG'
    by_cases hgt : m < l'.length
    · have hgti : (m : Int) < (l'.length : Int) := by omega
      obtain ⟨G, rfl, hG1, hG2, _, hlc, hcell⟩ := HO.out.strAt (by omega)
      have HCE := Lib.hid hcell; clear hcell
      have hgk := HL.out
      have hl0 : 0 < l'.length := by omega
      clear hgk
      go_wp2_with fail
      generalize wr = w2 at *
      generalize gk = g2 at *
      go_loopg [8, 19] l'.length (fun gk v8 i wx => ∃ k at_ : Nat, Hid (k + gk = l'.length) ∧ i = .int .i64 (k : Int) ∧ v8 = .int .i64 (at_ : Int) ∧ Hid (at_ < l'.length) ∧ Hid (Below w2.heap.size w2 wx))
      case atStart => exact ⟨0, 0, show 0 + l'.length = l'.length by omega, rfl, rfl, hl0, Below.refl _ _⟩
      case round =>
        obtain ⟨k, at_, HG, rfl, rfl, HAT, HBX⟩ := hrel
        have hkl : k ≤ l'.length := by have := HG.out; omega
        have hat := HAT.out
        by_cases hlt : k < l'.length
        · have hck := (HBX.out.cell (p := ⟨G, k, none⟩) hG2).trans (HCE.out k hlt)
          have hca := (HBX.out.cell (p := ⟨G, at_, none⟩) hG2).trans (HCE.out at_ hat)
          have hx : ∀ j, j < l'.length → (l'.getD j []).length ≤ 1000 := fun j hj => HZ.out _ (HSB.out.subset (by rw [List.getD_eq_getElem?_getD, List.getElem?_eq_getElem hj]; exact List.getElem_mem hj))
          have HX := Lib.hid (hashOf_some (l'.getD k []) (hx k hlt))
          have HY := Lib.hid (hashOf_some (l'.getD at_ []) (hx at_ hat))
          generalize l'.getD k [] = x at *
          generalize l'.getD at_ [] = y at *
          clear hx
          go_upto_region 7 with (fail)
          go_cut [33] (fun v wx => (∃ bb : Bool, v = .bool bb) ∧ Below wr.heap.size wr wx)
          case first =>
            have HHELD : Hid (∀ w', Below wr.heap.size wr w' → w'.cell? ⟨G, at_, none⟩ = some (.string ⟨y.toArray⟩)) := fun w' hw => (hw.cell (p := ⟨G, at_, none⟩) (Nat.lt_of_lt_of_le hG2 HBX.out.size)).trans hca
            clear hck
            go_region_held3 (fun w' => w'.cell? ⟨G, at_, none⟩ = some (.string ⟨y.toArray⟩))
              (first | assumption | exact HHELD.out _ ((Below.refl _ _).drew) | exact HHELD.out _ hx0 | exact HHELD.out _ hy0)
              (first
                | (go_at_call 24; (with_reducible refine Calls.mono (HX.out _) ?_); rintro e wx ⟨z1, rfl, hbx⟩; have hx0 : Below wr.heap.size wr wx := (by first | exact below_trans' hy0 hbx | exact below_undr hbx); clear hbx)
                | (go_at_call 24; (with_reducible refine Calls.mono (HY.out _) ?_); rintro e wy ⟨z2, rfl, hby⟩; have hy0 : Below wr.heap.size wr wy := (by first | exact below_trans' hx0 hby | exact below_undr hby); clear hby))
            all_goals
              go_wp2_with fail
              go_meet
              first
                | exact ⟨⟨_, rfl⟩, hx0⟩
                | exact ⟨⟨_, rfl⟩, hy0⟩
          case rest =>
            obtain ⟨⟨bb, rfl⟩, hbc⟩ := hcut
            have HBC := Lib.hid (below_trans' HBX.out hbc)
            clear hck hca hbc HX HY
            cases bb
            · go_wp2_with fail
              go_roundg (gk - 1)
              case measure => have := HG.out; omega
              case rel => exact ⟨k + 1, at_, show k + 1 + (gk - 1) = _ by have := HG.out; omega, by go_num, rfl, HAT.out, HBC.out⟩
            · go_wp2_with fail
              go_roundg (gk - 1)
              case measure => have := HG.out; omega
              case rel => exact ⟨k + 1, k, show k + 1 + (gk - 1) = _ by have := HG.out; omega, by go_num, rfl, hlt, HBC.out⟩
        · have hkk : ¬ (k : Int) < (l'.length : Int) := by omega
          have HO2 : Hid (OwnStrs wr w.heap.size (.slice (some ⟨G, 0, none⟩) l'.length c') l') := HO.out.below_ HBX.out
          have HD := Lib.hid (delete_one w.heap.size c' at_ _ l' wr HO2.out hat)
          rw [show ((at_ + 1 : Nat) : Int) = (at_ : Int) + 1 by simp] at HD
          have HBW := Lib.hid (below_trans' HB.out HBX.out)
          go_wp2_with fail
          refine HD.out.mono ?_
          rintro e w5 ⟨v5, rfl, ho5, G5, hg5, hb5⟩
          have HO5 := Lib.hid ho5
          have hbf := HBW.out.grown hg5 HBW.out.size (fun i e => by have := Option.some.inj e; omega)
          have HBF := Lib.hid hbf
          clear ho5 hg5 hb5 hbf
          go_wp2_with fail
          go_roundg (g2 - 1)
          case measure => have := HL.out; omega
          case rel => exact ⟨l'.eraseIdx at_, show _ = _ by rw [List.length_eraseIdx, if_pos hat]; have := HL.out; omega, HO5.out, (List.eraseIdx_sublist _ _).trans HSB.out, HBF.out⟩
    · have hgti : ¬ (l'.length : Int) > (m : Int) := by omega
      have HF : Hid (LeastPost w l (.returned (.slice A' l'.length c')) wr) := ⟨_, l', rfl, HO.out, HSB.out, HB.out⟩
      go_wp2_with fail
      go_ret
      exact HF.out
end Go.Proofs.YtmliaiinfgddhaaGreatDoor
