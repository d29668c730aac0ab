
/-
  Part's checks find nothing.
-/
import Derived.Test.YtiegbbngfojjoaaGreatDoorStands
import Derived.Test.YtiegbbngfojjoaaGreatDoorBase
namespace Go.Proofs.YtiegbbngfojjoaaGreatDoor
open Go.RowKit
attribute [local go_sem ↓] Go.wp_at_zero Go.wp_at_succ

theorem inB_in (v lo hi : Int) (h0 : lo ≤ v) (h1 : v ≤ hi) : inB v lo hi = true := by
  unfold inB; simp; omega
/-- Each before all that follow, by its bytes. -/
def Rising (l : List (List UInt8)) : Prop := l.Pairwise fun a b => (Op.bytesLess b a || b == a) = false
theorem Rising.at_ {l : List (List UInt8)} (h : Rising l) {k : Nat} (h0 : 0 < k) (hk : k < l.length) : (Op.bytesLess (l.getD k []) (l.getD (k - 1) []) || l.getD k [] == l.getD (k - 1) []) = false := by
  have := List.pairwise_iff_getElem.1 h (k - 1) k (by omega) hk (by omega)
  simpa [List.getD_eq_getElem?_getD, List.getElem?_eq_getElem hk, List.getElem?_eq_getElem (show k - 1 < l.length by omega)] using this
set_option maxHeartbeats 800000 in
set_option maxRecDepth 100000 in
theorem idsError_ok (A : Option Addr) (n c : Nat) (l : List (List UInt8)) (w : World) (h : StrsAt w A n c l) (hn : n ≤ 2000) (hk : ∀ x ∈ l, keyL x = true) (hr : Rising l) :
    Calls Tryz.prog 72 #[.slice A n c] w fun e w' => e = .returned (.int .i64 0) ∧ Below w.heap.size w w' := by
  have HN := Lib.hid h.1
  have HH := Lib.hid h; clear h
  have HK := Lib.hid hk; clear hk
  have HR := Lib.hid hr; clear hr
  have hni : (n : Int) ≤ 2000 := by omega
  go_enter Tryz.func72, Tryz.ntmps72
  go_wp2_with fail
  go_loopg [11] n (fun gk v wr => ∃ k : Nat, Hid (k + gk = n) ∧ v = .int .i64 (k : Int) ∧ Below w.heap.size w wr)
  case atStart => exact ⟨0, show 0 + n = n by omega, rfl, Below.refl _ _⟩
  case round =>
    obtain ⟨k, HG, rfl, hb⟩ := hrel
    have hkn : k ≤ n := by have := HG.out; omega
    by_cases hlt : k < n
    · obtain ⟨g, off, rfl, hg, hc⟩ := HH.out.str (by omega)
      have hck := (hb.cell (p := ⟨g, off + k, none⟩) hg).trans (hc k hlt)
      have hkl : k < l.length := by have := HN.out; omega
      have hkey := keyError_ok ⟨(l.getD k []).toArray⟩ wr (by
        have : l.getD k [] ∈ l := by rw [List.getD_eq_getElem?_getD, List.getElem?_eq_getElem hkl]; exact List.getElem_mem hkl
        simpa using HK.out _ this)
      clear hkl
      by_cases h0 : k = 0
      · subst h0
        have hck0 : wr.cell? ⟨g, off, none⟩ = _ := hck
        generalize l.getD 0 [] = x at *
        clear hc hck
        go_wp2_with fail
        refine hkey.mono ?_
        rintro e w' ⟨rfl, rfl⟩
        go_wp2_with fail
        refine (when_any false 7 _).mono ?_
        rintro e w2 ⟨rfl, hw⟩
        subst hw
        go_wp2_with fail
        refine (first_2z _ _ rfl _).mono ?_
        rintro e w3 ⟨rfl, hw⟩
        subst hw
        go_wp2_with fail
        go_roundg (gk - 1)
        case measure => have := HG.out; omega
        case rel => exact ⟨1, show 1 + (gk - 1) = n by have := HG.out; omega, by go_num, hb.alloc hb.size _⟩
      · have hk1 := (hb.cell (p := ⟨g, off + (k - 1), none⟩) hg).trans (hc (k - 1) (by omega))
        have h00 : 0 < k := by omega
        have hmx : max (k : Int) 1 = k := by omega
        have HRK := Lib.hid (HR.out.at_ h00 (by have := HN.out; omega))
        generalize l.getD k [] = x at *
        generalize l.getD (k - 1) [] = y at *
        clear hc
        go_wp2_with fail
        refine hkey.mono ?_
        rintro e w' ⟨rfl, rfl⟩
        go_wp2_with fail
        rw [HRK.out]
        refine (when_any false 7 _).mono ?_
        rintro e w2 ⟨rfl, hw⟩
        subst hw
        go_wp2_with fail
        refine (first_2z _ _ rfl _).mono ?_
        rintro e w3 ⟨rfl, hw⟩
        subst hw
        go_wp2_with fail
        go_roundg (gk - 1)
        case measure => have := HG.out; omega
        case rel => exact ⟨k + 1, show k + 1 + (gk - 1) = n by have := HG.out; omega, by go_num, hb.alloc hb.size _⟩
    · have hnk : ¬ (k : Int) < (n : Int) := by omega
      go_wp2_with fail
      go_ret
      exact ⟨rfl, hb⟩
end Go.Proofs.YtiegbbngfojjoaaGreatDoor
