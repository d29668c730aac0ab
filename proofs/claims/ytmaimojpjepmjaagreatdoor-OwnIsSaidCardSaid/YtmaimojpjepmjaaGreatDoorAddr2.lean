
/-
  Parts of an address: a domain, a mail.
-/
import Derived.Test.YtmaimojpjepmjaaGreatDoorAddr
namespace Go.Proofs.YtmaimojpjepmjaaGreatDoor
open Go.RowKit

def smallL (x : Str) : Prop := 1 ≤ x.length ∧ x.length ≤ 30 ∧ ∀ b ∈ x, 97 ≤ b.toNat ∧ b.toNat ≤ 122
theorem all_smallL (x : Str) (t : ByteArray) (hi : Nat) (w : World) (hx : smallL x) (h1 : 30 ≤ hi) (h2 : hi ≤ 1000) :
    Calls Tryz.prog 154 #[.string ⟨x.toArray⟩, .string t, .int .i64 1, .int .i64 (hi : Int)] w fun e w' => e = .returned (.bool true) ∧ w' = w := by
  have hsz : (⟨x.toArray⟩ : ByteArray).size = x.length := bag_size x
  refine all_small (⟨x.toArray⟩ : ByteArray) t hi w (by have := hx.1; omega) (by have := hx.2.1; omega) h2 (fun k h => ?_)
  have hk : k < x.length := by omega
  have e : (⟨x.toArray⟩ : ByteArray)[k] = x[k] := by
    show (x.toArray)[k]'_ = _
    simp
  rw [e]
  exact hx.2.2 _ (List.getElem_mem hk)
set_option maxHeartbeats 1600000 in
set_option maxRecDepth 100000 in
theorem isDomain_yes (s : ByteArray) (w : World) (hs : s.size ≤ 1000) (hM : MaxAt w) (hl : ∀ x ∈ splitC 46 s.data.toList, smallL x) (h2 : 1 < (splitC 46 s.data.toList).length) :
    Calls Tryz.prog 155 #[.string s] w fun e w' => e = .returned (.bool true) ∧ Below w.heap.size w w' := by
  have HSP := Lib.hid (split_any s 46 w (by omega) hM)
  have hds : s.data.toList.length = s.size := by simp
  have HLN : Hid ((splitC 46 s.data.toList).length ≤ 1001) := by
    show _ ≤ _
    have := costT_splitC s.data.toList 46
    unfold costT at this
    omega
  have HAL := Lib.hid hl
  have H2 := Lib.hid h2
  clear hds hM hs hl h2
  go_enter Tryz.func155, Tryz.ntmps155
  go_wp2_with fail
  refine HSP.out.mono ?_
  rintro e w2 ⟨A, n, c, rfl, hat, hb2, _⟩
  generalize splitC 46 s.data.toList = l at *
  have HN := Lib.hid hat.1
  have hn1 : n ≤ 1001 := by have := HLN.out; have := hat.1; omega
  have hn2 : (1 : Int) < (n : Int) := by have := H2.out; have := hat.1; omega
  have HAT := Lib.hid hat
  have HB2 := Lib.hid hb2
  clear hat hb2 HSP
  go_wp2_with fail
  go_loopg [10] n (fun gk i wr => ∃ k : Nat, Hid (k + gk = n) ∧ i = .int .i64 (k : Int) ∧ wr = w2)
  case atStart => exact ⟨0, show 0 + n = n by omega, rfl, rfl⟩
  case round =>
    obtain ⟨k, HK, rfl, rfl⟩ := hrel
    have hkn : k ≤ n := by have := HK.out; omega
    by_cases hlt : k < n
    · obtain ⟨x, hx⟩ : ∃ x, l[k]? = some x := ⟨_, List.getElem?_eq_getElem (by rw [← HN.out]; exact hlt)⟩
      obtain ⟨g, off, rfl, hg, hc⟩ := HAT.out.str (by omega)
      have hck := hc k hlt
      rw [show l.getD k [] = x by rw [List.getD_eq_getElem?_getD, hx]; rfl] at hck
      have HSM := Lib.hid (all_smallL x ⟨#[45]⟩ 30 wr (HAL.out x (List.mem_of_getElem? hx)) (Nat.le_refl _) (by omega))
      clear hc hx
      go_wp2_with fail
      refine HSM.out.mono ?_
      rintro e w3 ⟨rfl, rfl⟩
      go_wp2_with fail
      go_roundg (gk - 1)
      case measure => have := HK.out; omega
      case rel => exact ⟨k + 1, show k + 1 + (gk - 1) = n by have := HK.out; omega, by go_num, rfl⟩
    · have hnk : ¬ (k : Int) < (n : Int) := by omega
      clear hlt
      go_wp2_with fail
      go_ret
      exact ⟨rfl, HB2.out⟩
end Go.Proofs.YtmaimojpjepmjaaGreatDoor
