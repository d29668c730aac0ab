
/-
  The hashes of samples, and of a text: what hash, Hash, HashOf and Digest return.
-/
import Derived.Test.YtfijplllfdmcoaaGreatDoorNearWords
import Derived.Test.YtfijplllfdmcoaaGreatDoorKey
namespace Go.Proofs.YtfijplllfdmcoaaGreatDoor
open Go.RowKit

def fnvStep (z : Int) (c : UInt8) : Int := bits .xor .u32 z (c.toNat : Int) * 16777619 % 4294967296
def fnvTo (L : List UInt8) (k : Nat) : Int := (L.take k).foldl fnvStep 2166136261
theorem fnvTo_succ (L : List UInt8) (k : Nat) (h : k < L.length) : fnvTo L (k + 1) = fnvStep (fnvTo L k) (L.getD k 0) := by
  unfold fnvTo
  rw [List.take_succ_eq_append_getElem h, List.foldl_append]
  simp [h]
theorem fnvTo_range (L : List UInt8) : ∀ k, 0 ≤ fnvTo L k ∧ fnvTo L k < 4294967296
  | 0 => by simp [fnvTo]
  | k + 1 => by
    rcases Nat.lt_or_ge k L.length with h | h
    · rw [fnvTo_succ L k h]
      unfold fnvStep
      exact ⟨Int.emod_nonneg _ (by omega), Int.emod_lt_of_pos _ (by omega)⟩
    · have := fnvTo_range L k
      have e : fnvTo L (k + 1) = fnvTo L k := by unfold fnvTo; rw [List.take_of_length_le (by omega), List.take_of_length_le (by omega)]
      rw [e]; exact this
def mixH (z : Int) : Int := bits .xor .u32 z (z / 32768) * 2246822519 % 4294967296
def hashN (L : List UInt8) : Int := wrap64 (bits .xor .u32 (mixH (mixH (fnvTo L L.length))) (mixH (mixH (fnvTo L L.length)) / 8192))
set_option maxHeartbeats 1600000 in
set_option maxRecDepth 100000 in
theorem hash_any (id seed : ByteArray) (w : World) (h1 : id.size ≤ 1000) (h2 : seed.size ≤ 1000) :
    Calls Tryz.prog 100 #[.string id, .string seed] w fun e w' => e = .returned (.int .i64 (hashN (seed.data.toList ++ 32 :: id.data.toList))) ∧ Below w.heap.size w w' := by
  have HDAT : Hid ((seed ++ ⟨#[32]⟩ ++ id).data.toList = seed.data.toList ++ 32 :: id.data.toList) := by show _ = _; simp
  have hsz : (seed ++ ⟨#[32]⟩ ++ id).size ≤ 2001 := by simp only [ByteArray.size_append]; show _ + 1 + _ ≤ _; omega
  obtain ⟨Nb, wb, hcv, hNb, hby, hbb, hzb⟩ := conv_bytes' w (seed ++ ⟨#[32]⟩ ++ id)
  have HZ := Lib.hid hzb; clear hzb
  have HSZ : Hid ((seed ++ ⟨#[32]⟩ ++ id).size = seed.size + 1 + id.size) := by show _ = _; simp only [ByteArray.size_append]; rfl
  go_enter Tryz.func100, Tryz.ntmps100
  go_wp2_with fail
  clear hcv
  generalize seed ++ ⟨#[32]⟩ ++ id = s at *
  have hlen : s.data.toList.length = s.size := by simp
  have HLEN := Lib.hid hlen; clear hlen
  go_loopg [5, 14] (seed.size + 1 + id.size) (fun gk v5 i wr => ∃ (k : Nat), Hid (k + gk = seed.size + 1 + id.size) ∧ i = .int .i64 k ∧ v5 = .int .u32 (fnvTo s.data.toList k) ∧ wb = wr)
  case atStart => exact ⟨0, show 0 + (seed.size + 1 + id.size) = _ by omega, rfl, rfl, rfl⟩
  case round =>
    obtain ⟨k, HK, rfl, rfl, rfl⟩ := hrel
    have hkn : k ≤ seed.size + 1 + id.size := by have := HK.out; omega
    have hz := fnvTo_range s.data.toList k
    by_cases hlt : k < seed.size + 1 + id.size
    · have hkl : k < s.data.toList.length := by rw [HLEN.out, HSZ.out]; exact hlt
      have hcell := hby.cell k hkl
      have HST := Lib.hid (fnvTo_succ s.data.toList k hkl)
      generalize s.data.toList.getD k 0 = c at *
      generalize fnvTo s.data.toList k = z at *
      have hcl : c.toNat < 256 := c.toNat_lt
      clear hkl
      go_wp2_with fail
      go_roundg (gk - 1)
      case measure => have := HK.out; omega
      case rel => exact ⟨k + 1, show k + 1 + (gk - 1) = _ by have := HK.out; omega, by go_num, by rw [HST.out]; rfl, rfl⟩
    · have hke : fnvTo s.data.toList k = fnvTo s.data.toList s.size := by
        unfold fnvTo
        rw [List.take_of_length_le (by rw [HLEN.out, HSZ.out]; omega), List.take_of_length_le (by rw [HLEN.out]; omega)]
      rw [hke] at hz ⊢
      have HHN : Hid (hashN s.data.toList = wrap64 (bits .xor .u32 (mixH (mixH (fnvTo s.data.toList s.size))) (mixH (mixH (fnvTo s.data.toList s.size)) / 8192))) := by show _ = _; unfold hashN; rw [HLEN.out]
      generalize hF : fnvTo s.data.toList s.size = F at *
      clear hke hby
      go_wp2_with fail
      refine wp_loop_rounds 3 ?_
      rw [rounds_succ]
      go_wp2_with fail
      rw [rounds_succ]
      go_wp2_with fail
      rw [rounds_succ]
      go_wp2_with fail
      go_ret
      refine ⟨ret_int ?_, hbb⟩
      rw [← HDAT.out, HHN.out]
      rfl

set_option maxHeartbeats 400000 in
theorem low_any (z : Int) (w : World) (h0 : 0 ≤ z) : Calls Tryz.prog 101 #[.int .u64 z] w fun e w' => e = .returned (.int .u64 (z % 4294967296)) ∧ w' = w := by
  have e1 : z.tmod 4294967296 = z % 4294967296 := Int.tmod_eq_emod_of_nonneg h0
  go_enter Tryz.func101, Tryz.ntmps101
  go_wp2_with fail
  go_ret
  exact ⟨by first | rfl | (rw [e1]) | simp [e1], rfl⟩
def fnoStep (z : Int) (c : UInt8) : Int := IntKind.u64.wrap (bits .xor .u64 z (c.toNat : Int) * 16777619) % 4294967296
def fnoTo (L : List UInt8) (k : Nat) : Int := (L.take k).foldl fnoStep 2166136261
theorem fnoTo_succ (L : List UInt8) (k : Nat) (h : k < L.length) : fnoTo L (k + 1) = fnoStep (fnoTo L k) (L.getD k 0) := by
  unfold fnoTo
  rw [List.take_succ_eq_append_getElem h, List.foldl_append]
  simp [h]
theorem fnoTo_range (L : List UInt8) : ∀ k, 0 ≤ fnoTo L k ∧ fnoTo L k < 4294967296
  | 0 => by simp [fnoTo]
  | k + 1 => by
    rcases Nat.lt_or_ge k L.length with h | h
    · rw [fnoTo_succ L k h]
      unfold fnoStep
      exact ⟨Int.emod_nonneg _ (by omega), Int.emod_lt_of_pos _ (by omega)⟩
    · have := fnoTo_range L k
      have e : fnoTo L (k + 1) = fnoTo L k := by unfold fnoTo; rw [List.take_of_length_le (by omega), List.take_of_length_le (by omega)]
      rw [e]; exact this
def mixO (z : Int) : Int := IntKind.u64.wrap (bits .xor .u64 z (z / 32768) * 2246822519) % 4294967296
def hashO (L : List UInt8) : Int := wrap64 (bits .xor .u64 (mixO (mixO (fnoTo L L.length))) (mixO (mixO (fnoTo L L.length)) / 8192))
set_option maxHeartbeats 1600000 in
set_option maxRecDepth 100000 in
theorem hashOf_any (id seed : ByteArray) (w : World) (h1 : id.size ≤ 1000) (h2 : seed.size ≤ 1000) :
    Calls Tryz.prog 49 #[.string id, .string seed] w fun e w' => e = .returned (.int .i64 (hashO (seed.data.toList ++ 32 :: id.data.toList))) ∧ Below w.heap.size w w' := by
  have HDAT : Hid ((seed ++ ⟨#[32]⟩ ++ id).data.toList = seed.data.toList ++ 32 :: id.data.toList) := by show _ = _; simp
  have hsz : (seed ++ ⟨#[32]⟩ ++ id).size ≤ 2001 := by simp only [ByteArray.size_append]; show _ + 1 + _ ≤ _; omega
  obtain ⟨Nb, wb, hcv, hNb, hby, hbb, hzb⟩ := conv_bytes' w (seed ++ ⟨#[32]⟩ ++ id)
  have HZ := Lib.hid hzb; clear hzb
  have HSZ : Hid ((seed ++ ⟨#[32]⟩ ++ id).size = seed.size + 1 + id.size) := by show _ = _; simp only [ByteArray.size_append]; rfl
  have eg : ∀ args w, (callFunc 101 args).run Tryz.prog w = .ok (.enter 101 args) w := enters_of Tryz.func101 (by kernel_rfl) rfl
  go_enter Tryz.func49, Tryz.ntmps49
  go_wp2_with fail
  clear hcv
  generalize seed ++ ⟨#[32]⟩ ++ id = s at *
  have hlen : s.data.toList.length = s.size := by simp
  have HLEN := Lib.hid hlen; clear hlen
  go_loopg [5, 15] (seed.size + 1 + id.size) (fun gk v5 i wr => ∃ (k : Nat), Hid (k + gk = seed.size + 1 + id.size) ∧ i = .int .i64 k ∧ v5 = .int .u64 (fnoTo s.data.toList k) ∧ wb = wr)
  case atStart => exact ⟨0, show 0 + (seed.size + 1 + id.size) = _ by omega, rfl, rfl, rfl⟩
  case round =>
    obtain ⟨k, HK, rfl, rfl, rfl⟩ := hrel
    have hkn : k ≤ seed.size + 1 + id.size := by have := HK.out; omega
    have hz := fnoTo_range s.data.toList k
    by_cases hlt : k < seed.size + 1 + id.size
    · have hkl : k < s.data.toList.length := by rw [HLEN.out, HSZ.out]; exact hlt
      have hcell := hby.cell k hkl
      have HST := Lib.hid (fnoTo_succ s.data.toList k hkl)
      generalize s.data.toList.getD k 0 = c at *
      generalize fnoTo s.data.toList k = z at *
      have hcl : c.toNat < 256 := c.toNat_lt
      clear hkl
      go_wp2_with fail
      refine Calls.mono (low_any _ wb (by first | exact Int.emod_nonneg _ (by decide) | omega)) ?_
      rintro e w' ⟨rfl, hw'⟩
      obtain rfl := hw'.symm
      go_wp2_with fail
      go_roundg (gk - 1)
      case measure => have := HK.out; omega
      case rel => exact ⟨k + 1, show k + 1 + (gk - 1) = _ by have := HK.out; omega, by go_num, by rw [HST.out]; rfl, rfl⟩
    · have hke : fnoTo s.data.toList k = fnoTo s.data.toList s.size := by
        unfold fnoTo
        rw [List.take_of_length_le (by rw [HLEN.out, HSZ.out]; omega), List.take_of_length_le (by rw [HLEN.out]; omega)]
      rw [hke] at hz ⊢
      have HHN : Hid (hashO s.data.toList = wrap64 (bits .xor .u64 (mixO (mixO (fnoTo s.data.toList s.size))) (mixO (mixO (fnoTo s.data.toList s.size)) / 8192))) := by show _ = _; unfold hashO; rw [HLEN.out]
      generalize hF : fnoTo s.data.toList s.size = F at *
      clear hke hby
      have hz1 := hz
      go_wp2_with fail
      refine wp_loop_rounds 3 ?_
      have t1 : F.tdiv 32768 = F / 32768 := Int.tdiv_eq_ediv_of_nonneg hz1.1
      have HM1 : Hid (mixO F = IntKind.u64.wrap (bits .xor .u64 F (F / 32768) * 2246822519) % 4294967296) := rfl
      have hm1 : 0 ≤ mixO F ∧ mixO F < 4294967296 := ⟨Int.emod_nonneg _ (by decide), Int.emod_lt_of_pos _ (by decide)⟩
      rw [rounds_succ]
      go_wp2_with fail
      refine Calls.mono (low_any _ wb (by first | exact Int.emod_nonneg _ (by decide) | omega)) ?_
      rintro e w' ⟨rfl, hw'⟩
      obtain rfl := hw'.symm
      rw [← HM1.out]
      generalize mixO F = F1 at *
      go_wp2_with fail
      have hz2 := hm1
      have t2 : F1.tdiv 32768 = F1 / 32768 := Int.tdiv_eq_ediv_of_nonneg hz2.1
      have HM2 : Hid (mixO F1 = IntKind.u64.wrap (bits .xor .u64 F1 (F1 / 32768) * 2246822519) % 4294967296) := rfl
      have hm2 : 0 ≤ mixO F1 ∧ mixO F1 < 4294967296 := ⟨Int.emod_nonneg _ (by decide), Int.emod_lt_of_pos _ (by decide)⟩
      rw [rounds_succ]
      go_wp2_with fail
      refine Calls.mono (low_any _ wb (by first | exact Int.emod_nonneg _ (by decide) | omega)) ?_
      rintro e w' ⟨rfl, hw'⟩
      obtain rfl := hw'.symm
      rw [← HM2.out]
      generalize mixO F1 = F2 at *
      go_wp2_with fail
      have t3 : F2.tdiv 8192 = F2 / 8192 := Int.tdiv_eq_ediv_of_nonneg hm2.1
      rw [rounds_succ]
      go_wp2_with fail
      go_ret
      refine ⟨ret_int ?_, hbb⟩
      rw [← HDAT.out, HHN.out]
theorem hash_ab : hashN [98, 32, 97] = hashO [98, 32, 97] := by decide +kernel
end Go.Proofs.YtfijplllfdmcoaaGreatDoor
