
/-
  What Digest returns at one letter: the digits in base 16.
-/
import Derived.Test.YthogkcgklakibaaGreatDoorStandD
import Derived.Deep.RegionHeld3
import Derived.Deep.DrawnRows
import Derived.Laws.EntriesVeiled
import Derived.Laws.BytesArg
namespace Go.Proofs.YthogkcgklakibaaGreatDoor
open Go.RowKit
attribute [local go_sem ↓] Go.wp_at_zero Go.wp_at_succ

theorem isPow_16 (w : World) : Calls Tryz.prog 228 #[.int .i64 16] w fun e w' => e = .returned (.bool true) ∧ w' = w := by
  go_enter Tryz.func228, Tryz.ntmps228
  go_wp2_with fail
  go_ret
  exact ⟨rfl, rfl⟩
theorem zeros64_16 (w : World) (hS : StandAt w) : Calls Tryz.prog 241 #[.int .u64 16] w fun e w' => e = .returned (.int .i64 4) ∧ w' = w := by
  have hc := hS.zeros.cell (g := 5) (by kernel_rfl)
  go_enter Tryz.func241, Tryz.ntmps241
  go_upto_region 3 with (fail)
  have h15 := hc 15 (by decide)
  rw [show deBruijn64.getD 15 0 = 4 from rfl] at h15
  have e1 : IntKind.u64.wrap (bits BinOp.and IntKind.u64 16 (IntKind.u64.wrap (-16)) * 285870213051353865) / 288230376151711744 = 15 := by decide +kernel
  go_wp2_with fail
  go_ret
  exact ⟨rfl, rfl⟩
theorem zeros_16 (w : World) (hS : StandAt w) : Calls Tryz.prog 229 #[.int .u64 16] w fun e w' => e = .returned (.int .i64 4) ∧ w' = w := by
  have hz := zeros64_16 w hS
  go_enter Tryz.func229, Tryz.ntmps229
  go_wp2_with fail
  refine hz.mono ?_
  rintro e w' ⟨rfl, rfl⟩
  go_wp2_with fail
  go_ret
  exact ⟨rfl, rfl⟩
abbrev digs : ByteArray := ⟨#[48, 49, 50, 51, 52, 53, 54, 55, 56, 57, 97, 98, 99, 100, 101, 102, 103, 104, 105, 106, 107, 108, 109, 110, 111, 112, 113, 114, 115, 116, 117, 118, 119, 120, 121, 122]⟩
def dig (n : Nat) : Int := ((digs.data.toList.getD n 0).toNat : Int)
theorem and15 (u : Nat) (h : (u : Int) < 18446744073709551616) : bits BinOp.and IntKind.u64 (u : Int) 15 = ((u % 16 : Nat) : Int) := by
  have k := bits_mask .u64 64 (by decide) (fun n h0 h1 => by rw [IntKind.wrap_u64]; omega) 4 (by decide) (u : Int) (by omega) (by omega)
  have e : (2 : Int) ^ 4 - 1 = 15 := by decide
  rw [e] at k
  rw [k]
  omega
theorem digs_at (z : Int) (m : Nat) (h : z = (m : Int)) (hm : m < 36) (pf : z.toNat < digs.size) : ((digs[z.toNat]'pf).toNat : Int) = dig m := by
  subst h
  have e : ((m : Nat) : Int).toNat = m := Int.toNat_natCast m
  have hs : m < digs.data.toList.length := hm
  unfold dig
  rw [List.getD_eq_getElem?_getD, List.getElem?_eq_getElem hs]
  simp [ByteArray.getElem_eq_getElem_data]
theorem digs_at2 (m : Nat) (hm : m < 36) (pf : m < digs.size) : ((digs[m]'pf).toNat : Int) = dig m := by
  have hs : m < digs.data.toList.length := hm
  unfold dig
  rw [List.getD_eq_getElem?_getD, List.getElem?_eq_getElem hs]
  simp [ByteArray.getElem_eq_getElem_data]
theorem slice65 (w : World) (b k : Nat) (hk : 1 ≤ k) (hk2 : k ≤ 65) : (Instr.sliceAt 248 (.pointer (some ⟨b, 0, none⟩)) (some (.int .i64 ((k : Int) - 1))) none none).run Tryz.prog w = .ok (.slice (some ⟨b, k - 1, none⟩) (65 - (k - 1)) (65 - (k - 1))) w := by
  have el : Tryz.prog.arrayLen 248 = 65 := by kernel_rfl
  have ee : Tryz.prog.elem 248 = 5 := by kernel_rfl
  have hu : Tryz.prog.underlying 248 = some (.array (Tryz.prog.arrayLen 248) (Tryz.prog.elem 248)) := by rw [el, ee]; exact Tryz.underlying248
  have hz : (sizeOf 5).run Tryz.prog w = .ok 1 w := by go_simp
  have e1 : ((k : Int) - 1).toNat = k - 1 := by omega
  rw [run_sliceAt_array_l w 248 ⟨b, 0, none⟩ hu .i64 ((k : Int) - 1) (by omega) (by rw [el]; omega), el, ee, hz, e1]
  simp only [Result.andThen, slicedAt]
  rw [if_neg (by omega), addr_add]
  simp
theorem drop_step (A : Array Value) (k : Nat) (v : Value) (T : List Value) (hk : 1 ≤ k) (hA : k ≤ A.size) (h : A.toList.drop k = T) : (A.setIfInBounds (k - 1) v).toList.drop (k - 1) = v :: T := by
  subst h
  rw [Array.toList_setIfInBounds, List.drop_eq_getElem_cons (by simp; omega)]
  simp
  rw [List.drop_set_of_lt (by omega), show k - 1 + 1 = k by omega]
theorem dig_mod (u : Nat) : dig (u % 16) = ((digs.data.toList.getD (u % 16) 0).toNat : Int) := rfl
def hexF : Nat → Nat → List Int → List Int
  | 0, _, T => T
  | f + 1, n, T => if n < 16 then dig n :: T else hexF f (n / 16) (dig (n % 16) :: T)
set_option maxHeartbeats 1600000 in
set_option maxRecDepth 100000 in
theorem bits16_any (h : Nat) (hh : h < 18446744073709551616) (w : World) (hS : StandAt w) :
    Calls Tryz.prog 201 #[.slice none 0 0, .int .u64 (h : Int), .int .i64 16, .bool false, .bool false] w fun e w' => e = .returned (.tuple #[.slice none 0 0, .string (strOfNums (hexF 16 h []))]) ∧ Below w.heap.size w w' := by
  go_enter Tryz.func201, Tryz.ntmps201
  go_upto_region 7 with (fail)
  have hb0 := heap_alloc_new w (.cells Tryz.zeroCells248 248)
  have hB : Below w.heap.size w (w.alloc (.cells Tryz.zeroCells248 248)) := (Below.refl _ _).alloc (Nat.le_refl _) _
  generalize w.alloc (.cells Tryz.zeroCells248 248) = w1 at *
  have hz : Tryz.zeroCells248.size = 65 := by kernel_rfl
  generalize Tryz.zeroCells248 = A0 at *
  have HS := Lib.hid (hS.below hB)
  clear hS
  go_wp2_with fail
  refine (isPow_16 w1).mono ?_
  rintro e w' ⟨rfl, rfl⟩
  go_wp2_with fail
  refine (zeros_16 _ HS.out).mono ?_
  rintro e w' ⟨rfl, rfl⟩
  go_wp2_with fail
  have HB1 := Lib.hid hb0; clear hb0
  have HZ := Lib.hid hz; clear hz
  go_loopg [1, 13] 16 (fun f v i wr => ∃ (u k : Nat) (T : List Int) (A : Array Value), v = .int .u64 (u : Int) ∧ i = .int .i64 (k : Int) ∧ Hid (k + T.length = 65) ∧ Hid (f + T.length = 16 ∧ 1 ≤ f) ∧ Hid (u < 16 ^ f) ∧ Hid (hexF f u T = hexF 16 h []) ∧ Hid (A.size = 65) ∧ Hid (A.toList.drop k = T.map (Value.int .u8)) ∧ Hid (wr.heap[w.heap.size]? = some (.cells A 248 (0, 0))) ∧ Below w.heap.size w wr)
  case atStart => exact ⟨h, 65, [], A0, rfl, rfl, rfl, ⟨rfl, by omega⟩, hh, rfl, HZ.out, by show _ = _; simp [HZ.out], HB1.out, hB⟩
  case round =>
    obtain ⟨u, k, T, A, rfl, rfl, H1, H2, H3, H4, H5, H6, H7, hb⟩ := hrel
    clear HB1 HZ hB
    have h1 := H1.out
    have h2 := H2.out.1
    have h2' := H2.out.2
    by_cases hlt : 16 ≤ u
    · have hlti : (16 : Int) ≤ u := by omega
      have hf : 2 ≤ gk := by
        rcases Nat.lt_or_ge gk 2 with h' | h'
        · exfalso
          have h3 := H3.out
          have : gk = 0 ∨ gk = 1 := by omega
          rcases this with rfl | rfl <;> omega
        · exact h'
      have hk : 1 ≤ k := by omega
      have hu64 : (u : Int) < 18446744073709551616 := by
        have h3 := H3.out
        have : 16 ^ gk ≤ 16 ^ 16 := Nat.pow_le_pow_right (by omega) (by omega)
        omega
      have HAND := Lib.hid (and15 u hu64)
      have hbd : 0 ≤ bits BinOp.and IntKind.u64 (u : Int) 15 ∧ bits BinOp.and IntKind.u64 (u : Int) 15 < 36 := by rw [HAND.out]; omega
      have hbd1 := hbd.1
      have hbd2 := hbd.2
      have hm : u % 16 < 16 := Nat.mod_lt _ (by omega)
      have HD := Lib.hid (dig_mod u)
      have hAk : k - 1 < A.size := by rw [H5.out]; omega
      have hcell : wr.cell? ⟨w.heap.size, k - 1, none⟩ = some A[k - 1] := by
        rw [cell_of_row wr _ _ _ _ _ H7.out]; simp [hAk]
      have hfro : wr.frozen? ⟨w.heap.size, k - 1, none⟩ = false := by simp [World.frozen?, H7.out]
      have hlw := (Array.getElem?_eq_some_iff.1 H7.out).1
      generalize A[k - 1] = a0 at *
      go_wp2_with fail
      rw [digs_at _ _ HAND.out (by omega)]
      go_roundg (gk - 1)
      case measure => omega
      case rel =>
        refine ⟨u / 16, k - 1, dig (u % 16) :: T, A.setIfInBounds (k - 1) (.int .u8 (dig (u % 16))), by go_num, by go_num, ?_, ?_, ?_, ?_, ?_, ?_, ?_, ?_⟩
        · show _ = _; simp; omega
        · exact ⟨by simp; omega, by omega⟩
        · show _ < _
          have h3 := H3.out
          rw [show gk = gk - 1 + 1 by omega, Nat.pow_succ] at h3
          omega
        · show _ = _
          have h4 := H4.out
          rw [← h4]
          conv => rhs; rw [show gk = gk - 1 + 1 by omega]
          simp only [hexF]
          rw [if_neg (by omega)]
        · show _ = _; simp [H5.out]
        · exact drop_step A k _ _ hk (by omega) H6.out
        · show _ = _; simp [World.setCell, Array.getElem?_modify, H7.out]
        · exact hb.grown (grown_setCell _ _ _ _) (Nat.le_of_lt hlw) (fun i e => by have := Option.some.inj e; omega)
    · have hlti : ¬ (16 : Int) ≤ u := by omega
      have hAk : k - 1 < A.size := by rw [H5.out]; omega
      have hcell : wr.cell? ⟨w.heap.size, k - 1, none⟩ = some A[k - 1] := by
        rw [cell_of_row wr _ _ _ _ _ H7.out]; simp [hAk]
      have hfro : wr.frozen? ⟨w.heap.size, k - 1, none⟩ = false := by simp [World.frozen?, H7.out]
      have hlw := (Array.getElem?_eq_some_iff.1 H7.out).1
      generalize A[k - 1] = a0 at *
      have hu36 : (u : Int) < 36 := by omega
      have hk : 1 ≤ k := by omega
      have HHX : Hid (hexF 16 h [] = dig u :: T) := by
        show _ = _
        rw [← H4.out, show gk = gk - 1 + 1 by omega]
        simp only [hexF]
        rw [if_pos (by omega)]
      go_upto_region 30 with (fail)
      rw [digs_at2 u (by omega)]
      have hgs := grown_setCell wr w.heap.size (k - 1) (.int .u8 (dig u))
      have hhp : (wr.setCell ⟨w.heap.size, k - 1, none⟩ (.int .u8 (dig u))).heap[w.heap.size]? = some (.cells (A.setIfInBounds (k - 1) (.int .u8 (dig u))) 248 (0, 0)) := by simp [World.setCell, Array.getElem?_modify, H7.out]
      have hb2 := hb.grown hgs (Nat.le_of_lt hlw) (fun i e => by have := Option.some.inj e; omega)
      have hdr := drop_step A k (.int .u8 (dig u)) _ hk (by omega) H6.out
      generalize wr.setCell ⟨w.heap.size, k - 1, none⟩ (.int .u8 (dig u)) = w3 at *
      have hcl : ∀ i, i < 65 - (k - 1) → w3.cell? ⟨w.heap.size, k - 1 + i, none⟩ = some (.int .u8 ((hexF 16 h []).getD i 0)) := by
        intro i hi
        rw [cell_of_row w3 _ _ _ _ _ hhp, HHX.out]
        have e : (A.setIfInBounds (k - 1) (Value.int .u8 (dig u)))[k - 1 + i]? = ((dig u :: T).map (Value.int .u8))[i]? := by
          rw [← Array.getElem?_toList, ← List.getElem?_drop, hdr]; rfl
        rw [e]
        have hl : i < (dig u :: T).length := by simp; omega
        rw [List.getElem?_map, List.getElem?_eq_getElem hl, List.getD_eq_getElem?_getD, List.getElem?_eq_getElem hl]; rfl
      have hcv : ∀ c, (convert 152 9 (.slice (some ⟨w.heap.size, k - 1, none⟩) (65 - (k - 1)) c)).run Tryz.prog w3 = .ok (.string (strOfNums (hexF 16 h []))) w3 := fun c =>
        run_convert_bytes_arg w3 152 5 Tryz.underlying152 Tryz.underlying5 w.heap.size (k - 1) (65 - (k - 1)) c (hexF 16 h []) (by rw [HHX.out]; simp; omega) hcl 9 Tryz.underlying9
      have hsl := slice65 w3 w.heap.size k hk (by omega)
      clear hcl hdr hhp
      go_wp2_with fail
      go_ret2
      exact ⟨rfl, hb2⟩
theorem format16_any (h : Nat) (hh : h < 18446744073709551616) (w : World) (hS : StandAt w) :
    Calls Tryz.prog 164 #[.int .u64 (h : Int), .int .i64 16] w fun e w' => e = .returned (.string (strOfNums (hexF 16 h []))) ∧ Below w.heap.size w w' := by
  go_enter Tryz.func164, Tryz.ntmps164
  go_wp2_with fail
  refine (bits16_any h hh w hS).mono ?_
  rintro e w' ⟨rfl, hb⟩
  go_wp2_with fail
  go_ret
  exact ⟨rfl, hb⟩
theorem formatUint_any (h : Nat) (hh : h < 18446744073709551616) (w : World) (hS : StandAt w) :
    Calls Tryz.prog 124 #[.int .u64 (h : Int), .int .i64 16] w fun e w' => e = .returned (.string (strOfNums (hexF 16 h []))) ∧ Below w.heap.size w w' := by
  go_enter Tryz.func124, Tryz.ntmps124
  go_wp2_with fail
  refine (format16_any h hh w hS).mono ?_
  rintro e w' ⟨rfl, hb⟩
  go_wp2_with fail
  go_ret
  exact ⟨rfl, hb⟩
set_option maxRecDepth 100000 in
theorem repeat_none (s : ByteArray) (w : World) : Calls Tryz.prog 67 #[.string s, .int .i64 0] w fun e w' => e = .returned (.string ⟨#[]⟩) ∧ w' = w := by
  go_enter Tryz.func67, Tryz.ntmps67
  go_wp2_with fail
  go_ret
  exact ⟨rfl, rfl⟩
abbrev digA : ByteArray := ⟨#[97, 102, 54, 51, 100, 99, 52, 99, 56, 54, 48, 49, 101, 99, 56, 99]⟩
theorem hex_a : strOfNums (hexF 16 12638187200555641996 []) = digA := by decide +kernel
set_option maxHeartbeats 1600000 in
set_option maxRecDepth 100000 in
theorem digest_a (w : World) (hS : StandAt w) : Calls Tryz.prog 85 #[.string ⟨#[97]⟩] w fun e w' => e = .returned (.string digA) ∧ Below w.heap.size w w' := by
  go_enter Tryz.func85, Tryz.ntmps85
  go_wp2_with fail
  refine wp_loop_rounds 2 ?_
  rw [rounds_succ]
  go_wp2_with fail
  rw [show IntKind.u64.wrap (bits BinOp.xor IntKind.u64 14695981039346656037 (IntKind.u64.wrap (((⟨#[97]⟩ : ByteArray)[0]'(by decide)).toNat : Int)) * 1099511628211) = 12638187200555641996 from by decide +kernel]
  rw [rounds_succ]
  go_wp2_with fail
  have hF := formatUint_any 12638187200555641996 (by decide) w hS
  rw [show ((12638187200555641996 : Nat) : Int) = 12638187200555641996 from rfl, hex_a] at hF
  refine hF.mono ?_
  rintro e w' ⟨rfl, hb⟩
  clear hF
  go_wp2_with fail
  refine (repeat_none _ _).mono ?_
  rintro e w2 ⟨rfl, rfl⟩
  go_wp2_with fail
  go_ret
  exact ⟨rfl, hb⟩
end Go.Proofs.YthogkcgklakibaaGreatDoor
