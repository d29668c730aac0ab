
/-
  The words of a deed and its sum, as the reference makes them.
-/
import Derived.Test.YthogkcgklakibaaGreatDoorDdE
import Derived.Test.YthogkcgklakibaaGreatDoorDigX
import Derived.Test.YthogkcgklakibaaGreatDoorQtD
import Derived.Test.YthogkcgklakibaaGreatDoorContains
import Derived.Deep.RegionHeld3
namespace Go.Proofs.YthogkcgklakibaaGreatDoor
open Go.RowKit
attribute [local go_sem ↓] Go.wp_at_zero Go.wp_at_succ

theorem emptyD {s : ByteArray} (h : byteL s = []) : s.toList = [] ∧ (s.toList == []) = true ∧ s.toList.isEmpty = true := by
  have q : s.toList = [] := by rw [Lib.toList_data]; exact h
  exact ⟨q, by rw [q]; rfl, by rw [q]; rfl⟩
theorem fullD {s : ByteArray} (h : ¬ byteL s = []) : (¬ s.toList = []) ∧ (s.toList == []) = false ∧ s.toList.isEmpty = false := by
  have q : ¬ s.toList = [] := by rw [Lib.toList_data]; exact h
  exact ⟨q, by simpa using q, by simpa using q⟩
theorem dash1_any (s : ByteArray) (w : World) : Calls Tryz.prog 157 #[.string s] w fun e w' => e = .returned (.string (bag (dashD s))) ∧ w' = w := by
  by_cases h : byteL s = []
  · obtain ⟨q1, q2, q3⟩ := emptyD h
    have HF : Hid (bag (dashD s) = ⟨#[45]⟩) := by show _ = _; unfold dashD; rw [if_pos h]; rfl
    clear h
    go_enter Tryz.func157, Tryz.ntmps157
    go_wp2_with fail
    go_ret
    exact ⟨by rw [HF.out]; rfl, rfl⟩
  · obtain ⟨q1, q2, q3⟩ := fullD h
    have HF : Hid (bag (dashD s) = s) := by show _ = _; unfold dashD; rw [if_neg h]; exact bag_of s
    clear h
    go_enter Tryz.func157, Tryz.ntmps157
    go_wp2_with fail
    go_ret
    exact ⟨by rw [HF.out]; rfl, rfl⟩
/-- How great what a deed says may be. -/
structure SmallD (d : Deed) : Prop where
  no : 0 ≤ d.no ∧ d.no ≤ 100000000
  at_ : 0 ≤ d.at_ ∧ d.at_ ≤ 100000000
  kind : 0 ≤ d.kind ∧ d.kind ≤ 100000000
  from_ : 0 ≤ d.from_ ∧ d.from_ ≤ 100000000
  to_ : 0 ≤ d.to_ ∧ d.to_ ≤ 100000000
  ono : 0 ≤ d.ono ∧ d.ono ≤ 100000000
  site : d.site.size ≤ 1000
  id : d.id.size ≤ 1000
  fld : d.fld.size ≤ 1000
  val : d.val.size ≤ 1000
  osite : d.osite.size ≤ 1000
  sum : d.sum.size ≤ 1000
theorem ElemsAt.lit {α : Type} {E : Elem α} (hE : E.Ok) (w : World) (l : List α) (hl : l.length ≤ 1000) : ElemsAt E (w.alloc (.cells (E.cells l).toArray E.t)) (some ⟨w.heap.size, 0, none⟩) l.length l.length l := by
  obtain ⟨A, c, hv, -, hat, -⟩ := (Owns.lit hE w w.heap.size l (Nat.le_refl _) hl).at_ hE
  simp only [Value.slice.injEq] at hv
  obtain ⟨rfl, -, rfl⟩ := hv
  exact hat
theorem hex_fin2 : ∀ i : Fin 16, ((⟨#[48, 49, 50, 51, 52, 53, 54, 55, 56, 57, 97, 98, 99, 100, 101, 102]⟩ : ByteArray)[i.val]'(by have := i.2; exact this)).toNat = (hexD i.val).toNat := by decide
theorem hex_ix (i : Nat) (h : i < 16) (z : Int) (hz : z = i) (W : World) : (Instr.index 9 (.string ⟨#[48, 49, 50, 51, 52, 53, 54, 55, 56, 57, 97, 98, 99, 100, 101, 102]⟩) (.int .u8 z)).run Tryz.prog W = .ok (.int .u8 ((hexD i).toNat : Int)) W := by
  subst hz
  rw [run_index_string W 9 _ .u8 (i : Int) Tryz.underlying9, dif_pos ⟨by omega, by exact Int.ofNat_lt.2 h⟩]
  have := hex_fin2 ⟨i, h⟩
  simp only at this
  simp only [Int.toNat_natCast, this]
theorem byteL_len (b : ByteArray) : (byteL b).length = b.size := by simp [byteL]
set_option maxHeartbeats 1600000 in
set_option maxRecDepth 100000 in
theorem quoted2_any (s : ByteArray) (w : World) (hs : s.size ≤ 10000) (h10 : ∀ b ∈ s.data.toList, b ≠ 10) :
    Calls Tryz.prog 158 #[.string s] w (QuotePost w (quoS s.data.toList)) := by
  have HSL : Hid (s.data.toList.length = s.size) := by show _ = _; simp
  have HQL := Lib.hid (fun k => quo_len (s.data.toList.take k))
  have hb1 : Below w.heap.size w (w.alloc (.cells #[.int .u8 34] 5)) := (Below.refl _ _).alloc (Nat.le_refl _) _
  have HO1 : Hid (Owns ByteE (w.alloc (.cells #[.int .u8 34] 5)) w.heap.size (.slice (some ⟨w.heap.size, 0, none⟩) 1 1) [34]) := Owns.lit byteE_ok w w.heap.size [34] (Nat.le_refl _) (by decide)
  have HB1 := Lib.hid hb1
  clear hb1
  go_enter Tryz.func158, Tryz.ntmps158
  go_upto_region 2 with (fail)
  generalize w.alloc (.cells #[.int .u8 34] 5) = w1 at *
  go_wp2_with fail
  go_loopg [3, 9] s.size (fun gk v3 v wr => ∃ k : Nat, Hid (k + gk = s.size) ∧ v = .int .i64 (k : Int) ∧ Hid (Owns ByteE wr w.heap.size v3 (34 :: (s.data.toList.take k).flatMap quoB)) ∧ Hid (Below w.heap.size w wr))
  case atStart => exact ⟨0, show 0 + s.size = _ by omega, rfl, HO1.out, HB1.out⟩
  case round =>
    obtain ⟨k, HK, rfl, HO, HB⟩ := hrel
    clear HO1 HB1
    have hkn : k ≤ s.size := by have := HK.out; omega
    have hll : (34 :: (s.data.toList.take k).flatMap quoB).length ≤ 50000 := by
      have h1 := HQL.out k
      rw [List.length_take] at h1
      rw [List.length_cons]
      have := Nat.min_le_left k s.data.toList.length
      omega
    by_cases hlt : k < s.size
    · have HGK := Lib.hid (show k + 1 + (gk - 1) = s.size ∧ 0 < gk by have := HK.out; omega)
      obtain ⟨c, hc⟩ : ∃ c, s.data.toList[k]? = some c := ⟨_, List.getElem?_eq_getElem (by have := HSL.out; omega)⟩
      have hix := fun W => index_at hc (k : Int) rfl W
      have HTK : Hid ((34 : UInt8) :: (s.data.toList.take (k + 1)).flatMap quoB = (34 :: (s.data.toList.take k).flatMap quoB) ++ quoB c) := by
        show _ = _
        obtain ⟨h1, h2⟩ := List.getElem?_eq_some_iff.1 hc
        rw [List.take_succ_eq_append_getElem h1, h2, List.flatMap_append]
        simp
      have hc10 : c ≠ 10 := h10 _ (List.mem_of_getElem? hc)
      have hbs := HB.out.size
      clear HK
      generalize 34 :: (s.data.toList.take k).flatMap quoB = F at *
      have hcl := c.toNat_lt
      have e10 : ((c.toNat : Int) == 10) = false := by
        simp only [beq_eq_false_iff_ne, ne_eq]
        intro e
        exact hc10 (UInt8.toNat_inj.1 (by show c.toNat = 10; omega))
      clear hc
      by_cases h1 : c = 34 ∨ c = 92
      · have HQB : Hid (quoB c = [92, c]) := by show _ = _; unfold quoB; rw [if_pos h1]
        by_cases h34 : c = 34
        · subst h34
          have hix2 : ∀ W, (Instr.index 9 (.string s) (.int .i64 (k : Int))).run Tryz.prog W = .ok (.int .u8 34) W := hix
          clear h1 hix e10 hc10 hcl
          have hal : Below wr.heap.size wr (wr.alloc (.cells #[.int .u8 92, .int .u8 34] 5)) := (Below.refl _ _).alloc (Nat.le_refl _) _
          have HOA : Hid (Owns ByteE (wr.alloc (.cells #[.int .u8 92, .int .u8 34] 5)) w.heap.size u3 F) := World.ownsRow.alloc HO.out _
          have HLIT : Hid (ElemsAt ByteE (wr.alloc (.cells #[.int .u8 92, .int .u8 34] 5)) (some ⟨wr.heap.size, 0, none⟩) 2 2 [92, 34]) := ElemsAt.lit byteE_ok wr [92, 34] (by simp)
          have HBA := Lib.hid (HB.out.alloc HB.out.size (.cells #[.int .u8 92, .int .u8 34] 5))
          clear hal
          go_wp2_with (at_builtin; refine append_elems byteE_ok rfl _ _ rfl w.heap.size u3 F rfl HOA.out (some ⟨wr.heap.size, 0, none⟩) 2 2 [92, 34] rfl HLIT.out (by simp; omega) (by simp; omega) ?_; intro v6 w6 hown6 hgrow6 hv6)
          have HO6 : Hid (Owns ByteE w6 w.heap.size v6 (34 :: (s.data.toList.take (k + 1)).flatMap quoB)) := by show Owns _ _ _ _ _; rw [HTK.out, HQB.out]; exact hown6
          have HB6 : Hid (Below w.heap.size w w6) := HBA.out.grown hgrow6 HBA.out.size (fun i e => (HOA.out.lt i e).1)
          clear hown6 hgrow6 hv6
          go_wp2_with fail
          go_roundg (gk - 1)
          case measure => exact Nat.sub_lt HGK.out.2 Nat.one_pos
          case rel => exact ⟨k + 1, HGK.out.1, by go_num, HO6.out, HB6.out⟩
        · have h92 : c = 92 := h1.resolve_left h34
          subst h92
          have hix2 : ∀ W, (Instr.index 9 (.string s) (.int .i64 (k : Int))).run Tryz.prog W = .ok (.int .u8 92) W := hix
          clear h1 hix h34 e10 hc10 hcl
          have hal : Below wr.heap.size wr (wr.alloc (.cells #[.int .u8 92, .int .u8 92] 5)) := (Below.refl _ _).alloc (Nat.le_refl _) _
          have HOA : Hid (Owns ByteE (wr.alloc (.cells #[.int .u8 92, .int .u8 92] 5)) w.heap.size u3 F) := World.ownsRow.alloc HO.out _
          have HLIT : Hid (ElemsAt ByteE (wr.alloc (.cells #[.int .u8 92, .int .u8 92] 5)) (some ⟨wr.heap.size, 0, none⟩) 2 2 [92, 92]) := ElemsAt.lit byteE_ok wr [92, 92] (by simp)
          have HBA := Lib.hid (HB.out.alloc HB.out.size (.cells #[.int .u8 92, .int .u8 92] 5))
          clear hal
          go_wp2_with (at_builtin; refine append_elems byteE_ok rfl _ _ rfl w.heap.size u3 F rfl HOA.out (some ⟨wr.heap.size, 0, none⟩) 2 2 [92, 92] rfl HLIT.out (by simp; omega) (by simp; omega) ?_; intro v6 w6 hown6 hgrow6 hv6)
          have HO6 : Hid (Owns ByteE w6 w.heap.size v6 (34 :: (s.data.toList.take (k + 1)).flatMap quoB)) := by show Owns _ _ _ _ _; rw [HTK.out, HQB.out]; exact hown6
          have HB6 : Hid (Below w.heap.size w w6) := HBA.out.grown hgrow6 HBA.out.size (fun i e => (HOA.out.lt i e).1)
          clear hown6 hgrow6 hv6
          go_wp2_with fail
          go_roundg (gk - 1)
          case measure => exact Nat.sub_lt HGK.out.2 Nat.one_pos
          case rel => exact ⟨k + 1, HGK.out.1, by go_num, HO6.out, HB6.out⟩
      · have hn34 : c.toNat ≠ 34 := fun e => h1 (.inl (UInt8.toNat_inj.1 e))
        have hn92 : c.toNat ≠ 92 := fun e => h1 (.inr (UInt8.toNat_inj.1 e))
        have e34 : ((c.toNat : Int) == 34) = false := by simp only [beq_eq_false_iff_ne, ne_eq]; omega
        have e92 : ((c.toNat : Int) == 92) = false := by simp only [beq_eq_false_iff_ne, ne_eq]; omega
        have l33 : c < 33 ↔ c.toNat < 33 := UInt8.lt_iff_toNat_lt
        have l126 : 126 < c ↔ 126 < c.toNat := UInt8.lt_iff_toNat_lt
        by_cases h2 : c < 33 ∨ 126 < c
        · have HQB : Hid (quoB c = [92, 120, hexD (c.toNat / 16), hexD (c.toNat % 16)]) := by show _ = _; unfold quoB; rw [if_neg h1, if_neg hc10, if_pos h2]
          have hx1 := fun W => hex_ix (c.toNat / 16) (by omega) ((c.toNat : Int) / 16) (by omega) W
          have hw1 : IntKind.u8.wrap ((c.toNat : Int) / 16) = (c.toNat : Int) / 16 := by
            rw [show IntKind.u8.wrap ((c.toNat : Int) / 16) = ((c.toNat : Int) / 16) % 256 from rfl]; omega
          have htm : (c.toNat : Int).tmod 16 = (c.toNat : Int) % 16 := Int.tmod_eq_emod_of_nonneg (by omega)
          have hx2 := fun W => hex_ix (c.toNat % 16) (by omega) ((c.toNat : Int).tmod 16) (by rw [htm]; omega) W
          have hx3 := fun W => hex_ix (c.toNat % 16) (by omega) ((c.toNat : Int) % 16) (by omega) W
          clear htm
          rw [l33, l126] at h2
          clear h1 hc10 l33 l126
          have HOA : Hid (Owns ByteE (wr.drew.alloc (.cells #[.int .u8 92, .int .u8 120, .int .u8 ((hexD (c.toNat / 16)).toNat : Int), .int .u8 ((hexD (c.toNat % 16)).toNat : Int)] 5)) w.heap.size u3 F) := World.ownsRow.alloc (HO.out.below_ (Below.refl _ _).drew) _
          have HLIT : Hid (ElemsAt ByteE (wr.drew.alloc (.cells #[.int .u8 92, .int .u8 120, .int .u8 ((hexD (c.toNat / 16)).toNat : Int), .int .u8 ((hexD (c.toNat % 16)).toNat : Int)] 5)) (some ⟨wr.drew.heap.size, 0, none⟩) 4 4 [92, 120, hexD (c.toNat / 16), hexD (c.toNat % 16)]) := ElemsAt.lit byteE_ok wr.drew [92, 120, hexD (c.toNat / 16), hexD (c.toNat % 16)] (by simp)
          have HBA : Hid (Below w.heap.size w (wr.drew.alloc (.cells #[.int .u8 92, .int .u8 120, .int .u8 ((hexD (c.toNat / 16)).toNat : Int), .int .u8 ((hexD (c.toNat % 16)).toNat : Int)] 5))) := HB.out.drew.alloc HB.out.size _
          by_cases h33 : (c.toNat : Int) < 33
          · go_upto_region 12 with (fail)
            go_region_law (first
              | (refine step_elems byteE_ok (by rfl) _ _ (by rfl) w.heap.size u3 F (by rfl) ?_ _ 4 4 [92, 120, hexD (c.toNat / 16), hexD (c.toNat % 16)] (by rfl) ?_ (by omega) ?_ ?_ ?_; (exact HOA.out); (exact HLIT.out); (simp only [List.length_cons, List.length_nil]; omega); (simp; omega); intro v6 w6 hown6 hgrow6 hv6))
            all_goals
              have HO6 : Hid (Owns ByteE w6 w.heap.size v6 (34 :: (s.data.toList.take (k + 1)).flatMap quoB)) := by show Owns _ _ _ _ _; rw [HTK.out, HQB.out]; exact hown6
              have HB6 : Hid (Below w.heap.size w w6) := HBA.out.grown hgrow6 HBA.out.size (fun i e => (HOA.out.lt i e).1)
              clear hown6 hgrow6 hv6
              go_wp2_with fail
              go_roundg (gk - 1)
              case measure => exact Nat.sub_lt HGK.out.2 Nat.one_pos
              case rel => exact ⟨k + 1, HGK.out.1, by go_num, HO6.out, HB6.out⟩
          · have h126 : (126 : Int) < (c.toNat : Int) := by omega
            go_upto_region 12 with (fail)
            go_region_law (first
              | (refine step_elems byteE_ok (by rfl) _ _ (by rfl) w.heap.size u3 F (by rfl) ?_ _ 4 4 [92, 120, hexD (c.toNat / 16), hexD (c.toNat % 16)] (by rfl) ?_ (by omega) ?_ ?_ ?_; (exact HOA.out); (exact HLIT.out); (simp only [List.length_cons, List.length_nil]; omega); (simp; omega); intro v6 w6 hown6 hgrow6 hv6))
            all_goals
              have HO6 : Hid (Owns ByteE w6 w.heap.size v6 (34 :: (s.data.toList.take (k + 1)).flatMap quoB)) := by show Owns _ _ _ _ _; rw [HTK.out, HQB.out]; exact hown6
              have HB6 : Hid (Below w.heap.size w w6) := HBA.out.grown hgrow6 HBA.out.size (fun i e => (HOA.out.lt i e).1)
              clear hown6 hgrow6 hv6
              go_wp2_with fail
              go_roundg (gk - 1)
              case measure => exact Nat.sub_lt HGK.out.2 Nat.one_pos
              case rel => exact ⟨k + 1, HGK.out.1, by go_num, HO6.out, HB6.out⟩
        · have HQB : Hid (quoB c = [c]) := by show _ = _; unfold quoB; rw [if_neg h1, if_neg hc10, if_neg h2]
          rw [l33, l126] at h2
          have h33 : ¬ (c.toNat : Int) < 33 := by omega
          have h126 : ¬ (126 : Int) < (c.toNat : Int) := by omega
          clear h1 hc10 l33 l126 h2
          have hal : Below wr.heap.size wr (wr.alloc (.cells #[.int .u8 (c.toNat : Int)] 5)) := (Below.refl _ _).alloc (Nat.le_refl _) _
          have HOA : Hid (Owns ByteE (wr.alloc (.cells #[.int .u8 (c.toNat : Int)] 5)) w.heap.size u3 F) := World.ownsRow.alloc HO.out _
          have HLIT : Hid (ElemsAt ByteE (wr.alloc (.cells #[.int .u8 (c.toNat : Int)] 5)) (some ⟨wr.heap.size, 0, none⟩) 1 1 [c]) := ElemsAt.lit byteE_ok wr [c] (by simp)
          have HBA := Lib.hid (HB.out.alloc HB.out.size (.cells #[.int .u8 (c.toNat : Int)] 5))
          clear hal
          go_wp2_with (at_builtin; refine append_elems byteE_ok rfl _ _ rfl w.heap.size u3 F rfl HOA.out (some ⟨wr.heap.size, 0, none⟩) 1 1 [c] rfl HLIT.out (by simp; omega) (by simp; omega) ?_; intro v6 w6 hown6 hgrow6 hv6)
          have HO6 : Hid (Owns ByteE w6 w.heap.size v6 (34 :: (s.data.toList.take (k + 1)).flatMap quoB)) := by show Owns _ _ _ _ _; rw [HTK.out, HQB.out]; exact hown6
          have HB6 : Hid (Below w.heap.size w w6) := HBA.out.grown hgrow6 HBA.out.size (fun i e => (HOA.out.lt i e).1)
          clear hown6 hgrow6 hv6
          go_wp2_with fail
          go_roundg (gk - 1)
          case measure => exact Nat.sub_lt HGK.out.2 Nat.one_pos
          case rel => exact ⟨k + 1, HGK.out.1, by go_num, HO6.out, HB6.out⟩
    · have hnk : ¬ (k : Int) < (s.size : Int) := by omega
      have hta : s.data.toList.take k = s.data.toList := List.take_of_length_le (by have := HSL.out; omega)
      rw [hta] at HO hll
      have HOA : Hid (Owns ByteE (wr.alloc (.cells #[.int .u8 34] 5)) w.heap.size u3 (34 :: s.data.toList.flatMap quoB)) := World.ownsRow.alloc HO.out _
      have HLIT : Hid (ElemsAt ByteE (wr.alloc (.cells #[.int .u8 34] 5)) (some ⟨wr.heap.size, 0, none⟩) 1 1 [34]) := ElemsAt.lit byteE_ok wr [34] (by simp)
      have HBA := Lib.hid (HB.out.alloc HB.out.size (.cells #[.int .u8 34] 5))
      have hbs := HB.out.size
      have HQE : Hid ((34 :: s.data.toList.flatMap quoB) ++ [34] = quoS s.data.toList) := rfl
      clear hta HK
      generalize 34 :: s.data.toList.flatMap quoB = F at *
      go_upto_region 14 with (fail)
      go_wp2_with (at_builtin; refine append_elems byteE_ok rfl _ _ rfl w.heap.size u3 F rfl HOA.out (some ⟨wr.heap.size, 0, none⟩) 1 1 [34] rfl HLIT.out (by simp; omega) (by simp; omega) ?_; intro v6 w6 hown6 hgrow6 hv6; have hcv := own_back hown6; rw [HQE.out] at hcv)
      have HB6 : Hid (Below w.heap.size w w6) := HBA.out.grown hgrow6 HBA.out.size (fun i e => (HOA.out.lt i e).1)
      clear hown6 hgrow6 hv6
      go_wp2_with fail
      go_ret
      exact ⟨rfl, HB6.out⟩
theorem dec_lenD (z : Int) (h : 0 ≤ z ∧ z ≤ 100000000) : (decD z).length ≤ 9 := (dec_len (u := z.toNat) (by omega)).2
theorem dash_lenD (b : ByteArray) (h : b.size ≤ 1000) : (dashD b).length ≤ 1000 := by
  unfold dashD
  split
  · decide
  · rw [byteL_len]; exact h
theorem join_leD (d : UInt8) : ∀ l : List (List UInt8), (Lib.join l [d]).length ≤ (l.map fun x => x.length + 1).sum
  | [] => by simp [Lib.join]
  | [a] => by simp [Lib.join]
  | a :: b :: l => by
    have e : Lib.join (a :: b :: l) [d] = a ++ d :: Lib.join (b :: l) [d] := by simp [Lib.join, List.intercalate, List.intersperse]
    have ih := join_leD d (b :: l)
    rw [e, List.length_append, List.length_cons, List.map_cons, List.sum_cons]
    omega
theorem words_lenD (before : ByteArray) (d : Deed) (hd : SmallD d) (hb : before.size ≤ 1000) : (Lib.join (wordsD before d) [32]).length ≤ 1000000 := by
  refine Nat.le_trans (join_leD 32 _) ?_
  have h1 := dec_lenD d.no hd.no
  have h2 := dec_lenD d.at_ hd.at_
  have h3 := dec_lenD d.kind hd.kind
  have h4 := dec_lenD d.from_ hd.from_
  have h5 := dec_lenD d.to_ hd.to_
  have h6 := dec_lenD d.ono hd.ono
  have h7 := dash_lenD d.id hd.id
  have h8 := dash_lenD d.fld hd.fld
  have h9 := dash_lenD d.osite hd.osite
  have h10 := quo_len (byteL d.val)
  have h11 := byteL_len d.val
  have h12 := hd.val
  have h13 := byteL_len before
  have h14 := byteL_len d.site
  have h15 := hd.site
  have h16 : (quoS (byteL d.val)).length = (byteL d.val |>.flatMap quoB).length + 2 := by unfold quoS; simp
  unfold wordsD
  simp only [List.map_cons, List.map_nil, List.sum_cons, List.sum_nil]
  omega
end Go.Proofs.YthogkcgklakibaaGreatDoor
