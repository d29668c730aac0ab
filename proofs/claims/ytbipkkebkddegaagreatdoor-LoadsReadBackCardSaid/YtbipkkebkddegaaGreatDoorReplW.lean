
/-
  build: walked at pairs of single bytes.
-/
import Derived.Test.YtbipkkebkddegaaGreatDoorReplB
namespace Go.Proofs.YtbipkkebkddegaaGreatDoor
open Go.RowKit

set_option maxHeartbeats 3200000 in
set_option maxRecDepth 100000 in
theorem build_three (b c : Nat) (rv : Value) (O : Option Addr) (ps : List (UInt8 × List UInt8)) (w : World) (h : RepAt w b 0 1 rv (.slice O 6 c)) (hl : ps.length = 3) (hO : StrsAt w O 6 c (flatP ps)) (hne : ∀ p ∈ ps, p.2.length ≠ 1) (hnd : (ps.map (·.1)).Nodup) :
    Calls Tryz.prog 107 #[.pointer (some ⟨b, 0, none⟩)] w (BuiltPost w ps) := by
  obtain ⟨g, o, rfl, hg, hc⟩ := hO.str (by omega)
  obtain ⟨p0, p1, p2, rfl⟩ : ∃ p0 p1 p2, ps = [p0, p1, p2] := by
    match ps, hl with
    | [p0, p1, p2], _ => exact ⟨p0, p1, p2, rfl⟩
  have k0 := hc 0 (by omega)
  have k1 := hc 1 (by omega)
  have k2 := hc 2 (by omega)
  have k3 := hc 3 (by omega)
  have k4 := hc 4 (by omega)
  have k5 := hc 5 (by omega)
  have c4 := h.c.2.2.2.1
  simp only [flatP, List.flatMap_cons, List.flatMap_nil, List.cons_append, List.nil_append, List.append_nil, List.getD_cons_zero, List.getD_cons_succ] at k0 k1 k2 k3 k4 k5
  rw [Nat.add_zero] at k0
  have n0 : ¬ ((p0.2.length : Int) = 1) := by have := hne p0 (by simp); omega
  have n1 : ¬ ((p1.2.length : Int) = 1) := by have := hne p1 (by simp); omega
  have n2 : ¬ ((p2.2.length : Int) = 1) := by have := hne p2 (by simp); omega
  have HH := Lib.hid h
  have HO := Lib.hid hO
  have HND := Lib.hid hnd
  clear hc hO h hnd hne hl
  obtain ⟨i0, hi, hz0, hz1, hz2⟩ := info_parts (show (Tryz.prog.info? 9).map (fun i => (i.zero, i.size, i.bytes)) = some (some (.string ⟨#[]⟩), 1, 16) by kernel_rfl)
  have hmk := fun wx => run_make (P := Tryz.prog) wx 53 9 i0 _ Tryz.underlying53 hi hz0 .i64 .i64 0 3 (by omega) (by omega) (by rw [hz2]; decide) (by omega)
  rw [hz1] at hmk
  have hst := bsr_store (w.alloc (.cells (madeCells #[.string ⟨#[]⟩] 3) 9)) (some ⟨w.heap.size, 0, none⟩) 0 3
  rw [show (w.alloc (.cells (madeCells #[.string ⟨#[]⟩] 3) 9)).heap.size = w.heap.size + 1 by simp] at hst
  have hnn := fun (wx : World) (a : Option Addr) (n c n' c' : Nat) => Lib.run_eql_slice_nil (P := Tryz.prog) wx 71 5 a n c n' c' Tryz.underlying71
  go_enter Tryz.func107, Tryz.ntmps107
  go_wp2_with fail
  refine wp_loop_rounds 4 ?_
  rw [rounds_succ]
  go_wp2_with fail
  rw [rounds_succ]
  go_wp2_with fail
  rw [rounds_succ]
  go_wp2_with fail
  rw [rounds_succ]
  go_upto_region 26 with (fail)
  go_cut [11] (fun v wx => ∃ (R : Nat) (A : Array Value), v = .pointer (some ⟨R, 0, none⟩) ∧ Below w.heap.size w wx ∧ Hid (ReplAt wx w.heap.size R (tabOf []) [] A (.slice (some ⟨w.heap.size, 0, none⟩) 0 3)))
  case first =>
    go_wp2_with fail
    go_meet
    have hn := heap_alloc_new (w.alloc (.cells (madeCells #[.string ⟨#[]⟩] 3) 9)) (.cells (bsr (.slice (some ⟨w.heap.size, 0, none⟩) 0 3)) 214)
    rw [show (w.alloc (.cells (madeCells #[.string ⟨#[]⟩] 3) 9)).heap.size = w.heap.size + 1 by simp] at hn
    have hos : OwnStrs (w.alloc (.cells (madeCells #[.string ⟨#[]⟩] 3) 9)) w.heap.size (.slice (some ⟨w.heap.size, 0, none⟩) 0 3) [] := World.ownsRow_made w _ 3 (Nat.le_refl _) (by simp only [maxLen]; omega) (size_madeCells _ _)
    exact ⟨w.heap.size + 1, _, rfl, ((Below.refl _ _).alloc (Nat.le_refl _) _).alloc (by simp) _, hn, bsr_size _, bsr_last _, hos.below_ ((Below.refl _ _).alloc (Nat.le_refl _) _), by omega, fun x => bsr_nil _ _ x.toNat_lt⟩
  case rest =>
    obtain ⟨R, A, rfl, hB, HR⟩ := hcut
    have HB := Lib.hid hB
    clear hB hst hmk hi hz0 hz1 hz2 i0
    have K0 := Lib.hid k0
    have K1 := Lib.hid k1
    have K2 := Lib.hid k2
    have K3 := Lib.hid k3
    have K4 := Lib.hid k4
    have K5 := Lib.hid k5
    have hk4 : wc.cell? ⟨b, 4, none⟩ = some (.slice (some ⟨g, o, none⟩) 6 c) := (World.cell?_of_block (HB.out.block b HH.out.lt)).trans c4
    clear k0 k1 k2 k3 k4 k5 c4 n0 n1 n2
    go_wp2_with fail
    clear hk4
    go_loopg [12] 3 (fun gk i wr => ∃ (k : Nat) (z : Int) (A : Array Value) (V : Value), Hid (k + gk = 3) ∧ i = .int .i64 z ∧ Hid (z = 4 - 2 * k) ∧ Hid (ReplAt wr w.heap.size R (tabOf ([p0, p1, p2].drop (3 - k))) (([p0, p1, p2].drop (3 - k)).reverse.map (·.1)) A V) ∧ Below w.heap.size w wr)
    case atStart => exact ⟨0, _, A, _, show 0 + 3 = 3 by omega, rfl, show _ = _ by omega, HR, HB.out⟩
    case round =>
      obtain ⟨k, z, A, V, HK, rfl, HZ, HR, hbel⟩ := hrel
      have hk3 : k ≤ 3 := by have := HK.out; omega
      have HBR := Lib.hid hbel
      clear hbel
      by_cases hlt : k < 3
      · obtain ⟨j, x, y, hj, hj0, hj1, hdr, hjz⟩ : ∃ (j : Nat) (x : UInt8) (y : List UInt8), Hid (z = (j : Int)) ∧ Hid (w.cell? ⟨g, o + j, none⟩ = some (.string ⟨#[x]⟩)) ∧ Hid (w.cell? ⟨g, o + (j + 1), none⟩ = some (.string ⟨y.toArray⟩)) ∧ Hid ([p0, p1, p2].drop (3 - (k + 1)) = (x, y) :: [p0, p1, p2].drop (3 - k)) ∧ Hid ((j : Int) - 2 = 4 - 2 * ((k + 1 : Nat) : Int) ∧ j ≤ 4) := by
          have : k = 0 ∨ k = 1 ∨ k = 2 := by omega
          rcases this with rfl | rfl | rfl
          · exact ⟨4, p2.1, p2.2, HZ, K4, K5, rfl, show _ ∧ _ from ⟨by omega, by omega⟩⟩
          · exact ⟨2, p1.1, p1.2, HZ, K2, K3, rfl, show _ ∧ _ from ⟨by omega, by omega⟩⟩
          · exact ⟨0, p0.1, p0.2, HZ, K0, K1, rfl, show _ ∧ _ from ⟨by omega, by omega⟩⟩
        have hjb := hjz.out.2
        obtain rfl := hj.out
        have cj0 : wr.cell? ⟨g, o + j, none⟩ = some (.string ⟨#[x]⟩) := (World.cell?_of_block (HBR.out.block g hg)).trans hj0.out
        have cj1 : wr.cell? ⟨g, o + (j + 1), none⟩ = some (.string ⟨y.toArray⟩) := (World.cell?_of_block (HBR.out.block g hg)).trans hj1.out
        have hx0 : tabOf ([p0, p1, p2].drop (3 - k)) x = none := by
          refine tabOf_none fun q hq e => ?_
          have hn : (([p0, p1, p2].drop (3 - (k + 1))).map (·.1)).Nodup := List.Pairwise.sublist ((List.drop_sublist (3 - (k + 1)) [p0, p1, p2]).map (·.1)) HND.out
          rw [hdr.out] at hn
          exact (List.nodup_cons.1 hn).1 (List.mem_map.2 ⟨q, hq, e⟩)
        have hsl := HR.out.2.2.2.2.2 x
        rw [hx0] at hsl
        have qx : wr.cell? ⟨R, x.toNat, none⟩ = some (.slice none 0 0) := (HR.out.cell _).trans hsl
        obtain ⟨AV, cV, hV, hcV, _, hAV⟩ := HR.out.2.2.2.1.at_ strE_ok
        have q256 : wr.cell? ⟨R, 256, none⟩ = some V := (HR.out.cell _).trans HR.out.2.2.1
        have fx : wr.frozen? ⟨R, x.toNat, none⟩ = false := HR.out.frozen _
        have f256 : wr.frozen? ⟨R, 256, none⟩ = false := HR.out.frozen _
        have hxb : x.toNat < 256 := x.toNat_lt
        have hxi : (x.toNat : Int) < 256 := by omega
        have ex : ((⟨#[x]⟩ : ByteArray)[0]'(by simp [ByteArray.size])).toNat = x.toNat := rfl
        have hRlt : R < wr.heap.size := HR.out.lt
        have b1 : ∀ wx : World, (convert 71 9 (.slice (some ⟨wx.heap.size, 0, none⟩) 1 1)).run Tryz.prog (wx.alloc (.cells #[.int .u8 (x.toNat : Int)] 5)) = .ok (.string ⟨#[x]⟩) (wx.alloc (.cells #[.int .u8 (x.toNat : Int)] 5)) := fun wx => one_back wx x
        have HX0 := Lib.hid hx0
        clear hsl hx0 hAV
        generalize hlen : (List.map (fun b => [b]) (List.map (fun x => x.1) (List.drop (3 - k) [p0, p1, p2]).reverse)).length = nV at *
        subst hV
        have HLN := Lib.hid hlen
        clear hlen
        go_upto_region 33 with (fail)
        have hb2 : Below wr.heap.size wr ((wr.alloc (.cells #[.int .u8 (x.toNat : Int)] 5)).alloc (.cells #[.string ⟨#[x]⟩] 9)) := ((Below.refl _ _).alloc (Nat.le_refl _) _).alloc (by simp) _
        have hone := one_elem (E := StrE) (wr.alloc (.cells #[.int .u8 (x.toNat : Int)] 5)) [x]
        rw [show (wr.alloc (.cells #[.int .u8 (x.toNat : Int)] 5)).heap.size = wr.heap.size + 1 by simp] at hone
        have HONE : Hid (StrsAt ((wr.alloc (.cells #[.int .u8 (x.toNat : Int)] 5)).alloc (.cells #[.string ⟨#[x]⟩] 9)) (some ⟨wr.heap.size + 1, 0, none⟩) 1 1 [[x]]) := hone
        have HR2 := Lib.hid (HR.out.below hb2)
        have HB2 := Lib.hid hb2
        have hlnb : nV ≤ 100 := by have := HLN.out; simp at this; omega
        have hbase2 : w.heap.size ≤ ((wr.alloc (.cells #[.int .u8 (x.toNat : Int)] 5)).alloc (.cells #[.string ⟨#[x]⟩] 9)).heap.size := by have := HBR.out.size; have := hb2.size; omega
        have HBA := Lib.hid hbase2
        clear hone hb2 hbase2
        go_upto_region 34 with (refine append_elems strE_ok rfl _ _ rfl w.heap.size (.slice AV nV cV) _ rfl HR2.out.2.2.2.1 (some ⟨wr.heap.size + 1, 0, none⟩) 1 1 [[x]] rfl HONE.out (by simp; omega) HBA.out ?_; intro V' w3 hown hgr hrow; have h3 := HR2.out.grownV hgr; have HV3 := Lib.hid hown; have HG3 := Lib.hid hgr; have HR3 := Lib.hid h3; have hat5 := hown.at_ strE_ok; have hgo := hgr.size; clear hown hgr hrow; obtain ⟨q3, f3, l3⟩ := h3; have q4 := q3 256; have f4 := f3 256; rw [HR2.out.2.2.1] at q4; clear q3 f3; obtain ⟨A5, c5, rfl, hc5, hat5', hG5'⟩ := hat5; generalize hl5 : (List.map (fun b => [b]) (List.map (fun x => x.1) (List.drop (3 - k) [p0, p1, p2]).reverse) ++ [[x]]).length = n5 at *; have HL5 := Lib.hid hl5; clear hl5 hc5 hat5' hG5')
        obtain ⟨N, wb, hcv, hN, hBy, hBb, hSb⟩ := conv_bytes' (w3.setCell ⟨R, 256, none⟩ (.slice A5 n5 c5)) ⟨y.toArray⟩
        rw [show (w3.setCell ⟨R, 256, none⟩ (.slice A5 n5 c5)).heap.size = w3.heap.size by simp [World.setCell]] at hcv hBy hBb hSb
        rw [show (⟨y.toArray⟩ : ByteArray).data.toList = y by simp] at hBy
        rw [show (⟨y.toArray⟩ : ByteArray).size = y.length by simp [ByteArray.size]] at hcv hN
        have hO5 := HV3.out
        rw [show List.map (fun b => [b]) (List.map (fun x => x.1) (List.drop (3 - k) [p0, p1, p2]).reverse) ++ [[x]] = List.map (fun b => [b]) (List.map (fun x => x.1) (List.drop (3 - k) [p0, p1, p2]).reverse ++ [x]) by simp] at hO5
        have hstep := HR2.out.step (y := y) HG3.out hO5 hBb hBy
        have qb : wb.cell? ⟨R, x.toNat, none⟩ = some (.slice none 0 0) := by
          have h1 : wb.heap[R]? = (w3.setCell ⟨R, 256, none⟩ (.slice A5 n5 c5)).heap[R]? := hBb.block R l3
          rw [World.cell?_of_block h1, World.cell?_setCell_other _ _ _ _ (by first | (simp; done) | (simp; omega)), HR3.out.1]
          have := (HR2.out.cell x.toNat).symm
          rw [← HR.out.cell]
          exact qx
        have fb : wb.frozen? ⟨R, x.toNat, none⟩ = false := by
          have h1 : wb.heap[R]? = (w3.setCell ⟨R, 256, none⟩ (.slice A5 n5 c5)).heap[R]? := hBb.block R l3
          have h2 : (w3.setCell ⟨R, 256, none⟩ (.slice A5 n5 c5)).frozen? ⟨R, x.toNat, none⟩ = false := by rw [World.frozen?_setCell]; exact HR3.out.2.1 _
          simp only [World.frozen?, h1] at h2 ⊢
          exact h2
        have lb : R < wb.heap.size := by omega
        have hBW : Below w.heap.size w (wb.setCell ⟨R, x.toNat, none⟩ (.slice (some ⟨w3.heap.size, 0, none⟩) y.length N)) := by
          have hrow : ∀ i, (Value.slice AV nV cV).ownBlock = some i → w.heap.size ≤ i := fun i hi => (HR2.out.2.2.2.1.lt i hi).1
          have h1 : Below w.heap.size w w3 := (HBR.out.trans (HB2.out.mono HBR.out.size)).grown HG3.out HBA.out hrow
          have h2 : Below w.heap.size w (w3.setCell ⟨R, 256, none⟩ (.slice A5 n5 c5)) := h1.grown (grown_setCell _ _ _ _) h1.size (fun i e => by have := HR.out.2.2.2.2.1; cases e; omega)
          have h3 : Below w.heap.size w wb := h2.trans (hBb.mono h1.size)
          exact h3.grown (grown_setCell _ _ _ _) h3.size (fun i e => by have := HR.out.2.2.2.2.1; cases e; omega)
        have HSTEP := Lib.hid hstep
        have HBW := Lib.hid hBW
        clear hstep hBW hO5 hBy hBb hSb hN qx q256 fx f256 cj0 cj1 q4 f4
        go_wp2_with fail
        go_roundg (gk - 1)
        case measure => have := HK.out; omega
        case rel =>
          have h := HSTEP.out
          have hd : List.map (fun x => x.1) (List.drop (3 - (k + 1)) [p0, p1, p2]).reverse = List.map (fun x => x.1) (List.drop (3 - k) [p0, p1, p2]).reverse ++ [x] := by rw [hdr.out, List.reverse_cons, List.map_append]; rfl
          rw [show (fun b => if b = x then some y else tabOf (List.drop (3 - k) [p0, p1, p2]) b) = tabOf (List.drop (3 - (k + 1)) [p0, p1, p2]) by rw [hdr.out]; rfl, ← hd] at h
          exact ⟨k + 1, (j : Int) - 2, _, _, show k + 1 + (gk - 1) = 3 by have := HK.out; omega, rfl, show _ = _ from hjz.out.1, h, HBW.out⟩
      · obtain rfl : k = 3 := by omega
        have hz : z = -2 := by have := HZ.out; omega
        subst hz
        have HF : Hid (∃ A V, ReplAt wr w.heap.size R (tabOf [p0, p1, p2]) ([p0, p1, p2].reverse.map (·.1)) A V) := ⟨A, V, HR.out⟩
        clear HR HZ
        go_wp2_with fail
        go_ret
        obtain ⟨A, V, hF⟩ := HF.out
        exact ⟨R, A, V, rfl, hF, HBR.out⟩
end Go.Proofs.YtbipkkebkddegaaGreatDoor
