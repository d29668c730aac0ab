
/-
  What cut, plus and newNatural return: numbers in digits of 32 bits.
-/
import Derived.Test.YtmliaiinfgddhaaGreatDoorElems
import Derived.Test.YtmliaiinfgddhaaGreatDoorNatPlain
namespace Go.Proofs.YtmliaiinfgddhaaGreatDoor
open Go.RowKit

def DigE : Elem Nat := ⟨87, 113, 1, 4, .int .u32 0, fun d => [.int .u32 (d : Int)]⟩
theorem digE_ok : DigE.Ok := ⟨fun _ => rfl, fun x u hu => by simp [DigE] at hu; subst hu; rfl, by decide, by decide, by kernel_rfl, by kernel_rfl, Tryz.underlying113⟩
theorem ElemsAt.dig {w : World} {A : Option Addr} {n c : Nat} {l : List Nat} (h : ElemsAt DigE w A n c l) (h0 : 0 < n) : ∃ g off, A = some ⟨g, off, none⟩ ∧ g < w.heap.size ∧ ∀ k, k < n → w.cell? ⟨g, off + k, none⟩ = some (.int .u32 (l.getD k 0 : Nat)) := by
  obtain ⟨g, off, hA, hg, hc⟩ := h.2.2.2 h0
  refine ⟨g, off, hA, hg, fun k hk => ?_⟩
  have hl : k < l.length := by rw [← h.1]; exact hk
  have := hc k _ 0 (.int .u32 ((l.getD k 0 : Nat) : Int)) (List.getElem?_eq_getElem hl) (by simp [DigE, hl])
  simpa [DigE] using this
/-- A block of digits. -/
def TypA (w : World) (A : Option Addr) : Prop := ∀ a, A = some a → ∃ arr fr, w.heap[a.block]? = some (.cells arr 87 fr)
theorem TypA.keep {w w' : World} {A : Option Addr} (h : TypA w A) (hb : Below w.heap.size w w') : TypA w' A := fun a e => by
  obtain ⟨arr, fr, hh⟩ := h a e
  exact ⟨arr, fr, (hb.block a.block (Array.getElem?_eq_some_iff.1 hh).1).trans hh⟩
theorem addr_add_block (a : Addr) (k : Nat) : (a.add k).block = a.block := by unfold Addr.add; split <;> rfl
theorem TypA.sliced_ {w : World} {A B : Option Addr} {i j c n' c' : Nat} (h : TypA w A) (e : sliced A i j c DigE.size = .slice B n' c') : TypA w B := by
  unfold sliced at e
  simp only [Value.slice.injEq] at e
  obtain ⟨e1, _, _⟩ := e
  rw [← e1]
  split
  · exact h
  · intro a e2
    cases A with
    | none => cases e2
    | some a' =>
      have e3 : a'.add (i * DigE.size) = a := Option.some.inj e2
      rw [← e3, addr_add_block]
      exact h a' rfl
/-- A slice of digits that says a number. -/
def NatAt (w : World) (v : Value) (x m : Nat) : Prop := ∃ A n c l, v = .slice A n c ∧ c ≤ 1000000 ∧ ElemsAt DigE w A n c l ∧ Dig l ∧ Canon l ∧ valD l = x ∧ n ≤ m ∧ TypA w A
theorem NatAt.keep {w w' : World} {v : Value} {x m : Nat} (h : NatAt w v x m) (hb : Below w.heap.size w w') : NatAt w' v x m := by
  obtain ⟨A, n, c, l, h1, h2, h3, h4, h5, h6, h7, h8⟩ := h
  exact ⟨A, n, c, l, h1, h2, h3.keep hb, h4, h5, h6, h7, h8.keep hb⟩
/-- Its digits are no more than the number needs. -/
theorem NatAt.fit {w : World} {v : Value} {x m k : Nat} (h : NatAt w v x m) (hx : x < powB k) : NatAt w v x k := by
  obtain ⟨A, n, c, l, h1, h2, h3, h4, h5, h6, _, h8⟩ := h
  exact ⟨A, n, c, l, h1, h2, h3, h4, h5, h6, by rw [h3.1]; exact canon_len h5 (by rw [h6]; exact hx), h8⟩
theorem und_dig : Tryz.prog.underlying 113 = some (.slice (Tryz.prog.elem 113)) := by rw [show Tryz.prog.elem 113 = 87 by kernel_rfl]; exact Tryz.underlying113
theorem dig_to (B : Option Addr) (m d j : Nat) (hj : j ≤ d) (V : Value) (h : sliced B 0 j d DigE.size = V) (wx : World) : (Instr.slice 113 (.slice B m d) none (some (.int .i64 (j : Int))) none).run Tryz.prog wx = .ok V wx := by
  rw [run_slice_h (P := Tryz.prog) (w := wx) (t := 113) (a := B) (len := m) (cap := d) (ht := und_dig) (kh := .i64) (h := (j : Int)) (h0 := by omega) (h2 := by omega), show Tryz.prog.elem 113 = 87 by kernel_rfl, Tryz.sizeOf87]
  show Result.ok (sliced B 0 ((j : Int)).toNat d 1) wx = _
  rw [Int.toNat_natCast, ← h]; rfl

def CutPost (w : World) (x m : Nat) (e : Ending) (w' : World) : Prop := ∃ v, e = .returned v ∧ NatAt w v x m ∧ w' = w
set_option maxHeartbeats 800000 in
theorem cut_any (A : Option Addr) (n c : Nat) (l : List Nat) (w : World) (h : ElemsAt DigE w A n c l) (hd : Dig l) (hc : c ≤ 1000000) (ht : TypA w A) :
    Calls Tryz.prog 98 #[.slice A n c] w (CutPost w (valD l) n) := by
  have hcc := h.2.1
  have HD := Lib.hid hd; clear hd
  have HTY := Lib.hid ht; clear ht
  have HN := Lib.hid h.1
  have HH := Lib.hid h; clear h
  go_enter Tryz.func98, Tryz.ntmps98
  go_wp2_with fail
  go_loopg [0] n (fun gk v wr => ∃ (B : Option Addr) (k : Nat), k ≤ gk ∧ k ≤ n ∧ v = .slice B k c ∧ Hid (ElemsAt DigE w B k c (l.take k)) ∧ Hid (valD (l.take k) = valD l) ∧ Hid (TypA w B) ∧ w = wr)
  case atStart => exact ⟨A, n, Nat.le_refl _, Nat.le_refl _, rfl, show ElemsAt DigE w A n c (l.take n) by rw [List.take_of_length_le (by have := HN.out; omega)]; exact HH.out, show _ = _ by rw [List.take_of_length_le (by have := HN.out; omega)], HTY, rfl⟩
  case round =>
    obtain ⟨B, k, hkg, hkn, rfl, HE, HV, HB, rfl⟩ := hrel
    have HKG := Lib.hid hkg; clear hkg
    cases k with
    | zero =>
      go_wp2_with fail
      go_ret
      exact ⟨_, rfl, ⟨B, 0, c, [], rfl, hc, HE.out, fun d hd => by simp at hd, .inl rfl, HV.out, by simp, HB.out⟩, rfl⟩
    | succ k =>
      obtain ⟨g, off, hB, hg, hcell⟩ := HE.out.dig (by omega)
      have hck := hcell k (by omega)
      have hgd : (l.take (k + 1)).getD k 0 = l.getD k 0 := by simp [List.getD_eq_getElem?_getD]
      rw [hgd] at hck
      subst hB
      obtain ⟨B', hsl0, hpc⟩ := HE.out.piece 0 k (by omega) (by omega)
      rw [List.drop_zero, Nat.sub_zero, Nat.sub_zero, List.take_take, Nat.min_eq_left (by omega)] at hpc
      have hsl := dig_to (some ⟨g, off, none⟩) (k + 1) c k (by omega) _ hsl0
      have HPC := Lib.hid hpc
      have HTB := Lib.hid (HB.out.sliced_ hsl0)
      clear hcell hgd hpc hsl0
      by_cases hz : l.getD k 0 = 0
      · have HVK : Hid (valD (l.take k) = valD l) := by show _ = _; rw [cut_step l k (by have := HN.out; omega) hz]; exact HV.out
        rw [hz] at hck
        go_wp2_with fail
        go_roundg (gk - 1)
        case measure => have := HKG.out; omega
        case rel => exact ⟨B', k, by have := HKG.out; omega, by omega, rfl, HPC.out, HVK.out, HTB, rfl⟩
      · have hle : k + 1 ≤ l.length := by have := HN.out; omega
        have HZ := Lib.hid hz; clear hz hsl HPC
        have HCN : Hid (Canon (l.take (k + 1))) := canon_take hle (.inr (by rw [Nat.add_sub_cancel]; exact HZ.out))
        generalize l.getD k 0 = dg at *
        have hq : ((dg : Int) == 0) = false := by have := HZ.out; simp; omega
        go_wp2_with fail
        go_ret
        refine ⟨.slice (some ⟨g, off, none⟩) (k + 1) c, rfl, ⟨some ⟨g, off, none⟩, k + 1, c, l.take (k + 1), rfl, hc, HE.out, HD.out.take _, HCN.out, HV.out, hkn, HB.out⟩, rfl⟩

/-- A new row of digits, known whole. -/
def encD (o : List Nat) : Array Value := (o.map fun d => Value.int .u32 ((d : Nat) : Int)).toArray
def DigRow (w : World) (b : Nat) (o : List Nat) : Prop := w.heap[b]? = some (.cells (encD o) 87 (0, 0))
theorem DigRow.lt {w : World} {b : Nat} {o : List Nat} (h : DigRow w b o) : b < w.heap.size := (Array.getElem?_eq_some_iff.1 h).1
theorem DigRow.cell {w : World} {b : Nat} {o : List Nat} (h : DigRow w b o) {j : Nat} (hj : j < o.length) : w.cell? ⟨b, j, none⟩ = some (.int .u32 ((o.getD j 0 : Nat) : Int)) := by
  rw [cell_of_row w b j _ _ _ h]
  simp [encD, hj]
theorem DigRow.frozen {w : World} {b : Nat} {o : List Nat} (h : DigRow w b o) (j : Nat) : w.frozen? ⟨b, j, none⟩ = false := by
  unfold DigRow at h; simp [World.frozen?, h]
theorem DigRow.set {w : World} {b : Nat} {o : List Nat} (h : DigRow w b o) (j d : Nat) (z : Int) (hz : z = d) : DigRow (w.setCell ⟨b, j, none⟩ (.int .u32 z)) b (o.set j d) := by
  unfold DigRow at *
  subst hz
  simp [World.setCell, Array.getElem?_modify, h, encD, List.map_set]
theorem DigRow.drewN {w : World} {b : Nat} {o : List Nat} (h : DigRow w b o) (q : Nat) : DigRow (w.drewN q) b o := h
theorem DigRow.keep {w w' : World} {b : Nat} {o : List Nat} (h : DigRow w b o) (hb : Below w.heap.size w w') : DigRow w' b o := (hb.block b h.lt).trans h
theorem DigRow.at_ {w : World} {b : Nat} {o : List Nat} (h : DigRow w b o) : ElemsAt DigE w (some ⟨b, 0, none⟩) o.length o.length o := by
  refine ⟨rfl, Nat.le_refl _, (fun e => by cases e), fun _ => ⟨b, 0, rfl, h.lt, fun k x i v hk hv => ?_⟩⟩
  have hk2 := (List.getElem?_eq_some_iff.1 hk).1
  have hi : i = 0 := by have := (List.getElem?_eq_some_iff.1 hv).1; simp [DigE] at this; exact this
  subst hi
  have hc := h.cell hk2
  have e : o.getD k 0 = x := by simp [List.getD_eq_getElem?_getD, hk]
  rw [e] at hc
  simp [DigE] at hv
  rw [← hv]
  simpa [DigE] using hc
theorem DigRow.typ {w : World} {b : Nat} {o : List Nat} (h : DigRow w b o) : TypA w (some ⟨b, 0, none⟩) := fun a e => by
  obtain rfl := Option.some.inj e
  exact ⟨_, _, h⟩
theorem encD_made (N : Nat) : madeCells #[Value.int .u32 0] N = encD (List.replicate N 0) := by
  apply Array.ext
  · simp [madeCells, encD]
  · intro i h1 h2
    have : i % 1 = 0 := by omega
    simp [madeCells, encD, this]
theorem digRow_new (w : World) (N : Nat) : DigRow (w.alloc (.cells (madeCells #[.int .u32 0] N) 87)) w.heap.size (List.replicate N 0) := by
  rw [encD_made]; exact heap_alloc_new w _
theorem set_zero (ds : List Nat) (r d : Nat) : (ds ++ List.replicate (r + 1) 0).set ds.length d = (ds ++ [d]) ++ List.replicate r 0 := by
  rw [List.set_append_right _ _ (Nat.le_refl _), Nat.sub_self, List.replicate_succ, List.set_cons_zero, List.append_assoc]; rfl

def NatPost (w : World) (x m : Nat) (e : Ending) (w' : World) : Prop := ∃ v, e = .returned v ∧ NatAt w' v x m ∧ Below w.heap.size w w'
set_option maxHeartbeats 3200000 in
set_option maxRecDepth 100000 in
theorem plus_any (A B : Option Addr) (n c m d : Nat) (x y : List Nat) (w : World) (hx : ElemsAt DigE w A n c x) (hy : ElemsAt DigE w B m d y) (dx : Dig x) (dy : Dig y) (hxl : n ≤ 10000) (hyl : m ≤ 10000) :
    Calls Tryz.prog 66 #[.slice A n c, .slice B m d] w (NatPost w (valD x + valD y) (max n m + 1)) := by
  obtain ⟨i0, hi, hz0, hz1, hz2⟩ := info_parts (show (Tryz.prog.info? 87).map (fun i => (i.zero, i.size, i.bytes)) = some (some (.int .u32 0), 1, 4) by kernel_rfl)
  have HN := Lib.hid hx.1
  have HM := Lib.hid hy.1
  have HX := Lib.hid hx; clear hx
  have HY := Lib.hid hy; clear hy
  have HDX := Lib.hid dx; clear dx
  have HDY := Lib.hid dy; clear dy
  obtain ⟨N, hN⟩ : ∃ N : Nat, N = max n m + 1 := ⟨_, rfl⟩
  have hNb : N ≤ 10001 := by omega
  have hmk := fun wx => run_make wx 113 87 i0 _ Tryz.underlying113 hi hz0 .i64 .i64 (N : Int) (N : Int) (by omega) (by omega) (by rw [hz2]; omega) (by omega)
  rw [← hN]
  have HNN := Lib.hid hN; clear hN
  go_enter Tryz.func66, Tryz.ntmps66
  go_upto_region 1 with (fail)
  go_cut [5] (fun v5 wx => v5 = .slice (some ⟨w.heap.size, 0, none⟩) N N ∧ wx = w.alloc (.cells (madeCells #[.int .u32 0] N) 87))
  case first =>
    by_cases hlt : n < m
    · have e1 : (m : Int) + 1 = (N : Int) := by have := HNN.out; omega
      go_wp2_with fail
      go_meet
      exact ⟨by simp, by simp⟩
    · have e1 : (n : Int) + 1 = (N : Int) := by have := HNN.out; omega
      go_wp2_with fail
      go_meet
      exact ⟨by simp, by simp⟩
  case rest =>
    obtain ⟨rfl, rfl⟩ := hcut
    clear hmk
    have hR0 := digRow_new w N
    have hB0 : Below w.heap.size w (w.alloc (.cells (madeCells #[.int .u32 0] N) 87)) := (Below.refl _ _).alloc (Nat.le_refl _) _
    generalize w.alloc (.cells (madeCells #[.int .u32 0] N) 87) = w1 at *
    have HR0 := Lib.hid hR0; clear hR0
    go_wp2_with fail
    go_loopg [6, 18] N (fun gk v6 v18 wr => ∃ (ds : List Nat) (c r : Nat), Hid (ds.length + gk = N) ∧ Hid (gk = r) ∧ v18 = .int .i64 ds.length ∧ v6 = .int .u64 c ∧ c ≤ 2 ∧ Hid (Dig ds) ∧ Hid (valD ds + powB ds.length * c = valD (x.take ds.length) + valD (y.take ds.length)) ∧ Hid (DigRow wr w.heap.size (ds ++ List.replicate r 0)) ∧ Below w.heap.size w wr)
    case atStart => exact ⟨[], 0, N, show [].length + N = N by simp, rfl, rfl, rfl, by omega, fun d hd => by simp at hd, show _ = _ by simp [valD], HR0, hB0⟩
    case round =>
      obtain ⟨ds, cy, r, HK, HR, rfl, rfl, hcy, HDS, HV, HRW, hb⟩ := hrel
      clear HR0 hB0
      obtain ⟨i, hi0⟩ : ∃ i, i = ds.length := ⟨_, rfl⟩
      have HI := Lib.hid hi0
      rw [← hi0]
      clear hi0
      have hin : i ≤ N := by have := HK.out; rw [HI.out]; omega
      by_cases hlt : i < N
      · obtain ⟨r', rfl⟩ : ∃ r', r = r' + 1 := ⟨r - 1, by have h1 := HK.out; have h2 := HR.out; have h3 := HI.out; omega⟩
        have HSTEP := Lib.hid (plus_step x y ds cy HV.out)
        rw [← HI.out] at HSTEP
        have hol : i < (ds ++ List.replicate (r' + 1) 0).length := by rw [List.length_append, List.length_replicate, ← HI.out]; omega
        have hcell := HRW.out.cell hol
        have hfz := HRW.out.frozen i
        have HSET : Hid (∀ (d : Nat) (z : Int), z = d → DigRow (wr.setCell ⟨w.heap.size, i, none⟩ (.int .u32 z)) w.heap.size ((ds ++ [d]) ++ List.replicate r' 0)) := fun d z hz => by
          have h := HRW.out.set i d z hz
          rw [HI.out, set_zero] at h
          rw [HI.out]; exact h
        have HBS : Hid (∀ v : Value, Below w.heap.size w (wr.setCell ⟨w.heap.size, i, none⟩ v)) := fun v => hb.setCell (Nat.le_refl _) v
        have hxa := HDX.out.getD i
        have hyb := HDY.out.getD i
        clear hol
        generalize (ds ++ List.replicate (r' + 1) 0).getD i 0 = z0 at *
        have HDN : Hid (∀ D, D < 4294967296 → Dig (ds ++ [D])) := fun D hD => HDS.out.snoc hD
        have HLEN : Hid (∀ D : Nat, ((ds ++ [D]).length : Nat) = i + 1) := fun D => by rw [List.length_append, ← HI.out]; rfl
        have HEND : Hid (∀ (D C : Nat), valD (ds ++ [D]) + powB (i + 1) * C = valD (x.take (i + 1)) + valD (y.take (i + 1)) → valD (ds ++ [D]) + powB (ds ++ [D]).length * C = valD (x.take (ds ++ [D]).length) + valD (y.take (ds ++ [D]).length)) := fun D C h => by rw [HLEN.out D]; exact h
        by_cases h1 : i < n
        · obtain ⟨gx, ox, rfl, hgx, hcx⟩ := HX.out.dig (by omega)
          have c1 := (hb.cell (p := ⟨gx, ox + i, none⟩) hgx).trans (hcx i h1)
          clear hcx
          by_cases h2 : i < m
          · obtain ⟨gy, oy, rfl, hgy, hcy2⟩ := HY.out.dig (by omega)
            have c2 := (hb.cell (p := ⟨gy, oy + i, none⟩) hgy).trans (hcy2 i h2)
            clear hcy2
            generalize x.getD i 0 = a at *
            generalize y.getD i 0 = b at *
            go_wp2_with fail
            go_roundg (gk - 1)
            case measure => have := HR.out; omega
            case rel => exact ⟨ds ++ [(cy + a + b) % 4294967296], (cy + a + b) / 4294967296, r', show _ = N by rw [HLEN.out]; have h1 := HK.out; have h2 := HR.out; rw [← HI.out] at h1; omega, show gk - 1 = r' by have := HR.out; omega, by rw [HLEN.out]; go_num, by go_num, by omega, HDN.out _ (by omega), HEND.out _ _ HSTEP.out, HSET.out _ _ (by omega), HBS.out _⟩
          · have hb0 : y.getD i 0 = 0 := by rw [List.getD_eq_getElem?_getD, List.getElem?_eq_none (by have := HM.out; omega)]; rfl
            rw [hb0] at HSTEP
            clear hb0 hyb
            generalize x.getD i 0 = a at *
            go_wp2_with fail
            go_roundg (gk - 1)
            case measure => have := HR.out; omega
            case rel => exact ⟨ds ++ [(cy + a + 0) % 4294967296], (cy + a + 0) / 4294967296, r', show _ = N by rw [HLEN.out]; have h1 := HK.out; have h2 := HR.out; rw [← HI.out] at h1; omega, show gk - 1 = r' by have := HR.out; omega, by rw [HLEN.out]; go_num, by go_num, by omega, HDN.out _ (by omega), HEND.out _ _ HSTEP.out, HSET.out _ _ (by omega), HBS.out _⟩
        · have ha0 : x.getD i 0 = 0 := by rw [List.getD_eq_getElem?_getD, List.getElem?_eq_none (by have := HN.out; omega)]; rfl
          rw [ha0] at HSTEP
          clear ha0 hxa
          by_cases h2 : i < m
          · obtain ⟨gy, oy, rfl, hgy, hcy2⟩ := HY.out.dig (by omega)
            have c2 := (hb.cell (p := ⟨gy, oy + i, none⟩) hgy).trans (hcy2 i h2)
            clear hcy2
            generalize y.getD i 0 = b at *
            go_wp2_with fail
            go_roundg (gk - 1)
            case measure => have := HR.out; omega
            case rel => exact ⟨ds ++ [(cy + 0 + b) % 4294967296], (cy + 0 + b) / 4294967296, r', show _ = N by rw [HLEN.out]; have h1 := HK.out; have h2 := HR.out; rw [← HI.out] at h1; omega, show gk - 1 = r' by have := HR.out; omega, by rw [HLEN.out]; go_num, by go_num, by omega, HDN.out _ (by omega), HEND.out _ _ HSTEP.out, HSET.out _ _ (by omega), HBS.out _⟩
          · have hb0 : y.getD i 0 = 0 := by rw [List.getD_eq_getElem?_getD, List.getElem?_eq_none (by have := HM.out; omega)]; rfl
            rw [hb0] at HSTEP
            clear hb0 hyb
            go_wp2_with fail
            go_roundg (gk - 1)
            case measure => have := HR.out; omega
            case rel => exact ⟨ds ++ [(cy + 0 + 0) % 4294967296], (cy + 0 + 0) / 4294967296, r', show _ = N by rw [HLEN.out]; have h1 := HK.out; have h2 := HR.out; rw [← HI.out] at h1; omega, show gk - 1 = r' by have := HR.out; omega, by rw [HLEN.out]; go_num, by go_num, by omega, HDN.out _ (by omega), HEND.out _ _ HSTEP.out, HSET.out _ _ (by omega), HBS.out _⟩
      · have hr0 : r = 0 := by have h1 := HK.out; have h2 := HR.out; rw [← HI.out] at h1; omega
        subst hr0
        have hiN : ds.length = N := by rw [← HI.out]; omega
        have hat := HRW.out.at_
        simp only [List.replicate_zero, List.append_nil] at hat
        rw [hiN] at hat
        have HAT := Lib.hid hat
        have HVE : Hid (valD ds = valD x + valD y) := plus_end x y ds cy HDX.out HDY.out (by rw [hiN, HNN.out, HN.out, HM.out]) HV.out
        have HDD := Lib.hid HDS.out
        clear hat hiN
        go_wp2_with fail
        refine (cut_any (some ⟨w.heap.size, 0, none⟩) N N ds wr HAT.out HDD.out (by omega) HRW.out.typ).mono ?_
        rintro e w2 ⟨v, rfl, hnat, hw2⟩
        obtain rfl := hw2.symm
        go_wp2_with fail
        go_ret
        exact ⟨v, rfl, by rw [← HVE.out]; exact hnat, hb⟩
theorem plus_q (v u : Value) (x y m k : Nat) (w : World) (hv : NatAt w v x m) (hu : NatAt w u y k) (hm : m ≤ 10000) (hk : k ≤ 10000) :
    Calls Tryz.prog 66 #[v, u] w (NatPost w (x + y) (max m k + 1)) := by
  obtain ⟨A, n, c, l, rfl, h2, h3, h4, h5, rfl, h6, h7⟩ := hv
  obtain ⟨B, n', c', l', rfl, k2, k3, k4, k5, rfl, k6, k7⟩ := hu
  refine (plus_any A B n c n' c' l l' w h3 k3 h4 k4 (by omega) (by omega)).mono ?_
  rintro e w' ⟨v, h, ⟨A', n2, c2, l2, p1, p2, p3, p4, p5, p6, p7, p8⟩, hb⟩
  exact ⟨v, h, ⟨A', n2, c2, l2, p1, p2, p3, p4, p5, p6, by omega, p8⟩, hb⟩

set_option maxHeartbeats 800000 in
theorem newNat_any (n : Nat) (w : World) (hn : n ≤ 1000000) :
    Calls Tryz.prog 68 #[.int .i64 (n : Int)] w (NatPost w n 3) := by
  have e0 : (n : Int) / 4294967296 = 0 := by omega
  go_enter Tryz.func68, Tryz.ntmps68
  go_wp2_with fail
  have hr1 : DigRow ((w.alloc (.cells #[] 87)).alloc (.cells #[.int .u32 (n : Int), .int .u32 0] 87)) (w.heap.size + 1) [n, 0] := by
    have h := heap_alloc_new (w.alloc (.cells #[] 87)) (.cells #[.int .u32 (n : Int), .int .u32 0] 87)
    have e : (w.alloc (.cells #[] 87)).heap.size = w.heap.size + 1 := by simp
    rw [e] at h; exact h
  have hx : ElemsAt DigE ((w.alloc (.cells #[] 87)).alloc (.cells #[.int .u32 (n : Int), .int .u32 0] 87)) (some ⟨w.heap.size, 0, none⟩) 0 0 [] := ⟨rfl, Nat.le_refl _, (fun e => by cases e), fun h => by omega⟩
  have hb : Below w.heap.size w ((w.alloc (.cells #[] 87)).alloc (.cells #[.int .u32 (n : Int), .int .u32 0] 87)) := ((Below.refl _ _).alloc (Nat.le_refl _) _).alloc (by simp) _
  have hv : valD [] + valD [n, 0] = n := by simp [valD]
  refine (plus_any (some ⟨w.heap.size, 0, none⟩) (some ⟨w.heap.size + 1, 0, none⟩) 0 0 2 2 [] [n, 0] _ hx hr1.at_ (fun d hd => by simp at hd) (fun d hd => by simp at hd; omega) (by omega) (by omega)).mono ?_
  rintro e w' ⟨v, rfl, hnat, hb2⟩
  rw [hv] at hnat
  clear e0 hr1 hx hv
  have hb3 := below_trans' hb hb2
  go_wp2_with fail
  go_ret
  exact ⟨v, rfl, hnat, hb3⟩
end Go.Proofs.YtmliaiinfgddhaaGreatDoor
