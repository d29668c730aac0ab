
/-
  What paragraphs returns: a list without repeats.
-/
import Derived.Test.YtmaimojpjepmjaaGreatDoorClos
namespace Go.Proofs.YtmaimojpjepmjaaGreatDoor
open Go.RowKit

def ParasPost (w : World) (e : Ending) (w' : World) : Prop := ∃ A n c ss, e = .returned (.slice A n c) ∧ StrsAt w' A n c ss ∧ ss.Nodup ∧ [] ∉ ss ∧ n ≤ 1001 ∧ Below w.heap.size w w'
theorem costT_snoc (L : List Str) (x : Str) : costT (L ++ [x]) = costT L + (x.length + 1) := by simp [costT]; omega
theorem costQ (l : List Qt) (L : List UInt8) (h : l = apartL L) : costT (l.map fun q => q.2.1) ≤ L.length := by
  rw [h]
  unfold apartL
  rw [apartQ_texts]
  exact Nat.le_trans (costT_strip _) (costT_lines L)
theorem not_one {w : World} {b i : Nat} {v0 v1 : Value} {t : TypeId} (hb : w.heap[b]? = some (.cells #[v0] t (0, 0))) (hc : w.cell? ⟨b, i, none⟩ = some v1) (hne : v0 ≠ v1) : False := by
  rw [cell_of_row w b i _ _ _ hb] at hc
  cases i <;> simp at hc
  exact hne hc
theorem not_map {w : World} {b i : Nat} {v1 : Value} {l : List Str} (hb : SetAt w b l) (hc : w.cell? ⟨b, i, none⟩ = some v1) : False := by
  obtain ⟨es, clock, hm, r⟩ := hb
  simp [World.cell?, hm] at hc
theorem ButP.on {N O Mp : Nat} {v : Value} {a b c : World} (h : ButP N O Mp (.slice none 0 0) a b) (k : ButP N O Mp v b c) (hv : ∀ g, v.ownBlock = some g → a.heap.size ≤ g) : ButP N O Mp (.slice none 0 0) a c :=
  ⟨k.os.trans h.os, k.tape.trans h.tape, k.output.trans h.output, Nat.le_trans h.size k.size, fun i hi h1 h2 h3 h4 => (k.block i (Nat.lt_of_lt_of_le hi h.size) h1 h2 h3 (fun e => by have := hv i e; omega)).trans (h.block i hi h1 h2 h3 h4)⟩
theorem old_blk (w : World) (o : Obj) (i : Nat) (h : i < w.heap.size) : (w.alloc o).heap[i]? = w.heap[i]? := ((Below.refl _ _).alloc (Nat.le_refl _) o).block i h
theorem quot_c {w : World} {b : Nat} {a0 a1 a2 : Value} {t : TypeId} (h : w.heap[b]? = some (.cells #[a0, a1, a2] t (0, 0))) : w.cell? ⟨b, 0, none⟩ = some a0 ∧ w.cell? ⟨b, 1, none⟩ = some a1 ∧ w.cell? ⟨b, 2, none⟩ = some a2 ∧ b < w.heap.size := by
  refine ⟨?_, ?_, ?_, (Array.getElem?_eq_some_iff.1 h).1⟩ <;> (rw [cell_of_row w b _ _ _ _ h]; rfl)
theorem paras_start (w : World) (hM : MaxAt w) : ∀ w4, w4 = ((((w.alloc (Obj.cells #[Value.slice none 0 0] 29)).alloc (Obj.cells #[Value.slice none 0 0] 29)).alloc (Obj.map #[] 0)).alloc (Obj.cells #[Value.map (some (w.heap.size + 1 + 1))] 67)) →
    ParSt w4 w4.heap.size (w.heap.size + 1) (w.heap.size + 1 + 1 + 1) w.heap.size (w.heap.size + 1 + 1) (.slice none 0 0) [] (.slice none 0 0) [] ∧ Below w.heap.size w w4 ∧ w4.heap.size = w.heap.size + 4 := by
  rintro w4 rfl
  have hbel : Below w.heap.size w ((((w.alloc (Obj.cells #[Value.slice none 0 0] 29)).alloc (Obj.cells #[Value.slice none 0 0] 29)).alloc (Obj.map #[] 0)).alloc (Obj.cells #[Value.map (some (w.heap.size + 1 + 1))] 67)) :=
    ((((Below.refl _ _).alloc (Nat.le_refl _) _).alloc (by simp) _).alloc (by simp; omega) _).alloc (by simp; omega) _
  refine ⟨⟨?_, ?_, ?_, Owns.nil _ _, Owns.nil _ _, apart_nil _, ?_, hM.below hbel, Nat.le_refl _, by simp⟩, hbel, by simp⟩
  · refine (old_blk _ _ _ (by simp)).trans ((old_blk _ _ _ (by simp)).trans ?_)
    have h := heap_alloc_new (w.alloc (Obj.cells #[Value.slice none 0 0] 29)) (Obj.cells #[Value.slice none 0 0] 29)
    rw [show (w.alloc (Obj.cells #[Value.slice none 0 0] 29)).heap.size = w.heap.size + 1 by simp] at h
    exact h
  · have h := heap_alloc_new (((w.alloc (Obj.cells #[Value.slice none 0 0] 29)).alloc (Obj.cells #[Value.slice none 0 0] 29)).alloc (Obj.map #[] 0)) (Obj.cells #[Value.map (some (w.heap.size + 1 + 1))] 67)
    rw [show (((w.alloc (Obj.cells #[Value.slice none 0 0] 29)).alloc (Obj.cells #[Value.slice none 0 0] 29)).alloc (Obj.map #[] 0)).heap.size = w.heap.size + 1 + 1 + 1 by simp] at h
    exact h
  · refine (old_blk _ _ _ (by simp; omega)).trans ((old_blk _ _ _ (by simp; omega)).trans ((old_blk _ _ _ (by simp)).trans ?_))
    exact heap_alloc_new w (Obj.cells #[Value.slice none 0 0] 29)
  · have h := World.ownsMap_made (H := Unit) ((w.alloc (Obj.cells #[Value.slice none 0 0] 29)).alloc (Obj.cells #[Value.slice none 0 0] 29)) Tryz.prog 9 (plainElem Tryz.prog 4)
    have e : ((w.alloc (Obj.cells #[Value.slice none 0 0] 29)).alloc (Obj.cells #[Value.slice none 0 0] 29)).heap.size = w.heap.size + 1 + 1 := by simp
    rw [e] at h
    exact World.ownsMap.alloc h _
theorem ParSt.base {w : World} {B B' N S O Mp : Nat} (h : ParSt w B N S O Mp (.slice none 0 0) [] (.slice none 0 0) []) (hb : B' ≤ w.heap.size) : ParSt w B' N S O Mp (.slice none 0 0) [] (.slice none 0 0) [] :=
  ⟨h.now, h.seen, h.out, Owns.nil _ _, Owns.nil _ _, h.ap, h.map, h.max, hb, h.good⟩
theorem ParSt.more {w w5 : World} {B N S O Mp : Nat} {nv ov v5 : Value} {l ss l5 : List Str} {o : Obj} (h : ParSt w B N S O Mp nv l ov ss) (hd : DisP B N S O Mp) (ho : Owns StrE w5 B v5 l5) (hg : (w.alloc o).grownBy w5 nv.ownBlock) (hv : v5.ownBlock = nv.ownBlock ∨ v5.ownBlock = some (w.alloc o).heap.size) :
    w5.heap[N]? = some (.cells #[nv] 29 (0, 0)) ∧ ParSt (w5.setCell ⟨N, 0, none⟩ v5) B N S O Mp v5 l5 ov ss ∧ ButP N O Mp nv w (w5.setCell ⟨N, 0, none⟩ v5) := by
  have hga := grown_alloc (World.grownBy.refl w none) o
  have hgg : w.grownBy w5 nv.ownBlock := grown_trans ⟨hga.os, hga.tape, hga.output, hga.size, fun i hi _ => hga.block i hi (fun e => by cases e)⟩ hg
  have gs := grown_setCell w5 N 0 v5
  have hnv : ∀ g, nv.ownBlock = some g → B ≤ g := fun g e => (h.nown.lt g e).1
  have hbg := h.big
  have hdn := hd.n
  have hds := hd.s
  have hdo := hd.o
  have hdm := hd.m
  have hsz := hgg.size
  have hN : w5.heap[N]? = some (.cells #[nv] 29 (0, 0)) := (hgg.block N (by omega) (fun e => by have := hnv _ e.symm; omega)).trans h.now
  refine ⟨hN, ⟨one_set hN _, ?_, ?_, ho.kept_ gs (fun i e => by have := Option.some.inj e; omega), ?_, ApartV.grow h.ap h.oown hv, ?_, ?_, by have := gs.size; omega, h.good⟩, ?_⟩
  · exact (gs.block S (by omega) (fun e => hd.ns (Option.some.inj e).symm)).trans ((hgg.block S (by omega) (fun e => by have := hnv _ e.symm; omega)).trans h.seen)
  · exact (gs.block O (by omega) (fun e => hd.no (Option.some.inj e).symm)).trans ((hgg.block O (by omega) (fun e => by have := hnv _ e.symm; omega)).trans h.out)
  · exact (Owns.apart h.ap h.oown hg).kept_ gs (fun i e => by have := Option.some.inj e; omega)
  · exact World.ownsMap.kept (World.ownsMap.kept h.map hgg (fun e => by have := hnv _ e.symm; omega)) gs (fun e => hd.nm (Option.some.inj e).symm)
  · obtain ⟨q, hq⟩ := h.max
    have h5 : MaxAt w5 := ⟨q, (World.cell?_of_block (hgg.block _ (World.block_lt_of_cell? w _ hq) (fun e => by have := hnv _ e.symm; have := hd.gn; simp at *; omega))).trans hq⟩
    exact h5.keep hd.gn gs
  · exact (ButP.of_grown hgg (fun g e => .inr (.inr (.inr e)))).trans (ButP.of_grown gs (fun g e => .inl (Option.some.inj e).symm))
set_option maxHeartbeats 6400000 in
set_option maxRecDepth 100000 in
theorem paras_any (s : ByteArray) (w : World) (h : BodyOk s w) :
    Calls Tryz.prog 33 #[.string s] w (ParasPost w) := by
  have HAP := Lib.hid (fun wx (hx : BodyOk s wx) => apart_any s wx hx.size hx.max hx.endd)
  have hab := apartL_bound s.data.toList (by have := h.size; simpa using this)
  have HCO : Hid (costT ((apartL s.data.toList).map fun q => q.2.1) ≤ 1000) := Nat.le_trans (costQ _ _ rfl) (by have := h.size; simpa using this)
  have hML : 2 < w.heap.size := by obtain ⟨m, hm⟩ := h.max; exact World.block_lt_of_cell? w _ hm
  have HML := Lib.hid hML
  have HOK := Lib.hid h
  clear h hML
  generalize apartL s.data.toList = L at *
  have HAB := Lib.hid hab
  clear hab
  have hmm := @run_makeMap Tryz.prog
  go_enter Tryz.func33, Tryz.ntmps33
  go_wp2_with fail
  clear hmm
  obtain ⟨hp4, hb4, hz4⟩ := paras_start w HOK.out.max _ rfl
  generalize ((((w.alloc (Obj.cells #[Value.slice none 0 0] 29)).alloc (Obj.cells #[Value.slice none 0 0] 29)).alloc (Obj.map #[] 0)).alloc (Obj.cells #[Value.map (some (w.heap.size + 1 + 1))] 67)) = w4 at *
  refine (HAP.out w4 (HOK.out.below hb4)).mono ?_
  rintro e w2 ⟨A, n, c, rfl, hat, hb2⟩
  have hz2 := hb2.size
  have hd : DisP w2.heap.size (w.heap.size + 1) (w.heap.size + 1 + 1 + 1) w.heap.size (w.heap.size + 1 + 1) := by
    have := HML.out
    constructor <;> omega
  have hd4 : DisP w4.heap.size (w.heap.size + 1) (w.heap.size + 1 + 1 + 1) w.heap.size (w.heap.size + 1 + 1) := by
    have := HML.out
    constructor <;> omega
  have HP2 := Lib.hid ((hp4.below hb2 hd4).base (B' := w2.heap.size) (Nat.le_refl _))
  have HD := Lib.hid hd
  have HB2 := Lib.hid (hb4.trans (hb2.mono hb4.size))
  have HN := Lib.hid hat.1
  have hn1 : n ≤ 1000 := by have := HAB.out.1; have := hat.1; omega
  have HAT := Lib.hid hat
  clear hp4 hb4 hz4 hz2 hd4 hd hb2 hat HAP
  generalize hS : w.heap.size + 1 + 1 + 1 = S at *
  generalize hMp : w.heap.size + 1 + 1 = Mp at *
  generalize hN0 : w.heap.size + 1 = N at *
  have HX : Hid (w.heap.size < N ∧ w.heap.size < Mp) := ⟨by omega, by omega⟩
  clear hS hMp hN0
  obtain ⟨O, hO⟩ : ∃ O, w.heap.size = O := ⟨_, rfl⟩
  have HO0 := Lib.hid hO
  rw [hO] at HP2 HD HX ⊢
  clear hO
  go_wp2_with fail
  go_loopg [6, 15] n (fun gk z i wr => ∃ (k : Nat) (d : Int) (nv ov : Value) (l ss : List Str), Hid (k + gk = n) ∧ i = .int .i64 (k : Int) ∧ z = .int .i64 d ∧ Hid (ParSt wr w2.heap.size N S O Mp nv l ov ss) ∧ Hid (costT l ≤ costT ((L.take k).map fun q => q.2.1)) ∧ Hid (ss.length ≤ k) ∧ Hid (ButP N O Mp (.slice none 0 0) w2 wr))
  case atStart => exact ⟨0, 0, _, _, [], [], show 0 + n = n by omega, rfl, rfl, HP2, Nat.zero_le _, Nat.le_refl _, ButP.of_below (Below.refl _ _)⟩
  case round =>
    obtain ⟨k, d, nv, ov, l, ss, HK, rfl, rfl, HPS, HCL, HSL, HBP⟩ := hrel
    have hkn : k ≤ n := by have := HK.out; omega
    by_cases hlt : k < n
    · obtain ⟨q, hq⟩ : ∃ q, L[k]? = some q := ⟨_, List.getElem?_eq_getElem (by rw [← HN.out]; exact hlt)⟩
      have hqb := HAB.out.2 q (List.mem_of_getElem? hq)
      obtain ⟨g, off, rfl, hg, c0, c1, c2⟩ := HAT.out.q hq
      have g1 : g ≠ N := fun e => not_one HP2.out.now (e ▸ c0) (by simp)
      have g2 : g ≠ O := fun e => not_one HP2.out.out (e ▸ c0) (by simp)
      have g3 : g ≠ Mp := fun e => not_map HP2.out.map (e ▸ c0)
      have hbg := HBP.out.block g hg g1 g2 g3 (by intro e; cases e)
      have d0 := (World.cell?_of_block (a := ⟨g, off + k * 3, none⟩) hbg).trans c0
      have d1 := (World.cell?_of_block (a := ⟨g, off + k * 3 + 1, none⟩) hbg).trans c1
      have d2 := (World.cell?_of_block (a := ⟨g, off + k * 3 + 2, none⟩) hbg).trans c2
      have HT := Lib.hid (take_next hq)
      clear c0 c1 c2 hq hbg g1 g2 g3
      obtain ⟨qd, qt, qb⟩ := q
      simp only at hqb d0 d1 d2
      have HSN : Hid (costT ((L.take (k + 1)).map fun q => q.2.1) = costT ((L.take k).map fun q => q.2.1) + (qt.length + 1)) := by show _ = _; rw [HT.out, List.map_append]; exact costT_snoc _ _
      have hba : Below wr.heap.size wr (wr.alloc (.cells #[.int .i64 (qd : Int), .string ⟨qt.toArray⟩, .bool qb] 76)) := (Below.refl _ _).alloc (Nat.le_refl _) _
      have hblk : (wr.alloc (.cells #[.int .i64 (qd : Int), .string ⟨qt.toArray⟩, .bool qb] 76)).heap[wr.heap.size]? = some (.cells #[.int .i64 (qd : Int), .string ⟨qt.toArray⟩, .bool qb] 76 (0, 0)) := heap_alloc_new wr _
      have HBA := Lib.hid hba
      have HBLK := Lib.hid hblk
      clear hba hblk
      have hx0 : (wr.alloc (.cells #[.int .i64 (qd : Int), .string ⟨qt.toArray⟩, .bool qb] 76)).cell? ⟨wr.heap.size, 1, none⟩ = some (.string ⟨qt.toArray⟩) := by rw [World.cell?_alloc_at _ _ _ _ rfl]; rfl
      go_upto_region 8 with (fail)
      have HPS1 := Lib.hid (HPS.out.below HBA.out HD.out)
      have HBP1 : Hid (ButP N O Mp (.slice none 0 0) w2 _) := HBP.out.trans (ButP.of_below HBA.out)
      generalize wr.alloc (.cells #[.int .i64 (qd : Int), .string ⟨qt.toArray⟩, .bool qb] 76) = wp at *
      have hPB := HPS.out.big
      generalize wr.heap.size = P at *
      have hPn : P ≠ N ∧ P ≠ O ∧ P ≠ Mp := by have := HD.out.n; have := HD.out.o; have := HD.out.m; refine ⟨?_, ?_, ?_⟩ <;> omega
      have HBL := Lib.hid (blank_any (⟨qt.toArray⟩ : ByteArray) wp (by show (bag qt).size ≤ _; rw [bag_size]; omega))
      obtain ⟨bb, hbb⟩ : ∃ bb, blankB (⟨qt.toArray⟩ : ByteArray).data.toList = bb := ⟨_, rfl⟩
      rw [hbb] at HBL
      clear hbb d0 d1 d2 HBA HPS HBP
      go_wp2_with fail
      refine HBL.out.mono ?_
      rintro e w8 ⟨rfl, q8, hw8⟩
      have hb8 : Below wp.heap.size wp w8 := by rw [hw8]; exact below_drewN (Below.refl _ _) q8
      have HPS8 := Lib.hid (HPS1.out.below hb8 HD.out)
      have HBP8 : Hid (ButP N O Mp (.slice none 0 0) w2 w8) := HBP1.out.trans (ButP.of_below hb8)
      have HBLK8 := Lib.hid ((hb8.block P (quot_c HBLK.out).2.2.2).trans HBLK.out)
      clear hw8 hb8 hx0 HBL HPS1 HBP1 HBLK
      obtain ⟨x0, x1, x2, x3⟩ := quot_c HBLK8.out
      have hcl : costT l ≤ 10000 := by
        have h1 := HCL.out
        have h2 := costT_take (L.map fun q => q.2.1) k
        rw [← List.map_take] at h2
        have := HCO.out
        omega
      have hsl : ss.length ≤ 10000 := by have := HSL.out; omega
      have HCA := Lib.hid (clos_any w2.heap.size N S O Mp nv ov l ss w8 HPS8.out HD.out hcl hsl)
      have hPv : ov.ownBlock ≠ some P := HPS8.out.oown.ne_block HBLK8.out (by decide)
      cases bb with
      | true =>
        go_wp2_with fail
        refine HCA.out.mono ?_
        rintro e w9 ⟨rfl, ov9, ss9, hp9, hs9, hbp9⟩
        have HPS9 := Lib.hid hp9
        have HSL9 : Hid (ss9.length ≤ k + 1) := by show _ ≤ _; have := HSL.out; omega
        have HBP9 := Lib.hid (HBP8.out.on hbp9 (fun g e => (HPS8.out.oown.lt g e).1))
        have HBLK9 := Lib.hid ((hbp9.block P x3 hPn.1 hPn.2.1 hPn.2.2 hPv).trans HBLK8.out)
        have HCL9 : Hid (costT ([] : List Str) ≤ costT ((L.take k).map fun q => q.2.1)) := Nat.zero_le _
        have hcl9 : costT ([] : List Str) ≤ 10000 := Nat.zero_le _
        clear hp9 hs9 hbp9 x0 x1 x2 x3 HCA hcl hPv HPS8 HBP8 HBLK8
        obtain ⟨n0, n1, n2⟩ := one_c HPS9.out.now
        obtain ⟨x0, x1, x2, x3⟩ := quot_c HBLK9.out
        have hl9 : ([] : List Str).length ≤ 10000 := Nat.le_trans (Nat.le_add_left _ _) hcl9
        cases qb with
        | true =>
          go_wp2_with fail
          go_roundg (gk - 1)
          case measure => have := HK.out; omega
          case rel => exact ⟨k + 1, (qd : Int), (.slice none 0 0), ov9, [], ss9, show k + 1 + (gk - 1) = n by have := HK.out; omega, by go_num, rfl, HPS9, by show _ ≤ _; rw [HSN.out]; have := HCL9.out; omega, HSL9, HBP9⟩
        | false =>
          go_wp2_with (at_builtin; refine append_elems strE_ok rfl _ _ rfl w2.heap.size ((.slice none 0 0)) ([]) rfl (World.ownsRow.alloc HPS9.out.nown _) (some ⟨w9.heap.size, 0, none⟩) 1 1 [qt] rfl (one_elem (E := StrE) w9 qt) (by simp only [List.length_singleton]; omega) (by have h2 := HPS9.out.big; simp; omega) ?_; intro v5 w5 hown5 hgrow5 hv5; have hm5 := HPS9.out.more (o := .cells #[.string ⟨qt.toArray⟩] 9) HD.out hown5 hgrow5 hv5; have HM5 := Lib.hid hm5; have hat5 := hown5.at_ strE_ok; clear hown5 hgrow5 hv5; obtain ⟨n0, n1, n2⟩ := one_c hm5.1; clear hm5; obtain ⟨A5, c5, rfl, hc5, hat5', hG5'⟩ := hat5; clear hc5 hat5' hG5')
          go_roundg (gk - 1)
          case measure => have := HK.out; omega
          case rel => exact ⟨k + 1, (qd : Int), _, ov9, _, ss9, show k + 1 + (gk - 1) = n by have := HK.out; omega, by go_num, rfl, HM5.out.2.1, by show _ ≤ _; rw [HSN.out, costT_snoc]; have := HCL9.out; omega, HSL9, HBP9.out.on HM5.out.2.2 (fun g e => (HPS9.out.nown.lt g e).1)⟩
      | false =>
        cases qb with
        | true =>
          go_wp2_with fail
          refine HCA.out.mono ?_
          rintro e w9 ⟨rfl, ov9, ss9, hp9, hs9, hbp9⟩
          have HPS9 := Lib.hid hp9
          have HSL9 : Hid (ss9.length ≤ k + 1) := by show _ ≤ _; have := HSL.out; omega
          have HBP9 := Lib.hid (HBP8.out.on hbp9 (fun g e => (HPS8.out.oown.lt g e).1))
          have HBLK9 := Lib.hid ((hbp9.block P x3 hPn.1 hPn.2.1 hPn.2.2 hPv).trans HBLK8.out)
          have HCL9 : Hid (costT ([] : List Str) ≤ costT ((L.take k).map fun q => q.2.1)) := Nat.zero_le _
          have hcl9 : costT ([] : List Str) ≤ 10000 := Nat.zero_le _
          clear hp9 hs9 hbp9 x0 x1 x2 x3 HCA hcl hPv HPS8 HBP8 HBLK8
          obtain ⟨n0, n1, n2⟩ := one_c HPS9.out.now
          obtain ⟨x0, x1, x2, x3⟩ := quot_c HBLK9.out
          have hl9 : ([] : List Str).length ≤ 10000 := Nat.le_trans (Nat.le_add_left _ _) hcl9
          go_wp2_with fail
          go_roundg (gk - 1)
          case measure => have := HK.out; omega
          case rel => exact ⟨k + 1, (qd : Int), (.slice none 0 0), ov9, [], ss9, show k + 1 + (gk - 1) = n by have := HK.out; omega, by go_num, rfl, HPS9, by show _ ≤ _; rw [HSN.out]; have := HCL9.out; omega, HSL9, HBP9⟩
        | false =>
          by_cases hqd : (qd : Int) = d
          · subst hqd
            clear HCA
            go_upto_region 10 with (fail)
            have HPS9 := HPS8
            have HSL9 : Hid (ss.length ≤ k + 1) := by show _ ≤ _; have := HSL.out; omega
            have HBP9 := HBP8
            have HBLK9 := HBLK8
            have HCL9 := HCL
            have hcl9 := hcl
            clear x0 x1 x2 x3 hPv HPS8 HBP8 HBLK8 HCL
            generalize w8 = w9 at *
            generalize ov = ov9 at *
            generalize ss = ss9 at *
            obtain ⟨n0, n1, n2⟩ := one_c HPS9.out.now
            obtain ⟨x0, x1, x2, x3⟩ := quot_c HBLK9.out
            have hl9 : (l : List Str).length ≤ 10000 := Nat.le_trans (Nat.le_add_left _ _) hcl9
            go_wp2_with (at_builtin; refine append_elems strE_ok rfl _ _ rfl w2.heap.size (nv) (l) rfl (World.ownsRow.alloc HPS9.out.nown _) (some ⟨w9.heap.size, 0, none⟩) 1 1 [qt] rfl (one_elem (E := StrE) w9 qt) (by simp only [List.length_singleton]; omega) (by have h2 := HPS9.out.big; simp; omega) ?_; intro v5 w5 hown5 hgrow5 hv5; have hm5 := HPS9.out.more (o := .cells #[.string ⟨qt.toArray⟩] 9) HD.out hown5 hgrow5 hv5; have HM5 := Lib.hid hm5; have hat5 := hown5.at_ strE_ok; rw [show (l ++ [qt]).length = l.length + 1 by simp] at hat5; clear hown5 hgrow5 hv5; obtain ⟨n0, n1, n2⟩ := one_c hm5.1; clear hm5; obtain ⟨A5, c5, rfl, hc5, hat5', hG5'⟩ := hat5; clear hc5 hat5' hG5')
            go_roundg (gk - 1)
            case measure => have := HK.out; omega
            case rel => exact ⟨k + 1, (qd : Int), _, ov9, l ++ [qt], ss9, show k + 1 + (gk - 1) = n by have := HK.out; omega, by go_num, rfl, HM5.out.2.1, by show _ ≤ _; rw [HSN.out, costT_snoc]; have := HCL9.out; omega, HSL9, HBP9.out.on HM5.out.2.2 (fun g e => (HPS9.out.nown.lt g e).1)⟩
          · have hne : ((qd : Int) == d) = false := by simpa using hqd
            go_wp2_with fail
            refine HCA.out.mono ?_
            rintro e w9 ⟨rfl, ov9, ss9, hp9, hs9, hbp9⟩
            have HPS9 := Lib.hid hp9
            have HSL9 : Hid (ss9.length ≤ k + 1) := by show _ ≤ _; have := HSL.out; omega
            have HBP9 := Lib.hid (HBP8.out.on hbp9 (fun g e => (HPS8.out.oown.lt g e).1))
            have HBLK9 := Lib.hid ((hbp9.block P x3 hPn.1 hPn.2.1 hPn.2.2 hPv).trans HBLK8.out)
            have HCL9 : Hid (costT ([] : List Str) ≤ costT ((L.take k).map fun q => q.2.1)) := Nat.zero_le _
            have hcl9 : costT ([] : List Str) ≤ 10000 := Nat.zero_le _
            clear hp9 hs9 hbp9 x0 x1 x2 x3 HCA hcl hPv HPS8 HBP8 HBLK8
            obtain ⟨n0, n1, n2⟩ := one_c HPS9.out.now
            obtain ⟨x0, x1, x2, x3⟩ := quot_c HBLK9.out
            have hl9 : ([] : List Str).length ≤ 10000 := Nat.le_trans (Nat.le_add_left _ _) hcl9
            go_wp2_with (at_builtin; refine append_elems strE_ok rfl _ _ rfl w2.heap.size ((.slice none 0 0)) ([]) rfl (World.ownsRow.alloc HPS9.out.nown _) (some ⟨w9.heap.size, 0, none⟩) 1 1 [qt] rfl (one_elem (E := StrE) w9 qt) (by simp only [List.length_singleton]; omega) (by have h2 := HPS9.out.big; simp; omega) ?_; intro v5 w5 hown5 hgrow5 hv5; have hm5 := HPS9.out.more (o := .cells #[.string ⟨qt.toArray⟩] 9) HD.out hown5 hgrow5 hv5; have HM5 := Lib.hid hm5; have hat5 := hown5.at_ strE_ok; clear hown5 hgrow5 hv5; obtain ⟨n0, n1, n2⟩ := one_c hm5.1; clear hm5; obtain ⟨A5, c5, rfl, hc5, hat5', hG5'⟩ := hat5; clear hc5 hat5' hG5')
            go_roundg (gk - 1)
            case measure => have := HK.out; omega
            case rel => exact ⟨k + 1, (qd : Int), _, ov9, _, ss9, show k + 1 + (gk - 1) = n by have := HK.out; omega, by go_num, rfl, HM5.out.2.1, by show _ ≤ _; rw [HSN.out, costT_snoc]; have := HCL9.out; omega, HSL9, HBP9.out.on HM5.out.2.2 (fun g e => (HPS9.out.nown.lt g e).1)⟩
    · have hnk : ¬ (k : Int) < (n : Int) := by omega
      have hcl : costT l ≤ 10000 := by
        have h1 := HCL.out
        have h2 := costT_take (L.map fun q => q.2.1) k
        rw [← List.map_take] at h2
        have := HCO.out
        omega
      have hsl : ss.length ≤ 10000 := by have := HSL.out; omega
      have HCA := Lib.hid (clos_any w2.heap.size N S O Mp nv ov l ss wr HPS.out HD.out hcl hsl)
      have hov : ∀ g, ov.ownBlock = some g → w2.heap.size ≤ g := fun g e => (HPS.out.oown.lt g e).1
      have HOV := Lib.hid hov
      clear hov hlt hcl HAT
      go_wp2_with fail
      refine HCA.out.mono ?_
      rintro e w9 ⟨rfl, ov9, ss9, hp9, hs9, hbp9⟩
      have HBP9 := Lib.hid (HBP.out.on hbp9 HOV.out)
      have hs10 : ss9.length ≤ 1001 := by have := HSL.out; omega
      obtain ⟨o0, o1, o2⟩ := one_c hp9.out
      obtain ⟨A7, c7, rfl, hc7, hat7, _⟩ := hp9.oown.at_ strE_ok
      have HG9 := Lib.hid hp9.good
      have HAT7 := Lib.hid hat7
      clear hp9 hs9 hbp9 hat7 HCA
      go_wp2_with fail
      go_ret
      refine ⟨A7, _, c7, ss9, rfl, HAT7.out, HG9.out.1, HG9.out.2, hs10, ?_⟩
      have hb := HBP9.out
      have hb2 := HB2.out
      have hO := HO0.out
      have hx := HX.out
      have hz := hb2.size
      exact ⟨hb.os.trans hb2.os, hb.tape.trans hb2.tape, hb.output.trans hb2.output, Nat.le_trans hz hb.size, fun i hi => (hb.block i (by omega) (by omega) (by omega) (by omega) (by intro e; cases e)).trans (hb2.block i hi)⟩
end Go.Proofs.YtmaimojpjepmjaaGreatDoor
