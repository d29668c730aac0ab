
/-
  byId, above and placed at right items.
-/
import Derived.Test.YtombeeeiignckaaGreatDoorChkItem
import Derived.Test.YtombeeeiignckaaGreatDoorIMap
import Derived.Test.YtombeeeiignckaaGreatDoorFamPlain
namespace Go.Proofs.YtombeeeiignckaaGreatDoor
open Go.RowKit Go.Maps

/-- Items that stay: right, each with another id. -/
structure SetI (l : List Itm) : Prop where
  ok : ItemsOk l
  nodup : (l.map Itm.id).Nodup
  few : l.length ≤ 2000
theorem SetI.find {l : List Itm} (h : SetI l) {i j : Nat} {x y : Itm} (hx : l[i]? = some x) (hy : l[j]? = some y) (e : x.id = y.id) : i = j := by
  obtain ⟨hi, rfl⟩ := List.getElem?_eq_some_iff.1 hx
  obtain ⟨hj, rfl⟩ := List.getElem?_eq_some_iff.1 hy
  have hp := List.pairwise_iff_getElem.1 h.nodup
  rcases Nat.lt_trichotomy i j with h1 | h1 | h1
  · exact (hp i j (by simpa using hi) (by simpa using hj) h1 (by rw [List.getElem_map, List.getElem_map]; exact e)).elim
  · exact h1
  · exact (hp j i (by simpa using hj) (by simpa using hi) h1 (by rw [List.getElem_map, List.getElem_map]; exact e.symm)).elim
theorem SetI.id_ne {l : List Itm} (h : SetI l) {x : Itm} (hx : x ∈ l) : x.id.data.toList ≠ [] := fun e => by
  have := (h.ok.each x hx).id
  rw [e] at this
  cases this
theorem SetI.findEmpty {l : List Itm} (h : SetI l) {p : ByteArray} (hp : p.data.toList = []) : findI l p = none := by
  unfold findI
  rw [List.findIdx?_eq_none_iff]
  intro x hx
  have : x.id ≠ p := fun e => h.id_ne hx (by rw [e]; exact hp)
  simpa using this
theorem chain_done {l : List Itm} {i j m f : Nat} (hu : upI l m i = some j) (hp : parI l j = none) (hm : m < f) : (chainI l f i).length = m := by
  have h1 : (chainI l f i).length ≤ m := by
    have := chain_get (l := l) f m i hm
    rw [upI, hu] at this
    rw [show (some j).bind (parI l) = none from hp] at this
    exact List.getElem?_eq_none_iff.1 this
  rcases Nat.eq_zero_or_pos m with h0 | h0
  · omega
  · have := chain_get (l := l) f (m - 1) i (by omega)
    rw [show m - 1 + 1 = m by omega, hu] at this
    have := (List.getElem?_eq_some_iff.1 this).1
    omega
theorem chain_ge {l : List Itm} {i j m f : Nat} (hu : upI l m i = some j) (hm : m ≤ f) : m ≤ (chainI l f i).length := by
  rcases Nat.eq_zero_or_pos m with h0 | h0
  · omega
  · have := chain_get (l := l) f (m - 1) i (by omega)
    rw [show m - 1 + 1 = m by omega, hu] at this
    have := (List.getElem?_eq_some_iff.1 this).1
    omega
def ByIdPost (w : World) (l : List Itm) (e : Ending) (w' : World) : Prop := ∃ M, e = .returned (.map (some M)) ∧ w.heap.size ≤ M ∧ IMapAt w' M l ∧ Below w.heap.size w w'
set_option maxHeartbeats 1600000 in
set_option maxRecDepth 100000 in
theorem byId_any (A : Option Addr) (n c : Nat) (l : List Itm) (w : World) (h : ItemsAt w A n c l) (hl : SetI l) :
    Calls Tryz.prog 41 #[.slice A n c] w (ByIdPost w l) := by
  have HN := Lib.hid h.1
  have HH := Lib.hid h
  have HL := Lib.hid hl
  have hn : n ≤ 2000 := by have := hl.few; have := h.1; omega
  have hmm := @run_makeMap Tryz.prog
  have h00 : Below w.heap.size w (w.alloc (.map #[] 0)) := (Below.refl _ _).alloc (Nat.le_refl _) _
  have HM0 := Lib.hid (IMapAt.start w)
  clear h hl
  go_enter Tryz.func41, Tryz.ntmps41
  go_wp2_with fail
  go_loopg [9] n (fun gk v wr => ∃ k : Nat, Hid (k + gk = n) ∧ v = .int .i64 (k : Int) ∧ Hid (IMapAt wr w.heap.size (l.take k)) ∧ Hid (Below w.heap.size w wr))
  case atStart => exact ⟨0, show 0 + n = n by omega, rfl, HM0.out, h00⟩
  case round =>
    obtain ⟨k, HK, rfl, HM, HB⟩ := hrel
    clear h00 HM0
    have hkn : k ≤ n := by have := HK.out; omega
    by_cases hlt : k < n
    · have HGK := Lib.hid (show k + 1 + (gk - 1) = n ∧ 0 < gk by have := HK.out; omega)
      obtain ⟨g, off, rfl, hg, hc⟩ := (ElemsAt.keep HH.out HB.out).item (by omega)
      have hkl : k < l.length := by have := HN.out; omega
      obtain ⟨x, hx⟩ : ∃ x, l[k]? = some x := ⟨_, List.getElem?_eq_getElem hkl⟩
      obtain ⟨c0, c1, c2, c3, c4, c5, c6⟩ := hc k x hx
      have HTK : Hid (l.take (k + 1) = l.take k ++ [x]) := by show _ = _; obtain ⟨h1, h2⟩ := List.getElem?_eq_some_iff.1 hx; rw [List.take_succ_eq_append_getElem h1, h2]
      have HNEW : Hid (x.id ∉ (l.take k).map Itm.id) := by
        show ¬ _
        intro hm
        obtain ⟨y, hy, he⟩ := List.mem_map.1 hm
        obtain ⟨i, hi, rfl⟩ := List.mem_take_iff_getElem.1 hy
        have := HL.out.find (i := i) (j := k) (List.getElem?_eq_getElem (by omega)) hx he
        omega
      have hkey := keyS_mk x.id (by have := ((HL.out.ok.each x (List.mem_of_getElem? hx)).small).1; exact this)
      have HKEY := Lib.hid hkey
      have hlen : (l.take k).length = k := by rw [List.length_take]; omega
      have HLEN := Lib.hid hlen
      have hb1 : Below wr.heap.size wr (wr.alloc (.cells #[.string x.id, .string x.cu, .int .i64 x.kind, .string x.name, .int .i64 x.at_, .string x.par, .string x.text] 42)) := (Below.refl _ _).alloc (Nat.le_refl _) _
      have HI1 : Hid (ItemAt (wr.alloc (.cells #[.string x.id, .string x.cu, .int .i64 x.kind, .string x.name, .int .i64 x.at_, .string x.par, .string x.text] 42)) wr.heap.size x) := item_new wr x
      have HB1 := Lib.hid (HB.out.trans (hb1.mono HB.out.size))
      have HM1 := Lib.hid (HM.out.below hb1)
      clear hc hx hkl HK hb1 hkey hlen
      go_upto_region 5 with (fail)
      obtain ⟨P, hP⟩ : ∃ P, P = wr.heap.size := ⟨_, rfl⟩
      rw [← hP] at HI1 ⊢
      generalize wr.alloc (.cells #[.string x.id, .string x.cu, .int .i64 x.kind, .string x.name, .int .i64 x.at_, .string x.par, .string x.text] 42) = w1 at *
      clear hP c0 c1 c2 c3 c4 c5 c6
      obtain ⟨c0, c1, c2, c3, c4, c5, c6⟩ := HI1.out.c
      obtain ⟨D, hD⟩ := HM1.out.ex
      have HD := Lib.hid hD
      clear hD
      go_wp2_with (at_mapUpdate; refine wpList_mapUpdate_own _ rfl _ _ _ 52 rfl 9 42 keyS Tryz.underlying52 _ w.heap.size (l.take k).length D rfl HD.out.1 (by rw [HLEN.out]; simp only [maxLen]; omega) _ _ (.string x.id.data.toList) rfl rfl HKEY.out (.held x.v) [] rfl ?_; intro w5 hown5 hgrow5)
      have HM5 : Hid (IMapAt w5 w.heap.size (l.take (k + 1))) := by show IMapAt _ _ _; rw [HTK.out]; exact IMapAt.put x HNEW.out HD.out.1 HD.out.2.1 HD.out.2.2.1 HD.out.2.2.2 hown5
      have HB5 : Hid (Below w.heap.size w w5) := HB1.out.grown hgrow5 HB1.out.size (fun i e => by have := Option.some.inj e; omega)
      clear hown5 hgrow5
      go_roundg (gk - 1)
      case measure => exact Nat.sub_lt HGK.out.2 Nat.one_pos
      case rel => exact ⟨k + 1, HGK.out.1, by go_num, HM5.out, HB5.out⟩
    · have hnk : ¬ (k : Int) < (n : Int) := by omega
      have hta : l.take k = l := List.take_of_length_le (by have := HN.out; omega)
      rw [hta] at HM
      clear hta
      go_wp2_with fail
      go_ret
      exact ⟨_, rfl, Nat.le_refl _, HM.out, HB.out⟩
theorem IMapAt.hit {w : World} {M q : Nat} {l : List Itm} {z : Itm} {id : ByteArray} (h : IMapAt w M l) (hid : id.size ≤ 1000000) (hf : findI l id = some q) (hz : l[q]? = some z) :
    (Instr.lookup 52 (.map (some M)) (.string id) true).run Tryz.prog w = .ok (.tuple #[.agg #[.string z.id, .string z.cu, .int .i64 z.kind, .string z.name, .int .i64 z.at_, .string z.par, .string z.text], .bool true]) w := by
  have := h.look2 id hid 0
  rw [valI_some hf hz, hf] at this
  exact this
theorem IMapAt.miss {w : World} {M : Nat} {l : List Itm} {id : ByteArray} (h : IMapAt w M l) (hid : id.size ≤ 1000000) (hf : findI l id = none) :
    (Instr.lookup 52 (.map (some M)) (.string id) true).run Tryz.prog w = .ok (.tuple #[.agg #[.string ⟨#[]⟩, .string ⟨#[]⟩, .int .i64 0, .string ⟨#[]⟩, .int .i64 0, .string ⟨#[]⟩, .string ⟨#[]⟩], .bool false]) w := by
  have := h.look2 id hid 0
  rw [valI_none hf, hf] at this
  exact this
theorem ItemAt.setAll {w : World} {P : Nat} {y z : Itm} (h : ItemAt w P y) : ItemAt (((((((w.setCell ⟨P, 0, none⟩ (.string z.id)).setCell ⟨P, 1, none⟩ (.string z.cu)).setCell ⟨P, 2, none⟩ (.int .i64 z.kind)).setCell ⟨P, 3, none⟩ (.string z.name)).setCell ⟨P, 4, none⟩ (.int .i64 z.at_)).setCell ⟨P, 5, none⟩ (.string z.par)).setCell ⟨P, 6, none⟩ (.string z.text)) P z :=
  ((((((h.setId z.id).setCu z.cu).setKind z.kind).setName z.name).setAt z.at_).setPar z.par).setText z.text
theorem grown_setAll (w : World) (P : Nat) (z : Itm) : w.grownBy (((((((w.setCell ⟨P, 0, none⟩ (.string z.id)).setCell ⟨P, 1, none⟩ (.string z.cu)).setCell ⟨P, 2, none⟩ (.int .i64 z.kind)).setCell ⟨P, 3, none⟩ (.string z.name)).setCell ⟨P, 4, none⟩ (.int .i64 z.at_)).setCell ⟨P, 5, none⟩ (.string z.par)).setCell ⟨P, 6, none⟩ (.string z.text)) (some P) :=
  grown_trans (grown_trans (grown_trans (grown_trans (grown_trans (grown_trans (grown_setCell w P 0 _) (grown_setCell _ P 1 _)) (grown_setCell _ P 2 _)) (grown_setCell _ P 3 _)) (grown_setCell _ P 4 _)) (grown_setCell _ P 5 _)) (grown_setCell _ P 6 _)
def AboveP (w : World) (m : Nat) (e : Ending) (w' : World) : Prop := e = .returned (.tuple #[.int .i64 (m : Int), .bool false]) ∧ Below w.heap.size w w'
set_option maxHeartbeats 3200000 in
set_option maxRecDepth 100000 in
theorem aboveP_any (M i : Nat) (x : Itm) (l : List Itm) (w : World) (hM : IMapAt w M l) (hl : SetI l) (hx : l[i]? = some x) :
    Calls Tryz.prog 42 #[.map (some M), x.v] w (AboveP w (chainI l (l.length + 1) i).length) := by
  have HL := Lib.hid hl
  have HX := Lib.hid hx
  have hfew := hl.few
  have HIL : Hid (i < l.length) := (List.getElem?_eq_some_iff.1 hx).1
  obtain ⟨w2, hw2⟩ : ∃ w2, w2 = (w.alloc (.cells #[.string x.id, .string x.cu, .int .i64 x.kind, .string x.name, .int .i64 x.at_, .string x.par, .string x.text] 42)).alloc (.cells #[.string x.id, .string x.cu, .int .i64 x.kind, .string x.name, .int .i64 x.at_, .string x.par, .string x.text] 42) := ⟨_, rfl⟩
  have hz1 : (w.alloc (.cells #[.string x.id, .string x.cu, .int .i64 x.kind, .string x.name, .int .i64 x.at_, .string x.par, .string x.text] 42)).heap.size = w.heap.size + 1 := by simp
  have hb1 : Below w.heap.size w (w.alloc (.cells #[.string x.id, .string x.cu, .int .i64 x.kind, .string x.name, .int .i64 x.at_, .string x.par, .string x.text] 42)) := (Below.refl _ _).alloc (Nat.le_refl _) _
  have HB2 : Hid (Below w.heap.size w w2) := by show Below _ _ _; rw [hw2]; exact hb1.alloc hb1.size _
  have HI0 : Hid (ItemAt w2 w.heap.size x) := by show ItemAt _ _ _; rw [hw2]; exact ItemAt.keep (item_new w x) ((Below.refl _ _).alloc (Nat.le_refl _) _)
  have HI1 : Hid (ItemAt w2 (w.heap.size + 1) x) := by
    show ItemAt _ _ _
    rw [hw2]
    have := item_new (w.alloc (.cells #[.string x.id, .string x.cu, .int .i64 x.kind, .string x.name, .int .i64 x.at_, .string x.par, .string x.text] 42)) x
    rw [hz1] at this
    exact this
  have HM2 : Hid (IMapAt w2 M l) := hM.below HB2.out
  have HML := Lib.hid hM.lt
  unfold Itm.v
  clear hM hl hx hb1
  go_enter Tryz.func42, Tryz.ntmps42
  go_upto_region 2 with (fail)
  rw [← hw2]
  clear hw2 hz1
  have hlen := fun ty => HM2.out.len ty
  go_wp2_with fail
  clear hlen
  go_loopg [4, 12] l.length (fun gk v4 v wr => ∃ (m j : Nat) (y : Itm), Hid (m + gk = l.length) ∧ v4 = .int .i64 (m : Int) ∧ v = .int .i64 (m : Int) ∧ Hid (upI l m i = some j) ∧ Hid (l[j]? = some y) ∧ Hid (ItemAt wr (w.heap.size + 1) y) ∧ Hid (ItemAt wr w.heap.size x) ∧ Hid (IMapAt wr M l) ∧ Hid (Below w.heap.size w wr))
  case atStart => exact ⟨0, i, x, show 0 + l.length = _ by omega, rfl, rfl, show _ = _ from rfl, HX.out, HI1.out, HI0.out, HM2.out, HB2.out⟩
  case round =>
    obtain ⟨m, j, y, HK, rfl, rfl, HU, HY, HIY, HI0, HM, HB⟩ := hrel
    have hml : m ≤ l.length := by have := HK.out; omega
    by_cases hlt : m < l.length
    · have HGK := Lib.hid (show m + 1 + (gk - 1) = l.length ∧ 0 < gk by have := HK.out; omega)
      have hmem := List.mem_of_getElem? HY.out
      have hps := ((HL.out.ok.each y hmem).small).2.2.2.1
      obtain ⟨c0, c1, c2, c3, c4, c5, c6⟩ := HIY.out.c
      by_cases hp : y.par.data.toList = []
      · have HF : Hid (AboveP w (chainI l (l.length + 1) i).length (.returned (.tuple #[.int .i64 (m : Int), .bool false])) (wr.alloc (.cells #[.string ⟨#[]⟩, .string ⟨#[]⟩, .int .i64 0, .string ⟨#[]⟩, .int .i64 0, .string ⟨#[]⟩, .string ⟨#[]⟩] 42))) := by
          refine ⟨?_, HB.out.alloc HB.out.size _⟩
          rw [chain_done HU.out (parI_nil HY.out hp) (by omega)]
        have hlk := HM.out.miss hps (HL.out.findEmpty hp)
        clear hp hmem hps HK
        go_wp2_with fail
        go_ret2
        exact HF.out
      · obtain ⟨q, hq⟩ : ∃ q, findI l y.par = some q := by
          rcases HL.out.ok.par y hmem with h | h
          · exact absurd h hp
          · exact Option.isSome_iff_exists.1 h
        obtain ⟨z, hz, hze, _⟩ := findI_some hq
        have HUN : Hid (upI l (m + 1) i = some q) := by show _ = _; rw [upI, HU.out]; show parI l j = some q; rw [parI_of HY.out hp, hq]
        have HZ := Lib.hid hz
        have HNE : Hid (z.id ≠ x.id) := fun e => by
          have hqi := HL.out.find hz HX.out e
          subst hqi
          refine HL.out.ok.tree.loop q HIL.out ?_
          have := chain_get (l := l) (l.length + 1) m q (by omega)
          rw [HUN.out] at this
          exact List.mem_of_getElem? this
        have hlk := HM.out.hit hps hq hz
        obtain ⟨q1, q2, q3⟩ := par_fullL hp
        have e0 : (z.id.toList == x.id.toList) = false := by rw [bytes_eq]; exact decide_eq_false HNE.out
        have hb1 : Below wr.heap.size wr (wr.alloc (.cells #[.string z.id, .string z.cu, .int .i64 z.kind, .string z.name, .int .i64 z.at_, .string z.par, .string z.text] 42)) := (Below.refl _ _).alloc (Nat.le_refl _) _
        have HIZ : Hid (ItemAt (wr.alloc (.cells #[.string z.id, .string z.cu, .int .i64 z.kind, .string z.name, .int .i64 z.at_, .string z.par, .string z.text] 42)) wr.heap.size z) := item_new wr z
        have HIY1 := Lib.hid (HIY.out.keep hb1)
        have HI01 := Lib.hid (HI0.out.keep hb1)
        have HM1 := Lib.hid (HM.out.below hb1)
        have HB1 := Lib.hid (HB.out.trans (hb1.mono HB.out.size))
        have HPZ : Hid (w.heap.size + 1 < wr.heap.size) := HIY.out.lt
        clear hp hmem hps HK hq hz hze hb1
        go_upto_region 5 with (fail)
        obtain ⟨Q, hQ⟩ : ∃ Q, Q = wr.heap.size := ⟨_, rfl⟩
        rw [← hQ] at HIZ HPZ ⊢
        generalize wr.alloc (.cells #[.string z.id, .string z.cu, .int .i64 z.kind, .string z.name, .int .i64 z.at_, .string z.par, .string z.text] 42) = w1 at *
        clear hQ hlk c0 c1 c2 c3 c4 c5 c6 HIY HI0 HM HB
        obtain ⟨c0, c1, c2, c3, c4, c5, c6⟩ := HIY1.out.c
        obtain ⟨d0, d1, d2, d3, d4, d5, d6⟩ := HIZ.out.c
        have x0 := HI01.out.c.1
        have ff := HIY1.out.fr
        have f0 := ff 0; have f1 := ff 1; have f2 := ff 2; have f3 := ff 3; have f4 := ff 4; have f5 := ff 5; have f6 := ff 6
        clear ff
        have HS1 := Lib.hid (ItemAt.setAll (z := z) HIY1.out)
        have HG1 := Lib.hid (grown_setAll w1 (w.heap.size + 1) z)
        go_wp2_with fail
        have HI03 := Lib.hid (ItemAt.row_ HI01.out HG1.out (by omega))
        have HM3 := Lib.hid (HM1.out.kept HG1.out (fun e => by have := Option.some.inj e; have := HML.out; omega))
        have HB3 : Hid (Below w.heap.size w _) := HB1.out.grown HG1.out HB1.out.size (fun i e => by have := Option.some.inj e; omega)
        go_roundg (gk - 1)
        case measure => exact Nat.sub_lt HGK.out.2 Nat.one_pos
        case rel => exact ⟨m + 1, q, z, HGK.out.1, by go_num, by go_num, HUN.out, HZ.out, HS1.out, HI03.out, HM3.out, HB3.out⟩
    · have hnk : ¬ (m : Int) < (l.length : Int) := by omega
      have HF : Hid (AboveP w (chainI l (l.length + 1) i).length (.returned (.tuple #[.int .i64 (m : Int), .bool false])) wr) := by
        refine ⟨?_, HB.out⟩
        have h1 := chain_ge (f := l.length + 1) HU.out (by omega)
        have h2 := chain_short HL.out.ok.tree.loop i
        rw [show (chainI l (l.length + 1) i).length = m by omega]
      go_wp2_with fail
      go_ret2
      exact HF.out
end Go.Proofs.YtombeeeiignckaaGreatDoor
