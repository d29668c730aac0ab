
/-
  What Changes of a stream returns: as a function of the numbers.
-/
import Derived.Test.YtmaimojpjepmjaaGreatDoorWsChgPlain
import Derived.Test.YtmaimojpjepmjaaGreatDoorOwnSet
namespace Go.Proofs.YtmaimojpjepmjaaGreatDoor
open Go.RowKit

/-- What laid changes read as. -/
def ChgsIs (w : World) (rs : List RawC) (cs : List TokC) : Prop := rs.length = cs.length ∧ ∀ (k : Nat) r c, rs[k]? = some r → cs[k]? = some c → r.1 = c.1 ∧ StrsAt w r.2.1.1 r.2.1.2.1 r.2.1.2.2 c.2.1 ∧ StrsAt w r.2.2.1 r.2.2.2.1 r.2.2.2.2 c.2.2
theorem ChgsIs.keep {w w' : World} {rs : List RawC} {cs : List TokC} (h : ChgsIs w rs cs) (hb : Below w.heap.size w w') : ChgsIs w' rs cs :=
  ⟨h.1, fun k r c h1 h2 => ⟨(h.2 k r c h1 h2).1, (h.2 k r c h1 h2).2.1.keep hb, (h.2 k r c h1 h2).2.2.keep hb⟩⟩
theorem own_is {w : World} {base : Nat} {s : Sl} {l : List (List UInt8)} (h : OwnStrs w base s.v l) : StrsAt w s.1 s.2.1 s.2.2 l := by
  obtain ⟨A, c, he, _, hat, _⟩ := h.at_ strE_ok
  obtain ⟨a, b, d⟩ := s
  simp only [Sl.v, Value.slice.injEq] at he
  obtain ⟨rfl, rfl, rfl⟩ := he
  exact hat
theorem ChgsOf.is {w : World} {base : Nat} {rs : List RawC} {cs : List TokC} (h : ChgsOf w base rs cs) : ChgsIs w rs cs :=
  ⟨h.1, fun k r c h1 h2 => ⟨(h.2 k r c h1 h2).1, own_is (h.2 k r c h1 h2).2.1, own_is (h.2 k r c h1 h2).2.2⟩⟩
theorem ChgsOf.grow {w w' : World} {base : Nat} {rs : List RawC} {cs : List TokC} {row : Option Nat} (h : ChgsOf w base rs cs) (hg : w.grownBy w' row) (hr : ∀ i, row = some i → i < base) : ChgsOf w' base rs cs := h.map fun _ _ h => Owns.kept_ h hg hr
theorem ChgsOf.set {w : World} {base : Nat} {rs : List RawC} {cs : List TokC} (h : ChgsOf w base rs cs) (i : Nat) {r : RawC} {c : TokC} (hc : ChgOf w base r c) : ChgsOf w base (rs.set i r) (cs.set i c) := by
  refine ⟨by simp [h.1], fun k r' c' h1 h2 => ?_⟩
  by_cases e : i = k
  · subst e
    rw [List.getElem?_set_self'] at h1 h2
    cases h3 : rs[i]? with
    | none => rw [h3] at h1; simp at h1
    | some r0 =>
      cases h4 : cs[i]? with
      | none => rw [h4] at h2; simp at h2
      | some c0 =>
        rw [h3] at h1; rw [h4] at h2
        simp at h1 h2
        subst h1 h2
        exact hc
  · rw [List.getElem?_set_ne e] at h1 h2
    exact h.2 k r' c' h1 h2

theorem diff_small (s t : ByteArray) (hs : s.size ≤ 92) (ht : t.size ≤ 92) : (diffF (tokL s.data.toList) (tokL t.data.toList)).length ≤ 101 ∧ ∀ c ∈ diffF (tokL s.data.toList) (tokL t.data.toList), SmallC c := by
  have h1 := tokL_length s.data.toList
  have h2 := tokL_length t.data.toList
  have h3 := tokL_lens s.data.toList
  have h4 := tokL_lens t.data.toList
  have e1 : s.data.toList.length = s.size := by simp
  have e2 : t.data.toList.length = t.size := by simp
  exact diffF_bd _ _ (by omega) (by omega) (by omega) (by omega)
theorem chg_fin {w w' : World} {base g : Nat} {v : Value} {rs : List RawC} {cs : List TokC} (hO : Owns ChgE w' base v rs) (hC : ChgsOf w' base rs cs) (hG : w.grownBy w' (some g)) (hb : w.heap.size ≤ base) :
    ∃ v' rs, Ending.returned v = .returned v' ∧ Owns ChgE w' w.heap.size v' rs ∧ ChgsOf w' w.heap.size rs cs ∧ w.grownBy w' (some g) :=
  ⟨v, rs, rfl, hO.base_ hb, hC.base hb, hG⟩
theorem chg_store {w : World} {base G n c i j : Nat} {u : Value} {rs : List RawC} {cs : List TokC} {r r' : RawC} {c' : TokC} (hO : Owns ChgE w base (.slice (some ⟨G, 0, none⟩) n c) rs) (hC : ChgsOf w base rs cs)
    (hi : rs[i]? = some r) (hj : j < 3) (he : ChgE.enc r' = (ChgE.enc r).set j u) (hn : ChgOf w base r' c') :
    Owns ChgE (w.setCell ⟨G, i * 3 + j, none⟩ u) base (.slice (some ⟨G, 0, none⟩) n c) (rs.set i r') ∧ ChgsOf (w.setCell ⟨G, i * 3 + j, none⟩ u) base (rs.set i r') (cs.set i c') :=
  ⟨Owns.set_ chgE_ok hO i r r' j u hi hj he, (hC.set i hn).map fun _ _ h => Owns.beside h hO (by decide) (grown_setCell w G (i * 3 + j) u)⟩
theorem chg_cells {w : World} {base G n c i : Nat} {rs : List RawC} {z : Int} {D F : Option Addr} {dn dc fn fc : Nat} (hO : Owns ChgE w base (.slice (some ⟨G, 0, none⟩) n c) rs) (hi : rs[i]? = some (z, (D, dn, dc), (F, fn, fc))) :
    (w.cell? ⟨G, i * 3, none⟩ = some (.int .i64 z) ∧ w.frozen? ⟨G, i * 3, none⟩ = false) ∧ (w.cell? ⟨G, i * 3 + 1, none⟩ = some (.slice D dn dc) ∧ w.frozen? ⟨G, i * 3 + 1, none⟩ = false) ∧ (w.cell? ⟨G, i * 3 + 2, none⟩ = some (.slice F fn fc) ∧ w.frozen? ⟨G, i * 3 + 2, none⟩ = false) ∧ base ≤ G ∧ G < w.heap.size := by
  obtain ⟨G', c', he, h1, h2, hc⟩ := Owns.where_ chgE_ok hO (by have := (List.getElem?_eq_some_iff.1 hi).1; omega)
  simp only [Value.slice.injEq, Option.some.injEq, Addr.mk.injEq] at he
  obtain ⟨⟨rfl, _⟩, _, rfl⟩ := he
  exact ⟨hc i _ 0 _ hi rfl, hc i _ 1 _ hi rfl, hc i _ 2 _ hi rfl, h1, h2⟩
theorem chg_done_set {w w7 : World} {base g G n c i j : Nat} {u : Value} {rs : List RawC} {ds res : List TokC} {r r' : RawC} {c' : TokC} (hO : Owns ChgE w7 base (.slice (some ⟨G, 0, none⟩) n c) rs) (hC : ChgsOf w7 base rs ds)
    (hi : rs[i]? = some r) (hj : j < 3) (he : ChgE.enc r' = (ChgE.enc r).set j u) (hn : ChgOf w7 base r' c') (hG : w.grownBy w7 (some g)) (hb : w.heap.size ≤ base) (hGb : base ≤ G) (hres : res = ds.set i c') :
    ∃ v' rs', Ending.returned (.slice (some ⟨G, 0, none⟩) n c) = .returned v' ∧ Owns ChgE (w7.setCell ⟨G, i * 3 + j, none⟩ u) w.heap.size v' rs' ∧ ChgsOf (w7.setCell ⟨G, i * 3 + j, none⟩ u) w.heap.size rs' res ∧ w.grownBy (w7.setCell ⟨G, i * 3 + j, none⟩ u) (some g) := by
  have hst := chg_store hO hC hi hj he hn
  rw [← hres] at hst
  exact chg_fin hst.1 hst.2 (grown_row hG (grown_setCell w7 G _ _) (fun i e => by cases e; omega)) hb
def ChangesIs (w : World) (g k : Nat) (zs : List Int) (t : ByteArray) (e : Ending) (w' : World) : Prop :=
  ∃ v rs, e = .returned v ∧ Owns ChgE w' w.heap.size v rs ∧ ChgsOf w' w.heap.size rs (changesF zs k t) ∧ w.grownBy w' (some g)

set_option maxHeartbeats 6400000 in
set_option maxRecDepth 100000 in
theorem changes_is (g : Nat) (A : Option Addr) (n c k : Nat) (zs : List Int) (t : ByteArray) (w : World) (hs : StreamIs w g A n c k zs) (hK : k ≤ 1000) (ht : t.size ≤ 84) (hM : MaxAt w) (hgm : 2 < g) :
    Calls Tryz.prog 14 #[.pointer (some ⟨g, 0, none⟩), .string t] w (ChangesIs w g k zs t) := by
  have H1 : Hid (Calls Tryz.prog 39 #[.pointer (some ⟨g, 0, none⟩), .string t, .string ⟨#[97, 98, 32, 120, 10]⟩] w fun e w' => e = .returned (.string (changedF zs k t abxB)) ∧ StreamIs w' g A n c (changedK k t) zs ∧ w.grownBy w' (some g)) := changed_is g A n c k zs t abxB w hs (by omega) (by omega) (by decide) (by decide)
  have hz1 := changedF_size zs k t abxB
  have hk1 : changedK k t ≤ k + 3 := by unfold changedK; split <;> omega
  have ex1 : abxB.size = 5 := rfl
  have HCF : Hid (changesF zs k t = tailF zs (changedK (changedK k t) (changedF zs k t abxB)) (diffF (tokL t.data.toList) (tokL (changedF zs (changedK k t) (changedF zs k t abxB) cdB).data.toList))) := rfl
  have HP : Hid (∀ e w', (∃ v rs, e = Ending.returned v ∧ Owns ChgE w' w.heap.size v rs ∧ ChgsOf w' w.heap.size rs (changesF zs k t) ∧ w.grownBy w' (some g)) → ChangesIs w g k zs t e w') := fun e w' h => h
  generalize changesF zs k t = res at *
  generalize changedF zs k t abxB = t1 at *
  generalize changedK k t = K1 at *
  have H2 : Hid (∀ wx, StreamIs wx g A n c K1 zs → Calls Tryz.prog 39 #[.pointer (some ⟨g, 0, none⟩), .string t1, .string ⟨#[99, 100, 32]⟩] wx fun e w' => e = .returned (.string (changedF zs K1 t1 cdB)) ∧ StreamIs w' g A n c (changedK K1 t1) zs ∧ wx.grownBy w' (some g)) := fun wx h => changed_is g A n c K1 zs t1 cdB wx h (by omega) (by omega) (by decide) (by decide)
  have hz2 := changedF_size zs K1 t1 cdB
  have hk2 : changedK K1 t1 ≤ K1 + 3 := by unfold changedK; split <;> omega
  have ex2 : cdB.size = 3 := rfl
  generalize changedF zs K1 t1 cdB = t2 at *
  generalize changedK K1 t1 = K at *
  have hK2 : K ≤ 1006 := by omega
  have ht2 : t2.size ≤ 92 := by omega
  clear hz1 hz2 hk1 hk2 ex1 ex2
  have H3 : Hid (∀ wx, MaxAt wx → Calls Tryz.prog 38 #[.string t, .string t2] wx fun e w' => ∃ (v : Value) (rs : List RawC), e = .returned v ∧ Owns ChgE w' wx.heap.size v rs ∧ ChgsOf w' wx.heap.size rs (diffF (tokL t.data.toList) (tokL t2.data.toList)) ∧ Below wx.heap.size wx w') := fun wx h => differOf_is t t2 wx (by omega) (by omega) h
  have HBD := Lib.hid (diff_small t t2 (by omega) ht2)
  generalize diffF (tokL t.data.toList) (tokL t2.data.toList) = ds at *
  have HSG := Lib.hid hs.lt
  clear hs
  have HMX := Lib.hid hM
  clear hM
  go_enter Tryz.func14, Tryz.ntmps14
  go_wp2_with fail
  refine H1.out.mono ?_
  rintro e w1 ⟨rfl, hs1, hg1⟩
  have HS1 := Lib.hid hs1
  have HG1 := Lib.hid hg1
  clear hs1 hg1 H1
  go_wp2_with fail
  refine (H2.out w1 HS1.out).mono ?_
  rintro e w2 ⟨rfl, hs2, hg2⟩
  have HS2 := Lib.hid hs2
  have HG2 := Lib.hid (grown_trans HG1.out hg2)
  clear hs2 hg2 H2 HS1 HG1
  go_wp2_with fail
  refine (H3.out w2 (HMX.out.keep hgm HG2.out)).mono ?_
  rintro e w3 ⟨v5, rs, rfl, hown, hcs, hb3⟩
  have HS3 := Lib.hid (HS2.out.below hb3)
  have HG3 := Lib.hid (grown_below HG2.out hb3)
  have hgb : g < w2.heap.size := HS2.out.lt
  obtain ⟨base, hbase⟩ : ∃ b, w2.heap.size = b := ⟨_, rfl⟩
  rw [hbase] at hown hcs hgb
  have hbz : base ≤ w3.heap.size := by rw [← hbase]; exact hb3.size
  have hwb : w.heap.size ≤ base := by rw [← hbase]; exact HG2.out.size
  clear hb3 hbase HS2 HG2 H3
  obtain ⟨A5, c5, rfl, hc5, hat5, hnew5⟩ := hown.at_ chgE_ok
  have hrl := hcs.1
  have hdl := HBD.out.1
  rw [hrl] at hat5 hown ⊢
  have HO := Lib.hid hown
  have HCS := Lib.hid hcs
  have HAT := Lib.hid hat5
  have HRL := Lib.hid hrl
  clear hown hcs hat5 hrl hnew5
  go_wp2_with fail
  refine (flip_is g A n c K zs 3 w3 HS3.out (by omega) (by omega)).mono ?_
  rintro e w4 ⟨rfl, hs4, hg4⟩
  have HS4 := Lib.hid hs4
  have HG4 := Lib.hid (grown_trans HG3.out hg4)
  have HCS4 := Lib.hid (HCS.out.grow hg4 (fun i e => by cases e; exact hgb))
  have HO4 := Lib.hid (HO.out.kept_ hg4 (fun i e => by cases e; exact hgb))
  have hz4 : base ≤ w4.heap.size := Nat.le_trans hbz hg4.size
  clear hs4 hg4 HS3 HG3 HCS HO HAT hbz
  have HWB : Hid (w.heap.size ≤ base) := hwb
  clear hwb
  by_cases hf : (nextF zs K 3 == 0 && decide (0 < ds.length)) = true
  · have hf1 : (nextF zs K 3 == 0) = true := by rw [Bool.and_eq_true] at hf; exact hf.1
    have hlen : 0 < ds.length := by rw [Bool.and_eq_true] at hf; exact of_decide_eq_true hf.2
    have hlen' : (0 : Int) < (ds.length : Int) := by omega
    have HTL := HCF.out
    unfold tailF at HTL
    rw [if_pos hf] at HTL
    rw [hf1]
    clear hf hf1 HCF hlen'
    generalize hL : ds.length = L at *
    have HL := Lib.hid hL
    clear hL
    have hlen' : (0 : Int) < (L : Int) := by omega
    obtain ⟨G, c', he, hGb, hGs, hcell⟩ := Owns.where_ chgE_ok HO4.out (by rw [HRL.out]; exact hlen)
    simp only [Value.slice.injEq] at he
    obtain ⟨rfl, hq0, rfl⟩ := he
    clear hq0 hcell
    have HTLH := Lib.hid HTL
    clear HTL
    have HTL := HTLH
    clear HTLH
    have HN1 : Hid (∀ wx, StreamIs wx g A n c (K + 1) zs → Calls Tryz.prog 37 #[.pointer (some ⟨g, 0, none⟩), .int .i64 (L : Int)] wx fun e w' => e = .returned (.int .i64 ((nextN zs (K + 1) L : Nat) : Int)) ∧ StreamIs w' g A n c (K + 1 + 1) zs ∧ wx.grownBy w' (some g)) := fun wx h => next_ns g A n c (K + 1) zs L wx h (by omega) (by omega)
    have hi := nextN_lt zs (K + 1) L hlen
    generalize nextN zs (K + 1) L = i at *
    have hi' : (i : Int) < (L : Int) := by omega
    go_wp2_with fail
    refine (HN1.out w4 HS4.out).mono ?_
    rintro e w5 ⟨rfl, hs5, hg5⟩
    have HS5 := Lib.hid hs5
    have HG5 := Lib.hid hg5
    clear hs5 hg5 HN1 HS4
    go_wp2_with fail
    have HN2 : Hid (Calls Tryz.prog 37 #[.pointer (some ⟨g, 0, none⟩), .int .i64 5] w5 fun e w' => e = .returned (.int .i64 (nextF zs (K + 2) 5)) ∧ StreamIs w' g A n c (K + 2 + 1) zs ∧ w5.grownBy w' (some g)) := next_is g A n c (K + 2) zs 5 w5 HS5.out (by omega) (by omega)
    have hr0 := (nextF_range zs (K + 2) 5).1
    have hr1 := (nextF_range zs (K + 2) 5).2 (by omega)
    generalize nextF zs (K + 2) 5 = r at *
    refine HN2.out.mono ?_
    rintro e w6 ⟨rfl, hs6, hg6⟩
    have hg46 := grown_trans HG5.out hg6
    have HS6 := Lib.hid hs6
    have HG6 := Lib.hid (grown_trans HG4.out hg46)
    have HO6 := Lib.hid (HO4.out.kept_ hg46 (fun i e => by cases e; exact hgb))
    have HCS6 := Lib.hid (HCS4.out.grow hg46 (fun i e => by cases e; exact hgb))
    have hz6 : base ≤ w6.heap.size := Nat.le_trans hz4 hg46.size
    clear hs6 hg6 hg46 HN2 HS5 HG5 HG4 HCS4 HO4 hz4
    obtain ⟨_, c'', he, _, hGs6, hcell⟩ := Owns.where_ chgE_ok HO6.out (by rw [HRL.out]; exact hlen)
    simp only [Value.slice.injEq, Option.some.injEq, Addr.mk.injEq] at he
    obtain ⟨⟨rfl, hq1⟩, hq2, rfl⟩ := he
    clear hq1 hq2
    obtain ⟨rr, hrr⟩ : ∃ rr, rs[i]? = some rr := ⟨_, List.getElem?_eq_getElem (by rw [HRL.out]; exact hi)⟩
    obtain ⟨cc, hcc⟩ : ∃ cc, ds[i]? = some cc := ⟨_, List.getElem?_eq_getElem (by rw [HL.out]; exact hi)⟩
    obtain ⟨hz, hD, hF⟩ := HCS6.out.2 i rr cc hrr hcc
    have hgd : ds.getD i (0, [], []) = cc := by rw [List.getD_eq_getElem?_getD, hcc]; rfl
    have hsm := HBD.out.2 cc (List.mem_of_getElem? hcc)
    rw [hgd] at HTL
    obtain ⟨z, ⟨D, dn, dc⟩, ⟨F, fn, fc⟩⟩ := rr
    obtain ⟨a, d, e⟩ := cc
    simp only at hz
    subst hz
    have p0 := hcell i _ 0 _ hrr rfl
    have p1 := hcell i _ 1 _ hrr rfl
    have p2 := hcell i _ 2 _ hrr rfl
    have HCELL := Lib.hid hcell
    clear hcell
    have hsz : ChgE.size = 3 := rfl
    rw [hsz] at p0 p1 p2
    rw [Nat.add_zero] at p0
    have p10 : w6.cell? ⟨G, i * 3 + 1, none⟩ = some (.slice D dn dc) := p1.1
    have p20 : w6.cell? ⟨G, i * 3 + 2, none⟩ = some (.slice F fn fc) := p2.1
    have p11 := p1.2
    have p21 := p2.2
    have p00 := p0.1
    have p01 := p0.2
    clear p0 p1 p2 hsz
    have HD := Lib.hid hD
    have HF := Lib.hid hF
    have HRR := Lib.hid hrr
    have hal := hsm.lo
    have hah := hsm.hi
    have hdn := hsm.dn
    have hen := hsm.an
    simp only at hal hah hdn hen
    clear hD hF hrr hcc hgd hsm
    simp only at HTL
    have hdd : dn = d.length := (own_is HD.out).1
    have hff : fn = e.length := (own_is HF.out).1
    subst hdd
    subst hff
    clear HCELL
    have hgg : g < w6.heap.size := HS6.out.lt
    by_cases h0 : r = 0
    · subst h0
      rw [if_pos rfl] at HTL
      have HRG : Hid (∀ wx, StreamIs wx g A n c (K + 3) zs → Calls Tryz.prog 25 #[.pointer (some ⟨g, 0, none⟩), .int .i64 (-2), .int .i64 2] wx fun e w' => e = .returned (.int .i64 (-2 + nextF zs (K + 3) 5)) ∧ StreamIs w' g A n c (K + 3 + 1) zs ∧ wx.grownBy w' (some g)) := fun wx h => range_is g A n c (K + 3) zs (-2) 2 wx h (by omega) (by omega) (by omega) (by omega)
      have hs0 := (nextF_range zs (K + 3) 5).1
      have hs1 := (nextF_range zs (K + 3) 5).2 (by omega)
      generalize nextF zs (K + 3) 5 = s at *
      have hw1 : IntKind.i64.wrap (z + (-2 + s)) = z + (-2 + s) := IntWalk.i64_in _ (by omega)
      go_upto_region 7 with (fail)
      go_region_law (first
        | (go_simp; go_at_call 25; (with_reducible refine Calls.mono (HRG.out _ ?_) ?_); (first | exact HS6.out | exact HS6.out.drew_ 1); rintro e' w7 ⟨rfl, hs7, hg7⟩; have hg7' : w6.grownBy w7 (some g) := ⟨hg7.os, hg7.tape, hg7.output, hg7.size, hg7.block⟩; have HG7 := Lib.hid hg7'; have HO7 := Lib.hid (HO6.out.kept_ hg7' (fun i e => by cases e; exact hgb)); have q00 := (chg_cells HO7.out HRR.out).1.1; have q01 := (chg_cells HO7.out HRR.out).1.2; clear hs7 hg7 hg7'))
      all_goals
        have hfin := chg_done_set (j := 0) (u := .int .i64 (z + (-2 + s))) (r' := (z + (-2 + s), (D, d.length, dc), (F, e.length, fc))) HO7.out (HCS6.out.grow HG7.out (fun i e => by cases e; exact hgb)) HRR.out (by decide) rfl ⟨rfl, HD.out.kept_ HG7.out (fun i e => by cases e; exact hgb), HF.out.kept_ HG7.out (fun i e => by cases e; exact hgb)⟩ (grown_trans HG6.out HG7.out) HWB.out hGb HTL.out
        have HFIN := Lib.hid hfin
        clear hfin q00 q01
        go_wp2_with fail
        go_ret
        exact HP.out _ _ HFIN.out
    · have q0 : (r == 0) = false := by simpa using h0
      rw [if_neg h0] at HTL
      clear h0
      by_cases h1 : r = 1
      · subst h1
        rw [if_pos rfl] at HTL
        obtain ⟨sl, hsl⟩ : ∃ sl : List UInt8, oneF zs (K + 3) dropW = ⟨sl.toArray⟩ := ⟨(oneF zs (K + 3) dropW).data.toList, by simp⟩
        have HE1 : Hid (dropW.getD (nextN zs (K + 3) dropW.length) ByteArray.empty = ⟨sl.toArray⟩) := hsl
        rw [hsl, List.toList_toArray] at HTL
        clear hsl
        have HCL := Lib.hid (clone_any D d.length dc d w6 (own_is HD.out) (by omega))
        go_upto_region 9 with (fail)
        go_wp2_with fail
        refine HCL.out.mono ?_
        rintro e' w7 ⟨vx, rfl, hox, hbx⟩
        obtain ⟨Ax, cx, rfl, hx1, hx2, hx3⟩ := hox.at_ strE_ok
        have hs7 := HS6.out.below hbx
        have HOX := Lib.hid hox
        have HG7 : Hid (w6.grownBy w7 (some g)) := below_grown hbx _
        have hz7 := hbx.size
        clear hx1 hx2 hx3 hox hbx HCL
        go_wp2_with fail
        refine (one_is g A n c (K + 3) zs dropW w7.heap.size 4 4 _ (hs7.alloc _) (by omega) rfl (by omega) (by omega) (by omega) (fun j hj => cells_strings w7 dropW _ j hj)).mono ?_
        rintro e' w8 ⟨rfl, hs8, hg8⟩
        rw [HE1.out]
        have HG8 := Lib.hid (grown_trans (grown_alloc HG7.out _) hg8)
        have HOX8 : Hid (OwnStrs w8 w6.heap.size (.slice Ax d.length cx) d) := Owns.kept_ (World.ownsRow.alloc HOX.out _) hg8 (fun i e => by cases e; exact hgg)
        have hz8 := HG8.out.size
        clear hs7 hs8 hg8 HOX HG7 HE1 hz7
        go_wp2_with (at_builtin; refine append_elems strE_ok rfl _ _ rfl w6.heap.size _ d rfl (World.ownsRow.alloc HOX8.out _) (some ⟨w8.heap.size, 0, none⟩) 1 1 [sl] rfl (one_elem w8 sl) (by simp; omega) (by simp; omega) ?_; intro v9 w9 hown9 hgrow9 hv9; obtain ⟨A9, c9, rfl, hx1, hx2, hx3⟩ := hown9.at_ strE_ok; have h69 := grown_row (grown_alloc HG8.out _) hgrow9 (fun r hr => (HOX8.out.lt r hr).1); have HG9 := Lib.hid h69; have HO9 := Lib.hid (HO6.out.kept_ h69 (fun i e => by cases e; exact hgb)); have q10 := (chg_cells HO9.out HRR.out).2.1.1; have q11 := (chg_cells HO9.out HRR.out).2.1.2; have HN9 := Lib.hid hown9; clear hx1 hx2 hx3 hown9 hgrow9 hv9 h69)
        have hfin := chg_done_set (j := 1) (u := .slice A9 (d ++ [sl]).length c9) (r' := (z, (A9, (d ++ [sl]).length, c9), (F, e.length, fc))) (c' := (z, d ++ [sl], e)) HO9.out (HCS6.out.grow HG9.out (fun i e => by cases e; exact hgb)) HRR.out (by decide) rfl ⟨rfl, HN9.out.base_ hz6, HF.out.kept_ HG9.out (fun i e => by cases e; exact hgb)⟩ (grown_trans HG6.out HG9.out) HWB.out hGb HTL.out
        rw [show (d ++ [sl]).length = d.length + 1 by simp] at hfin
        have HFIN := Lib.hid hfin
        clear hfin
        go_wp2_with fail
        go_ret
        exact HP.out _ _ HFIN.out
      · have q1 : (r == 1) = false := by simpa using h1
        rw [if_neg h1] at HTL
        clear h1
        by_cases h2 : r = 2
        · subst h2
          rw [if_pos rfl] at HTL
          obtain ⟨sl, hsl⟩ : ∃ sl : List UInt8, oneF zs (K + 3) addW = ⟨sl.toArray⟩ := ⟨(oneF zs (K + 3) addW).data.toList, by simp⟩
          rw [hsl, List.toList_toArray] at HTL
          have HRP : Hid (∀ wx : World, Calls Tryz.prog 41 #[.string ⟨#[120]⟩, .int .i64 20000] wx fun e w' => e = .returned (.string repB) ∧ Below wx.heap.size wx w') := fun wx => Tryz.strings_Repeat ⟨#[120]⟩ 20000 wx (by omega) (by decide)
          have HE1 : Hid (([⟨#[97]⟩, ⟨#[]⟩, ⟨#[97, 32, 98]⟩, ⟨#[10]⟩, repB] : List ByteArray).getD (nextN zs (K + 3) 5) ByteArray.empty = ⟨sl.toArray⟩) := hsl
          clear hsl
          generalize repB = rb at *
          have HCL := Lib.hid (clone_any F e.length fc e w6 (own_is HF.out) (by omega))
          go_upto_region 11 with (fail)
          go_wp2_with fail
          refine HCL.out.mono ?_
          rintro e' w7 ⟨vx, rfl, hox, hbx⟩
          obtain ⟨Ax, cx, rfl, hx1, hx2, hx3⟩ := hox.at_ strE_ok
          have HS7 := Lib.hid (HS6.out.below hbx)
          have HOX := Lib.hid hox
          have HG7 : Hid (w6.grownBy w7 (some g)) := below_grown hbx _
          have hz7 := hbx.size
          clear hx1 hx2 hx3 hox hbx HCL
          go_wp2_with fail
          refine (HRP.out w7).mono ?_
          rintro e' wr ⟨rfl, hbr⟩
          have hsr := HS7.out.below hbr
          have HOXR := Lib.hid (HOX.out.below_ hbr)
          have HGR := Lib.hid (grown_below HG7.out hbr)
          have hzr : w6.heap.size ≤ wr.heap.size := Nat.le_trans hz7 hbr.size
          clear HRP HS7 HOX HG7 hbr hz7
          go_wp2_with fail
          refine (one_is g A n c (K + 3) zs [⟨#[97]⟩, ⟨#[]⟩, ⟨#[97, 32, 98]⟩, ⟨#[10]⟩, rb] wr.heap.size 5 5 _ (hsr.alloc _) (by omega) rfl (by omega) (by omega) (by omega) (fun j hj => cells_strings wr [⟨#[97]⟩, ⟨#[]⟩, ⟨#[97, 32, 98]⟩, ⟨#[10]⟩, rb] _ j hj)).mono ?_
          rintro e' w8 ⟨rfl, hs8, hg8⟩
          rw [show ([⟨#[97]⟩, ⟨#[]⟩, ⟨#[97, 32, 98]⟩, ⟨#[10]⟩, rb] : List ByteArray).length = 5 from rfl, HE1.out]
          have HG8 := Lib.hid (grown_trans (grown_alloc HGR.out _) hg8)
          have HOX8 : Hid (OwnStrs w8 w6.heap.size (.slice Ax e.length cx) e) := Owns.kept_ (World.ownsRow.alloc HOXR.out _) hg8 (fun i e => by cases e; exact hgg)
          have hz8 := HG8.out.size
          clear hsr hs8 hg8 HOXR HGR HE1 hzr
          go_wp2_with (at_builtin; refine append_elems strE_ok rfl _ _ rfl w6.heap.size _ e rfl (World.ownsRow.alloc HOX8.out _) (some ⟨w8.heap.size, 0, none⟩) 1 1 [sl] rfl (one_elem w8 sl) (by simp; omega) (by simp; omega) ?_; intro v9 w9 hown9 hgrow9 hv9; obtain ⟨A9, c9, rfl, hx1, hx2, hx3⟩ := hown9.at_ strE_ok; have h69 := grown_row (grown_alloc HG8.out _) hgrow9 (fun r hr => (HOX8.out.lt r hr).1); have HG9 := Lib.hid h69; have HO9 := Lib.hid (HO6.out.kept_ h69 (fun i e => by cases e; exact hgb)); have q10 := (chg_cells HO9.out HRR.out).2.2.1.1; have q11 := (chg_cells HO9.out HRR.out).2.2.1.2; have HN9 := Lib.hid hown9; clear hx1 hx2 hx3 hown9 hgrow9 hv9 h69)
          have hfin := chg_done_set (j := 2) (u := .slice A9 (e ++ [sl]).length c9) (r' := (z, (D, d.length, dc), (A9, (e ++ [sl]).length, c9))) (c' := (z, d, e ++ [sl])) HO9.out (HCS6.out.grow HG9.out (fun i e => by cases e; exact hgb)) HRR.out (by decide) rfl ⟨rfl, HD.out.kept_ HG9.out (fun i e => by cases e; exact hgb), HN9.out.base_ hz6⟩ (grown_trans HG6.out HG9.out) HWB.out hGb HTL.out
          rw [show (e ++ [sl]).length = e.length + 1 by simp] at hfin
          have HFIN := Lib.hid hfin
          clear hfin
          go_wp2_with fail
          go_ret
          exact HP.out _ _ HFIN.out
        · have q2 : (r == 2) = false := by simpa using h2
          rw [if_neg h2] at HTL
          clear h2
          by_cases h3 : r = 3
          · subst h3
            rw [if_pos rfl] at HTL
            have hst := chg_store (j := 1) (u := .slice none 0 0) (r' := (z, (none, 0, 0), (F, e.length, fc))) (c' := (z, [], e)) HO6.out HCS6.out HRR.out (by decide) rfl ⟨rfl, Owns.nil _ _, HF.out⟩
            have hlr : i < rs.length := by rw [HRL.out]; exact hi
            have hrr2 : (rs.set i (z, (none, 0, 0), (F, e.length, fc)))[i]? = some (z, (none, 0, 0), (F, e.length, fc)) := by rw [List.getElem?_set_self hlr]
            have hF2 : OwnStrs (w6.setCell ⟨G, i * 3 + 1, none⟩ (.slice none 0 0)) base (.slice F e.length fc) e := Owns.beside HF.out HO6.out (by decide) (grown_setCell w6 G (i * 3 + 1) _)
            have hfin := chg_done_set (j := 2) (u := .slice none 0 0) (r' := (z, (none, 0, 0), (none, 0, 0))) (c' := (z, [], [])) (res := res) hst.1 hst.2 hrr2 (by decide) rfl ⟨rfl, Owns.nil _ _, Owns.nil _ _⟩ (grown_row HG6.out (grown_setCell w6 G (i * 3 + 1) _) (fun i e => by cases e; have := HWB.out; omega)) HWB.out hGb (by rw [HTL.out, List.set_set])
            have HFIN := Lib.hid hfin
            have q20 := (chg_cells hst.1 hrr2).2.2.1.1
            have q21 := (chg_cells hst.1 hrr2).2.2.1.2
            clear hfin hst hlr hrr2 hF2
            go_upto_region 13 with (fail)
            go_wp2_with fail
            go_ret
            exact HP.out _ _ HFIN.out
          · have q3 : (r == 3) = false := by simpa using h3
            rw [if_neg h3] at HTL
            clear h3
            clear p10 p20 p11 p21 p00 p01
            obtain ⟨r1, hr1'⟩ : ∃ r1, rs[0]? = some r1 := ⟨_, List.getElem?_eq_getElem (by rw [HRL.out]; exact hlen)⟩
            obtain ⟨z1, ⟨D1, dn1, dc1⟩, ⟨F1, fn1, fc1⟩⟩ := r1
            obtain ⟨p0, p1, p2, _, _⟩ := chg_cells HO6.out hr1'
            rw [Nat.zero_mul] at p0 p1 p2
            rw [Nat.zero_add] at p1 p2
            have p00 := p0.1
            have p10 := p1.1
            have p20 := p2.1
            have HR1 := Lib.hid hr1'
            clear p0 p1 p2 hr1'
            have hlen3 : (0 : Int) < (L : Int) := by omega
            obtain ⟨y1, hy1⟩ : ∃ y1, ds[0]? = some y1 := ⟨_, List.getElem?_eq_getElem (by rw [HL.out]; exact hlen)⟩
            have hgd1 : ds.getD 0 (0, [], []) = y1 := by rw [List.getD_eq_getElem?_getD, hy1]; rfl
            rw [hgd1] at HTL
            have HY1 := Lib.hid (HCS6.out.2 0 _ y1 HR1.out hy1)
            clear hgd1 hy1
            go_upto_region 5 with (fail)
            go_wp2_with (at_builtin; refine append_elems chgE_ok rfl _ _ rfl base _ rs rfl (World.ownsRow.alloc HO6.out _) (some ⟨w6.heap.size, 0, none⟩) 1 1 [(z1, (D1, dn1, dc1), (F1, fn1, fc1))] rfl (one_elem (E := ChgE) w6 _) (by have := HRL.out; simp; omega) (by simp; omega) ?_; intro v9 w9 hown9 hgrow9 hv9; have HN9 := Lib.hid hown9; have HGR9 := Lib.hid hgrow9; clear hv9 hown9 hgrow9)
            have hmap : ∀ v l, OwnStrs w6 base v l → OwnStrs w9 base v l := fun v l h => Owns.beside (World.ownsRow.alloc h _) (World.ownsRow.alloc HO6.out _) (by decide) HGR9.out
            have hfin := chg_fin (w := w) (g := g) HN9.out (show ChgsOf w9 base _ res by rw [HTL.out]; exact (HCS6.out.map hmap).snoc ⟨HY1.out.1, hmap _ _ HY1.out.2.1, hmap _ _ HY1.out.2.2⟩) (grown_row (grown_alloc HG6.out _) HGR9.out (fun r hr => Nat.le_trans HWB.out (HO6.out.lt r hr).1)) HWB.out
            have HFIN := Lib.hid hfin
            clear hfin hmap
            go_wp2_with fail
            go_ret
            exact HP.out _ _ HFIN.out
  · have HTL := HCF.out
    unfold tailF at HTL
    rw [if_neg hf] at HTL
    have HTL := Lib.hid HTL
    have hfin := chg_fin (w := w) (g := g) HO4.out (show ChgsOf w4 base _ res by rw [HTL.out]; exact HCS4.out) HG4.out HWB.out
    by_cases hb : (nextF zs K 3 == 0) = true
    · have e0 : ds.length = 0 := by
        rw [Bool.and_eq_true] at hf
        by_cases h : ds.length = 0
        · exact h
        · exact absurd ⟨hb, decide_eq_true (by omega)⟩ hf
      rw [e0] at hfin ⊢
      rw [hb]
      have HFIN := Lib.hid hfin
      clear hfin hf hb HTL e0 HCF HCS4 HO4
      go_wp2_with fail
      go_ret
      exact HP.out _ _ HFIN.out
    · have hb' : (nextF zs K 3 == 0) = false := by simpa using hb
      rw [hb']
      have HFIN := Lib.hid hfin
      clear hfin hf hb hb' HTL HCF HCS4 HO4
      generalize ds.length = L at *
      go_wp2_with fail
      go_ret
      exact HP.out _ _ HFIN.out
end Go.Proofs.YtmaimojpjepmjaaGreatDoor
