
/-
  LoadRows makes a small table of the call's own.
-/
import Derived.Test.YtbipkkebkddegaaGreatDoorTabSet
import Derived.Test.YtbipkkebkddegaaGreatDoorRange
import Derived.Deep.RegionHeld3
namespace Go.Proofs.YtbipkkebkddegaaGreatDoor
open Go.RowKit

/-- The headers of a table's rows. -/
theorem ParasAt.headAt {w : World} {base : Nat} {v : Value} {rs : List HdS} {T : List (List Str)} (h : ParasAt w base v rs T) (h0 : 0 < T.length) :
    ∃ GH cH, v = .slice (some ⟨GH, 0, none⟩) T.length cH ∧ base ≤ GH ∧ GH < w.heap.size ∧ ∀ k r, rs[k]? = some r → w.cell? ⟨GH, k, none⟩ = some r.v := by
  obtain ⟨GH, cH, hv, hb, hl, hc⟩ := h.own.where_ lineE_ok (by rw [h.len]; exact h0)
  rw [h.len] at hv
  refine ⟨GH, cH, hv, hb, hl, fun k r hr => ?_⟩
  have := (hc k r 0 r.v hr rfl).1
  rwa [show k * LineE.size + 0 = k by show k * 1 + 0 = k; omega] at this
/-- One row of a table. -/
theorem ParasAt.rowAt {w : World} {base : Nat} {v : Value} {rs : List HdS} {T : List (List Str)} (h : ParasAt w base v rs T) {k : Nat} {p : List Str} (hp : T[k]? = some p) (h0 : 0 < p.length) :
    ∃ G c, rs[k]? = some (some ⟨G, 0, none⟩, p.length, c) ∧ base ≤ G ∧ G < w.heap.size ∧ ∀ i, i < p.length → w.cell? ⟨G, i, none⟩ = some (.string (bag (p.getD i []))) ∧ w.frozen? ⟨G, i, none⟩ = false := by
  have hkl : k < rs.length := by rw [h.len]; exact (List.getElem?_eq_some_iff.1 hp).1
  have hr : rs[k]? = some rs[k] := List.getElem?_eq_getElem hkl
  obtain ⟨G, c, hv, hb, hl, hc⟩ := (h.each k _ p hr hp).where_ strE_ok h0
  generalize rs[k] = r at *
  obtain ⟨r1, r2, r3⟩ := r
  simp only [HdS.v, Value.slice.injEq] at hv
  obtain ⟨rfl, rfl, rfl⟩ := hv
  refine ⟨G, _, hr, hb, hl, fun i hi => ?_⟩
  have := hc i p[i] 0 _ (List.getElem?_eq_getElem hi) rfl
  rw [show i * StrE.size + 0 = i by show i * 1 + 0 = i; omega] at this
  rw [List.getD_eq_getElem?_getD, List.getElem?_eq_getElem hi]
  exact this
theorem head_ne_row {w : World} {base : Nat} {v : Value} {rs : List HdS} {T : List (List Str)} (h : ParasAt w base v rs T) {k : Nat} {p : List Str} {GH G n cH c : Nat} (hv : v = .slice (some ⟨GH, 0, none⟩) n cH) (hr : rs[k]? = some (some ⟨G, 0, none⟩, p.length, c)) (hp : T[k]? = some p) : GH ≠ G := by
  have := h.own.ne_own (h.each k _ p hr hp) (Ne.symm line_ne)
  rw [hv] at this
  rcases this with e | e
  · cases e
  · intro e2
    subst e2
    exact e rfl
theorem StreamAt.drewN' {w : World} {g : Nat} {A : Option Addr} {n c K : Nat} (h : StreamAt w g A n c K) (q : Nat) : StreamAt (w.drewN q) g A n c K := ⟨h.blk, h.row, h.big⟩
def hd4 : List Str := [[105, 100], [97], [98], [99]]
theorem four_strs (w : World) : StrsAt (w.alloc (.cells #[.string ⟨#[105, 100]⟩, .string ⟨#[97]⟩, .string ⟨#[98]⟩, .string ⟨#[99]⟩] 9)) (some ⟨w.heap.size, 0, none⟩) 4 4 hd4 := by
  refine ⟨rfl, Nat.le_refl _, (fun e => by cases e), fun _ => ⟨w.heap.size, 0, rfl, by simp, fun k x i v hk hv => ?_⟩⟩
  have hi : i = 0 := by have := (List.getElem?_eq_some_iff.1 hv).1; simp [StrE] at this; exact this
  subst hi
  have hk4 : k < 4 := (List.getElem?_eq_some_iff.1 hk).1
  rw [World.cell?_alloc_at _ _ _ _ rfl]
  simp only [StrE, List.getElem?_cons_zero, Option.some.injEq] at hv
  subst hv
  match k, hk4 with
  | 0, _ => cases hk; rfl
  | 1, _ => cases hk; rfl
  | 2, _ => cases hk; rfl
  | 3, _ => cases hk; rfl
def cellWords : List ByteArray := [⟨#[]⟩, ⟨#[120]⟩, ⟨#[97, 94, 98]⟩, ⟨#[126]⟩, ⟨#[126, 110]⟩, ⟨#[108, 10, 109]⟩, ⟨#[94]⟩, ⟨#[124]⟩, ⟨#[195, 169]⟩]
theorem cellWords_ok : ∀ s ∈ cellWords, s.data.toList.length ≤ 20 := by decide +kernel
def RowsPost (w : World) (g : Nat) (A : Option Addr) (n c K : Nat) (e : Ending) (w' : World) : Prop := ∃ v rs T, e = .returned v ∧ ParasAt w' w.heap.size v rs T ∧ TinyT T ∧ StreamAt w' g A n c (K + 100) ∧ w.grownBy w' (some g)
/-- What is held of the table between two rounds. -/
structure TabI (w wr : World) (g : Nat) (A : Option Addr) (n c K N k : Nat) (v : Value) (rs : List HdS) (T : List (List Str)) : Prop where
  par : ParasAt wr w.heap.size v rs T
  tiny : TinyT T
  len : T.length = k + 1
  first : ∃ p, T[0]? = some p ∧ p.length = N
  pos : ∀ r ∈ T, 1 ≤ r.length
  st : StreamAt wr g A n c (K + 10 + 5 * k)
  gr : w.grownBy wr (some g)
set_option maxHeartbeats 3200000 in
set_option maxRecDepth 100000 in
theorem loadRows_any (g : Nat) (A : Option Addr) (n c K : Nat) (w : World) (hs : StreamAt w g A n c K) (hK : K ≤ 10000) :
    Calls Tryz.prog 6 #[.pointer (some ⟨g, 0, none⟩)] w (RowsPost w g A n c K) := by
  have hgw := hs.lt
  go_enter Tryz.func6, Tryz.ntmps6
  go_wp2_with fail
  refine (rangeR_any g A n c K 1 4 w hs (by omega) (by omega) (by omega) (by omega)).mono ?_
  rintro e w1 ⟨N, rfl, n1, n4, hs1, hg1⟩
  obtain ⟨N, rfl⟩ := Int.eq_ofNat_of_zero_le (show 0 ≤ N by omega)
  have hN : 1 ≤ N ∧ N ≤ 4 := by omega
  have hg1z := hg1.size
  obtain ⟨A', ha', hat'⟩ := (four_strs w1).piece 0 N (Nat.zero_le _) (by omega)
  rw [List.drop_zero, Nat.sub_zero, Nat.sub_zero] at hat'
  rw [Nat.sub_zero, Nat.sub_zero] at ha'
  have hsl := sl_toS (some ⟨w1.heap.size, 0, none⟩) 4 4 N (by omega) _ ha'
  obtain ⟨p0, hp0⟩ : ∃ p0, p0 = hd4.take N := ⟨_, rfl⟩
  have hpl : p0.length = N := by rw [hp0, List.length_take]; show min N 4 = N; omega
  have HP0 : Hid (∀ s ∈ p0, s.length ≤ 20) := fun s hm => by
    rw [hp0] at hm
    have := List.mem_of_mem_take hm
    simp [hd4] at this
    rcases this with rfl | rfl | rfl | rfl <;> decide
  rw [← hp0] at hat'
  have HAT := Lib.hid hat'
  have HS1 := Lib.hid (hs1.alloc (.cells #[.string ⟨#[105, 100]⟩, .string ⟨#[97]⟩, .string ⟨#[98]⟩, .string ⟨#[99]⟩] 9))
  have HG1 := Lib.hid (grown_alloc hg1 (.cells #[.string ⟨#[105, 100]⟩, .string ⟨#[97]⟩, .string ⟨#[98]⟩, .string ⟨#[99]⟩] 9))
  have HPL := Lib.hid hpl
  clear hs hs1 hg1 hat' ha' hp0 hpl n1 n4
  go_wp2_with fail
  generalize w1.alloc (.cells #[.string ⟨#[105, 100]⟩, .string ⟨#[97]⟩, .string ⟨#[98]⟩, .string ⟨#[99]⟩] 9) = w2 at *
  refine (clone_any A' N 4 p0 w2 HAT.out (by omega)).mono ?_
  rintro e w3 ⟨v3, rfl, hown3, hb3⟩
  obtain ⟨R3, c3, rfl, -, -, -⟩ := hown3.at_ strE_ok
  rw [HPL.out] at hown3 ⊢
  have hz2 : w.heap.size ≤ w2.heap.size := HG1.out.size
  have hz3 := hb3.size
  have HP := Lib.hid (one_row w3 w.heap.size (R3, N, c3) p0 (hown3.base_ hz2) (by omega))
  have HS3 := Lib.hid ((HS1.out.below hb3).alloc (.cells #[HdS.v (R3, N, c3)] 53))
  have HG3 := Lib.hid (grown_alloc (grown_below HG1.out hb3) (.cells #[HdS.v (R3, N, c3)] 53))
  have hv3 : HdS.v (R3, N, c3) = .slice R3 N c3 := rfl
  rw [hv3] at HP HS3 HG3
  clear hown3 hb3 HS1 HG1 HAT hsl hv3
  go_wp2_with fail
  generalize w3.alloc (.cells #[.slice R3 N c3] 53) = w4 at *
  generalize w3.heap.size = P3 at *
  refine (next_any g A n c _ 5 w4 HS3.out (by omega) (by omega)).mono ?_
  rintro e w5 ⟨M, rfl, m0, m1, hs5, hg5⟩
  have m1' := m1 (by omega)
  clear m1
  obtain ⟨M, rfl⟩ := Int.eq_ofNat_of_zero_le m0
  have hM : M ≤ 4 := by omega
  have HTI : Hid (TabI w w5 g A n c K N 0 (.slice (some ⟨P3, 0, none⟩) 1 1) [(R3, N, c3)] [p0]) := ⟨HP.out.kept_ hg5 (fun i e => by cases e; omega), ⟨by simp, fun r hr => by rw [List.mem_singleton] at hr; subst hr; exact ⟨by have := HPL.out; omega, HP0.out⟩⟩, rfl, ⟨p0, rfl, HPL.out⟩, fun r hr => by rw [List.mem_singleton] at hr; subst hr; rw [HPL.out]; omega, hs5.more (by omega), grown_trans HG3.out hg5⟩
  clear hs5 hg5 HS3 HG3 HP HPL HP0 m0 m1'
  go_wp2_with fail
  go_loopg [5, 19] M (fun gk v5 v19 wr => ∃ (k : Nat) (rs : List HdS) (T : List (List Str)), Hid (k + gk = M) ∧ v19 = .int .i64 (k : Int) ∧ Hid (TabI w wr g A n c K N k v5 rs T))
  case atStart => exact ⟨0, _, _, show 0 + M = M by omega, rfl, HTI⟩
  case round =>
    obtain ⟨k, rs, T, HK, rfl, HI⟩ := hrel
    clear HTI
    have hkM : k ≤ M := by have := HK.out; omega
    have hgr := HI.out.st.lt
    have hwr := HI.out.gr.size
    by_cases hlt : k < M
    · have e1 : IntKind.i32.wrap (97 + (k : Int)) = 97 + (k : Int) := IntWalk.i32_in _ (by omega)
      have e2 : IntKind.i64.wrap ((N : Int) - 1) = (N : Int) - 1 := IntWalk.i64_in _ (by omega)
      have HID : Hid ((⟨#[107]⟩ ++ Utf8.encode (97 + (k : Int)) : ByteArray).data.toList.length ≤ 20) := by
        show (⟨#[107]⟩ ++ Utf8.encode (97 + (k : Int)) : ByteArray).size ≤ 20
        have := encode_size_le (97 + (k : Int))
        rw [ByteArray.size_append]
        show 1 + _ ≤ _
        omega
      have p1 : ∀ (wx : World), (Op.stringOp .add ⟨#[107]⟩ (Utf8.encode (97 + (k : Int)))).run Tryz.prog wx = .ok (.string (⟨#[107]⟩ ++ Utf8.encode (97 + (k : Int)))) wx := fun wx => run_string_add_sum wx _ _ (by have := encode_size_le (97 + (k : Int)); have : (⟨#[107]⟩ : ByteArray).size = 1 := rfl; omega)
      generalize (⟨#[107]⟩ ++ Utf8.encode (97 + (k : Int)) : ByteArray) = id1 at *
      go_upto_region 8 with (fail)
      have HR0 := Lib.hid (one_str wr wr.heap.size id1 (Nat.le_refl _))
      have HST0 := Lib.hid (HI.out.st.alloc (.cells #[.string id1] 9))
      have HGA : Hid (wr.grownBy (wr.alloc (.cells #[.string id1] 9)) (some g)) := grown_alloc (World.grownBy.refl _ _) _
      generalize wr.alloc (.cells #[.string id1] 9) = w7 at *
      obtain ⟨gko, rfl⟩ : ∃ gko : Nat, gko = gk := ⟨_, rfl⟩
      obtain ⟨wo, rfl⟩ : ∃ wo : World, wo = wr := ⟨_, rfl⟩
      clear p1 e1
      go_wp2_with fail
      go_loopg [7, 30] (N - 1) (fun gk v7 v30 wx => ∃ (j : Nat) (row : List Str), Hid (j + gk = N - 1) ∧ v30 = .int .i64 (j : Int) ∧ Hid (OwnStrs wx wo.heap.size v7 row) ∧ Hid (row.length = j + 1) ∧ Hid (∀ s ∈ row, s.length ≤ 20) ∧ Hid (StreamAt wx g A n c (K + 10 + 5 * k + j)) ∧ Hid (wo.grownBy wx (some g)))
      case atStart => exact ⟨0, _, show 0 + (N - 1) = N - 1 by omega, rfl, HR0.out, show _ = _ from rfl, (show ∀ _ _, _ from fun s hm => by rw [List.mem_singleton] at hm; subst hm; exact HID.out), HST0.out, HGA.out⟩
      case round =>
        obtain ⟨j, row, HJ, rfl, HR, HRL, HRS, HST, HGX⟩ := hrel
        clear HR0 HST0 HGA
        have hjN : j ≤ N - 1 := by have := HJ.out; omega
        by_cases hlt2 : j < N - 1
        · have hji : (j : Int) < (N : Int) - 1 := by omega
          have hglx := HST.out.lt
          go_wp2_with fail
          refine (one_any g A n c _ cellWords _ 9 9 _ (HST.out.alloc _) (by omega) rfl (by omega) (by omega) (by omega) (fun j hj => cells_strings _ cellWords _ j hj)).mono ?_
          rintro e w8 ⟨s8, rfl, hs8m, hs8, hg8⟩
          have HSL := Lib.hid (cellWords_ok s8 hs8m)
          have hg8' := grown_trans (grown_alloc HGX.out _) hg8
          have HR8 : Hid (OwnStrs w8 wo.heap.size u7 row) := World.ownsRow.kept (World.ownsRow.alloc HR.out _) hg8 (by rcases hb : u7.ownBlock with _ | b; exact .inl rfl; exact .inr (fun e => by cases e; have := (HR.out.lt g hb).1; omega))
          have hz8 := hg8'.size
          have hrl := HRL.out
          have HS8 := Lib.hid hs8
          have HG8 := Lib.hid hg8'
          clear hs8m hs8 hg8 hg8'
          go_wp2_with (at_builtin; refine append_elems strE_ok rfl _ _ rfl wo.heap.size _ row rfl (World.ownsRow.alloc HR8.out _) (some ⟨w8.heap.size, 0, none⟩) 1 1 [s8.data.toList] rfl (by have := one_elem (E := StrE) w8 s8.data.toList; rwa [show (StrE.enc s8.data.toList).toArray = #[Value.string s8] by show #[Value.string (bag s8.data.toList)] = _; rw [bag_of]] at this) (by simp; omega) (by simp; omega) ?_; intro v9 w9 hown9 hgrow9 _)
          have HR9 := Lib.hid hown9
          have HG9 : Hid (wo.grownBy w9 (some g)) := grown_row (grown_alloc HG8.out _) hgrow9 (fun i hi => (HR8.out.lt i hi).1)
          have HS9 : Hid (StreamAt w9 g A n c (K + 10 + 5 * k + (j + 1))) := ((HS8.out.alloc _).row_ hgrow9 (fun i hi => by have := (HR8.out.lt i hi).1; omega)).more (by omega)
          clear hown9 hgrow9
          go_wp2_with fail
          go_roundg (gk - 1)
          case measure => have := HJ.out; omega
          case rel => exact ⟨j + 1, _, show j + 1 + (gk - 1) = N - 1 by have := HJ.out; omega, by go_num, HR9.out, (show _ = _ by rw [List.length_append, hrl]; rfl), (show ∀ _ _, _ from fun s hm => by rcases List.mem_append.1 hm with hm | hm; exact HRS.out s hm; rw [List.mem_singleton] at hm; subst hm; exact HSL.out), HS9.out, HG9.out⟩
        · obtain ⟨R7, c7, rfl, -, -, -⟩ := HR.out.at_ strE_ok
          have HPX := Lib.hid (HI.out.par.kept_ HGX.out (fun i e => by cases e; omega))
          have HAP := Lib.hid (HI.out.par.newer (r := (R7, row.length, c7)) (fun b hb => (HR.out.lt b hb).1))
          have hrsl : rs.length ≤ 10 := by have := HI.out.par.len; have := HI.out.len; omega
          have hwz := HGX.out.size
          have hji : ¬ (j : Int) < (N : Int) - 1 := by omega
          have HLEN : Hid (row.length ≤ 40) := by show _ ≤ _; have := HRL.out; omega
          have HPOS : Hid (1 ≤ row.length) := by show _ ≤ _; have := HRL.out; omega
          clear HRL
          generalize hrl : row.length = rl at *
          have HRW := Lib.hid hrl
          clear hrl
          go_wp2_with (at_builtin; refine append_elems lineE_ok rfl _ _ rfl w.heap.size _ rs rfl (World.ownsRow.alloc HPX.out.own _) (some ⟨wr.heap.size, 0, none⟩) 1 1 [(R7, rl, c7)] rfl (one_elem (E := LineE) wr (R7, rl, c7)) (by simp; omega) (by simp; omega) ?_; intro v9 w9 hown9 hgrow9 _)
          have HB1 := (Below.refl wr.heap.size wr).alloc (Nat.le_refl _) (.cells (LineE.enc (R7, rl, c7)).toArray LineE.t)
          have HN : Hid (TabI w w9 g A n c K N (k + 1) v9 (rs ++ [(R7, rl, c7)]) (T ++ [row])) := by
            have hrw : HdS.v (R7, rl, c7) = .slice R7 rl c7 := rfl
            refine ⟨(HPX.out.below HB1).push (by rw [hrw]; exact World.ownsRow.alloc (HR.out.base_ hwr) _) HAP.out hown9 hgrow9, HI.out.tiny.push (by rw [HI.out.len]; exact Nat.le_refl _) (by omega) ⟨by rw [HRW.out]; exact HLEN.out, HRS.out⟩, by rw [List.length_append, HI.out.len]; rfl, ?_, ?_, ?_, ?_⟩
            · obtain ⟨p, hp, hpl⟩ := HI.out.first
              exact ⟨p, by rw [List.getElem?_append_left (by have := (List.getElem?_eq_some_iff.1 hp).1; omega)]; exact hp, hpl⟩
            · intro r hr
              rcases List.mem_append.1 hr with hr | hr
              · exact HI.out.pos r hr
              · rw [List.mem_singleton] at hr; subst hr; rw [HRW.out]; exact HPOS.out
            · exact ((HST.out.alloc _).row_ hgrow9 (fun i hi => by have := (HPX.out.own.lt i hi).1; omega)).more (by omega)
            · exact grown_row (grown_alloc (grown_trans HI.out.gr HGX.out) _) hgrow9 (fun i hi => (HPX.out.own.lt i hi).1)
          clear hown9 hgrow9
          go_wp2_with fail
          go_roundg (gko - 1)
          case measure => have := HK.out; omega
          case rel => exact ⟨k + 1, _, _, show k + 1 + (gko - 1) = M by have := HK.out; omega, by go_num, HN.out⟩
    · have hTl : T.length ≤ 5 := by have := HI.out.len; omega
      obtain ⟨wo, rfl⟩ : ∃ wo : World, wo = wr := ⟨_, rfl⟩
      go_wp2_with fail
      refine (next_any g A n c _ 14 wo HI.out.st (by omega) (by omega)).mono ?_
      rintro e w6 ⟨z, rfl, hz0, hz1, hs6, hg6⟩
      have HP6 := Lib.hid (HI.out.par.kept_ hg6 (fun i e => by cases e; omega))
      have HG6 := Lib.hid (grown_trans HI.out.gr hg6)
      have HS6 := Lib.hid hs6
      have HTI := Lib.hid HI.out.tiny
      have HFI := Lib.hid HI.out.first
      have HPO := Lib.hid HI.out.pos
      have HTL := Lib.hid HI.out.len
      have hsz6 := HG6.out.size
      clear hs6 hg6 HI hz1
      by_cases hza : z = 0
      · subst hza
        have e1 : IntKind.i64.wrap ((N : Int) + 1) = (N : Int) + 1 := IntWalk.i64_in _ (by omega)
        have hgl6 := HS6.out.lt
        have hrsl : rs.length ≤ 10 := by have := HP6.out.len; omega
        go_wp2_with fail
        refine (pick_any g A n c _ [0, (N : Int), (N : Int) + 1, 31] w6.heap.size 4 4 _ (HS6.out.alloc _) (by omega) rfl (by omega) (by omega) (by omega) (fun j hj => ?_)).mono ?_
        · rw [World.cell?_alloc_at _ _ _ _ rfl]
          match j, hj with
          | 0, _ => rfl
          | 1, _ => rfl
          | 2, _ => rfl
          | 3, _ => rfl
        rintro e w8 ⟨m, rfl, hm, hs8, hg8⟩
        have hmr : 0 ≤ m ∧ m ≤ 31 := by simp at hm; omega
        obtain ⟨m, rfl⟩ := Int.eq_ofNat_of_zero_le hmr.1
        have hm31 : m ≤ 31 := by omega
        have HG8 := Lib.hid (grown_trans (grown_alloc HG6.out _) hg8)
        have HP8 : Hid (ParasAt w8 w.heap.size u5 rs T) := (HP6.out.below ((Below.refl _ _).alloc (Nat.le_refl _) _)).kept_ hg8 (fun i e => by cases e; omega)
        have HS8 := Lib.hid hs8
        obtain ⟨wb, hmk, hownb, hbb, hzb⟩ := made_owns strE_ok [] rfl w8 m (by omega)
        have hmk' : (Instr.makeSlice 53 (.int .i64 (m : Int)) (.int .i64 (m : Int))).run Tryz.prog w8 = .ok (.slice (some ⟨w8.heap.size, 0, none⟩) m m) wb := hmk
        have HOB := Lib.hid hownb
        have hz8 := HG8.out.size
        have HPB := Lib.hid (HP8.out.below hbb)
        have HAP := Lib.hid (HP8.out.newer (r := (some ⟨w8.heap.size, 0, none⟩, m, m)) (fun b hb => (hownb.lt b hb).1))
        have HSB := Lib.hid (HS8.out.below hbb)
        have HGB := Lib.hid (grown_below HG8.out hbb)
        have hzb' : w.heap.size ≤ wb.heap.size := by omega
        clear hm hmr hs8 hg8 hmk hownb hbb HP8 HS8 HG8 hzb
        go_wp2_with (at_builtin; refine append_elems lineE_ok rfl _ _ rfl w.heap.size _ rs rfl (World.ownsRow.alloc HPB.out.own _) (some ⟨wb.heap.size, 0, none⟩) 1 1 [(some ⟨w8.heap.size, 0, none⟩, m, m)] rfl (one_elem (E := LineE) wb (some ⟨w8.heap.size, 0, none⟩, m, m)) (by simp; omega) (by simp; omega) ?_; intro v9 w9 hown9 hgrow9 _)
        have HB1 := (Below.refl wb.heap.size wb).alloc (Nat.le_refl _) (.cells (LineE.enc (some ⟨w8.heap.size, 0, none⟩, m, m)).toArray LineE.t)
        have HF : Hid (RowsPost w g A n c K (.returned v9) w9) := by
          refine ⟨_, _, T ++ [List.replicate m []], rfl, (HPB.out.below HB1).push (r := (some ⟨w8.heap.size, 0, none⟩, m, m)) (World.ownsRow.alloc (HOB.out.base_ hz8) _) HAP.out hown9 hgrow9, HTI.out.push (by rw [HTL.out]; exact Nat.le_refl _) (by omega) ⟨by rw [List.length_replicate]; omega, fun s hs => by rw [List.eq_of_mem_replicate hs]; simp⟩, ?_, ?_⟩
          · exact ((HSB.out.alloc _).row_ hgrow9 (fun i hi => by have := (HPB.out.own.lt i hi).1; omega)).more (by omega)
          · exact grown_row (grown_alloc HGB.out _) hgrow9 (fun i hi => (HPB.out.own.lt i hi).1)
        clear hown9 hgrow9
        go_wp2_with fail
        go_ret
        exact HF.out
      · have qa : (z == 0) = false := by simpa using hza
        by_cases hzb : z = 1
        · subst hzb
          clear hza
          have hT0 : 0 < T.length := by have := HTL.out; omega
          obtain ⟨p, hp, hpN⟩ := HFI.out
          obtain ⟨GH, cH, rfl, hGb, hGl, hHc⟩ := HP6.out.headAt hT0
          obtain ⟨G, cG, hr, hGGb, hGGl, -⟩ := HP6.out.rowAt hp (by omega)
          have hne : GH ≠ G := head_ne_row HP6.out rfl hr hp
          have hck : w6.cell? ⟨GH, 0, none⟩ = some (.slice (some ⟨G, 0, none⟩) p.length cG) := hHc 0 _ hr
          rw [hpN] at hr hck
          have HPX := Lib.hid hp
          have HPLN := Lib.hid hpN
          have HRX := Lib.hid hr
          have HHELD : Hid (∀ w', w6.grownBy w' (some g) → w'.cell? ⟨GH, 0, none⟩ = some (.slice (some ⟨G, 0, none⟩) N cG)) := fun w' hg => by
            have := hg.cell hck (by simp; omega)
            exact this
          have HCL : Hid (∀ w', w6.grownBy w' (some g) → ∀ j, j < N → (∃ s0 : ByteArray, w'.cell? ⟨G, j, none⟩ = some (.string s0)) ∧ w'.frozen? ⟨G, j, none⟩ = false) := fun w' hg j hj => by
            have hpp := HP6.out.kept_ hg (fun i e => by cases e; omega)
            obtain ⟨G', cG', hr', -, -, hcells⟩ := hpp.rowAt HPX.out (by omega)
            have hGG : G' = G := by
              have h1 := HRX.out
              rw [← HPLN.out, hr'] at h1
              cases h1
              rfl
            subst hGG
            obtain ⟨k1, k2⟩ := hcells j (by omega)
            exact ⟨⟨_, k1⟩, k2⟩
          have HSTO : Hid (∀ (w' : World) (j : Nat) (u : Value), w'.cell? ⟨GH, 0, none⟩ = some (.slice (some ⟨G, 0, none⟩) N cG) → (w'.setCell ⟨G, j, none⟩ u).cell? ⟨GH, 0, none⟩ = some (.slice (some ⟨G, 0, none⟩) N cG)) := fun w' j u h => by
            rw [World.cell?_of_block (Below.heap_setCell w' ⟨G, j, none⟩ u GH hne)]
            exact h
          have hst := HS6.out
          have hTl5 : T.length ≤ 5 := hTl
          clear hp hr hHc hpN
          generalize T.length = tl at *
          go_upto_region 18 with (fail)
          have hck0 := HHELD.out w6 (World.grownBy.refl _ _)
          go_region_held3 (fun w' => w'.cell? ⟨GH, 0, none⟩ = some (.slice (some ⟨G, 0, none⟩) N cG))
            (first | assumption | exact HHELD.out _ (grown_drewN (World.grownBy.refl _ _) 1) | exact HHELD.out _ (grown_alloc (grown_drewN (World.grownBy.refl _ _) 1) _) | exact HHELD.out _ (grown_drewN (grown_alloc (World.grownBy.refl _ _) _) 1) | exact HHELD.out _ hgn | exact HHELD.out _ (grown_alloc hgn _) | exact HHELD.out _ hgo | exact HSTO.out _ _ _ (HHELD.out _ hgo) | fail)
            (first
              | (go_at_call 28; (with_reducible refine Calls.mono (next_any g A n c (K + 10 + 5 * k + 1) (N : Int) _ ?_ (by omega) (by omega)) ?_); (first | exact StreamAt.drewN' hst 1 | exact (StreamAt.drewN' hst 1).alloc _ | exact StreamAt.drewN' (hst.alloc _) 1 | fail); rintro e wn ⟨j, rfl, hj0, hj1, hsn, hgn0⟩; have hj1' := hj1 (by omega); obtain ⟨j, rfl⟩ := Int.eq_ofNat_of_zero_le hj0; clear hj1 hj0; (first | have hgn : w6.grownBy wn (some g) := grown_trans (grown_drewN (World.grownBy.refl _ _) 1) hgn0 | have hgn : w6.grownBy wn (some g) := grown_trans (grown_alloc (grown_drewN (World.grownBy.refl _ _) 1) _) hgn0 | have hgn : w6.grownBy wn (some g) := grown_trans (grown_drewN (grown_alloc (World.grownBy.refl _ _) _) 1) hgn0 | fail))
              | (go_at_call 29; (with_reducible refine Calls.mono (one_any g A n c (K + 10 + 5 * k + 1 + 1) [⟨#[105, 100]⟩, ⟨#[97]⟩, ⟨#[122]⟩] _ 3 3 _ ?_ (by omega) rfl (by omega) (by omega) ?_ ?_) ?_); (first | exact hsn.alloc _ | exact hsn | fail); (first | (have := hsn.lt; omega) | (have := hst.lt; omega)); (first | exact fun j hj => cells_strings _ [⟨#[105, 100]⟩, ⟨#[97]⟩, ⟨#[122]⟩] _ j hj | exact fun j hj => hgn0.cell (cells_strings _ [⟨#[105, 100]⟩, ⟨#[97]⟩, ⟨#[122]⟩] _ j hj) (by have := hst.lt; simp; omega) | fail); rintro e wo2 ⟨so, rfl, hso, hso2, hgo0⟩; (first | have hgo : w6.grownBy wo2 (some g) := grown_trans (grown_alloc hgn _) hgo0 | have hgo : w6.grownBy wo2 (some g) := grown_trans hgn hgo0 | fail); have hcl := HCL.out wo2 hgo j (by omega); obtain ⟨⟨s0, hcl1⟩, hcl2⟩ := hcl))
          all_goals
            have hsl : so.data.toList.length ≤ 20 := by
              simp at hso
              rcases hso with rfl | rfl | rfl <;> decide
            have HF : Hid (RowsPost w g A n c K (.returned (.slice (some ⟨GH, 0, none⟩) tl cH)) (wo2.setCell ⟨G, j, none⟩ (.string so))) := ⟨_, rs, T.set 0 (p.set j so.data.toList), rfl, (HP6.out.kept_ hgo (fun i e => by cases e; omega)).setAt so HRX.out HPX.out (by rw [HPLN.out]; omega), HTI.out.set HPX.out hsl, (hso2.row_ (grown_setCell _ _ _ _) (fun q hq => by cases hq; omega)).more (by omega), grown_row (grown_trans HG6.out hgo) (grown_setCell _ _ _ _) (fun q hq => by cases hq; exact hGGb)⟩
            clear hso hcl1 hcl2
            go_wp2_with fail
            go_ret
            exact HF.out
        · have qb : (z == 1) = false := by simpa using hzb
          by_cases hzc : z = 2
          · subst hzc
            clear hza hzb
            have hT0 : 0 < T.length := by have := HTL.out; omega
            obtain ⟨GH, cH, rfl, hGb, hGl, hHc⟩ := HP6.out.headAt hT0
            have HNE := Lib.hid (fun (k : Nat) (p : List Str) (G n c : Nat) (hr : rs[k]? = some (some ⟨G, 0, none⟩, p.length, c)) (hp : T[k]? = some p) => head_ne_row HP6.out rfl hr hp)
            clear hHc
            go_wp2_with fail
            refine (next_any g A n c _ (T.length : Int) w6 HS6.out (by omega) (by omega)).mono ?_
            rintro e w7 ⟨x, rfl, hx0, hx1, hs7, hg7⟩
            have hx1' := hx1 (by omega)
            obtain ⟨x, rfl⟩ := Int.eq_ofNat_of_zero_le hx0
            have hxl : x < T.length := by omega
            have HP7 := Lib.hid (HP6.out.kept_ hg7 (fun i e => by cases e; omega))
            have HG7 := Lib.hid (grown_trans HG6.out hg7)
            obtain ⟨p, hp⟩ : ∃ p, T[x]? = some p := ⟨_, List.getElem?_eq_getElem hxl⟩
            have hp1 := HPO.out p (List.mem_of_getElem? hp)
            have hp40 := (HTI.out.2 p (List.mem_of_getElem? hp)).1
            obtain ⟨G, cG, hr, hGGb, hGGl, -⟩ := HP7.out.rowAt hp (by omega)
            have hck : w7.cell? ⟨GH, x, none⟩ = some (.slice (some ⟨G, 0, none⟩) p.length cG) := by
              obtain ⟨GH', cH', hv', -, -, hHc'⟩ := HP7.out.headAt hT0
              simp only [Value.slice.injEq, Option.some.injEq, Addr.mk.injEq] at hv'
              obtain ⟨⟨rfl, _⟩, _, _⟩ := hv'
              exact hHc' x _ hr
            have HPX := Lib.hid hp
            have HRX := Lib.hid hr
            clear hx1 hx0 hg7 hp hr
            generalize hpl : p.length = pl at *
            have HPLN := Lib.hid hpl
            clear hpl
            generalize T.length = tl at *
            go_wp2_with fail
            refine (next_any g A n c _ (pl : Int) w7 hs7 (by omega) (by omega)).mono ?_
            rintro e w8 ⟨j, rfl, hj0, hj1, hs8, hg8⟩
            have hj1' := hj1 (by omega)
            obtain ⟨j, rfl⟩ := Int.eq_ofNat_of_zero_le hj0
            have hjl : j < pl := by omega
            have HP8 := Lib.hid (HP7.out.kept_ hg8 (fun i e => by cases e; omega))
            have HG8 := Lib.hid (grown_trans HG7.out hg8)
            have hgl8 := hs8.lt
            clear hj1 hj0 hg8 hs7 hck
            go_wp2_with fail
            refine (one_any g A n c _ [⟨#[97, 9, 98]⟩, ⟨#[255]⟩, ⟨#[107, 97]⟩] w8.heap.size 3 3 _ (hs8.alloc _) (by omega) rfl (by omega) (by omega) (by omega) (fun j hj => cells_strings w8 [⟨#[97, 9, 98]⟩, ⟨#[255]⟩, ⟨#[107, 97]⟩] _ j hj)).mono ?_
            rintro e w9 ⟨sx, rfl, hsx, hs9, hg9⟩
            have hsl : sx.data.toList.length ≤ 20 := by
              simp at hsx
              rcases hsx with rfl | rfl | rfl <;> decide
            have HP9 : Hid (ParasAt w9 w.heap.size _ rs T) := (HP8.out.below ((Below.refl _ _).alloc (Nat.le_refl _) _)).kept_ hg9 (fun i e => by cases e; omega)
            have HG9 := Lib.hid (grown_trans (grown_alloc HG8.out _) hg9)
            obtain ⟨G', cG', hr', -, -, hcells⟩ := HP9.out.rowAt HPX.out (by rw [HPLN.out]; omega)
            have hGG : G' = G := by
              have h1 := HRX.out
              rw [← HPLN.out, hr'] at h1
              cases h1
              rfl
            subst hGG
            obtain ⟨k1, k2⟩ := hcells j (by rw [HPLN.out]; exact hjl)
            have HF : Hid (RowsPost w g A n c K (.returned (.slice (some ⟨GH, 0, none⟩) tl cH)) (w9.setCell ⟨G', j, none⟩ (.string sx))) := ⟨_, rs, T.set x (p.set j sx.data.toList), rfl, HP9.out.setAt sx hr' HPX.out (by rw [HPLN.out]; exact hjl), HTI.out.set HPX.out hsl, (hs9.row_ (grown_setCell _ _ _ _) (fun q hq => by cases hq; omega)).more (by omega), grown_row HG9.out (grown_setCell _ _ _ _) (fun q hq => by cases hq; exact hGGb)⟩
            clear hcells hsx hg9 hs9 hr'
            go_wp2_with fail
            go_ret
            exact HF.out
          · have qc : (z == 2) = false := by simpa using hzc
            by_cases hzd : z = 3
            · subst hzd
              clear hza hzb hzc
              have HF : Hid (RowsPost w g A n c K (.returned (.slice none 0 0)) w6) := ⟨_, [], [], rfl, ParasAt.nil _ _, ⟨by simp, fun r hr => by cases hr⟩, HS6.out.more (by omega), HG6.out⟩
              go_wp2_with fail
              go_ret
              exact HF.out
            · have qd : (z == 3) = false := by simpa using hzd
              clear hza hzb hzc hzd
              have HF : Hid (RowsPost w g A n c K (.returned u5) w6) := ⟨_, rs, T, rfl, HP6.out, HTI.out, HS6.out.more (by omega), HG6.out⟩
              go_wp2_with fail
              go_ret
              exact HF.out
end Go.Proofs.YtbipkkebkddegaaGreatDoor
