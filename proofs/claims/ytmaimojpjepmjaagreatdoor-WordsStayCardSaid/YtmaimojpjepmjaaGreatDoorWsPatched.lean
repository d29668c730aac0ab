
/-
  near.patched returns, whatever changes a stream has made.
-/
import Derived.Test.YtmaimojpjepmjaaGreatDoorWsTok
namespace Go.Proofs.YtmaimojpjepmjaaGreatDoor
open Go.RowKit

theorem slT_of_own {w : World} {base : Nat} {s : Sl} {l : List (List UInt8)} (h : OwnStrs w base s.v l) : StrsAt w s.1 s.2.1 s.2.2 l := own_is h
def addN (cs : List TokC) (k : Nat) : Nat := ((cs.take k).map fun c => c.2.2.length).sum
def addL (cs : List TokC) (k : Nat) : Nat := ((cs.take k).map fun c => lensL c.2.2).sum
theorem addN_snoc {cs : List TokC} {k : Nat} {c : TokC} (h : cs[k]? = some c) : addN cs (k + 1) = addN cs k + c.2.2.length := by
  obtain ⟨h1, h2⟩ := List.getElem?_eq_some_iff.1 h
  unfold addN; rw [List.take_succ_eq_append_getElem h1, h2]; simp
theorem addL_snoc {cs : List TokC} {k : Nat} {c : TokC} (h : cs[k]? = some c) : addL cs (k + 1) = addL cs k + lensL c.2.2 := by
  obtain ⟨h1, h2⟩ := List.getElem?_eq_some_iff.1 h
  unfold addL; rw [List.take_succ_eq_append_getElem h1, h2]; simp
theorem sum_take_le (f : TokC → Nat) : ∀ (l : List TokC) (k : Nat), ((l.take k).map f).sum ≤ (l.map f).sum
  | [], k => by simp
  | a :: l, 0 => by simp
  | a :: l, k + 1 => by have := sum_take_le f l k; simp only [List.take_succ_cons, List.map_cons, List.sum_cons]; omega
theorem lensL_app (a b : List (List UInt8)) : lensL (a ++ b) = lensL a + lensL b := by simp [lensL]
theorem lensL_seg (x : List (List UInt8)) (i j : Nat) (h : i ≤ j) : lensL (x.take i) + lensL (seg x i j) = lensL (x.take j) := by
  rw [← lensL_app]
  unfold seg
  obtain ⟨k, rfl⟩ : ∃ k, j = i + k := ⟨j - i, by omega⟩
  rw [List.take_add, Nat.add_sub_cancel_left]
theorem lensL_take_le (x : List (List UInt8)) {i j : Nat} (h : i ≤ j) : lensL (x.take i) ≤ lensL (x.take j) := by have := lensL_seg x i j h; omega

set_option maxHeartbeats 6400000 in
set_option maxRecDepth 100000 in
theorem patched_all (s : ByteArray) (A : Option Addr) (n c : Nat) (rs : List RawC) (cs : List TokC) (w : World) (hs : s.size ≤ 1000) (hM : MaxAt w)
    (hat : ElemsAt ChgE w A n c rs) (hrd : ChgsIs w rs cs) (hbd : ChgBd cs) (hok : ∀ c ∈ cs, TokC.Ok c) :
    Calls Tryz.prog 42 #[.string s, .slice A n c] w fun e w' => (∃ v z, e = .returned (.tuple #[v, .int .i64 z])) ∧ Below w.heap.size w w' := by
  have hxl := tokL_lens s.data.toList
  have hxn := tokL_length s.data.toList
  have hsz : s.data.toList.length = s.size := by simp
  rw [hsz] at hxl hxn
  clear hsz
  have HAT := Lib.hid hat; clear hat
  have HRD := Lib.hid hrd; clear hrd
  have HBD := Lib.hid hbd; clear hbd
  have HOK := Lib.hid hok; clear hok
  have HAN : Hid (∀ k, addN cs k ≤ 20000) := fun k => Nat.le_trans (sum_take_le _ cs k) HBD.out.addn
  have HAL : Hid (∀ k, addL cs k ≤ 50000) := fun k => Nat.le_trans (sum_take_le _ cs k) HBD.out.addl
  have HTK := Lib.hid (tokens_any s w (by omega) hM)
  clear hM
  go_enter Tryz.func42, Tryz.ntmps42
  go_wp2_with fail
  refine HTK.out.mono ?_
  rintro e w1 ⟨v6, rfl, hown6, hb1⟩
  obtain ⟨A6, c6, rfl, hq1, hx6, hq3⟩ := hown6.at_ strE_ok
  clear hq1 hq3 hown6 HTK
  have HX6 := Lib.hid hx6; clear hx6
  have hx62 := HX6.out.2.1
  generalize tokL s.data.toList = x at *
  have HN := Lib.hid HAT.out.1
  have HRL := Lib.hid HRD.out.1
  have hn : n ≤ 102 := by have := HN.out; have := HRL.out; have := HBD.out.len; omega
  have HB1 := Lib.hid hb1; clear hb1
  go_wp2_with fail
  go_loopg [8, 9, 23] n (fun gk v8 v9 v23 wr => ∃ (k sa : Nat) (so : List (List UInt8)), Hid (k + gk = n) ∧ v23 = .int .i64 k ∧ v9 = .int .i64 (sa : Int) ∧ Hid (OwnStrs wr w1.heap.size v8 so) ∧ Hid (Below w1.heap.size w1 wr) ∧ sa ≤ x.length ∧ so.length ≤ sa + addN cs k ∧ lensL so ≤ lensL (x.take sa) + addL cs k ∧ (k = 0 → sa = 0))
  case atStart => exact ⟨0, 0, [], show 0 + n = n by omega, rfl, rfl, Owns.nil _ _, Below.refl _ _, Nat.zero_le _, by simp, by simp [lensL], fun _ => rfl⟩
  case round =>
    obtain ⟨k, sa, so, HK, rfl, rfl, HO, HB, hsa, hso, hsl, hk0⟩ := hrel
    have hkn : k ≤ n := by have := HK.out; omega
    have HSL := Lib.hid hsl; clear hsl
    have HK0 := Lib.hid hk0; clear hk0
    have han := HAN.out k
    by_cases hlt : k < n
    · obtain ⟨r, hr⟩ : ∃ r, rs[k]? = some r := ⟨_, List.getElem?_eq_getElem (by have := HN.out; omega)⟩
      obtain ⟨ch, hch⟩ : ∃ ch, cs[k]? = some ch := ⟨_, List.getElem?_eq_getElem (by have := HN.out; have := HRL.out; omega)⟩
      obtain ⟨hr1, hrD, hrE⟩ := HRD.out.2 k r ch hr hch
      have hmem := List.mem_of_getElem? hch
      have hbA := HBD.out.at_ ch hmem
      have hbD := HBD.out.drop ch hmem
      have hbE := HBD.out.add ch hmem
      have hokc := HOK.out ch hmem
      have HAS : Hid (addN cs (k + 1) = addN cs k + ch.2.2.length) := addN_snoc hch
      have HLS : Hid (addL cs (k + 1) = addL cs k + lensL ch.2.2) := addL_snoc hch
      obtain ⟨gA, oA, rfl, hgA, hcA⟩ := HAT.out.2.2.2 (by omega)
      have hbw : Below w.heap.size w wr := below_trans' HB1.out HB.out
      have c0 := (hbw.cell (p := ⟨gA, oA + k * ChgE.size + 0, none⟩) hgA).trans (hcA k r 0 _ hr rfl)
      have c1 := (hbw.cell (p := ⟨gA, oA + k * ChgE.size + 1, none⟩) hgA).trans (hcA k r 1 _ hr rfl)
      have c2 := (hbw.cell (p := ⟨gA, oA + k * ChgE.size + 2, none⟩) hgA).trans (hcA k r 2 _ hr rfl)
      have hsz : ChgE.size = 3 := rfl
      rw [hsz] at c0 c1 c2
      rw [Nat.add_zero] at c0
      clear hsz hcA hmem hr hch
      obtain ⟨z, ⟨D, dn, dc⟩, ⟨F, fn, fc⟩⟩ := r
      obtain ⟨a, d, e⟩ := ch
      simp only at hr1 hrD hrE hbA hbD hbE HAS HLS c0 c1 c2
      subst hr1
      obtain rfl : dn = d.length := hrD.1
      obtain rfl : fn = e.length := hrE.1
      have c1' : wr.cell? ⟨gA, oA + k * 3 + 1, none⟩ = some (.slice D d.length dc) := c1
      have c2' : wr.cell? ⟨gA, oA + k * 3 + 2, none⟩ = some (.slice F e.length fc) := c2
      clear c1 c2
      have hdl := hbD.1
      have hel := hbE.1
      have HD : Hid (∀ t ∈ d, TokOk t) := hokc.1
      have HE : Hid (∀ t ∈ e, TokOk t) := hokc.2
      have HRDD := Lib.hid hrD; clear hrD
      have HREE := Lib.hid hrE; clear hrE
      have hz0 := hbA.1
      have hz1 := hbA.2
      clear hbA hbD hbE hokc
      have HIN := Lib.hid (fun wx => in_any z 0 (x.length : Int) wx)
      go_wp2_with fail
      refine (HIN.out _).mono ?_
      rintro e' w' ⟨rfl, rfl⟩
      have hblk : (wr.alloc (.cells #[.int .i64 z, .slice D d.length dc, .slice F e.length fc] 55)).heap[wr.heap.size]? = some (.cells #[.int .i64 z, .slice D d.length dc, .slice F e.length fc] 55 (0, 0)) := heap_alloc_new wr _
      have HO2 : Hid (OwnStrs (wr.alloc (.cells #[.int .i64 z, .slice D d.length dc, .slice F e.length fc] 55)) w1.heap.size u8 so) := World.ownsRow.alloc HO.out _
      have hb2 : Below w1.heap.size w1 (wr.alloc (.cells #[.int .i64 z, .slice D d.length dc, .slice F e.length fc] 55)) := HB.out.alloc HB.out.size _
      have hP : wr.heap.size < (wr.alloc (.cells #[.int .i64 z, .slice D d.length dc, .slice F e.length fc] 55)).heap.size := by simp
      clear c0 c1' c2' HO HB hbw HIN
      generalize wr.heap.size = P at *
      generalize wr.alloc (.cells #[.int .i64 z, .slice D d.length dc, .slice F e.length fc] 55) = w2 at *
      have HB2 := Lib.hid hb2; clear hb2
      by_cases hin : 0 ≤ z ∧ z ≤ (x.length : Int)
      · have hib : inB z 0 (x.length : Int) = true := by simp [inB, hin.1, hin.2]
        rw [hib]
        obtain ⟨an, rfl⟩ := Int.eq_ofNat_of_zero_le hin.1
        have han2 : an ≤ x.length := by have := hin.2; omega
        clear hib hin hz0 hz1
        have e0 : w2.cell? ⟨P, 0, none⟩ = some (.int .i64 (an : Int)) := by rw [cell_of_row w2 P 0 _ _ _ hblk]; rfl
        have e1 : w2.cell? ⟨P, 1, none⟩ = some (.slice D d.length dc) := by rw [cell_of_row w2 P 1 _ _ _ hblk]; rfl
        have e2 : w2.cell? ⟨P, 2, none⟩ = some (.slice F e.length fc) := by rw [cell_of_row w2 P 2 _ _ _ hblk]; rfl
        have HD2 : Hid (StrsAt w2 D d.length dc d) := HRDD.out.keep (below_trans' HB1.out HB2.out)
        have HE2 : Hid (StrsAt w2 F e.length fc e) := HREE.out.keep (below_trans' HB1.out HB2.out)
        go_upto_region 12 with (fail)
        go_cut [35] (fun v wx => ∃ b, v = .bool b ∧ Hid (b = false → sa ≤ an) ∧ w2 = wx)
        case first =>
          by_cases hk0 : k = 0
          · subst hk0
            go_wp2_with fail
            go_meet
            exact ⟨_, rfl, (show _ → _ from fun _ => (by have h := HK0.out; simp at h; omega)), rfl⟩
          · have h2 : (0 : Int) < (k : Int) := by omega
            by_cases h3 : (an : Int) ≤ (sa : Int)
            · go_wp2_with fail
              go_meet
              exact ⟨true, by first | rfl | (simp; omega), (show _ → _ from fun h => (by cases h)), rfl⟩
            · go_wp2_with fail
              go_meet
              exact ⟨false, by first | rfl | (simp; omega), (show _ → _ from fun _ => (by omega)), rfl⟩
        case rest =>
          obtain ⟨b, rfl, HSA, rfl⟩ := hcut
          cases b
          · have hsan := HSA.out rfl
            clear HSA
            go_upto_region 14 with (fail)
            go_cut [44] (fun v wx => ∃ b, v = .bool b ∧ Below w2.heap.size w2 wx)
            case first =>
              have HCD := Lib.hid (containsFunc_all D d.length dc d w2 HD2.out (by omega) HD.out)
              have HCE := Lib.hid (fun wx (h : StrsAt wx F e.length fc e) => containsFunc_all F e.length fc e wx h (by omega) HE.out)
              by_cases hd0 : d.length = 0
              · have hq1 : ((d.length : Int) == 0) = true := by simp; exact List.eq_nil_of_length_eq_zero hd0
                clear hd0
                by_cases he0 : e.length = 0
                · have hq2 : ((e.length : Int) == 0) = true := by simp; exact List.eq_nil_of_length_eq_zero he0
                  clear he0
                  go_wp2_with fail
                  go_meet
                  exact ⟨_, rfl, Below.refl _ _⟩
                · have hq2 : ((e.length : Int) == 0) = false := by simp; intro h; exact he0 (by rw [h]; rfl)
                  clear he0
                  go_wp2_with fail
                  refine HCD.out.mono ?_
                  rintro e' w3 ⟨bb, rfl, hb3⟩
                  have e2' := (hb3.cell (p := ⟨P, 2, none⟩) hP).trans e2
                  cases bb
                  · go_wp2_with fail
                    refine (HCE.out w3 (HE2.out.keep hb3)).mono ?_
                    rintro e' w4 ⟨bb, rfl, hb4⟩
                    go_wp2_with fail
                    go_meet
                    exact ⟨_, rfl, below_trans' hb3 hb4⟩
                  · go_wp2_with fail
                    go_meet
                    exact ⟨_, rfl, hb3⟩
              · have hq1 : ((d.length : Int) == 0) = false := by simp; intro h; exact hd0 (by rw [h]; rfl)
                clear hd0
                go_wp2_with fail
                refine HCD.out.mono ?_
                rintro e' w3 ⟨bb, rfl, hb3⟩
                have e2' := (hb3.cell (p := ⟨P, 2, none⟩) hP).trans e2
                cases bb
                · go_wp2_with fail
                  refine (HCE.out w3 (HE2.out.keep hb3)).mono ?_
                  rintro e' w4 ⟨bb, rfl, hb4⟩
                  go_wp2_with fail
                  go_meet
                  exact ⟨_, rfl, below_trans' hb3 hb4⟩
                · go_wp2_with fail
                  go_meet
                  exact ⟨_, rfl, hb3⟩
            case rest =>
              obtain ⟨b, rfl, hb3⟩ := hcut
              obtain ⟨w3, rfl⟩ : ∃ w3 : World, w3 = wc := ⟨_, rfl⟩
              have hblk3 : w3.heap[P]? = some (.cells #[.int .i64 (an : Int), .slice D d.length dc, .slice F e.length fc] 55 (0, 0)) := (hb3.block P hP).trans hblk
              have HB13 : Hid (Below w1.heap.size w1 w3) := HB2.out.trans (hb3.mono HB2.out.size)
              have HO3 : Hid (OwnStrs w3 w1.heap.size u8 so) := HO2.out.below_ hb3
              have hP3 : P < w3.heap.size := Nat.lt_of_lt_of_le hP hb3.size
              have HD3 : Hid (StrsAt w3 D d.length dc d) := HD2.out.keep hb3
              clear e0 e1 e2 hblk HO2 HD2 HE2 HB2 hP hb3
              cases b
              · have f0 : w3.cell? ⟨P, 0, none⟩ = some (.int .i64 (an : Int)) := by rw [cell_of_row w3 P 0 _ _ _ hblk3]; rfl
                have f1 : w3.cell? ⟨P, 1, none⟩ = some (.slice D d.length dc) := by rw [cell_of_row w3 P 1 _ _ _ hblk3]; rfl
                have g1 : IntKind.i64.wrap ((x.length : Int) - (an : Int)) = (x.length : Int) - (an : Int) := IntWalk.i64_in _ (by omega)
                have g2 : IntKind.i64.wrap ((an : Int) + (d.length : Int)) = (an : Int) + (d.length : Int) := IntWalk.i64_in _ (by omega)
                go_upto_region 16 with (fail)
                go_cut [67] (fun v wx => ∃ b, v = .bool b ∧ Hid (b = false → an + d.length ≤ x.length) ∧ ∃ q, wx = w3.drewN q)
                case first =>
                  by_cases hgt : an + d.length ≤ x.length
                  · obtain ⟨A8, hs8, hp8⟩ := (HX6.out.keep HB13.out).piece an (an + d.length) (by omega) hgt
                    have hsl8 := sl_mid A6 x.length c6 an (an + d.length) (by omega) (by omega) _ hs8
                    have ecast : ((an + d.length : Nat) : Int) = (an : Int) + (d.length : Int) := by omega
                    have elen : an + d.length - an = d.length := by omega
                    rw [ecast, elen] at hsl8
                    rw [elen] at hp8
                    have HP8 := Lib.hid hp8
                    have g3 : decide ((x.length : Int) - (an : Int) < (d.length : Int)) = false := by simp; omega
                    clear hp8 hs8 ecast elen
                    go_quiet ((go_at_call 21; with_reducible exact Calls.quiet_of (equal_any A8 D d.length (c6 - an) d.length dc _ d _ (HP8.out.drewN _) (HD3.out.drewN _) (by omega) (by omega))))
                    go_wp2_with fail
                    go_meet
                    exact ⟨_, rfl, (show _ → _ from fun _ => hgt), _, rfl⟩
                  · have g3 : decide ((x.length : Int) - (an : Int) < (d.length : Int)) = true := by simp; omega
                    go_quiet (fail)
                    go_wp2_with fail
                    go_meet
                    exact ⟨true, rfl, (show _ → _ from fun h => (by cases h)), _, rfl⟩
                case rest =>
                  obtain ⟨b, rfl, HGT, q, rfl⟩ := hcut
                  cases b
                  · have hgt := HGT.out rfl
                    have hblk4 : (w3.drewN q).heap[P]? = some (.cells #[.int .i64 (an : Int), .slice D d.length dc, .slice F e.length fc] 55 (0, 0)) := hblk3
                    have HO4' : Hid (OwnStrs (w3.drewN q) w1.heap.size u8 so) := HO3.out
                    have hb14 : Below w1.heap.size w1 (w3.drewN q) := below_drewN HB13.out q
                    have hP4 : P < (w3.drewN q).heap.size := hP3
                    clear hblk3 HO3 HB13 hP3 HD3 HGT f0 f1 g1 g2
                    generalize w3.drewN q = w4 at *
                    obtain ⟨A9, hs9, hp9⟩ := (HX6.out.keep hb14).piece sa an hsan (by omega)
                    have hsl9 := sl_mid A6 x.length c6 sa an hsan (by omega) _ hs9
                    have HP9 : Hid (StrsAt w4 A9 (an - sa) (c6 - sa) (seg x sa an)) := hp9
                    clear hp9 hs9
                    have hz4 := hb14.size
                    have f0 : w4.cell? ⟨P, 0, none⟩ = some (.int .i64 (an : Int)) := by rw [cell_of_row w4 P 0 _ _ _ hblk4]; rfl
                    have hsgl := seg_length x sa an (by omega)
                    have HSGL := Lib.hid hsgl; clear hsgl
                    go_upto_region 19 with (at_builtin; refine append_elems strE_ok rfl _ _ rfl w1.heap.size _ so rfl HO4'.out A9 (an - sa) (c6 - sa) (seg x sa an) rfl HP9.out (by rw [HSGL.out]; omega) hz4 ?_; intro v5 w5 hown5 hgrow5 _)
                    have hblk5 : w5.heap[P]? = some (.cells #[.int .i64 (an : Int), .slice D d.length dc, .slice F e.length fc] 55 (0, 0)) := (hgrow5.block P hP4 (fun e => HO4'.out.ne_block hblk4 (by decide) e.symm)).trans hblk4
                    have hb15 : Below w1.heap.size w1 w5 := hb14.grown hgrow5 hz4 (fun r hr => (HO4'.out.lt r hr).1)
                    have hz5 := hb15.size
                    have hP5 : P < w5.heap.size := Nat.lt_of_lt_of_le hP4 hgrow5.size
                    have HO5' := Lib.hid hown5
                    clear hown5 hgrow5 f0 hblk4 HO4' hb14 HP9 hsl9
                    have HE5 : Hid (StrsAt w5 F e.length fc e) := HREE.out.keep (below_trans' HB1.out hb15)
                    have f2 : w5.cell? ⟨P, 2, none⟩ = some (.slice F e.length fc) := by rw [cell_of_row w5 P 2 _ _ _ hblk5]; rfl
                    go_upto_region 20 with (at_builtin; refine append_elems strE_ok rfl _ _ rfl w1.heap.size _ (so ++ seg x sa an) rfl HO5'.out F e.length fc e rfl HE5.out (by rw [List.length_append, HSGL.out]; omega) hz5 ?_; intro v6 w6 hown6 hgrow6 _)
                    have hblk6 : w6.heap[P]? = some (.cells #[.int .i64 (an : Int), .slice D d.length dc, .slice F e.length fc] 55 (0, 0)) := (hgrow6.block P hP5 (fun e => HO5'.out.ne_block hblk5 (by decide) e.symm)).trans hblk5
                    have hb16 : Below w1.heap.size w1 w6 := hb15.grown hgrow6 hz5 (fun r hr => (HO5'.out.lt r hr).1)
                    have HO6 := Lib.hid hown6
                    have HB16 := Lib.hid hb16
                    clear hown6 hgrow6 f2 hblk5 HO5' hb15 HE5 hb16
                    have k0 : w6.cell? ⟨P, 0, none⟩ = some (.int .i64 (an : Int)) := by rw [cell_of_row w6 P 0 _ _ _ hblk6]; rfl
                    have k1 : w6.cell? ⟨P, 1, none⟩ = some (.slice D d.length dc) := by rw [cell_of_row w6 P 1 _ _ _ hblk6]; rfl
                    have HLE : Hid ((so ++ seg x sa an ++ e).length ≤ an + d.length + addN cs (k + 1)) := by
                      show _ ≤ _
                      rw [List.length_append, List.length_append, HSGL.out, HAS.out]; omega
                    have HLL : Hid (lensL (so ++ seg x sa an ++ e) ≤ lensL (x.take (an + d.length)) + addL cs (k + 1)) := by
                      show _ ≤ _
                      rw [lensL_app, lensL_app, HLS.out]
                      have h1 := HSL.out
                      have h2 := lensL_seg x sa an hsan
                      have h3 := lensL_take_le x (show an ≤ an + d.length by omega)
                      omega
                    go_wp2_with fail
                    go_roundg (gk - 1)
                    case measure => have := HK.out; omega
                    case rel => exact ⟨k + 1, an + d.length, so ++ seg x sa an ++ e, show k + 1 + (gk - 1) = n by have := HK.out; omega, by go_num, by go_num, HO6.out, HB16.out, hgt, HLE.out, HLL.out, fun h => (by omega)⟩
                  · have HBF := Lib.hid (below_trans' HB1.out (below_drewN HB13.out q))
                    go_wp2_with fail
                    go_ret2
                    exact ⟨⟨_, _, rfl⟩, HBF.out⟩
              · have HBF := Lib.hid (below_trans' HB1.out HB13.out)
                go_wp2_with fail
                go_ret2
                exact ⟨⟨_, _, rfl⟩, HBF.out⟩
          · have HBF := Lib.hid (below_trans' HB1.out HB2.out)
            go_wp2_with fail
            go_ret2
            exact ⟨⟨_, _, rfl⟩, HBF.out⟩
      · have hib : inB z 0 (x.length : Int) = false := by simp only [inB]; exact decide_eq_false hin
        rw [hib]
        have HBF := Lib.hid (below_trans' HB1.out HB2.out)
        go_wp2_with fail
        go_ret2
        exact ⟨⟨_, _, rfl⟩, HBF.out⟩
    · have hke : k = n := by omega
      obtain ⟨A7, hs7, hp7⟩ := (HX6.out.keep HB.out).piece sa x.length hsa (Nat.le_refl _)
      rw [List.take_of_length_le (by rw [List.length_drop]; omega)] at hp7
      have hsl7 := sl_from A6 x.length c6 sa hsa _ hs7
      have HP7 := Lib.hid hp7
      have hz1 := HB.out.size
      have hLT : lensL (so ++ x.drop sa) ≤ 60000 := by
        rw [lensL_app]
        have h1 := HSL.out
        have h2 := lensL_sub (List.take_sublist sa x)
        have h3 := lensL_sub (List.drop_sublist sa x)
        have h4 := HAL.out k
        omega
      have hLN : so.length + (x.length - sa) ≤ 30000 := by omega
      clear hs7 hp7 hke
      go_wp2_with (at_builtin; refine append_elems strE_ok rfl _ _ rfl w1.heap.size _ so rfl HO.out A7 (x.length - sa) (c6 - sa) (x.drop sa) rfl HP7.out (by rw [List.length_drop]; omega) hz1 ?_; intro v4 w4 hown4 hgrow4 _; obtain ⟨A4, c4, rfl, hq1, hq2, hq3⟩ := hown4.at_ strE_ok; clear hq1 hq3)
      have hb4 : Below w1.heap.size w1 w4 := HB.out.grown hgrow4 hz1 (fun r hr => (HO.out.lt r hr).1)
      have hlen4 : (so ++ x.drop sa).length = so.length + (x.length - sa) := by rw [List.length_append, List.length_drop]
      have HJ : Hid (Calls Tryz.prog 79 #[.slice A4 (so ++ x.drop sa).length c4] w4 fun e w' => e = .returned (.string (bag (joinL (so ++ x.drop sa)))) ∧ Below w4.heap.size w4 w') := join_any A4 _ c4 (so ++ x.drop sa) w4 hq2 (by omega) (by omega)
      have hjl := joinL_lens (so ++ x.drop sa)
      have hjs : (bag (joinL (so ++ x.drop sa))).size ≤ 1000000 := by rw [bag_size]; omega
      rw [hlen4] at HJ
      clear hq2 hown4 hlen4 hgrow4
      generalize joinL (so ++ x.drop sa) = J at *
      go_wp2_with fail
      refine HJ.out.mono ?_
      rintro e w5 ⟨rfl, hb5⟩
      have HB5 := Lib.hid (below_trans' HB1.out (hb4.trans (hb5.mono hb4.size)))
      have HNL := Lib.hid (nlarge_all (bag J) w5 hjs)
      clear hb4 hb5 HJ
      go_wp2_with fail
      refine HNL.out.mono ?_
      rintro e w' ⟨z, rfl, rfl⟩
      go_wp2_with fail
      go_ret2
      exact ⟨⟨_, _, rfl⟩, HB5.out⟩
end Go.Proofs.YtmaimojpjepmjaaGreatDoor
