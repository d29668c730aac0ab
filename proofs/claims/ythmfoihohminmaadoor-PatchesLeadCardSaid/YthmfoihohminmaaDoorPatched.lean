
/-
  What ContainsFunc at the predicate of patched returns: no token is wrong.
-/
import Derived.Test.YthmfoihohminmaaDoorChanges
import Derived.Test.YthmfoihohminmaaDoorAnyChar
import Derived.Test.YthmfoihohminmaaDoorBoth
import Derived.Test.YthmfoihohminmaaDoorPatPlain
namespace Go.Proofs.YthmfoihohminmaaDoor
open Go.RowKit

set_option maxHeartbeats 1600000 in
theorem indexFunc_any (A : Option Addr) (n c : Nat) (l : List (List UInt8)) (w : World) (h : StrsAt w A n c l) (hn : n ≤ 100000) (ht : ∀ t ∈ l, isTok t ∧ t.length ≤ 100000) :
    Calls Tryd.prog 41 #[.slice A n c, .func (.func 28) #[] #[]] w fun e w' => e = .returned (.int .i64 (-1)) ∧ Below w.heap.size w w' := by
  have HN := Lib.hid h.1
  go_enter Tryd.func41, Tryd.ntmps41
  go_wp2_with fail
  go_loopg [8] n (fun gk i wr => ∃ k : Nat, Hid (k + gk = n) ∧ i = .int .i64 k ∧ Below w.heap.size w wr)
  case atStart => exact ⟨0, show 0 + n = n by omega, rfl, Below.refl _ _⟩
  case round =>
    obtain ⟨k, HK, rfl, hb⟩ := hrel
    have hkn : k ≤ n := by have := HK.out; omega
    by_cases hlt : k < n
    · obtain ⟨gs, os, rfl, hgs, hcs⟩ := h.str (by omega)
      have hcur := (hb.cell (p := ⟨gs, os + k, none⟩) hgs).trans (hcs k hlt)
      obtain ⟨h1, h2⟩ := ht (l.getD k []) (by have : k < l.length := by (have := HN.out; omega)
                                              simp [this])
      generalize l.getD k [] = t at *
      clear hcs
      have H1 := Lib.hid h1; clear h1
      go_wp2_with fail
      refine (wrong_any t wr h2 H1.out).mono ?_
      rintro e w2 ⟨rfl, hb2⟩
      have hb3 := below_trans' hb hb2
      go_wp2_with fail
      go_roundg (gk - 1)
      case measure => have := HK.out; omega
      case rel => exact ⟨k + 1, show k + 1 + (gk - 1) = n by have := HK.out; omega, by go_num, hb3⟩
    · go_wp2_with fail
      go_ret
      exact ⟨rfl, hb⟩
set_option maxHeartbeats 800000 in
theorem containsFunc_any (A : Option Addr) (n c : Nat) (l : List (List UInt8)) (w : World) (h : StrsAt w A n c l) (hn : n ≤ 100000) (ht : ∀ t ∈ l, isTok t ∧ t.length ≤ 100000) :
    Calls Tryd.prog 31 #[.slice A n c, .func (.func 28) #[] #[]] w fun e w' => e = .returned (.bool false) ∧ Below w.heap.size w w' := by
  go_enter Tryd.func31, Tryd.ntmps31
  go_wp2_with fail
  refine (indexFunc_any A n c l w h hn ht).mono ?_
  rintro e w1 ⟨rfl, hb⟩
  go_wp2_with fail
  go_ret
  exact ⟨rfl, hb⟩

def ChgsRd (w : World) (rs : List RawC) (cs : List (Chg (List UInt8))) : Prop := rs.length = cs.length ∧ ∀ (k : Nat) r c, rs[k]? = some r → cs[k]? = some c → r.1 = (c.1 : Int) ∧ StrsAt w r.2.1.1 r.2.1.2.1 r.2.1.2.2 c.2.1 ∧ StrsAt w r.2.2.1 r.2.2.2.1 r.2.2.2.2 c.2.2
theorem StrsAt.of_own {w : World} {base : Nat} {s : Sl} {l : List (List UInt8)} (h : OwnStrs w base s.v l) : StrsAt w s.1 s.2.1 s.2.2 l := by
  obtain ⟨A, c, he, _, hat, _⟩ := h.at_ strE_ok
  obtain ⟨a, b, d⟩ := s
  simp only [Sl.v, Value.slice.injEq] at he
  obtain ⟨rfl, rfl, rfl⟩ := he
  exact hat
theorem ChgsOf.rd {w : World} {base : Nat} {rs : List RawC} {cs : List (Chg (List UInt8))} (h : ChgsOf w base rs (cs.map castC)) : ChgsRd w rs cs := by
  refine ⟨by have := h.1; simpa using this, fun k r c h1 h2 => ?_⟩
  have := h.2 k r (castC c) h1 (by rw [List.getElem?_map, h2]; rfl)
  exact ⟨this.1, StrsAt.of_own this.2.1, StrsAt.of_own this.2.2⟩
theorem in_true (n lo hi : Int) (w : World) (h1 : lo ≤ n) (h2 : n ≤ hi) :
    Calls Tryd.prog 30 #[.int .i64 n, .int .i64 lo, .int .i64 hi] w fun e w' => e = .returned (.bool true) ∧ w = w' :=
  (in_any n lo hi w).mono fun e w' h => ⟨by rw [h.1]; simp [inB, h1, h2], h.2⟩
theorem equal_q (A B : Option Addr) (n c m d : Nat) (l : List (List UInt8)) (w : World) (h : StrsAt w A n c l) (h' : StrsAt w B m d l) (hn : n ≤ 100000) (hm : m ≤ 100000) :
    Calls Tryd.prog 21 #[.slice A n c, .slice B m d] w fun e w' => e = .returned (.bool true) ∧ ∃ q, w' = w.drewN q :=
  (equal_any A B n c m d l l w h h' hn hm).mono fun e w' h => ⟨by rw [h.1]; simp, h.2⟩

def PatPost (w : World) (y : List (List UInt8)) (e : Ending) (w' : World) : Prop := ∃ v, e = .returned (.tuple #[v, .int .i64 0]) ∧ OwnStrs w' w.heap.size v y ∧ Below w.heap.size w w'

set_option maxHeartbeats 6400000 in
set_option maxRecDepth 100000 in
theorem patched_any (s : ByteArray) (A : Option Addr) (n c : Nat) (rs : List RawC) (cs : List (Chg (List UInt8))) (y : List (List UInt8)) (w : World) (hs : s.size ≤ 2000) (hM : MaxAt w)
    (hat : ElemsAt ChgE w A n c rs) (hrd : ChgsRd w rs cs) (hok : okc (tokL s.data.toList) 0 cs) (hy : pat (tokL s.data.toList) 0 cs = y) (hyt : ∀ t ∈ y, isTok t) (hyl : lensL y ≤ 5000) (hce : ∀ c ∈ cs, ∀ t ∈ c.2.2, t ∈ y) (hn : n ≤ 5000) :
    Calls Tryd.prog 17 #[.string s, .slice A n c] w (PatPost w y) := by
  have hxt := tokL_ok s.data.toList
  have hxl := tokL_lens s.data.toList
  have hxn := tokL_length s.data.toList
  have hsz : s.data.toList.length = s.size := by simp
  rw [hsz] at hxl hxn
  clear hsz
  have hyn := lensL_ge y hyt
  have HAT := Lib.hid hat; clear hat
  have HRD := Lib.hid hrd; clear hrd
  have HOK := Lib.hid hok; clear hok
  have HYL : Hid (∀ k, ((stOf (tokL s.data.toList) (cs.take k)).1).length ≤ y.length) := fun k => by rw [← hy]; exact stOf_le _ cs k
  have HYE : Hid ((stOf (tokL s.data.toList) cs).1 ++ (tokL s.data.toList).drop (stOf (tokL s.data.toList) cs).2 = y) := by show _ = _; rw [stOf_pat]; exact hy
  have HCE := Lib.hid hce; clear hce hy
  have HYT := Lib.hid hyt; clear hyt
  have HXT := Lib.hid hxt; clear hxt
  go_enter Tryd.func17, Tryd.ntmps17
  go_wp2_with fail
  refine (tokens_any s w hs hM).mono ?_
  rintro e w1 ⟨v6, rfl, hown6, hb1⟩
  obtain ⟨A6, c6, rfl, hq1, hx6, hq3⟩ := hown6.at_ strE_ok
  clear hq1 hq3
  have HOWN6 := Lib.hid hown6; clear hown6
  generalize tokL s.data.toList = x at *
  have HN := Lib.hid HAT.out.1
  have HRL := Lib.hid HRD.out.1
  have hz1 := hb1.size
  go_wp2_with fail
  go_loopg [8, 9, 23] n (fun gk v8 v9 v23 wr => ∃ k : Nat, Hid (k + gk = n) ∧ v23 = .int .i64 k ∧ v9 = .int .i64 ((stOf x (cs.take k)).2 : Nat) ∧ OwnStrs wr w1.heap.size v8 (stOf x (cs.take k)).1 ∧ Below w1.heap.size w1 wr ∧ (stOf x (cs.take k)).2 ≤ x.length)
  case atStart => exact ⟨0, show 0 + n = n by omega, rfl, rfl, Owns.nil _ _, Below.refl _ _, Nat.zero_le _⟩
  case round =>
    obtain ⟨k, HK, rfl, rfl, hown, hb, hatl⟩ := hrel
    have hkn : k ≤ n := by have := HK.out; omega
    have hzr := hb.size
    have HO := Lib.hid hown; clear hown
    by_cases hlt : k < n
    · obtain ⟨r, hr⟩ : ∃ r, rs[k]? = some r := ⟨_, List.getElem?_eq_getElem (by have := HN.out; omega)⟩
      obtain ⟨ch, hch⟩ : ∃ ch, cs[k]? = some ch := ⟨_, List.getElem?_eq_getElem (by have := HN.out; have := HRL.out; omega)⟩
      obtain ⟨hr1, hrD, hrE⟩ := HRD.out.2 k r ch hr hch
      obtain ⟨ho1, ho2, ho3, ho4, ho5⟩ := okc_at x cs 0 ([], 0) k ch HOK.out (Nat.le_refl _) hch
      have hmem := List.mem_of_getElem? hch
      have hdx := okc_mem HOK.out ch hmem
      have hey := HCE.out ch hmem
      have htk : cs.take (k + 1) = cs.take k ++ [ch] := by
        rw [List.take_succ_eq_append_getElem (by have := HN.out; have := HRL.out; omega)]
        obtain ⟨h1, h2⟩ := List.getElem?_eq_some_iff.1 hch
        rw [h2]
      have HST : Hid (stOf x (cs.take (k + 1)) = stStep x (stOf x (cs.take k)) ch) := by show _ = _; rw [htk, stOf_snoc]
      have HNL : Hid (((stOf x (cs.take (k + 1))).1).length ≤ y.length) := HYL.out (k + 1)
      have ho1' : (stOf x (cs.take k)).2 ≤ ch.1 := ho1
      have ho2' : 0 < k → (stOf x (cs.take k)).2 < ch.1 := ho2
      obtain ⟨gA, oA, rfl, hgA, hcA⟩ := HAT.out.2.2.2 (by omega)
      have hbw : Below w.heap.size w wr := below_trans' hb1 hb
      have c0 := (hbw.cell (p := ⟨gA, oA + k * ChgE.size + 0, none⟩) hgA).trans (hcA k r 0 _ hr rfl)
      have c1 := (hbw.cell (p := ⟨gA, oA + k * ChgE.size + 1, none⟩) hgA).trans (hcA k r 1 _ hr rfl)
      have c2 := (hbw.cell (p := ⟨gA, oA + k * ChgE.size + 2, none⟩) hgA).trans (hcA k r 2 _ hr rfl)
      have hsz : ChgE.size = 3 := rfl
      rw [hsz] at c0 c1 c2
      rw [Nat.add_zero] at c0
      clear hsz hcA ho1 ho2 htk hmem hr hch
      obtain ⟨z, ⟨D, dn, dc⟩, ⟨F, fn, fc⟩⟩ := r
      obtain ⟨a, d, e⟩ := ch
      simp only at hr1 hrD hrE ho1' ho2' ho3 ho4 ho5 hdx hey c0 c1 c2
      subst hr1
      generalize hst : stOf x (cs.take k) = st at *
      clear hst
      obtain ⟨so, sa⟩ := st
      simp only at HO hatl ho1' ho2'
      obtain rfl : dn = d.length := hrD.1
      obtain rfl : fn = e.length := hrE.1
      have c1' : wr.cell? ⟨gA, oA + k * 3 + 1, none⟩ = some (.slice D d.length dc) := c1
      have c2' : wr.cell? ⟨gA, oA + k * 3 + 2, none⟩ = some (.slice F e.length fc) := c2
      clear c1 c2
      have hdl : d.length ≤ 2000 := by omega
      have HNL2 : Hid ((so ++ seg x sa a ++ e).length ≤ y.length) := by have h := HNL.out; rw [HST.out] at h; exact h
      have hsl2 : so.length + (a - sa) + e.length ≤ y.length := by have h := HNL2.out; rw [List.length_append, List.length_append, seg_length x sa a (by omega)] at h; exact h
      have HD : Hid (∀ t ∈ d, isTok t ∧ t.length ≤ 100000) := fun t ht => ⟨HXT.out t (hdx t ht), by have := lensL_mem x t (hdx t ht); omega⟩
      have HE : Hid (∀ t ∈ e, isTok t ∧ t.length ≤ 100000) := fun t ht => ⟨HYT.out t (hey t ht), by have := lensL_mem y t (hey t ht); omega⟩
      clear hdx hey
      have HO4 := Lib.hid ho4; clear ho4
      have HO5 := Lib.hid ho5; clear ho5
      have HRDD := Lib.hid hrD; clear hrD
      have HREE := Lib.hid hrE; clear hrE
      have ha1 : (0 : Int) ≤ (a : Int) := by omega
      have ha2 : (a : Int) ≤ (x.length : Int) := by omega
      go_wp2_with fail
      refine (in_true _ _ _ _ ha1 ha2).mono ?_
      rintro e' w' ⟨rfl, rfl⟩
      have hblk : (wr.alloc (.cells #[.int .i64 (a : Int), .slice D d.length dc, .slice F e.length fc] 40)).heap[wr.heap.size]? = some (.cells #[.int .i64 (a : Int), .slice D d.length dc, .slice F e.length fc] 40 (0, 0)) := heap_alloc_new wr _
      have HO2 : Hid (OwnStrs (wr.alloc (.cells #[.int .i64 (a : Int), .slice D d.length dc, .slice F e.length fc] 40)) w1.heap.size u8 so) := World.ownsRow.alloc HO.out _
      have hb2 : Below w1.heap.size w1 (wr.alloc (.cells #[.int .i64 (a : Int), .slice D d.length dc, .slice F e.length fc] 40)) := hb.alloc hb.size _
      have hP : wr.heap.size < (wr.alloc (.cells #[.int .i64 (a : Int), .slice D d.length dc, .slice F e.length fc] 40)).heap.size := by simp
      clear c0 c1' c2' HO hb hbw hzr
      generalize wr.heap.size = P at *
      generalize wr.alloc (.cells #[.int .i64 (a : Int), .slice D d.length dc, .slice F e.length fc] 40) = w2 at *
      have e0 : w2.cell? ⟨P, 0, none⟩ = some (.int .i64 (a : Int)) := by rw [cell_of_row w2 P 0 _ _ _ hblk]; rfl
      have e1 : w2.cell? ⟨P, 1, none⟩ = some (.slice D d.length dc) := by rw [cell_of_row w2 P 1 _ _ _ hblk]; rfl
      have e2 : w2.cell? ⟨P, 2, none⟩ = some (.slice F e.length fc) := by rw [cell_of_row w2 P 2 _ _ _ hblk]; rfl
      have HD2 : Hid (StrsAt w2 D d.length dc d) := HRDD.out.keep (below_trans' hb1 hb2)
      have HE2 : Hid (StrsAt w2 F e.length fc e) := HREE.out.keep (below_trans' hb1 hb2)
      go_upto_region 12 with (fail)
      go_cut [35] (fun v wx => v = .bool false ∧ w2 = wx)
      case first =>
        by_cases hk0 : k = 0
        · subst hk0
          go_wp2_with fail
          go_meet
          exact ⟨rfl, rfl⟩
        · have h1 := ho2' (by omega)
          have h2 : (0 : Int) < (k : Int) := by omega
          have h3 : ¬ (a : Int) ≤ (sa : Int) := by omega
          go_wp2_with fail
          go_meet
          exact ⟨by first | rfl | (simp; omega), rfl⟩
      case rest =>
        obtain ⟨rfl, rfl⟩ := hcut
        go_upto_region 14 with (fail)
        go_cut [44] (fun v wx => v = .bool false ∧ Below w2.heap.size w2 wx)
        case first =>
          by_cases hd0 : d.length = 0
          · have hq1 : ((d.length : Int) == 0) = true := by simp; exact List.eq_nil_of_length_eq_zero hd0
            have hq2 : ((e.length : Int) == 0) = false := by
              have := HO5.out
              simp
              intro h; exact this ⟨List.eq_nil_of_length_eq_zero hd0, h⟩
            clear hd0
            go_wp2_with fail
            refine (containsFunc_any D d.length dc d w2 HD2.out (by omega) HD.out).mono ?_
            rintro e' w3 ⟨rfl, hb3⟩
            have e2' := (hb3.cell (p := ⟨P, 2, none⟩) hP).trans e2
            go_wp2_with fail
            refine (containsFunc_any F e.length fc e w3 (HE2.out.keep hb3) (by omega) HE.out).mono ?_
            rintro e' w4 ⟨rfl, hb4⟩
            go_wp2_with fail
            go_meet
            exact ⟨rfl, below_trans' hb3 hb4⟩
          · have hq1 : ((d.length : Int) == 0) = false := by simp; intro h; exact hd0 (by rw [h]; rfl)
            clear hd0
            go_wp2_with fail
            refine (containsFunc_any D d.length dc d w2 HD2.out (by omega) HD.out).mono ?_
            rintro e' w3 ⟨rfl, hb3⟩
            have e2' := (hb3.cell (p := ⟨P, 2, none⟩) hP).trans e2
            go_wp2_with fail
            refine (containsFunc_any F e.length fc e w3 (HE2.out.keep hb3) (by omega) HE.out).mono ?_
            rintro e' w4 ⟨rfl, hb4⟩
            go_wp2_with fail
            go_meet
            exact ⟨rfl, below_trans' hb3 hb4⟩
        case rest =>
          obtain ⟨rfl, hb3⟩ := hcut
          obtain ⟨w3, rfl⟩ : ∃ w3 : World, w3 = wc := ⟨_, rfl⟩
          have hblk3 : w3.heap[P]? = some (.cells #[.int .i64 (a : Int), .slice D d.length dc, .slice F e.length fc] 40 (0, 0)) := (hb3.block P hP).trans hblk
          have hb13 : Below w1.heap.size w1 w3 := hb2.trans (hb3.mono hb2.size)
          have HO3 : Hid (OwnStrs w3 w1.heap.size u8 so) := HO2.out.below_ hb3
          have hP3 : P < w3.heap.size := Nat.lt_of_lt_of_le hP hb3.size
          have HD3 : Hid (StrsAt w3 D d.length dc d) := HD2.out.keep hb3
          clear e0 e1 e2 hblk HO2 HD2 HE2 hb2 hP
          obtain ⟨A8, hs8, hp8⟩ := (hx6.keep hb13).piece a (a + d.length) (by omega) ho3
          have hp8' : StrsAt w3 A8 (a + d.length - a) (c6 - a) d := by have h := HO4.out; unfold seg at h; rw [h] at hp8; exact hp8
          have hsl8 := sl_mid A6 x.length c6 a (a + d.length) (by omega) (by have := hx6.2.1; omega) _ hs8
          have ecast : ((a + d.length : Nat) : Int) = (a : Int) + (d.length : Int) := by omega
          have elen : a + d.length - a = d.length := by omega
          rw [ecast, elen] at hsl8
          rw [elen] at hp8'
          have HP8 := Lib.hid hp8'
          clear hp8 hp8' hs8 ecast elen
          go_upto_region 16 with (fail)
          go_cut [67] (fun v wx => v = .bool false ∧ ∃ q, wx = w3.drewN q)
          case first =>
            have f0 : w3.cell? ⟨P, 0, none⟩ = some (.int .i64 (a : Int)) := by rw [cell_of_row w3 P 0 _ _ _ hblk3]; rfl
            have f1 : w3.cell? ⟨P, 1, none⟩ = some (.slice D d.length dc) := by rw [cell_of_row w3 P 1 _ _ _ hblk3]; rfl
            have g1 : IntKind.i64.wrap ((x.length : Int) - (a : Int)) = (x.length : Int) - (a : Int) := IntWalk.i64_in _ (by omega)
            have g2 : IntKind.i64.wrap ((a : Int) + (d.length : Int)) = (a : Int) + (d.length : Int) := IntWalk.i64_in _ (by omega)
            have g3 : decide ((x.length : Int) - (a : Int) < (d.length : Int)) = false := by simp; omega
            go_quiet ((go_at_call 21; with_reducible exact Calls.quiet_of (equal_q A8 D d.length (c6 - a) d.length dc d _ (HP8.out.drewN _) (HD3.out.drewN _) (by omega) (by omega))))
            go_wp2_with fail
            go_meet
            exact ⟨rfl, _, rfl⟩
          case rest =>
            obtain ⟨rfl, q, rfl⟩ := hcut
            have hblk4 : (w3.drewN q).heap[P]? = some (.cells #[.int .i64 (a : Int), .slice D d.length dc, .slice F e.length fc] 40 (0, 0)) := hblk3
            have HO4' : Hid (OwnStrs (w3.drewN q) w1.heap.size u8 so) := HO3.out
            have hb14 : Below w1.heap.size w1 (w3.drewN q) := below_drewN hb13 q
            have hP4 : P < (w3.drewN q).heap.size := hP3
            clear hblk3 HO3 hb13 hP3 HP8 HD3 hsl8 hb3
            generalize w3.drewN q = w4 at *
            obtain ⟨A9, hs9, hp9⟩ := (hx6.keep hb14).piece sa a ho1' (by omega)
            have hsl9 := sl_mid A6 x.length c6 sa a ho1' (by have := hx6.2.1; omega) _ hs9
            have HP9 : Hid (StrsAt w4 A9 (a - sa) (c6 - sa) (seg x sa a)) := hp9
            clear hp9 hs9
            have hz4 := hb14.size
            have f0 : w4.cell? ⟨P, 0, none⟩ = some (.int .i64 (a : Int)) := by rw [cell_of_row w4 P 0 _ _ _ hblk4]; rfl
            have hsgl := seg_length x sa a (by omega)
            have HSGL := Lib.hid hsgl; clear hsgl
            go_upto_region 19 with (at_builtin; refine append_elems strE_ok rfl _ _ rfl w1.heap.size _ so rfl HO4'.out A9 (a - sa) (c6 - sa) (seg x sa a) rfl HP9.out (by rw [HSGL.out]; omega) hz4 ?_; intro v5 w5 hown5 hgrow5 _)
            have hblk5 : w5.heap[P]? = some (.cells #[.int .i64 (a : Int), .slice D d.length dc, .slice F e.length fc] 40 (0, 0)) := (hgrow5.block P hP4 (fun e => HO4'.out.ne_block hblk4 (by decide) e.symm)).trans hblk4
            have hb15 : Below w1.heap.size w1 w5 := hb14.grown hgrow5 hz4 (fun r hr => (HO4'.out.lt r hr).1)
            have hz5 := hb15.size
            have hP5 : P < w5.heap.size := Nat.lt_of_lt_of_le hP4 hgrow5.size
            have HO5' := Lib.hid hown5
            clear hown5 hgrow5 f0 hblk4 HO4' hb14 HP9 hsl9
            have HE5 : Hid (StrsAt w5 F e.length fc e) := HREE.out.keep (below_trans' hb1 hb15)
            have f2 : w5.cell? ⟨P, 2, none⟩ = some (.slice F e.length fc) := by rw [cell_of_row w5 P 2 _ _ _ hblk5]; rfl
            go_upto_region 20 with (at_builtin; refine append_elems strE_ok rfl _ _ rfl w1.heap.size _ (so ++ seg x sa a) rfl HO5'.out F e.length fc e rfl HE5.out (by rw [List.length_append, HSGL.out]; omega) hz5 ?_; intro v6 w6 hown6 hgrow6 _)
            have hblk6 : w6.heap[P]? = some (.cells #[.int .i64 (a : Int), .slice D d.length dc, .slice F e.length fc] 40 (0, 0)) := (hgrow6.block P hP5 (fun e => HO5'.out.ne_block hblk5 (by decide) e.symm)).trans hblk5
            have hb16 : Below w1.heap.size w1 w6 := hb15.grown hgrow6 hz5 (fun r hr => (HO5'.out.lt r hr).1)
            have HO6 := Lib.hid hown6
            clear hown6 hgrow6 f2 hblk5 HO5' hb15 HE5
            have k0 : w6.cell? ⟨P, 0, none⟩ = some (.int .i64 (a : Int)) := by rw [cell_of_row w6 P 0 _ _ _ hblk6]; rfl
            have k1 : w6.cell? ⟨P, 1, none⟩ = some (.slice D d.length dc) := by rw [cell_of_row w6 P 1 _ _ _ hblk6]; rfl
            go_wp2_with fail
            go_roundg (gk - 1)
            case measure => have := HK.out; omega
            case rel => exact ⟨k + 1, show k + 1 + (gk - 1) = n by have := HK.out; omega, by go_num, by rw [HST.out]; show _ = Value.int .i64 ((a + d.length : Nat) : Int); go_num, by rw [HST.out]; exact HO6.out, hb16, by rw [HST.out]; exact ho3⟩
    · have hke : k = n := by omega
      have hall : cs.take k = cs := List.take_of_length_le (by have := HRL.out; have := HN.out; omega)
      rw [hall] at HO hatl ⊢
      clear hall hke
      have HYE' := HYE
      have HYA := Lib.hid (HYL.out n)
      generalize hst : stOf x cs = st at *
      clear hst
      obtain ⟨so, sa⟩ := st
      simp only at HO hatl HYE'
      obtain ⟨A7, hs7, hp7⟩ := (hx6.keep hb).piece sa x.length hatl (Nat.le_refl _)
      rw [List.take_of_length_le (by rw [List.length_drop]; omega)] at hp7
      have hsl := sl_from A6 x.length c6 sa hatl _ hs7
      have hsol : so.length ≤ 5000 := by have := congrArg List.length HYE'.out; rw [List.length_append] at this; omega
      clear hs7
      have HP7 := Lib.hid hp7; clear hp7
      go_wp2_with (at_builtin; refine append_elems strE_ok rfl _ _ rfl w1.heap.size _ so rfl HO.out A7 (x.length - sa) (c6 - sa) (x.drop sa) rfl HP7.out (by rw [List.length_drop]; omega) hzr ?_; intro v4 w4 hown4 hgrow4 _; obtain ⟨A4, c4, rfl, hq1, hq2, hq3⟩ := hown4.at_ strE_ok; clear hq1 hq3)
      have hb4 : Below w1.heap.size w1 w4 := hb.grown hgrow4 hzr (fun r hr => (HO.out.lt r hr).1)
      rw [HYE'.out] at hown4 hq2
      have HOW4 := Lib.hid hown4; clear hown4
      have hlen4 : (so ++ x.drop sa).length = y.length := by rw [HYE'.out]
      have hlen5 : so.length + (x.length - sa) = y.length := by rw [List.length_append, List.length_drop] at hlen4; exact hlen4
      rw [hlen5]
      have hjl := joinL_lens y
      go_wp2_with fail
      refine (join_any A4 y.length c4 y w4 hq2 (by omega) (by omega)).mono ?_
      rintro e w5 ⟨rfl, hb5⟩
      go_wp2_with fail
      refine (nlarge_any (bag (joinL y)) w5 (by rw [bag_size]; omega)).mono ?_
      rintro e w' ⟨rfl, rfl⟩
      have hown5 : OwnStrs w5 w1.heap.size (.slice A4 y.length c4) y := HOW4.out.below_ hb5
      go_wp2_with fail
      go_ret2
      exact ⟨_, rfl, hown5.base_ hz1, below_trans' hb1 (hb4.trans (hb5.mono hb4.size))⟩

end Go.Proofs.YthmfoihohminmaaDoor
