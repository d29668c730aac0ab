/-
  What Redact returns.
-/
import Derived.Test.YtldngebikgendaaDoorPoints
namespace Go.Proofs.YtldngebikgendaaDoor
open Go.RowKit

/-- Block G holds the bytes M, and behind them others up to N. -/
def BytesAt (w : World) (G N : Nat) (M : List UInt8) : Prop :=
  ∃ C : Array Value, w.heap[G]? = some (.cells C 5 (N, N + 1)) ∧ C.size = N ∧ M.length ≤ N ∧ ∀ j, j < M.length → C[j]? = some (.int .u8 ((M.getD j 0).toNat : Int))

theorem BytesAt.cell {w : World} {G N : Nat} {M : List UInt8} (h : BytesAt w G N M) (j : Nat) (hj : j < M.length) : w.cell? ⟨G, j, none⟩ = some (.int .u8 ((M.getD j 0).toNat : Int)) := by
  obtain ⟨C, h1, h2, h3, h4⟩ := h
  rw [cell_of_row w G j _ _ _ h1]
  exact h4 j hj
theorem BytesAt.frozen {w : World} {G N : Nat} {M : List UInt8} (h : BytesAt w G N M) (j : Nat) (hj : j < M.length) : w.frozen? ⟨G, j, none⟩ = false := by
  obtain ⟨C, h1, h2, h3, h4⟩ := h
  simp [World.frozen?, h1]
  omega
theorem BytesAt.lt {w : World} {G N : Nat} {M : List UInt8} (h : BytesAt w G N M) : G < w.heap.size := by
  obtain ⟨C, h1, _⟩ := h
  exact (Array.getElem?_eq_some_iff.1 h1).1
theorem BytesAt.set {w : World} {G N : Nat} {M : List UInt8} (h : BytesAt w G N M) (i : Nat) (hi : i < M.length) (c : UInt8) : BytesAt (w.setCell ⟨G, i, none⟩ (.int .u8 (c.toNat : Int))) G N (M.set i c) := by
  obtain ⟨C, h1, h2, h3, h4⟩ := h
  refine ⟨C.setIfInBounds i (.int .u8 (c.toNat : Int)), ?_, by simpa using h2, by simpa using h3, fun j hj => ?_⟩
  · simp [World.setCell, Array.getElem?_modify, h1]
  · have hj' : j < M.length := by simpa using hj
    by_cases hji : i = j
    · subst hji
      have : i < C.size := by omega
      simp [this, hi]
    · rw [Array.getElem?_setIfInBounds_ne hji, h4 j hj', List.getD_eq_getElem?_getD, List.getD_eq_getElem?_getD, List.getElem?_set_ne hji]
theorem BytesAt.keep {w w' : World} {G N : Nat} {M : List UInt8} (h : BytesAt w G N M) (hb : w'.heap[G]? = w.heap[G]?) : BytesAt w' G N M := by
  obtain ⟨C, h1, h2⟩ := h
  exact ⟨C, hb.trans h1, h2⟩
theorem BytesAt.below {w w' : World} {G N : Nat} {M : List UInt8} (h : BytesAt w G N M) (hb : Below w.heap.size w w') : BytesAt w' G N M := h.keep (hb.block G h.lt)
theorem BytesAt.alloc {w : World} {G N : Nat} {M : List UInt8} (h : BytesAt w G N M) (o : Obj) : BytesAt (w.alloc o) G N M := h.below ((Below.refl _ _).alloc (Nat.le_refl _) o)

theorem conv_bytes' (w : World) (s : ByteArray) : ∃ (N : Nat) (wb : World),
    (convert 9 50 (.string s)).run Tryd.prog w = .ok (.slice (some ⟨w.heap.size, 0, none⟩) s.size N) wb ∧ s.size ≤ N ∧ BytesAt wb w.heap.size N s.data.toList ∧ Below w.heap.size w wb ∧ wb.heap.size = w.heap.size + 1 := by
  obtain ⟨C, wb, h1, h2, h3, h4, h5, h6⟩ := conv_bytes w s
  exact ⟨C.size, wb, h1, h2, ⟨C, h3, rfl, by simpa using h2, fun j hj => by rw [getD_byte s j (by simpa using hj)]; exact h4 j (by simpa using hj)⟩, h5, h6⟩

theorem conv_back (w : World) (G N n : Nat) (M : List UInt8) (hn : M.length = n) (h : BytesAt w G N M) : (convert 50 9 (.slice (some ⟨G, 0, none⟩) n N)).run Tryd.prog w = .ok (.string ⟨M.toArray⟩) w := by
  subst hn
  refine run_convert_bytes_back w 50 9 5 ⟨G, 0, none⟩ N M Tryd.underlying50 Tryd.underlying5 Tryd.underlying9 (fun j hj => ?_)
  have hadd : (⟨G, 0, none⟩ : Addr).add j = ⟨G, j, none⟩ := by unfold Addr.add; split <;> simp_all
  rw [hadd, h.cell j hj]
  simp [hj]

theorem OwnSpans.cells_ {w : World} {base n c : Nat} {A : Option Addr} {l : List (Int × Int)} (h : OwnSpans w base (.slice A n c) l) (k : Nat) (hk : k < l.length) :
    ∃ g, A = some ⟨g, 0, none⟩ ∧ base ≤ g ∧ g < w.heap.size ∧ w.cell? ⟨g, k * 2, none⟩ = some (.int .i64 (l.getD k (0, 0)).1) ∧ w.cell? ⟨g, k * 2 + 1, none⟩ = some (.int .i64 (l.getD k (0, 0)).2) := by
  obtain ⟨A', c', hv, hs⟩ := h.at_
  injection hv with h1 h2 h3
  subst h1
  obtain ⟨g, rfl, hg, hc⟩ := hs.2 (by omega)
  exact ⟨g, rfl, (h.lt g rfl).1, hg, hc k hk⟩

theorem hide_same (c : UInt8) (h : c = 32 ∨ c = 10) : hideB c = c := by unfold hideB; rw [if_pos h]
theorem hide_sign (c : UInt8) (h1 : ¬ c = 32) (h2 : ¬ c = 10) : hideB c = 35 := by unfold hideB; rw [if_neg (by intro h; rcases h with h | h; exact h1 h; exact h2 h)]
theorem byte_eq (c : UInt8) (n : Nat) (h : (c.toNat : Int) = (n : Int)) : c = UInt8.ofNat n := by
  have h1 : c.toNat = n := by omega
  rw [← h1]; simp

def RedactPost (w : World) (L : List UInt8) (l : List (Int × Int)) (e : Ending) (w' : World) : Prop := e = .returned (.tuple #[.string ⟨(redactL L l).toArray⟩, .int .i64 0]) ∧ Below w.heap.size w w'

theorem points_nat (L : List UInt8) (l : List (Int × Int)) (k : Nat) (h : k < l.length) (hR : Right L.length (-1) l) :
    ∃ f t : Nat, (pointsL L l).getD k (0, 0) = ((f : Int), (t : Int)) ∧ f ≤ t ∧ t ≤ L.length := by
  obtain ⟨f, t, hft, h1, h2⟩ := hR.nat k h
  refine ⟨down L f, up L t, ?_, Nat.le_trans (down_le L f) (Nat.le_trans (Nat.le_of_lt h1) (le_up L t)), up_le L _ t rfl (by omega)⟩
  have : (pointsL L l).getD k (0, 0) = ((down L (l.getD k (0, 0)).1.toNat : Int), (up L (l.getD k (0, 0)).2.toNat : Int)) := by simp [pointsL, h]
  rw [this, hft]
  simp

set_option maxHeartbeats 1600000 in
set_option maxRecDepth 100000 in
theorem redact_any (s : ByteArray) (A : Option Addr) (n c : Nat) (l : List (Int × Int)) (w : World) (h : SpansAt w A n l) (hR : Right s.size (-1) l) (hn : n ≤ 1000) (hs : s.size ≤ 20000) (ht : textB s.data.toList = true) (hT : Tabs w) :
    Calls Tryd.prog 9 #[.string s, .slice A n c] w (RedactPost w s.data.toList l) := by
  have hlen : s.data.toList.length = s.size := by simp
  have HLEN := Lib.hid hlen; clear hlen
  go_enter Tryd.func9, Tryd.ntmps9
  go_wp2_with fail
  refine (textError_any s A n c l w h hR hn hs ht hT).mono ?_
  rintro e w1 ⟨rfl, hb1⟩
  obtain ⟨N, wb, hrun, hN, hby, hbb, hszb⟩ := conv_bytes' w1 s
  have HZ := Lib.hid hszb; clear hszb
  go_wp2_with fail
  clear hrun
  refine (points_any s A n c l wb ((h.keep hb1).keep hbb) hR hn hs).mono ?_
  rintro e w3 ⟨v, rfl, hown, hb3⟩
  obtain ⟨A3, c3, rfl, hsp⟩ := hown.at_
  have hlp : (pointsL s.data.toList l).length = n := by have := h.1; simp [pointsL]; omega
  rw [hlp] at hsp ⊢
  have HLP := Lib.hid hlp; clear hlp
  have hby3 := hby.below hb3
  have hbw3 : Below w.heap.size w w3 := (hb1.trans (hbb.mono hb1.size)).trans (hb3.mono (Nat.le_trans hb1.size hbb.size))
  have HO := Lib.hid hown; clear hown
  generalize hpts : pointsL s.data.toList l = pts at *
  have HPTS := Lib.hid hpts; clear hpts
  go_wp2_with fail
  go_loopg [23] n (fun gk i wr => ∃ k : Nat, k + gk = n ∧ i = .int .i64 k ∧ BytesAt wr w1.heap.size N (coverL (pts.take k) s.data.toList) ∧ w3.grownBy wr (some w1.heap.size) ∧ Below w.heap.size w wr)
  case atStart => exact ⟨0, by omega, rfl, by rw [List.take_zero, coverL_nil]; exact hby3, World.grownBy.refl _ _, hbw3⟩
  case round =>
    obtain ⟨k, hk, rfl, hbr, hgr, hb⟩ := hrel
    have HK := Lib.hid hk; clear hk
    have hkn : k ≤ n := by have := HK.out; omega
    have hG : w1.heap.size < wb.heap.size := by have := HZ.out; omega
    by_cases hlt : k < n
    · obtain ⟨f, t, hft, hf1, hf2⟩ := points_nat s.data.toList l k (by have := h.1; omega) (by rw [HLEN.out]; exact hR)
      rw [HPTS.out] at hft
      have hf2 : t ≤ s.size := by have := HLEN.out; omega
      have hownr : OwnSpans wr wb.heap.size (.slice A3 pts.length c3) pts := own_stream HO.out hG hgr
      obtain ⟨g, rfl, hg1, hg2, c1, c2⟩ := hownr.cells_ k (by have := HLP.out; omega)
      rw [hft] at c1 c2
      have HFT := Lib.hid hft; clear hft
      have HOR := Lib.hid hownr; clear hownr
      have H := Lib.hid h; clear h
      have HBR := Lib.hid hbr; clear hbr
      have hne : g ≠ w1.heap.size := by omega
      obtain ⟨wo, rfl⟩ : ∃ wo : World, wo = wr := ⟨_, rfl⟩
      obtain ⟨ko, rfl⟩ : ∃ ko : Nat, ko = gk := ⟨_, rfl⟩
      go_wp2_with fail
      clear c1 c2
      have hstart : BytesAt (wo.alloc (.cells #[.int .i64 (f : Int), .int .i64 (t : Int)] 38)) w1.heap.size N (coverL (pts.take k ++ [((f : Int), (f : Int))]) s.data.toList) := by rw [cover_start]; exact HBR.out.alloc _
      have hgs : w3.grownBy (wo.alloc (.cells #[.int .i64 (f : Int), .int .i64 (t : Int)] 38)) (some w1.heap.size) := grown_alloc hgr _
      have hbs : Below w.heap.size w (wo.alloc (.cells #[.int .i64 (f : Int), .int .i64 (t : Int)] 38)) := hb.alloc hb.size _
      have hst : (wo.alloc (.cells #[.int .i64 (f : Int), .int .i64 (t : Int)] 38)).heap[wo.heap.size]? = some (.cells #[.int .i64 (f : Int), .int .i64 (t : Int)] 38 (0, 0)) := heap_alloc_new _ _
      have HS := Lib.hid hst; clear hst
      have hGo : w1.heap.size < wo.heap.size := by omega
      go_loopg [10] (t - f) (fun gk i wx => ∃ j : Nat, f ≤ j ∧ j + gk = t ∧ i = .int .i64 j ∧ BytesAt wx w1.heap.size N (coverL (pts.take k ++ [((f : Int), (j : Int))]) s.data.toList) ∧ w3.grownBy wx (some w1.heap.size) ∧ Below w.heap.size w wx ∧ Hid (wx.heap[wo.heap.size]? = some (.cells #[.int .i64 (f : Int), .int .i64 (t : Int)] 38 (0, 0))))
      case atStart => exact ⟨f, by omega, by omega, rfl, hstart, hgs, hbs, HS⟩
      case round =>
        obtain ⟨j, hj1, hj2, rfl, hbx, hgx, hbelx, hstx⟩ := hrel
        clear hstart hgs hbs HS
        have HJ := Lib.hid hj2; clear hj2
        have hjt : j ≤ t := by have := HJ.out; omega
        have ct : wr.cell? ⟨wo.heap.size, 1, none⟩ = some (.int .i64 (t : Int)) := by rw [cell_of_row wr _ 1 _ _ _ hstx.out]; rfl
        by_cases hjl : j < t
        · have hml : j < (coverL (pts.take k ++ [((f : Int), (j : Int))]) s.data.toList).length := by rw [coverL_length, HLEN.out]; omega
          have cj := hbx.cell j hml
          have fj := hbx.frozen j hml
          have HST := Lib.hid (cover_step (pts.take k) s.data.toList f j hj1 (by rw [HLEN.out]; omega))
          have hset := hbx.set j hml
          generalize (coverL (pts.take k ++ [((f : Int), (j : Int))]) s.data.toList) = M at *
          have hsame := fun (hc : hideB (M.getD j 0) = M.getD j 0) => (show M.set j (hideB (M.getD j 0)) = M by rw [hc]; simp [hml])
          generalize M.getD j 0 = cb at *
          have HSET := Lib.hid hset; clear hset
          have HSAME := Lib.hid hsame; clear hsame
          have HBX := Lib.hid hbx; clear hbx
          have hjb : (j : Int) < (s.size : Int) := by omega
          by_cases e1 : (cb.toNat : Int) = 32
          · have hh : hideB cb = cb := hide_same cb (.inl (byte_eq cb 32 e1))
            have i1 : ((cb.toNat : Int) != 32) = false := by simp [e1]
            have HH := Lib.hid hh; clear hh e1
            go_wp2_with fail
            go_roundg (gk - 1)
            case measure => have := HJ.out; omega
            case rel => exact ⟨j + 1, by omega, by have := HJ.out; omega, by go_num, by rw [HST.out, HSAME.out HH.out]; exact HBX.out, hgx, hbelx, hstx⟩
          · have i1 : ((cb.toNat : Int) != 32) = true := by simp [e1]
            by_cases e2 : (cb.toNat : Int) = 10
            · have hh : hideB cb = cb := hide_same cb (.inr (byte_eq cb 10 e2))
              have i2 : ((cb.toNat : Int) != 10) = false := by simp [e2]
              have HH := Lib.hid hh; clear hh e1 e2
              go_wp2_with fail
              go_roundg (gk - 1)
              case measure => have := HJ.out; omega
              case rel => exact ⟨j + 1, by omega, by have := HJ.out; omega, by go_num, by rw [HST.out, HSAME.out HH.out]; exact HBX.out, hgx, hbelx, hstx⟩
            · have hh : hideB cb = 35 := hide_sign cb (fun e => e1 (by rw [e]; rfl)) (fun e => e2 (by rw [e]; rfl))
              have i2 : ((cb.toNat : Int) != 10) = true := by simp [e2]
              have HH := Lib.hid hh; clear hh e1 e2
              go_wp2_with fail
              go_roundg (gk - 1)
              case measure => have := HJ.out; omega
              case rel => exact ⟨j + 1, by omega, by have := HJ.out; omega, by go_num, by rw [HST.out, HH.out]; exact HSET.out 35, grown_trans hgx (grown_setCell _ _ _ _), hbelx.setCell hb1.size _, (Below.heap_setCell _ _ _ _ (by simp; omega)).trans hstx.out⟩
        · go_wp2_with fail
          have hjt2 : j = t := by omega
          go_roundg (ko - 1)
          case measure => have := HK.out; omega
          case rel => exact ⟨k + 1, by have := HK.out; omega, by go_num, by rw [take_snoc_getD pts (0, 0) k (by have := HLP.out; omega), HFT.out, ← hjt2]; exact hbx, hgx, hbelx⟩
    · have hkn2 : k = n := by omega
      have hM : coverL (pts.take k) s.data.toList = redactL s.data.toList l := by
        have := HLP.out
        rw [List.take_of_length_le (by omega), ← HPTS.out]
        rfl
      rw [hM] at hbr
      have hback := conv_back wr w1.heap.size N s.size _ (by rw [redactL, coverL_length, HLEN.out]) hbr
      clear hM
      generalize hR2 : redactL s.data.toList l = R at *
      have HR2 := Lib.hid hR2; clear hR2
      go_wp2_with fail
      go_ret2
      have e := HR2.out
      subst e
      exact ⟨rfl, hb⟩

end Go.Proofs.YtldngebikgendaaDoor
