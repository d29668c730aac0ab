/-
  The law CoveredIsHidden: it returns true.
-/
import Derived.Test.YtldngebikgendaaDoorSlices
import Derived.Test.YtldngebikgendaaDoorHiddenPlain
namespace Go.Proofs.YtldngebikgendaaDoor
open Go.RowKit

/-- Numbers that a law gets: they can be read. -/
def RowAt (w : World) (A : Option Addr) (n : Nat) : Prop := ∀ j, j < n → ∃ b off z, A = some ⟨b, off, none⟩ ∧ b < w.heap.size ∧ w.cell? ⟨b, off + j, none⟩ = some (.int .i64 z)

theorem stream_new (w : World) (A : Option Addr) (n c : Nat) (h : RowAt w A n) (hbig : n ≤ 1000000000000000) :
    StreamAt (w.alloc (.cells #[.slice A n c, .int .i64 0] 25)) w.heap.size A n c 0 := by
  refine ⟨⟨0, Nat.le_refl _, heap_alloc_new _ _⟩, fun j hj => ?_, hbig⟩
  obtain ⟨b, off, z, h1, h2, h3⟩ := h j hj
  exact ⟨b, off, z, h1, h2, by rw [World.cell?_alloc_lt _ _ _ h2]; exact h3⟩

theorem bodyE_ok (s : ByteArray) (h : bodyE s = 0) : s.size ≤ 20000 ∧ textB s.data.toList = true := by
  unfold bodyE at h
  split at h
  · cases h
  · split at h
    · exact ⟨by omega, by assumption⟩
    · cases h

theorem text_valid {l : List UInt8} (h : textB l = true) : Lib.validD l = true := by
  unfold textB visB at h
  simp only [Bool.and_eq_true] at h
  exact h.1.2

def LawPost (w : World) (e : Ending) (w' : World) : Prop := e = .returned (.bool true) ∧ Below w.heap.size w w'

set_option maxHeartbeats 3200000 in
set_option maxRecDepth 100000 in
theorem covered_any (A : Option Addr) (n c : Nat) (w : World) (hrow : RowAt w A n) (hbig : n ≤ 1000000000000000) (hT : Tabs w) :
    Calls Tryd.prog 3 #[.slice A n c] w (LawPost w) := by
  have hs0 := stream_new w A n c hrow hbig
  have hb0 : Below w.heap.size w (w.alloc (.cells #[.slice A n c, .int .i64 0] 25)) := (Below.refl _ _).alloc (Nat.le_refl _) _
  have hrr : ∀ k, some w.heap.size = some k → w.heap.size ≤ k := fun k hk => by injection hk with hk; omega
  clear hrow
  go_enter Tryd.func3, Tryd.ntmps3
  go_wp2_with fail
  refine (memo_any w.heap.size A n c 0 _ hs0 (by omega)).mono ?_
  rintro e w2 ⟨t, rfl, ht, hs2, hg2⟩
  have hb2 : Below w.heap.size w w2 := hb0.grown hg2 hb0.size hrr
  clear hs0 hb0 hg2
  go_wp2_with fail
  refine (bodyFault_any t w2 (by omega) (hT.below hb2)).mono ?_
  rintro e w3 ⟨rfl, hb3⟩
  have hs3 := hs2.below hb3
  have hb3 : Below w.heap.size w w3 := hb2.trans (hb3.mono hb2.size)
  clear hs2 hb2
  have HOK := Lib.hid (bodyE_ok t)
  generalize bodyE t = be at *
  by_cases hbe : be = 0
  · obtain ⟨hsz, htx⟩ := HOK.out hbe
    subst hbe
    clear HOK
    go_wp2_with fail
    refine (spanList_any w.heap.size A n c _ _ w3 hs3 (by omega)).mono ?_
    rintro e w4 ⟨va, la, rfl, hla, hRa, hoa, hs4, hg4⟩
    have hb4 : Below w.heap.size w w4 := hb3.grown hg4 hb3.size hrr
    have hgw3 := hs3.lt
    clear hs3
    go_wp2_with fail
    refine (spanList_any w.heap.size A n c _ _ w4 hs4 (by omega)).mono ?_
    rintro e w5 ⟨vb, lb, rfl, hlb, hRb, hob, hs5, hg5⟩
    have hb5 : Below w.heap.size w w5 := hb4.grown hg5 hb4.size hrr
    have hoa5 : OwnSpans w5 w3.heap.size va la := own_stream hoa hgw3 hg5
    have hRa := hRa.mono (show min (t.size : Int) 50 ≤ (t.size : Int) by omega)
    have hRb := hRb.mono (show min (t.size : Int) 50 ≤ (t.size : Int) by omega)
    clear hoa hs4 hs5 hg4 hg5 hgw3 hb3 hb4
    obtain ⟨Aa, ca, rfl, hca, _, hsa⟩ := hoa5.atc
    obtain ⟨Ab, cb, rfl, hcb, _, hsb⟩ := hob.atc
    clear hoa5 hob
    generalize hna : la.length = na at *
    generalize hnb : lb.length = nb at *
    have HNA := Lib.hid hna; clear hna
    have HNB := Lib.hid hnb; clear hnb
    have HMA := Lib.hid (fun x hx => (⟨(hRa.mem x hx).1, (hRa.mem x hx).2.1⟩ : -1 < x.1 ∧ x.1 < x.2))
    have HMB := Lib.hid (fun x hx => (⟨(hRb.mem x hx).1, (hRb.mem x hx).2.1⟩ : -1 < x.1 ∧ x.1 < x.2))
    have HLT : Hid (t.data.toList.length = t.size) := by show _ = _; simp
    go_wp2_with fail
    refine (redact_any t Aa na ca la w5 hsa hRa (by omega) hsz htx (hT.below hb5)).mono ?_
    rintro e w6 ⟨rfl, hb6⟩
    have hsa6 := hsa.keep hb6
    have hsb6 := hsb.keep hb6
    have hb6 : Below w.heap.size w w6 := hb5.trans (hb6.mono hb5.size)
    clear hsa hsb hb5
    go_wp2_with fail
    have hxs : (⟨(redactL t.data.toList la).toArray⟩ : ByteArray).size = t.size := by
      show (redactL t.data.toList la).toArray.size = t.size
      rw [List.size_toArray, redact_length, HLT.out]
    refine (redact_any ⟨(redactL t.data.toList la).toArray⟩ Ab nb cb lb w6 hsb6 (by rw [hxs]; exact hRb) (by omega) (by rw [hxs]; exact hsz) (redact_text _ _ HMA.out htx) (hT.below hb6)).mono ?_
    rintro e w7 ⟨rfl, hb7⟩
    have hsa7 := hsa6.keep hb7
    have hsb7 := hsb6.keep hb7
    have hb7 : Below w.heap.size w w7 := hb6.trans (hb7.mono hb6.size)
    clear hsa6 hsb6 hb6 hxs
    generalize hyy : (redactL (redactL t.data.toList la) lb) = yy at *
    have HYY := Lib.hid hyy; clear hyy
    go_wp2_with fail
    refine (union_any Aa Ab na nb ca cb la lb t.size w7 hsa7 hsb7 hca hcb (by omega) (by omega) (by omega) hRa hRb).mono ?_
    rintro e w8 ⟨vu, lu, rfl, hou, hRu, hiu, hlu, hb8⟩
    have hsb8 := hsb7.keep hb8
    have hb8 : Below w.heap.size w w8 := hb7.trans (hb8.mono hb7.size)
    clear hsa7 hsb7 hb7
    obtain ⟨Au, cu, rfl, hcu, _, hsu⟩ := hou.atc
    clear hou
    generalize hnu : lu.length = nu at *
    have HNU := Lib.hid hnu; clear hnu
    have HMU := Lib.hid (fun x hx => (⟨(hRu.mem x hx).1, (hRu.mem x hx).2.1⟩ : -1 < x.1 ∧ x.1 < x.2))
    go_wp2_with fail
    refine (redact_any t Au nu cu lu w8 hsu hRu (by omega) hsz htx (hT.below hb8)).mono ?_
    rintro e w9 ⟨rfl, hb9⟩
    have hsb9 := hsb8.keep hb9
    have hsu9 := hsu.keep hb9
    have hb9 : Below w.heap.size w w9 := hb8.trans (hb9.mono hb8.size)
    clear hsb8 hsu hb8
    have hyz : yy = redactL t.data.toList lu := by rw [← HYY.out]; exact redact_twice _ la lb lu HMA.out HMB.out HMU.out hiu
    subst hyz
    have hzl : (⟨(redactL t.data.toList lu).toArray⟩ : ByteArray).size = t.size := by
      show (redactL t.data.toList lu).toArray.size = t.size
      rw [List.size_toArray, redact_length, HLT.out]
    have HIU := Lib.hid hiu; clear hiu
    generalize hzz : (⟨(redactL t.data.toList lu).toArray⟩ : ByteArray) = zz at *
    have HZZ := Lib.hid hzz; clear hzz
    have HZL := Lib.hid hzl
    have hzn : ((zz.size : Int) != (t.size : Int)) = false := by simp [hzl]
    clear hzl
    have hmf : ∀ (fn : Fn) (first cap : Array Value) (w : World), (Instr.makeFunc fn first cap).run Tryd.prog w = .ok (.func fn first cap) w := fun _ _ _ _ => rfl
    go_wp2_with fail
    go_loopg [92] t.size (fun gk i wr => ∃ k : Nat, k + gk = t.size ∧ i = .int .i64 k ∧ Below w9.heap.size w9 wr)
    case atStart => exact ⟨0, by omega, rfl, Below.refl _ _⟩
    case round =>
      obtain ⟨k, hk, rfl, hbr⟩ := hrel
      have HK := Lib.hid hk; clear hk
      have hkt : k ≤ t.size := by have := HK.out; omega
      by_cases hlt : k < t.size
      · have hba := hbr.alloc hbr.size (.cells #[.int .i64 (k : Int)] 3)
        have hca0 : (wr.alloc (.cells #[.int .i64 (k : Int)] 3)).cell? ⟨wr.heap.size, 0, none⟩ = some (.int .i64 (k : Int)) := by rw [World.cell?_alloc_at _ _ _ _ rfl]; rfl
        go_wp2_with fail
        refine (contains_spans Au nu cu lu k wr.heap.size _ (hsu9.keep hba) (by omega) (by simp) hca0).mono ?_
        rintro e w10 ⟨rfl, hb10⟩
        have hcell : w10.cell? ⟨wr.heap.size, 0, none⟩ = some (.int .i64 (k : Int)) := (hb10.cell (p := ⟨wr.heap.size, 0, none⟩) (by simp)).trans hca0
        have hbn : Below w9.heap.size w9 w10 := hba.trans (hb10.mono hba.size)
        clear hca0 hba hb10
        have hkz : k < zz.size := by rw [HZL.out]; exact hlt
        have hzk : zz[k] = (redactL t.data.toList lu).getD k 0 := by rw [← getD_byte zz k hkz, ← HZZ.out]
        have htk : t[k] = t.data.toList.getD k 0 := (getD_byte t k hlt).symm
        have hseen := redact_seen t.data.toList lu HMU.out (text_valid htx) k (by rw [HLT.out]; exact hlt)
        rw [← hzk, ← htk] at hseen
        clear hzk htk
        have HSEEN := Lib.hid hseen; clear hseen
        have hi0 : (0 : Int) ≤ (k : Int) := by omega
        have hi1 : (k : Int) < (zz.size : Int) := by omega
        have hi2 : (k : Int) < (t.size : Int) := by omega
        generalize inS lu k = inn at *
        go_upto_region 17 with (fail)
        go_cut [135] (fun v wx => v = .bool false ∧ ∃ q, wx = w10.drewN q)
        case first =>
          cases inn
          · by_cases hlow : (t[k].toNat : Int) < 128
            · have hzt : zz[k] = t[k] := HSEEN.out.2 rfl (by omega)
              have f1 : decide ((t[k].toNat : Int) < 128) = true := by simpa using hlow
              have f2 : ((zz[k].toNat : Int) != (t[k].toNat : Int)) = false := by rw [hzt]; simp
              clear hzt HSEEN
              go_quiet (fail)
              go_wp2_with fail
              go_meet
              exact ⟨rfl, _, rfl⟩
            · have f1 : decide ((t[k].toNat : Int) < 128) = false := by simpa using hlow
              clear HSEEN
              go_quiet (fail)
              go_wp2_with fail
              go_meet
              exact ⟨rfl, _, rfl⟩
          · have hz3 := HSEEN.out.1 rfl
            clear HSEEN
            rcases hz3 with hz3 | hz3 | hz3
            · have f1 : ((zz[k].toNat : Int) != 35) = false := by rw [hz3]; rfl
              clear hz3
              go_quiet (fail)
              go_wp2_with fail
              go_meet
              exact ⟨rfl, _, rfl⟩
            · have f1 : ((zz[k].toNat : Int) != 35) = true := by rw [hz3]; rfl
              have f2 : ((zz[k].toNat : Int) != 32) = false := by rw [hz3]; rfl
              clear hz3
              go_quiet (fail)
              go_wp2_with fail
              go_meet
              exact ⟨rfl, _, rfl⟩
            · have f1 : ((zz[k].toNat : Int) != 35) = true := by rw [hz3]; rfl
              have f2 : ((zz[k].toNat : Int) != 32) = true := by rw [hz3]; rfl
              have f3 : ((zz[k].toNat : Int) != 10) = false := by rw [hz3]; rfl
              clear hz3
              go_quiet (fail)
              go_wp2_with fail
              go_meet
              exact ⟨rfl, _, rfl⟩
        case rest =>
          obtain ⟨rfl, q, rfl⟩ := hcut
          go_wp2_with fail
          go_roundg (gk - 1)
          case measure => have := HK.out; omega
          case rel => exact ⟨k + 1, by have := HK.out; omega, by go_num, below_drewN hbn q⟩
      · have hsb10 := hsb9.keep hbr
        have hsu10 := hsu9.keep hbr
        have hb10 : Below w.heap.size w wr := hb9.trans (hbr.mono hb9.size)
        clear hmf
        go_wp2_with fail
        refine (without_any Au Ab nu nb cu cb lu lb t.size wr hsu10 hsb10 (by omega) (by omega) (by omega) (by omega) hRu hRb).mono ?_
        rintro e w11 ⟨vw, lw, rfl, how, hRw, hiw, hlw, hb11⟩
        have hsb11 := hsb10.keep hb11
        have hsu11 := hsu10.keep hb11
        have hb11 : Below w.heap.size w w11 := hb10.trans (hb11.mono hb10.size)
        obtain ⟨Aw, cw, rfl, hcw, _, hsw⟩ := how.atc
        clear how hsb10 hsu10 hb10
        generalize hnw : lw.length = nw at *
        have HNW := Lib.hid hnw; clear hnw
        have hnw : nw ≤ 8 * 5 := Nat.le_trans hlw (Nat.mul_le_mul (by omega) (by omega))
        go_wp2_with fail
        refine (union_any Aw Ab nw nb cw cb lw lb t.size w11 hsw hsb11 hcw hcb (by omega) (by omega) (by omega) hRw hRb).mono ?_
        rintro e w12 ⟨vv, lv, rfl, hov, hRv, hiv, hlv, hb12⟩
        have hsu12 := hsu11.keep hb12
        have hb12 : Below w.heap.size w w12 := hb11.trans (hb12.mono hb11.size)
        have hvu : lv = lu := by
          refine Right.ext (by omega) hRv hRu (fun i => ?_)
          have e1 := hiv i
          have e2 := hiw i
          simp only at e1 e2
          rw [e1, e2, HIU.out i]
          cases inS la i <;> cases inS lb i <;> rfl
        subst hvu
        obtain ⟨Av, cv, rfl, hcv, _, hsv⟩ := hov.atc
        rw [HNU.out] at hsv ⊢
        clear hov hsb11 hsu11 hb11 hiv hiw hsw
        go_wp2_with fail
        refine (privileges_any w12 (hT.below hb12)).mono ?_
        rintro e w13 ⟨rfl, hb13⟩
        have hsu13 := hsu12.keep hb13
        have hsv13 := hsv.keep hb13
        have hb13 : Below w.heap.size w w13 := hb12.trans (hb13.mono hb12.size)
        clear hsu12 hsv hb12
        go_wp2_with fail
        refine (equal_spans Av Au nu cv cu _ w13 hsv13 hsu13 (by omega)).mono ?_
        rintro e w14 ⟨rfl, hb14⟩
        go_wp2_with fail
        go_ret
        exact ⟨rfl, hb13.trans (hb14.mono hb13.size)⟩
  · have hne : (be != 0) = true := by simpa using hbe
    go_wp2_with fail
    refine (privileges_any w3 (hT.below hb3)).mono ?_
    rintro e w4 ⟨rfl, hb4⟩
    go_wp2_with fail
    go_ret
    exact ⟨rfl, hb3.trans (hb4.mono hb3.size)⟩

end Go.Proofs.YtldngebikgendaaDoor
