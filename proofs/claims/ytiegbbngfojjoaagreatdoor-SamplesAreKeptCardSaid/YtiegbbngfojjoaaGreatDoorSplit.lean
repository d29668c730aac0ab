
/-
  What Split returns of rising keys at the weights 1 and 2.
-/
import Derived.Test.YtiegbbngfojjoaaGreatDoorLeastTop
import Derived.Test.YtiegbbngfojjoaaGreatDoorTabSet
import Derived.Test.YtiegbbngfojjoaaGreatDoorRegrow
namespace Go.Proofs.YtiegbbngfojjoaaGreatDoor
open Go.RowKit
attribute [local go_sem ↓] Go.wp_at_zero Go.wp_at_succ

/-- The weights lie in block g. -/
def WtAt (w : World) (g : Nat) : Prop := g < w.heap.size ∧ w.cell? ⟨g, 0, none⟩ = some (.int .i64 1) ∧ w.cell? ⟨g, 1, none⟩ = some (.int .i64 2)
theorem WtAt.keep {w w' : World} {g B : Nat} (h : WtAt w g) (hb : Below B w w') (hg : g < B) : WtAt w' g :=
  ⟨Nat.lt_of_lt_of_le h.1 hb.size, (hb.cell (p := ⟨g, 0, none⟩) hg).trans h.2.1, (hb.cell (p := ⟨g, 1, none⟩) hg).trans h.2.2⟩
set_option maxHeartbeats 800000 in
set_option maxRecDepth 100000 in
theorem weights_ok (g : Nat) (w : World) (h : WtAt w g) :
    Calls Tryz.prog 78 #[.slice (some ⟨g, 0, none⟩) 2 2] w fun e w' => e = .returned (.int .i64 0) ∧ Below w.heap.size w w' := by
  have HI1 := Lib.hid (fun w => in_any (1 : Int) 0 1000 w)
  have HI2 := Lib.hid (fun w => in_any (2 : Int) 0 1000 w)
  rw [inB_in _ _ _ (by omega) (by omega)] at HI1 HI2
  have HW := Lib.hid h
  clear h
  go_enter Tryz.func78, Tryz.ntmps78
  go_wp2_with fail
  refine (when_any false 3 _).mono ?_
  rintro e w' ⟨rfl, hw⟩
  obtain rfl := hw
  go_wp2_with fail
  refine (when_any false 2 _).mono ?_
  rintro e w' ⟨rfl, hw⟩
  obtain rfl := hw
  go_wp2_with fail
  refine (first_2z _ _ rfl _).mono ?_
  rintro e w2 ⟨rfl, hw⟩
  have hb2 : Below w.heap.size w w2 := by rw [← hw]; exact (Below.refl _ _).alloc (Nat.le_refl _) _
  clear hw
  obtain ⟨_, c0, c1⟩ := HW.out.keep hb2 HW.out.1
  have HB := Lib.hid hb2
  clear hb2
  go_wp2_with fail
  refine wp_loop_rounds 3 ?_
  rw [rounds_succ]
  go_wp2_with fail
  refine (HI1.out _).mono ?_
  rintro e w' ⟨rfl, hw⟩
  obtain rfl := hw
  go_wp2_with fail
  rw [rounds_succ]
  go_wp2_with fail
  refine (HI2.out _).mono ?_
  rintro e w' ⟨rfl, hw⟩
  obtain rfl := hw
  go_wp2_with fail
  rw [rounds_succ]
  go_wp2_with fail
  refine (when_any false 1 _).mono ?_
  rintro e w' ⟨rfl, hw⟩
  obtain rfl := hw
  go_wp2_with fail
  go_ret
  exact ⟨rfl, HB.out⟩

/-- Two empty rows. -/
theorem make_two (w : World) : ∃ wb, (Instr.makeSlice 74 (.int .i64 2) (.int .i64 2)).run Tryz.prog w = .ok (.slice (some ⟨w.heap.size, 0, none⟩) 2 2) wb ∧
    ParasAt wb w.heap.size (.slice (some ⟨w.heap.size, 0, none⟩) 2 2) [(none, 0, 0), (none, 0, 0)] [[], []] ∧ Below w.heap.size w wb ∧ wb.heap.size = w.heap.size + 1 := by
  obtain ⟨wb, h1, h2, h3, h4⟩ := made_owns lineE_ok ((none, 0, 0) : HdS) (by rfl) w 2 (by omega)
  refine ⟨wb, h1, ⟨h2, rfl, fun k r p hr hp => ?_, ?_⟩, h3, h4⟩
  · have hk : k < 2 := (List.getElem?_eq_some_iff.1 hr).1
    have hr2 : r = (none, 0, 0) := by
      rcases k with _ | _ | k
      · simpa using hr.symm
      · simpa using hr.symm
      · omega
    have hp2 : p = [] := by
      rcases k with _ | _ | k
      · simpa using hp.symm
      · simpa using hp.symm
      · omega
    subst hr2 hp2
    exact Owns.nil _ _
  · refine List.Pairwise.cons (fun x _ => .inl rfl) (List.Pairwise.cons (fun x _ => .inl rfl) List.Pairwise.nil)
/-- A row of a table of two, as it lies. -/
theorem ParasAt.two {w : World} {base G : Nat} {r0 r1 : HdS} {p0 p1 : List Str} (h : ParasAt w base (.slice (some ⟨G, 0, none⟩) 2 2) [r0, r1] [p0, p1]) :
    w.cell? ⟨G, 0, none⟩ = some r0.v ∧ w.cell? ⟨G, 1, none⟩ = some r1.v ∧ w.frozen? ⟨G, 0, none⟩ = false ∧ w.frozen? ⟨G, 1, none⟩ = false ∧ OwnStrs w base r0.v p0 ∧ OwnStrs w base r1.v p1 ∧ base ≤ G ∧ G < w.heap.size ∧ r0.v.ownBlock ≠ some G ∧ r1.v.ownBlock ≠ some G := by
  obtain ⟨G', c', e, hb, hl, hc⟩ := Owns.where_ lineE_ok h.own (by simp)
  simp only [Value.slice.injEq, Option.some.injEq, Addr.mk.injEq] at e
  obtain ⟨⟨rfl, _⟩, _, rfl⟩ := e
  have h0 := hc 0 r0 0 r0.v rfl rfl
  have h1 := hc 1 r1 0 r1.v rfl rfl
  have e0 := h.each 0 r0 p0 rfl rfl
  have e1 := h.each 1 r1 p1 rfl rfl
  have hG : (Value.slice (some ⟨G, 0, none⟩) 2 2).ownBlock = some G := rfl
  have n0 := Owns.ne_own e0 h.own line_ne
  have n1 := Owns.ne_own e1 h.own line_ne
  rw [hG] at n0 n1
  refine ⟨h0.1, h1.1, h0.2, h1.2, e0, e1, hb, hl, ?_, ?_⟩
  · rcases n0 with n0 | n0
    · rw [n0]; simp
    · exact fun e => n0 e.symm
  · rcases n1 with n1 | n1
    · rw [n1]; simp
    · exact fun e => n1 e.symm
/-- A row behind the append to it. -/
theorem row_cell {w5 w6 : World} {G base k : Nat} {rs : List HdS} {T : List (List Str)} {r : HdS} {p : List Str} {o : Obj} (hP : ParasAt w5 base (.slice (some ⟨G, 0, none⟩) 2 2) rs T) (hr : rs[k]? = some r) (hp : T[k]? = some p)
    (hg : (w5.alloc o).grownBy w6 r.v.ownBlock) : w6.cell? ⟨G, k, none⟩ = some r.v ∧ w6.frozen? ⟨G, k, none⟩ = false := by
  have hP1 := hP.below ((Below.refl w5.heap.size w5).alloc (Nat.le_refl _) o)
  have hout : Owns LineE w6 base (.slice (some ⟨G, 0, none⟩) 2 2) rs := hP1.own.beside (hP1.each k r p hr hp) (Ne.symm line_ne) hg
  have hl := (List.getElem?_eq_some_iff.1 hr).1
  obtain ⟨G', c', e, _, _, hc⟩ := Owns.where_ lineE_ok hout (by omega)
  simp only [Value.slice.injEq, Option.some.injEq, Addr.mk.injEq] at e
  obtain ⟨⟨rfl, _⟩, _, _⟩ := e
  have := hc k r 0 r.v hr rfl
  rwa [show k * LineE.size + 0 = k by show k * 1 + 0 = k; omega] at this
theorem row_put {w5 w6 : World} {G base k : Nat} {rs : List HdS} {T : List (List Str)} {r r' : HdS} {p p' : List Str} {o : Obj} (hP : ParasAt w5 base (.slice (some ⟨G, 0, none⟩) 2 2) rs T) (hr : rs[k]? = some r) (hp : T[k]? = some p)
    (ho : OwnStrs w6 base r'.v p') (hg : (w5.alloc o).grownBy w6 r.v.ownBlock) (hv : r'.v.ownBlock = r.v.ownBlock ∨ r'.v.ownBlock = some (w5.alloc o).heap.size) :
    ParasAt (w6.setCell ⟨G, k, none⟩ r'.v) base (.slice (some ⟨G, 0, none⟩) 2 2) (rs.set k r') (T.set k p') :=
  (hP.below ((Below.refl w5.heap.size w5).alloc (Nat.le_refl _) o)).regrow hr hp ho hg (by
    rcases hv with e | e
    · exact .inl e
    · exact .inr (.inr ⟨_, e, Nat.le_refl _⟩))
theorem row_below {w w5 w6 : World} {G base k : Nat} {rs : List HdS} {T : List (List Str)} {r : HdS} {p : List Str} {o : Obj} {v : Value} (hb : Below w.heap.size w w5) (hbase : w.heap.size ≤ base) (hG : base ≤ G) (hP : ParasAt w5 base (.slice (some ⟨G, 0, none⟩) 2 2) rs T) (hr : rs[k]? = some r) (hp : T[k]? = some p)
    (hg : (w5.alloc o).grownBy w6 r.v.ownBlock) : Below w.heap.size w (w6.setCell ⟨G, k, none⟩ v) :=
  ((hb.alloc hb.size o).grown hg (Nat.le_trans hb.size (by simp)) (fun i e => by have := ((hP.each k r p hr hp).lt i e).1; omega)).setCell (show w.heap.size ≤ G by omega) _
/-- Which ids go into the first row. -/
def oneB (x : List UInt8) : Bool := decide (hashN (oneK ++ 32 :: x) % 3 = 0)
theorem filt_succ (f : List UInt8 → Bool) (l : List (List UInt8)) (k : Nat) (h : k < l.length) : (l.take (k + 1)).filter f = (l.take k).filter f ++ (if f (l.getD k []) = true then [l.getD k []] else []) := by
  have e : l.getD k [] = l[k] := by simp [h]
  rw [List.take_succ_eq_append_getElem h, List.filter_append, e]
  congr 1
  by_cases hf : f l[k] = true <;> simp [hf]
def SplitRows (w w' : World) (v : Value) (l : List (List UInt8)) (f : List UInt8 → Bool) : Prop := ∃ r0 r1, ParasAt w' w.heap.size v [r0, r1] [l.filter f, l.filter fun x => !f x] ∧ Below w.heap.size w w'
def Split2Post (w : World) (l : List (List UInt8)) (e : Ending) (w' : World) : Prop := ∃ v, e = .returned (.tuple #[v, .int .i64 0]) ∧ SplitRows w w' v l oneB
set_option maxHeartbeats 3200000 in
set_option maxRecDepth 100000 in
theorem split_any2 (A : Option Addr) (n c g : Nat) (l : List (List UInt8)) (w : World) (h : StrsAt w A n c l) (hn : n ≤ 100) (hk : ∀ x ∈ l, keyL x = true) (hr : Rising l) (hW : WtAt w g) :
    Calls Tryz.prog 33 #[.slice A n c, .string ⟨#[111, 110, 101]⟩, .slice (some ⟨g, 0, none⟩) 2 2] w (Split2Post w l) := by
  have HI := Lib.hid (idsError_ok A n c l w h (by omega) hk hr)
  have HKO := Lib.hid (fun w => keyError_ok ⟨#[111, 110, 101]⟩ w (by decide +kernel))
  have HN := Lib.hid h.1
  have HH := Lib.hid h
  have HK := Lib.hid hk
  have HW := Lib.hid hW
  have HG := Lib.hid hW.1
  clear h hk hr hW
  go_enter Tryz.func33, Tryz.ntmps33
  go_wp2_with fail
  refine HI.out.mono ?_
  rintro e w1 ⟨rfl, hb1⟩
  have HB1 := Lib.hid hb1
  clear hb1
  go_wp2_with fail
  refine (HKO.out _).mono ?_
  rintro e w' ⟨rfl, hw⟩
  obtain rfl := hw
  go_wp2_with fail
  refine (weights_ok g _ (HW.out.keep HB1.out HG.out)).mono ?_
  rintro e w2 ⟨rfl, hb2⟩
  have HB2 : Hid (Below w.heap.size w w2) := HB1.out.trans (hb2.mono HB1.out.size)
  clear hb2 HB1
  go_wp2_with fail
  refine (first_3z _ _ rfl _).mono ?_
  rintro e w3 ⟨rfl, hw⟩
  have hb3 : Below w.heap.size w w3 := by rw [← hw]; exact HB2.out.alloc HB2.out.size _
  have HB3 := Lib.hid hb3
  clear hw hb3 HB2
  obtain ⟨_, c0, c1⟩ := HW.out.keep HB3.out HG.out
  obtain ⟨wb, hmk, hpa, hbb, hzb⟩ := make_two w3
  go_wp2_with fail
  refine wp_loop_rounds 3 ?_
  rw [rounds_succ]
  go_wp2_with fail
  rw [rounds_succ]
  go_wp2_with fail
  rw [rounds_succ]
  go_wp2_with fail
  clear hmk c0 c1
  have HB := Lib.hid (HB3.out.trans (hbb.mono HB3.out.size))
  have hz3 := HB3.out.size
  generalize w3.heap.size = G at *
  have HP : Hid (ParasAt wb G (.slice (some ⟨G, 0, none⟩) 2 2) [(none, 0, 0), (none, 0, 0)] [[], []]) := hpa
  clear hpa hbb hzb
  go_loopg [44] n (fun gk v wr => ∃ (k : Nat) (r0 r1 : HdS), Hid (k + gk = n) ∧ v = .int .i64 (k : Int) ∧ Hid (ParasAt wr G (.slice (some ⟨G, 0, none⟩) 2 2) [r0, r1] [(l.take k).filter oneB, (l.take k).filter fun x => !oneB x]) ∧ Hid (Below w.heap.size w wr))
  case atStart => exact ⟨0, _, _, show 0 + n = n by omega, rfl, HP.out, HB.out⟩
  case round =>
    obtain ⟨k, r0, r1, HK1, rfl, HPA, HBW⟩ := hrel
    have hkn : k ≤ n := by have := HK1.out; omega
    by_cases hlt : k < n
    · obtain ⟨gs, off, rfl, hg, hc⟩ := (HH.out.keep HBW.out).str (by omega)
      have hck := hc k hlt
      have hkl : k < l.length := by have := HN.out; omega
      have hkey : keyL (l.getD k []) = true := HK.out _ (by rw [List.getD_eq_getElem?_getD, List.getElem?_eq_getElem hkl]; exact List.getElem_mem hkl)
      have HF0 := Lib.hid (filt_succ oneB l k hkl)
      have HF1 := Lib.hid (filt_succ (fun x => !oneB x) l k hkl)
      have hl0 : ((l.take k).filter oneB).length ≤ k := Nat.le_trans (List.length_filter_le _ _) (by simp; omega)
      have hl1 : ((l.take k).filter fun x => !oneB x).length ≤ k := Nat.le_trans (List.length_filter_le _ _) (by simp; omega)
      generalize l.getD k [] = x at *
      have hlen : (⟨x.toArray⟩ : ByteArray).size ≤ 1000 := by
        have := keyL_len hkey
        simp [ByteArray.size]; omega
      have HHS := Lib.hid (hash_one x hlen)
      have HOB : Hid (oneB x = decide (hashN (oneK ++ 32 :: x) % 3 = 0)) := rfl
      have hrg := hashN_range (oneK ++ 32 :: x)
      generalize hashN (oneK ++ 32 :: x) = z at *
      have htm : z.tmod 3 = z % 3 := Int.tmod_eq_emod_of_nonneg hrg.1
      have hm0 : 0 ≤ z % 3 := Int.emod_nonneg _ (by decide)
      have hm1 : z % 3 < 3 := Int.emod_lt_of_pos _ (by decide)
      clear hc hkey hlen
      go_wp2_with fail
      refine (HHS.out _).mono ?_
      rintro e w5 ⟨rfl, hb5⟩
      have HB5 : Hid (Below w.heap.size w w5) := HBW.out.trans (hb5.mono HBW.out.size)
      have HP5 := Lib.hid (HPA.out.below hb5)
      clear hb5 HHS HPA HBW hck
      obtain ⟨_, c0, c1⟩ := HW.out.keep HB5.out HG.out
      obtain ⟨q0, q1, f0, f1, ho0, ho1, hGb, hGl, hn0, hn1⟩ := HP5.out.two
      have HO0 := Lib.hid ho0
      have HO1 := Lib.hid ho1
      obtain ⟨A0, m0, d0⟩ := r0
      obtain ⟨A1, m1, d1⟩ := r1
      simp only [HdS.v] at q0 q1
      clear ho0 ho1
      generalize hL0 : (l.take k).filter oneB = L0 at *
      generalize hL1 : (l.take k).filter (fun x => !oneB x) = L1 at *
      clear hL0 hL1
      have hGr : G ≤ w5.heap.size := Nat.le_of_lt hGl
      by_cases hz0 : z % 3 = 0
      · rw [hz0] at htm
        have HT : Hid (decide (z % 3 = 0) = true) := decide_eq_true hz0
        clear hz0 hm0 hm1
        go_wp2_with fail
        refine wp_loop_rounds 2 ?_
        rw [rounds_succ]
        go_wp2_with (at_builtin; refine append_elems strE_ok rfl _ _ rfl G (.slice A0 m0 d0) L0 rfl (World.ownsRow.alloc HO0.out _) (some ⟨w5.heap.size, 0, none⟩) 1 1 [x] rfl (one_elem (E := StrE) w5 x) (by simp; omega) (by simp; omega) ?_; intro v6 w6 hown6 hgrow6 hv6; have hat6 := hown6.at_ strE_ok; rw [show (L0 ++ [x]).length = L0.length + 1 by simp] at hat6; obtain ⟨A6, c6, rfl, hc6, hat6', hG6'⟩ := hat6; clear hc6 hat6' hG6'; have HO6 := Lib.hid hown6; have HV6 := Lib.hid hv6; have HG6 : Hid ((w5.alloc (.cells #[.string ⟨x.toArray⟩] 9)).grownBy w6 (Value.slice A0 m0 d0).ownBlock) := hgrow6; obtain ⟨k0, k1⟩ := row_cell (k := 0) (r := (A0, m0, d0)) HP5.out rfl rfl HG6.out; simp only [HdS.v] at k0; clear hown6 hgrow6 hv6)
        have HP6 : Hid (ParasAt (w6.setCell ⟨G, 0, none⟩ (.slice A6 (L0.length + 1) c6)) G (.slice (some ⟨G, 0, none⟩) 2 2) [(A6, L0.length + 1, c6), (A1, m1, d1)] [L0 ++ [x], L1]) := row_put (k := 0) (r := (A0, m0, d0)) (r' := (A6, L0.length + 1, c6)) HP5.out rfl rfl HO6.out HG6.out HV6.out
        have HB6 : Hid (Below w.heap.size w (w6.setCell ⟨G, 0, none⟩ (.slice A6 (L0.length + 1) c6))) := row_below (k := 0) (r := (A0, m0, d0)) HB5.out hz3 (Nat.le_refl _) HP5.out rfl rfl HG6.out
        clear HV6 HG6 k0 k1 q0 q1 f0 f1
        generalize w6.setCell ⟨G, 0, none⟩ (.slice A6 (L0.length + 1) c6) = w7 at *
        go_wp2_with fail
        go_roundg (gk - 1)
        case measure => have := HK1.out; omega
        case rel => exact ⟨k + 1, (A6, L0.length + 1, c6), (A1, m1, d1), show k + 1 + (gk - 1) = n by have := HK1.out; omega, by go_num, by rw [HF0.out, HF1.out, HOB.out]; rw [HT.out]; simp only [Bool.not_true, if_true, Bool.false_eq_true, if_false, List.append_nil]; exact HP6.out, HB6.out⟩
      · have hz1 : (1 : Int) ≤ z % 3 := by omega
        have hz2 : ¬ (3 : Int) ≤ z % 3 := by omega
        have HT : Hid (decide (z % 3 = 0) = false) := decide_eq_false hz0
        generalize z % 3 = mm at *
        clear hz0 hm0 hm1
        go_wp2_with fail
        refine wp_loop_rounds 3 ?_
        rw [rounds_succ]
        go_wp2_with fail
        rw [rounds_succ]
        go_wp2_with (at_builtin; refine append_elems strE_ok rfl _ _ rfl G (.slice A1 m1 d1) L1 rfl (World.ownsRow.alloc HO1.out _) (some ⟨w5.heap.size, 0, none⟩) 1 1 [x] rfl (one_elem (E := StrE) w5 x) (by simp; omega) (by simp; omega) ?_; intro v6 w6 hown6 hgrow6 hv6; have hat6 := hown6.at_ strE_ok; rw [show (L1 ++ [x]).length = L1.length + 1 by simp] at hat6; obtain ⟨A6, c6, rfl, hc6, hat6', hG6'⟩ := hat6; clear hc6 hat6' hG6'; have HO6 := Lib.hid hown6; have HV6 := Lib.hid hv6; have HG6 : Hid ((w5.alloc (.cells #[.string ⟨x.toArray⟩] 9)).grownBy w6 (Value.slice A1 m1 d1).ownBlock) := hgrow6; obtain ⟨k0, k1⟩ := row_cell (k := 1) (r := (A1, m1, d1)) HP5.out rfl rfl HG6.out; simp only [HdS.v] at k0; clear hown6 hgrow6 hv6)
        have HP6 : Hid (ParasAt (w6.setCell ⟨G, 1, none⟩ (.slice A6 (L1.length + 1) c6)) G (.slice (some ⟨G, 0, none⟩) 2 2) [(A0, m0, d0), (A6, L1.length + 1, c6)] [L0, L1 ++ [x]]) := row_put (k := 1) (r := (A1, m1, d1)) (r' := (A6, L1.length + 1, c6)) HP5.out rfl rfl HO6.out HG6.out HV6.out
        have HB6 : Hid (Below w.heap.size w (w6.setCell ⟨G, 1, none⟩ (.slice A6 (L1.length + 1) c6))) := row_below (k := 1) (r := (A1, m1, d1)) HB5.out hz3 (Nat.le_refl _) HP5.out rfl rfl HG6.out
        clear HV6 HG6 k0 k1 q0 q1 f0 f1
        generalize w6.setCell ⟨G, 1, none⟩ (.slice A6 (L1.length + 1) c6) = w7 at *
        go_wp2_with fail
        go_roundg (gk - 1)
        case measure => have := HK1.out; omega
        case rel => exact ⟨k + 1, (A0, m0, d0), (A6, L1.length + 1, c6), show k + 1 + (gk - 1) = n by have := HK1.out; omega, by go_num, by rw [HF0.out, HF1.out, HOB.out]; rw [HT.out]; simp only [Bool.not_false, if_true, Bool.false_eq_true, if_false, List.append_nil]; exact HP6.out, HB6.out⟩
    · have hnk : ¬ (k : Int) < (n : Int) := by omega
      have hall : l.take k = l := List.take_of_length_le (by have := HN.out; omega)
      rw [hall] at HPA
      have HF : Hid (Split2Post w l (.returned (.tuple #[.slice (some ⟨G, 0, none⟩) 2 2, .int .i64 0])) wr) := ⟨_, rfl, r0, r1, HPA.out.base_ hz3, HBW.out⟩
      clear hall
      go_wp2_with fail
      go_ret2
      exact HF.out
end Go.Proofs.YtiegbbngfojjoaaGreatDoor
