
/-
  Pages: the pieces of a text, by fifty.
-/
import Derived.RangeFuncBox
import Derived.Test.YtemgaanmpgpdcaaGreatDoorChunk
import Derived.Test.YtemgaanmpgpdcaaGreatDoorPieces
namespace Go.Proofs.YtemgaanmpgpdcaaGreatDoor
open Go.RowKit Go.Shelf

attribute [local go_sem] Oper.semAt_some

theorem Owns.other {α : Type} {E : Elem α} {W W' : World} {base : Nat} {v : Value} {l : List α} {row : Option Nat} (h : Owns E W base v l) (hg : W.grownBy W' row) (hr : ∀ r, row = some r → ∃ o : Obj, W.heap[r]? = some o ∧ o.isCells = false) : Owns E W' base v l := by
  refine World.ownsRow.kept h hg ?_
  rcases h.2 with ⟨rfl, _⟩ | ⟨g, cap, cur, rfl, _, hgb, _⟩
  · exact .inl rfl
  · refine .inr fun e' => ?_
    obtain ⟨o, ho, hc⟩ := hr g (by simpa [Value.ownBlock] using e'.symm)
    rw [hgb] at ho; cases ho; cases hc
theorem ParasAt.other {W W' : World} {base : Nat} {v : Value} {rs : List HdS} {ps : List (List Str)} {row : Option Nat} (h : ParasAt W base v rs ps) (hg : W.grownBy W' row) (hr : ∀ r, row = some r → ∃ o : Obj, W.heap[r]? = some o ∧ o.isCells = false) : ParasAt W' base v rs ps :=
  ⟨h.own.other hg hr, h.len, fun k r p h1 h2 => (h.each k r p h1 h2).other hg hr, h.apart⟩
theorem below_others {W W' : World} (h : Below W.heap.size W W') : KeepsOthers W W' := KeepsOthers.of_grownBy (below_grown h none) (fun j o e => by cases e)
theorem stepIn_elems {α : Type} {E : Elem α} (hE : E.Ok) {F : Fence} {n' : Nat} {ops : Array Oper} {o : Oper} {a : Act} {K : Act → World → Prop} {Q : Exit → Act → World → Prop} {X : Prop} {w : World} (hgd : o.guard = none) (s x : Operand)
    (ho : o.op = .call { callee := .builtin .append, args := #[s, x], argTypes := #[E.ts, E.ts] })
    (base : Nat) (v : Value) (l : List α) (hs : a.eval s = v) (hown : Owns E w base v l)
    (ad : Addr) (m c : Nat) (l2 : List α) (hx : a.eval x = .slice (some ad) m c) (hr : ElemsAt E w (some ad) m c l2) (hm0 : 0 < m) (hsz : l.length + l2.length ≤ 100000) (hbase : base ≤ w.heap.size)
    (h : ∀ g cap w', Owns E w' base (.slice (some ⟨g, 0, none⟩) (l.length + m) cap) (l ++ l2) → w.grownBy w' v.ownBlock → K (a.put o.dst (.slice (some ⟨g, 0, none⟩) (l.length + m) cap)) w') : if Region.wanted o (yielded ops a.tmps) = true then Oper.wpIn F n' Tryz.prog o a w K Q else X := by
  obtain ⟨i0, hi, hz0, hz1, hz2⟩ := info_parts hE.info
  have hm := hr.1
  have hf := hE.few
  have hb : (l.length + m) * E.bytes ≤ 140737488355328 := Nat.le_trans (Nat.mul_le_mul (show l.length + m ≤ 100000 by omega) hf) (by omega)
  have hw : Region.wanted o (yielded ops a.tmps) = true := by simp [Region.wanted, hgd]
  rw [if_pos hw]
  obtain ⟨v', w', hrun, r1, r2, _⟩ := run_append_own (P := Tryz.prog) w base E.ts o.type E.t i0 _ E.size E.bytes hE.und hi hz0 hz1 hz2 hE.zcells hE.pos v l.length (E.cells l) hown ad m c (E.cells l2) (by rw [Elem.cells_length hE, hm]) (hr.cells_ hE ad rfl) (Elem.cells_one hE l2) (by simp only [maxLen]; omega) hb hbase
  obtain ⟨m', rfl⟩ : ∃ m', m = m' + 1 := ⟨m - 1, by omega⟩
  obtain ⟨g, cap, rfl⟩ := ownsRow_succ (k := l.length + m') r1
  unfold Oper.wpIn
  refine ⟨?_, ?_⟩
  · simp [Oper.about, ho, resolve, Target.leads, Sem.run_pure]
  · rw [Oper.semAt_plain F _ _ (by rw [ho]; intro c hc'; cases hc')]
    simp [execOp, ho, resolve, invoke, builtin, hs, hx, hrun, Result.andThen]
    refine h g cap w' ?_ r2
    unfold Owns
    rw [Elem.cells_append, List.length_append, ← hm]
    exact r1
theorem owns_block {α : Type} {E : Elem α} (w : World) (base g n : Nat) (cs : Array Value) (l : List α) (hb : w.heap[g]? = some (.cells cs E.t (0, 0))) (hbase : base ≤ g) (hn : l.length = n) (hcs : cs.toList = E.cells l) (hsz : (E.cells l).length = n * E.size) (hmax : n ≤ maxLen) : Owns E w base (.slice (some ⟨g, 0, none⟩) n n) l := by
  subst hn
  refine ⟨hsz, .inr ⟨g, l.length, cs, rfl, hbase, hb, Nat.le_refl _, hmax, ?_, ?_⟩⟩
  · rw [← hsz, ← hcs]; simp
  · rw [← hsz, ← hcs]; exact List.take_of_length_le (Nat.le_refl _)
theorem piece_count {l : List UInt8} (hr : NoRun l) (ht : l.isEmpty = true ∨ [10].isSuffixOf l = true) : (pieceL l).length ≤ l.length + 1 := by
  have h1 := lineL_sum l
  have h2 := linesL_norun hr
  rw [linesL_eq ht] at h2
  have h3 := flat_count _ h2
  unfold pieceL
  rw [linesL_eq ht]
  omega
/-- What is held between two rounds. -/
def RoundI (w2 : World) (n₀ B : Nat) (pre : List (Chk w2)) (W : World) : Prop := (∃ v rs, Boxed W B 26 v ∧ ParasAt W n₀ v rs (chkAll pre)) ∧ Below w2.heap.size w2 W ∧ n₀ ≤ W.heap.size
theorem roundI_own (w2 : World) (n₀ B L : Nat) (hL : w2.heap.size ≤ L) : OwnFrom L (RoundI w2 n₀ B) := by
  rintro s W W' row ⟨⟨v, rs, hb, hp⟩, hB, hn⟩ hg hr
  have hr' : ∀ r, row = some r → ∃ o : Obj, W.heap[r]? = some o ∧ o.isCells = false := fun r e => (hr r e).2
  refine ⟨⟨v, rs, hb.kept hg (fun e => ?_), hp.other hg hr'⟩, hB.grown hg hB.size (fun i e => Nat.le_trans hL (hr i e).1), Nat.le_trans hn hg.size⟩
  obtain ⟨o, ho, hc⟩ := hr' B e.symm
  have hbb : W.heap[B]? = some (.cells #[v] 26 (0, 0)) := hb
  rw [hbb] at ho
  cases ho
  cases hc
/-- What a round leaves: the box still holds the rows until the store; behind it, one row more. -/
theorem round_end {w2 W Wd w5 w6 : World} {B g6 c6 n5 c5 : Nat} {v : Value} {rs : List HdS} {pre : List (Chk w2)} {R5 : Option Addr} {x : Chk w2} {o : Obj} (hBE : B = w2.heap.size)
    (hKW : KeepsOthers W Wd) (hKp : KeepBut (B + 3) B W Wd) (hbx : Boxed Wd B 26 v) (hpp : ParasAt Wd (B + 3) v rs (chkAll pre)) (hBW : Below w2.heap.size w2 Wd) (hnW : B + 3 ≤ Wd.heap.size)
    (hown5 : OwnStrs w5 Wd.heap.size (.slice R5 n5 c5) x.1.2) (hb5 : Below Wd.heap.size Wd w5) (hown6 : Owns LineE w6 (B + 3) (.slice (some ⟨g6, 0, none⟩) (rs.length + 1) c6) (rs ++ [(R5, n5, c5)])) (hg6 : (w5.alloc o).grownBy w6 v.ownBlock) :
    (w6.cell? ⟨B, 0, none⟩ = some v ∧ w6.frozen? ⟨B, 0, none⟩ = false) ∧ KeepsOthers W (w6.setCell ⟨B, 0, none⟩ (.slice (some ⟨g6, 0, none⟩) (rs.length + 1) c6)) ∧ KeepBut (B + 3) B W (w6.setCell ⟨B, 0, none⟩ (.slice (some ⟨g6, 0, none⟩) (rs.length + 1) c6)) ∧ RoundI w2 (B + 3) B (pre ++ [x]) (w6.setCell ⟨B, 0, none⟩ (.slice (some ⟨g6, 0, none⟩) (rs.length + 1) c6)) := by
  have hpa : ParasAt (w5.alloc o) (B + 3) v rs (chkAll pre) := (hpp.below hb5).below ((Below.refl _ _).alloc (Nat.le_refl _) _)
  have hrow : ∀ i, v.ownBlock = some i → B + 3 ≤ i := fun i hi => (hpp.own.lt i hi).1
  have hz5 := hb5.size
  have hz6 := hg6.size
  have hza : (w5.alloc o).heap.size = w5.heap.size + 1 := by simp
  have hb1 : Boxed w6 B 26 v := ((hbx.kept (below_grown hb5 none) (by simp)).alloc o).kept hg6 (fun e => by have := hrow B e.symm; omega)
  refine ⟨⟨hb1.cell, hb1.frozen⟩, ?_, ?_, ⟨⟨_, rs ++ [(R5, n5, c5)], hb1.set _, ?_⟩, ?_, ?_⟩⟩
  · refine ((hKW.trans (below_others hb5)).trans (KeepsOthers.alloc _ o)).trans ((KeepsOthers.of_grownBy hg6 fun j ob ej hj => ?_).trans (KeepsOthers.setCell _ _ _))
    rcases hpa.own.2 with ⟨rfl, _⟩ | ⟨g, cap, cur, rfl, _, hgb, _⟩
    · simp [Value.ownBlock] at ej
    · obtain rfl : g = j := by simpa [Value.ownBlock] using ej
      rw [hgb] at hj; cases hj; rfl
  · refine hKp.trans ⟨by simp [World.setCell]; omega, fun i hi hne => ?_⟩
    rw [Below.heap_setCell w6 ⟨B, 0, none⟩ _ i (by simpa using hne), hg6.block i (by omega) (fun e => by have := hrow i e.symm; omega), Below.heap_alloc _ _ _ (by omega)]
    exact hb5.block i (by omega)
  · have ha := hpp.newer (r := (R5, n5, c5)) (fun b hb => (hown5.lt b hb).1)
    have hr5 : OwnStrs (w5.alloc o) (B + 3) (HdS.v (R5, n5, c5)) x.1.2 := World.ownsRow.alloc (hown5.base_ hnW) o
    have := hpa.push hr5 ha hown6 hg6
    rw [← chkAll_snoc] at this
    exact this.kept_ (grown_setCell _ _ _ _) (fun i e => by cases e; omega)
  · refine (((hBW.trans (hb5.mono hBW.size)).alloc (by have := hBW.size; omega) o).grown hg6 (by simp; have := hBW.size; omega) (fun i e => by have := hrow i e; omega)).setCell (p := ⟨B, 0, none⟩) (by show _ ≤ B; omega) _
  · simp [World.setCell]; omega
theorem chk_count {w0 : World} : ∀ ys : List (Chk w0), (chkAll ys).length ≤ (chkAll ys).flatten.length
  | [] => by simp [chkAll]
  | y :: ys => by
    have ih := chk_count ys
    have := y.2.2.2
    simp only [chkAll, List.map_cons, List.length_cons, List.flatten_cons, List.length_append] at *
    omega
def PagesPost (w : World) (s : ByteArray) (e : Ending) (w' : World) : Prop := ∃ v, e = .returned (.tuple #[v, .int .i64 (bodyE s)]) ∧ (bodyE s = 0 → ∃ rs ps, ParasAt w' w.heap.size v rs ps ∧ ps.flatten = pieceL s.data.toList ∧ (∀ p ∈ ps, p.length ≤ 50) ∧ ps.length ≤ 20002) ∧ Below w.heap.size w w'
set_option maxHeartbeats 3200000 in
set_option maxRecDepth 100000 in
theorem pages_any (s : ByteArray) (w : World) (hs : s.size ≤ 1000000) (hM : MaxAt w) (hT : Tabs w) :
    Calls Tryz.prog 15 #[.string s] w (PagesPost w s) := by
  have HTE := Lib.hid (textError_any s w hs hT)
  have HPB : Hid (bodyE s = 0 → (pieceL s.data.toList).length ≤ 20001) := fun h => by have h1 := piece_count (body_ok h).2.1 (body_ok h).2.2; have h2 := (body_ok h).1; rw [size_list'] at h2; omega
  have HPC := Lib.hid (fun (h : bodyE s = 0) wx (hb : Below w.heap.size w wx) => pieces_any s wx (body_ok h).1 (hM.below hb) (body_ok h).2.1 (body_ok h).2.2)
  have HW : Hid (∀ e w', PagesPost w s e w' ↔ (∃ v, e = .returned (.tuple #[v, .int .i64 (bodyE s)]) ∧ (bodyE s = 0 → ∃ rs ps, ParasAt w' w.heap.size v rs ps ∧ ps.flatten = pieceL s.data.toList ∧ (∀ p ∈ ps, p.length ≤ 50) ∧ ps.length ≤ 20002) ∧ Below w.heap.size w w')) := fun _ _ => Iff.rfl
  clear hM hT
  generalize bodyE s = z at *
  refine (callsIn_wide (n := 5)).1 ?_
  refine callsIn_of_wp_marks Tryz.func15 rfl trivial ?_ rfl
  simp only [Tryz.ntmps15, List.size_toArray, List.length_cons, List.length_nil, Nat.reduceAdd, Nat.reduceSub, Array.replicate_succ, Array.replicate_zero, List.push_toArray, List.append_toArray, List.nil_append, List.cons_append]
  gi_wp2_with fail
  refine ⟨trivial, (callsIn_wide.2 HTE.out).mono ?_⟩
  rintro e w1 ⟨rfl, hb1⟩
  have HB1 := Lib.hid hb1
  clear hb1 HTE
  by_cases hz : z = 0
  · subst hz
    gi_wp2_with fail
    refine ⟨trivial, (callsIn_wide.2 (HPC.out (by trivial) w1 HB1.out)).mono ?_⟩
    rintro e w2 ⟨v2, rfl, hown, hb2⟩
    obtain ⟨A, c, rfl, hc, hat, -⟩ := hown.at_ strE_ok
    have HAT := Lib.hid hat
    have HB2 := Lib.hid (HB1.out.trans (hb2.mono HB1.out.size))
    clear hown hb2 hat HPC HB1
    obtain ⟨m, hm⟩ : ∃ m, m = (pieceL s.data.toList).length := ⟨_, rfl⟩
    rw [← hm] at HAT ⊢
    have HM := Lib.hid hm
    clear hm
    by_cases h0 : m = 0
    · have e0 : ((m : Int) == 0) = true := by simp; exact h0
      have e1 : (m : Int) = 0 := by omega
      have HF : Hid (PagesPost w s (.returned (.tuple #[.slice (some ⟨w2.heap.size + 1, 0, none⟩) 1 1, .int .i64 0])) ((w2.alloc (.cells #[] 9)).alloc (.cells #[.slice (some ⟨w2.heap.size, 0, none⟩) 0 0] 41))) := by
        refine (HW.out _ _).2 ⟨_, rfl, fun _ => ⟨[(some ⟨w2.heap.size, 0, none⟩, 0, 0)], [[]], ⟨?_, rfl, ?_, List.pairwise_singleton _ _⟩, ?_, (by simp), (by simp)⟩, ?_⟩
        · exact owns_block _ w.heap.size (w2.heap.size + 1) 1 #[.slice (some ⟨w2.heap.size, 0, none⟩) 0 0] _ (by have := heap_alloc_new (w2.alloc (.cells #[] 9)) (.cells #[.slice (some ⟨w2.heap.size, 0, none⟩) 0 0] 41); rwa [World.size_alloc] at this) (by have := HB2.out.size; omega) rfl rfl rfl (by decide)
        · intro k r p hr hp
          have hk : k = 0 := by have := (List.getElem?_eq_some_iff.1 hr).1; simpa using this
          subst hk
          simp at hr hp
          subst hr
          subst hp
          exact owns_block (E := StrE) _ w.heap.size w2.heap.size 0 #[] [] ((Below.heap_alloc _ _ _ (by simp)).trans (heap_alloc_new w2 _)) HB2.out.size rfl rfl rfl (by decide)
        · have := HM.out
          rw [h0] at this
          have : pieceL s.data.toList = [] := List.eq_nil_of_length_eq_zero this.symm
          rw [this]; rfl
        · exact (HB2.out.alloc HB2.out.size _).alloc (by have := HB2.out.size; simp; omega) _
      clear h0
      gi_wp2_with fail
      exact ⟨_, results_tmp2 (t := 2) (u := 3) rfl _ _ _, HF.out⟩
    · have e0 : ((m : Int) == 0) = false := by simp; omega
      have e1 : ¬ (m : Int) = 0 := by omega
      gi_wp2_with fail
      refine ⟨trivial, (callsIn_wide.2 (chunk_any A m c (w2.alloc (.cells #[.slice none 0 0] 26)))).mono ?_⟩
      rintro e w4 ⟨rfl, rfl⟩
      rw [World.size_alloc]
      gi_wp2_with fail
      have hmb : m ≤ 20001 := by have := HPB.out (by trivial); rw [← HM.out] at this; exact this
      have HBOX := Lib.hid (Boxed.new w2 26 (.slice none 0 0))
      have hz3 : (((w2.alloc (.cells #[.slice none 0 0] 26)).alloc (.cells #[.slice A m c] 41)).alloc (.cells #[.int .i64 50] 3)).heap.size = w2.heap.size + 3 := by simp
      have HB4 : Hid (Below w2.heap.size w2 (((w2.alloc (.cells #[.slice none 0 0] 26)).alloc (.cells #[.slice A m c] 41)).alloc (.cells #[.int .i64 50] 3))) := (((Below.refl _ w2).alloc (Nat.le_refl _) _).alloc (by simp) _).alloc (by simp; omega) _
      have HC1 : Hid ((((w2.alloc (.cells #[.slice none 0 0] 26)).alloc (.cells #[.slice A m c] 41)).alloc (.cells #[.int .i64 50] 3)).cell? ⟨w2.heap.size + 1, 0, none⟩ = some (.slice A m c)) := by
        show _ = _
        have h1 := heap_alloc_new (w2.alloc (.cells #[.slice none 0 0] 26)) (.cells #[.slice A m c] 41)
        rw [World.size_alloc] at h1
        have h2 := (Below.heap_alloc ((w2.alloc (.cells #[.slice none 0 0] 26)).alloc (.cells #[.slice A m c] 41)) (.cells #[.int .i64 50] 3) (w2.heap.size + 1) (by simp)).trans h1
        rw [cell_of_row _ _ 0 _ _ _ h2]; rfl
      have HC2 : Hid ((((w2.alloc (.cells #[.slice none 0 0] 26)).alloc (.cells #[.slice A m c] 41)).alloc (.cells #[.int .i64 50] 3)).cell? ⟨w2.heap.size + 1 + 1, 0, none⟩ = some (.int .i64 50)) := by
        show _ = _
        have h1 := heap_alloc_new ((w2.alloc (.cells #[.slice none 0 0] 26)).alloc (.cells #[.slice A m c] 41)) (.cells #[.int .i64 50] 3)
        rw [World.size_alloc, World.size_alloc] at h1
        rw [cell_of_row _ _ 0 _ _ _ h1]; rfl
      have HBX : Hid (Boxed (((w2.alloc (.cells #[.slice none 0 0] 26)).alloc (.cells #[.slice A m c] 41)).alloc (.cells #[.int .i64 50] 3)) w2.heap.size 26 (.slice none 0 0)) := (HBOX.out.alloc _).alloc _
      generalize ((w2.alloc (.cells #[.slice none 0 0] 26)).alloc (.cells #[.slice A m c] 41)).alloc (.cells #[.int .i64 50] 3) = W4 at *
      obtain ⟨B, hB⟩ : ∃ B, B = w2.heap.size := ⟨_, rfl⟩
      rw [← hB] at HC1 HC2 HBX hz3 ⊢
      have HBE := Lib.hid hB
      clear HBOX hB
      refine wpIn_rangeFunc_ownG (n := 5) rfl (by omega) (gf := 76) (lb := #[.pointer (some ⟨B + 1, 0, none⟩), .pointer (some ⟨B + 1 + 1, 0, none⟩)]) rfl trivial (enters_of Tryz.func76 (by kernel_rfl) rfl)
        (chunk_stops 4 (by omega) (B + 1) (B + 1 + 1) (B + 3) B (by omega) (by omega) A m c (pieceL s.data.toList) w2 W4 (by omega) HAT.out (by omega) (by omega) (by omega) HC1.out HC2.out) (fun h k => KeepBut.trans h k) (fun W l o o' hl hh _ _ => ?kb) (Below.refl _ _) (fun _ => rfl)
        (RoundI w2 (B + 3) B) (fun _ _ _ => False) (roundI_own w2 (B + 3) B _ (by have := HBE.out; omega)) (fun _ _ _ _ _ hs _ _ => hs)
        ⟨⟨_, [], HBX.out, ParasAt.nil _ _⟩, HB4.out, by omega⟩
        (fun x => { tmps := #[.string s, undef, .slice none 0 0, .int .i64 0, .int .i64 0, .slice A m c, .pointer (some ⟨B, 0, none⟩), chkV x, .string s, .int .i64 0, .int .i64 0, .bool false, undef, .string s, .slice A m c, .slice A m c, .int .i64 (m : Int), .bool false, undef, undef, .slice A m c, .func (.func 76) #[] #[.pointer (some ⟨B + 1, 0, none⟩), .pointer (some ⟨B + 1 + 1, 0, none⟩)], chkV x, undef, undef, undef, undef, undef, undef], defers := [] }) ?assign ?body ?done ?stop
      case kb =>
        refine ⟨by simp [World.putObj], fun i hi hne => ?_⟩
        exact World.putObj_heap_other (by omega)
      case assign =>
        intro l x W K hK
        unfold chkV
        gi_wp2
        exact hK
      case body =>
        rintro l pre x W ⟨⟨v, rs, hbx, hpp⟩, hBW, hnW⟩ hlt
        have hKW : KeepsOthers W W.drew := KeepsOthers.drew W
        have hKpW : KeepBut (B + 3) B W W.drew := ⟨Nat.le_refl _, fun _ _ _ => rfl⟩
        have hbx' : Boxed W.drew B 26 v := hbx
        have hpp' : ParasAt W.drew (B + 3) v rs (chkAll pre) := hpp.below ((Below.refl _ _).drew)
        have hBW' : Below w2.heap.size w2 W.drew := hBW.drew
        have hnW' : B + 3 ≤ W.drew.heap.size := hnW
        gi_upto_region 10 with (fail)
        refine wpIn_region_any (by kernel_rfl) ?_
        change wpAnyIn _ _ _ _ _ _ _ _ _ (World.drew _)
        generalize W.drew = Wd at *
        have hcv := hbx'.cell
        have hrl : rs.length ≤ 20001 := by have h1 := hpp'.len; simp [chkAll] at h1; omega
        obtain ⟨⟨⟨Rx, nx, cx⟩, px⟩, hpx, hx50, hxp⟩ := x
        have HPX : Hid (StrsAt Wd Rx nx cx px) := hpx.keep hBW'
        have hnx : nx ≤ 50 := by have h1 : nx = px.length := hpx.1; have h2 : px.length ≤ 50 := hx50; omega
        refine wpAnyIn_ready (rs := [0, 1]) (by kernel_rfl) (by simp) ?_
        refine AllReadyIn.cons rfl (fun K hK => ?_) (AllReadyIn.cons rfl (fun K hK => ?_) AllReadyIn.nil)
        rotate_left
        · go_simp
          refine hK _ _ ?_
          clear hK K
          refine wpAnyIn_ready (rs := [0, 2]) (by kernel_rfl) (by simp) ?_
          refine AllReadyIn.cons rfl (fun K hK => ?_) (AllReadyIn.cons rfl (fun K hK => ?_) AllReadyIn.nil)
          rotate_left
          · go_simp
            refine ⟨trivial, (CallsIn.inRound l (callsIn_wide.2 (clone_any Rx nx cx px Wd HPX.out (by omega)))).mono ?_⟩
            rintro e w5 ⟨v5, rfl, hown5, hb5⟩
            obtain ⟨R5, c5, rfl, -, -, -⟩ := hown5.at_ strE_ok
            have hcv5 := (hbx'.kept (below_grown hb5 none) (by simp)).cell
            refine hK _ _ ?_
            clear hK K
            refine wpAnyIn_ready (rs := [0, 3]) (by kernel_rfl) (by simp) ?_
            refine AllReadyIn.cons rfl (fun K hK => ?_) (AllReadyIn.cons rfl (fun K hK => ?_) AllReadyIn.nil)
            rotate_left
            · go_simp
              refine hK _ _ ?_
              clear hK K
              refine wpAnyIn_ready (rs := [0]) (by kernel_rfl) (by simp) ?_
              refine AllReadyIn.cons rfl (fun K hK => ?_) AllReadyIn.nil
              have hca := (hbx'.kept (grown_alloc (below_grown hb5 none) (.cells #[.slice R5 px.length c5] 41)) (by simp)).cell
              go_simp
              refine hK _ _ ?_
              clear hK K
              refine wpAnyIn_ready (rs := [4]) (by kernel_rfl) (by simp) ?_
              refine AllReadyIn.cons rfl (fun K hK => ?_) AllReadyIn.nil
              refine stepIn_elems lineE_ok rfl _ _ rfl (B + 3) v rs rfl (World.ownsRow.alloc ((hpp'.below hb5).own) _) ⟨w5.heap.size, 0, none⟩ 1 1 [(R5, px.length, c5)] rfl (one_elem (E := LineE) w5 (R5, px.length, c5)) (by omega) (by simp; omega) (by have := hb5.size; simp; omega) ?_
              intro g6 c6 w6 hown6 hg6
              obtain ⟨⟨k1, k2⟩, k3, k4, k5⟩ := round_end (x := ⟨((Rx, nx, cx), px), hpx, hx50, hxp⟩) HBE.out hKW hKpW hbx' hpp' hBW' hnW' hown5 hb5 hown6 hg6
              have K3 := Lib.hid k3
              have K4 := Lib.hid k4
              have K5 := Lib.hid k5
              clear k3 k4 k5
              refine hK _ _ ?_
              clear hK K
              refine wpAnyIn_ready (rs := [5]) (by kernel_rfl) (by simp) ?_
              refine AllReadyIn.cons rfl (fun K hK => ?_) AllReadyIn.nil
              go_simp
              refine hK _ _ ?_
              clear hK K
              refine wpAnyIn_done (by kernel_rfl) ?_ _
              exact ⟨K3.out.from _, K4.out, K5.out⟩
            · go_simp
              refine hK _ _ ?_
              clear hK K
              refine wpAnyIn_ready (rs := [3]) (by kernel_rfl) (by simp) ?_
              refine AllReadyIn.cons rfl (fun K hK => ?_) AllReadyIn.nil
              go_simp
              refine hK _ _ ?_
              clear hK K
              refine wpAnyIn_ready (rs := [4]) (by kernel_rfl) (by simp) ?_
              refine AllReadyIn.cons rfl (fun K hK => ?_) AllReadyIn.nil
              refine stepIn_elems lineE_ok rfl _ _ rfl (B + 3) v rs rfl (World.ownsRow.alloc ((hpp'.below hb5).own) _) ⟨w5.heap.size, 0, none⟩ 1 1 [(R5, px.length, c5)] rfl (one_elem (E := LineE) w5 (R5, px.length, c5)) (by omega) (by simp; omega) (by have := hb5.size; simp; omega) ?_
              intro g6 c6 w6 hown6 hg6
              obtain ⟨⟨k1, k2⟩, k3, k4, k5⟩ := round_end (x := ⟨((Rx, nx, cx), px), hpx, hx50, hxp⟩) HBE.out hKW hKpW hbx' hpp' hBW' hnW' hown5 hb5 hown6 hg6
              have K3 := Lib.hid k3
              have K4 := Lib.hid k4
              have K5 := Lib.hid k5
              clear k3 k4 k5
              refine hK _ _ ?_
              clear hK K
              refine wpAnyIn_ready (rs := [5]) (by kernel_rfl) (by simp) ?_
              refine AllReadyIn.cons rfl (fun K hK => ?_) AllReadyIn.nil
              go_simp
              refine hK _ _ ?_
              clear hK K
              refine wpAnyIn_done (by kernel_rfl) ?_ _
              exact ⟨K3.out.from _, K4.out, K5.out⟩
          · go_simp
            refine hK _ _ ?_
            clear hK K
            refine wpAnyIn_ready (rs := [2]) (by kernel_rfl) (by simp) ?_
            refine AllReadyIn.cons rfl (fun K hK => ?_) AllReadyIn.nil
            go_simp
            refine ⟨trivial, (CallsIn.inRound l (callsIn_wide.2 (clone_any Rx nx cx px Wd HPX.out (by omega)))).mono ?_⟩
            rintro e w5 ⟨v5, rfl, hown5, hb5⟩
            obtain ⟨R5, c5, rfl, -, -, -⟩ := hown5.at_ strE_ok
            have hcv5 := (hbx'.kept (below_grown hb5 none) (by simp)).cell
            refine hK _ _ ?_
            clear hK K
            refine wpAnyIn_ready (rs := [3]) (by kernel_rfl) (by simp) ?_
            refine AllReadyIn.cons rfl (fun K hK => ?_) AllReadyIn.nil
            go_simp
            refine hK _ _ ?_
            clear hK K
            refine wpAnyIn_ready (rs := [4]) (by kernel_rfl) (by simp) ?_
            refine AllReadyIn.cons rfl (fun K hK => ?_) AllReadyIn.nil
            refine stepIn_elems lineE_ok rfl _ _ rfl (B + 3) v rs rfl (World.ownsRow.alloc ((hpp'.below hb5).own) _) ⟨w5.heap.size, 0, none⟩ 1 1 [(R5, px.length, c5)] rfl (one_elem (E := LineE) w5 (R5, px.length, c5)) (by omega) (by simp; omega) (by have := hb5.size; simp; omega) ?_
            intro g6 c6 w6 hown6 hg6
            obtain ⟨⟨k1, k2⟩, k3, k4, k5⟩ := round_end (x := ⟨((Rx, nx, cx), px), hpx, hx50, hxp⟩) HBE.out hKW hKpW hbx' hpp' hBW' hnW' hown5 hb5 hown6 hg6
            have K3 := Lib.hid k3
            have K4 := Lib.hid k4
            have K5 := Lib.hid k5
            clear k3 k4 k5
            refine hK _ _ ?_
            clear hK K
            refine wpAnyIn_ready (rs := [5]) (by kernel_rfl) (by simp) ?_
            refine AllReadyIn.cons rfl (fun K hK => ?_) AllReadyIn.nil
            go_simp
            refine hK _ _ ?_
            clear hK K
            refine wpAnyIn_done (by kernel_rfl) ?_ _
            exact ⟨K3.out.from _, K4.out, K5.out⟩
        · go_simp
          refine hK _ _ ?_
          clear hK K
          refine wpAnyIn_ready (rs := [1]) (by kernel_rfl) (by simp) ?_
          refine AllReadyIn.cons rfl (fun K hK => ?_) AllReadyIn.nil
          go_simp
          refine hK _ _ ?_
          clear hK K
          refine wpAnyIn_ready (rs := [2]) (by kernel_rfl) (by simp) ?_
          refine AllReadyIn.cons rfl (fun K hK => ?_) AllReadyIn.nil
          go_simp
          refine ⟨trivial, (CallsIn.inRound l (callsIn_wide.2 (clone_any Rx nx cx px Wd HPX.out (by omega)))).mono ?_⟩
          rintro e w5 ⟨v5, rfl, hown5, hb5⟩
          obtain ⟨R5, c5, rfl, -, -, -⟩ := hown5.at_ strE_ok
          have hcv5 := (hbx'.kept (below_grown hb5 none) (by simp)).cell
          refine hK _ _ ?_
          clear hK K
          refine wpAnyIn_ready (rs := [3]) (by kernel_rfl) (by simp) ?_
          refine AllReadyIn.cons rfl (fun K hK => ?_) AllReadyIn.nil
          go_simp
          refine hK _ _ ?_
          clear hK K
          refine wpAnyIn_ready (rs := [4]) (by kernel_rfl) (by simp) ?_
          refine AllReadyIn.cons rfl (fun K hK => ?_) AllReadyIn.nil
          refine stepIn_elems lineE_ok rfl _ _ rfl (B + 3) v rs rfl (World.ownsRow.alloc ((hpp'.below hb5).own) _) ⟨w5.heap.size, 0, none⟩ 1 1 [(R5, px.length, c5)] rfl (one_elem (E := LineE) w5 (R5, px.length, c5)) (by omega) (by simp; omega) (by have := hb5.size; simp; omega) ?_
          intro g6 c6 w6 hown6 hg6
          obtain ⟨⟨k1, k2⟩, k3, k4, k5⟩ := round_end (x := ⟨((Rx, nx, cx), px), hpx, hx50, hxp⟩) HBE.out hKW hKpW hbx' hpp' hBW' hnW' hown5 hb5 hown6 hg6
          have K3 := Lib.hid k3
          have K4 := Lib.hid k4
          have K5 := Lib.hid k5
          clear k3 k4 k5
          refine hK _ _ ?_
          clear hK K
          refine wpAnyIn_ready (rs := [5]) (by kernel_rfl) (by simp) ?_
          refine AllReadyIn.cons rfl (fun K hK => ?_) AllReadyIn.nil
          go_simp
          refine hK _ _ ?_
          clear hK K
          refine wpAnyIn_done (by kernel_rfl) ?_ _
          exact ⟨K3.out.from _, K4.out, K5.out⟩
      case done =>
        rintro D ys W hD hys ⟨⟨v, rs, hbx, hpp⟩, hBW, hnW⟩ hK
        have hc := hbx.cell
        have hDB : B + 3 ≤ D := by omega
        have hPP : ParasAt (W.putObj D (.deferred none)) w.heap.size v rs (chkAll ys) := (hpp.other (grownBy_putObj' W D (.deferred none)) (fun r e => by cases e; exact ⟨_, hK, rfl⟩)).base_ (by have h1 := HB2.out.size; have h2 := HBE.out; omega)
        have hBB : Below w.heap.size w (W.putObj D (.deferred none)) := (HB2.out.trans (hBW.mono HB2.out.size)).grown (grownBy_putObj' W D (.deferred none)) (by have h1 := HB2.out.size; have h2 := hBW.size; omega) (fun i e => by cases e; have h1 := HB2.out.size; have h2 := HBE.out; omega)
        have HF : Hid (PagesPost w s (.returned (.tuple #[v, .int .i64 0])) (W.putObj D (.deferred none))) := (HW.out _ _).2 ⟨v, rfl, fun _ => ⟨rs, chkAll ys, hPP, hys, (fun p hp => by obtain ⟨x, _, rfl⟩ := List.mem_map.1 hp; exact x.2.2.1), (by have h1 := chk_count ys; rw [hys] at h1; have h2 := HM.out; omega)⟩, hBB⟩
        gi_wp2_with fail
        refine ⟨by simp, .inl ⟨_, _, rfl, run_takeDeferred hK, ?_⟩⟩
        exact ⟨_, results_tmp2 (t := 2) (u := 3) rfl _ _ _, HF.out⟩
      case stop =>
        rintro D c pre W _ _ h _
        exact h.elim
  · have hz2 : (z != 0) = true := by simpa using hz
    have HF : Hid (PagesPost w s (.returned (.tuple #[.slice none 0 0, .int .i64 z])) w1) := (HW.out _ _).2 ⟨_, rfl, fun h => absurd h hz, HB1.out⟩
    clear HPC
    gi_wp2_with fail
    exact ⟨_, results_tmp2 (t := 2) (u := 3) rfl _ _ _, HF.out⟩
end Go.Proofs.YtemgaanmpgpdcaaGreatDoor
