
/-
  A search that is read token by token: what next does at a word, with blanks ahead of it, and at the end.
-/
import Derived.Test.YtfijplllfdmcoaaGreatDoorPiece
import Derived.Deep.QuietTactic
import Derived.BigQuiet
import Derived.StillTailTactics
import Derived.RegionTactic
import Derived.Deep.DrawnRows
namespace Go.Proofs.YtfijplllfdmcoaaGreatDoor
open Go.RowKit
attribute [local go_sem ↓] Go.wp_at_zero Go.wp_at_succ

/-- The reader's block: the text, where it is, and the token at hand: its kind and place, and the search (its kind and words; no number, no parts). -/
def ReaderAt (w : World) (R : Nat) (T : ByteArray) (at_ kind tat qk : Int) (qw : Value) : Prop :=
  w.heap[R]? = some (.cells #[.string T, .int .i64 at_, .int .i64 kind, .int .i64 tat, .int .i64 qk, qw, .int .i64 0, .slice none 0 0] 156 (0, 0))
theorem ReaderAt.cells {w : World} {R : Nat} {T : ByteArray} {at_ kind tat qk : Int} {qw : Value} (h : ReaderAt w R T at_ kind tat qk qw) :
    w.cell? ⟨R, 0, none⟩ = some (.string T) ∧ w.cell? ⟨R, 1, none⟩ = some (.int .i64 at_) ∧ w.cell? ⟨R, 2, none⟩ = some (.int .i64 kind) ∧ w.cell? ⟨R, 3, none⟩ = some (.int .i64 tat) ∧ w.cell? ⟨R, 4, none⟩ = some (.int .i64 qk) ∧ w.cell? ⟨R, 5, none⟩ = some qw ∧ w.cell? ⟨R, 6, none⟩ = some (.int .i64 0) ∧ w.cell? ⟨R, 7, none⟩ = some (.slice none 0 0) ∧ (∀ j, w.frozen? ⟨R, j, none⟩ = false) := by
  unfold ReaderAt at h
  refine ⟨?_, ?_, ?_, ?_, ?_, ?_, ?_, ?_, fun j => by simp [World.frozen?, h]⟩ <;> (rw [cell_of_row w R _ _ _ _ h]; rfl)
theorem ReaderAt.lt {w : World} {R : Nat} {T : ByteArray} {at_ kind tat qk : Int} {qw : Value} (h : ReaderAt w R T at_ kind tat qk qw) : R < w.heap.size := (Array.getElem?_eq_some_iff.1 h).1
theorem ReaderAt.keep {w w' : World} {R : Nat} {T : ByteArray} {at_ kind tat qk : Int} {qw : Value} (h : ReaderAt w R T at_ kind tat qk qw) (hb : Below w.heap.size w w') : ReaderAt w' R T at_ kind tat qk qw := (hb.block R h.lt).trans h
theorem ReaderAt.setNow {w : World} {R : Nat} {T : ByteArray} {at_ kind tat qk : Int} {qw : Value} (h : ReaderAt w R T at_ kind tat qk qw) (kind' tat' qk' : Int) (qw' : Value) :
    ReaderAt ((((((w.setCell ⟨R, 2, none⟩ (.int .i64 kind')).setCell ⟨R, 3, none⟩ (.int .i64 tat')).setCell ⟨R, 4, none⟩ (.int .i64 qk')).setCell ⟨R, 5, none⟩ qw').setCell ⟨R, 6, none⟩ (.int .i64 0)).setCell ⟨R, 7, none⟩ (.slice none 0 0)) R T at_ kind' tat' qk' qw' := by
  unfold ReaderAt at *
  simp [World.setCell, Array.getElem?_modify, h]
theorem ReaderAt.setQ {w : World} {R : Nat} {T : ByteArray} {at_ kind tat qk : Int} {qw : Value} (h : ReaderAt w R T at_ kind tat qk qw) (qk' : Int) (qw' : Value) :
    ReaderAt ((((w.setCell ⟨R, 4, none⟩ (.int .i64 qk')).setCell ⟨R, 5, none⟩ qw').setCell ⟨R, 6, none⟩ (.int .i64 0)).setCell ⟨R, 7, none⟩ (.slice none 0 0)) R T at_ kind tat qk' qw' := by
  unfold ReaderAt at *
  simp [World.setCell, Array.getElem?_modify, h]
theorem ReaderAt.setKind {w : World} {R : Nat} {T : ByteArray} {at_ kind tat qk : Int} {qw : Value} (h : ReaderAt w R T at_ kind tat qk qw) (kind' : Int) : ReaderAt (w.setCell ⟨R, 2, none⟩ (.int .i64 kind')) R T at_ kind' tat qk qw := by
  unfold ReaderAt at *
  simp [World.setCell, Array.getElem?_modify, h]
theorem ReaderAt.setAt {w : World} {R : Nat} {T : ByteArray} {at_ kind tat qk : Int} {qw : Value} (h : ReaderAt w R T at_ kind tat qk qw) (at' : Int) : ReaderAt (w.setCell ⟨R, 1, none⟩ (.int .i64 at')) R T at' kind tat qk qw := by
  unfold ReaderAt at *
  simp [World.setCell, Array.getElem?_modify, h]
theorem grown_six (w : World) (R : Nat) (a b c d e f : Value) : w.grownBy ((((((w.setCell ⟨R, 2, none⟩ a).setCell ⟨R, 3, none⟩ b).setCell ⟨R, 4, none⟩ c).setCell ⟨R, 5, none⟩ d).setCell ⟨R, 6, none⟩ e).setCell ⟨R, 7, none⟩ f) (some R) :=
  grown_trans (grown_setCell _ _ _ _) (grown_trans (grown_setCell _ _ _ _) (grown_trans (grown_setCell _ _ _ _) (grown_trans (grown_setCell _ _ _ _) (grown_trans (grown_setCell _ _ _ _) (grown_setCell _ _ _ _)))))
theorem grown_four (w : World) (R : Nat) (c d e f : Value) : w.grownBy ((((w.setCell ⟨R, 4, none⟩ c).setCell ⟨R, 5, none⟩ d).setCell ⟨R, 6, none⟩ e).setCell ⟨R, 7, none⟩ f) (some R) :=
  grown_trans (grown_setCell _ _ _ _) (grown_trans (grown_setCell _ _ _ _) (grown_trans (grown_setCell _ _ _ _) (grown_setCell _ _ _ _)))
theorem ReaderAt.drewN {w : World} {R : Nat} {T : ByteArray} {at_ kind tat qk : Int} {qw : Value} (h : ReaderAt w R T at_ kind tat qk qw) (q : Nat) : ReaderAt (w.drewN q) R T at_ kind tat qk qw := h
theorem slice_mid (t : ByteArray) (i j : Nat) (z z' : Int) (hz : z = i) (hz' : z' = j) (hij : i ≤ j) (h : j ≤ t.size) (w : World) : (Instr.slice 9 (.string t) (some (.int .i64 z)) (some (.int .i64 z')) none).run Tryz.prog w = .ok (.string (t.extract i j)) w := by
  subst hz; subst hz'
  have h1 : (i : Int) ≤ (j : Int) := by omega
  have h2 : (j : Int) ≤ (t.size : Int) := by omega
  simp [Instr.slice, Instr.sliceBounds, Instr.sliceBound, asIntOf, run_underlying Tryz.underlying9, h, hij]
theorem grown_belowR {a b c : World} {row : Option Nat} (h : a.grownBy b row) (k : Below b.heap.size b c) : a.grownBy c row :=
  ⟨k.os.trans h.os, k.tape.trans h.tape, k.output.trans h.output, Nat.le_trans h.size k.size, fun i hi hne => (k.block i (Nat.lt_of_lt_of_le hi h.size)).trans (h.block i hi hne)⟩

/-- What next finds in the text: a word from a + b on, n bytes long, b blanks ahead of it; the piece that it says. -/
structure WordIs (T : ByteArray) (a b n : Nat) (u : ByteArray) : Prop where
  size : T.size ≤ 1000
  blank : ∀ j, (hj : a + j < T.size) → j < b → ((T[a + j]'hj).toNat : Int) = 32
  inside : a + b + n ≤ T.size
  pos : 0 < n
  first : ∀ c : Int, (h : a + b < T.size) → ((T[a + b]'h).toNat : Int) = c → (c == 32) = false ∧ (c == 10) = false ∧ (c == 40) = false ∧ (c == 41) = false ∧ (c == 34) = false
  idx : ∀ w, Calls Tryz.prog 139 #[.string (T.extract (a + b) T.size), .string ⟨#[32, 10, 40, 41, 34]⟩] w fun e w' => (∃ z : Int, e = .returned (.int .i64 z) ∧ (z = n ∨ (z = -1 ∧ a + b + n = T.size))) ∧ Below w.heap.size w w'
  low : ∀ w, Calls Tryz.prog 141 #[.string (T.extract (a + b) (a + b + n))] w fun e w' => e = .returned (.string u) ∧ Below w.heap.size w w'
def PiecePost (w : World) (k qk : Int) (x : List (List UInt8)) (e : Ending) (w' : World) : Prop :=
  ∃ A, e = .returned (.tuple #[.int .i64 k, .agg #[.int .i64 qk, .slice A x.length x.length, .int .i64 0, .slice none 0 0]]) ∧ StrsAt w' A x.length x.length x ∧ (∀ g off, A = some ⟨g, off, none⟩ → w.heap.size ≤ g) ∧ Below w.heap.size w w'
def PieceIs (u : ByteArray) (k qk : Int) (x : List (List UInt8)) : Prop := ∀ w, Calls Tryz.prog 140 #[.string u] w (PiecePost w k qk x)
/-- The reader behind a token. -/
def NextPost_ (w : World) (R : Nat) (T : ByteArray) (at' k tat qk : Int) (x : List (List UInt8)) (e : Ending) (w' : World) : Prop :=
  e = .returned (.tuple #[]) ∧ ∃ A, ReaderAt w' R T at' k tat qk (.slice A x.length x.length) ∧ StrsAt w' A x.length x.length x ∧ (∀ g off, A = some ⟨g, off, none⟩ → w.heap.size ≤ g) ∧ w.grownBy w' (some R)
set_option maxHeartbeats 3200000 in
set_option maxRecDepth 100000 in
theorem next_word (R : Nat) (T u : ByteArray) (a b n : Nat) (kd ta qk0 : Int) (qw0 : Value) (k qk : Int) (x : List (List UInt8)) (w : World) (h : ReaderAt w R T a kd ta qk0 qw0) (hT : WordIs T a b n u) (hp : PieceIs u k qk x) :
    Calls Tryz.prog 91 #[.pointer (some ⟨R, 0, none⟩)] w (NextPost_ w R T ((a + b + n : Nat) : Int) k ((a + b : Nat) : Int) qk x) := by
  have HT := Lib.hid hT
  have hp' : ∀ w, Calls Tryz.prog 140 #[.string u] w (PiecePost w k qk x) := hp
  have HP := Lib.hid hp'; clear hp'
  have hsz := hT.size
  have hins := hT.inside
  have hpos := hT.pos
  clear hT hp
  have HR := Lib.hid h; clear h
  go_enter Tryz.func91, Tryz.ntmps91
  go_wp2_with fail
  go_loopg [3] (b + 1) (fun gk v3 wr => ∃ j : Nat, Hid (j + gk = b + 1) ∧ j ≤ b ∧ Hid (ReaderAt wr R T ((a + j : Nat) : Int) kd ta qk0 qw0) ∧ Hid (w.grownBy wr (some R)))
  case atStart => exact ⟨0, show 0 + (b + 1) = b + 1 by omega, Nat.zero_le _, HR, World.grownBy.refl _ _⟩
  case round =>
    obtain ⟨j, HJ, hjb, HRR, HG⟩ := hrel
    clear HR
    obtain ⟨p, hp0⟩ : ∃ p, p = a + j := ⟨_, rfl⟩
    rw [← hp0] at HRR
    have HPJ := Lib.hid hp0
    obtain ⟨c0, c1, c2, c3, c4, c5, c6, c7, cf⟩ := HRR.out.cells
    have f1 := cf 1
    by_cases hlt : j < b
    · have hin : p < T.size := by omega
      have hx : ((T[p]'hin).toNat : Int) = 32 := by subst hp0; exact HT.out.blank j hin hlt
      have HS : Hid (∀ q, ReaderAt ((wr.drewN q).setCell ⟨R, 1, none⟩ (.int .i64 ((p : Int) + 1))) R T ((p : Int) + 1) kd ta qk0 qw0) := fun q => (HRR.out.drewN q).setAt _
      have HGS : Hid (∀ q v, w.grownBy ((wr.drewN q).setCell ⟨R, 1, none⟩ v) (some R)) := fun q v => grown_trans (grown_drewN HG.out q) (grown_setCell _ _ _ _)
      have HE : Hid (((a + (j + 1) : Nat) : Int) = (p : Int) + 1) := by show _ = _; omega
      clear cf c2 c3 c4 c5 c6 c7 hp0 HRR HG
      go_wp2_with fail
      go_quiet (fail)
      go_wp2_with fail
      go_roundg (gk - 1)
      case measure => have := HJ.out; omega
      case rel => exact ⟨j + 1, show j + 1 + (gk - 1) = b + 1 by have := HJ.out; omega, by omega, by rw [HE.out]; exact HS.out _, HGS.out _ _⟩
    · obtain rfl : j = b := by omega
      have hin : p < T.size := by omega
      obtain ⟨x0, hx0⟩ : ∃ x0 : Int, ((T[p]'hin).toNat : Int) = x0 := ⟨_, rfl⟩
      obtain ⟨b1, b2, b3, b4, b5⟩ : (x0 == 32) = false ∧ (x0 == 10) = false ∧ (x0 == 40) = false ∧ (x0 == 41) = false ∧ (x0 == 34) = false := by
        subst hp0; exact HT.out.first x0 hin hx0
      have HIDX := Lib.hid HT.out.idx
      have HLOW := Lib.hid HT.out.low
      rw [← hp0] at HIDX HLOW hins ⊢
      clear hp0 HT HJ hjb hlt
      have HR1 : Hid (∀ q, ReaderAt ((((((((wr.drewN q)).setCell ⟨R, 2, none⟩ (.int .i64 0)).setCell ⟨R, 3, none⟩ (.int .i64 (p : Int))).setCell ⟨R, 4, none⟩ (.int .i64 0)).setCell ⟨R, 5, none⟩ (.slice none 0 0)).setCell ⟨R, 6, none⟩ (.int .i64 0)).setCell ⟨R, 7, none⟩ (.slice none 0 0)) R T p 0 p 0 (.slice none 0 0)) := fun q => (HRR.out.drewN q).setNow 0 p 0 (.slice none 0 0)
      have HG1 : Hid (∀ q a b c d e f, w.grownBy ((((((((wr.drewN q)).setCell ⟨R, 2, none⟩ a).setCell ⟨R, 3, none⟩ b).setCell ⟨R, 4, none⟩ c).setCell ⟨R, 5, none⟩ d).setCell ⟨R, 6, none⟩ e).setCell ⟨R, 7, none⟩ f) (some R)) := fun q a b c d e f => grown_trans (grown_drewN HG.out q) (grown_six _ R a b c d e f)
      have f2 := cf 2
      have f3 := cf 3
      have f4 := cf 4
      have f5 := cf 5
      have f6 := cf 6
      have f7 := cf 7
      clear cf HRR HG
      go_wp2_with fail
      go_quiet (fail)
      go_upto_region 3 with (fail)
      have HR2 := Lib.hid (HR1.out nq)
      have HG2 := Lib.hid (HG1.out nq (.int .i64 0) (.int .i64 p) (.int .i64 0) (.slice none 0 0) (.int .i64 0) (.slice none 0 0))
      clear c0 c1 c2 c3 c4 c5 c6 c7 f1 f2 f3 f4 f5 f6 f7 HR1 HG1
      generalize ((((((wr.drewN nq).setCell ⟨R, 2, none⟩ (.int .i64 0)).setCell ⟨R, 3, none⟩ (.int .i64 (p : Int))).setCell ⟨R, 4, none⟩ (.int .i64 0)).setCell ⟨R, 5, none⟩ (.slice none 0 0)).setCell ⟨R, 6, none⟩ (.int .i64 0)).setCell ⟨R, 7, none⟩ (.slice none 0 0) = w2 at *
      obtain ⟨c0, c1, c2, c3, c4, c5, c6, c7, cf⟩ := HR2.out.cells
      clear cf c2 c3 c4 c5 c6 c7
      have hne : ((p : Int) == (T.size : Int)) = false := by simp; omega
      have hd : decide ((p : Int) = (T.size : Int)) = false := by simp; omega
      go_quiet (fail)
      go_upto_region 4 with (fail)
      go_quiet (fail)
      go_upto_region 5 with (fail)
      have k1 : ∀ n, ReaderAt (w2.drewN n) R T p 0 p 0 (.slice none 0 0) := fun n => HR2.out.drewN n
      have k2 : ∀ n, w.grownBy (w2.drewN n) (some R) := fun n => grown_drewN HG2.out n
      generalize hw3 : w2.drewN _ = w3
      have HR3 : Hid (ReaderAt w3 R T p 0 p 0 (.slice none 0 0)) := hw3 ▸ k1 _
      have HG3 : Hid (w.grownBy w3 (some R)) := hw3 ▸ k2 _
      clear hw3 k1 k2 c0 c1 HR2 HG2 hne hd
      clear w2
      obtain ⟨c0, c1, c2, c3, c4, c5, c6, c7, cf⟩ := HR3.out.cells
      clear cf c2 c3 c4 c5 c6 c7
      have hsl := slice_from T p (p : Int) rfl (by omega)
      refine wp_region_still_tail 9 (by kernel_rfl) (by kernel_rfl) ?_
      simp only [List.take_succ_cons, List.take_zero, List.drop_succ_cons, List.drop_zero]
      repeat still_step
      refine wpStill_nil ?_
      go_wp2_with fail
      refine Calls.mono (HIDX.out _) ?_
      rintro e w4 ⟨⟨z, rfl, hz⟩, hb4⟩
      have HR4 : Hid (ReaderAt w4 R T p 0 p 0 (.slice none 0 0)) := (HR3.out.drewN 1).keep hb4
      have HG4 : Hid (w.grownBy w4 (some R)) := grown_belowR (grown_drewN HG3.out 1) hb4
      clear hb4 HR3 HG3 c0 c1 hsl
      clear w3
      obtain ⟨c0, c1, c2, c3, c4, c5, c6, c7, cf⟩ := HR4.out.cells
      clear cf c2 c3 c4 c5 c6 c7
      go_upto_if 82 with (fail)
      go_cut [2] (fun v2 wx => v2 = .int .i64 (n : Int) ∧ Hid (ReaderAt wx R T p 0 p 0 (.slice none 0 0)) ∧ Hid (w.grownBy wx (some R)))
      case first =>
        rcases hz with rfl | ⟨rfl, hz⟩
        · go_wp2_with fail
          go_meet
          exact ⟨rfl, HR4, HG4⟩
        · have e1 : (T.size : Int) - (p : Int) = (n : Int) := by omega
          have HR5 : Hid (∀ q, ReaderAt (w4.drewN q) R T p 0 p 0 (.slice none 0 0)) := fun q => HR4.out.drewN q
          have HG5 : Hid (∀ q, w.grownBy (w4.drewN q) (some R)) := fun q => grown_drewN HG4.out q
          go_wp2_with fail
          go_quiet (fail)
          go_wp2_with fail
          go_meet
          exact ⟨rfl, HR5.out _, HG5.out _⟩
      case rest =>
        obtain ⟨rfl, HR5, HG5⟩ := hcut
        clear hz HR4 HG4 c0 c1 HIDX b1 b2 b3 b4 b5 hx0
        obtain ⟨w5, rfl⟩ : ∃ w5, w5 = wc := ⟨_, rfl⟩
        clear w4
        obtain ⟨c0, c1, c2, c3, c4, c5, c6, c7, cf⟩ := HR5.out.cells
        clear cf c2 c3 c4 c5 c6 c7
        have g1 : IntKind.i64.wrap ((p : Int) + (n : Int)) = (p : Int) + (n : Int) := IntWalk.i64_in _ (by omega)
        have hsl := slice_mid T p (p + n) (p : Int) ((p : Int) + (n : Int)) rfl (by omega) (by omega) hins
        go_upto_region 8 with (fail)
        go_cut [2] (fun v2 wx => v2 = .int .i64 (n : Int) ∧ ∃ A, Hid (ReaderAt wx R T p k p qk (.slice A x.length x.length)) ∧ Hid (StrsAt wx A x.length x.length x) ∧ Hid (∀ g off, A = some ⟨g, off, none⟩ → w.heap.size ≤ g ∧ R < g) ∧ Hid (w.grownBy wx (some R)))
        case first =>
          go_region_held3 (fun w' => w'.cell? ⟨R, 0, none⟩ = some (.string T) ∧ w'.cell? ⟨R, 1, none⟩ = some (.int .i64 (p : Int)))
            (first | go_keep | (with_reducible exact ⟨(HR7.out.setKind k).cells.1, (HR7.out.setKind k).cells.2.1⟩) | (with_reducible exact ⟨((HR7.out.setKind k).setQ qk (.slice A x.length x.length)).cells.1, ((HR7.out.setKind k).setQ qk (.slice A x.length x.length)).cells.2.1⟩))
            (first
              | (go_at_call 141; (with_reducible refine Calls.mono (HLOW.out _) ?_); rintro e w6 ⟨rfl, hb6⟩; have HR6 : Hid (ReaderAt w6 R T p 0 p 0 (.slice none 0 0)) := (HR5.out.drewN _).keep hb6; have HG6 : Hid (w.grownBy w6 (some R)) := grown_belowR (grown_drewN HG5.out _) hb6; have k0 := HR6.out.cells.1; have k1 := HR6.out.cells.2.1)
              | (go_at_call 140; (with_reducible refine Calls.mono (HP.out _) ?_); rintro e w7 ⟨A, rfl, hS, hG, hb7⟩; have HR7 : Hid (ReaderAt w7 R T p 0 p 0 (.slice none 0 0)) := (by first | exact HR6.out.keep hb7 | exact (HR6.out.drewN 1).keep hb7); have HG7 : Hid (w.grownBy w7 (some R)) := (by first | exact grown_belowR HG6.out hb7 | exact grown_belowR (grown_drewN HG6.out 1) hb7); have HSS := Lib.hid hS; have HAG := Lib.hid hG; obtain ⟨d0, d1, d2, d3, d4, d5, d6, d7, df⟩ := HR7.out.cells; have f2 := df 2; have f4 := df 4; have f5 := df 5; have f6 := df 6; have f7 := df 7; clear df d3 hS hG))
          have HRF := Lib.hid ((HR7.out.setKind k).setQ qk (.slice A x.length x.length))
          have hg : w7.grownBy _ (some R) := grown_trans (grown_setCell w7 R 2 (.int .i64 k)) (grown_four _ R (.int .i64 qk) (.slice A x.length x.length) (.int .i64 0) (.slice none 0 0))
          have HGF := Lib.hid (grown_trans HG7.out hg)
          have HAF : Hid (∀ g off, A = some ⟨g, off, none⟩ → w.heap.size ≤ g ∧ R < g) := fun g off h => ⟨Nat.le_trans HG6.out.size (HAG.out g off h), Nat.lt_of_lt_of_le HR6.out.lt (HAG.out g off h)⟩
          have HSF : Hid (StrsAt _ A x.length x.length x) := ElemsAt.grown HSS.out hg (fun g off h e => by have := (HAF.out g off h).2; injection e with e; omega)
          clear d0 d1 d2 d4 d5 d6 d7 f2 f4 f5 f6 f7 k0 k1 hg
          generalize ((((w7.setCell ⟨R, 2, none⟩ (.int .i64 k)).setCell ⟨R, 4, none⟩ (.int .i64 qk)).setCell ⟨R, 5, none⟩ (.slice A x.length x.length)).setCell ⟨R, 6, none⟩ (.int .i64 0)).setCell ⟨R, 7, none⟩ (.slice none 0 0) = w8 at *
          go_wp2_with fail
          go_meet
          exact ⟨rfl, A, HRF, HSF, HAF, HGF⟩
        case rest =>
          obtain ⟨rfl, A, HR6, HS6, HA6, HG6⟩ := hcut
          clear HR5 HG5 c0 c1 g1 hsl HLOW
          obtain ⟨w6, rfl⟩ : ∃ w6, w6 = wc := ⟨_, rfl⟩
          obtain ⟨c0, c1, c2, c3, c4, c5, c6, c7, cf⟩ := HR6.out.cells
          have f1 := cf 1
          clear cf c0 c2 c3 c4 c5 c6 c7
          have HRF := Lib.hid (HR6.out.setAt ((p : Int) + (n : Int)))
          have hg := grown_setCell w6 R 1 (.int .i64 ((p : Int) + (n : Int)))
          have HGF := Lib.hid (grown_trans HG6.out hg)
          have HSF : Hid (StrsAt _ A x.length x.length x) := ElemsAt.grown HS6.out hg (fun g off h e => by have := (HA6.out g off h).2; injection e with e; omega)
          have HPA : Hid (((a + j + n : Nat) : Int) = (p : Int) + (n : Int) ∧ ((a + j : Nat) : Int) = (p : Int)) := by show _ ∧ _; have := HPJ.out; omega
          clear hg
          go_wp2_with fail
          go_end0
          refine ⟨rfl, A, ?_, HSF.out, fun g off h => (HA6.out g off h).1, HGF.out⟩
          rw [HPA.out.1, HPA.out.2]
          exact HRF.out
set_option maxHeartbeats 1600000 in
set_option maxRecDepth 100000 in
/-- At the end of the text. -/
theorem next_end (R : Nat) (T : ByteArray) (kd ta qk0 : Int) (qw0 : Value) (w : World) (h : ReaderAt w R T (T.size : Int) kd ta qk0 qw0) :
    Calls Tryz.prog 91 #[.pointer (some ⟨R, 0, none⟩)] w (NextPost_ w R T (T.size : Int) 0 (T.size : Int) 0 []) := by
  obtain ⟨c0, c1, c2, c3, c4, c5, c6, c7, cf⟩ := h.cells
  have HR := Lib.hid h; clear h
  have f2 := cf 2
  have f3 := cf 3
  have f4 := cf 4
  have f5 := cf 5
  have f6 := cf 6
  have f7 := cf 7
  clear cf
  have hd : decide ((T.size : Int) < (T.size : Int)) = false := by simp
  have HR1 : Hid (∀ q, ReaderAt ((((((((w.drewN q)).setCell ⟨R, 2, none⟩ (.int .i64 0)).setCell ⟨R, 3, none⟩ (.int .i64 (T.size : Int))).setCell ⟨R, 4, none⟩ (.int .i64 0)).setCell ⟨R, 5, none⟩ (.slice none 0 0)).setCell ⟨R, 6, none⟩ (.int .i64 0)).setCell ⟨R, 7, none⟩ (.slice none 0 0)) R T T.size 0 T.size 0 (.slice none 0 0)) := fun q => (HR.out.drewN q).setNow 0 T.size 0 (.slice none 0 0)
  have HG1 : Hid (∀ q a b c d e f, w.grownBy ((((((((w.drewN q)).setCell ⟨R, 2, none⟩ a).setCell ⟨R, 3, none⟩ b).setCell ⟨R, 4, none⟩ c).setCell ⟨R, 5, none⟩ d).setCell ⟨R, 6, none⟩ e).setCell ⟨R, 7, none⟩ f) (some R)) := fun q a b c d e f => grown_trans (grown_drewN (World.grownBy.refl w _) q) (grown_six _ R a b c d e f)
  go_enter Tryz.func91, Tryz.ntmps91
  go_wp2_with fail
  refine wp_loop_rounds 1 ?_
  rw [rounds_succ]
  go_wp2_with fail
  go_quiet (fail)
  go_upto_region 3 with (fail)
  have HR2 := Lib.hid (HR1.out nq)
  have HG2 := Lib.hid (HG1.out nq (.int .i64 0) (.int .i64 T.size) (.int .i64 0) (.slice none 0 0) (.int .i64 0) (.slice none 0 0))
  clear c0 c1 c2 c3 c4 c5 c6 c7 f2 f3 f4 f5 f6 f7 HR1 HG1 HR
  generalize ((((((w.drewN nq).setCell ⟨R, 2, none⟩ (.int .i64 0)).setCell ⟨R, 3, none⟩ (.int .i64 (T.size : Int))).setCell ⟨R, 4, none⟩ (.int .i64 0)).setCell ⟨R, 5, none⟩ (.slice none 0 0)).setCell ⟨R, 6, none⟩ (.int .i64 0)).setCell ⟨R, 7, none⟩ (.slice none 0 0) = w2 at *
  obtain ⟨c0, c1, c2, c3, c4, c5, c6, c7, cf⟩ := HR2.out.cells
  clear cf c2 c3 c4 c5 c6 c7 hd
  go_quiet (fail)
  go_wp2_with fail
  go_end0
  exact ⟨rfl, none, HR2.out.drewN _, ⟨rfl, Nat.le_refl _, fun _ => rfl, fun h => by simp at h⟩, fun _ _ h => (by cases h), grown_drewN HG2.out _⟩
end Go.Proofs.YtfijplllfdmcoaaGreatDoor
