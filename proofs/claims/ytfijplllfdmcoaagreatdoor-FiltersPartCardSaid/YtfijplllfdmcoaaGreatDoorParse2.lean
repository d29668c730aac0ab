
/-
  What several, or and Parse give at the search 'a and b', up to its check.
-/
import Derived.Test.YtfijplllfdmcoaaGreatDoorParse
namespace Go.Proofs.YtfijplllfdmcoaaGreatDoor
open Go.RowKit

/-- A search as it lies: kind, words, parts. -/
abbrev RawQ := Int × (Option Addr × Nat × Nat) × (Option Addr × Nat × Nat)
def QryE : Elem RawQ := ⟨94, 92, 4, 64, .agg #[.int .i64 0, .slice none 0 0, .int .i64 0, .slice none 0 0], fun r => [.int .i64 r.1, .slice r.2.1.1 r.2.1.2.1 r.2.1.2.2, .int .i64 0, .slice r.2.2.1 r.2.2.2.1 r.2.2.2.2]⟩
theorem qryE_ok : QryE.Ok := ⟨fun _ => rfl, fun x u hu => by simp [QryE] at hu; rcases hu with rfl | rfl | rfl | rfl <;> rfl, by decide, by decide, by kernel_rfl, by kernel_rfl, Tryz.underlying92⟩
abbrev leafR (A : Option Addr) : RawQ := (2, (A, 1, 1), (none, 0, 0))
theorem qry_one (w : World) (r : RawQ) (base : Nat) (hb : base ≤ w.heap.size) : Owns QryE (w.alloc (.cells #[.int .i64 r.1, .slice r.2.1.1 r.2.1.2.1 r.2.1.2.2, .int .i64 0, .slice r.2.2.1 r.2.2.2.1 r.2.2.2.2] 94)) base (.slice (some ⟨w.heap.size, 0, none⟩) 1 1) [r] := by
  refine ⟨by simp [QryE, Elem.cells], .inr ⟨w.heap.size, 1, _, rfl, hb, heap_alloc_new w _, Nat.le_refl 1, by decide, rfl, ?_⟩⟩
  simp [QryE, Elem.cells]
theorem ReaderAt.row {w w' : World} {R : Nat} {T : ByteArray} {at_ kind tat qk : Int} {qw : Value} {row : Option Nat} (h : ReaderAt w R T at_ kind tat qk qw) (hg : w.grownBy w' row) (hne : row ≠ some R) : ReaderAt w' R T at_ kind tat qk qw :=
  (hg.block R h.lt (fun e => hne e.symm)).trans h
theorem blk_row {w w' : World} {b : Nat} {o : Obj} {row : Option Nat} (h : w.heap[b]? = some o) (hg : w.grownBy w' row) (hne : row ≠ some b) : w'.heap[b]? = some o :=
  (hg.block b (Array.getElem?_eq_some_iff.1 h).1 (fun e => hne e.symm)).trans h
theorem ne_some {a b : Nat} (h : a ≠ b) : some a ≠ some b := fun e => h (Option.some.inj e)
theorem own_cases {A : Option Addr} {n c P k k' : Nat} (h : (Value.slice A n c).ownBlock = (Value.slice (some ⟨P, 0, none⟩) 1 1).ownBlock ∨ (Value.slice A n c).ownBlock = some k) (hk : k = k') : ∀ g off, A = some ⟨g, off, none⟩ → g = P ∨ g = k' := by
  intro g off e
  subst e
  rcases h with h | h
  · exact .inl (Option.some.inj h)
  · exact .inr ((Option.some.inj h).trans hk)
abbrev notF (R : Nat) : Value := .func (.func 144) #[.pointer (some ⟨R, 0, none⟩)] #[]
abbrev andQ (Q : Option Addr) (c : Nat) : Value := .agg #[.int .i64 6, .slice none 0 0, .int .i64 0, .slice Q 2 c]
def NewA (A : Option Addr) (b : Nat) : Prop := ∀ g off, A = some ⟨g, off, none⟩ → b ≤ g
def AndPost (w : World) (R : Nat) (T : ByteArray) (A : Option Addr) (e : Ending) (w' : World) : Prop :=
  ∃ Q c B, e = .returned (.tuple #[andQ Q c, .bool true]) ∧ ElemsAt QryE w' Q 2 c [leafR A, leafR B] ∧ StrsAt w' B 1 1 [[98]] ∧ NewA Q w.heap.size ∧ NewA B w.heap.size ∧ NextW w R T 7 0 7 0 [] w'
theorem and_store {w0 w1 w2 w3 : World} {R b : Nat} {T : ByteArray} {A Q B : Option Addr} {c : Nat} (hq : ElemsAt QryE w2 Q 2 c [leafR A, leafR B]) (hs : StrsAt w2 B 1 1 [[98]]) (nq : NewA Q w1.heap.size) (nb : NewA B w1.heap.size) (hn : NextW w1 R T 7 0 7 0 [] w2)
    (hb : Below w0.heap.size w0 w1) (hg : w2.grownBy w3 (some b)) (h1 : w0.heap.size ≤ b) (h2 : b < w1.heap.size) (hR : R < w0.heap.size) :
    ElemsAt QryE w3 Q 2 c [leafR A, leafR B] ∧ StrsAt w3 B 1 1 [[98]] ∧ NewA Q w0.heap.size ∧ NewA B w0.heap.size ∧ NextW w0 R T 7 0 7 0 [] w3 :=
  ⟨hq.grown hg (fun g off e => ne_some (by have := nq g off e; omega)), hs.grown hg (fun g off e => ne_some (by have := nb g off e; omega)), fun g off e => Nat.le_trans hb.size (nq g off e), fun g off e => Nat.le_trans hb.size (nb g off e), hn.store hb hg h1 h2 hR⟩
set_option maxHeartbeats 1600000 in
set_option maxRecDepth 100000 in
theorem several_and (R : Nat) (A : Option Addr) (w : World) (h : ReaderAt w R textAB 1 3 0 2 (.slice A 1 1)) :
    Calls Tryz.prog 142 #[.pointer (some ⟨R, 0, none⟩), .int .i64 6, .int .i64 4, notF R] w (AndPost w R textAB A) := by
  have hRl := h.lt
  have HR := Lib.hid h; clear h
  have hb1 := heap_alloc_new w (.cells #[.int .i64 0, .slice none 0 0, .int .i64 0, .slice none 0 0] 94)
  have hB : Below w.heap.size w (w.alloc (.cells #[.int .i64 0, .slice none 0 0, .int .i64 0, .slice none 0 0] 94)) := (Below.refl _ _).alloc (Nat.le_refl _) _
  have HHB := Lib.hid hb1; clear hb1
  have eg : ∀ args w, (callFunc 144 args).run Tryz.prog w = .ok (.enter 144 args) w := enters_of Tryz.func144 (by kernel_rfl) rfl
  go_enter Tryz.func142, Tryz.ntmps142
  go_wp2_with fail
  generalize w.alloc (.cells #[.int .i64 0, .slice none 0 0, .int .i64 0, .slice none 0 0] 94) = w1 at *
  refine (not_word R textAB A 1 0 5 4 2 0 [] w1 (HR.out.keep hB) (steps_and R) rfl).mono ?_
  rintro e w2 ⟨rfl, hN⟩
  have hbk := Lib.hid (hN.blk HHB.out (by omega))
  have hz2 : w.heap.size < w2.heap.size := (Array.getElem?_eq_some_iff.1 hbk.out).1
  obtain ⟨A2, hrd, _, _, hg2⟩ := hN
  have hRl2 := hrd.lt
  obtain ⟨c0, c1, c2, c3, c4, c5, c6, c7, cf⟩ := hrd.cells
  have HG2 := Lib.hid hg2
  have HR2 := Lib.hid hrd
  clear c0 c1 c3 c4 c5 c6 c7 cf hrd hg2 HR
  go_wp2_with fail
  have hes := qry_one (w2.alloc (.cells #[.int .i64 2, .slice A 1 1, .int .i64 0, .slice none 0 0] 94)) (leafR A) w2.heap.size (by simp)
  have ez : (w2.alloc (.cells #[.int .i64 2, .slice A 1 1, .int .i64 0, .slice none 0 0] 94)).heap.size = w2.heap.size + 1 := by simp
  have hou := heap_alloc_new ((w2.alloc (.cells #[.int .i64 2, .slice A 1 1, .int .i64 0, .slice none 0 0] 94)).alloc (.cells #[.int .i64 2, .slice A 1 1, .int .i64 0, .slice none 0 0] 94)) (.cells #[.int .i64 6, .slice none 0 0, .int .i64 0, .slice (some ⟨w2.heap.size + 1, 0, none⟩) 1 1] 94)
  have ez2 : ((w2.alloc (.cells #[.int .i64 2, .slice A 1 1, .int .i64 0, .slice none 0 0] 94)).alloc (.cells #[.int .i64 2, .slice A 1 1, .int .i64 0, .slice none 0 0] 94)).heap.size = w2.heap.size + 1 + 1 := by simp
  rw [ez] at hes
  rw [ez2] at hou
  have HOW := Lib.hid (World.ownsRow.alloc hes (.cells #[.int .i64 6, .slice none 0 0, .int .i64 0, .slice (some ⟨w2.heap.size + 1, 0, none⟩) 1 1] 94))
  have HOU := Lib.hid hou
  have hB2 : Below w2.heap.size w2 (((w2.alloc (.cells #[.int .i64 2, .slice A 1 1, .int .i64 0, .slice none 0 0] 94)).alloc (.cells #[.int .i64 2, .slice A 1 1, .int .i64 0, .slice none 0 0] 94)).alloc (.cells #[.int .i64 6, .slice none 0 0, .int .i64 0, .slice (some ⟨w2.heap.size + 1, 0, none⟩) 1 1] 94)) := (((Below.refl _ _).alloc (Nat.le_refl _) _).alloc (by simp) _).alloc (by simp; omega) _
  clear hes ez hou ez2 c2
  generalize ((w2.alloc (.cells #[.int .i64 2, .slice A 1 1, .int .i64 0, .slice none 0 0] 94)).alloc (.cells #[.int .i64 2, .slice A 1 1, .int .i64 0, .slice none 0 0] 94)).alloc (.cells #[.int .i64 6, .slice none 0 0, .int .i64 0, .slice (some ⟨w2.heap.size + 1, 0, none⟩) 1 1] 94) = w5 at *
  have HR5 := Lib.hid (HR2.out.keep hB2)
  have HG5 := Lib.hid (grown_belowR HG2.out hB2)
  have HBK5 : Hid (w5.heap[w.heap.size]? = some (.cells #[.int .i64 0, .slice none 0 0, .int .i64 0, .slice none 0 0] 94 (0, 0))) := (hB2.block _ hz2).trans hbk.out
  have hz5 := hB2.size
  obtain ⟨c0, c1, c2, c3, c4, c5, c6, c7, cf⟩ := HR5.out.cells
  clear c0 c1 c3 c4 c5 c6 c7 cf HR2 HG2 hbk hB2
  obtain ⟨Pe, hPe⟩ : ∃ Pe, Pe = w2.heap.size + 1 := ⟨_, rfl⟩
  rw [← hPe] at HOW HOU ⊢
  obtain ⟨Po, hPo⟩ : ∃ Po, Po = Pe + 1 := ⟨_, rfl⟩
  rw [← hPo] at HOU ⊢
  have hpe : w2.heap.size < Pe := by omega
  have hpo : Pe < Po := by omega
  clear hPe hPo
  refine wp_loop_rounds 2 ?_
  rw [rounds_succ]
  go_wp2_with fail
  refine (steps_b R w5 _ HR5.out).mono ?_
  rintro e w6 ⟨rfl, hN6⟩
  obtain ⟨B, hrd6, hsB, hBn, hg6⟩ : ∃ B, ReaderAt w6 R textAB 7 3 6 2 (.slice B 1 1) ∧ StrsAt w6 B 1 1 [[98]] ∧ (∀ g off, B = some ⟨g, off, none⟩ → w5.heap.size ≤ g) ∧ w5.grownBy w6 (some R) := hN6
  have HR6 := Lib.hid hrd6; clear hrd6
  have HSB := Lib.hid hsB; clear hsB
  have HBN := Lib.hid hBn; clear hBn
  have HG6 := Lib.hid (grown_trans HG5.out hg6)
  have HG56 := Lib.hid hg6
  clear hg6 c2 HR5 HG5
  go_wp2_with fail
  refine (not_word R textAB B 7 6 7 0 7 0 [] w6 HR6.out (steps_end R) rfl).mono ?_
  rintro e w7 ⟨rfl, hN7⟩
  obtain ⟨A7, hrd7, _, hA7, hg7⟩ : ∃ A7, ReaderAt w7 R textAB 7 0 7 0 (.slice A7 0 0) ∧ StrsAt w7 A7 0 0 [] ∧ (∀ g off, A7 = some ⟨g, off, none⟩ → w6.heap.size ≤ g) ∧ w6.grownBy w7 (some R) := hN7
  have HA7 := Lib.hid hA7; clear hA7
  have hz6 := HG56.out.size
  have hg57 := grown_trans HG56.out hg7
  have hRPe : R ≠ Pe := by omega
  have hRPo : R ≠ Po := by omega
  have hPo5 : Po < w5.heap.size := (Array.getElem?_eq_some_iff.1 HOU.out).1
  have HSB7 : Hid (StrsAt w7 B 1 1 [[98]]) := ElemsAt.grown HSB.out hg7 (fun g off e => ne_some (by have := HBN.out g off e; omega))
  have HR7 := Lib.hid hrd7
  have HG7 := Lib.hid (grown_trans (below_grown hB (some R)) (grown_trans HG6.out hg7))
  have HOW7 : Hid (Owns QryE w7 w2.heap.size (.slice (some ⟨Pe, 0, none⟩) 1 1) [leafR A]) := Owns.kept_ HOW.out hg57 (fun i e => by have := Option.some.inj e; omega)
  have HOU7 := Lib.hid (blk_row HOU.out hg57 (ne_some hRPo))
  have HBK7 := Lib.hid (blk_row HBK5.out hg57 (ne_some (by omega)))
  have hz7 := hg57.size
  clear hrd7 hg7 hg57 HSB HR6 HG6 HG56 HOW HOU HBK5
  obtain ⟨o0, o1, o2, o3, oe0, oe1, oe2, oe3, hob⟩ := four_cells HOU7.out
  have hone : ElemsAt QryE ((w7.alloc (.cells #[.int .i64 2, .slice B 1 1, .int .i64 0, .slice none 0 0] 94)).alloc (.cells #[.int .i64 2, .slice B 1 1, .int .i64 0, .slice none 0 0] 94)) (some ⟨w7.heap.size + 1, 0, none⟩) 1 1 [leafR B] := by
    have h := one_elem (E := QryE) (w7.alloc (.cells #[.int .i64 2, .slice B 1 1, .int .i64 0, .slice none 0 0] 94)) (leafR B)
    have e : (w7.alloc (.cells #[.int .i64 2, .slice B 1 1, .int .i64 0, .slice none 0 0] 94)).heap.size = w7.heap.size + 1 := by simp
    rw [e] at h
    simpa [QryE] using h
  have HON := Lib.hid hone; clear hone
  have HOU9 : Hid (((w7.alloc (.cells #[.int .i64 2, .slice B 1 1, .int .i64 0, .slice none 0 0] 94)).alloc (.cells #[.int .i64 2, .slice B 1 1, .int .i64 0, .slice none 0 0] 94)).heap[Po]? = some (.cells #[.int .i64 6, .slice none 0 0, .int .i64 0, .slice (some ⟨Pe, 0, none⟩) 1 1] 94 (0, 0))) := (Below.heap_alloc _ _ Po (by simp; omega)).trans ((Below.heap_alloc _ _ Po hob).trans HOU7.out)
  go_wp2_with (at_builtin; refine append_elems qryE_ok rfl _ _ rfl w2.heap.size (.slice (some ⟨Pe, 0, none⟩) 1 1) [leafR A] rfl ((HOW7.out.alloc _).alloc _) (some ⟨w7.heap.size + 1, 0, none⟩) 1 1 [leafR B] rfl HON.out (by simp) (by simp; omega) ?_; intro v' w10 hown10 hgrow10 hv10; obtain ⟨Qa, cq, rfl, hcq, hatq, hoq⟩ := hown10.at_ qryE_ok; have HOU10 := Lib.hid (blk_row HOU9.out hgrow10 (ne_some (show Pe ≠ Po by omega))); obtain ⟨t0, t1, t2, t3, te0, te1, te2, te3, htb⟩ := four_cells HOU10.out; have HGR := Lib.hid hgrow10; have HAT := Lib.hid hatq; have HQB : Hid (∀ g off, Qa = some ⟨g, off, none⟩ → g = Pe ∨ g = w7.heap.size + 1 + 1) := (fun g off e => own_cases hv10 (by simp) g off e); clear hown10 hgrow10 hv10 hatq hoq)
  have hg10 : w7.grownBy w10 (some Pe) := grown_trans (grown_alloc (grown_alloc (World.grownBy.refl w7 _) _) _) HGR.out
  have hg11 : w10.grownBy (w10.setCell ⟨Po, 3, none⟩ (.slice Qa 2 cq)) (some Po) := grown_setCell _ _ _ _
  have HOU11 : Hid ((w10.setCell ⟨Po, 3, none⟩ (.slice Qa 2 cq)).heap[Po]? = some (.cells #[.int .i64 6, .slice none 0 0, .int .i64 0, .slice Qa 2 cq] 94 (0, 0))) := by
    show _ = _
    have h := HOU10.out
    simp [World.setCell, Array.getElem?_modify, h]
  have HAT11 : Hid (ElemsAt QryE (w10.setCell ⟨Po, 3, none⟩ (.slice Qa 2 cq)) Qa 2 cq [leafR A, leafR B]) := ElemsAt.grown HAT.out hg11 (fun g off e => ne_some (by have := HQB.out g off e; omega))
  clear t0 t1 t2 t3 te0 te1 te2 te3 o0 o1 o2 o3 oe0 oe1 oe2 oe3 HOU10 HOU9 HON
  generalize w10.setCell ⟨Po, 3, none⟩ (.slice Qa 2 cq) = w11 at *
  have HR11 : Hid (ReaderAt w11 R textAB 7 0 7 0 (.slice A7 0 0)) := (HR7.out.row hg10 (ne_some (Ne.symm hRPe))).row hg11 (ne_some (Ne.symm hRPo))
  have HBK11 : Hid (w11.heap[w.heap.size]? = some (.cells #[.int .i64 0, .slice none 0 0, .int .i64 0, .slice none 0 0] 94 (0, 0))) := blk_row (blk_row HBK7.out hg10 (ne_some (by omega))) hg11 (ne_some (by omega))
  have HSB11 : Hid (StrsAt w11 B 1 1 [[98]]) := (ElemsAt.grown (ElemsAt.grown HSB7.out hg10 (fun g off e => ne_some (by have := HBN.out g off e; omega))) hg11 (fun g off e => ne_some (by have := HBN.out g off e; omega)))
  have HG11 : Hid (w.grownBy w11 (some R)) := grown_row (grown_row HG7.out hg10 (fun i e => by have := Option.some.inj e; omega)) hg11 (fun i e => by have := Option.some.inj e; omega)
  clear HR7 HBK7 HSB7 HG7 hg10 hg11 HGR HAT HOW7 HOU7
  obtain ⟨c0, c1, c2, c3, c4, c5, c6, c7, cf⟩ := HR11.out.cells
  clear c0 c1 c3 c4 c5 c6 c7 cf
  obtain ⟨t0, t1, t2, t3, te0, te1, te2, te3, htb⟩ := four_cells HOU11.out
  obtain ⟨d0, d1, d2, d3, de0, de1, de2, de3, hdb⟩ := four_cells HBK11.out
  rw [rounds_succ]
  go_wp2_with fail
  have hg12 := grown_row4 w11 w.heap.size (.int .i64 6) (.slice none 0 0) (.int .i64 0) (.slice Qa 2 cq)
  refine bodyPost_ret (v := .tuple #[andQ Qa cq, .bool true]) (by simp [results, Tryz.results142, go_sem, d0, d1, d2, d3]) rfl ?_
  have G12 := grown_row HG11.out hg12 (fun i e => by have := Option.some.inj e; omega)
  exact ⟨Qa, cq, B, rfl, ElemsAt.grown HAT11.out hg12 (fun g off e => ne_some (by have := HQB.out g off e; omega)), ElemsAt.grown HSB11.out hg12 (fun g off e => ne_some (by have := HBN.out g off e; omega)), fun g off e => by have := HQB.out g off e; omega, fun g off e => by have := HBN.out g off e; omega, A7, HR11.out.row hg12 (ne_some (by omega)), ⟨rfl, Nat.le_refl _, fun _ => rfl, fun h => by simp at h⟩, fun g off e => by have := HA7.out g off e; omega, G12⟩

set_option maxHeartbeats 1600000 in
set_option maxRecDepth 100000 in
theorem or1_any (R G : Nat) (A : Option Addr) (w : World) (h : ReaderAt w R textAB 1 3 0 2 (.slice A 1 1)) (hG : w.cell? ⟨G, 0, none⟩ = some (.pointer (some ⟨R, 0, none⟩))) (hGl : G < w.heap.size) :
    Calls Tryz.prog 143 #[.pointer (some ⟨G, 0, none⟩)] w (AndPost w R textAB A) := by
  have hRl := h.lt
  have HR := Lib.hid h; clear h
  have hb1 := heap_alloc_new w (.cells #[.int .i64 0, .slice none 0 0, .int .i64 0, .slice none 0 0] 94)
  have hB : Below w.heap.size w (w.alloc (.cells #[.int .i64 0, .slice none 0 0, .int .i64 0, .slice none 0 0] 94)) := (Below.refl _ _).alloc (Nat.le_refl _) _
  have HHB := Lib.hid hb1; clear hb1
  go_enter Tryz.func143, Tryz.ntmps143
  go_wp2_with fail
  clear hG
  generalize w.alloc (.cells #[.int .i64 0, .slice none 0 0, .int .i64 0, .slice none 0 0] 94) = w1 at *
  refine (several_and R A w1 (HR.out.keep hB)).mono ?_
  rintro e w2 ⟨Q, c, B, rfl, hq, hs, nq, nb, hN⟩
  have hbk := hN.blk HHB.out (by omega)
  obtain ⟨d0, d1, d2, d3, e0, e1, e2, e3, hd⟩ := four_cells hbk
  have HN := Lib.hid (and_store hq hs nq nb hN hB (grown_row4 w2 w.heap.size (.int .i64 6) (.slice none 0 0) (.int .i64 0) (.slice Q 2 c)) (Nat.le_refl _) ((Array.getElem?_eq_some_iff.1 HHB.out).1) hRl)
  clear hbk hN HR HHB hB hq hs nq nb
  go_wp2_with fail
  exact bodyPost_ret (v := .tuple #[andQ Q c, .bool true]) (by simp [results, Tryz.results143, go_sem, d0, d1, d2, d3]) rfl ⟨Q, c, B, rfl, HN.out⟩

abbrev orF (G : Nat) : Value := .func (.func 143) #[] #[.pointer (some ⟨G, 0, none⟩)]
set_option maxHeartbeats 1600000 in
set_option maxRecDepth 100000 in
theorem several_or (R G : Nat) (A : Option Addr) (w : World) (h : ReaderAt w R textAB 1 3 0 2 (.slice A 1 1)) (hG : w.cell? ⟨G, 0, none⟩ = some (.pointer (some ⟨R, 0, none⟩))) (hGl : G < w.heap.size) :
    Calls Tryz.prog 142 #[.pointer (some ⟨R, 0, none⟩), .int .i64 7, .int .i64 5, orF G] w (AndPost w R textAB A) := by
  have hRl := h.lt
  have HR := Lib.hid h; clear h
  have hb1 := heap_alloc_new w (.cells #[.int .i64 0, .slice none 0 0, .int .i64 0, .slice none 0 0] 94)
  have hB : Below w.heap.size w (w.alloc (.cells #[.int .i64 0, .slice none 0 0, .int .i64 0, .slice none 0 0] 94)) := (Below.refl _ _).alloc (Nat.le_refl _) _
  have HHB := Lib.hid hb1; clear hb1
  have eg : ∀ args w, (callFunc 143 args).run Tryz.prog w = .ok (.enter 143 args) w := enters_of Tryz.func143 (by kernel_rfl) rfl
  go_enter Tryz.func142, Tryz.ntmps142
  go_wp2_with fail
  have hG1 : (w.alloc (.cells #[.int .i64 0, .slice none 0 0, .int .i64 0, .slice none 0 0] 94)).cell? ⟨G, 0, none⟩ = some (.pointer (some ⟨R, 0, none⟩)) := (hB.cell (p := ⟨G, 0, none⟩) hGl).trans hG
  have hGl1 : G < (w.alloc (.cells #[.int .i64 0, .slice none 0 0, .int .i64 0, .slice none 0 0] 94)).heap.size := Nat.lt_of_lt_of_le hGl hB.size
  clear hG hGl
  generalize w.alloc (.cells #[.int .i64 0, .slice none 0 0, .int .i64 0, .slice none 0 0] 94) = w1 at *
  refine (or1_any R G A w1 (HR.out.keep hB) hG1 hGl1).mono ?_
  rintro e w2 ⟨Q, c, B, rfl, hq, hs, nq, nb, hN⟩
  have hbk := hN.blk HHB.out (by omega)
  obtain ⟨d0, d1, d2, d3, e0, e1, e2, e3, hd⟩ := four_cells hbk
  obtain ⟨A7, hrd, _, _, _⟩ := id hN
  obtain ⟨c0, c1, c2, c3, c4, c5, c6, c7, cf⟩ := hrd.cells
  have hRl2 := hrd.lt
  have hnq : ∀ g off, Q = some ⟨g, off, none⟩ → g ≠ w2.heap.size := fun g off e he => by
    obtain ⟨g', off', e', hl, _⟩ := hq.2.2.2 (by omega)
    rw [e] at e'
    have := (Option.some.inj e')
    injection this with h1
    omega
  have HN0 := Lib.hid (and_store hq hs nq nb hN hB (grown_row4 w2 w.heap.size (.int .i64 6) (.slice none 0 0) (.int .i64 0) (.slice Q 2 c)) (Nat.le_refl _) ((Array.getElem?_eq_some_iff.1 HHB.out).1) hRl)
  have HN : Hid (ElemsAt QryE (((((w2.setCell ⟨w.heap.size, 0, none⟩ (.int .i64 6)).setCell ⟨w.heap.size, 1, none⟩ (.slice none 0 0)).setCell ⟨w.heap.size, 2, none⟩ (.int .i64 0)).setCell ⟨w.heap.size, 3, none⟩ (.slice Q 2 c)).alloc (.cells #[.int .i64 6, .slice none 0 0, .int .i64 0, .slice Q 2 c] 94)) Q 2 c [leafR A, leafR B] ∧ StrsAt (((((w2.setCell ⟨w.heap.size, 0, none⟩ (.int .i64 6)).setCell ⟨w.heap.size, 1, none⟩ (.slice none 0 0)).setCell ⟨w.heap.size, 2, none⟩ (.int .i64 0)).setCell ⟨w.heap.size, 3, none⟩ (.slice Q 2 c)).alloc (.cells #[.int .i64 6, .slice none 0 0, .int .i64 0, .slice Q 2 c] 94)) B 1 1 [[98]] ∧ NewA Q w.heap.size ∧ NewA B w.heap.size ∧ NextW w R textAB 7 0 7 0 [] (((((w2.setCell ⟨w.heap.size, 0, none⟩ (.int .i64 6)).setCell ⟨w.heap.size, 1, none⟩ (.slice none 0 0)).setCell ⟨w.heap.size, 2, none⟩ (.int .i64 0)).setCell ⟨w.heap.size, 3, none⟩ (.slice Q 2 c)).alloc (.cells #[.int .i64 6, .slice none 0 0, .int .i64 0, .slice Q 2 c] 94))) :=
    ⟨HN0.out.1.keep ((Below.refl _ _).alloc (Nat.le_refl _) _), HN0.out.2.1.keep ((Below.refl _ _).alloc (Nat.le_refl _) _), HN0.out.2.2.1, HN0.out.2.2.2.1, HN0.out.2.2.2.2.after ((Below.refl _ _).alloc (Nat.le_refl _) _)⟩
  clear hbk hN HR HHB hB hq hs nq nb hnq HN0 hG1 hGl1 hrd c0 c1 c3 c4 c5 c6 c7 cf
  go_wp2_with fail
  exact bodyPost_ret (v := .tuple #[andQ Q c, .bool true]) (by simp [results, Tryz.results142, go_sem, d0, d1, d2, d3, hd]) rfl ⟨Q, c, B, rfl, HN.out⟩

set_option maxHeartbeats 1600000 in
set_option maxRecDepth 100000 in
theorem or_any (R : Nat) (A : Option Addr) (w : World) (h : ReaderAt w R textAB 1 3 0 2 (.slice A 1 1)) :
    Calls Tryz.prog 92 #[.pointer (some ⟨R, 0, none⟩)] w (AndPost w R textAB A) := by
  have hRl := h.lt
  have HR := Lib.hid h; clear h
  go_enter Tryz.func92, Tryz.ntmps92
  go_wp2_with fail
  have hb1 := heap_alloc_new (w.alloc (.cells #[.pointer (some ⟨R, 0, none⟩)] 152)) (.cells #[.int .i64 0, .slice none 0 0, .int .i64 0, .slice none 0 0] 94)
  have ez : (w.alloc (.cells #[.pointer (some ⟨R, 0, none⟩)] 152)).heap.size = w.heap.size + 1 := by simp
  rw [ez] at hb1
  have hG : ((w.alloc (.cells #[.pointer (some ⟨R, 0, none⟩)] 152)).alloc (.cells #[.int .i64 0, .slice none 0 0, .int .i64 0, .slice none 0 0] 94)).cell? ⟨w.heap.size, 0, none⟩ = some (.pointer (some ⟨R, 0, none⟩)) := by
    rw [cell_of_row _ w.heap.size 0 _ _ _ ((Below.heap_alloc _ _ w.heap.size (by simp)).trans (heap_alloc_new w _))]; rfl
  have hB : Below w.heap.size w ((w.alloc (.cells #[.pointer (some ⟨R, 0, none⟩)] 152)).alloc (.cells #[.int .i64 0, .slice none 0 0, .int .i64 0, .slice none 0 0] 94)) := ((Below.refl _ _).alloc (Nat.le_refl _) _).alloc (by simp) _
  have HHB := Lib.hid hb1
  clear hb1 ez
  generalize (w.alloc (.cells #[.pointer (some ⟨R, 0, none⟩)] 152)).alloc (.cells #[.int .i64 0, .slice none 0 0, .int .i64 0, .slice none 0 0] 94) = w1 at *
  have hl1 : w.heap.size + 1 < w1.heap.size := (Array.getElem?_eq_some_iff.1 HHB.out).1
  refine (several_or R w.heap.size A w1 (HR.out.keep hB) hG (by omega)).mono ?_
  rintro e w2 ⟨Q, c, B, rfl, hq, hs, nq, nb, hN⟩
  have hbk := hN.blk HHB.out (by omega)
  obtain ⟨d0, d1, d2, d3, e0, e1, e2, e3, hd⟩ := four_cells hbk
  have HN := Lib.hid (and_store hq hs nq nb hN hB (grown_row4 w2 (w.heap.size + 1) (.int .i64 6) (.slice none 0 0) (.int .i64 0) (.slice Q 2 c)) (by omega) hl1 hRl)
  clear hbk hN HR HHB hB hq hs nq nb hG
  go_wp2_with fail
  exact bodyPost_ret (v := .tuple #[andQ Q c, .bool true]) (by simp [results, Tryz.results92, go_sem, d0, d1, d2, d3]) rfl ⟨Q, c, B, rfl, HN.out⟩
end Go.Proofs.YtfijplllfdmcoaaGreatDoor
