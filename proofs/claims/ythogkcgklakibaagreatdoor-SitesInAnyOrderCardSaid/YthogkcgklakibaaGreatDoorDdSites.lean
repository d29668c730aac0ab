
/-
  Three sites' lists, in plain lists.
  Three sites' lists as chasemake makes them.
-/
import Derived.Test.YthogkcgklakibaaGreatDoorDdAddOf
import Derived.Test.YthogkcgklakibaaGreatDoorDdMerge
import Derived.Test.YthogkcgklakibaaGreatDoorDdMake
import Derived.Test.YthogkcgklakibaaGreatDoorDdUndo
import Derived.Test.YthogkcgklakibaaGreatDoorDdDF
import Derived.Test.YthogkcgklakibaaGreatDoorStandD
import Derived.Deep.CutBlock

namespace Go.Proofs.YthogkcgklakibaaGreatDoor
open Go.RowKit

theorem nodup_le : ∀ (l G : List Deed), l.Nodup → (∀ x ∈ l, x ∈ G) → l.length ≤ G.length
  | [], _, _, _ => Nat.zero_le _
  | x :: l, G, hn, hm => by
    obtain ⟨h1, h2⟩ := List.nodup_cons.1 hn
    obtain ⟨s, t, rfl⟩ := List.append_of_mem (hm x (List.mem_cons_self ..))
    have := nodup_le l (s ++ t) h2 fun y hy => by
      have h3 := hm y (List.mem_cons_of_mem _ hy)
      have hne : y ≠ x := fun e => h1 (e ▸ hy)
      simpa [hne] using h3
    simp only [List.length_append, List.length_cons] at this ⊢
    omega
def nameD : Nat → ByteArray
  | 0 => ⟨#[97]⟩
  | 1 => ⟨#[98]⟩
  | _ => ⟨#[99]⟩
theorem nameD_inj {i k : Nat} (hi : i < 3) (hk : k < 3) (h : nameD i = nameD k) : i = k := by
  have hb : byteL (nameD i) = byteL (nameD k) := by rw [h]
  match i, k, hi, hk with
  | 0, 0, _, _ => rfl
  | 1, 1, _, _ => rfl
  | 2, 2, _, _ => rfl
  | 0, 1, _, _ => exact absurd hb (by decide)
  | 0, 2, _, _ => exact absurd hb (by decide)
  | 1, 0, _, _ => exact absurd hb (by decide)
  | 1, 2, _, _ => exact absurd hb (by decide)
  | 2, 0, _, _ => exact absurd hb (by decide)
  | 2, 1, _, _ => exact absurd hb (by decide)
theorem nameD_key (k : Nat) : keyL (byteL (nameD k)) = true := by
  match k with
  | 0 => decide
  | 1 => decide
  | _ + 2 => show keyL (byteL ⟨#[99]⟩) = true; decide
theorem nameD_size (k : Nat) : (nameD k).size = 1 := by
  match k with
  | 0 => rfl
  | 1 => rfl
  | _ + 2 => rfl
/-- What three sites have after r rounds. -/
structure SitesI (r : Nat) (L : Nat → List Deed) : Prop where
  all : ∃ G : List Deed, G.length ≤ r ∧ (∀ x ∈ G, ∀ y ∈ G, x.site = y.site → x.no = y.no → x = y) ∧ (∀ k, k < 3 → ∀ x ∈ G, x.site = nameD k → x ∈ L k) ∧ (∀ k, k < 3 → ∀ x ∈ L k, x ∈ G)
  right : ∀ k, k < 3 → RightD (L k)
theorem SitesI.start : SitesI 0 (fun _ => []) := ⟨⟨[], Nat.le_refl _, fun _ hx => absurd hx (by simp), fun _ _ _ hx => absurd hx (by simp), fun _ _ _ hx => absurd hx (by simp)⟩, fun _ _ => RightD.nil⟩
theorem SitesI.len {r : Nat} {L : Nat → List Deed} (h : SitesI r L) {k : Nat} (hk : k < 3) : (L k).length ≤ r := by
  obtain ⟨G, h1, -, -, h4⟩ := h.all
  exact Nat.le_trans (nodup_le _ G (ord_nodup (h.right k hk).ord) (h4 k hk)) h1
theorem SitesI.same {r : Nat} {L : Nat → List Deed} (h : SitesI r L) {i j : Nat} (hi : i < 3) (hj : j < 3) : SameD (L i) (L j) := fun x hx y hy h1 h2 => by
  obtain ⟨G, -, hu, -, h4⟩ := h.all
  exact hu x (h4 i hi x hx) y (h4 j hj y hy) h1 h2
theorem SitesI.more {r r' : Nat} {L : Nat → List Deed} (h : SitesI r L) (hr : r ≤ r') : SitesI r' L := by
  obtain ⟨G, h1, h2⟩ := h.all
  exact ⟨⟨G, Nat.le_trans h1 hr, h2⟩, h.right⟩
def setL (L : Nat → List Deed) (k : Nat) (U : List Deed) : Nat → List Deed := fun i => if i = k then U else L i
theorem setL_self (L : Nat → List Deed) (k : Nat) (U : List Deed) : setL L k U k = U := by simp [setL]
theorem setL_ne (L : Nat → List Deed) {i k : Nat} (U : List Deed) (h : i ≠ k) : setL L k U i = L i := by simp [setL, h]
theorem SitesI.merge {r : Nat} {L : Nat → List Deed} (h : SitesI r L) {k j : Nat} (hk : k < 3) (hj : j < 3) {U : List Deed} (hU : RightD U) (hm : ∀ d, d ∈ U ↔ d ∈ L k ∨ d ∈ L j) : SitesI r (setL L k U) := by
  obtain ⟨G, h1, h2, h3, h4⟩ := h.all
  refine ⟨⟨G, h1, h2, fun i hi x hx hs => ?_, fun i hi x hx => ?_⟩, fun i hi => ?_⟩
  · by_cases e : i = k
    · subst e; rw [setL_self]; exact (hm x).2 (.inl (h3 i hi x hx hs))
    · rw [setL_ne _ _ e]; exact h3 i hi x hx hs
  · by_cases e : i = k
    · subst e; rw [setL_self] at hx; exact ((hm x).1 hx).elim (h4 i hi x) (h4 j hj x)
    · rw [setL_ne _ _ e] at hx; exact h4 i hi x hx
  · by_cases e : i = k
    · subst e; rw [setL_self]; exact hU
    · rw [setL_ne _ _ e]; exact h.right i hi
theorem SitesI.add {r : Nat} {L : Nat → List Deed} (h : SitesI r L) {k : Nat} (hk : k < 3) {d : Deed} (hd : d.site = nameD k) {U : List Deed} (hU : RightD U) (hm : ∀ x, x ∈ U ↔ x ∈ L k ∨ x = nextD (L k) d) : SitesI (r + 1) (setL L k U) := by
  obtain ⟨G, h1, h2, h3, h4⟩ := h.all
  have hsite : (nextD (L k) d).site = nameD k := hd
  have hnew : ∀ y ∈ G, y.site = (nextD (L k) d).site → y.no = (nextD (L k) d).no → False := fun y hy e1 e2 =>
    nextD_new (h.right k hk) d y (h3 k hk y hy (e1.trans hsite)) e1 e2
  refine ⟨⟨nextD (L k) d :: G, by rw [List.length_cons]; omega, fun x hx y hy e1 e2 => ?_, fun i hi x hx hs => ?_, fun i hi x hx => ?_⟩, fun i hi => ?_⟩
  · rcases List.mem_cons.1 hx with rfl | hx <;> rcases List.mem_cons.1 hy with rfl | hy
    · rfl
    · exact (hnew y hy e1.symm e2.symm).elim
    · exact (hnew x hx e1 e2).elim
    · exact h2 x hx y hy e1 e2
  · rcases List.mem_cons.1 hx with rfl | hx2
    · have e : i = k := nameD_inj hi hk (hs.symm.trans hsite)
      subst e; rw [setL_self]; exact (hm _).2 (.inr rfl)
    · by_cases e : i = k
      · subst e; rw [setL_self]; exact (hm x).2 (.inl (h3 i hi x hx2 hs))
      · rw [setL_ne _ _ e]; exact h3 i hi x hx2 hs
  · by_cases e : i = k
    · subst e; rw [setL_self] at hx
      rcases (hm x).1 hx with hx | rfl
      · exact List.mem_cons_of_mem _ (h4 i hi x hx)
      · exact List.mem_cons_self ..
    · rw [setL_ne _ _ e] at hx; exact List.mem_cons_of_mem _ (h4 i hi x hx)
  · by_cases e : i = k
    · subst e; rw [setL_self]; exact hU
    · rw [setL_ne _ _ e]; exact h.right i hi
/-- Three lists put together, one behind the other. -/
structure JoinI (L : Nat → List Deed) (m : Nat) (U : List Deed) : Prop where
  right : RightD U
  mem : ∀ x, x ∈ U ↔ ∃ k, k < m ∧ x ∈ L k
theorem JoinI.start (L : Nat → List Deed) : JoinI L 0 [] := ⟨RightD.nil, fun x => ⟨fun h => absurd h (by simp), fun ⟨_, h, _⟩ => absurd h (by omega)⟩⟩
theorem JoinI.len {r m : Nat} {L : Nat → List Deed} {U : List Deed} (h : SitesI r L) (hj : JoinI L m U) (hm : m ≤ 3) : U.length ≤ r := by
  obtain ⟨G, h1, -, -, h4⟩ := h.all
  refine Nat.le_trans (nodup_le _ G (ord_nodup hj.right.ord) fun x hx => ?_) h1
  obtain ⟨k, hk, hx⟩ := (hj.mem x).1 hx
  exact h4 k (by omega) x hx
theorem JoinI.same {r m j : Nat} {L : Nat → List Deed} {U : List Deed} (h : SitesI r L) (hj : JoinI L m U) (hm : m ≤ 3) (hk : j < 3) : SameD U (L j) := fun x hx y hy e1 e2 => by
  obtain ⟨k, hk', hx⟩ := (hj.mem x).1 hx
  exact h.same (by omega) hk x hx y hy e1 e2
theorem JoinI.next {m : Nat} {L : Nat → List Deed} {U V : List Deed} (hj : JoinI L m U) (hV : RightD V) (hm : ∀ d, d ∈ V ↔ d ∈ U ∨ d ∈ L m) : JoinI L (m + 1) V := ⟨hV, fun x => by
  rw [hm, hj.mem]
  constructor
  · rintro (⟨k, hk, h⟩ | h)
    · exact ⟨k, by omega, h⟩
    · exact ⟨m, by omega, h⟩
  · rintro ⟨k, hk, h⟩
    by_cases e : k = m
    · subst e; exact .inr h
    · exact .inl ⟨k, by omega, h⟩⟩
end Go.Proofs.YthogkcgklakibaaGreatDoor

namespace Go.Proofs.YthogkcgklakibaaGreatDoor
open Go.RowKit
attribute [local go_sem ↓] Go.wp_at_zero Go.wp_at_succ

/-- A row of deeds lies in no small block. -/
theorem deeds_ne {w : World} {A : Option Addr} {n c b : Nat} {l : List Deed} {cs : Array Value} {t : TypeId} {fr : Nat × Nat} (h : DeedsAt w A n c l) (hb : w.heap[b]? = some (.cells cs t fr)) (hs : cs.size ≤ 11) (h0 : 0 < n) : ∀ g off, A = some ⟨g, off, none⟩ → g ≠ b := by
  intro g off e hg
  obtain ⟨g', off', rfl, -, hc⟩ := h.2.2.2 h0
  simp only [Option.some.injEq, Addr.mk.injEq] at e
  obtain ⟨rfl, rfl, -⟩ := e
  subst hg
  have hl : 0 < l.length := by have := h.1; omega
  obtain ⟨x, hx⟩ : ∃ x, l[0]? = some x := ⟨_, List.getElem?_eq_getElem hl⟩
  have h1 := hc 0 x 11 (.string x.sum) hx rfl
  rw [cell_of_row w g' _ _ _ _ hb, Array.getElem?_eq_none (by omega)] at h1
  cases h1
theorem ElemsAt.keepNe {w w' : World} {A : Option Addr} {n c b : Nat} {l : List Deed} (h : DeedsAt w A n c l) (hne : 0 < n → ∀ g off, A = some ⟨g, off, none⟩ → g ≠ b) (hsz : w.heap.size ≤ w'.heap.size) (hk : ∀ i, i < w.heap.size → i ≠ b → w'.heap[i]? = w.heap[i]?) : DeedsAt w' A n c l := by
  refine ⟨h.1, h.2.1, h.2.2.1, fun h0 => ?_⟩
  obtain ⟨g, off, rfl, hg, hc⟩ := h.2.2.2 h0
  exact ⟨g, off, rfl, Nat.lt_of_lt_of_le hg hsz, fun k x i v hx hv => (World.cell?_of_block (hk g hg (hne h0 g off rfl))).trans (hc k x i v hx hv)⟩
theorem deeds_stream {w w' : World} {A As : Option Addr} {n c g m d K : Nat} {l : List Deed} (h : DeedsAt w A n c l) (hs : StreamAt w g As m d K) (hg : w.grownBy w' (some g)) : DeedsAt w' A n c l := by
  obtain ⟨k, -, hb⟩ := hs.blk
  exact ElemsAt.keepNe (b := g) h (fun h0 => deeds_ne h hb (by show 2 ≤ 11; omega) h0) hg.size (fun i hi hne => hg.block i hi (fun e => hne (Option.some.inj e)))
abbrev HdD : Type := Option Addr × Nat × Nat
def hdV (h : HdD) : Value := .slice h.1 h.2.1 h.2.2
/-- Block B holds three rows of deeds. -/
structure OutAt (w : World) (B : Nat) (hd : Nat → HdD) (L : Nat → List Deed) : Prop where
  blk : w.heap[B]? = some (.cells #[hdV (hd 0), hdV (hd 1), hdV (hd 2)] 26 (0, 0))
  row : ∀ k, k < 3 → DeedsAt w (hd k).1 (hd k).2.1 (hd k).2.2 (L k)
theorem OutAt.lt {w : World} {B : Nat} {hd : Nat → HdD} {L : Nat → List Deed} (h : OutAt w B hd L) : B < w.heap.size := (Array.getElem?_eq_some_iff.1 h.blk).1
theorem OutAt.cell {w : World} {B : Nat} {hd : Nat → HdD} {L : Nat → List Deed} (h : OutAt w B hd L) {k : Nat} (hk : k < 3) : w.cell? ⟨B, k, none⟩ = some (hdV (hd k)) := by
  rw [cell_of_row w B k _ _ _ h.blk]
  match k, hk with
  | 0, _ => rfl
  | 1, _ => rfl
  | 2, _ => rfl
theorem OutAt.froz {w : World} {B : Nat} {hd : Nat → HdD} {L : Nat → List Deed} (h : OutAt w B hd L) (k : Nat) : w.frozen? ⟨B, k, none⟩ = false := by simp [World.frozen?, h.blk]
theorem OutAt.keep {w w' : World} {B : Nat} {hd : Nat → HdD} {L : Nat → List Deed} (h : OutAt w B hd L) (hb : Below w.heap.size w w') : OutAt w' B hd L := ⟨(hb.block B h.lt).trans h.blk, fun k hk => ElemsAt.keep (h.row k hk) hb⟩
theorem OutAt.drew {w : World} {B : Nat} {hd : Nat → HdD} {L : Nat → List Deed} (h : OutAt w B hd L) : OutAt w.drew B hd L := ⟨h.blk, fun k hk => h.row k hk⟩
theorem OutAt.stream {w w' : World} {B g m d K : Nat} {As : Option Addr} {hd : Nat → HdD} {L : Nat → List Deed} (h : OutAt w B hd L) (hs : StreamAt w g As m d K) (hg : w.grownBy w' (some g)) (hne : B ≠ g) : OutAt w' B hd L :=
  ⟨(hg.block B h.lt (fun e => hne (Option.some.inj e))).trans h.blk, fun k hk => deeds_stream (h.row k hk) hs hg⟩
def setH (hd : Nat → HdD) (k : Nat) (u : HdD) : Nat → HdD := fun i => if i = k then u else hd i
theorem OutAt.put {w : World} {B : Nat} {hd : Nat → HdD} {L : Nat → List Deed} (h : OutAt w B hd L) {k : Nat} (hk : k < 3) {A : Option Addr} {n c : Nat} {U : List Deed} (hU : DeedsAt w A n c U) : OutAt (w.setCell ⟨B, k, none⟩ (.slice A n c)) B (setH hd k (A, n, c)) (setL L k U) := by
  have hb := cells_setS h.blk k (.slice A n c)
  have hr : ∀ (A' : Option Addr) (n' c' : Nat) (l : List Deed), DeedsAt w A' n' c' l → DeedsAt (w.setCell ⟨B, k, none⟩ (.slice A n c)) A' n' c' l := fun A' n' c' l hl =>
    ElemsAt.keepNe (b := B) hl (fun h0 => deeds_ne hl h.blk (by show 3 ≤ 11; omega) h0) (by simp [World.setCell]) (fun i _ hne => Below.heap_setCell w ⟨B, k, none⟩ _ i hne)
  refine ⟨?_, fun i hi => ?_⟩
  · rw [hb]
    match k, hk with
    | 0, _ => rfl
    | 1, _ => rfl
    | 2, _ => rfl
  · by_cases e : i = k
    · subst e
      rw [setL_self]
      simp only [setH, if_true]
      exact hr _ _ _ _ hU
    · rw [setL_ne _ _ e]
      simp only [setH, e, if_false]
      exact hr _ _ _ _ (h.row i hi)
/-- The sites' names. -/
abbrev NmAt (w : World) (Nm : Nat) : Prop := w.heap[Nm]? = some (.cells #[.string ⟨#[97]⟩, .string ⟨#[98]⟩, .string ⟨#[99]⟩] 9 (0, 0))
theorem NmAt.cell {w : World} {Nm : Nat} (h : NmAt w Nm) {k : Nat} (hk : k < 3) : w.cell? ⟨Nm, k, none⟩ = some (.string (nameD k)) := by
  rw [cell_of_row w Nm k _ _ _ h]
  match k, hk with
  | 0, _ => rfl
  | 1, _ => rfl
  | 2, _ => rfl
theorem NmAt.keep {w w' : World} {Nm : Nat} (h : NmAt w Nm) (hb : Below w.heap.size w w') : NmAt w' Nm := (hb.block Nm (Array.getElem?_eq_some_iff.1 h).1).trans h
theorem NmAt.grown {w w' : World} {Nm g : Nat} (h : NmAt w Nm) (hg : w.grownBy w' (some g)) (hne : Nm ≠ g) : NmAt w' Nm := (hg.block Nm (Array.getElem?_eq_some_iff.1 h).1 (fun e => hne (Option.some.inj e))).trans h
theorem NmAt.set {w : World} {Nm B k : Nat} (h : NmAt w Nm) (hne : Nm ≠ B) (v : Value) : NmAt (w.setCell ⟨B, k, none⟩ v) Nm := (Below.heap_setCell w ⟨B, k, none⟩ v Nm hne).trans h
theorem make_three (w : World) : (Instr.makeSlice 45 (.int .i64 3) (.int .i64 3)).run Tryz.prog w = .ok (.slice (some ⟨w.heap.size, 0, none⟩) 3 3) (w.alloc (.cells #[.slice none 0 0, .slice none 0 0, .slice none 0 0] 26)) := by kernel_rfl
/-- All tables. -/
structure TabsAll (w : World) : Prop where
  tabs : Tabs w
  max : MaxAt w
  pow : PowAt w
  stand : StandAt w
theorem TabsAll.below {w w' : World} (h : TabsAll w) (hb : Below w.heap.size w w') : TabsAll w' := ⟨h.tabs.below hb, MaxAt.below h.max hb, h.pow.below hb, h.stand.below hb⟩
/-- What AddOf and UndoOf give. -/
def GivePost (w : World) (l : List Deed) (site : ByteArray) (e : Ending) (w' : World) : Prop :=
  ∃ (A : Option Addr) (n c : Nat) (f : Int), e = .returned (.tuple #[.slice A n c, .int .i64 f]) ∧ Below w.heap.size w w' ∧ (f = 0 → ∃ d U, d.site = site ∧ DeedsAt w' A n c U ∧ RightD U ∧ (∀ x, x ∈ U ↔ x ∈ l ∨ x = nextD l d))
theorem give_add {w : World} {l : List Deed} {d : Deed} {e : Ending} {w' : World} (h : AddOfPost w l d e w') : GivePost w l d.site e w' := by
  rcases h with ⟨⟨f, hf, rfl, hb⟩, -⟩ | ⟨⟨A, n, c, U, rfl, hU, hR, hm, -, hb⟩, -⟩
  · exact ⟨none, 0, 0, f, rfl, hb, fun e => absurd e hf⟩
  · exact ⟨A, n, c, 0, rfl, hb, fun _ => ⟨d, U, rfl, hU, hR, hm⟩⟩
theorem give_undo {w : World} {l : List Deed} {site : ByteArray} {at_ : Int} {os : ByteArray} {ono : Int} {e : Ending} {w' : World} (h : UndoPost w l site at_ os ono e w') : GivePost w l site e w' := by
  rcases h with ⟨⟨f, hf, rfl, hb⟩, -⟩ | ⟨d, -, hs, A, n, c, U, rfl, hU, hR, hm, -, hb⟩
  · exact ⟨none, 0, 0, f, rfl, hb, fun e => absurd e hf⟩
  · exact ⟨A, n, c, 0, rfl, hb, fun _ => ⟨d, U, hs, hU, hR, hm⟩⟩
def SitesPost (w : World) (g : Nat) (A : Option Addr) (n c K : Nat) (e : Ending) (w' : World) : Prop :=
  ∃ B hd L, e = .returned (.slice (some ⟨B, 0, none⟩) 3 3) ∧ OutAt w' B hd L ∧ SitesI 17 L ∧ g < B ∧ StreamAt w' g A n c (K + 300) ∧ w.grownBy w' (some g)
set_option maxHeartbeats 12800000 in
set_option maxRecDepth 100000 in
theorem sites_any (g : Nat) (A : Option Addr) (n c K : Nat) (w : World) (hs : StreamAt w g A n c K) (hK : K ≤ 10000) (hT : ∀ wx, w.grownBy wx (some g) → TabsAll wx) :
    Calls Tryz.prog 16 #[.pointer (some ⟨g, 0, none⟩)] w (SitesPost w g A n c K) := by
  have HTA := Lib.hid hT
  have hgl := hs.lt
  have h3 := make_three (w.alloc (.cells #[.string ⟨#[97]⟩, .string ⟨#[98]⟩, .string ⟨#[99]⟩] 9))
  have hz1 : (w.alloc (.cells #[.string ⟨#[97]⟩, .string ⟨#[98]⟩, .string ⟨#[99]⟩] 9)).heap.size = w.heap.size + 1 := by simp
  have HN0 : Hid (NmAt ((w.alloc (.cells #[.string ⟨#[97]⟩, .string ⟨#[98]⟩, .string ⟨#[99]⟩] 9)).alloc (.cells #[.slice none 0 0, .slice none 0 0, .slice none 0 0] 26)) w.heap.size) := NmAt.keep (heap_alloc_new w _) ((Below.refl _ _).alloc (Nat.le_refl _) _)
  have HO0 : Hid (OutAt ((w.alloc (.cells #[.string ⟨#[97]⟩, .string ⟨#[98]⟩, .string ⟨#[99]⟩] 9)).alloc (.cells #[.slice none 0 0, .slice none 0 0, .slice none 0 0] 26)) (w.heap.size + 1) (fun _ => (none, 0, 0)) (fun _ => [])) := by
    refine ⟨?_, fun k _ => ⟨rfl, Nat.le_refl _, fun _ => rfl, fun h => absurd h (by decide)⟩⟩
    rw [← hz1]
    exact heap_alloc_new _ _
  have HS0 : Hid (StreamAt ((w.alloc (.cells #[.string ⟨#[97]⟩, .string ⟨#[98]⟩, .string ⟨#[99]⟩] 9)).alloc (.cells #[.slice none 0 0, .slice none 0 0, .slice none 0 0] 26)) g A n c K) := (hs.alloc _).alloc _
  have HG0 : Hid (w.grownBy ((w.alloc (.cells #[.string ⟨#[97]⟩, .string ⟨#[98]⟩, .string ⟨#[99]⟩] 9)).alloc (.cells #[.slice none 0 0, .slice none 0 0, .slice none 0 0] 26)) (some g)) := grown_alloc (grown_alloc (World.grownBy.refl _ _) _) _
  clear hs hT
  go_enter Tryz.func16, Tryz.ntmps16
  go_upto_region 3 with (fail)
  generalize (w.alloc (.cells #[.string ⟨#[97]⟩, .string ⟨#[98]⟩, .string ⟨#[99]⟩] 9)).alloc (.cells #[.slice none 0 0, .slice none 0 0, .slice none 0 0] 26) = w1 at *
  try rw [hz1]
  obtain ⟨Nm, hNm⟩ : ∃ Nm, Nm = w.heap.size := ⟨_, rfl⟩
  obtain ⟨B, hB⟩ : ∃ B, B = w.heap.size + 1 := ⟨_, rfl⟩
  rw [← hB] at HO0
  try rw [← hB]
  rw [← hNm] at HN0
  try rw [← hNm]
  have hBg : B ≠ g := by omega
  have hNg : Nm ≠ g := by omega
  have hNB : Nm ≠ B := by omega
  have HGB : Hid (g < B) := by show _ < _; omega
  have HWB : Hid (w.heap.size ≤ B) := by show _ ≤ _; omega
  clear h3 hz1 hNm hB
  go_wp2_with fail
  refine (next_any g A n c _ 18 w1 HS0.out (by omega) (by omega)).mono ?_
  rintro e w2 ⟨r0, rfl, hr00, hr01, hs2, hg2⟩
  obtain ⟨r, rfl⟩ := Int.eq_ofNat_of_zero_le hr00
  have hr : r < 18 := by have := hr01 (by omega); omega
  have HS2 := Lib.hid hs2
  have HO2 := Lib.hid (HO0.out.stream HS0.out hg2 hBg)
  have HN2 := Lib.hid (NmAt.grown HN0.out hg2 hNg)
  have HG2 := Lib.hid (grown_trans HG0.out hg2)
  clear hr00 hr01 hs2 hg2 HS0 HO0 HN0 HG0
  go_wp2_with fail
  go_loopg [22] r (fun gk v wr => ∃ (k : Nat) (hd : Nat → HdD) (L : Nat → List Deed), Hid (k + gk = r) ∧ v = .int .i64 (k : Int) ∧ Hid (OutAt wr B hd L) ∧ Hid (NmAt wr Nm) ∧ Hid (SitesI k L) ∧ Hid (StreamAt wr g A n c (K + 1 + 14 * k)) ∧ Hid (w.grownBy wr (some g)))
  case atStart => exact ⟨0, _, _, show 0 + r = r by omega, rfl, HO2.out, HN2.out, SitesI.start, HS2.out, HG2.out⟩
  case round =>
    obtain ⟨k, hd, L, HK, rfl, HO, HN, HI, HS, HG⟩ := hrel
    clear HO2 HN2 HS2 HG2
    have hkn : k ≤ r := by have := HK.out; omega
    by_cases hlt : k < r
    · have HGK := Lib.hid (show k + 1 + (gk - 1) = r ∧ 0 < gk by have := HK.out; omega)
      have hk18 : k < 17 := by omega
      clear HK
      go_wp2_with fail
      refine (next_any g A n c _ 3 wr HS.out (by omega) (by omega)).mono ?_
      rintro e w3 ⟨s0, rfl, hs00, hs01, hs3, hg3⟩
      obtain ⟨s, rfl⟩ := Int.eq_ofNat_of_zero_le hs00
      have hs3l := hs01 (by omega)
      have hsl : s < 3 := by omega
      have HS3 := Lib.hid hs3
      have HO3 := Lib.hid (HO.out.stream HS.out hg3 hBg)
      have HN3 := Lib.hid (NmAt.grown HN.out hg3 hNg)
      have HG3 := Lib.hid (grown_trans HG.out hg3)
      clear hs00 hs01 hs3 hg3 HS HO HN HG
      go_wp2_with fail
      refine (next_any g A n c _ 6 w3 HS3.out (by omega) (by omega)).mono ?_
      rintro e w4 ⟨q0, rfl, hq00, hq01, hs4, hg4⟩
      obtain ⟨q, rfl⟩ := Int.eq_ofNat_of_zero_le hq00
      have hql : q < 6 := by have := hq01 (by omega); omega
      have HS4 := Lib.hid hs4
      have HO4 := Lib.hid (HO3.out.stream HS3.out hg4 hBg)
      have HN4 := Lib.hid (NmAt.grown HN3.out hg4 hNg)
      have HG4 := Lib.hid (grown_trans HG3.out hg4)
      clear hq00 hq01 hs4 hg4 HS3 HO3 HN3 HG3
      obtain ⟨hk', hhk⟩ : ∃ u : HdD, u = hd s := ⟨_, rfl⟩
      obtain ⟨Ak, nk, ck⟩ := hk'
      have HRK : Hid (∀ wx, OutAt wx B hd L → wx.cell? ⟨B, s, none⟩ = some (.slice Ak nk ck) ∧ DeedsAt wx Ak nk ck (L s)) := fun wx hx => by
        have h1 := hx.cell hsl
        have h2 := hx.row s hsl
        rw [← hhk] at h1 h2
        exact ⟨h1, h2⟩
      clear hhk
      have HNK : Hid (nk ≤ 17) := by
        show _ ≤ _
        have h1 := (HRK.out w4 HO4.out).2.1
        have h2 := HI.out.len hsl
        omega
      have hnk0 : (0 : Int) ≤ (nk : Int) := by omega
      have HTB : Hid (∀ wx wy, w.grownBy wx (some g) → Below wx.heap.size wx wy → TabsAll wy) := fun wx wy hx hy => (HTA.out wx hx).below hy
      have hbk := (HRK.out w4 HO4.out).1
      have hqc : q = 0 ∨ q = 1 ∨ q = 2 ∨ q = 3 ∨ q = 4 ∨ q = 5 := by omega
      clear hql
      rcases hqc with rfl | rfl | rfl | rfl | rfl | rfl
      · go_upto_region 12 with (fail)
        have HSd : Hid (StreamAt w4.drew g A n c (K + 1 + 14 * k + 1 + 1)) := HS4.out.keep (fun _ _ => rfl)
        have HOd := Lib.hid HO4.out.drew
        have HNd : Hid (NmAt w4.drew Nm) := HN4.out
        have HGd := Lib.hid (grown_drewN HG4.out 1)
        clear hbk
        refine wp_region_held_drew (S := fun w' => OutAt w' B hd L) (by kernel_rfl) HOd.out (fun hHeld => ?_)
        refine wpAnyH_take (i := 0) (oi := ⟨some 64, _, _, _, _, _⟩) (v := ?_) rfl (by kernel_rfl) (by kernel_rfl) (by kernel_rfl) (fun _ _ _ h => h) (Or.inl ⟨by rfl, ?_⟩) hHeld ?_
        rotate_left
        · (intro w hSw; (try dsimp only at hSw); go_simp; (try (with_reducible rfl)))
        (try simp only [Act.put, List.setIfInBounds_toArray, List.set_cons_zero, List.set_cons_succ])
        refine wpAnyH_take (i := 1) (oi := ⟨some 65, _, _, _, _, _⟩) (v := ?_) rfl (by kernel_rfl) (by kernel_rfl) (by kernel_rfl) (fun _ _ _ h => h) (Or.inl ⟨by rfl, ?_⟩) hHeld ?_
        rotate_left
        · (intro w hSw; (try dsimp only at hSw); go_simp; (try (with_reducible rfl)))
        (try simp only [Act.put, List.setIfInBounds_toArray, List.set_cons_zero, List.set_cons_succ])
        refine wpAnyH_take (i := 2) (oi := ⟨some 66, _, _, _, _, _⟩) (v := ?_) rfl (by kernel_rfl) (by kernel_rfl) (by kernel_rfl) (fun _ _ _ h => h) (Or.inl ⟨by rfl, ?_⟩) hHeld ?_
        rotate_left
        · (intro w hSw; (try dsimp only at hSw); go_simp; (try (with_reducible rfl)))
        (try simp only [Act.put, List.setIfInBounds_toArray, List.set_cons_zero, List.set_cons_succ])
        refine wpAnyH_take (i := 3) (oi := ⟨some 67, _, _, _, _, _⟩) (v := ?_) rfl (by kernel_rfl) (by kernel_rfl) (by kernel_rfl) (fun _ _ _ h => h) (Or.inl ⟨by rfl, ?_⟩) hHeld ?_
        rotate_left
        · (intro w hSw; (try dsimp only at hSw); have hc0 := (HRK.out _ hSw).1; go_simp; (try (with_reducible rfl)))
        (try simp only [Act.put, List.setIfInBounds_toArray, List.set_cons_zero, List.set_cons_succ])
        refine wpAnyH_take (i := 4) (oi := ⟨some 68, _, _, _, _, _⟩) (v := ?_) rfl (by kernel_rfl) (by kernel_rfl) (by kernel_rfl) (fun _ _ _ h => h) (Or.inl ⟨by rfl, ?_⟩) hHeld ?_
        rotate_left
        · (intro w hSw; (try dsimp only at hSw); go_simp; (try (with_reducible rfl)))
        (try simp only [Act.put, List.setIfInBounds_toArray, List.set_cons_zero, List.set_cons_succ])
        refine wpAnyH_take (i := 5) (oi := ⟨some 69, _, _, _, _, _⟩) (v := ?_) rfl (by kernel_rfl) (by kernel_rfl) (by kernel_rfl) (fun _ _ _ h => h) (Or.inl ⟨by rfl, ?_⟩) hHeld ?_
        rotate_left
        · (intro w hSw; (try dsimp only at hSw); go_simp; (try (with_reducible rfl)))
        (try simp only [Act.put, List.setIfInBounds_toArray, List.set_cons_zero, List.set_cons_succ])
        refine wpAnyH_ready (rs := [6]) (by kernel_rfl) (by simp) ?_
        refine AllReadyH.cons (o := ⟨some 70, _, _, _, _, _⟩) rfl (fun K hK => ?_) AllReadyH.nil
        rw [if_pos (by rfl)]
        go_wp2_with fail
        refine Calls.mono (next_any g A n c _ 3 _ HSd.out (by omega) (by omega)) ?_
        rintro e w5 ⟨t0, rfl, ht00, ht01, hs5, hg5⟩
        obtain ⟨t, rfl⟩ := Int.eq_ofNat_of_zero_le ht00
        have ht3 := ht01 (by omega)
        have htl : t < 3 := by omega
        have HS5 := Lib.hid hs5
        have HO5 := Lib.hid (HOd.out.stream HSd.out hg5 hBg)
        have HN5 := Lib.hid (NmAt.grown HNd.out hg5 hNg)
        have HG5 := Lib.hid (grown_trans HGd.out hg5)
        obtain ⟨ht', hht⟩ : ∃ u : HdD, u = hd t := ⟨_, rfl⟩
        obtain ⟨Ar, nr, cr⟩ := ht'
        have HRR : Hid (∀ wx, OutAt wx B hd L → wx.cell? ⟨B, t, none⟩ = some (.slice Ar nr cr) ∧ DeedsAt wx Ar nr cr (L t)) := fun wx hx => by
                  have h1 := hx.cell htl
                  have h2 := hx.row t htl
                  rw [← hht] at h1 h2
                  exact ⟨h1, h2⟩
        have hnr : nr ≤ 17 := by have h1 := (HRR.out w5 HO5.out).2.1; have h2 := HI.out.len htl; omega
        have HDF : Hid (∀ wx, Below w5.heap.size w5 wx → ∀ (A : Option Addr) (n c : Nat) (U : List Deed), DeedsAt wx A n c U → RightD U → FaultOk wx A n c) := fun wx hx A n c U h1 h2 => deedsFault_ok A n c U wx h1 h2 (HTB.out _ _ HG5.out hx).tabs (HTB.out _ _ HG5.out hx).max (HTB.out _ _ HG5.out hx).pow
        clear hht ht00 ht01 hs5 hg5
        refine hK.out _ _ HO5.out (fun hHeld => ?_)
        clear hK K
        (try simp only [Act.put, List.setIfInBounds_toArray, List.set_cons_zero, List.set_cons_succ])
        refine wpAnyH_take (i := 7) (oi := ⟨some 71, _, _, _, _, _⟩) (v := ?_) rfl (by kernel_rfl) (by kernel_rfl) (by kernel_rfl) (fun _ _ _ h => h) (Or.inl ⟨by rfl, ?_⟩) hHeld ?_
        rotate_left
        · (intro w hSw; (try dsimp only at hSw); go_simp; (try (with_reducible rfl)))
        (try simp only [Act.put, List.setIfInBounds_toArray, List.set_cons_zero, List.set_cons_succ])
        refine wpAnyH_ready (rs := [8]) (by kernel_rfl) (by simp) ?_
        refine AllReadyH.cons (o := ⟨some 72, _, _, _, _, _⟩) rfl (fun K hK => ?_) AllReadyH.nil
        rw [if_pos (by rfl)]
        have hc1 := (HRR.out _ HO5.out).1
        go_simp
        refine hK.out _ _ hHeld (fun hHeld => ?_)
        clear hK K
        (try simp only [Act.put, List.setIfInBounds_toArray, List.set_cons_zero, List.set_cons_succ])
        refine wpAnyH_ready (rs := [9]) (by kernel_rfl) (by simp) ?_
        refine AllReadyH.cons (o := ⟨some 73, _, _, _, _, _⟩) rfl (fun K hK => ?_) AllReadyH.nil
        rw [if_pos (by rfl)]
        go_wp2_with fail
        refine Calls.mono (mergeDeeds_of Ak nk ck (L s) Ar nr cr (L t) w5 (HRK.out _ HO5.out).2 (HRR.out _ HO5.out).2 (HI.out.right s hsl) (HI.out.right t htl) (HI.out.same hsl htl) (by have := HNK.out; omega) HDF.out) ?_
        rintro e w6 ⟨Au, nu, cu, U, rfl, hAU, hRU, hMU, hb6⟩
        have HAU := Lib.hid hAU
        have HI6 := Lib.hid (SitesI.merge HI.out hsl htl hRU hMU)
        have HO6 := Lib.hid (HO5.out.keep hb6)
        have HN6 := Lib.hid (NmAt.keep HN5.out hb6)
        have HS6 := Lib.hid (HS5.out.below hb6)
        have HG6 := Lib.hid (grown_below HG5.out hb6)
        clear hAU hRU hMU hb6
        refine hK.out _ _ HO6.out (fun hHeld => ?_)
        clear hK K
        (try simp only [Act.put, List.setIfInBounds_toArray, List.set_cons_zero, List.set_cons_succ])
        refine wpAnyH_take (i := 10) (oi := ⟨some 63, _, _, _, _, _⟩) (v := ?_) rfl (by kernel_rfl) (by kernel_rfl) (by kernel_rfl) (fun _ _ _ h => h) (Or.inl ⟨by rfl, ?_⟩) hHeld ?_
        rotate_left
        · (intro w hSw; (try dsimp only at hSw); go_simp; (try (with_reducible rfl)))
        (try simp only [Act.put, List.setIfInBounds_toArray, List.set_cons_zero, List.set_cons_succ])
        refine wpAnyH_take (i := 11) (oi := ⟨some 74, _, _, _, _, _⟩) (v := ?_) rfl (by kernel_rfl) (by kernel_rfl) (by kernel_rfl) (fun _ _ _ h => h) (Or.inl ⟨by rfl, ?_⟩) hHeld ?_
        rotate_left
        · (intro w hSw; (try dsimp only at hSw); go_simp; (try (with_reducible rfl)))
        (try simp only [Act.put, List.setIfInBounds_toArray, List.set_cons_zero, List.set_cons_succ])
        refine wpAnyH_take (i := 12) (oi := ⟨some 75, _, _, _, _, _⟩) (v := ?_) rfl (by kernel_rfl) (by kernel_rfl) (by kernel_rfl) (fun _ _ _ h => h) (Or.inl ⟨by rfl, ?_⟩) hHeld ?_
        rotate_left
        · (intro w hSw; (try dsimp only at hSw); go_simp; (try (with_reducible rfl)))
        (try simp only [Act.put, List.setIfInBounds_toArray, List.set_cons_zero, List.set_cons_succ])
        refine wpAnyH_take (i := 13) (oi := ⟨some 6, _, _, _, _, _⟩) (v := ?_) rfl (by kernel_rfl) (by kernel_rfl) (by kernel_rfl) (fun _ _ _ h => h) (Or.inl ⟨by rfl, ?_⟩) hHeld ?_
        rotate_left
        · (intro w hSw; (try dsimp only at hSw); go_simp; (try (with_reducible rfl)))
        (try simp only [Act.put, List.setIfInBounds_toArray, List.set_cons_zero, List.set_cons_succ])
        refine wpAnyH_take (i := 14) (oi := ⟨some 7, _, _, _, _, _⟩) (v := ?_) rfl (by kernel_rfl) (by kernel_rfl) (by kernel_rfl) (fun _ _ _ h => h) (Or.inl ⟨by rfl, ?_⟩) hHeld ?_
        rotate_left
        · (intro w hSw; (try dsimp only at hSw); go_simp; (try (with_reducible rfl)))
        (try simp only [Act.put, List.setIfInBounds_toArray, List.set_cons_zero, List.set_cons_succ])
        refine wpAnyH_done (by kernel_rfl) ?_ _
        have hfz := HO6.out.froz s
        have hcz := (HRK.out _ HO6.out).1
        have HOZ := Lib.hid (HO6.out.put hsl HAU.out)
        have HNZ := Lib.hid (NmAt.set (k := s) HN6.out hNB (.slice Au nu cu))
        have HSZ : Hid (StreamAt (w6.setCell ⟨B, s, none⟩ (.slice Au nu cu)) g A n c (K + 1 + 14 * (k + 1))) := (HS6.out.setP HGB.out _).more (by omega)
        have HGZ : Hid (w.grownBy (w6.setCell ⟨B, s, none⟩ (.slice Au nu cu)) (some g)) := grown_setNew HG6.out HWB.out _
        clear HO6 HN6 HS6 HG6 HAU
        go_wp2_with fail
        go_roundg (gk - 1)
        case measure => exact Nat.sub_lt HGK.out.2 Nat.one_pos
        case rel => exact ⟨k + 1, _, _, HGK.out.1, by go_num, HOZ.out, HNZ.out, SitesI.more HI6.out (Nat.le_succ k), HSZ.out, HGZ.out⟩
      · by_cases hz : nk = 0
        · subst hz
          clear HTB
          have HSZ := Lib.hid (StreamAt.more (K' := K + 1 + 14 * (k + 1)) HS4.out (by omega))
          have HIZ := Lib.hid (HI.out.more (Nat.le_succ k))
          go_wp2_with fail
          go_roundg (gk - 1)
          case measure => exact Nat.sub_lt HGK.out.2 Nat.one_pos
          case rel => exact ⟨k + 1, hd, L, HGK.out.1, by go_num, HO4.out, HN4.out, HIZ.out, HSZ.out, HG4.out⟩
        · have hnz : ((nk : Int) == 0) = false := by simp; omega
          have hnz' : ¬ (nk : Int) = 0 := by omega
          have hnp : (0 : Int) < (nk : Int) := by omega
          go_upto_region 18 with (fail)
          obtain ⟨w4', rfl⟩ : ∃ x, x = w4 := ⟨w4, rfl⟩
          clear hbk
          have HSd : Hid (StreamAt w4'.drew g A n c (K + 1 + 14 * k + 1 + 1)) := HS4.out.keep (fun _ _ => rfl)
          have HOd := Lib.hid HO4.out.drew
          have HNd : Hid (NmAt w4'.drew Nm) := HN4.out
          have HGd := Lib.hid (grown_drewN HG4.out 1)
          clear HS4 HO4 HN4 HG4
          have HS4 := HSd
          have HO4 := HOd
          have HN4 := HNd
          have HG4 := HGd
          clear HSd HOd HNd HGd
          refine wp_region_held_drew (S := fun w' => OutAt w' B hd L ∧ NmAt w' Nm) (by kernel_rfl) ⟨HO4.out, HN4.out⟩ (fun hHeld => ?_)
          refine wpAnyH_take (i := 0) (oi := ⟨some 92, _, _, _, _, _⟩) (v := ?_) rfl (by kernel_rfl) (by kernel_rfl) (by kernel_rfl) (fun _ _ _ h => h) (Or.inl ⟨by rfl, ?_⟩) hHeld ?_
          rotate_left
          · (intro w hSw; (try dsimp only at hSw); go_simp; (try (with_reducible rfl)))
          (try simp only [Act.put, List.setIfInBounds_toArray, List.set_cons_zero, List.set_cons_succ])
          refine wpAnyH_take (i := 1) (oi := ⟨some 93, _, _, _, _, _⟩) (v := ?_) rfl (by kernel_rfl) (by kernel_rfl) (by kernel_rfl) (fun _ _ _ h => h) (Or.inl ⟨by rfl, ?_⟩) hHeld ?_
          rotate_left
          · (intro w hSw; (try dsimp only at hSw); go_simp; (try (with_reducible rfl)))
          (try simp only [Act.put, List.setIfInBounds_toArray, List.set_cons_zero, List.set_cons_succ])
          refine wpAnyH_take (i := 2) (oi := ⟨some 94, _, _, _, _, _⟩) (v := ?_) rfl (by kernel_rfl) (by kernel_rfl) (by kernel_rfl) (fun _ _ _ h => h) (Or.inl ⟨by rfl, ?_⟩) hHeld ?_
          rotate_left
          · (intro w hSw; (try dsimp only at hSw); go_simp; (try (with_reducible rfl)))
          (try simp only [Act.put, List.setIfInBounds_toArray, List.set_cons_zero, List.set_cons_succ])
          refine wpAnyH_take (i := 3) (oi := ⟨some 95, _, _, _, _, _⟩) (v := ?_) rfl (by kernel_rfl) (by kernel_rfl) (by kernel_rfl) (fun _ _ _ h => h) (Or.inl ⟨by rfl, ?_⟩) hHeld ?_
          rotate_left
          · (intro w hSw; (try dsimp only at hSw); have hc0 := (HRK.out _ hSw.1).1; have hn0 := NmAt.cell hSw.2 hsl; go_simp; (try (with_reducible rfl)))
          (try simp only [Act.put, List.setIfInBounds_toArray, List.set_cons_zero, List.set_cons_succ])
          refine wpAnyH_take (i := 4) (oi := ⟨some 96, _, _, _, _, _⟩) (v := ?_) rfl (by kernel_rfl) (by kernel_rfl) (by kernel_rfl) (fun _ _ _ h => h) (Or.inl ⟨by rfl, ?_⟩) hHeld ?_
          rotate_left
          · (intro w hSw; (try dsimp only at hSw); go_simp; (try (with_reducible rfl)))
          (try simp only [Act.put, List.setIfInBounds_toArray, List.set_cons_zero, List.set_cons_succ])
          refine wpAnyH_take (i := 5) (oi := ⟨some 97, _, _, _, _, _⟩) (v := ?_) rfl (by kernel_rfl) (by kernel_rfl) (by kernel_rfl) (fun _ _ _ h => h) (Or.inl ⟨by rfl, ?_⟩) hHeld ?_
          rotate_left
          · (intro w hSw; (try dsimp only at hSw); go_simp; (try (with_reducible rfl)))
          (try simp only [Act.put, List.setIfInBounds_toArray, List.set_cons_zero, List.set_cons_succ])
          refine wpAnyH_take (i := 6) (oi := ⟨some 98, _, _, _, _, _⟩) (v := ?_) rfl (by kernel_rfl) (by kernel_rfl) (by kernel_rfl) (fun _ _ _ h => h) (Or.inl ⟨by rfl, ?_⟩) hHeld ?_
          rotate_left
          · (intro w hSw; (try dsimp only at hSw); go_simp; (try (with_reducible rfl)))
          (try simp only [Act.put, List.setIfInBounds_toArray, List.set_cons_zero, List.set_cons_succ])
          refine wpAnyH_take (i := 7) (oi := ⟨some 99, _, _, _, _, _⟩) (v := ?_) rfl (by kernel_rfl) (by kernel_rfl) (by kernel_rfl) (fun _ _ _ h => h) (Or.inl ⟨by rfl, ?_⟩) hHeld ?_
          rotate_left
          · (intro w hSw; (try dsimp only at hSw); have hc0 := (HRK.out _ hSw.1).1; have hn0 := NmAt.cell hSw.2 hsl; go_simp; (try (with_reducible rfl)))
          (try simp only [Act.put, List.setIfInBounds_toArray, List.set_cons_zero, List.set_cons_succ])
          refine wpAnyH_take (i := 8) (oi := ⟨some 100, _, _, _, _, _⟩) (v := ?_) rfl (by kernel_rfl) (by kernel_rfl) (by kernel_rfl) (fun _ _ _ h => h) (Or.inl ⟨by rfl, ?_⟩) hHeld ?_
          rotate_left
          · (intro w hSw; (try dsimp only at hSw); go_simp; (try (with_reducible rfl)))
          (try simp only [Act.put, List.setIfInBounds_toArray, List.set_cons_zero, List.set_cons_succ])
          refine wpAnyH_take (i := 10) (oi := ⟨some 102, _, _, _, _, _⟩) (v := ?_) rfl (by kernel_rfl) (by kernel_rfl) (by kernel_rfl) (fun _ _ _ h => h) (Or.inl ⟨by rfl, ?_⟩) hHeld ?_
          rotate_left
          · (intro w hSw; (try dsimp only at hSw); go_simp; (try (with_reducible rfl)))
          (try simp only [Act.put, List.setIfInBounds_toArray, List.set_cons_zero, List.set_cons_succ])
          refine wpAnyH_take (i := 11) (oi := ⟨some 103, _, _, _, _, _⟩) (v := ?_) rfl (by kernel_rfl) (by kernel_rfl) (by kernel_rfl) (fun _ _ _ h => h) (Or.inl ⟨by rfl, ?_⟩) hHeld ?_
          rotate_left
          · (intro w hSw; (try dsimp only at hSw); go_simp; (try (with_reducible rfl)))
          (try simp only [Act.put, List.setIfInBounds_toArray, List.set_cons_zero, List.set_cons_succ])
          refine wpAnyH_take (i := 12) (oi := ⟨some 104, _, _, _, _, _⟩) (v := ?_) rfl (by kernel_rfl) (by kernel_rfl) (by kernel_rfl) (fun _ _ _ h => h) (Or.inl ⟨by rfl, ?_⟩) hHeld ?_
          rotate_left
          · (intro w hSw; (try dsimp only at hSw); go_simp; (try (with_reducible rfl)))
          (try simp only [Act.put, List.setIfInBounds_toArray, List.set_cons_zero, List.set_cons_succ])
          refine wpAnyH_take (i := 13) (oi := ⟨some 105, _, _, _, _, _⟩) (v := ?_) rfl (by kernel_rfl) (by kernel_rfl) (by kernel_rfl) (fun _ _ _ h => h) (Or.inl ⟨by rfl, ?_⟩) hHeld ?_
          rotate_left
          · (intro w hSw; (try dsimp only at hSw); have hc0 := (HRK.out _ hSw.1).1; have hn0 := NmAt.cell hSw.2 hsl; go_simp; (try (with_reducible rfl)))
          (try simp only [Act.put, List.setIfInBounds_toArray, List.set_cons_zero, List.set_cons_succ])
          refine wpAnyH_take (i := 14) (oi := ⟨some 106, _, _, _, _, _⟩) (v := ?_) rfl (by kernel_rfl) (by kernel_rfl) (by kernel_rfl) (fun _ _ _ h => h) (Or.inl ⟨by rfl, ?_⟩) hHeld ?_
          rotate_left
          · (intro w hSw; (try dsimp only at hSw); go_simp; (try (with_reducible rfl)))
          (try simp only [Act.put, List.setIfInBounds_toArray, List.set_cons_zero, List.set_cons_succ])
          refine wpAnyH_take (i := 15) (oi := ⟨some 107, _, _, _, _, _⟩) (v := ?_) rfl (by kernel_rfl) (by kernel_rfl) (by kernel_rfl) (fun _ _ _ h => h) (Or.inl ⟨by rfl, ?_⟩) hHeld ?_
          rotate_left
          · (intro w hSw; (try dsimp only at hSw); go_simp; (try (with_reducible rfl)))
          (try simp only [Act.put, List.setIfInBounds_toArray, List.set_cons_zero, List.set_cons_succ])
          refine wpAnyH_take (i := 16) (oi := ⟨some 108, _, _, _, _, _⟩) (v := ?_) rfl (by kernel_rfl) (by kernel_rfl) (by kernel_rfl) (fun _ _ _ h => h) (Or.inl ⟨by rfl, ?_⟩) hHeld ?_
          rotate_left
          · (intro w hSw; (try dsimp only at hSw); go_simp; (try (with_reducible rfl)))
          (try simp only [Act.put, List.setIfInBounds_toArray, List.set_cons_zero, List.set_cons_succ])
          refine wpAnyH_take (i := 17) (oi := ⟨some 109, _, _, _, _, _⟩) (v := ?_) rfl (by kernel_rfl) (by kernel_rfl) (by kernel_rfl) (fun _ _ _ h => h) (Or.inl ⟨by rfl, ?_⟩) hHeld ?_
          rotate_left
          · (intro w hSw; (try dsimp only at hSw); go_simp; (try (with_reducible rfl)))
          (try simp only [Act.put, List.setIfInBounds_toArray, List.set_cons_zero, List.set_cons_succ])
          refine wpAnyH_take (i := 18) (oi := ⟨some 110, _, _, _, _, _⟩) (v := ?_) rfl (by kernel_rfl) (by kernel_rfl) (by kernel_rfl) (fun _ _ _ h => h) (Or.inl ⟨by rfl, ?_⟩) hHeld ?_
          rotate_left
          · (intro w hSw; (try dsimp only at hSw); have hc0 := (HRK.out _ hSw.1).1; have hn0 := NmAt.cell hSw.2 hsl; go_simp; (try (with_reducible rfl)))
          (try simp only [Act.put, List.setIfInBounds_toArray, List.set_cons_zero, List.set_cons_succ])
          refine wpAnyH_take (i := 19) (oi := ⟨some 111, _, _, _, _, _⟩) (v := ?_) rfl (by kernel_rfl) (by kernel_rfl) (by kernel_rfl) (fun _ _ _ h => h) (Or.inl ⟨by rfl, ?_⟩) hHeld ?_
          rotate_left
          · (intro w hSw; (try dsimp only at hSw); go_simp; (try (with_reducible rfl)))
          (try simp only [Act.put, List.setIfInBounds_toArray, List.set_cons_zero, List.set_cons_succ])
          refine wpAnyH_ready (rs := [9]) (by kernel_rfl) (by simp) ?_
          refine AllReadyH.cons (o := ⟨some 101, _, _, _, _, _⟩) rfl (fun K hK => ?_) AllReadyH.nil
          rw [if_pos (by rfl)]
          go_wp2_with fail
          refine Calls.mono (next_any g A n c _ 50 _ HS4.out (by omega) (by have := HNK.out; omega)) ?_
          rintro e w5 ⟨t5, rfl, ht05, ht15, hsj, hgj⟩
          have HS5 := Lib.hid hsj
          have HO5 := Lib.hid (HO4.out.stream HS4.out hgj hBg)
          have HN5 := Lib.hid (NmAt.grown HN4.out hgj hNg)
          have HG5 := Lib.hid (grown_trans HG4.out hgj)
          clear ht05 ht15
          clear hsj hgj
          refine hK.out _ _ ⟨HO5.out, HN5.out⟩ (fun hHeld => ?_)
          clear hK K
          (try simp only [Act.put, List.setIfInBounds_toArray, List.set_cons_zero, List.set_cons_succ])
          refine wpAnyH_ready (rs := [20]) (by kernel_rfl) (by simp) ?_
          refine AllReadyH.cons (o := ⟨some 112, _, _, _, _, _⟩) rfl (fun K hK => ?_) AllReadyH.nil
          rw [if_pos (by rfl)]
          go_wp2_with fail
          refine Calls.mono (next_any g A n c _ (nk : Int) _ HS5.out (by omega) (by have := HNK.out; omega)) ?_
          rintro e w6 ⟨t6, rfl, ht06, ht16, hsj, hgj⟩
          have HS6 := Lib.hid hsj
          have HO6 := Lib.hid (HO5.out.stream HS5.out hgj hBg)
          have HN6 := Lib.hid (NmAt.grown HN5.out hgj hNg)
          have HG6 := Lib.hid (grown_trans HG5.out hgj)
          obtain ⟨t, rfl⟩ := Int.eq_ofNat_of_zero_le ht06
          have htn := ht16 (by omega)
          have htk : t < nk := by omega
          have hxl : t < (L s).length := by have := (HRK.out _ HO6.out).2.1; omega
          obtain ⟨x, hx⟩ : ∃ x, (L s)[t]? = some x := ⟨_, List.getElem?_eq_getElem hxl⟩
          obtain ⟨gx, off, hAx, hgx, hcx⟩ := ElemsAt.deed (HRK.out _ HO6.out).2 (by omega)
          subst hAx
          obtain ⟨x0, x1, -⟩ := hcx t x hx
          have HUN := Lib.hid (undoOf_any (some ⟨gx, off, none⟩) nk ck (L s) (nameD s) t5 x.site x.no w6 (HRK.out _ HO6.out).2 (HI.out.right s hsl) (by have := HNK.out; omega) (nameD_key s) (by rw [nameD_size]; decide) (fun wx hx => (HTB.out _ _ HG6.out hx).pow))
          clear ht06 ht16 hcx hgx hx hxl
          clear hsj hgj
          refine hK.out _ _ ⟨HO6.out, HN6.out⟩ (fun hHeld => ?_)
          clear hK K
          (try simp only [Act.put, List.setIfInBounds_toArray, List.set_cons_zero, List.set_cons_succ])
          refine wpAnyH_take (i := 21) (oi := ⟨some 113, _, _, _, _, _⟩) (v := ?_) rfl (by kernel_rfl) (by kernel_rfl) (by kernel_rfl) (fun _ _ _ h => h) (Or.inl ⟨by rfl, ?_⟩) hHeld ?_
          rotate_left
          · (intro w hSw; (try dsimp only at hSw); go_simp; (try (with_reducible rfl)))
          (try simp only [Act.put, List.setIfInBounds_toArray, List.set_cons_zero, List.set_cons_succ])
          refine wpAnyH_take (i := 22) (oi := ⟨some 114, _, _, _, _, _⟩) (v := ?_) rfl (by kernel_rfl) (by kernel_rfl) (by kernel_rfl) (fun _ _ _ h => h) (Or.inl ⟨by rfl, ?_⟩) hHeld ?_
          rotate_left
          · (intro w hSw; (try dsimp only at hSw); go_simp; (try (with_reducible rfl)))
          (try simp only [Act.put, List.setIfInBounds_toArray, List.set_cons_zero, List.set_cons_succ])
          refine wpAnyH_ready (rs := [23]) (by kernel_rfl) (by simp) ?_
          refine AllReadyH.cons (o := ⟨some 115, _, _, _, _, _⟩) rfl (fun K hK => ?_) AllReadyH.nil
          rw [if_pos (by rfl)]
          go_simp
          refine hK.out _ _ hHeld (fun hHeld => ?_)
          clear hK K
          (try simp only [Act.put, List.setIfInBounds_toArray, List.set_cons_zero, List.set_cons_succ])
          refine wpAnyH_ready (rs := [24]) (by kernel_rfl) (by simp) ?_
          refine AllReadyH.cons (o := ⟨some 116, _, _, _, _, _⟩) rfl (fun K hK => ?_) AllReadyH.nil
          rw [if_pos (by rfl)]
          go_wp2_with fail
          refine Calls.mono HUN.out ?_
          intro e w7 hpost
          obtain ⟨Au, nu, cu, f, rfl, hb7, hgive⟩ := give_undo hpost
          have HGV := Lib.hid hgive
          have HO7 := Lib.hid (HO6.out.keep hb7)
          have HN7 := Lib.hid (NmAt.keep HN6.out hb7)
          have HS7 := Lib.hid (HS6.out.below hb7)
          have HG7 := Lib.hid (grown_below HG6.out hb7)
          clear hpost hgive hb7 HUN
          refine hK.out _ _ ⟨HO7.out, HN7.out⟩ (fun hHeld => ?_)
          clear hK K
          (try simp only [Act.put, List.setIfInBounds_toArray, List.set_cons_zero, List.set_cons_succ])
          refine wpAnyH_take (i := 25) (oi := ⟨some 91, _, _, _, _, _⟩) (v := ?_) rfl (by kernel_rfl) (by kernel_rfl) (by kernel_rfl) (fun _ _ _ h => h) (Or.inl ⟨by rfl, ?_⟩) hHeld ?_
          rotate_left
          · (intro w hSw; (try dsimp only at hSw); go_simp; (try (with_reducible rfl)))
          (try simp only [Act.put, List.setIfInBounds_toArray, List.set_cons_zero, List.set_cons_succ])
          refine wpAnyH_take (i := 26) (oi := ⟨some 117, _, _, _, _, _⟩) (v := ?_) rfl (by kernel_rfl) (by kernel_rfl) (by kernel_rfl) (fun _ _ _ h => h) (Or.inl ⟨by rfl, ?_⟩) hHeld ?_
          rotate_left
          · (intro w hSw; (try dsimp only at hSw); go_simp; (try (with_reducible rfl)))
          (try simp only [Act.put, List.setIfInBounds_toArray, List.set_cons_zero, List.set_cons_succ])
          refine wpAnyH_take (i := 27) (oi := ⟨some 118, _, _, _, _, _⟩) (v := ?_) rfl (by kernel_rfl) (by kernel_rfl) (by kernel_rfl) (fun _ _ _ h => h) (Or.inl ⟨by rfl, ?_⟩) hHeld ?_
          rotate_left
          · (intro w hSw; (try dsimp only at hSw); go_simp; (try (with_reducible rfl)))
          (try simp only [Act.put, List.setIfInBounds_toArray, List.set_cons_zero, List.set_cons_succ])
          refine wpAnyH_take (i := 28) (oi := ⟨some 8, _, _, _, _, _⟩) (v := ?_) rfl (by kernel_rfl) (by kernel_rfl) (by kernel_rfl) (fun _ _ _ h => h) (Or.inl ⟨by rfl, ?_⟩) hHeld ?_
          rotate_left
          · (intro w hSw; (try dsimp only at hSw); go_simp; (try (with_reducible rfl)))
          (try simp only [Act.put, List.setIfInBounds_toArray, List.set_cons_zero, List.set_cons_succ])
          refine wpAnyH_take (i := 29) (oi := ⟨some 9, _, _, _, _, _⟩) (v := ?_) rfl (by kernel_rfl) (by kernel_rfl) (by kernel_rfl) (fun _ _ _ h => h) (Or.inl ⟨by rfl, ?_⟩) hHeld ?_
          rotate_left
          · (intro w hSw; (try dsimp only at hSw); go_simp; (try (with_reducible rfl)))
          (try simp only [Act.put, List.setIfInBounds_toArray, List.set_cons_zero, List.set_cons_succ])
          refine wpAnyH_done (by kernel_rfl) ?_ _
          by_cases hf : f = 0
          · subst hf
            obtain ⟨d, U, hds, hAU, hRU, hMU⟩ := HGV.out rfl
            have HAU := Lib.hid hAU
            have HI7 := Lib.hid (SitesI.add HI.out hsl hds hRU hMU)
            clear hds hAU hRU hMU HGV
            have hfz := HO7.out.froz s
            have hcz := (HRK.out _ HO7.out).1
            have HOZ := Lib.hid (HO7.out.put hsl HAU.out)
            have HNZ := Lib.hid (NmAt.set (k := s) HN7.out hNB (.slice Au nu cu))
            have HSZ : Hid (StreamAt (w7.setCell ⟨B, s, none⟩ (.slice Au nu cu)) g A n c (K + 1 + 14 * (k + 1))) := (HS7.out.setP HGB.out _).more (by omega)
            have HGZ : Hid (w.grownBy (w7.setCell ⟨B, s, none⟩ (.slice Au nu cu)) (some g)) := grown_setNew HG7.out HWB.out _
            clear HO7 HN7 HS7 HG7 HAU
            go_wp2_with fail
            go_roundg (gk - 1)
            case measure => exact Nat.sub_lt HGK.out.2 Nat.one_pos
            case rel => exact ⟨k + 1, _, _, HGK.out.1, by go_num, HOZ.out, HNZ.out, HI7.out, HSZ.out, HGZ.out⟩
          · have hf' : (f == 0) = false := by simpa using hf
            clear HGV
            have HSZ := Lib.hid (StreamAt.more (K' := K + 1 + 14 * (k + 1)) HS7.out (by omega))
            have HIZ := Lib.hid (HI.out.more (Nat.le_succ k))
            go_wp2_with fail
            go_roundg (gk - 1)
            case measure => exact Nat.sub_lt HGK.out.2 Nat.one_pos
            case rel => exact ⟨k + 1, hd, L, HGK.out.1, by go_num, HO7.out, HN7.out, HIZ.out, HSZ.out, HG7.out⟩
      · by_cases hz : nk = 0
        · subst hz
          clear HTB
          have HSZ := Lib.hid (StreamAt.more (K' := K + 1 + 14 * (k + 1)) HS4.out (by omega))
          have HIZ := Lib.hid (HI.out.more (Nat.le_succ k))
          go_wp2_with fail
          go_roundg (gk - 1)
          case measure => exact Nat.sub_lt HGK.out.2 Nat.one_pos
          case rel => exact ⟨k + 1, hd, L, HGK.out.1, by go_num, HO4.out, HN4.out, HIZ.out, HSZ.out, HG4.out⟩
        · have hnz : ((nk : Int) == 0) = false := by simp; omega
          have hnz' : ¬ (nk : Int) = 0 := by omega
          have hnp : (0 : Int) < (nk : Int) := by omega
          go_upto_region 18 with (fail)
          obtain ⟨w4', rfl⟩ : ∃ x, x = w4 := ⟨w4, rfl⟩
          clear hbk
          have HSd : Hid (StreamAt w4'.drew g A n c (K + 1 + 14 * k + 1 + 1)) := HS4.out.keep (fun _ _ => rfl)
          have HOd := Lib.hid HO4.out.drew
          have HNd : Hid (NmAt w4'.drew Nm) := HN4.out
          have HGd := Lib.hid (grown_drewN HG4.out 1)
          clear HS4 HO4 HN4 HG4
          have HS4 := HSd
          have HO4 := HOd
          have HN4 := HNd
          have HG4 := HGd
          clear HSd HOd HNd HGd
          refine wp_region_held_drew (S := fun w' => OutAt w' B hd L ∧ NmAt w' Nm) (by kernel_rfl) ⟨HO4.out, HN4.out⟩ (fun hHeld => ?_)
          refine wpAnyH_take (i := 0) (oi := ⟨some 92, _, _, _, _, _⟩) (v := ?_) rfl (by kernel_rfl) (by kernel_rfl) (by kernel_rfl) (fun _ _ _ h => h) (Or.inl ⟨by rfl, ?_⟩) hHeld ?_
          rotate_left
          · (intro w hSw; (try dsimp only at hSw); go_simp; (try (with_reducible rfl)))
          (try simp only [Act.put, List.setIfInBounds_toArray, List.set_cons_zero, List.set_cons_succ])
          refine wpAnyH_take (i := 1) (oi := ⟨some 93, _, _, _, _, _⟩) (v := ?_) rfl (by kernel_rfl) (by kernel_rfl) (by kernel_rfl) (fun _ _ _ h => h) (Or.inl ⟨by rfl, ?_⟩) hHeld ?_
          rotate_left
          · (intro w hSw; (try dsimp only at hSw); go_simp; (try (with_reducible rfl)))
          (try simp only [Act.put, List.setIfInBounds_toArray, List.set_cons_zero, List.set_cons_succ])
          refine wpAnyH_take (i := 2) (oi := ⟨some 94, _, _, _, _, _⟩) (v := ?_) rfl (by kernel_rfl) (by kernel_rfl) (by kernel_rfl) (fun _ _ _ h => h) (Or.inl ⟨by rfl, ?_⟩) hHeld ?_
          rotate_left
          · (intro w hSw; (try dsimp only at hSw); go_simp; (try (with_reducible rfl)))
          (try simp only [Act.put, List.setIfInBounds_toArray, List.set_cons_zero, List.set_cons_succ])
          refine wpAnyH_take (i := 3) (oi := ⟨some 95, _, _, _, _, _⟩) (v := ?_) rfl (by kernel_rfl) (by kernel_rfl) (by kernel_rfl) (fun _ _ _ h => h) (Or.inl ⟨by rfl, ?_⟩) hHeld ?_
          rotate_left
          · (intro w hSw; (try dsimp only at hSw); have hc0 := (HRK.out _ hSw.1).1; have hn0 := NmAt.cell hSw.2 hsl; go_simp; (try (with_reducible rfl)))
          (try simp only [Act.put, List.setIfInBounds_toArray, List.set_cons_zero, List.set_cons_succ])
          refine wpAnyH_take (i := 4) (oi := ⟨some 96, _, _, _, _, _⟩) (v := ?_) rfl (by kernel_rfl) (by kernel_rfl) (by kernel_rfl) (fun _ _ _ h => h) (Or.inl ⟨by rfl, ?_⟩) hHeld ?_
          rotate_left
          · (intro w hSw; (try dsimp only at hSw); go_simp; (try (with_reducible rfl)))
          (try simp only [Act.put, List.setIfInBounds_toArray, List.set_cons_zero, List.set_cons_succ])
          refine wpAnyH_take (i := 5) (oi := ⟨some 97, _, _, _, _, _⟩) (v := ?_) rfl (by kernel_rfl) (by kernel_rfl) (by kernel_rfl) (fun _ _ _ h => h) (Or.inl ⟨by rfl, ?_⟩) hHeld ?_
          rotate_left
          · (intro w hSw; (try dsimp only at hSw); go_simp; (try (with_reducible rfl)))
          (try simp only [Act.put, List.setIfInBounds_toArray, List.set_cons_zero, List.set_cons_succ])
          refine wpAnyH_take (i := 6) (oi := ⟨some 98, _, _, _, _, _⟩) (v := ?_) rfl (by kernel_rfl) (by kernel_rfl) (by kernel_rfl) (fun _ _ _ h => h) (Or.inl ⟨by rfl, ?_⟩) hHeld ?_
          rotate_left
          · (intro w hSw; (try dsimp only at hSw); go_simp; (try (with_reducible rfl)))
          (try simp only [Act.put, List.setIfInBounds_toArray, List.set_cons_zero, List.set_cons_succ])
          refine wpAnyH_take (i := 7) (oi := ⟨some 99, _, _, _, _, _⟩) (v := ?_) rfl (by kernel_rfl) (by kernel_rfl) (by kernel_rfl) (fun _ _ _ h => h) (Or.inl ⟨by rfl, ?_⟩) hHeld ?_
          rotate_left
          · (intro w hSw; (try dsimp only at hSw); have hc0 := (HRK.out _ hSw.1).1; have hn0 := NmAt.cell hSw.2 hsl; go_simp; (try (with_reducible rfl)))
          (try simp only [Act.put, List.setIfInBounds_toArray, List.set_cons_zero, List.set_cons_succ])
          refine wpAnyH_take (i := 8) (oi := ⟨some 100, _, _, _, _, _⟩) (v := ?_) rfl (by kernel_rfl) (by kernel_rfl) (by kernel_rfl) (fun _ _ _ h => h) (Or.inl ⟨by rfl, ?_⟩) hHeld ?_
          rotate_left
          · (intro w hSw; (try dsimp only at hSw); go_simp; (try (with_reducible rfl)))
          (try simp only [Act.put, List.setIfInBounds_toArray, List.set_cons_zero, List.set_cons_succ])
          refine wpAnyH_take (i := 10) (oi := ⟨some 102, _, _, _, _, _⟩) (v := ?_) rfl (by kernel_rfl) (by kernel_rfl) (by kernel_rfl) (fun _ _ _ h => h) (Or.inl ⟨by rfl, ?_⟩) hHeld ?_
          rotate_left
          · (intro w hSw; (try dsimp only at hSw); go_simp; (try (with_reducible rfl)))
          (try simp only [Act.put, List.setIfInBounds_toArray, List.set_cons_zero, List.set_cons_succ])
          refine wpAnyH_take (i := 11) (oi := ⟨some 103, _, _, _, _, _⟩) (v := ?_) rfl (by kernel_rfl) (by kernel_rfl) (by kernel_rfl) (fun _ _ _ h => h) (Or.inl ⟨by rfl, ?_⟩) hHeld ?_
          rotate_left
          · (intro w hSw; (try dsimp only at hSw); go_simp; (try (with_reducible rfl)))
          (try simp only [Act.put, List.setIfInBounds_toArray, List.set_cons_zero, List.set_cons_succ])
          refine wpAnyH_take (i := 12) (oi := ⟨some 104, _, _, _, _, _⟩) (v := ?_) rfl (by kernel_rfl) (by kernel_rfl) (by kernel_rfl) (fun _ _ _ h => h) (Or.inl ⟨by rfl, ?_⟩) hHeld ?_
          rotate_left
          · (intro w hSw; (try dsimp only at hSw); go_simp; (try (with_reducible rfl)))
          (try simp only [Act.put, List.setIfInBounds_toArray, List.set_cons_zero, List.set_cons_succ])
          refine wpAnyH_take (i := 13) (oi := ⟨some 105, _, _, _, _, _⟩) (v := ?_) rfl (by kernel_rfl) (by kernel_rfl) (by kernel_rfl) (fun _ _ _ h => h) (Or.inl ⟨by rfl, ?_⟩) hHeld ?_
          rotate_left
          · (intro w hSw; (try dsimp only at hSw); have hc0 := (HRK.out _ hSw.1).1; have hn0 := NmAt.cell hSw.2 hsl; go_simp; (try (with_reducible rfl)))
          (try simp only [Act.put, List.setIfInBounds_toArray, List.set_cons_zero, List.set_cons_succ])
          refine wpAnyH_take (i := 14) (oi := ⟨some 106, _, _, _, _, _⟩) (v := ?_) rfl (by kernel_rfl) (by kernel_rfl) (by kernel_rfl) (fun _ _ _ h => h) (Or.inl ⟨by rfl, ?_⟩) hHeld ?_
          rotate_left
          · (intro w hSw; (try dsimp only at hSw); go_simp; (try (with_reducible rfl)))
          (try simp only [Act.put, List.setIfInBounds_toArray, List.set_cons_zero, List.set_cons_succ])
          refine wpAnyH_take (i := 15) (oi := ⟨some 107, _, _, _, _, _⟩) (v := ?_) rfl (by kernel_rfl) (by kernel_rfl) (by kernel_rfl) (fun _ _ _ h => h) (Or.inl ⟨by rfl, ?_⟩) hHeld ?_
          rotate_left
          · (intro w hSw; (try dsimp only at hSw); go_simp; (try (with_reducible rfl)))
          (try simp only [Act.put, List.setIfInBounds_toArray, List.set_cons_zero, List.set_cons_succ])
          refine wpAnyH_take (i := 16) (oi := ⟨some 108, _, _, _, _, _⟩) (v := ?_) rfl (by kernel_rfl) (by kernel_rfl) (by kernel_rfl) (fun _ _ _ h => h) (Or.inl ⟨by rfl, ?_⟩) hHeld ?_
          rotate_left
          · (intro w hSw; (try dsimp only at hSw); go_simp; (try (with_reducible rfl)))
          (try simp only [Act.put, List.setIfInBounds_toArray, List.set_cons_zero, List.set_cons_succ])
          refine wpAnyH_take (i := 17) (oi := ⟨some 109, _, _, _, _, _⟩) (v := ?_) rfl (by kernel_rfl) (by kernel_rfl) (by kernel_rfl) (fun _ _ _ h => h) (Or.inl ⟨by rfl, ?_⟩) hHeld ?_
          rotate_left
          · (intro w hSw; (try dsimp only at hSw); go_simp; (try (with_reducible rfl)))
          (try simp only [Act.put, List.setIfInBounds_toArray, List.set_cons_zero, List.set_cons_succ])
          refine wpAnyH_take (i := 18) (oi := ⟨some 110, _, _, _, _, _⟩) (v := ?_) rfl (by kernel_rfl) (by kernel_rfl) (by kernel_rfl) (fun _ _ _ h => h) (Or.inl ⟨by rfl, ?_⟩) hHeld ?_
          rotate_left
          · (intro w hSw; (try dsimp only at hSw); have hc0 := (HRK.out _ hSw.1).1; have hn0 := NmAt.cell hSw.2 hsl; go_simp; (try (with_reducible rfl)))
          (try simp only [Act.put, List.setIfInBounds_toArray, List.set_cons_zero, List.set_cons_succ])
          refine wpAnyH_take (i := 19) (oi := ⟨some 111, _, _, _, _, _⟩) (v := ?_) rfl (by kernel_rfl) (by kernel_rfl) (by kernel_rfl) (fun _ _ _ h => h) (Or.inl ⟨by rfl, ?_⟩) hHeld ?_
          rotate_left
          · (intro w hSw; (try dsimp only at hSw); go_simp; (try (with_reducible rfl)))
          (try simp only [Act.put, List.setIfInBounds_toArray, List.set_cons_zero, List.set_cons_succ])
          refine wpAnyH_ready (rs := [9]) (by kernel_rfl) (by simp) ?_
          refine AllReadyH.cons (o := ⟨some 101, _, _, _, _, _⟩) rfl (fun K hK => ?_) AllReadyH.nil
          rw [if_pos (by rfl)]
          go_wp2_with fail
          refine Calls.mono (next_any g A n c _ 50 _ HS4.out (by omega) (by have := HNK.out; omega)) ?_
          rintro e w5 ⟨t5, rfl, ht05, ht15, hsj, hgj⟩
          have HS5 := Lib.hid hsj
          have HO5 := Lib.hid (HO4.out.stream HS4.out hgj hBg)
          have HN5 := Lib.hid (NmAt.grown HN4.out hgj hNg)
          have HG5 := Lib.hid (grown_trans HG4.out hgj)
          clear ht05 ht15
          clear hsj hgj
          refine hK.out _ _ ⟨HO5.out, HN5.out⟩ (fun hHeld => ?_)
          clear hK K
          (try simp only [Act.put, List.setIfInBounds_toArray, List.set_cons_zero, List.set_cons_succ])
          refine wpAnyH_ready (rs := [20]) (by kernel_rfl) (by simp) ?_
          refine AllReadyH.cons (o := ⟨some 112, _, _, _, _, _⟩) rfl (fun K hK => ?_) AllReadyH.nil
          rw [if_pos (by rfl)]
          go_wp2_with fail
          refine Calls.mono (next_any g A n c _ (nk : Int) _ HS5.out (by omega) (by have := HNK.out; omega)) ?_
          rintro e w6 ⟨t6, rfl, ht06, ht16, hsj, hgj⟩
          have HS6 := Lib.hid hsj
          have HO6 := Lib.hid (HO5.out.stream HS5.out hgj hBg)
          have HN6 := Lib.hid (NmAt.grown HN5.out hgj hNg)
          have HG6 := Lib.hid (grown_trans HG5.out hgj)
          obtain ⟨t, rfl⟩ := Int.eq_ofNat_of_zero_le ht06
          have htn := ht16 (by omega)
          have htk : t < nk := by omega
          have hxl : t < (L s).length := by have := (HRK.out _ HO6.out).2.1; omega
          obtain ⟨x, hx⟩ : ∃ x, (L s)[t]? = some x := ⟨_, List.getElem?_eq_getElem hxl⟩
          obtain ⟨gx, off, hAx, hgx, hcx⟩ := ElemsAt.deed (HRK.out _ HO6.out).2 (by omega)
          subst hAx
          obtain ⟨x0, x1, -⟩ := hcx t x hx
          have HUN := Lib.hid (undoOf_any (some ⟨gx, off, none⟩) nk ck (L s) (nameD s) t5 x.site x.no w6 (HRK.out _ HO6.out).2 (HI.out.right s hsl) (by have := HNK.out; omega) (nameD_key s) (by rw [nameD_size]; decide) (fun wx hx => (HTB.out _ _ HG6.out hx).pow))
          clear ht06 ht16 hcx hgx hx hxl
          clear hsj hgj
          refine hK.out _ _ ⟨HO6.out, HN6.out⟩ (fun hHeld => ?_)
          clear hK K
          (try simp only [Act.put, List.setIfInBounds_toArray, List.set_cons_zero, List.set_cons_succ])
          refine wpAnyH_take (i := 21) (oi := ⟨some 113, _, _, _, _, _⟩) (v := ?_) rfl (by kernel_rfl) (by kernel_rfl) (by kernel_rfl) (fun _ _ _ h => h) (Or.inl ⟨by rfl, ?_⟩) hHeld ?_
          rotate_left
          · (intro w hSw; (try dsimp only at hSw); go_simp; (try (with_reducible rfl)))
          (try simp only [Act.put, List.setIfInBounds_toArray, List.set_cons_zero, List.set_cons_succ])
          refine wpAnyH_take (i := 22) (oi := ⟨some 114, _, _, _, _, _⟩) (v := ?_) rfl (by kernel_rfl) (by kernel_rfl) (by kernel_rfl) (fun _ _ _ h => h) (Or.inl ⟨by rfl, ?_⟩) hHeld ?_
          rotate_left
          · (intro w hSw; (try dsimp only at hSw); go_simp; (try (with_reducible rfl)))
          (try simp only [Act.put, List.setIfInBounds_toArray, List.set_cons_zero, List.set_cons_succ])
          refine wpAnyH_ready (rs := [23]) (by kernel_rfl) (by simp) ?_
          refine AllReadyH.cons (o := ⟨some 115, _, _, _, _, _⟩) rfl (fun K hK => ?_) AllReadyH.nil
          rw [if_pos (by rfl)]
          go_simp
          refine hK.out _ _ hHeld (fun hHeld => ?_)
          clear hK K
          (try simp only [Act.put, List.setIfInBounds_toArray, List.set_cons_zero, List.set_cons_succ])
          refine wpAnyH_ready (rs := [24]) (by kernel_rfl) (by simp) ?_
          refine AllReadyH.cons (o := ⟨some 116, _, _, _, _, _⟩) rfl (fun K hK => ?_) AllReadyH.nil
          rw [if_pos (by rfl)]
          go_wp2_with fail
          refine Calls.mono HUN.out ?_
          intro e w7 hpost
          obtain ⟨Au, nu, cu, f, rfl, hb7, hgive⟩ := give_undo hpost
          have HGV := Lib.hid hgive
          have HO7 := Lib.hid (HO6.out.keep hb7)
          have HN7 := Lib.hid (NmAt.keep HN6.out hb7)
          have HS7 := Lib.hid (HS6.out.below hb7)
          have HG7 := Lib.hid (grown_below HG6.out hb7)
          clear hpost hgive hb7 HUN
          refine hK.out _ _ ⟨HO7.out, HN7.out⟩ (fun hHeld => ?_)
          clear hK K
          (try simp only [Act.put, List.setIfInBounds_toArray, List.set_cons_zero, List.set_cons_succ])
          refine wpAnyH_take (i := 25) (oi := ⟨some 91, _, _, _, _, _⟩) (v := ?_) rfl (by kernel_rfl) (by kernel_rfl) (by kernel_rfl) (fun _ _ _ h => h) (Or.inl ⟨by rfl, ?_⟩) hHeld ?_
          rotate_left
          · (intro w hSw; (try dsimp only at hSw); go_simp; (try (with_reducible rfl)))
          (try simp only [Act.put, List.setIfInBounds_toArray, List.set_cons_zero, List.set_cons_succ])
          refine wpAnyH_take (i := 26) (oi := ⟨some 117, _, _, _, _, _⟩) (v := ?_) rfl (by kernel_rfl) (by kernel_rfl) (by kernel_rfl) (fun _ _ _ h => h) (Or.inl ⟨by rfl, ?_⟩) hHeld ?_
          rotate_left
          · (intro w hSw; (try dsimp only at hSw); go_simp; (try (with_reducible rfl)))
          (try simp only [Act.put, List.setIfInBounds_toArray, List.set_cons_zero, List.set_cons_succ])
          refine wpAnyH_take (i := 27) (oi := ⟨some 118, _, _, _, _, _⟩) (v := ?_) rfl (by kernel_rfl) (by kernel_rfl) (by kernel_rfl) (fun _ _ _ h => h) (Or.inl ⟨by rfl, ?_⟩) hHeld ?_
          rotate_left
          · (intro w hSw; (try dsimp only at hSw); go_simp; (try (with_reducible rfl)))
          (try simp only [Act.put, List.setIfInBounds_toArray, List.set_cons_zero, List.set_cons_succ])
          refine wpAnyH_take (i := 28) (oi := ⟨some 8, _, _, _, _, _⟩) (v := ?_) rfl (by kernel_rfl) (by kernel_rfl) (by kernel_rfl) (fun _ _ _ h => h) (Or.inl ⟨by rfl, ?_⟩) hHeld ?_
          rotate_left
          · (intro w hSw; (try dsimp only at hSw); go_simp; (try (with_reducible rfl)))
          (try simp only [Act.put, List.setIfInBounds_toArray, List.set_cons_zero, List.set_cons_succ])
          refine wpAnyH_take (i := 29) (oi := ⟨some 9, _, _, _, _, _⟩) (v := ?_) rfl (by kernel_rfl) (by kernel_rfl) (by kernel_rfl) (fun _ _ _ h => h) (Or.inl ⟨by rfl, ?_⟩) hHeld ?_
          rotate_left
          · (intro w hSw; (try dsimp only at hSw); go_simp; (try (with_reducible rfl)))
          (try simp only [Act.put, List.setIfInBounds_toArray, List.set_cons_zero, List.set_cons_succ])
          refine wpAnyH_done (by kernel_rfl) ?_ _
          by_cases hf : f = 0
          · subst hf
            obtain ⟨d, U, hds, hAU, hRU, hMU⟩ := HGV.out rfl
            have HAU := Lib.hid hAU
            have HI7 := Lib.hid (SitesI.add HI.out hsl hds hRU hMU)
            clear hds hAU hRU hMU HGV
            have hfz := HO7.out.froz s
            have hcz := (HRK.out _ HO7.out).1
            have HOZ := Lib.hid (HO7.out.put hsl HAU.out)
            have HNZ := Lib.hid (NmAt.set (k := s) HN7.out hNB (.slice Au nu cu))
            have HSZ : Hid (StreamAt (w7.setCell ⟨B, s, none⟩ (.slice Au nu cu)) g A n c (K + 1 + 14 * (k + 1))) := (HS7.out.setP HGB.out _).more (by omega)
            have HGZ : Hid (w.grownBy (w7.setCell ⟨B, s, none⟩ (.slice Au nu cu)) (some g)) := grown_setNew HG7.out HWB.out _
            clear HO7 HN7 HS7 HG7 HAU
            go_wp2_with fail
            go_roundg (gk - 1)
            case measure => exact Nat.sub_lt HGK.out.2 Nat.one_pos
            case rel => exact ⟨k + 1, _, _, HGK.out.1, by go_num, HOZ.out, HNZ.out, HI7.out, HSZ.out, HGZ.out⟩
          · have hf' : (f == 0) = false := by simpa using hf
            clear HGV
            have HSZ := Lib.hid (StreamAt.more (K' := K + 1 + 14 * (k + 1)) HS7.out (by omega))
            have HIZ := Lib.hid (HI.out.more (Nat.le_succ k))
            go_wp2_with fail
            go_roundg (gk - 1)
            case measure => exact Nat.sub_lt HGK.out.2 Nat.one_pos
            case rel => exact ⟨k + 1, hd, L, HGK.out.1, by go_num, HO7.out, HN7.out, HIZ.out, HSZ.out, HG7.out⟩
      · go_wp2_with fail
        refine (doing_any g A n c _ w4 HS4.out (by omega)).mono ?_
        rintro e w5 ⟨at_, kind, id, fld, val, fr, tu, rfl, hsz, hs5, hg5⟩
        have hal : Below w5.heap.size w5 (w5.alloc (.cells #[.int .i64 fr, .int .i64 tu] 38)) := (Below.refl _ _).alloc (Nat.le_refl _) _
        have HP6 : Hid (SpB (w5.alloc (.cells #[.int .i64 fr, .int .i64 tu] 38)) w5.heap.size fr tu) := heap_alloc_new w5 _
        have HS6 := Lib.hid (hs5.below hal)
        have HO6 := Lib.hid ((HO4.out.stream HS4.out hg5 hBg).keep hal)
        have HN6 := Lib.hid (NmAt.keep (NmAt.grown HN4.out hg5 hNg) hal)
        have HG6 := Lib.hid (grown_below (grown_trans HG4.out hg5) hal)
        have HSZE := Lib.hid hsz
        clear hal hsz hs5 hg5 HS4 HO4 HN4 HG4 hbk
        go_upto_region 8 with (fail)
        obtain ⟨P, hP⟩ : ∃ P, P = w5.heap.size := ⟨_, rfl⟩
        rw [← hP] at HP6 ⊢
        generalize w5.alloc (.cells #[.int .i64 fr, .int .i64 tu] 38) = w6 at *
        clear hP
        have HAD := Lib.hid (addOf_any Ak nk ck (L s) (nameD s) at_ kind id fld val fr tu w6.drew (HRK.out _ HO6.out.drew).2 (HI.out.right s hsl) (by have := HNK.out; omega) (nameD_key s) (by rw [nameD_size]; decide) HSZE.out (fun wx hx => ⟨(HTB.out _ _ (grown_drewN HG6.out 1) hx).tabs, (HTB.out _ _ (grown_drewN HG6.out 1) hx).max, (HTB.out _ _ (grown_drewN HG6.out 1) hx).pow⟩))
        have HPd : Hid (SpB w6.drew P fr tu) := HP6.out
        have HNd : Hid (NmAt w6.drew Nm) := HN6.out
        have HSd : Hid (StreamAt w6.drew g A n c _) := HS6.out.keep (fun _ _ => rfl)
        refine wp_region_held_drew (S := fun w' => OutAt w' B hd L ∧ NmAt w' Nm ∧ SpB w' P fr tu) (by kernel_rfl) ⟨HO6.out.drew, HNd.out, HPd.out⟩ (fun hHeld => ?_)
        refine wpAnyH_take (i := 0) (oi := ⟨some 38, _, _, _, _, _⟩) (v := ?_) rfl (by kernel_rfl) (by kernel_rfl) (by kernel_rfl) (fun _ _ _ h => h) (Or.inl ⟨by rfl, ?_⟩) hHeld ?_
        rotate_left
        · (intro w hSw; (try dsimp only at hSw); go_simp; (try (with_reducible rfl)))
        (try simp only [Act.put, List.setIfInBounds_toArray, List.set_cons_zero, List.set_cons_succ])
        refine wpAnyH_take (i := 1) (oi := ⟨some 39, _, _, _, _, _⟩) (v := ?_) rfl (by kernel_rfl) (by kernel_rfl) (by kernel_rfl) (fun _ _ _ h => h) (Or.inl ⟨by rfl, ?_⟩) hHeld ?_
        rotate_left
        · (intro w hSw; (try dsimp only at hSw); go_simp; (try (with_reducible rfl)))
        (try simp only [Act.put, List.setIfInBounds_toArray, List.set_cons_zero, List.set_cons_succ])
        refine wpAnyH_take (i := 2) (oi := ⟨some 40, _, _, _, _, _⟩) (v := ?_) rfl (by kernel_rfl) (by kernel_rfl) (by kernel_rfl) (fun _ _ _ h => h) (Or.inl ⟨by rfl, ?_⟩) hHeld ?_
        rotate_left
        · (intro w hSw; (try dsimp only at hSw); go_simp; (try (with_reducible rfl)))
        (try simp only [Act.put, List.setIfInBounds_toArray, List.set_cons_zero, List.set_cons_succ])
        refine wpAnyH_take (i := 3) (oi := ⟨some 41, _, _, _, _, _⟩) (v := ?_) rfl (by kernel_rfl) (by kernel_rfl) (by kernel_rfl) (fun _ _ _ h => h) (Or.inl ⟨by rfl, ?_⟩) hHeld ?_
        rotate_left
        · (intro w hSw; (try dsimp only at hSw); have hc0 := (HRK.out _ hSw.1).1; have hn0 := NmAt.cell hSw.2.1 hsl; obtain ⟨p0, p1⟩ := SpB.c hSw.2.2; go_simp; (try (with_reducible rfl)))
        (try simp only [Act.put, List.setIfInBounds_toArray, List.set_cons_zero, List.set_cons_succ])
        refine wpAnyH_take (i := 4) (oi := ⟨some 42, _, _, _, _, _⟩) (v := ?_) rfl (by kernel_rfl) (by kernel_rfl) (by kernel_rfl) (fun _ _ _ h => h) (Or.inl ⟨by rfl, ?_⟩) hHeld ?_
        rotate_left
        · (intro w hSw; (try dsimp only at hSw); go_simp; (try (with_reducible rfl)))
        (try simp only [Act.put, List.setIfInBounds_toArray, List.set_cons_zero, List.set_cons_succ])
        refine wpAnyH_take (i := 5) (oi := ⟨some 43, _, _, _, _, _⟩) (v := ?_) rfl (by kernel_rfl) (by kernel_rfl) (by kernel_rfl) (fun _ _ _ h => h) (Or.inl ⟨by rfl, ?_⟩) hHeld ?_
        rotate_left
        · (intro w hSw; (try dsimp only at hSw); go_simp; (try (with_reducible rfl)))
        (try simp only [Act.put, List.setIfInBounds_toArray, List.set_cons_zero, List.set_cons_succ])
        refine wpAnyH_take (i := 6) (oi := ⟨some 44, _, _, _, _, _⟩) (v := ?_) rfl (by kernel_rfl) (by kernel_rfl) (by kernel_rfl) (fun _ _ _ h => h) (Or.inl ⟨by rfl, ?_⟩) hHeld ?_
        rotate_left
        · (intro w hSw; (try dsimp only at hSw); go_simp; (try (with_reducible rfl)))
        (try simp only [Act.put, List.setIfInBounds_toArray, List.set_cons_zero, List.set_cons_succ])
        refine wpAnyH_take (i := 7) (oi := ⟨some 45, _, _, _, _, _⟩) (v := ?_) rfl (by kernel_rfl) (by kernel_rfl) (by kernel_rfl) (fun _ _ _ h => h) (Or.inl ⟨by rfl, ?_⟩) hHeld ?_
        rotate_left
        · (intro w hSw; (try dsimp only at hSw); have hc0 := (HRK.out _ hSw.1).1; have hn0 := NmAt.cell hSw.2.1 hsl; obtain ⟨p0, p1⟩ := SpB.c hSw.2.2; go_simp; (try (with_reducible rfl)))
        (try simp only [Act.put, List.setIfInBounds_toArray, List.set_cons_zero, List.set_cons_succ])
        refine wpAnyH_take (i := 8) (oi := ⟨some 46, _, _, _, _, _⟩) (v := ?_) rfl (by kernel_rfl) (by kernel_rfl) (by kernel_rfl) (fun _ _ _ h => h) (Or.inl ⟨by rfl, ?_⟩) hHeld ?_
        rotate_left
        · (intro w hSw; (try dsimp only at hSw); go_simp; (try (with_reducible rfl)))
        (try simp only [Act.put, List.setIfInBounds_toArray, List.set_cons_zero, List.set_cons_succ])
        refine wpAnyH_take (i := 9) (oi := ⟨some 47, _, _, _, _, _⟩) (v := ?_) rfl (by kernel_rfl) (by kernel_rfl) (by kernel_rfl) (fun _ _ _ h => h) (Or.inl ⟨by rfl, ?_⟩) hHeld ?_
        rotate_left
        · (intro w hSw; (try dsimp only at hSw); go_simp; (try (with_reducible rfl)))
        (try simp only [Act.put, List.setIfInBounds_toArray, List.set_cons_zero, List.set_cons_succ])
        refine wpAnyH_take (i := 10) (oi := ⟨some 48, _, _, _, _, _⟩) (v := ?_) rfl (by kernel_rfl) (by kernel_rfl) (by kernel_rfl) (fun _ _ _ h => h) (Or.inl ⟨by rfl, ?_⟩) hHeld ?_
        rotate_left
        · (intro w hSw; (try dsimp only at hSw); go_simp; (try (with_reducible rfl)))
        (try simp only [Act.put, List.setIfInBounds_toArray, List.set_cons_zero, List.set_cons_succ])
        refine wpAnyH_take (i := 11) (oi := ⟨some 49, _, _, _, _, _⟩) (v := ?_) rfl (by kernel_rfl) (by kernel_rfl) (by kernel_rfl) (fun _ _ _ h => h) (Or.inl ⟨by rfl, ?_⟩) hHeld ?_
        rotate_left
        · (intro w hSw; (try dsimp only at hSw); go_simp; (try (with_reducible rfl)))
        (try simp only [Act.put, List.setIfInBounds_toArray, List.set_cons_zero, List.set_cons_succ])
        refine wpAnyH_take (i := 12) (oi := ⟨some 50, _, _, _, _, _⟩) (v := ?_) rfl (by kernel_rfl) (by kernel_rfl) (by kernel_rfl) (fun _ _ _ h => h) (Or.inl ⟨by rfl, ?_⟩) hHeld ?_
        rotate_left
        · (intro w hSw; (try dsimp only at hSw); go_simp; (try (with_reducible rfl)))
        (try simp only [Act.put, List.setIfInBounds_toArray, List.set_cons_zero, List.set_cons_succ])
        refine wpAnyH_take (i := 13) (oi := ⟨some 51, _, _, _, _, _⟩) (v := ?_) rfl (by kernel_rfl) (by kernel_rfl) (by kernel_rfl) (fun _ _ _ h => h) (Or.inl ⟨by rfl, ?_⟩) hHeld ?_
        rotate_left
        · (intro w hSw; (try dsimp only at hSw); have hc0 := (HRK.out _ hSw.1).1; have hn0 := NmAt.cell hSw.2.1 hsl; obtain ⟨p0, p1⟩ := SpB.c hSw.2.2; go_simp; (try (with_reducible rfl)))
        (try simp only [Act.put, List.setIfInBounds_toArray, List.set_cons_zero, List.set_cons_succ])
        refine wpAnyH_ready (rs := [14]) (by kernel_rfl) (by simp) ?_
        refine AllReadyH.cons (o := ⟨some 52, _, _, _, _, _⟩) rfl (fun K hK => ?_) AllReadyH.nil
        rw [if_pos (by rfl)]
        go_wp2_with fail
        refine Calls.mono HAD.out ?_
        intro e w7 hpost
        obtain ⟨Au, nu, cu, f, rfl, hb7, hgive⟩ := give_add hpost
        have HGV := Lib.hid hgive
        have HO7 := Lib.hid (HO6.out.drew.keep hb7)
        have HN7 := Lib.hid (NmAt.keep HNd.out hb7)
        have HS7 := Lib.hid (HSd.out.below hb7)
        have HG7 := Lib.hid (grown_below (grown_drewN HG6.out 1) hb7)
        have HP7 : Hid (SpB w7 P fr tu) := (hb7.block P (Array.getElem?_eq_some_iff.1 HPd.out).1).trans HPd.out
        clear hpost hgive hb7 HAD
        refine hK.out _ _ ⟨HO7.out, HN7.out, HP7.out⟩ (fun hHeld => ?_)
        clear hK K
        (try simp only [Act.put, List.setIfInBounds_toArray, List.set_cons_zero, List.set_cons_succ])
        refine wpAnyH_take (i := 15) (oi := ⟨some 37, _, _, _, _, _⟩) (v := ?_) rfl (by kernel_rfl) (by kernel_rfl) (by kernel_rfl) (fun _ _ _ h => h) (Or.inl ⟨by rfl, ?_⟩) hHeld ?_
        rotate_left
        · (intro w hSw; (try dsimp only at hSw); go_simp; (try (with_reducible rfl)))
        (try simp only [Act.put, List.setIfInBounds_toArray, List.set_cons_zero, List.set_cons_succ])
        refine wpAnyH_take (i := 16) (oi := ⟨some 53, _, _, _, _, _⟩) (v := ?_) rfl (by kernel_rfl) (by kernel_rfl) (by kernel_rfl) (fun _ _ _ h => h) (Or.inl ⟨by rfl, ?_⟩) hHeld ?_
        rotate_left
        · (intro w hSw; (try dsimp only at hSw); go_simp; (try (with_reducible rfl)))
        (try simp only [Act.put, List.setIfInBounds_toArray, List.set_cons_zero, List.set_cons_succ])
        refine wpAnyH_take (i := 17) (oi := ⟨some 54, _, _, _, _, _⟩) (v := ?_) rfl (by kernel_rfl) (by kernel_rfl) (by kernel_rfl) (fun _ _ _ h => h) (Or.inl ⟨by rfl, ?_⟩) hHeld ?_
        rotate_left
        · (intro w hSw; (try dsimp only at hSw); go_simp; (try (with_reducible rfl)))
        (try simp only [Act.put, List.setIfInBounds_toArray, List.set_cons_zero, List.set_cons_succ])
        refine wpAnyH_take (i := 18) (oi := ⟨some 16, _, _, _, _, _⟩) (v := ?_) rfl (by kernel_rfl) (by kernel_rfl) (by kernel_rfl) (fun _ _ _ h => h) (Or.inl ⟨by rfl, ?_⟩) hHeld ?_
        rotate_left
        · (intro w hSw; (try dsimp only at hSw); go_simp; (try (with_reducible rfl)))
        (try simp only [Act.put, List.setIfInBounds_toArray, List.set_cons_zero, List.set_cons_succ])
        refine wpAnyH_take (i := 19) (oi := ⟨some 17, _, _, _, _, _⟩) (v := ?_) rfl (by kernel_rfl) (by kernel_rfl) (by kernel_rfl) (fun _ _ _ h => h) (Or.inl ⟨by rfl, ?_⟩) hHeld ?_
        rotate_left
        · (intro w hSw; (try dsimp only at hSw); go_simp; (try (with_reducible rfl)))
        (try simp only [Act.put, List.setIfInBounds_toArray, List.set_cons_zero, List.set_cons_succ])
        refine wpAnyH_done (by kernel_rfl) ?_ _
        by_cases hf : f = 0
        · subst hf
          obtain ⟨d, U, hds, hAU, hRU, hMU⟩ := HGV.out rfl
          have HAU := Lib.hid hAU
          have HI7 := Lib.hid (SitesI.add HI.out hsl hds hRU hMU)
          clear hds hAU hRU hMU HGV
          have hfz := HO7.out.froz s
          have hcz := (HRK.out _ HO7.out).1
          have HOZ := Lib.hid (HO7.out.put hsl HAU.out)
          have HNZ := Lib.hid (NmAt.set (k := s) HN7.out hNB (.slice Au nu cu))
          have HSZ : Hid (StreamAt (w7.setCell ⟨B, s, none⟩ (.slice Au nu cu)) g A n c (K + 1 + 14 * (k + 1))) := (HS7.out.setP HGB.out _).more (by omega)
          have HGZ : Hid (w.grownBy (w7.setCell ⟨B, s, none⟩ (.slice Au nu cu)) (some g)) := grown_setNew HG7.out HWB.out _
          clear HO7 HN7 HS7 HG7 HAU
          go_wp2_with fail
          go_roundg (gk - 1)
          case measure => exact Nat.sub_lt HGK.out.2 Nat.one_pos
          case rel => exact ⟨k + 1, _, _, HGK.out.1, by go_num, HOZ.out, HNZ.out, HI7.out, HSZ.out, HGZ.out⟩
        · have hf' : (f == 0) = false := by simpa using hf
          clear HGV
          have HSZ := Lib.hid (StreamAt.more (K' := K + 1 + 14 * (k + 1)) HS7.out (by omega))
          have HIZ := Lib.hid (HI.out.more (Nat.le_succ k))
          go_wp2_with fail
          go_roundg (gk - 1)
          case measure => exact Nat.sub_lt HGK.out.2 Nat.one_pos
          case rel => exact ⟨k + 1, hd, L, HGK.out.1, by go_num, HO7.out, HN7.out, HIZ.out, HSZ.out, HG7.out⟩
      · go_wp2_with fail
        refine (doing_any g A n c _ w4 HS4.out (by omega)).mono ?_
        rintro e w5 ⟨at_, kind, id, fld, val, fr, tu, rfl, hsz, hs5, hg5⟩
        have hal : Below w5.heap.size w5 (w5.alloc (.cells #[.int .i64 fr, .int .i64 tu] 38)) := (Below.refl _ _).alloc (Nat.le_refl _) _
        have HP6 : Hid (SpB (w5.alloc (.cells #[.int .i64 fr, .int .i64 tu] 38)) w5.heap.size fr tu) := heap_alloc_new w5 _
        have HS6 := Lib.hid (hs5.below hal)
        have HO6 := Lib.hid ((HO4.out.stream HS4.out hg5 hBg).keep hal)
        have HN6 := Lib.hid (NmAt.keep (NmAt.grown HN4.out hg5 hNg) hal)
        have HG6 := Lib.hid (grown_below (grown_trans HG4.out hg5) hal)
        have HSZE := Lib.hid hsz
        clear hal hsz hs5 hg5 HS4 HO4 HN4 HG4 hbk
        go_upto_region 8 with (fail)
        obtain ⟨P, hP⟩ : ∃ P, P = w5.heap.size := ⟨_, rfl⟩
        rw [← hP] at HP6 ⊢
        generalize w5.alloc (.cells #[.int .i64 fr, .int .i64 tu] 38) = w6 at *
        clear hP
        have HAD := Lib.hid (addOf_any Ak nk ck (L s) (nameD s) at_ kind id fld val fr tu w6.drew (HRK.out _ HO6.out.drew).2 (HI.out.right s hsl) (by have := HNK.out; omega) (nameD_key s) (by rw [nameD_size]; decide) HSZE.out (fun wx hx => ⟨(HTB.out _ _ (grown_drewN HG6.out 1) hx).tabs, (HTB.out _ _ (grown_drewN HG6.out 1) hx).max, (HTB.out _ _ (grown_drewN HG6.out 1) hx).pow⟩))
        have HPd : Hid (SpB w6.drew P fr tu) := HP6.out
        have HNd : Hid (NmAt w6.drew Nm) := HN6.out
        have HSd : Hid (StreamAt w6.drew g A n c _) := HS6.out.keep (fun _ _ => rfl)
        refine wp_region_held_drew (S := fun w' => OutAt w' B hd L ∧ NmAt w' Nm ∧ SpB w' P fr tu) (by kernel_rfl) ⟨HO6.out.drew, HNd.out, HPd.out⟩ (fun hHeld => ?_)
        refine wpAnyH_take (i := 0) (oi := ⟨some 38, _, _, _, _, _⟩) (v := ?_) rfl (by kernel_rfl) (by kernel_rfl) (by kernel_rfl) (fun _ _ _ h => h) (Or.inl ⟨by rfl, ?_⟩) hHeld ?_
        rotate_left
        · (intro w hSw; (try dsimp only at hSw); go_simp; (try (with_reducible rfl)))
        (try simp only [Act.put, List.setIfInBounds_toArray, List.set_cons_zero, List.set_cons_succ])
        refine wpAnyH_take (i := 1) (oi := ⟨some 39, _, _, _, _, _⟩) (v := ?_) rfl (by kernel_rfl) (by kernel_rfl) (by kernel_rfl) (fun _ _ _ h => h) (Or.inl ⟨by rfl, ?_⟩) hHeld ?_
        rotate_left
        · (intro w hSw; (try dsimp only at hSw); go_simp; (try (with_reducible rfl)))
        (try simp only [Act.put, List.setIfInBounds_toArray, List.set_cons_zero, List.set_cons_succ])
        refine wpAnyH_take (i := 2) (oi := ⟨some 40, _, _, _, _, _⟩) (v := ?_) rfl (by kernel_rfl) (by kernel_rfl) (by kernel_rfl) (fun _ _ _ h => h) (Or.inl ⟨by rfl, ?_⟩) hHeld ?_
        rotate_left
        · (intro w hSw; (try dsimp only at hSw); go_simp; (try (with_reducible rfl)))
        (try simp only [Act.put, List.setIfInBounds_toArray, List.set_cons_zero, List.set_cons_succ])
        refine wpAnyH_take (i := 3) (oi := ⟨some 41, _, _, _, _, _⟩) (v := ?_) rfl (by kernel_rfl) (by kernel_rfl) (by kernel_rfl) (fun _ _ _ h => h) (Or.inl ⟨by rfl, ?_⟩) hHeld ?_
        rotate_left
        · (intro w hSw; (try dsimp only at hSw); have hc0 := (HRK.out _ hSw.1).1; have hn0 := NmAt.cell hSw.2.1 hsl; obtain ⟨p0, p1⟩ := SpB.c hSw.2.2; go_simp; (try (with_reducible rfl)))
        (try simp only [Act.put, List.setIfInBounds_toArray, List.set_cons_zero, List.set_cons_succ])
        refine wpAnyH_take (i := 4) (oi := ⟨some 42, _, _, _, _, _⟩) (v := ?_) rfl (by kernel_rfl) (by kernel_rfl) (by kernel_rfl) (fun _ _ _ h => h) (Or.inl ⟨by rfl, ?_⟩) hHeld ?_
        rotate_left
        · (intro w hSw; (try dsimp only at hSw); go_simp; (try (with_reducible rfl)))
        (try simp only [Act.put, List.setIfInBounds_toArray, List.set_cons_zero, List.set_cons_succ])
        refine wpAnyH_take (i := 5) (oi := ⟨some 43, _, _, _, _, _⟩) (v := ?_) rfl (by kernel_rfl) (by kernel_rfl) (by kernel_rfl) (fun _ _ _ h => h) (Or.inl ⟨by rfl, ?_⟩) hHeld ?_
        rotate_left
        · (intro w hSw; (try dsimp only at hSw); go_simp; (try (with_reducible rfl)))
        (try simp only [Act.put, List.setIfInBounds_toArray, List.set_cons_zero, List.set_cons_succ])
        refine wpAnyH_take (i := 6) (oi := ⟨some 44, _, _, _, _, _⟩) (v := ?_) rfl (by kernel_rfl) (by kernel_rfl) (by kernel_rfl) (fun _ _ _ h => h) (Or.inl ⟨by rfl, ?_⟩) hHeld ?_
        rotate_left
        · (intro w hSw; (try dsimp only at hSw); go_simp; (try (with_reducible rfl)))
        (try simp only [Act.put, List.setIfInBounds_toArray, List.set_cons_zero, List.set_cons_succ])
        refine wpAnyH_take (i := 7) (oi := ⟨some 45, _, _, _, _, _⟩) (v := ?_) rfl (by kernel_rfl) (by kernel_rfl) (by kernel_rfl) (fun _ _ _ h => h) (Or.inl ⟨by rfl, ?_⟩) hHeld ?_
        rotate_left
        · (intro w hSw; (try dsimp only at hSw); have hc0 := (HRK.out _ hSw.1).1; have hn0 := NmAt.cell hSw.2.1 hsl; obtain ⟨p0, p1⟩ := SpB.c hSw.2.2; go_simp; (try (with_reducible rfl)))
        (try simp only [Act.put, List.setIfInBounds_toArray, List.set_cons_zero, List.set_cons_succ])
        refine wpAnyH_take (i := 8) (oi := ⟨some 46, _, _, _, _, _⟩) (v := ?_) rfl (by kernel_rfl) (by kernel_rfl) (by kernel_rfl) (fun _ _ _ h => h) (Or.inl ⟨by rfl, ?_⟩) hHeld ?_
        rotate_left
        · (intro w hSw; (try dsimp only at hSw); go_simp; (try (with_reducible rfl)))
        (try simp only [Act.put, List.setIfInBounds_toArray, List.set_cons_zero, List.set_cons_succ])
        refine wpAnyH_take (i := 9) (oi := ⟨some 47, _, _, _, _, _⟩) (v := ?_) rfl (by kernel_rfl) (by kernel_rfl) (by kernel_rfl) (fun _ _ _ h => h) (Or.inl ⟨by rfl, ?_⟩) hHeld ?_
        rotate_left
        · (intro w hSw; (try dsimp only at hSw); go_simp; (try (with_reducible rfl)))
        (try simp only [Act.put, List.setIfInBounds_toArray, List.set_cons_zero, List.set_cons_succ])
        refine wpAnyH_take (i := 10) (oi := ⟨some 48, _, _, _, _, _⟩) (v := ?_) rfl (by kernel_rfl) (by kernel_rfl) (by kernel_rfl) (fun _ _ _ h => h) (Or.inl ⟨by rfl, ?_⟩) hHeld ?_
        rotate_left
        · (intro w hSw; (try dsimp only at hSw); go_simp; (try (with_reducible rfl)))
        (try simp only [Act.put, List.setIfInBounds_toArray, List.set_cons_zero, List.set_cons_succ])
        refine wpAnyH_take (i := 11) (oi := ⟨some 49, _, _, _, _, _⟩) (v := ?_) rfl (by kernel_rfl) (by kernel_rfl) (by kernel_rfl) (fun _ _ _ h => h) (Or.inl ⟨by rfl, ?_⟩) hHeld ?_
        rotate_left
        · (intro w hSw; (try dsimp only at hSw); go_simp; (try (with_reducible rfl)))
        (try simp only [Act.put, List.setIfInBounds_toArray, List.set_cons_zero, List.set_cons_succ])
        refine wpAnyH_take (i := 12) (oi := ⟨some 50, _, _, _, _, _⟩) (v := ?_) rfl (by kernel_rfl) (by kernel_rfl) (by kernel_rfl) (fun _ _ _ h => h) (Or.inl ⟨by rfl, ?_⟩) hHeld ?_
        rotate_left
        · (intro w hSw; (try dsimp only at hSw); go_simp; (try (with_reducible rfl)))
        (try simp only [Act.put, List.setIfInBounds_toArray, List.set_cons_zero, List.set_cons_succ])
        refine wpAnyH_take (i := 13) (oi := ⟨some 51, _, _, _, _, _⟩) (v := ?_) rfl (by kernel_rfl) (by kernel_rfl) (by kernel_rfl) (fun _ _ _ h => h) (Or.inl ⟨by rfl, ?_⟩) hHeld ?_
        rotate_left
        · (intro w hSw; (try dsimp only at hSw); have hc0 := (HRK.out _ hSw.1).1; have hn0 := NmAt.cell hSw.2.1 hsl; obtain ⟨p0, p1⟩ := SpB.c hSw.2.2; go_simp; (try (with_reducible rfl)))
        (try simp only [Act.put, List.setIfInBounds_toArray, List.set_cons_zero, List.set_cons_succ])
        refine wpAnyH_ready (rs := [14]) (by kernel_rfl) (by simp) ?_
        refine AllReadyH.cons (o := ⟨some 52, _, _, _, _, _⟩) rfl (fun K hK => ?_) AllReadyH.nil
        rw [if_pos (by rfl)]
        go_wp2_with fail
        refine Calls.mono HAD.out ?_
        intro e w7 hpost
        obtain ⟨Au, nu, cu, f, rfl, hb7, hgive⟩ := give_add hpost
        have HGV := Lib.hid hgive
        have HO7 := Lib.hid (HO6.out.drew.keep hb7)
        have HN7 := Lib.hid (NmAt.keep HNd.out hb7)
        have HS7 := Lib.hid (HSd.out.below hb7)
        have HG7 := Lib.hid (grown_below (grown_drewN HG6.out 1) hb7)
        have HP7 : Hid (SpB w7 P fr tu) := (hb7.block P (Array.getElem?_eq_some_iff.1 HPd.out).1).trans HPd.out
        clear hpost hgive hb7 HAD
        refine hK.out _ _ ⟨HO7.out, HN7.out, HP7.out⟩ (fun hHeld => ?_)
        clear hK K
        (try simp only [Act.put, List.setIfInBounds_toArray, List.set_cons_zero, List.set_cons_succ])
        refine wpAnyH_take (i := 15) (oi := ⟨some 37, _, _, _, _, _⟩) (v := ?_) rfl (by kernel_rfl) (by kernel_rfl) (by kernel_rfl) (fun _ _ _ h => h) (Or.inl ⟨by rfl, ?_⟩) hHeld ?_
        rotate_left
        · (intro w hSw; (try dsimp only at hSw); go_simp; (try (with_reducible rfl)))
        (try simp only [Act.put, List.setIfInBounds_toArray, List.set_cons_zero, List.set_cons_succ])
        refine wpAnyH_take (i := 16) (oi := ⟨some 53, _, _, _, _, _⟩) (v := ?_) rfl (by kernel_rfl) (by kernel_rfl) (by kernel_rfl) (fun _ _ _ h => h) (Or.inl ⟨by rfl, ?_⟩) hHeld ?_
        rotate_left
        · (intro w hSw; (try dsimp only at hSw); go_simp; (try (with_reducible rfl)))
        (try simp only [Act.put, List.setIfInBounds_toArray, List.set_cons_zero, List.set_cons_succ])
        refine wpAnyH_take (i := 17) (oi := ⟨some 54, _, _, _, _, _⟩) (v := ?_) rfl (by kernel_rfl) (by kernel_rfl) (by kernel_rfl) (fun _ _ _ h => h) (Or.inl ⟨by rfl, ?_⟩) hHeld ?_
        rotate_left
        · (intro w hSw; (try dsimp only at hSw); go_simp; (try (with_reducible rfl)))
        (try simp only [Act.put, List.setIfInBounds_toArray, List.set_cons_zero, List.set_cons_succ])
        refine wpAnyH_take (i := 18) (oi := ⟨some 16, _, _, _, _, _⟩) (v := ?_) rfl (by kernel_rfl) (by kernel_rfl) (by kernel_rfl) (fun _ _ _ h => h) (Or.inl ⟨by rfl, ?_⟩) hHeld ?_
        rotate_left
        · (intro w hSw; (try dsimp only at hSw); go_simp; (try (with_reducible rfl)))
        (try simp only [Act.put, List.setIfInBounds_toArray, List.set_cons_zero, List.set_cons_succ])
        refine wpAnyH_take (i := 19) (oi := ⟨some 17, _, _, _, _, _⟩) (v := ?_) rfl (by kernel_rfl) (by kernel_rfl) (by kernel_rfl) (fun _ _ _ h => h) (Or.inl ⟨by rfl, ?_⟩) hHeld ?_
        rotate_left
        · (intro w hSw; (try dsimp only at hSw); go_simp; (try (with_reducible rfl)))
        (try simp only [Act.put, List.setIfInBounds_toArray, List.set_cons_zero, List.set_cons_succ])
        refine wpAnyH_done (by kernel_rfl) ?_ _
        by_cases hf : f = 0
        · subst hf
          obtain ⟨d, U, hds, hAU, hRU, hMU⟩ := HGV.out rfl
          have HAU := Lib.hid hAU
          have HI7 := Lib.hid (SitesI.add HI.out hsl hds hRU hMU)
          clear hds hAU hRU hMU HGV
          have hfz := HO7.out.froz s
          have hcz := (HRK.out _ HO7.out).1
          have HOZ := Lib.hid (HO7.out.put hsl HAU.out)
          have HNZ := Lib.hid (NmAt.set (k := s) HN7.out hNB (.slice Au nu cu))
          have HSZ : Hid (StreamAt (w7.setCell ⟨B, s, none⟩ (.slice Au nu cu)) g A n c (K + 1 + 14 * (k + 1))) := (HS7.out.setP HGB.out _).more (by omega)
          have HGZ : Hid (w.grownBy (w7.setCell ⟨B, s, none⟩ (.slice Au nu cu)) (some g)) := grown_setNew HG7.out HWB.out _
          clear HO7 HN7 HS7 HG7 HAU
          go_wp2_with fail
          go_roundg (gk - 1)
          case measure => exact Nat.sub_lt HGK.out.2 Nat.one_pos
          case rel => exact ⟨k + 1, _, _, HGK.out.1, by go_num, HOZ.out, HNZ.out, HI7.out, HSZ.out, HGZ.out⟩
        · have hf' : (f == 0) = false := by simpa using hf
          clear HGV
          have HSZ := Lib.hid (StreamAt.more (K' := K + 1 + 14 * (k + 1)) HS7.out (by omega))
          have HIZ := Lib.hid (HI.out.more (Nat.le_succ k))
          go_wp2_with fail
          go_roundg (gk - 1)
          case measure => exact Nat.sub_lt HGK.out.2 Nat.one_pos
          case rel => exact ⟨k + 1, hd, L, HGK.out.1, by go_num, HO7.out, HN7.out, HIZ.out, HSZ.out, HG7.out⟩
      · go_wp2_with fail
        refine (doing_any g A n c _ w4 HS4.out (by omega)).mono ?_
        rintro e w5 ⟨at_, kind, id, fld, val, fr, tu, rfl, hsz, hs5, hg5⟩
        have hal : Below w5.heap.size w5 (w5.alloc (.cells #[.int .i64 fr, .int .i64 tu] 38)) := (Below.refl _ _).alloc (Nat.le_refl _) _
        have HP6 : Hid (SpB (w5.alloc (.cells #[.int .i64 fr, .int .i64 tu] 38)) w5.heap.size fr tu) := heap_alloc_new w5 _
        have HS6 := Lib.hid (hs5.below hal)
        have HO6 := Lib.hid ((HO4.out.stream HS4.out hg5 hBg).keep hal)
        have HN6 := Lib.hid (NmAt.keep (NmAt.grown HN4.out hg5 hNg) hal)
        have HG6 := Lib.hid (grown_below (grown_trans HG4.out hg5) hal)
        have HSZE := Lib.hid hsz
        clear hal hsz hs5 hg5 HS4 HO4 HN4 HG4 hbk
        go_upto_region 8 with (fail)
        obtain ⟨P, hP⟩ : ∃ P, P = w5.heap.size := ⟨_, rfl⟩
        rw [← hP] at HP6 ⊢
        generalize w5.alloc (.cells #[.int .i64 fr, .int .i64 tu] 38) = w6 at *
        clear hP
        have HAD := Lib.hid (addOf_any Ak nk ck (L s) (nameD s) at_ kind id fld val fr tu w6.drew (HRK.out _ HO6.out.drew).2 (HI.out.right s hsl) (by have := HNK.out; omega) (nameD_key s) (by rw [nameD_size]; decide) HSZE.out (fun wx hx => ⟨(HTB.out _ _ (grown_drewN HG6.out 1) hx).tabs, (HTB.out _ _ (grown_drewN HG6.out 1) hx).max, (HTB.out _ _ (grown_drewN HG6.out 1) hx).pow⟩))
        have HPd : Hid (SpB w6.drew P fr tu) := HP6.out
        have HNd : Hid (NmAt w6.drew Nm) := HN6.out
        have HSd : Hid (StreamAt w6.drew g A n c _) := HS6.out.keep (fun _ _ => rfl)
        refine wp_region_held_drew (S := fun w' => OutAt w' B hd L ∧ NmAt w' Nm ∧ SpB w' P fr tu) (by kernel_rfl) ⟨HO6.out.drew, HNd.out, HPd.out⟩ (fun hHeld => ?_)
        refine wpAnyH_take (i := 0) (oi := ⟨some 38, _, _, _, _, _⟩) (v := ?_) rfl (by kernel_rfl) (by kernel_rfl) (by kernel_rfl) (fun _ _ _ h => h) (Or.inl ⟨by rfl, ?_⟩) hHeld ?_
        rotate_left
        · (intro w hSw; (try dsimp only at hSw); go_simp; (try (with_reducible rfl)))
        (try simp only [Act.put, List.setIfInBounds_toArray, List.set_cons_zero, List.set_cons_succ])
        refine wpAnyH_take (i := 1) (oi := ⟨some 39, _, _, _, _, _⟩) (v := ?_) rfl (by kernel_rfl) (by kernel_rfl) (by kernel_rfl) (fun _ _ _ h => h) (Or.inl ⟨by rfl, ?_⟩) hHeld ?_
        rotate_left
        · (intro w hSw; (try dsimp only at hSw); go_simp; (try (with_reducible rfl)))
        (try simp only [Act.put, List.setIfInBounds_toArray, List.set_cons_zero, List.set_cons_succ])
        refine wpAnyH_take (i := 2) (oi := ⟨some 40, _, _, _, _, _⟩) (v := ?_) rfl (by kernel_rfl) (by kernel_rfl) (by kernel_rfl) (fun _ _ _ h => h) (Or.inl ⟨by rfl, ?_⟩) hHeld ?_
        rotate_left
        · (intro w hSw; (try dsimp only at hSw); go_simp; (try (with_reducible rfl)))
        (try simp only [Act.put, List.setIfInBounds_toArray, List.set_cons_zero, List.set_cons_succ])
        refine wpAnyH_take (i := 3) (oi := ⟨some 41, _, _, _, _, _⟩) (v := ?_) rfl (by kernel_rfl) (by kernel_rfl) (by kernel_rfl) (fun _ _ _ h => h) (Or.inl ⟨by rfl, ?_⟩) hHeld ?_
        rotate_left
        · (intro w hSw; (try dsimp only at hSw); have hc0 := (HRK.out _ hSw.1).1; have hn0 := NmAt.cell hSw.2.1 hsl; obtain ⟨p0, p1⟩ := SpB.c hSw.2.2; go_simp; (try (with_reducible rfl)))
        (try simp only [Act.put, List.setIfInBounds_toArray, List.set_cons_zero, List.set_cons_succ])
        refine wpAnyH_take (i := 4) (oi := ⟨some 42, _, _, _, _, _⟩) (v := ?_) rfl (by kernel_rfl) (by kernel_rfl) (by kernel_rfl) (fun _ _ _ h => h) (Or.inl ⟨by rfl, ?_⟩) hHeld ?_
        rotate_left
        · (intro w hSw; (try dsimp only at hSw); go_simp; (try (with_reducible rfl)))
        (try simp only [Act.put, List.setIfInBounds_toArray, List.set_cons_zero, List.set_cons_succ])
        refine wpAnyH_take (i := 5) (oi := ⟨some 43, _, _, _, _, _⟩) (v := ?_) rfl (by kernel_rfl) (by kernel_rfl) (by kernel_rfl) (fun _ _ _ h => h) (Or.inl ⟨by rfl, ?_⟩) hHeld ?_
        rotate_left
        · (intro w hSw; (try dsimp only at hSw); go_simp; (try (with_reducible rfl)))
        (try simp only [Act.put, List.setIfInBounds_toArray, List.set_cons_zero, List.set_cons_succ])
        refine wpAnyH_take (i := 6) (oi := ⟨some 44, _, _, _, _, _⟩) (v := ?_) rfl (by kernel_rfl) (by kernel_rfl) (by kernel_rfl) (fun _ _ _ h => h) (Or.inl ⟨by rfl, ?_⟩) hHeld ?_
        rotate_left
        · (intro w hSw; (try dsimp only at hSw); go_simp; (try (with_reducible rfl)))
        (try simp only [Act.put, List.setIfInBounds_toArray, List.set_cons_zero, List.set_cons_succ])
        refine wpAnyH_take (i := 7) (oi := ⟨some 45, _, _, _, _, _⟩) (v := ?_) rfl (by kernel_rfl) (by kernel_rfl) (by kernel_rfl) (fun _ _ _ h => h) (Or.inl ⟨by rfl, ?_⟩) hHeld ?_
        rotate_left
        · (intro w hSw; (try dsimp only at hSw); have hc0 := (HRK.out _ hSw.1).1; have hn0 := NmAt.cell hSw.2.1 hsl; obtain ⟨p0, p1⟩ := SpB.c hSw.2.2; go_simp; (try (with_reducible rfl)))
        (try simp only [Act.put, List.setIfInBounds_toArray, List.set_cons_zero, List.set_cons_succ])
        refine wpAnyH_take (i := 8) (oi := ⟨some 46, _, _, _, _, _⟩) (v := ?_) rfl (by kernel_rfl) (by kernel_rfl) (by kernel_rfl) (fun _ _ _ h => h) (Or.inl ⟨by rfl, ?_⟩) hHeld ?_
        rotate_left
        · (intro w hSw; (try dsimp only at hSw); go_simp; (try (with_reducible rfl)))
        (try simp only [Act.put, List.setIfInBounds_toArray, List.set_cons_zero, List.set_cons_succ])
        refine wpAnyH_take (i := 9) (oi := ⟨some 47, _, _, _, _, _⟩) (v := ?_) rfl (by kernel_rfl) (by kernel_rfl) (by kernel_rfl) (fun _ _ _ h => h) (Or.inl ⟨by rfl, ?_⟩) hHeld ?_
        rotate_left
        · (intro w hSw; (try dsimp only at hSw); go_simp; (try (with_reducible rfl)))
        (try simp only [Act.put, List.setIfInBounds_toArray, List.set_cons_zero, List.set_cons_succ])
        refine wpAnyH_take (i := 10) (oi := ⟨some 48, _, _, _, _, _⟩) (v := ?_) rfl (by kernel_rfl) (by kernel_rfl) (by kernel_rfl) (fun _ _ _ h => h) (Or.inl ⟨by rfl, ?_⟩) hHeld ?_
        rotate_left
        · (intro w hSw; (try dsimp only at hSw); go_simp; (try (with_reducible rfl)))
        (try simp only [Act.put, List.setIfInBounds_toArray, List.set_cons_zero, List.set_cons_succ])
        refine wpAnyH_take (i := 11) (oi := ⟨some 49, _, _, _, _, _⟩) (v := ?_) rfl (by kernel_rfl) (by kernel_rfl) (by kernel_rfl) (fun _ _ _ h => h) (Or.inl ⟨by rfl, ?_⟩) hHeld ?_
        rotate_left
        · (intro w hSw; (try dsimp only at hSw); go_simp; (try (with_reducible rfl)))
        (try simp only [Act.put, List.setIfInBounds_toArray, List.set_cons_zero, List.set_cons_succ])
        refine wpAnyH_take (i := 12) (oi := ⟨some 50, _, _, _, _, _⟩) (v := ?_) rfl (by kernel_rfl) (by kernel_rfl) (by kernel_rfl) (fun _ _ _ h => h) (Or.inl ⟨by rfl, ?_⟩) hHeld ?_
        rotate_left
        · (intro w hSw; (try dsimp only at hSw); go_simp; (try (with_reducible rfl)))
        (try simp only [Act.put, List.setIfInBounds_toArray, List.set_cons_zero, List.set_cons_succ])
        refine wpAnyH_take (i := 13) (oi := ⟨some 51, _, _, _, _, _⟩) (v := ?_) rfl (by kernel_rfl) (by kernel_rfl) (by kernel_rfl) (fun _ _ _ h => h) (Or.inl ⟨by rfl, ?_⟩) hHeld ?_
        rotate_left
        · (intro w hSw; (try dsimp only at hSw); have hc0 := (HRK.out _ hSw.1).1; have hn0 := NmAt.cell hSw.2.1 hsl; obtain ⟨p0, p1⟩ := SpB.c hSw.2.2; go_simp; (try (with_reducible rfl)))
        (try simp only [Act.put, List.setIfInBounds_toArray, List.set_cons_zero, List.set_cons_succ])
        refine wpAnyH_ready (rs := [14]) (by kernel_rfl) (by simp) ?_
        refine AllReadyH.cons (o := ⟨some 52, _, _, _, _, _⟩) rfl (fun K hK => ?_) AllReadyH.nil
        rw [if_pos (by rfl)]
        go_wp2_with fail
        refine Calls.mono HAD.out ?_
        intro e w7 hpost
        obtain ⟨Au, nu, cu, f, rfl, hb7, hgive⟩ := give_add hpost
        have HGV := Lib.hid hgive
        have HO7 := Lib.hid (HO6.out.drew.keep hb7)
        have HN7 := Lib.hid (NmAt.keep HNd.out hb7)
        have HS7 := Lib.hid (HSd.out.below hb7)
        have HG7 := Lib.hid (grown_below (grown_drewN HG6.out 1) hb7)
        have HP7 : Hid (SpB w7 P fr tu) := (hb7.block P (Array.getElem?_eq_some_iff.1 HPd.out).1).trans HPd.out
        clear hpost hgive hb7 HAD
        refine hK.out _ _ ⟨HO7.out, HN7.out, HP7.out⟩ (fun hHeld => ?_)
        clear hK K
        (try simp only [Act.put, List.setIfInBounds_toArray, List.set_cons_zero, List.set_cons_succ])
        refine wpAnyH_take (i := 15) (oi := ⟨some 37, _, _, _, _, _⟩) (v := ?_) rfl (by kernel_rfl) (by kernel_rfl) (by kernel_rfl) (fun _ _ _ h => h) (Or.inl ⟨by rfl, ?_⟩) hHeld ?_
        rotate_left
        · (intro w hSw; (try dsimp only at hSw); go_simp; (try (with_reducible rfl)))
        (try simp only [Act.put, List.setIfInBounds_toArray, List.set_cons_zero, List.set_cons_succ])
        refine wpAnyH_take (i := 16) (oi := ⟨some 53, _, _, _, _, _⟩) (v := ?_) rfl (by kernel_rfl) (by kernel_rfl) (by kernel_rfl) (fun _ _ _ h => h) (Or.inl ⟨by rfl, ?_⟩) hHeld ?_
        rotate_left
        · (intro w hSw; (try dsimp only at hSw); go_simp; (try (with_reducible rfl)))
        (try simp only [Act.put, List.setIfInBounds_toArray, List.set_cons_zero, List.set_cons_succ])
        refine wpAnyH_take (i := 17) (oi := ⟨some 54, _, _, _, _, _⟩) (v := ?_) rfl (by kernel_rfl) (by kernel_rfl) (by kernel_rfl) (fun _ _ _ h => h) (Or.inl ⟨by rfl, ?_⟩) hHeld ?_
        rotate_left
        · (intro w hSw; (try dsimp only at hSw); go_simp; (try (with_reducible rfl)))
        (try simp only [Act.put, List.setIfInBounds_toArray, List.set_cons_zero, List.set_cons_succ])
        refine wpAnyH_take (i := 18) (oi := ⟨some 16, _, _, _, _, _⟩) (v := ?_) rfl (by kernel_rfl) (by kernel_rfl) (by kernel_rfl) (fun _ _ _ h => h) (Or.inl ⟨by rfl, ?_⟩) hHeld ?_
        rotate_left
        · (intro w hSw; (try dsimp only at hSw); go_simp; (try (with_reducible rfl)))
        (try simp only [Act.put, List.setIfInBounds_toArray, List.set_cons_zero, List.set_cons_succ])
        refine wpAnyH_take (i := 19) (oi := ⟨some 17, _, _, _, _, _⟩) (v := ?_) rfl (by kernel_rfl) (by kernel_rfl) (by kernel_rfl) (fun _ _ _ h => h) (Or.inl ⟨by rfl, ?_⟩) hHeld ?_
        rotate_left
        · (intro w hSw; (try dsimp only at hSw); go_simp; (try (with_reducible rfl)))
        (try simp only [Act.put, List.setIfInBounds_toArray, List.set_cons_zero, List.set_cons_succ])
        refine wpAnyH_done (by kernel_rfl) ?_ _
        by_cases hf : f = 0
        · subst hf
          obtain ⟨d, U, hds, hAU, hRU, hMU⟩ := HGV.out rfl
          have HAU := Lib.hid hAU
          have HI7 := Lib.hid (SitesI.add HI.out hsl hds hRU hMU)
          clear hds hAU hRU hMU HGV
          have hfz := HO7.out.froz s
          have hcz := (HRK.out _ HO7.out).1
          have HOZ := Lib.hid (HO7.out.put hsl HAU.out)
          have HNZ := Lib.hid (NmAt.set (k := s) HN7.out hNB (.slice Au nu cu))
          have HSZ : Hid (StreamAt (w7.setCell ⟨B, s, none⟩ (.slice Au nu cu)) g A n c (K + 1 + 14 * (k + 1))) := (HS7.out.setP HGB.out _).more (by omega)
          have HGZ : Hid (w.grownBy (w7.setCell ⟨B, s, none⟩ (.slice Au nu cu)) (some g)) := grown_setNew HG7.out HWB.out _
          clear HO7 HN7 HS7 HG7 HAU
          go_wp2_with fail
          go_roundg (gk - 1)
          case measure => exact Nat.sub_lt HGK.out.2 Nat.one_pos
          case rel => exact ⟨k + 1, _, _, HGK.out.1, by go_num, HOZ.out, HNZ.out, HI7.out, HSZ.out, HGZ.out⟩
        · have hf' : (f == 0) = false := by simpa using hf
          clear HGV
          have HSZ := Lib.hid (StreamAt.more (K' := K + 1 + 14 * (k + 1)) HS7.out (by omega))
          have HIZ := Lib.hid (HI.out.more (Nat.le_succ k))
          go_wp2_with fail
          go_roundg (gk - 1)
          case measure => exact Nat.sub_lt HGK.out.2 Nat.one_pos
          case rel => exact ⟨k + 1, hd, L, HGK.out.1, by go_num, HO7.out, HN7.out, HIZ.out, HSZ.out, HG7.out⟩
    · have hnk : ¬ (k : Int) < (r : Int) := by omega
      have HF : Hid (SitesPost w g A n c K (.returned (.slice (some ⟨B, 0, none⟩) 3 3)) wr) := ⟨B, hd, L, rfl, HO.out, HI.out.more (by omega), HGB.out, HS.out.more (by omega), HG.out⟩
      clear HK HO HN HI HS HG
      go_wp2_with fail
      go_ret
      exact HF.out
end Go.Proofs.YthogkcgklakibaaGreatDoor
