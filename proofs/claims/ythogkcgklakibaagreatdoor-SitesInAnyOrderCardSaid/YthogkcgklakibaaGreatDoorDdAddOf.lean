
/-
  chaseref1.AddOf at a right list.
-/
import Derived.Test.YthogkcgklakibaaGreatDoorDdAdd
import Derived.Test.YthogkcgklakibaaGreatDoorDdF
namespace Go.Proofs.YthogkcgklakibaaGreatDoor
open Go.RowKit
attribute [local go_sem ↓] Go.wp_at_zero Go.wp_at_succ

/-- A deed that is made. -/
def newDeed (site : ByteArray) (at_ kind : Int) (id fld val : ByteArray) (fr tu : Int) : Deed := ⟨site, 0, at_, kind, id, fld, val, fr, tu, zeroB, 0, zeroB⟩
theorem GoodD.small {d : Deed} (hg : GoodD d) (hn : 0 ≤ d.no ∧ d.no ≤ 2001) (hk : keyL (byteL d.site) = true) (hs : d.sum.size ≤ 1000) (hof : 0 ≤ d.ono ∧ d.ono ≤ 2001 ∧ d.osite.size ≤ 40) : SmallD d ∧ (∀ b ∈ byteL d.val, b ≠ 10) := by
  have z0 : zeroB.size = 0 := rfl
  have kz : byteL zeroB = [] := rfl
  have hid : d.id.size ≤ 40 := by
    have k := hg.id
    split at k
    · rw [k, z0]; omega
    · rw [← byteL_len]; exact keyL_len k
  have hfl : d.fld.size ≤ 40 := by
    have k := hg.fld
    split at k
    · rw [← byteL_len]; exact keyL_len k
    · rw [k, z0]; omega
  have hva : d.val.size ≤ 200 ∧ ∀ b ∈ byteL d.val, b ≠ 10 := by
    have k := hg.val
    split at k
    · exact ⟨by omega, plainB_no10 k.1⟩
    · split at k
      · exact ⟨by rw [← byteL_len]; have := keyL_len k; omega, keyL_no10 k⟩
      · split at k
        · exact ⟨by omega, plainB_no10 k.1⟩
        · rw [k]; exact ⟨by rw [z0]; omega, fun b hb => by rw [kz] at hb; cases hb⟩
  have hsp : 0 ≤ d.from_ ∧ d.from_ ≤ 20000 ∧ 0 ≤ d.to_ ∧ d.to_ ≤ 20000 := by
    have k := hg.span
    split at k <;> omega
  have hsi : d.site.size ≤ 40 := by rw [← byteL_len]; exact keyL_len hk
  have hat := hg.at_
  have hki := hg.kind
  exact ⟨⟨by omega, by omega, by omega, by omega, by omega, by omega, by omega, by omega, by omega, by omega, by omega, by omega⟩, hva.2⟩
theorem GoodD.next {d : Deed} (h : GoodD d) (l : List Deed) : GoodD (nextD l d) := ⟨h.at_, h.kind, h.id, h.fld, h.val, h.span, h.of_⟩
/-- A right list and the deed that follows in it. -/
theorem RightD.next {l L : List Deed} {d : Deed} (h : RightD l) (hk : keyL (byteL d.site) = true) (hg : GoodD d) (ho : OfD l (nextD l d)) (hord : L.Pairwise StLt) (hm : ∀ x, x ∈ L ↔ x ∈ l ∨ x = nextD l d) (hf : L.length ≤ 2000) : RightD L :=
  h.add (nextD l d) hk (hg.next l) rfl rfl ho hord hm hf
def MadePost (w : World) (l : List Deed) (d : Deed) (e : Ending) (w' : World) : Prop :=
  ∃ A n c L, e = .returned (.tuple #[.slice A n c, .int .i64 0]) ∧ DeedsAt w' A n c L ∧ RightD L ∧ (∀ x, x ∈ L ↔ x ∈ l ∨ x = nextD l d) ∧ L.length = l.length + 1 ∧ Below w.heap.size w w'
def NonePost (w : World) (e : Ending) (w' : World) : Prop := ∃ f : Int, f ≠ 0 ∧ e = .returned (.tuple #[.slice none 0 0, .int .i64 f]) ∧ Below w.heap.size w w'
def AddOfPost (w : World) (l : List Deed) (d : Deed) (e : Ending) (w' : World) : Prop := (NonePost w e w' ∧ ¬ (backB d.kind = false ∧ GoodD d)) ∨ (MadePost w l d e w' ∧ backB d.kind = false ∧ GoodD d)
set_option maxHeartbeats 3200000 in
set_option maxRecDepth 100000 in
theorem addOf_any (A : Option Addr) (n c : Nat) (l : List Deed) (site : ByteArray) (at_ kind : Int) (id fld val : ByteArray) (fr tu : Int) (w : World) (h : DeedsAt w A n c l) (hl : RightD l) (hn : n < 2000) (hk : keyL (byteL site) = true) (hss : site.size ≤ 1000)
    (hz : id.size ≤ 1000 ∧ fld.size ≤ 1000 ∧ val.size ≤ 1000) (hT : ∀ wx, Below w.heap.size w wx → Tabs wx ∧ MaxAt wx ∧ PowAt wx) :
    Calls Tryz.prog 29 #[.slice A n c, .string site, .int .i64 at_, .int .i64 kind, .string id, .string fld, .string val, .agg #[.int .i64 fr, .int .i64 tu]] w (AddOfPost w l (newDeed site at_ kind id fld val fr tu)) := by
  have HN : Hid (n = l.length) := h.1
  have HL := Lib.hid hl
  have HK := Lib.hid hk
  have HZ := Lib.hid hz
  have HTT := Lib.hid hT
  have HAT0 := Lib.hid h
  have hb1 : Below w.heap.size w (w.alloc (.cells #[.int .i64 fr, .int .i64 tu] 38)) := (Below.refl _ _).alloc (Nat.le_refl _) _
  have HSB : Hid ((w.alloc (.cells #[.int .i64 fr, .int .i64 tu] 38)).heap[w.heap.size]? = some (.cells #[.int .i64 fr, .int .i64 tu] 38 (0, 0))) := heap_alloc_new w _
  have HB1 := Lib.hid hb1
  have HSF := Lib.hid (siteFault_any A n c site at_ (w.alloc (.cells #[.int .i64 fr, .int .i64 tu] 38)) hss hk hn)
  clear h hl hk hz hT hb1
  go_enter Tryz.func29, Tryz.ntmps29
  go_upto_region 1 with (fail)
  obtain ⟨P, hPe⟩ : ∃ P, P = w.heap.size := ⟨_, rfl⟩
  have HPE := Lib.hid hPe
  rw [← hPe] at HSB ⊢
  clear hPe
  generalize w.alloc (.cells #[.int .i64 fr, .int .i64 tu] 38) = w1 at *
  generalize hmb : momB at_ = mb at *
  cases mb with
  | false =>
    have h10 : ((1 : Int) != 0) = true := rfl
    go_wp2_with fail
    refine HSF.out.mono ?_
    rintro e w2 ⟨rfl, hb2⟩
    have HF : Hid (NonePost w (.returned (.tuple #[.slice none 0 0, .int .i64 1])) w2) := ⟨1, by decide, rfl, HB1.out.trans (hb2.mono HB1.out.size)⟩
    clear hb2
    go_wp2_with fail
    go_ret2
    refine .inl ⟨HF.out, ?_⟩
    rintro ⟨-, hg⟩
    have h := hg.at_
    have : momB at_ = true := decide_eq_true h
    rw [hmb] at this
    cases this
  | true =>
    have HMB := Lib.hid hmb
    clear hmb
    go_wp2_with fail
    refine HSF.out.mono ?_
    rintro e w2 ⟨rfl, hb2⟩
    have HB2 : Hid (Below w.heap.size w w2) := HB1.out.trans (hb2.mono HB1.out.size)
    have HSB2 : Hid (w2.heap[P]? = some (.cells #[.int .i64 fr, .int .i64 tu] 38 (0, 0))) := (hb2.block P (Array.getElem?_eq_some_iff.1 HSB.out).1).trans HSB.out
    clear hb2 HSF HSB HB1
    by_cases hk3 : kind = 3
    · subst hk3
      have HF : Hid (NonePost w (.returned (.tuple #[.slice none 0 0, .int .i64 4])) w2) := ⟨4, by decide, rfl, HB2.out⟩
      go_wp2_with fail
      go_ret2
      exact .inl ⟨HF.out, fun h => by have k := h.1; simp [newDeed, backB] at k⟩
    by_cases hk6 : kind = 6
    · subst hk6
      have HF : Hid (NonePost w (.returned (.tuple #[.slice none 0 0, .int .i64 4])) w2) := ⟨4, by decide, rfl, HB2.out⟩
      clear hk3
      go_wp2_with fail
      go_ret2
      exact .inl ⟨HF.out, fun h => by have k := h.1; simp [newDeed, backB] at k⟩
    have HBK : Hid (backB kind = false) := by show _ = _; unfold backB; simp [hk3, hk6]
    have q3 : (kind == 3) = false := by simpa using hk3
    have q6 : (kind == 6) = false := by simpa using hk6
    clear hk3 hk6
    have s0 : w2.cell? ⟨P, 0, none⟩ = some (.int .i64 fr) := by rw [cell_of_row w2 P _ _ _ _ HSB2.out]; rfl
    have s1 : w2.cell? ⟨P, 1, none⟩ = some (.int .i64 tu) := by rw [cell_of_row w2 P _ _ _ _ HSB2.out]; rfl
    go_upto_region 7 with (fail)
    have hal : Below w2.heap.size w2 (w2.alloc (.cells #[.string site, .int .i64 0, .int .i64 at_, .int .i64 kind, .string id, .string fld, .string val, .int .i64 fr, .int .i64 tu, .string ⟨#[]⟩, .int .i64 0, .string ⟨#[]⟩] 40)) := (Below.refl _ _).alloc (Nat.le_refl _) _
    have HD3 : Hid (DeedAt (w2.alloc (.cells #[.string site, .int .i64 0, .int .i64 at_, .int .i64 kind, .string id, .string fld, .string val, .int .i64 fr, .int .i64 tu, .string ⟨#[]⟩, .int .i64 0, .string ⟨#[]⟩] 40)) w2.heap.size (newDeed site at_ kind id fld val fr tu)) := deed_new w2 (newDeed site at_ kind id fld val fr tu)
    have HB3 : Hid (Below w.heap.size w (w2.alloc (.cells #[.string site, .int .i64 0, .int .i64 at_, .int .i64 kind, .string id, .string fld, .string val, .int .i64 fr, .int .i64 tu, .string ⟨#[]⟩, .int .i64 0, .string ⟨#[]⟩] 40))) := HB2.out.trans (hal.mono HB2.out.size)
    clear hal s0 s1 HSB2 HB2 q3 q6
    generalize w2.heap.size = Q at *
    generalize w2.alloc (.cells #[.string site, .int .i64 0, .int .i64 at_, .int .i64 kind, .string id, .string fld, .string val, .int .i64 fr, .int .i64 tu, .string ⟨#[]⟩, .int .i64 0, .string ⟨#[]⟩] 40) = w3 at *
    obtain ⟨a0, a1, a2, a3, a4, a5, a6, a7, a8, a9, a10, a11⟩ := HD3.out.c
    simp only [newDeed, zeroB] at a0 a1 a2 a3 a4 a5 a6 a7 a8 a9 a10 a11
    have HDF : Hid (Calls Tryz.prog 69 #[.agg #[.string site, .int .i64 0, .int .i64 at_, .int .i64 kind, .string id, .string fld, .string val, .int .i64 fr, .int .i64 tu, .string ⟨#[]⟩, .int .i64 0, .string ⟨#[]⟩]] w3 fun e w' => (∃ f, e = .returned (.int .i64 f) ∧ (f = 0 ↔ GoodD (newDeed site at_ kind id fld val fr tu))) ∧ Below w3.heap.size w3 w')  :=
      deedFault_any (newDeed site at_ kind id fld val fr tu) w3 ⟨HZ.out.1, HZ.out.2.1, HZ.out.2.2⟩ (HTT.out w3 HB3.out).1 (HTT.out w3 HB3.out).2.1
    go_wp2_with fail
    refine HDF.out.mono ?_
    rintro e w4 ⟨⟨f, rfl, hf⟩, hb4⟩
    have HFG := Lib.hid hf
    have HB4 : Hid (Below w.heap.size w w4) := HB3.out.trans (hb4.mono HB3.out.size)
    have HD4 := Lib.hid (HD3.out.keep hb4)
    clear hf hb4 HDF HD3 HB3 a0 a1 a2 a3 a4 a5 a6 a7 a8 a9 a10 a11
    by_cases hf0 : f = 0
    · subst hf0
      have HG := Lib.hid (HFG.out.1 rfl)
      obtain ⟨hsm, h10⟩ := HG.out.small (by show 0 ≤ (0 : Int) ∧ (0 : Int) ≤ 2001; omega) HK.out (by show 0 ≤ 1000; omega) (by show 0 ≤ (0 : Int) ∧ (0 : Int) ≤ 2001 ∧ 0 ≤ 40; omega)
      have HAT4 : Hid (DeedsAt w4 A n c l) := ElemsAt.keep HAT0.out HB4.out
      have HAD : Hid (Calls Tryz.prog 70 #[.slice A n c, .agg #[.string site, .int .i64 0, .int .i64 at_, .int .i64 kind, .string id, .string fld, .string val, .int .i64 fr, .int .i64 tu, .string ⟨#[]⟩, .int .i64 0, .string ⟨#[]⟩]] w4 (AddPost w4 l (newDeed site at_ kind id fld val fr tu))) := added1_any A n c l (newDeed site at_ kind id fld val fr tu) w4 HAT4.out HL.out hsm h10 (HTT.out w4 HB4.out).2.2
      obtain ⟨a0, a1, a2, a3, a4, a5, a6, a7, a8, a9, a10, a11⟩ := HD4.out.c
      simp only [newDeed, zeroB] at a0 a1 a2 a3 a4 a5 a6 a7 a8 a9 a10 a11
      clear hsm h10
      go_wp2_with fail
      refine HAD.out.mono ?_
      rintro e w5 ⟨A5, n5, c5, L, rfl, hat5, hord, hm, hln, hb5⟩
      have HF : Hid (AddOfPost w l (newDeed site at_ kind id fld val fr tu) (.returned (.tuple #[.slice A5 n5 c5, .int .i64 0])) w5) := .inr ⟨⟨A5, n5, c5, L, rfl, hat5, HL.out.next HK.out HG.out (fun hb => by rw [show backB (nextD l (newDeed site at_ kind id fld val fr tu)).kind = false from HBK.out] at hb; cases hb) hord hm (by have := HN.out; omega), hm, hln, HB4.out.trans (hb5.mono HB4.out.size)⟩, HBK.out, HG.out⟩
      clear hat5 hord hm hln hb5 HAD
      go_wp2_with fail
      go_ret2
      exact HF.out
    · have hfb : (f != 0) = true := by simpa using hf0
      have HF : Hid (NonePost w (.returned (.tuple #[.slice none 0 0, .int .i64 f])) w4) := ⟨f, hf0, rfl, HB4.out⟩
      go_wp2_with fail
      go_ret2
      exact .inl ⟨HF.out, fun h => hf0 (HFG.out.2 h.2)⟩
end Go.Proofs.YthogkcgklakibaaGreatDoor
