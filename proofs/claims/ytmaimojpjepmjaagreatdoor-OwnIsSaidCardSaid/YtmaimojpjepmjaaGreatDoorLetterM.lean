
/-
  The maker of letters: what Letter returns.
-/
import Derived.Test.YtmaimojpjepmjaaGreatDoorBodyM
import Derived.Test.YtmaimojpjepmjaaGreatDoorSetMap
import Derived.Test.YtmaimojpjepmjaaGreatDoorOwnSet
import Derived.Test.YtmaimojpjepmjaaGreatDoorContains
namespace Go.Proofs.YtmaimojpjepmjaaGreatDoor
open Go.RowKit Go.Maps

def peopleB : List ByteArray := [⟨#[97, 110, 110, 64, 102, 105, 114, 109, 46, 100, 101]⟩, ⟨#[98, 111, 64, 102, 105, 114, 109, 46, 100, 101]⟩, ⟨#[108, 97, 119, 64, 111, 117, 114, 115, 46, 100, 101]⟩, ⟨#[97, 105, 100, 64, 111, 117, 114, 115, 46, 100, 101]⟩, ⟨#[99, 121, 64, 101, 108, 115, 101, 46, 100, 101]⟩, ⟨#[97, 108, 108, 64, 102, 105, 114, 109, 46, 100, 101]⟩, ⟨#[100, 101, 101, 64, 120, 46, 102, 105, 114, 109, 46, 100, 101]⟩]
theorem people_le : ∀ s ∈ peopleB, s.size ≤ 13 := by decide +kernel
set_option maxHeartbeats 800000 in
theorem people_any (w : World) : Calls Tryz.prog 23 #[] w fun e w' => e = .returned (.slice (some ⟨w.heap.size, 0, none⟩) 7 7) ∧ w' = w.alloc (.cells (peopleB.map Value.string).toArray 9) := by
  go_enter Tryz.func23, Tryz.ntmps23
  go_wp2_with fail
  go_ret
  exact ⟨rfl, rfl⟩
/-- An address. -/
def AddrE : Elem (ByteArray × ByteArray) := ⟨27, 28, 2, 32, .agg #[.string ⟨#[]⟩, .string ⟨#[]⟩], fun x => [.string x.1, .string x.2]⟩
theorem addrE_ok : AddrE.Ok := ⟨fun _ => rfl, fun x u hu => by simp [AddrE] at hu; rcases hu with rfl | rfl <;> rfl, by decide, by decide, by kernel_rfl, by kernel_rfl, Tryz.underlying28⟩
/-- The cells of a letter. -/
def MailAt (w : World) (M : Nat) (id : ByteArray) (at_ : Int) (nm ml : ByteArray) (vt vc vr : Value) (sb body : ByteArray) : Prop :=
  w.heap[M]? = some (.cells #[.string id, .int .i64 at_, .string nm, .string ml, vt, vc, vr, .string sb, .string body] 31 (0, 0))
theorem MailAt.keep {w w' : World} {M : Nat} {id : ByteArray} {at_ : Int} {nm ml : ByteArray} {vt vc vr : Value} {sb body : ByteArray} {row : Option Nat} (h : MailAt w M id at_ nm ml vt vc vr sb body) (hb : w.grownBy w' row) (hr : row ≠ some M) : MailAt w' M id at_ nm ml vt vc vr sb body :=
  (hb.block M (Array.getElem?_eq_some_iff.1 h).1 (fun e => hr e.symm)).trans h
theorem MailAt.lt {w : World} {M : Nat} {id : ByteArray} {at_ : Int} {nm ml : ByteArray} {vt vc vr : Value} {sb body : ByteArray} (h : MailAt w M id at_ nm ml vt vc vr sb body) : M < w.heap.size := (Array.getElem?_eq_some_iff.1 h).1
theorem MailAt.c {w : World} {M : Nat} {id : ByteArray} {at_ : Int} {nm ml : ByteArray} {vt vc vr : Value} {sb body : ByteArray} (h : MailAt w M id at_ nm ml vt vc vr sb body) :
    w.cell? ⟨M, 0, none⟩ = some (.string id) ∧ w.cell? ⟨M, 1, none⟩ = some (.int .i64 at_) ∧ w.cell? ⟨M, 2, none⟩ = some (.string nm) ∧ w.cell? ⟨M, 3, none⟩ = some (.string ml) ∧ w.cell? ⟨M, 4, none⟩ = some vt ∧ w.cell? ⟨M, 5, none⟩ = some vc ∧ w.cell? ⟨M, 6, none⟩ = some vr ∧ w.cell? ⟨M, 7, none⟩ = some (.string sb) ∧ w.cell? ⟨M, 8, none⟩ = some (.string body) := by
  refine ⟨?_, ?_, ?_, ?_, ?_, ?_, ?_, ?_, ?_⟩ <;> (rw [cell_of_row w M _ _ _ _ h]; rfl)
theorem MailAt.fz {w : World} {M : Nat} {id : ByteArray} {at_ : Int} {nm ml : ByteArray} {vt vc vr : Value} {sb body : ByteArray} (h : MailAt w M id at_ nm ml vt vc vr sb body) (i : Nat) : w.frozen? ⟨M, i, none⟩ = false := by
  simp [World.frozen?, show w.heap[M]? = _ from h]
theorem MailAt.setName {w : World} {M : Nat} {id : ByteArray} {at_ : Int} {nm ml : ByteArray} {vt vc vr : Value} {sb body : ByteArray} (h : MailAt w M id at_ nm ml vt vc vr sb body) (x : ByteArray) : MailAt (w.setCell ⟨M, 2, none⟩ (.string x)) M id at_ x ml vt vc vr sb body := by
  simp [MailAt, World.setCell, Array.getElem?_modify, show w.heap[M]? = _ from h]
theorem MailAt.setTo {w : World} {M : Nat} {id : ByteArray} {at_ : Int} {nm ml : ByteArray} {vt vc vr : Value} {sb body : ByteArray} (h : MailAt w M id at_ nm ml vt vc vr sb body) (x : Value) : MailAt (w.setCell ⟨M, 4, none⟩ x) M id at_ nm ml x vc vr sb body := by
  simp [MailAt, World.setCell, Array.getElem?_modify, show w.heap[M]? = _ from h]
theorem MailAt.setCc {w : World} {M : Nat} {id : ByteArray} {at_ : Int} {nm ml : ByteArray} {vt vc vr : Value} {sb body : ByteArray} (h : MailAt w M id at_ nm ml vt vc vr sb body) (x : Value) : MailAt (w.setCell ⟨M, 5, none⟩ x) M id at_ nm ml vt x vr sb body := by
  simp [MailAt, World.setCell, Array.getElem?_modify, show w.heap[M]? = _ from h]
theorem MailAt.setRefs {w : World} {M : Nat} {id : ByteArray} {at_ : Int} {nm ml : ByteArray} {vt vc vr : Value} {sb body : ByteArray} (h : MailAt w M id at_ nm ml vt vc vr sb body) (x : Value) : MailAt (w.setCell ⟨M, 6, none⟩ x) M id at_ nm ml vt vc x sb body := by
  simp [MailAt, World.setCell, Array.getElem?_modify, show w.heap[M]? = _ from h]
theorem MailAt.setSubj {w : World} {M : Nat} {id : ByteArray} {at_ : Int} {nm ml : ByteArray} {vt vc vr : Value} {sb body : ByteArray} (h : MailAt w M id at_ nm ml vt vc vr sb body) (x : ByteArray) : MailAt (w.setCell ⟨M, 7, none⟩ (.string x)) M id at_ nm ml vt vc vr x body := by
  simp [MailAt, World.setCell, Array.getElem?_modify, show w.heap[M]? = _ from h]
theorem two_c {w : World} {b : Nat} {a0 a1 : Value} {t : TypeId} (h : w.heap[b]? = some (.cells #[a0, a1] t (0, 0))) : w.cell? ⟨b, 0, none⟩ = some a0 ∧ w.cell? ⟨b, 1, none⟩ = some a1 ∧ w.frozen? ⟨b, 0, none⟩ = false ∧ w.frozen? ⟨b, 1, none⟩ = false ∧ b < w.heap.size := by
  refine ⟨?_, ?_, by simp [World.frozen?, h], by simp [World.frozen?, h], (Array.getElem?_eq_some_iff.1 h).1⟩ <;> (rw [cell_of_row w b _ _ _ _ h]; rfl)
theorem mail_all {w : World} {M : Nat} {id : ByteArray} {at_ : Int} {nm ml : ByteArray} {vt vc vr : Value} {sb body : ByteArray} (h : MailAt w M id at_ nm ml vt vc vr sb body) (id' : ByteArray) (at' : Int) (nm' ml' : ByteArray) (vt' vc' vr' : Value) (sb' body' : ByteArray) :
    MailAt (((((((((w.setCell ⟨M, 0, none⟩ (.string id')).setCell ⟨M, 1, none⟩ (.int .i64 at')).setCell ⟨M, 2, none⟩ (.string nm')).setCell ⟨M, 3, none⟩ (.string ml')).setCell ⟨M, 4, none⟩ vt').setCell ⟨M, 5, none⟩ vc').setCell ⟨M, 6, none⟩ vr').setCell ⟨M, 7, none⟩ (.string sb')).setCell ⟨M, 8, none⟩ (.string body')) M id' at' nm' ml' vt' vc' vr' sb' body' ∧
    w.grownBy (((((((((w.setCell ⟨M, 0, none⟩ (.string id')).setCell ⟨M, 1, none⟩ (.int .i64 at')).setCell ⟨M, 2, none⟩ (.string nm')).setCell ⟨M, 3, none⟩ (.string ml')).setCell ⟨M, 4, none⟩ vt').setCell ⟨M, 5, none⟩ vc').setCell ⟨M, 6, none⟩ vr').setCell ⟨M, 7, none⟩ (.string sb')).setCell ⟨M, 8, none⟩ (.string body')) (some M) := by
  constructor
  · simp [MailAt, World.setCell, Array.getElem?_modify, show w.heap[M]? = _ from h]
  · exact grown_trans (grown_trans (grown_trans (grown_trans (grown_trans (grown_trans (grown_trans (grown_trans (grown_setCell _ _ _ _) (grown_setCell _ _ _ _)) (grown_setCell _ _ _ _)) (grown_setCell _ _ _ _)) (grown_setCell _ _ _ _)) (grown_setCell _ _ _ _)) (grown_setCell _ _ _ _)) (grown_setCell _ _ _ _)) (grown_setCell _ _ _ _)
def goneB : List ByteArray := [⟨#[103, 111, 110, 101, 49]⟩, ⟨#[103, 111, 110, 101, 50]⟩]
def subjB : List ByteArray := [⟨#[]⟩, ⟨#[76, 117, 110, 99, 104]⟩, ⟨#[82, 101, 58, 32, 76, 117, 110, 99, 104]⟩, ⟨#[82, 69, 58, 32, 70, 119, 100, 58, 32, 108, 117, 110, 99, 104]⟩, ⟨#[76, 101, 103, 97, 108, 32, 97, 100, 118, 105, 99, 101]⟩, ⟨#[82, 101, 58, 32, 108, 101, 103, 97, 108, 32, 32, 97, 100, 118, 105, 99, 101]⟩, ⟨#[79, 116, 104, 101, 114]⟩]
theorem subj_ok : ∀ s ∈ subjB, s.size ≤ 100 ∧ s.data.toList.all (fun b => decide (b.toNat < 128)) = true ∧ (Lib.fields s.data.toList).length ≤ 100 ∧ (Lib.join (Lib.fields s.data.toList) [32]).length ≤ 100 := by decide +kernel
def namesB : List ByteArray := [⟨#[]⟩, ⟨#[]⟩, ⟨#[65, 110, 110, 32, 76, 101, 101]⟩, ⟨#[195, 137, 97]⟩]
def LetterPost (w : World) (g : Nat) (e : Ending) (w' : World) : Prop :=
  ∃ (id nm ml sb body : ByteArray) (at_ : Int) (A1 A2 A3 : Option Addr) (n1 c1 n2 c2 n3 c3 : Nat),
    e = .returned (.agg #[.string id, .int .i64 at_, .string nm, .string ml, .slice A1 n1 c1, .slice A2 n2 c2, .slice A3 n3 c3, .string sb, .string body]) ∧ TextL body.data.toList 700 ∧ w.grownBy w' (some g)
set_option maxHeartbeats 12800000 in
set_option maxRecDepth 100000 in
theorem letterM_any (g : Nat) (A : Option Addr) (n c K : Nat) (w : World) (hs : StreamAt w g A n c K) (hK : K ≤ 10000) (hTab : ∀ w', w.grownBy w' (some g) → Lib.TabIs Tryz.prog w' "strings.asciiSpace" .u8 Lib.asciiSpaceTab) :
    Calls Tryz.prog 5 #[.pointer (some ⟨g, 0, none⟩), .string ⟨#[109, 49]⟩, .int .i64 5, .slice none 0 0] w (LetterPost w g) := by
  obtain ⟨i0, hi0, _, _, _⟩ := info_parts strE_ok.info
  have HTAB := Lib.hid hTab
  clear hTab
  have HI0 := Lib.hid hi0
  clear hi0
  have hmm := @run_makeMap Tryz.prog
  have hgl := hs.lt
  go_enter Tryz.func5, Tryz.ntmps5
  go_upto_region 1 with (fail)
  have hm0 : MailAt (w.alloc (.cells #[.string ⟨#[]⟩, .int .i64 0, .string ⟨#[]⟩, .string ⟨#[]⟩, .slice none 0 0, .slice none 0 0, .slice none 0 0, .string ⟨#[]⟩, .string ⟨#[]⟩] 31)) w.heap.size ⟨#[]⟩ 0 ⟨#[]⟩ ⟨#[]⟩ (.slice none 0 0) (.slice none 0 0) (.slice none 0 0) ⟨#[]⟩ ⟨#[]⟩ := heap_alloc_new w _
  have hs0 := hs.alloc (.cells #[.string ⟨#[]⟩, .int .i64 0, .string ⟨#[]⟩, .string ⟨#[]⟩, .slice none 0 0, .slice none 0 0, .slice none 0 0, .string ⟨#[]⟩, .string ⟨#[]⟩] 31)
  have hg0 : w.grownBy (w.alloc (.cells #[.string ⟨#[]⟩, .int .i64 0, .string ⟨#[]⟩, .string ⟨#[]⟩, .slice none 0 0, .slice none 0 0, .slice none 0 0, .string ⟨#[]⟩, .string ⟨#[]⟩] 31)) (some g) := grown_alloc (World.grownBy.refl _ _) _
  generalize w.alloc (.cells #[.string ⟨#[]⟩, .int .i64 0, .string ⟨#[]⟩, .string ⟨#[]⟩, .slice none 0 0, .slice none 0 0, .slice none 0 0, .string ⟨#[]⟩, .string ⟨#[]⟩] 31) = w0 at *
  have HR0 := Lib.hid hm0
  have HG0 := Lib.hid hg0
  clear hm0 hg0 hs
  generalize hRw : w.heap.size = R at *
  have HRW := Lib.hid hRw
  clear hRw
  have hgl0 := hs0.lt
  go_wp2_with fail
  refine (people_any w0).mono ?_
  rintro e w1 ⟨rfl, rfl⟩
  go_wp2_with fail
  refine (one_any g A n c K peopleB w0.heap.size 7 7 _ (hs0.alloc _) (by omega) rfl (by omega) (by omega) (by omega) (fun j hj => cells_strings w0 peopleB _ j hj)).mono ?_
  rintro e w2 ⟨ml, rfl, hml, hs2, hg2⟩
  have HR2 := Lib.hid ((HR0.out.keep (grown_alloc (World.grownBy.refl _ none) _) (fun e => by cases e)).keep hg2 (fun e => by have := Option.some.inj e; omega))
  have HG2 := Lib.hid (grown_trans (grown_alloc HG0.out _) hg2)
  clear hml hg2 hs0 HR0 HG0 hgl0
  have hgl2 := hs2.lt
  go_wp2_with fail
  refine (body_any g A n c _ w2 hs2 (by omega)).mono ?_
  rintro e w3 ⟨t, rfl, ht, hs3, hg3⟩
  have HT := Lib.hid ht
  have hRne : some g ≠ some R := fun e => by have := Option.some.inj e; omega
  have HR3 := Lib.hid (HR2.out.keep hg3 hRne)
  have HG3 := Lib.hid (grown_trans HG2.out hg3)
  have HS3 := Lib.hid hs3
  clear ht hs2 hg3 HR2 HG2 hs3 hgl2
  go_upto_region 2 with (fail)
  have hm4 : MailAt (w3.alloc (.cells #[.string ⟨#[109, 49]⟩, .int .i64 5, .string ⟨#[]⟩, .string ml, .slice none 0 0, .slice none 0 0, .slice none 0 0, .string ⟨#[]⟩, .string t] 31)) w3.heap.size ⟨#[109, 49]⟩ 5 ⟨#[]⟩ ml (.slice none 0 0) (.slice none 0 0) (.slice none 0 0) ⟨#[]⟩ t := heap_alloc_new w3 _
  have HM4 := Lib.hid hm4
  have HS4 := Lib.hid (HS3.out.alloc (.cells #[.string ⟨#[109, 49]⟩, .int .i64 5, .string ⟨#[]⟩, .string ml, .slice none 0 0, .slice none 0 0, .slice none 0 0, .string ⟨#[]⟩, .string t] 31))
  have HG4 := Lib.hid (grown_alloc HG3.out (.cells #[.string ⟨#[109, 49]⟩, .int .i64 5, .string ⟨#[]⟩, .string ml, .slice none 0 0, .slice none 0 0, .slice none 0 0, .string ⟨#[]⟩, .string t] 31))
  have HR4 := Lib.hid (HR3.out.keep (grown_alloc (World.grownBy.refl _ none) (.cells #[.string ⟨#[109, 49]⟩, .int .i64 5, .string ⟨#[]⟩, .string ml, .slice none 0 0, .slice none 0 0, .slice none 0 0, .string ⟨#[]⟩, .string t] 31)) (fun e => by cases e))
  have hRM : R < w3.heap.size := HR3.out.lt
  generalize w3.alloc (.cells #[.string ⟨#[109, 49]⟩, .int .i64 5, .string ⟨#[]⟩, .string ml, .slice none 0 0, .slice none 0 0, .slice none 0 0, .string ⟨#[]⟩, .string t] 31) = w4 at *
  generalize w3.heap.size = M at *
  clear hm4 HS3 HG3 HR3
  have hgM : g < M := by omega
  have hml4 : M < w4.heap.size := HM4.out.lt
  go_wp2_with fail
  refine (one_any g A n c _ namesB w4.heap.size 4 4 _ (HS4.out.alloc _) (by omega) rfl (by omega) (by omega) (by omega) (fun j hj => cells_strings w4 namesB _ j hj)).mono ?_
  rintro e w5 ⟨nm, rfl, _, hs5, hg5⟩
  have hgMe : some g ≠ some M := fun e => by have := Option.some.inj e; omega
  have HM5 := Lib.hid ((HM4.out.keep (grown_alloc (World.grownBy.refl _ none) (.cells (namesB.map Value.string).toArray 9)) (fun e => by cases e)).keep hg5 hgMe)
  have HR5 := Lib.hid ((HR4.out.keep (grown_alloc (World.grownBy.refl _ none) (.cells (namesB.map Value.string).toArray 9)) (fun e => by cases e)).keep hg5 hRne)
  have HG5 := Lib.hid (grown_trans (grown_alloc HG4.out _) hg5)
  have HS5 := Lib.hid hs5
  obtain ⟨_, _, hn2, _, _, _, _, _, _⟩ := HM5.out.c
  have hf2 := HM5.out.fz 2
  clear hg5 hs5 HM4 HR4 HG4 HS4
  go_upto_region 4 with (fail)
  have hMap : SetAt ((w5.setCell ⟨M, 2, none⟩ (.string nm)).alloc (.map #[] 0)) w5.heap.size [] := by
    have h := World.ownsMap_made (H := Unit) (w5.setCell ⟨M, 2, none⟩ (.string nm)) Tryz.prog 9 (plainElem Tryz.prog 4)
    rw [show (w5.setCell ⟨M, 2, none⟩ (.string nm)).heap.size = w5.heap.size by simp [World.setCell]] at h
    exact h
  have hgs := grown_setCell w5 M 2 (.string nm)
  have hga := grown_alloc (World.grownBy.refl (w5.setCell ⟨M, 2, none⟩ (.string nm)) none) (.map #[] 0)
  have HM6 := Lib.hid ((HM5.out.setName nm).keep hga (fun e => by cases e))
  have hRMe : some M ≠ some R := fun e => by have := Option.some.inj e; omega
  have HR6 := Lib.hid ((HR5.out.keep hgs hRMe).keep hga (fun e => by cases e))
  have HS6 : Hid (StreamAt ((w5.setCell ⟨M, 2, none⟩ (.string nm)).alloc (.map #[] 0)) g A n c (K + 103)) := ((HS5.out.row_ hgs (fun i e => by have := Option.some.inj e; omega)).alloc _).more (by omega)
  have HG6 : Hid (w.grownBy ((w5.setCell ⟨M, 2, none⟩ (.string nm)).alloc (.map #[] 0)) (some g)) := grown_alloc (grown_row HG5.out hgs (fun i e => by have := Option.some.inj e; have := HRW.out; omega)) _
  have HMap := Lib.hid hMap
  have hMm : M < w5.heap.size := HM5.out.lt
  have hz6 : ((w5.setCell ⟨M, 2, none⟩ (.string nm)).alloc (.map #[] 0)).heap.size = w5.heap.size + 1 := by simp [World.setCell]
  clear hMap hgs hga HM5 HR5 HS5 HG5 hn2 hf2 hmm
  generalize (w5.setCell ⟨M, 2, none⟩ (.string nm)).alloc (.map #[] 0) = w6 at *
  generalize w5.heap.size = Mp at *
  have hMp6 : Mp < w6.heap.size := by omega
  have hgMp : g < Mp := by omega
  have hMpM : some Mp ≠ some M := fun e => by have := Option.some.inj e; omega
  have hMpR : some Mp ≠ some R := fun e => by have := Option.some.inj e; omega
  have hgMpe : some g ≠ some Mp := fun e => by have := Option.some.inj e; omega
  clear hz6
  go_wp2_with fail
  refine (rangeR_any g A n c _ 0 3 w6 HS6.out (by omega) (by omega) (by omega) (by omega)).mono ?_
  rintro e w7 ⟨r, rfl, hr0, hr1, hs7, hg7⟩
  obtain ⟨N, rfl⟩ := Int.eq_ofNat_of_zero_le hr0
  have HM7 := Lib.hid (HM6.out.keep hg7 hgMe)
  have HR7 := Lib.hid (HR6.out.keep hg7 hRne)
  have HG7 := Lib.hid (grown_trans HG6.out hg7)
  have HMap7 : Hid (SetAt w7 Mp []) := World.ownsMap.kept HMap.out hg7 (Ne.symm hgMpe)
  have HS7 := Lib.hid hs7
  have hz7 : Mp < w7.heap.size := Nat.lt_of_lt_of_le hMp6 hg7.size
  clear hs7 hg7 HM6 HR6 HG6 HMap HS6
  go_wp2_with fail
  go_loopg [30] N (fun gk i wr => ∃ (k : Nat) (vt vc : Value) (Lt Lc : List (ByteArray × ByteArray)) (ss : List (List UInt8)), Hid (k + gk = N) ∧ i = .int .i64 (k : Int) ∧ Hid (MailAt wr M ⟨#[109, 49]⟩ 5 nm ml vt vc (.slice none 0 0) ⟨#[]⟩ t) ∧ Hid (MailAt wr R ⟨#[]⟩ 0 ⟨#[]⟩ ⟨#[]⟩ (.slice none 0 0) (.slice none 0 0) (.slice none 0 0) ⟨#[]⟩ ⟨#[]⟩) ∧ Hid (Owns AddrE wr w7.heap.size vt Lt) ∧ Hid (Owns AddrE wr w7.heap.size vc Lc) ∧ Hid (ApartV vt vc) ∧ Hid (Lt.length ≤ k ∧ Lc.length ≤ k ∧ ss.length ≤ k) ∧ Hid (SetAt wr Mp ss) ∧ Hid (StreamAt wr g A n c (K + 104 + 2 * k)) ∧ Hid (w.grownBy wr (some g)) ∧ Hid (w7.heap.size ≤ wr.heap.size))
  case atStart => exact ⟨0, _, _, [], [], [], show 0 + N = N by omega, rfl, HM7, HR7, Owns.nil _ _, Owns.nil _ _, apart_nil _, ⟨Nat.le_refl _, Nat.le_refl _, Nat.le_refl _⟩, HMap7, HS7.out, HG7.out, Nat.le_refl _⟩
  case round =>
    obtain ⟨k, vt, vc, Lt, Lc, ss, HK, rfl, HM, HR, HOT, HOC, HAP, HLE, HSET, HST, HGR, HZ⟩ := hrel
    clear HM7 HR7 HMap7 HS7 HG7
    have hkN : k ≤ N := by have := HK.out; omega
    have hz := HZ.out
    by_cases hlt : k < N
    · have hle := HLE.out
      go_wp2_with fail
      refine (people_any wr).mono ?_
      rintro e w8 ⟨rfl, rfl⟩
      go_wp2_with fail
      refine (one_any g A n c _ peopleB wr.heap.size 7 7 _ (HST.out.alloc _) (by omega) rfl (by omega) (by omega) (by have := HST.out.lt; omega) (fun j hj => cells_strings wr peopleB _ j hj)).mono ?_
      rintro e w9 ⟨ad, rfl, had, hs9, hg9⟩
      have hadl : ad.size ≤ 13 := people_le ad had
      have hga := grown_alloc (World.grownBy.refl wr none) (.cells (peopleB.map Value.string).toArray 9)
      have hgg : wr.grownBy w9 (some g) := grown_trans ⟨hga.os, hga.tape, hga.output, hga.size, fun i hi _ => hga.block i hi (fun e => by cases e)⟩ hg9
      have HM9 := Lib.hid (HM.out.keep hgg hgMe)
      have HR9 := Lib.hid (HR.out.keep hgg hRne)
      have HOT9 := Lib.hid (HOT.out.kept_ hgg (fun i e => by have := Option.some.inj e; omega))
      have HOC9 := Lib.hid (HOC.out.kept_ hgg (fun i e => by have := Option.some.inj e; omega))
      have HSET9 : Hid (SetAt w9 Mp ss) := World.ownsMap.kept HSET.out hgg (Ne.symm hgMpe)
      have HST9 := Lib.hid hs9
      have HG9 := Lib.hid (grown_trans HGR.out hgg)
      have HZ9 : Hid (w7.heap.size ≤ w9.heap.size) := Nat.le_trans hz hgg.size
      clear had hga hgg hs9 hg9 HM HR HOT HOC HSET HST HGR HZ hz
      go_upto_region 7 with (fail)
      have hp10 := heap_alloc_new w9 (.cells #[.string ⟨#[]⟩, .string ad] 27)
      have hga := grown_alloc (World.grownBy.refl w9 none) (.cells #[.string ⟨#[]⟩, .string ad] 27)
      have HM10 := Lib.hid (HM9.out.keep hga (fun e => by cases e))
      have HR10 := Lib.hid (HR9.out.keep hga (fun e => by cases e))
      have HOT10 : Hid (Owns AddrE _ w7.heap.size vt Lt) := World.ownsRow.alloc HOT9.out (.cells #[.string ⟨#[]⟩, .string ad] 27)
      have HOC10 : Hid (Owns AddrE _ w7.heap.size vc Lc) := World.ownsRow.alloc HOC9.out (.cells #[.string ⟨#[]⟩, .string ad] 27)
      have HSET10 : Hid (SetAt _ Mp ss) := World.ownsMap.alloc HSET9.out (.cells #[.string ⟨#[]⟩, .string ad] 27)
      have HST10 := Lib.hid (HST9.out.alloc (.cells #[.string ⟨#[]⟩, .string ad] 27))
      have HG10 := Lib.hid (grown_alloc HG9.out (.cells #[.string ⟨#[]⟩, .string ad] 27))
      have hz9 := HZ9.out
      have HZ10 : Hid (w7.heap.size ≤ (w9.alloc (.cells #[.string ⟨#[]⟩, .string ad] 27)).heap.size) := Nat.le_trans hz9 hga.size
      have HP10 := Lib.hid hp10
      have hPz : w9.heap.size < (w9.alloc (.cells #[.string ⟨#[]⟩, .string ad] 27)).heap.size := by simp
      clear hga hp10 HM9 HR9 HOT9 HOC9 HSET9 HST9 HG9 HZ9
      generalize w9.alloc (.cells #[.string ⟨#[]⟩, .string ad] 27) = w10 at *
      generalize w9.heap.size = P at *
      obtain ⟨p0, p1, pf0, pf1, _⟩ := two_c HP10.out
      have hlk := HSET10.out.look0 ad (by omega)
      obtain ⟨bb, hbb⟩ : ∃ bb, ss.contains ad.data.toList = bb := ⟨_, rfl⟩
      rw [hbb] at hlk
      clear hbb
      cases bb
      · have hss : ss.length < maxLen := by simp only [maxLen]; omega
        go_wp2_with (at_mapUpdate; refine wpList_mapUpdate_own _ rfl _ _ _ 67 rfl 9 4 keyS Tryz.underlying67 _ Mp ss.length (setD ss) rfl HSET10.out hss _ _ (.string ad.data.toList) rfl rfl (keyS_mk ad (by omega)) (.lit (.bool true)) [] (plainElem_bool Tryz.underlying4 true) ?_; intro w11 hown11 hgrow11)
        have HSET11 : Hid (SetAt w11 Mp (ss ++ [ad.data.toList])) := by
          show World.ownsMap _ _ _ _ _ _ _
          rw [setD_snoc, List.length_append]
          exact hown11
        have HM11 := Lib.hid (HM10.out.keep hgrow11 hMpM)
        have HR11 := Lib.hid (HR10.out.keep hgrow11 hMpR)
        have HOT11 := Lib.hid (HOT10.out.kept_ hgrow11 (fun i e => by have := Option.some.inj e; omega))
        have HOC11 := Lib.hid (HOC10.out.kept_ hgrow11 (fun i e => by have := Option.some.inj e; omega))
        have HST11 := Lib.hid (HST10.out.row_ hgrow11 (fun i e => by have := Option.some.inj e; omega))
        have HG11 : Hid (w.grownBy w11 (some g)) := grown_row HG10.out hgrow11 (fun i e => by have := Option.some.inj e; have := HRW.out; omega)
        have hP11 := (hgrow11.block P hPz (fun e => by have := Option.some.inj e; omega)).trans HP10.out
        have hz10 := HZ10.out
        have HZ11 : Hid (w7.heap.size ≤ w11.heap.size) := Nat.le_trans hz10 hgrow11.size
        have HP11 := Lib.hid hP11
        clear hown11 hgrow11 hP11 HM10 HR10 HOT10 HOC10 HST10 HG10 HP10 HZ10 p0 p1 pf0 pf1 hlk HSET10
        refine (flip_any g A n c _ 3 w11 HST11.out (by omega) (by omega)).mono ?_
        rintro e w12 ⟨rb, rfl, hs12, hg12⟩
        have HM12 := Lib.hid (HM11.out.keep hg12 hgMe)
        have HR12 := Lib.hid (HR11.out.keep hg12 hRne)
        have HOT12 := Lib.hid (HOT11.out.kept_ hg12 (fun i e => by have := Option.some.inj e; omega))
        have HOC12 := Lib.hid (HOC11.out.kept_ hg12 (fun i e => by have := Option.some.inj e; omega))
        have HSET12 : Hid (SetAt w12 Mp (ss ++ [ad.data.toList])) := World.ownsMap.kept HSET11.out hg12 (Ne.symm hgMpe)
        have HG12 := Lib.hid (grown_trans HG11.out hg12)
        have HST12 := Lib.hid hs12
        have hz11 := HZ11.out
        have hz12 : w7.heap.size ≤ w12.heap.size := Nat.le_trans hz11 hg12.size
        have hP12 := (hg12.block P (Array.getElem?_eq_some_iff.1 HP11.out).1 (fun e => by have := Option.some.inj e; omega)).trans HP11.out
        obtain ⟨p0, p1, pf0, pf1, _⟩ := two_c hP12
        obtain ⟨k0, k1, k2, k3, k4, k5, k6, k7, k8⟩ := HM12.out.c
        clear hs12 hg12 HM11 HR11 HOT11 HOC11 HST11 HSET11 HG11 HZ11 hP12 HP11
        cases rb
        · go_wp2_with (at_builtin; refine append_elems addrE_ok rfl _ _ rfl w7.heap.size vt Lt rfl (World.ownsRow.alloc HOT12.out _) (some ⟨w12.heap.size, 0, none⟩) 1 1 [((⟨#[]⟩ : ByteArray), ad)] rfl (one_elem (E := AddrE) w12 ((⟨#[]⟩ : ByteArray), ad)) (by simp; omega) (by simp; omega) ?_; intro v13 w13 hown13 hgrow13 hv13; have hat13 := hown13.at_ addrE_ok; rw [show (Lt ++ [((⟨#[]⟩ : ByteArray), ad)]).length = Lt.length + 1 by simp] at hat13; obtain ⟨A13, c13, rfl, hc13, hat13', hG13'⟩ := hat13; clear hc13 hat13' hG13'; have HO13 := Lib.hid hown13; have HG13 : Hid ((w12.alloc (.cells #[.string ⟨#[]⟩, .string ad] 27)).grownBy w13 (vt).ownBlock) := hgrow13; have HV13 := Lib.hid hv13; have hgA := grown_alloc (World.grownBy.refl w12 none) (.cells #[.string ⟨#[]⟩, .string ad] 27); have hgg13 : w12.grownBy w13 (vt).ownBlock := grown_trans ⟨hgA.os, hgA.tape, hgA.output, hgA.size, fun i hi _ => hgA.block i hi (fun e => by cases e)⟩ HG13.out; have HGG13 := Lib.hid hgg13; have HM13 := Lib.hid (HM12.out.keep hgg13 (fun e => by have := (HOT12.out.lt _ e).1; omega)); obtain ⟨m0, m1, m2, m3, m4, m5, m6, m7, m8⟩ := HM13.out.c; have mf := HM13.out.fz 4; clear hown13 hgrow13 hv13 hgA hgg13)
          have hrow : ∀ i, (vt).ownBlock = some i → w7.heap.size ≤ i := fun i e => (HOT12.out.lt i e).1
          have hgs := grown_setCell w13 M 4 (.slice A13 (Lt.length + 1) c13)
          have HM14 := Lib.hid (HM13.out.setTo (.slice A13 (Lt.length + 1) c13))
          have HR14 := Lib.hid ((HR12.out.keep HGG13.out (fun e => by have := hrow _ e; omega)).keep hgs hRMe)
          have HOo13 : Hid (Owns AddrE w13 w7.heap.size vc Lc) := Owns.apart (HAP.out) HOC12.out HG13.out
          have HOo14 := Lib.hid (HOo13.out.kept_ hgs (fun i e => by have := Option.some.inj e; omega))
          have HOv14 := Lib.hid (HO13.out.kept_ hgs (fun i e => by have := Option.some.inj e; omega))
          have HAP14 : Hid (ApartV (.slice A13 (Lt.length + 1) c13) vc) := ApartV.grow (HAP.out) HOC12.out (o := .cells #[.string ⟨#[]⟩, .string ad] 27) HV13.out
          have HSET14 : Hid (SetAt (w13.setCell ⟨M, 4, none⟩ (.slice A13 (Lt.length + 1) c13)) Mp (ss ++ [ad.data.toList])) := World.ownsMap.kept (World.ownsMap.kept HSET12.out HGG13.out (fun e => by have := hrow _ e.symm; omega)) hgs hMpM
          have HST14 : Hid (StreamAt (w13.setCell ⟨M, 4, none⟩ (.slice A13 (Lt.length + 1) c13)) g A n c (K + 104 + 2 * k + 1 + 1)) := (HST12.out.row_ HGG13.out (fun i e => by have := hrow _ e; omega)).row_ hgs (fun i e => by have := Option.some.inj e; omega)
          have HG14 : Hid (w.grownBy (w13.setCell ⟨M, 4, none⟩ (.slice A13 (Lt.length + 1) c13)) (some g)) := grown_row (grown_row HG12.out HGG13.out (fun i e => by have := hrow i e; have := HRW.out; omega)) hgs (fun i e => by have := Option.some.inj e; have := HRW.out; omega)
          have HZ14 : Hid (w7.heap.size ≤ (w13.setCell ⟨M, 4, none⟩ (.slice A13 (Lt.length + 1) c13)).heap.size) := Nat.le_trans (Nat.le_trans hz12 HGG13.out.size) hgs.size
          clear hgs HOo13 HM13 HO13 HG13 HV13 HGG13 m0 m1 m2 m3 m4 m5 m6 m7 m8 mf hrow
          generalize w13.setCell ⟨M, 4, none⟩ (.slice A13 (Lt.length + 1) c13) = w14 at *
          go_wp2_with fail
          go_roundg (gk - 1)
          case measure => have := HK.out; omega
          case rel => exact ⟨k + 1, (.slice A13 (Lt.length + 1) c13), vc, Lt ++ [((⟨#[]⟩ : ByteArray), ad)], Lc, ss ++ [ad.data.toList], show k + 1 + (gk - 1) = N by have := HK.out; omega, by go_num, HM14, HR14, HOv14, HOo14, HAP14, ⟨by first | omega | (simp; omega), by first | omega | (simp; omega), by first | omega | (simp; omega)⟩, HSET14, HST14.out.more (by omega), HG14, HZ14⟩
        · go_wp2_with (at_builtin; refine append_elems addrE_ok rfl _ _ rfl w7.heap.size vc Lc rfl (World.ownsRow.alloc HOC12.out _) (some ⟨w12.heap.size, 0, none⟩) 1 1 [((⟨#[]⟩ : ByteArray), ad)] rfl (one_elem (E := AddrE) w12 ((⟨#[]⟩ : ByteArray), ad)) (by simp; omega) (by simp; omega) ?_; intro v13 w13 hown13 hgrow13 hv13; have hat13 := hown13.at_ addrE_ok; rw [show (Lc ++ [((⟨#[]⟩ : ByteArray), ad)]).length = Lc.length + 1 by simp] at hat13; obtain ⟨A13, c13, rfl, hc13, hat13', hG13'⟩ := hat13; clear hc13 hat13' hG13'; have HO13 := Lib.hid hown13; have HG13 : Hid ((w12.alloc (.cells #[.string ⟨#[]⟩, .string ad] 27)).grownBy w13 (vc).ownBlock) := hgrow13; have HV13 := Lib.hid hv13; have hgA := grown_alloc (World.grownBy.refl w12 none) (.cells #[.string ⟨#[]⟩, .string ad] 27); have hgg13 : w12.grownBy w13 (vc).ownBlock := grown_trans ⟨hgA.os, hgA.tape, hgA.output, hgA.size, fun i hi _ => hgA.block i hi (fun e => by cases e)⟩ HG13.out; have HGG13 := Lib.hid hgg13; have HM13 := Lib.hid (HM12.out.keep hgg13 (fun e => by have := (HOC12.out.lt _ e).1; omega)); obtain ⟨m0, m1, m2, m3, m4, m5, m6, m7, m8⟩ := HM13.out.c; have mf := HM13.out.fz 5; clear hown13 hgrow13 hv13 hgA hgg13)
          have hrow : ∀ i, (vc).ownBlock = some i → w7.heap.size ≤ i := fun i e => (HOC12.out.lt i e).1
          have hgs := grown_setCell w13 M 5 (.slice A13 (Lc.length + 1) c13)
          have HM14 := Lib.hid (HM13.out.setCc (.slice A13 (Lc.length + 1) c13))
          have HR14 := Lib.hid ((HR12.out.keep HGG13.out (fun e => by have := hrow _ e; omega)).keep hgs hRMe)
          have HOo13 : Hid (Owns AddrE w13 w7.heap.size vt Lt) := Owns.apart (HAP.out.symm) HOT12.out HG13.out
          have HOo14 := Lib.hid (HOo13.out.kept_ hgs (fun i e => by have := Option.some.inj e; omega))
          have HOv14 := Lib.hid (HO13.out.kept_ hgs (fun i e => by have := Option.some.inj e; omega))
          have HAP14 : Hid (ApartV (.slice A13 (Lc.length + 1) c13) vt) := ApartV.grow (HAP.out.symm) HOT12.out (o := .cells #[.string ⟨#[]⟩, .string ad] 27) HV13.out
          have HSET14 : Hid (SetAt (w13.setCell ⟨M, 5, none⟩ (.slice A13 (Lc.length + 1) c13)) Mp (ss ++ [ad.data.toList])) := World.ownsMap.kept (World.ownsMap.kept HSET12.out HGG13.out (fun e => by have := hrow _ e.symm; omega)) hgs hMpM
          have HST14 : Hid (StreamAt (w13.setCell ⟨M, 5, none⟩ (.slice A13 (Lc.length + 1) c13)) g A n c (K + 104 + 2 * k + 1 + 1)) := (HST12.out.row_ HGG13.out (fun i e => by have := hrow _ e; omega)).row_ hgs (fun i e => by have := Option.some.inj e; omega)
          have HG14 : Hid (w.grownBy (w13.setCell ⟨M, 5, none⟩ (.slice A13 (Lc.length + 1) c13)) (some g)) := grown_row (grown_row HG12.out HGG13.out (fun i e => by have := hrow i e; have := HRW.out; omega)) hgs (fun i e => by have := Option.some.inj e; have := HRW.out; omega)
          have HZ14 : Hid (w7.heap.size ≤ (w13.setCell ⟨M, 5, none⟩ (.slice A13 (Lc.length + 1) c13)).heap.size) := Nat.le_trans (Nat.le_trans hz12 HGG13.out.size) hgs.size
          clear hgs HOo13 HM13 HO13 HG13 HV13 HGG13 m0 m1 m2 m3 m4 m5 m6 m7 m8 mf hrow
          generalize w13.setCell ⟨M, 5, none⟩ (.slice A13 (Lc.length + 1) c13) = w14 at *
          go_wp2_with fail
          go_roundg (gk - 1)
          case measure => have := HK.out; omega
          case rel => exact ⟨k + 1, vt, (.slice A13 (Lc.length + 1) c13), Lt, Lc ++ [((⟨#[]⟩ : ByteArray), ad)], ss ++ [ad.data.toList], show k + 1 + (gk - 1) = N by have := HK.out; omega, by go_num, HM14, HR14, HOo14, HOv14, Lib.hid HAP14.out.symm, ⟨by first | omega | (simp; omega), by first | omega | (simp; omega), by first | omega | (simp; omega)⟩, HSET14, HST14.out.more (by omega), HG14, HZ14⟩
      · go_wp2_with fail
        go_roundg (gk - 1)
        case measure => have := HK.out; omega
        case rel => exact ⟨k + 1, vt, vc, Lt, Lc, ss, show k + 1 + (gk - 1) = N by have := HK.out; omega, by go_num, HM10, HR10, HOT10, HOC10, HAP, ⟨by omega, by omega, by omega⟩, HSET10, HST10.out.more (by omega), HG10, HZ10⟩
    · have hnk : ¬ (k : Int) < (N : Int) := by omega
      obtain ⟨At, ct, rfl, _, _, _⟩ := HOT.out.at_ addrE_ok
      obtain ⟨Ac, cc, rfl, _, _, _⟩ := HOC.out.at_ addrE_ok
      have hSTl := HST.out.lt
      clear HOT HOC HAP HLE HSET hlt
      go_wp2_with fail
      refine (pick_any g A n c _ [0, 0, 1, 1, 2] wr.heap.size 5 5 _ (HST.out.alloc _) (by omega) rfl (by omega) (by omega) (by omega) (fun j hj => pickR_cells wr [0, 0, 1, 1, 2] 3 j hj)).mono ?_
      rintro e w15 ⟨r2, rfl, hr2, hs15, hg15⟩
      obtain ⟨N2, rfl, hN2⟩ : ∃ x : Nat, r2 = (x : Int) ∧ x ≤ 2 := by
        simp at hr2
        exact ⟨r2.toNat, by omega, by omega⟩
      have hga := grown_alloc (World.grownBy.refl wr none) (.cells #[.int .i64 0, .int .i64 0, .int .i64 1, .int .i64 1, .int .i64 2] 3)
      have hgg : wr.grownBy w15 (some g) := grown_trans ⟨hga.os, hga.tape, hga.output, hga.size, fun i hi _ => hga.block i hi (fun e => by cases e)⟩ hg15
      have HM15 := Lib.hid (HM.out.keep hgg hgMe)
      have HR15 := Lib.hid (HR.out.keep hgg hRne)
      have HG15 := Lib.hid (grown_trans HGR.out hgg)
      have HST15 : Hid (StreamAt w15 g A n c (K + 120)) := hs15.more (by omega)
      have hM15 : M < w15.heap.size := HM15.out.lt
      clear hga hgg hs15 hg15 hr2 HM HR HGR HST HZ hz hSTl
      go_wp2_with fail
      generalize wr = wo at *
      generalize gk = gk1 at *
      go_loopg [61] N2 (fun gk i wr => ∃ (j : Nat) (vr : Value) (Lr : List (List UInt8)), Hid (j + gk = N2) ∧ i = .int .i64 (j : Int) ∧ Hid (MailAt wr M ⟨#[109, 49]⟩ 5 nm ml (.slice At Lt.length ct) (.slice Ac Lc.length cc) vr ⟨#[]⟩ t) ∧ Hid (MailAt wr R ⟨#[]⟩ 0 ⟨#[]⟩ ⟨#[]⟩ (.slice none 0 0) (.slice none 0 0) (.slice none 0 0) ⟨#[]⟩ ⟨#[]⟩) ∧ Hid (OwnStrs wr w15.heap.size vr Lr) ∧ Hid (Lr.length ≤ j) ∧ Hid (StreamAt wr g A n c (K + 120 + j)) ∧ Hid (w.grownBy wr (some g)) ∧ Hid (w15.heap.size ≤ wr.heap.size))
      case atStart => exact ⟨0, _, [], show 0 + N2 = N2 by omega, rfl, HM15, HR15, Owns.nil _ _, Nat.le_refl _, HST15.out, HG15.out, Nat.le_refl _⟩
      case round =>
        obtain ⟨j, vr, Lr, HJ, rfl, HM, HR, HOR, HLE, HST, HGR, HZ⟩ := hrel
        clear HM15 HR15 HST15 HG15
        have hj2 : j ≤ N2 := by have := HJ.out; omega
        by_cases hlt : j < N2
        · have hle := HLE.out
          have hgr := HST.out.lt
          have HLIT := Lib.hid (Owns.lit strE_ok wr wr.heap.size [[103, 111, 110, 101, 49], [103, 111, 110, 101, 50]] (Nat.le_refl _) (by decide))
          go_wp2_with (at_builtin; refine wpList_append_own_none rfl _ _ _ rfl wr.heap.size StrE.t i0 StrE.size strE_ok.und HI0.out _ _ _ rfl HLIT.out rfl ?_)
          refine (one_any g A n c _ goneB wr.heap.size 2 2 _ (HST.out.alloc _) (by omega) rfl (by omega) (by omega) (by omega) (fun j hj => cells_strings wr goneB _ j hj)).mono ?_
          rintro e w16 ⟨rr, rfl, hrr, hs16, hg16⟩
          have hga := grown_alloc (World.grownBy.refl wr none) (.cells #[.string ⟨#[103, 111, 110, 101, 49]⟩, .string ⟨#[103, 111, 110, 101, 50]⟩] 9)
          have hgg : wr.grownBy w16 (some g) := grown_trans ⟨hga.os, hga.tape, hga.output, hga.size, fun i hi _ => hga.block i hi (fun e => by cases e)⟩ hg16
          have hz := HZ.out
          have HM16 := Lib.hid (HM.out.keep hgg hgMe)
          have HR16 := Lib.hid (HR.out.keep hgg hRne)
          have HOR16 := Lib.hid (HOR.out.kept_ hgg (fun i e => by have := Option.some.inj e; omega))
          have HG16 := Lib.hid (grown_trans HGR.out hgg)
          have HST16 := Lib.hid hs16
          have hz16 : w15.heap.size ≤ w16.heap.size := Nat.le_trans hz hgg.size
          obtain ⟨xr, hxr, hne, hrb⟩ : ∃ xr : List UInt8, rr = bag xr ∧ ((rr.toList == [109, 49]) = false) ∧ rr.size ≤ 10 := by
            simp only [goneB, List.mem_cons, List.not_mem_nil, or_false] at hrr
            rcases hrr with rfl | rfl
            · exact ⟨[103, 111, 110, 101, 49], rfl, by decide +kernel, by decide⟩
            · exact ⟨[103, 111, 110, 101, 50], rfl, by decide +kernel, by decide⟩
          have hne1 : ¬ rr.toList = [109, 49] := by simpa using hne
          have hne2 : (!(rr.toList == [109, 49])) = true := by rw [hne]; rfl
          obtain ⟨m0, m1, m2, m3, m4, m5, m6, m7, m8⟩ := HM16.out.c
          obtain ⟨Ar, cr, rfl, hcr, hatr, _⟩ := HOR16.out.at_ strE_ok
          have HC := Lib.hid (containsS_any Ar Lr.length cr Lr xr w16 hatr (by omega))
          rw [← hxr] at HC
          clear hga hgg hs16 hg16 HM HR HOR HGR HST HZ hz hatr hcr hrr
          have HXR := Lib.hid hxr
          clear hxr
          obtain ⟨bb, hbb⟩ : ∃ bb, Lr.contains xr = bb := ⟨_, rfl⟩
          rw [hbb] at HC
          clear hbb
          go_wp2_with fail
          refine HC.out.mono ?_
          rintro e w' ⟨rfl, hw'⟩
          obtain rfl := hw'.symm
          cases bb
          · obtain rfl : rr = (⟨xr.toArray⟩ : ByteArray) := HXR.out
            have mf := HM16.out.fz 6
            clear hne hne1 hne2 HC
            go_wp2_with (at_builtin; refine append_elems strE_ok rfl _ _ rfl w15.heap.size (.slice Ar Lr.length cr) Lr rfl (World.ownsRow.alloc HOR16.out _) (some ⟨w16.heap.size, 0, none⟩) 1 1 [xr] rfl (one_elem (E := StrE) w16 xr) (by simp; omega) (by simp; omega) ?_; intro v17 w17 hown17 hgrow17 hv17; have hat17 := hown17.at_ strE_ok; rw [show (Lr ++ [xr]).length = Lr.length + 1 by simp] at hat17; obtain ⟨A17, c17, rfl, hc17, hat17', hG17'⟩ := hat17; clear hc17 hat17' hG17'; have HO17 := Lib.hid hown17; have hgA := grown_alloc (World.grownBy.refl w16 none) (.cells #[.string ⟨xr.toArray⟩] 9); have hgg17 : w16.grownBy w17 (Value.slice Ar Lr.length cr).ownBlock := grown_trans ⟨hgA.os, hgA.tape, hgA.output, hgA.size, fun i hi _ => hgA.block i hi (fun e => by cases e)⟩ hgrow17; have HGG17 := Lib.hid hgg17; have HM17 := Lib.hid (HM16.out.keep hgg17 (fun e => by have := (HOR16.out.lt _ e).1; omega)); obtain ⟨n0, n1, n2, n3, n4, n5, n6, n7, n8⟩ := HM17.out.c; have nf := HM17.out.fz 6; clear hown17 hgrow17 hv17 hgA hgg17)
            have hrow : ∀ i, (Value.slice Ar Lr.length cr).ownBlock = some i → w15.heap.size ≤ i := fun i e => (HOR16.out.lt i e).1
            have hgs := grown_setCell w17 M 6 (.slice A17 (Lr.length + 1) c17)
            have HM18 := Lib.hid (HM17.out.setRefs (.slice A17 (Lr.length + 1) c17))
            have HR18 := Lib.hid ((HR16.out.keep HGG17.out (fun e => by have := hrow _ e; omega)).keep hgs hRMe)
            have HOR18 := Lib.hid (HO17.out.kept_ hgs (fun i e => by have := Option.some.inj e; omega))
            have HST18 : Hid (StreamAt (w17.setCell ⟨M, 6, none⟩ (.slice A17 (Lr.length + 1) c17)) g A n c (K + 120 + (j + 1))) := (HST16.out.row_ HGG17.out (fun i e => by have := hrow _ e; omega)).row_ hgs (fun i e => by have := Option.some.inj e; omega)
            have HG18 : Hid (w.grownBy (w17.setCell ⟨M, 6, none⟩ (.slice A17 (Lr.length + 1) c17)) (some g)) := grown_row (grown_row HG16.out HGG17.out (fun i e => by have := hrow i e; have := HRW.out; omega)) hgs (fun i e => by have := Option.some.inj e; have := HRW.out; omega)
            have HZ18 : Hid (w15.heap.size ≤ (w17.setCell ⟨M, 6, none⟩ (.slice A17 (Lr.length + 1) c17)).heap.size) := Nat.le_trans (Nat.le_trans hz16 HGG17.out.size) hgs.size
            clear hgs HM17 HO17 HGG17 n0 n1 n2 n3 n4 n5 n6 n7 n8 nf hrow m0 m1 m2 m3 m4 m5 m6 m7 m8 mf
            generalize w17.setCell ⟨M, 6, none⟩ (.slice A17 (Lr.length + 1) c17) = w18 at *
            go_wp2_with fail
            go_roundg (gk - 1)
            case measure => have := HJ.out; omega
            case rel => exact ⟨j + 1, _, Lr ++ [xr], show j + 1 + (gk - 1) = N2 by have := HJ.out; omega, by go_num, HM18, HR18, HOR18, by show (Lr ++ [xr]).length ≤ j + 1; simp; omega, HST18, HG18, HZ18⟩
          · go_wp2_with fail
            go_roundg (gk - 1)
            case measure => have := HJ.out; omega
            case rel => exact ⟨j + 1, _, Lr, show j + 1 + (gk - 1) = N2 by have := HJ.out; omega, by go_num, HM16, HR16, HOR16, by show Lr.length ≤ j + 1; omega, HST16.out.more (by omega), HG16, hz16⟩
        · obtain ⟨Ar, cr, rfl, _, _, _⟩ := HOR.out.at_ strE_ok
          have hgr := HST.out.lt
          have hnj : ¬ (j : Int) < (N2 : Int) := by omega
          clear HOR HLE HZ hlt
          go_wp2_with fail
          refine (one_any g A n c _ subjB wr.heap.size 7 7 _ (HST.out.alloc _) (by omega) rfl (by omega) (by omega) (by omega) (fun j hj => cells_strings wr subjB _ j hj)).mono ?_
          rintro e w19 ⟨sb, rfl, hsb, hs19, hg19⟩
          have hsj := subj_ok sb hsb
          have HSJ := Lib.hid hsj
          have hga := grown_alloc (World.grownBy.refl wr none) (.cells (subjB.map Value.string).toArray 9)
          have hgg : wr.grownBy w19 (some g) := grown_trans ⟨hga.os, hga.tape, hga.output, hga.size, fun i hi _ => hga.block i hi (fun e => by cases e)⟩ hg19
          have HM19 := Lib.hid (HM.out.keep hgg hgMe)
          have HR19 := Lib.hid (HR.out.keep hgg hRne)
          have HG19 := Lib.hid (grown_trans HGR.out hgg)
          obtain ⟨m0, m1, m2, m3, m4, m5, m6, m7, m8⟩ := HM19.out.c
          have mf := HM19.out.fz 7
          clear hsb hs19 hg19 hga hgg HM HR HGR HST hsj
          go_upto_region 20 with (fail)
          have hgs := grown_setCell w19 M 7 (.string sb)
          have HM20 := Lib.hid (HM19.out.setSubj sb)
          have HR20 := Lib.hid (HR19.out.keep hgs hRMe)
          have HG20 : Hid (w.grownBy (w19.setCell ⟨M, 7, none⟩ (.string sb)) (some g)) := grown_row HG19.out hgs (fun i e => by have := Option.some.inj e; have := HRW.out; omega)
          clear hgs HM19 HR19 HG19 m0 m1 m2 m3 m4 m5 m6 m7 m8 mf
          generalize w19.setCell ⟨M, 7, none⟩ (.string sb) = w20 at *
          obtain ⟨m0, m1, m2, m3, m4, m5, m6, m7, m8⟩ := HM20.out.c
          have HFL := Lib.hid (Tryz.strings_Fields sb w20 (by have := HSJ.out.1; omega) (fun j b hb => by
            have h1 := List.all_eq_true.1 HSJ.out.2.1 b (List.mem_of_getElem? hb)
            simpa using h1) (HTAB.out w20 HG20.out))
          go_wp2_with fail
          refine HFL.out.mono ?_
          rintro e w21 ⟨rfl, hw21⟩
          have hst := alloc_strs w20 (Lib.fields sb.data.toList) 9
          have hga := grown_alloc (World.grownBy.refl w20 none) (.cells ((Lib.fields sb.data.toList).map fun l => Value.string ⟨l.toArray⟩).toArray 9)
          rw [← hw21] at hst hga
          have HM21 := Lib.hid (HM20.out.keep hga (fun e => by cases e))
          have HR21 := Lib.hid (HR20.out.keep hga (fun e => by cases e))
          have HG21 : Hid (w.grownBy w21 (some g)) := by
            show World.grownBy _ _ _
            rw [hw21]; exact grown_alloc HG20.out _
          have HJN := Lib.hid (joinC_any _ _ _ (Lib.fields sb.data.toList) 32 w21 hst (by have := HSJ.out.2.2.1; omega) (by have := HSJ.out.2.2.2; omega))
          clear hst hga hw21 HFL HM20 HR20 HG20 m0 m1 m2 m3 m4 m5 m6 m7 m8
          generalize Lib.fields sb.data.toList = fl at *
          go_wp2_with fail
          refine HJN.out.mono ?_
          rintro e w22 ⟨rfl, hb22⟩
          generalize bag (Lib.join fl [32]) = sj at *
          have HM22 := Lib.hid (HM21.out.keep (below_grown hb22 none) (fun e => by cases e))
          have HR22 := Lib.hid (HR21.out.keep (below_grown hb22 none) (fun e => by cases e))
          have HG22 := Lib.hid (grown_below HG21.out hb22)
          obtain ⟨m0, m1, m2, m3, m4, m5, m6, m7, m8⟩ := HM22.out.c
          have mf := HM22.out.fz 7
          clear hb22 HM21 HR21 HG21 HJN
          go_upto_region 21 with (fail)
          have hgs := grown_setCell w22 M 7 (.string sj)
          have HM23 := Lib.hid (HM22.out.setSubj sj)
          have HR23 := Lib.hid (HR22.out.keep hgs hRMe)
          have HG23 : Hid (w.grownBy (w22.setCell ⟨M, 7, none⟩ (.string sj)) (some g)) := grown_row HG22.out hgs (fun i e => by have := Option.some.inj e; have := HRW.out; omega)
          clear hgs HM22 HR22 HG22 m0 m1 m2 m3 m4 m5 m6 m7 m8 mf
          generalize w22.setCell ⟨M, 7, none⟩ (.string sj) = w23 at *
          obtain ⟨m0, m1, m2, m3, m4, m5, m6, m7, m8⟩ := HM23.out.c
          obtain ⟨r0, r1, r2, r3, r4, r5, r6, r7, r8⟩ := HR23.out.c
          have f0 := HR23.out.fz 0
          have f1 := HR23.out.fz 1
          have f2 := HR23.out.fz 2
          have f3 := HR23.out.fz 3
          have f4 := HR23.out.fz 4
          have f5 := HR23.out.fz 5
          have f6 := HR23.out.fz 6
          have f7 := HR23.out.fz 7
          have f8 := HR23.out.fz 8
          go_wp2_with fail
          obtain ⟨hm24, hg24⟩ := mail_all HR23.out ⟨#[109, 49]⟩ 5 nm ml (.slice At Lt.length ct) (.slice Ac Lc.length cc) (.slice Ar Lr.length cr) sj t
          have hgf : w.grownBy _ (some g) := grown_row HG23.out hg24 (fun i e => by have := Option.some.inj e; have := HRW.out; omega)
          clear r0 r1 r2 r3 r4 r5 r6 r7 r8 f0 f1 f2 f3 f4 f5 f6 f7 f8
          generalize ((((((((w23.setCell ⟨R, 0, none⟩ (.string ⟨#[109, 49]⟩)).setCell ⟨R, 1, none⟩ (.int .i64 5)).setCell ⟨R, 2, none⟩ (.string nm)).setCell ⟨R, 3, none⟩ (.string ml)).setCell ⟨R, 4, none⟩ (.slice At Lt.length ct)).setCell ⟨R, 5, none⟩ (.slice Ac Lc.length cc)).setCell ⟨R, 6, none⟩ (.slice Ar Lr.length cr)).setCell ⟨R, 7, none⟩ (.string sj)).setCell ⟨R, 8, none⟩ (.string t) = w24 at *
          obtain ⟨r0, r1, r2, r3, r4, r5, r6, r7, r8⟩ := hm24.c
          exact bodyPost_ret (v := .agg #[.string ⟨#[109, 49]⟩, .int .i64 5, .string nm, .string ml, .slice At Lt.length ct, .slice Ac Lc.length cc, .slice Ar Lr.length cr, .string sj, .string t]) (by simp [results, Tryz.results5, go_sem, r0, r1, r2, r3, r4, r5, r6, r7, r8]) rfl ⟨_, _, _, _, _, _, _, _, _, _, _, _, _, _, _, rfl, HT.out, hgf⟩
end Go.Proofs.YtmaimojpjepmjaaGreatDoor
