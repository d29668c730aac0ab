
/-
  What the tables that the listed variables lay are good for; what CutSuffix and Lines return of a text whose last line is ended; what spreads returns.
-/
import Derived.Test.YtfijplllfdmcoaaGreatDoorStrLib
import Derived.Lib.LaidTab
namespace Go.Proofs.YtfijplllfdmcoaaGreatDoor
open Go.RowKit

def deBruijn64 : List Int := [0, 1, 56, 2, 57, 49, 28, 3, 61, 58, 42, 50, 38, 29, 17, 4, 62, 47, 59, 36, 45, 43, 51, 22, 53, 39, 33, 30, 24, 18, 12, 5, 63, 55, 48, 27, 60, 41, 37, 16, 46, 35, 44, 21, 52, 32, 23, 11, 54, 26, 40, 15, 34, 20, 31, 10, 25, 14, 19, 9, 13, 8, 7, 6]
/-- What the check of the packages reads of Go's library: a string's greatest length, the table of blanks, the table of trailing zeros. -/
structure StandAt (w : World) : Prop where
  max : MaxAt w
  space : Lib.TabIs Tryz.prog w "strings.asciiSpace" .u8 Lib.asciiSpaceTab
  zeros : Lib.TabIs Tryz.prog w "math/bits.deBruijn64tab" .u8 deBruijn64
theorem tabIs_keep {n : String} {g : Nat} {k : IntKind} {zs : List Int} {w w' : World} (hg : Tryz.prog.globalNamed n = some g) (h : Lib.TabIs Tryz.prog w n k zs) (hb : Below w.heap.size w w') : Lib.TabIs Tryz.prog w' n k zs := by
  unfold Lib.TabIs World.var? at h ⊢
  rw [hg] at h ⊢
  simp only [Option.bind_some] at h ⊢
  have hlt : g < w.heap.size := by
    rcases Nat.lt_or_ge g w.heap.size with h' | h'
    · exact h'
    · rw [Array.getElem?_eq_none h'] at h; cases h
  rw [hb.block g hlt]
  exact h
theorem StandAt.below {w w' : World} (h : StandAt w) (hb : Below w.heap.size w w') : StandAt w' :=
  ⟨h.max.below hb, tabIs_keep (g := 3) (by kernel_rfl) h.space hb, tabIs_keep (g := 7) (by kernel_rfl) h.zeros hb⟩

theorem suffix_nl (t : ByteArray) : Lib.hasSuffix (t ++ ⟨#[10]⟩ : ByteArray).data.toList [10] = true := by
  simp [Lib.hasSuffix]
theorem extract_nl (t : ByteArray) : (t ++ ⟨#[10]⟩ : ByteArray).extract 0 t.size = t := by
  apply ByteArray.ext
  simp
theorem cutSuffix_nl (t : ByteArray) (w : World) (ht : t.size ≤ 1000000) :
    Calls Tryz.prog 196 #[.string (t ++ ⟨#[10]⟩), .string ⟨#[10]⟩] w fun e w' => e = .returned (.tuple #[.string t, .bool true]) ∧ w = w' := by
  have hsuf := suffix_nl t
  have hsz : (t ++ ⟨#[10]⟩ : ByteArray).size = t.size + 1 := by rw [ByteArray.size_append]; rfl
  have hex := extract_nl t
  generalize (t ++ ⟨#[10]⟩ : ByteArray) = s at *
  have HSF := Lib.hid hsuf; clear hsuf
  have hs1 : s.size ≤ 2000000 := by omega
  have hsl := slice_to s t.size (by omega)
  rw [hex] at hsl
  clear hex
  have e1 : (s.size : Int) - 1 = (t.size : Int) := by omega
  clear hsz
  go_enter Tryz.func196, Tryz.ntmps196
  go_wp2_with fail
  go_in
  go_wp2_with fail
  refine (Tryz.stringslite_HasSuffix s ⟨#[10]⟩ w (by omega)).mono ?_
  rintro e w' ⟨rfl, hw⟩
  obtain rfl := hw.symm
  rw [show (⟨#[10]⟩ : ByteArray).data.toList = [10] from rfl, HSF.out]
  go_wp2_with fail
  go_ret2
  exact ⟨rfl, rfl⟩
def LinesPost (w : World) (l : List (List UInt8)) (e : Ending) (w' : World) : Prop :=
  ∃ A n c, e = .returned (.tuple #[.slice A n c, .bool true]) ∧ StrsAt w' A n c l ∧ Below w.heap.size w w' ∧ NewAt A w.heap.size
set_option maxHeartbeats 800000 in
theorem lines_nl (t : ByteArray) (w : World) (ht : t.size ≤ 1000000) (hM : MaxAt w) :
    Calls Tryz.prog 147 #[.string (t ++ ⟨#[10]⟩)] w (LinesPost w (splitC 10 t.data.toList)) := by
  have hne : (t ++ ⟨#[10]⟩ : ByteArray).toList = [] ↔ False := by
    rw [Lib.toList_data]; simp
  have hn2 : (t ++ ⟨#[10]⟩ : ByteArray).toList.isEmpty = false := by rw [Lib.toList_data]; simp
  have HC := Lib.hid (cutSuffix_nl t w ht)
  generalize (t ++ ⟨#[10]⟩ : ByteArray) = s at *
  go_enter Tryz.func147, Tryz.ntmps147
  go_wp2_with fail
  refine HC.out.mono ?_
  rintro e w' ⟨rfl, rfl⟩
  go_wp2_with fail
  refine (split_any t 10 w ht hM).mono ?_
  rintro e w2 ⟨A, n, c, rfl, hs, hb, hn⟩
  go_wp2_with fail
  go_ret2
  exact ⟨A, n, c, rfl, hs, hb, hn⟩

def SpreadPost (w : World) (e : Ending) (w' : World) : Prop := ∃ A, e = .returned (.slice A 3 3) ∧ StrsAt w' A 3 3 [[110, 111, 110, 101], [115, 97, 109, 101], [102, 97, 109, 105, 108, 121]] ∧ Below w.heap.size w w'
theorem fields_spread : Lib.fields (⟨#[110, 111, 110, 101, 32, 115, 97, 109, 101, 32, 102, 97, 109, 105, 108, 121]⟩ : ByteArray).data.toList = [[110, 111, 110, 101], [115, 97, 109, 101], [102, 97, 109, 105, 108, 121]] := by decide +kernel
set_option maxHeartbeats 800000 in
theorem spreads_any (w : World) (h : StandAt w) : Calls Tryz.prog 149 #[] w (SpreadPost w) := by
  have HF := Lib.hid (Tryz.strings_Fields_laid ⟨#[110, 111, 110, 101, 32, 115, 97, 109, 101, 32, 102, 97, 109, 105, 108, 121]⟩ w (by decide) (fun j b hb => by
    have h : (⟨#[110, 111, 110, 101, 32, 115, 97, 109, 101, 32, 102, 97, 109, 105, 108, 121]⟩ : ByteArray).data.toList.all (fun b => decide (b.toNat < 128)) = true := by decide +kernel
    simpa using List.all_eq_true.1 h b (List.mem_of_getElem? hb)) h.space)
  go_enter Tryz.func149, Tryz.ntmps149
  go_wp2_with fail
  refine HF.out.mono ?_
  rw [fields_spread]
  rintro e w' ⟨rfl, rfl⟩
  go_wp2_with fail
  go_ret
  refine ⟨some ⟨w.heap.size, 0, none⟩, rfl, ⟨rfl, Nat.le_refl _, (fun e => by cases e), fun _ => ⟨w.heap.size, 0, rfl, by simp, fun k x i v hk hv => ?_⟩⟩, (Below.refl _ _).alloc (Nat.le_refl _) _⟩
  have hi : i = 0 := by have := (List.getElem?_eq_some_iff.1 hv).1; simp [StrE] at this; exact this
  subst hi
  simp [StrE] at hv
  rw [World.cell?_alloc_at _ _ _ _ rfl, ← hv]
  have hk3 := (List.getElem?_eq_some_iff.1 hk).1
  simp at hk3
  match k, hk3, hk with
  | 0, _, hk => simp at hk; subst hk; rfl
  | 1, _, hk => simp at hk; subst hk; rfl
  | 2, _, hk => simp at hk; subst hk; rfl
end Go.Proofs.YtfijplllfdmcoaaGreatDoor
