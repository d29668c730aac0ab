
/-
  Bytes that are appended one by one; a builder's writes, which turn nothing but builders and rows of bytes of the call's own.
-/
import Derived.Test.YtbipkkebkddegaaGreatDoorStrLib
import Derived.Test.YtbipkkebkddegaaGreatDoorConv
import Derived.Lib.AppendStr
namespace Go.Proofs.YtbipkkebkddegaaGreatDoor
open Go.RowKit

def ByteE : Elem UInt8 := ⟨5, 71, 1, 1, .int .u8 0, fun x => [.int .u8 (x.toNat : Int)]⟩
theorem byteE_ok : ByteE.Ok := ⟨fun _ => rfl, fun x u hu => by simp [ByteE] at hu; subst hu; rfl, by decide, by decide, by kernel_rfl, by kernel_rfl, Tryz.underlying71⟩
theorem byteE_cells (l : List UInt8) : ByteE.cells l = Lib.byteCells l := by
  induction l with
  | nil => rfl
  | cons b l ih => simp only [Elem.cells, List.flatMap_cons] at ih ⊢; rw [ih]; rfl
/-- Nothing is turned but builders and rows of bytes of the call's own. -/
def OnlyBuf (w w' : World) : Prop := ∀ (k : Nat) (o : Obj), w.heap[k]? = some o → (∀ c, o ≠ .cells c 73 (0, 0)) → (∀ c, o ≠ .cells c 5 (0, 0)) → w'.heap[k]? = some o
theorem OnlyBuf.refl (w : World) : OnlyBuf w w := fun _ _ h _ _ => h
theorem OnlyBuf.trans {a b c : World} (h : OnlyBuf a b) (k : OnlyBuf b c) : OnlyBuf a c := fun i o hi h1 h2 => k i o (h i o hi h1 h2) h1 h2
theorem OnlyBuf.alloc {a b : World} (h : OnlyBuf a b) (o : Obj) : OnlyBuf a (b.alloc o) := fun i x hi h1 h2 => by
  have h3 := h i x hi h1 h2
  exact (Below.heap_alloc b o i (Array.getElem?_eq_some_iff.1 h3).1).trans h3
theorem OnlyBuf.drewN {a b : World} (h : OnlyBuf a b) (n : Nat) : OnlyBuf a (b.drewN n) := h
theorem OnlyBuf.row {a b c : World} {row : Option Nat} (h : OnlyBuf a b) (hg : b.grownBy c row) (hr : ∀ g, row = some g → ∃ cs, b.heap[g]? = some (.cells cs 5 (0, 0)) ∨ b.heap[g]? = some (.cells cs 73 (0, 0))) : OnlyBuf a c := fun i x hi h1 h2 => by
  have h3 := h i x hi h1 h2
  rw [hg.block i (Array.getElem?_eq_some_iff.1 h3).1 (fun e => ?_)]
  · exact h3
  · obtain ⟨cs, hc | hc⟩ := hr i e.symm
    · rw [h3] at hc; exact h2 cs (Option.some.inj hc)
    · rw [h3] at hc; exact h1 cs (Option.some.inj hc)
theorem OnlyBuf.belows {w w' : World} (h : Below w.heap.size w w') : OnlyBuf w w' := fun i _ hi _ _ => (h.block i (Array.getElem?_eq_some_iff.1 hi).1).trans hi
theorem own_kind {w : World} {B : Nat} {v : Value} {n : Nat} {xs : List Value} (h : w.ownsRow B 5 1 v n xs) : ∀ g, v.ownBlock = some g → ∃ cs, w.heap[g]? = some (.cells cs 5 (0, 0)) ∨ w.heap[g]? = some (.cells cs 73 (0, 0)) := by
  intro g hg
  rcases h.2 with ⟨rfl, _⟩ | ⟨g', cap, cur, rfl, _, hh, _⟩
  · cases hg
  · cases hg
    exact ⟨cur, .inl hh⟩

def CheckPost (B b : Nat) (l : List UInt8) (w : World) (e : Ending) (w' : World) : Prop := e = .returned (.tuple #[]) ∧ Lib.BuilderAt 73 5 B b (.pointer (some ⟨b, 0, none⟩)) (Lib.byteCells l) w' ∧ Below B w w' ∧ OnlyBuf w w'
theorem copyCheck_any (B b : Nat) (l : List UInt8) (w : World) (h : BuildAt B b l w) (hB : B ≤ w.heap.size) :
    Calls Tryz.prog 69 #[.pointer (some ⟨b, 0, none⟩)] w (CheckPost B b l w) := by
  rcases h with h | h
  · have h0 := h.cell0
    have hs := h.shape
    have hz := h.frozen0
    refine (Any.Builder_copyCheck_fresh (L := { lays166' with }) (X := buildExtra.toX72) b w h0 hs hz).mono ?_
    rintro e w' ⟨rfl, rfl⟩
    obtain ⟨hBb, v, hb, hown, hne⟩ := h
    refine ⟨rfl, ?_, (Below.refl B w).setCell (p := ⟨b, 0, none⟩) hBb _, ?_⟩
    · refine ⟨hBb, v, by simp [World.setCell, Array.getElem?_modify, hb], World.ownsRow.kept hown (grown_setCell w b 0 _) (.inr hne), hne⟩
    · exact (OnlyBuf.refl w).row (grown_setCell w b 0 _) (fun g e => by cases e; exact ⟨_, .inr hb⟩)
  · refine (Any.Builder_copyCheck_used (L := { lays166' with }) (X := buildExtra.toX72) b w h.cell0).mono ?_
    rintro e w' ⟨rfl, rfl⟩
    exact ⟨rfl, h, Below.refl _ _, OnlyBuf.refl _⟩

def WroteB (B b : Nat) (r : Value) (l : List UInt8) (w : World) (e : Ending) (w' : World) : Prop := e = .returned r ∧ BuildAt B b l w' ∧ Below B w w' ∧ OnlyBuf w w'
theorem put_build {w1 w2 : World} {B b n : Nat} {v : Value} {A : Option Addr} {c : Nat} {l : List UInt8} (hB : B ≤ b) (hb : w1.heap[b]? = some (.cells #[.pointer (some ⟨b, 0, none⟩), v] 73 (0, 0))) (hv : v.ownBlock ≠ some b) (hg : w1.grownBy w2 v.ownBlock)
    (hown : Owns ByteE w2 B (.slice A n c) l) (_hn : n = l.length) : BuildAt B b l (w2.setCell ⟨b, 1, none⟩ (.slice A n c)) := by
  have hb2 : w2.heap[b]? = some (.cells #[.pointer (some ⟨b, 0, none⟩), v] 73 (0, 0)) := (hg.block b (Array.getElem?_eq_some_iff.1 hb).1 (fun e => hv e.symm)).trans hb
  have hne : (Value.slice A n c).ownBlock ≠ some b := hown.ne_block hb2 (by decide)
  refine .inr ⟨hB, .slice A n c, by simp [World.setCell, Array.getElem?_modify, hb2], ?_, hne⟩
  have h : w2.ownsRow B 5 1 (.slice A n c) (Lib.byteCells l).length (Lib.byteCells l) := by
    have := hown
    unfold Owns at this
    rw [byteE_cells] at this
    rw [show (Lib.byteCells l).length = l.length by simp [Lib.byteCells]]
    exact this
  exact World.ownsRow.kept h (grown_setCell w2 b 1 _) (.inr hne)
theorem BuilderAt.parts {B b : Nat} {p : Value} {l : List UInt8} {w : World} (h : Lib.BuilderAt 73 5 B b p (Lib.byteCells l) w) : B ≤ b ∧ b < w.heap.size ∧ ∃ v, w.heap[b]? = some (.cells #[p, v] 73 (0, 0)) ∧ Owns ByteE w B v l ∧ v.ownBlock ≠ some b := by
  obtain ⟨hB, v, hb, hown, hne⟩ := h
  refine ⟨hB, (Array.getElem?_eq_some_iff.1 hb).1, v, hb, ?_, hne⟩
  unfold Owns
  rw [byteE_cells]
  rw [show (Lib.byteCells l).length = l.length by simp [Lib.byteCells]] at hown
  exact hown

set_option maxHeartbeats 1600000 in
set_option maxRecDepth 100000 in
theorem writeByte_buf (B b : Nat) (l : List UInt8) (c : UInt8) (w : World) (h : BuildAt B b l w) (hl : l.length ≤ 90000) (hB : B ≤ w.heap.size) :
    Calls Tryz.prog 33 #[.pointer (some ⟨b, 0, none⟩), .int .u8 (c.toNat : Int)] w (WroteB B b .nilIface (l ++ [c]) w) := by
  go_enter Tryz.func33, Tryz.ntmps33
  go_wp2_with fail
  refine (copyCheck_any B b l w h hB).mono ?_
  rintro e w1 ⟨rfl, hb1, hbel, honly⟩
  obtain ⟨hBb, hblt, v, hbk, hown, hne⟩ := BuilderAt.parts hb1
  have c1 : w1.cell? ⟨b, 1, none⟩ = some v := by rw [cell_of_row w1 b 1 _ _ _ hbk]; rfl
  have hone := one_elem (E := ByteE) w1 c
  have HO := Lib.hid (World.ownsRow.alloc hown (.cells #[.int .u8 (c.toNat : Int)] 5))
  have HONE := Lib.hid hone
  have HK := Lib.hid hbk
  have HB1 := Lib.hid hbel
  have HON := Lib.hid honly
  have HNE := Lib.hid hne
  have hsz := hbel.size
  have hbs : B ≤ (w1.alloc (.cells #[.int .u8 (c.toNat : Int)] 5)).heap.size := by simp; omega
  have HOW := Lib.hid hown
  clear hb1 hone hbk hbel honly hne hown
  go_wp2_with (refine append_elems byteE_ok rfl _ _ rfl B v l rfl HO.out (some ⟨w1.heap.size, 0, none⟩) 1 1 [c] rfl HONE.out (by simp; omega) hbs ?_; intro v' w3 hown3 hgr hrow; have hk3 := (hgr.block b (by simp; omega) (fun e => HNE.out e.symm)).trans ((Below.heap_alloc _ _ _ hblt).trans HK.out); have q1 : w3.cell? ⟨b, 1, none⟩ = some v := (by rw [cell_of_row w3 b 1 _ _ _ hk3]; rfl); have f1 : w3.frozen? ⟨b, 1, none⟩ = false := (by simp [World.frozen?, hk3]); have l3 := (Array.getElem?_eq_some_iff.1 hk3).1; obtain ⟨A5, c5, rfl, hc5, hat5, hG5⟩ := hown3.at_ byteE_ok; have HO3 := Lib.hid hown3; have HG3 := Lib.hid hgr; have HK3 := Lib.hid hk3; clear hown3 hgr hk3 hat5 hG5 hc5 hrow; generalize hl5 : (l ++ [c]).length = n5 at *; have HL5 := Lib.hid hl5; clear hl5)
  go_ret
  have hkA : (w1.alloc (.cells #[.int .u8 (c.toNat : Int)] 5)).heap[b]? = some (.cells #[.pointer (some ⟨b, 0, none⟩), v] 73 (0, 0)) := (Below.heap_alloc _ _ _ hblt).trans HK.out
  refine ⟨rfl, put_build hBb hkA HNE.out HG3.out HO3.out HL5.out.symm, ?_, ?_⟩
  · exact (((HB1.out.alloc (by omega) _).grown HG3.out hbs (fun k hk => (HOW.out.lt k hk).1))).setCell (p := ⟨b, 1, none⟩) hBb _
  · have ho := (HON.out.alloc (.cells #[.int .u8 (c.toNat : Int)] 5)).row HG3.out (own_kind HO.out)
    have hb3 : w3.heap[b]? = _ := HK3.out
    exact ho.row (grown_setCell w3 b 1 _) (fun g e => by cases e; exact ⟨_, .inr hb3⟩)
theorem strCells_byteE (s : ByteArray) : Lib.strCells s = ByteE.cells s.data.toList := by rw [byteE_cells]; rfl
set_option maxHeartbeats 1600000 in
set_option maxRecDepth 100000 in
theorem writeString_buf (B b : Nat) (l : List UInt8) (s : ByteArray) (w : World) (h : BuildAt B b l w) (hl : l.length + s.size ≤ 1000000) (hB : B ≤ w.heap.size) :
    Calls Tryz.prog 34 #[.pointer (some ⟨b, 0, none⟩), .string s] w (WroteB B b (.tuple #[.int .i64 s.size, .nilIface]) (l ++ s.data.toList) w) := by
  obtain ⟨i0, hi, hz0, hz1, hz2⟩ := info_parts byteE_ok.info
  have hsl : s.data.toList.length = s.size := by simp
  go_enter Tryz.func34, Tryz.ntmps34
  go_wp2_with fail
  refine (copyCheck_any B b l w h hB).mono ?_
  rintro e w1 ⟨rfl, hb1, hbel, honly⟩
  obtain ⟨hBb, hblt, v, hbk, hown, hne⟩ := BuilderAt.parts hb1
  have c1 : w1.cell? ⟨b, 1, none⟩ = some v := by rw [cell_of_row w1 b 1 _ _ _ hbk]; rfl
  have HO := Lib.hid hown
  have HK := Lib.hid hbk
  have HB1 := Lib.hid hbel
  have HON := Lib.hid honly
  have HNE := Lib.hid hne
  have hsz := hbel.size
  have HSL := Lib.hid hsl
  clear hb1 hbk hbel honly hne hown hsl
  go_wp2_with (at_builtin; go_loud (refine Lib.wpList_append_own_string (P := Tryz.prog) w1 rfl _ _ 71 9 rfl B 5 i0 Tryz.underlying71 Tryz.underlying9 hi hz0 hz1 hz2 v l.length (ByteE.cells l) rfl HO.out s rfl (by simp only [maxLen]; omega) (by omega) (by omega) ?_); intro v' w3 hown3 hgr hrow; have hown4 : Owns ByteE w3 B v' (l ++ s.data.toList) := (by unfold Owns; rw [Elem.cells_append, List.length_append, HSL.out, ← strCells_byteE]; exact hown3); clear hown3; have hk3 := (hgr.block b hblt (fun e => HNE.out e.symm)).trans HK.out; have q1 : w3.cell? ⟨b, 1, none⟩ = some v := (by rw [cell_of_row w3 b 1 _ _ _ hk3]; rfl); have f1 : w3.frozen? ⟨b, 1, none⟩ = false := (by simp [World.frozen?, hk3]); have l3 := (Array.getElem?_eq_some_iff.1 hk3).1; obtain ⟨A5, c5, rfl, hc5, hat5, hG5⟩ := hown4.at_ byteE_ok; have HO3 := Lib.hid hown4; have HG3 := Lib.hid hgr; have HK3 := Lib.hid hk3; clear hown4 hgr hk3 hat5 hG5 hc5 hrow; generalize hl5 : (l ++ s.data.toList).length = n5 at *; have HL5 := Lib.hid hl5; clear hl5)
  refine bodyPost_ret (v := .tuple #[.int .i64 s.size, .nilIface]) (by simp [results, Tryz.results34, go_sem]) rfl ?_
  refine ⟨rfl, put_build hBb HK.out HNE.out HG3.out HO3.out HL5.out.symm, ?_, ?_⟩
  · exact ((HB1.out.grown HG3.out (by omega) (fun k hk => (HO.out.lt k hk).1))).setCell (p := ⟨b, 1, none⟩) hBb _
  · have ho := HON.out.row HG3.out (own_kind HO.out)
    have hb3 : w3.heap[b]? = _ := HK3.out
    exact ho.row (grown_setCell w3 b 1 _) (fun g e => by cases e; exact ⟨_, .inr hb3⟩)
end Go.Proofs.YtbipkkebkddegaaGreatDoor
