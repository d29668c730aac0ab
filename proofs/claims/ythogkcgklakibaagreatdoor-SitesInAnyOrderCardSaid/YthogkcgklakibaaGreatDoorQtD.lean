
/-
  intake.Quote in a seat of deeds.
-/
import Derived.Test.YthogkcgklakibaaGreatDoorItxPlain
import Derived.Test.YthogkcgklakibaaGreatDoorElems
import Derived.Test.YthogkcgklakibaaGreatDoorStrLib
import Derived.Deep.QuietTactic
import Derived.BigQuiet
import Derived.RegionTactic
namespace Go.Proofs.YthogkcgklakibaaGreatDoor
open Go.RowKit


def hexQ : ByteArray := ⟨#[48, 49, 50, 51, 52, 53, 54, 55, 56, 57, 97, 98, 99, 100, 101, 102]⟩
theorem hex_fin : ∀ i : Fin 16, hexQ.extract i.val (i.val + 1) = (⟨[hexD i.val].toArray⟩ : ByteArray) := by decide +kernel
theorem hex_cut (i : Nat) (h : i < 16) (z : Int) (hz : z = i + 1) (w : World) : (Instr.slice 9 (.string hexQ) (some (.int .u8 (i : Int))) (some (.int .u8 z)) none).run Tryz.prog w = .ok (.string ⟨[hexD i].toArray⟩) w := by
  subst hz
  have h1 : hexQ.size = 16 := rfl
  have h2 := hex_fin ⟨i, h⟩
  simp only at h2
  have h3 : ((i : Int) + 1).toNat = i + 1 := by omega
  have h4 : (i : Int) + 1 ≤ 16 := by omega
  simp [Instr.slice, Instr.sliceBounds, Instr.sliceBound, asIntOf, run_underlying Tryz.underlying9, h1, h3, h4, h2]
  omega
theorem enc_fin : ∀ i : Fin 127, Utf8.encode (i.val : Int) = ⟨#[UInt8.ofNat i.val]⟩ := by decide +kernel
set_option maxHeartbeats 800000 in
set_option maxRecDepth 100000 in
theorem quoted_any (c : UInt8) (w : World) : Calls Tryz.prog 166 #[.int .u8 (c.toNat : Int)] w fun e w' => e = .returned (.string ⟨(quoB c).toArray⟩) ∧ ∃ q, w' = w.drewN q := by
  by_cases h34 : c = 34
  · subst h34
    go_enter Tryz.func166, Tryz.ntmps166
    go_wp2_with fail
    go_ret
    exact ⟨rfl, 0, rfl⟩
  by_cases h92 : c = 92
  · subst h92
    go_enter Tryz.func166, Tryz.ntmps166
    go_wp2_with fail
    go_ret
    exact ⟨rfl, 0, rfl⟩
  by_cases h10 : c = 10
  · subst h10
    go_enter Tryz.func166, Tryz.ntmps166
    go_wp2_with fail
    go_ret
    exact ⟨rfl, 0, rfl⟩
  obtain ⟨n, hn⟩ : ∃ n, n = c.toNat := ⟨_, rfl⟩
  have hn256 : n < 256 := by rw [hn]; exact c.toNat_lt
  have hne : ∀ k : Nat, k < 256 → c ≠ UInt8.ofNat k → n ≠ k := fun k hk h e => h (by rw [← e, hn]; simp)
  have e34 : ((n : Int) == 34) = false := by have := hne 34 (by decide) h34; simp; omega
  have e92 : ((n : Int) == 92) = false := by have := hne 92 (by decide) h92; simp; omega
  have e10 : ((n : Int) == 10) = false := by have := hne 10 (by decide) h10; simp; omega
  clear hne
  rw [← hn]
  by_cases hvis : c < 33 ∨ 126 < c
  · have hq : quoB c = [92, 120, hexD (n / 16), hexD (n % 16)] := by
      unfold quoB
      rw [if_neg (by simp [h34, h92]), if_neg h10, if_pos hvis, hn]
    rw [hq]
    clear hq
    have hv : n < 33 ∨ 126 < n := by
      rcases hvis with h | h
      · left; rw [hn]; exact h
      · right; rw [hn]; exact h
    clear hn h34 h92 h10 hvis
    have HE : Hid ((⟨#[92, 120]⟩ : ByteArray) ++ hexQ.extract (n / 16) (n / 16 + 1) ++ hexQ.extract (n % 16) (n % 16 + 1) = ⟨[92, 120, hexD (n / 16), hexD (n % 16)].toArray⟩) := by
      show _ = _
      have h1 := hex_fin ⟨n / 16, by omega⟩
      have h2 := hex_fin ⟨n % 16, by omega⟩
      simp only at h1 h2
      rw [h1, h2]
      rfl
    rcases hv with hv | hv
    · have a1 : (n : Int) < 33 := by omega
      go_enter Tryz.func166, Tryz.ntmps166
      go_upto_region 6 with (fail)
      go_quiet (fail)
      go_wp2_with fail
      go_ret
      exact ⟨congrArg (fun x : ByteArray => Ending.returned (.string x)) HE.out, _, rfl⟩
    · have a1 : ¬ (n : Int) < 33 := by omega
      have a2 : (126 : Int) < (n : Int) := by omega
      go_enter Tryz.func166, Tryz.ntmps166
      go_upto_region 6 with (fail)
      go_quiet (fail)
      go_wp2_with fail
      go_ret
      exact ⟨congrArg (fun x : ByteArray => Ending.returned (.string x)) HE.out, _, rfl⟩
  · have hq : quoB c = [c] := by
      unfold quoB
      rw [if_neg (by simp [h34, h92]), if_neg h10, if_neg hvis]
    rw [hq]
    have a1 : ¬ (n : Int) < 33 := by
      have : ¬ n < 33 := fun e => hvis (.inl (by show c.toNat < 33; omega))
      omega
    have a2 : ¬ (126 : Int) < (n : Int) := by
      have : ¬ 126 < n := fun e => hvis (.inr (by show 126 < c.toNat; omega))
      omega
    have HC : Hid (c = UInt8.ofNat n) := by show _ = _; rw [hn]; simp
    clear hq hn h34 h92 h10 hvis
    go_enter Tryz.func166, Tryz.ntmps166
    have HE : Hid (Utf8.encode (n : Int) = ⟨[c].toArray⟩) := by
      show _ = _
      have h1 := enc_fin ⟨n, by omega⟩
      simp only at h1
      rw [h1, HC.out]
    go_wp2_with fail
    go_ret
    exact ⟨congrArg (fun x : ByteArray => Ending.returned (.string x)) HE.out, 0, rfl⟩

def ByteE : Elem UInt8 := ⟨5, 152, 1, 1, .int .u8 0, fun x => [.int .u8 (x.toNat : Int)]⟩
theorem byteE_ok : ByteE.Ok := ⟨fun _ => rfl, fun x u hu => by simp [ByteE] at hu; subst hu; rfl, by decide, by decide, by kernel_rfl, by kernel_rfl, Tryz.underlying152⟩
theorem byteE_cells (l : List UInt8) : ByteE.cells l = Lib.byteCells l := by
  induction l with
  | nil => rfl
  | cons b l ih => simp only [Elem.cells, List.flatMap_cons] at ih ⊢; rw [ih]; rfl
theorem own_back {w : World} {B : Nat} {v : Value} {l : List UInt8} (h : Owns ByteE w B v l) : (convert 152 9 v).run Tryz.prog w = .ok (.string (bag l)) w := by
  rcases h.2 with ⟨rfl, h0⟩ | ⟨g, cap, cur, rfl, _, hh, hc1, hc2, hc3, hc4⟩
  · have : l = [] := List.eq_nil_of_length_eq_zero h0
    subst this
    rw [run_convert_bytes_string w 152 9 5 none 0 0 Tryz.underlying152 Tryz.underlying5 Tryz.underlying9]
    rfl
  · refine run_convert_bytes_back w 152 9 5 ⟨g, 0, none⟩ cap l Tryz.underlying152 Tryz.underlying5 Tryz.underlying9 (fun j hj => ?_)
    have hadd : (⟨g, 0, none⟩ : Addr).add j = ⟨g, j, none⟩ := by unfold Addr.add; split <;> simp_all
    rw [hadd, cell_of_row w g j _ _ _ hh]
    have e1 : (ByteE.cells l)[j]? = some (.int .u8 (l[j].toNat : Int)) := by rw [byteE_cells]; simp [Lib.byteCells, hj]
    rw [← hc4, List.getElem?_take] at e1
    split at e1
    · rw [← Array.getElem?_toList]; exact e1
    · cases e1
theorem own_back' {w : World} {B : Nat} {v : Value} {l : List UInt8} (h : Owns ByteE w B v l) : ∀ n, (convert 152 9 v).run Tryz.prog (w.drewN n) = .ok (.string (bag l)) (w.drewN n) := fun n => own_back (w := w.drewN n) h
theorem index_at {s : ByteArray} {k : Nat} {b : UInt8} (h : s.data.toList[k]? = some b) (z : Int) (hz : z = k) (w : World) : (Instr.index 9 (.string s) (.int .i64 z)).run Tryz.prog w = .ok (.int .u8 (b.toNat : Int)) w := by
  subst hz
  obtain ⟨h1, h2⟩ := List.getElem?_eq_some_iff.1 h
  have hk : k < s.size := by simpa using h1
  rw [run_index_string w 9 s .i64 (k : Int) Tryz.underlying9, dif_pos ⟨by omega, by omega⟩]
  have : s[((k : Int)).toNat]'(by simpa using hk) = b := by
    rw [← h2]
    rfl
  rw [← this]

theorem BuildAt.new (w : World) : BuildAt w.heap.size w.heap.size [] (w.alloc (.cells #[.pointer none, .slice none 0 0] 154)) :=
  .inl ⟨Nat.le_refl _, .slice none 0 0, heap_alloc_new _ _, ⟨rfl, .inl ⟨rfl, rfl⟩⟩, by simp [Value.ownBlock]⟩
theorem BuildAt.below {w w' : World} {B b : Nat} {l : List UInt8} (h : BuildAt B b l w) (hb : Below w.heap.size w w') : BuildAt B b l w' := by
  have key : ∀ p, Lib.BuilderAt 154 5 B b p (Lib.byteCells l) w → Lib.BuilderAt 154 5 B b p (Lib.byteCells l) w' := by
    rintro p ⟨hB, v, hk, hown, hne⟩
    have hv : v.ownBlock = none ∨ v.ownBlock ≠ none := by cases v.ownBlock <;> simp
    exact ⟨hB, v, (hb.block b (Array.getElem?_eq_some_iff.1 hk).1).trans hk, World.ownsRow.kept hown (below_grown hb none) hv, hne⟩
  rcases h with h | h
  · exact .inl (key _ h)
  · exact .inr (key _ h)
theorem bag_size' (l : List UInt8) : (bag l).size = l.length := by simp [bag, ByteArray.size]
def QuotePost (w : World) (l : List UInt8) (e : Ending) (w' : World) : Prop := e = .returned (.string (bag l)) ∧ Below w.heap.size w w'
set_option maxHeartbeats 1600000 in
set_option maxRecDepth 100000 in
theorem quote_any (s : ByteArray) (w : World) (hs : s.size ≤ 10000) :
    Calls Tryz.prog 126 #[.string s] w (QuotePost w (quoS s.data.toList)) := by
  have HSL : Hid (s.data.toList.length = s.size) := by show _ = _; simp
  have HQL := Lib.hid (fun k => quo_len (s.data.toList.take k))
  have hb1 : Below w.heap.size w (w.alloc (.cells #[.pointer none, .slice none 0 0] 154)) := (Below.refl _ _).alloc (Nat.le_refl _) _
  have HBU := Lib.hid (BuildAt.new w)
  have HB1 := Lib.hid hb1
  have hz1 : w.heap.size < (w.alloc (.cells #[.pointer none, .slice none 0 0] 154)).heap.size := by simp
  have HZ1 := Lib.hid hz1
  clear hb1 hz1
  go_enter Tryz.func126, Tryz.ntmps126
  go_upto_region 2 with (fail)
  generalize w.alloc (.cells #[.pointer none, .slice none 0 0] 154) = w1 at *
  go_wp2_with fail
  refine (writeByte_any w.heap.size w.heap.size [] 34 w1 HBU.out (by simp) (Nat.le_of_lt HZ1.out)).mono ?_
  rintro e w2 ⟨rfl, hbu2, hb2⟩
  have HU2 : Hid (BuildAt w.heap.size w.heap.size ([34] ++ (s.data.toList.take 0).flatMap quoB) w2) := by
    show BuildAt _ _ _ _
    simpa using hbu2
  have HB2 := Lib.hid (HB1.out.trans hb2)
  have HZ2 : Hid (w.heap.size < w2.heap.size) := Nat.lt_of_lt_of_le HZ1.out hb2.size
  clear hbu2 hb2 HBU HB1 HZ1
  go_wp2_with fail
  go_loopg [8] s.size (fun gk v wr => ∃ k : Nat, Hid (k + gk = s.size) ∧ v = .int .i64 (k : Int) ∧ Hid (BuildAt w.heap.size w.heap.size ([34] ++ (s.data.toList.take k).flatMap quoB) wr) ∧ Hid (Below w.heap.size w wr) ∧ Hid (w.heap.size < wr.heap.size))
  case atStart => exact ⟨0, show 0 + s.size = _ by omega, rfl, HU2.out, HB2.out, HZ2.out⟩
  case round =>
    obtain ⟨k, HK, rfl, HU, HB, HZ⟩ := hrel
    clear HU2 HB2 HZ2
    have hkn : k ≤ s.size := by have := HK.out; omega
    have hll : ([34] ++ (s.data.toList.take k).flatMap quoB).length ≤ 50000 := by
      have h1 := HQL.out k
      rw [List.length_take] at h1
      rw [List.length_append]
      have : ([34] : List UInt8).length = 1 := rfl
      have := Nat.min_le_left k s.data.toList.length
      omega
    by_cases hlt : k < s.size
    · have HGK := Lib.hid (show k + 1 + (gk - 1) = s.size ∧ 0 < gk by have := HK.out; omega)
      obtain ⟨c, hc⟩ : ∃ c, s.data.toList[k]? = some c := ⟨_, List.getElem?_eq_getElem (by have := HSL.out; omega)⟩
      have hix := fun W => index_at hc (k : Int) rfl W
      have HTK : Hid ((s.data.toList.take (k + 1)).flatMap quoB = (s.data.toList.take k).flatMap quoB ++ quoB c) := by
        show _ = _
        obtain ⟨h1, h2⟩ := List.getElem?_eq_some_iff.1 hc
        rw [List.take_succ_eq_append_getElem h1, h2, List.flatMap_append]
        simp
      have hq4 := (quoB_facts c).2.1
      have HQ := Lib.hid (fun W => quoted_any c W)
      clear hc HK
      go_wp2_with fail
      refine (HQ.out _).mono ?_
      rintro e w3 ⟨rfl, q, rfl⟩
      have HU3 : Hid (BuildAt w.heap.size w.heap.size ([34] ++ (s.data.toList.take k).flatMap quoB) (wr.drewN q)) := HU.out
      have HB3 : Hid (Below w.heap.size w (wr.drewN q)) := below_drewN HB.out q
      have HZ3 : Hid (w.heap.size < (wr.drewN q).heap.size) := HZ.out
      generalize wr.drewN q = w3 at *
      have HWS := Lib.hid (writeString_any w.heap.size w.heap.size ([34] ++ (s.data.toList.take k).flatMap quoB) ⟨(quoB c).toArray⟩ w3 HU3.out (by
        have : (⟨(quoB c).toArray⟩ : ByteArray).size = (quoB c).length := by simp [ByteArray.size]
        omega) (Nat.le_of_lt HZ3.out))
      clear hix HU HB HZ HQ
      go_wp2_with fail
      refine HWS.out.mono ?_
      rintro e w4 ⟨rfl, hbu4, hb4⟩
      have HU4 : Hid (BuildAt w.heap.size w.heap.size ([34] ++ (s.data.toList.take (k + 1)).flatMap quoB) w4) := by
        show BuildAt _ _ _ _
        rw [HTK.out, ← List.append_assoc]
        exact hbu4
      have HB4 := Lib.hid (HB3.out.trans hb4)
      have HZ4 : Hid (w.heap.size < w4.heap.size) := Nat.lt_of_lt_of_le HZ3.out hb4.size
      clear hbu4 hb4 HWS HU3 HB3 HZ3
      go_wp2_with fail
      go_roundg (gk - 1)
      case measure => exact Nat.sub_lt HGK.out.2 Nat.one_pos
      case rel => exact ⟨k + 1, HGK.out.1, by go_num, HU4.out, HB4.out, HZ4.out⟩
    · have hnk : ¬ (k : Int) < (s.size : Int) := by omega
      have HALL : Hid (s.data.toList.take k = s.data.toList) := List.take_of_length_le (by have := HSL.out; omega)
      have HWB := Lib.hid (writeByte_any w.heap.size w.heap.size ([34] ++ (s.data.toList.take k).flatMap quoB) 34 wr HU.out (by omega) (Nat.le_of_lt HZ.out))
      clear HK hlt
      go_wp2_with fail
      refine HWB.out.mono ?_
      rintro e w3 ⟨rfl, hbu3, hb3⟩
      have HB3 := Lib.hid (HB.out.trans hb3)
      have HZ3 : Hid (w.heap.size < w3.heap.size) := Nat.lt_of_lt_of_le HZ.out hb3.size
      have HST := Lib.hid (string_any w.heap.size w.heap.size _ w3 hbu3 (Nat.le_of_lt HZ3.out))
      have HE : Hid ([34] ++ (s.data.toList.take k).flatMap quoB ++ [34] = quoS s.data.toList) := by show _ = _; rw [HALL.out]; simp [quoS]
      rw [HE.out] at HST
      clear hbu3 hb3 HWB
      go_wp2_with fail
      refine HST.out.mono ?_
      rintro e w4 ⟨rfl, hb4⟩
      have HB4 := Lib.hid (HB3.out.trans hb4)
      clear hb4 HST
      go_wp2_with fail
      go_ret
      exact ⟨rfl, HB4.out⟩
end Go.Proofs.YthogkcgklakibaaGreatDoor
