/-
  What near.Words returns.
-/
import Derived.Test.YtldngebikgendaaDoorLetter
import Derived.Test.YtldngebikgendaaDoorWiden
import Derived.Test.YtldngebikgendaaDoorWordsPlain
namespace Go.Proofs.YtldngebikgendaaDoor
open Go.RowKit

theorem str_info : (Tryd.prog.info? 9).map (fun i => (i.zero, i.size, i.bytes)) = some (some (.string ⟨#[]⟩), 1, 16) := by kernel_rfl

def strCells (l : List (List UInt8)) : List Value := l.map fun x => .string ⟨x.toArray⟩
theorem strCells_append (l m : List (List UInt8)) : strCells (l ++ m) = strCells l ++ strCells m := by simp [strCells]
theorem strCells_length (l : List (List UInt8)) : (strCells l).length = l.length := by simp [strCells]
theorem strCells_one (l : List (List UInt8)) : ∀ u ∈ strCells l, u.oneCell' = true := by
  intro u hu
  simp [strCells] at hu
  obtain ⟨a, _, rfl⟩ := hu
  rfl
/-- A slice of strings of the call's own. -/
def OwnStrs (w : World) (base : Nat) (v : Value) (l : List (List UInt8)) : Prop := w.ownsRow base 9 1 v l.length (strCells l)
theorem cells_str (w : World) (x : List UInt8) (t : TypeId) (j : Nat) (u : Value) (h : (strCells [x])[j]? = some u) :
    (w.alloc (.cells #[.string ⟨x.toArray⟩] t)).cell? ((⟨w.heap.size, 0, none⟩ : Addr).add j) = some u := by
  have hadd : (⟨w.heap.size, 0, none⟩ : Addr).add j = ⟨w.heap.size, j, none⟩ := by unfold Addr.add; split <;> simp_all
  rw [hadd, World.cell?_alloc_at _ _ _ _ rfl]
  simpa [strCells] using h
theorem extract_list (s : ByteArray) (f t : Nat) : (s.extract f t).data.toList = cutL s.data.toList f t := by
  rw [ByteArray.data_extract, Array.toList_extract]
  simp [cutL, List.extract_eq_take_drop]

def WordsPost (w : World) (L : List UInt8) (e : Ending) (w' : World) : Prop := ∃ v, e = .returned v ∧ OwnStrs w' w.heap.size v (wordsL L) ∧ Below w.heap.size w w'

set_option maxHeartbeats 3200000 in
set_option maxRecDepth 100000 in
theorem words_any (s : ByteArray) (w : World) (hs : s.size ≤ 20000) :
    Calls Tryd.prog 33 #[.string s] w (WordsPost w s.data.toList) := by
  obtain ⟨i0, hi, hz0, hz1, hz2⟩ := info_parts str_info
  have hlen : s.data.toList.length = s.size := by simp
  have HLEN := Lib.hid hlen; clear hlen
  go_enter Tryd.func33, Tryd.ntmps33
  go_wp2_with fail
  go_loopg [3, 4, 5] (s.size + 1) (fun gk v fr i wr => ∃ k : Nat, k + gk = s.size + 1 ∧ i = .int .i64 k ∧ fr = .int .i64 (fromI (scan s.data.toList k).1) ∧ OwnStrs wr w.heap.size v (wordsTo s.data.toList k) ∧ Below w.heap.size w wr)
  case atStart => exact ⟨0, by omega, rfl, rfl, World.ownsRow_nil _ _ _ _, Below.refl _ _⟩
  case round =>
    obtain ⟨k, hk, rfl, rfl, hown, hb⟩ := hrel
    have HK := Lib.hid hk; clear hk
    have hkn : k ≤ s.size + 1 := by have := HK.out; omega
    have HO := Lib.hid hown; clear hown
    by_cases hlt : k ≤ s.size
    · go_upto_region 6 with (fail)
      go_cut [6] (fun v wx => v = .bool (letAt s.data.toList k) ∧ wx = wr)
      case first =>
        by_cases h0 : k < s.size
        · have HC := Lib.hid (letAt_byte s k h0)
          go_wp2_with fail
          refine (nearLetter_any _ _).mono ?_
          rintro e w' ⟨rfl, rfl⟩
          go_wp2_with fail
          go_meet
          exact ⟨congrArg Value.bool HC.out.symm, rfl⟩
        · have hm : letAt s.data.toList k = false := by
            cases hm : letAt s.data.toList k
            · rfl
            · have := letAt_lt hm; have := HLEN.out; omega
          go_wp2_with fail
          go_meet
          exact ⟨congrArg Value.bool hm.symm, rfl⟩
      case rest =>
        obtain ⟨rfl, rfl⟩ := hcut
        have hwl : (wordsTo s.data.toList k).length ≤ k := by unfold wordsTo; rw [List.length_map]; exact scan_length _ k
        have HSC : Hid (scan s.data.toList (k + 1) = scanStep (letAt s.data.toList k) k (scan s.data.toList k)) := rfl
        have HSF := Lib.hid (fun f h => scan_from s.data.toList k f h)
        have HW0 : Hid (wordsTo s.data.toList k = (scan s.data.toList k).2.map fun x => lowL (cutL s.data.toList x.1 x.2)) := rfl
        have HW1 : Hid (wordsTo s.data.toList (k + 1) = (scan s.data.toList (k + 1)).2.map fun x => lowL (cutL s.data.toList x.1 x.2)) := rfl
        generalize wordsTo s.data.toList k = W0 at *
        generalize hsc : scan s.data.toList k = sc at *
        have HSCK := Lib.hid hsc; clear hsc
        obtain ⟨o, out⟩ := sc
        generalize hin : letAt s.data.toList k = b at *
        have HIN := Lib.hid hin; clear hin
        cases b
        · cases o with
          | none =>
            have hf0 : fromI (none, out).1 = -1 := rfl
            have hnx : wordsTo s.data.toList (k + 1) = W0 := by rw [HW1.out, HSC.out, HW0.out]; rfl
            have hny : fromI (scan s.data.toList (k + 1)).1 = -1 := by rw [HSC.out]; rfl
            have HNX := Lib.hid hnx; clear hnx
            have HNY := Lib.hid hny; clear hny
            rw [hf0]
            go_wp2_with fail
            go_roundg (gk - 1)
            case measure => have := HK.out; omega
            case rel => exact ⟨k + 1, by have := HK.out; omega, by go_num, by rw [HNY.out], by rw [HNX.out]; exact HO.out, hb⟩
          | some f =>
            have hf0 : fromI (some f, out).1 = (f : Int) := rfl
            obtain ⟨hfk, _⟩ := HSF.out f rfl
            have hnx : wordsTo s.data.toList (k + 1) = W0 ++ [lowL (cutL s.data.toList f k)] := by rw [HW1.out, HSC.out, HW0.out]; simp [scanStep]
            have hny : fromI (scan s.data.toList (k + 1)).1 = -1 := by rw [HSC.out]; rfl
            have HNX := Lib.hid hnx; clear hnx
            have HNY := Lib.hid hny; clear hny
            rw [hf0]
            go_wp2_with fail
            refine (lower_any (s.extract f k) wc (by rw [ByteArray.size_extract]; omega)).mono ?_
            rintro e w2 ⟨rfl, hb2⟩
            rw [extract_list]
            have HWD : Hid ((cutL s.data.toList f k).map lowB = lowL (cutL s.data.toList f k)) := rfl
            rw [HWD.out]
            have hown2 : OwnStrs w2 w.heap.size u3 W0 := HO.out.kept (row := none) ⟨hb2.os, hb2.tape, hb2.output, hb2.size, fun i hi _ => hb2.block i hi⟩ (by
              cases hv : u3.ownBlock with
              | none => exact .inl rfl
              | some k => exact .inr (fun he => by cases he))
            have hb2 : Below w.heap.size w w2 := hb.trans (hb2.mono hb.size)
            have HO2 := Lib.hid hown2; clear hown2
            generalize hx : lowL (cutL s.data.toList f k) = x at *
            clear hx HWD
            have hsz2 := hb2.size
            go_wp2_with (at_builtin; refine wpList_append_own _ rfl _ _ 62 rfl w.heap.size 9 i0 _ 1 16 Tryd.underlying62 hi hz0 hz1 hz2 rfl (by decide) _ _ _ rfl (HO2.out.alloc _) ⟨w2.heap.size, 0, none⟩ 1 1 (strCells [x]) rfl rfl ?c1 ?c2 ?c3 ?c4 ?c5 ?_)
            case c1 => exact cells_str w2 x _
            case c2 => exact strCells_one _
            case c3 => simp only [maxLen]; omega
            case c4 => omega
            case c5 => simp; omega
            intro v' w4 hown4 hgrow4 _
            have hbA : Below w.heap.size w (w2.alloc (.cells #[.string ⟨x.toArray⟩] 9)) := hb2.alloc hb2.size _
            have hb4 : Below w.heap.size w w4 := hbA.grown hgrow4 hbA.size (fun i hi => (HO2.out.lt i hi).1)
            rw [← strCells_append] at hown4
            go_wp2_with fail
            go_roundg (gk - 1)
            case measure => have := HK.out; omega
            case rel => exact ⟨k + 1, by have := HK.out; omega, by go_num, by rw [HNY.out], by unfold OwnStrs; rw [HNX.out, List.length_append]; exact hown4, hb4⟩
        · cases o with
          | none =>
            have hf0 : fromI (none, out).1 = -1 := rfl
            have hnx : wordsTo s.data.toList (k + 1) = W0 := by rw [HW1.out, HSC.out, HW0.out]; rfl
            have hny : fromI (scan s.data.toList (k + 1)).1 = (k : Int) := by rw [HSC.out]; rfl
            have HNX := Lib.hid hnx; clear hnx
            have HNY := Lib.hid hny; clear hny
            rw [hf0]
            go_wp2_with fail
            go_roundg (gk - 1)
            case measure => have := HK.out; omega
            case rel => exact ⟨k + 1, by have := HK.out; omega, by go_num, by rw [HNY.out], by rw [HNX.out]; exact HO.out, hb⟩
          | some f =>
            have hf0 : fromI (some f, out).1 = (f : Int) := rfl
            have hnx : wordsTo s.data.toList (k + 1) = W0 := by rw [HW1.out, HSC.out, HW0.out]; rfl
            have hny : fromI (scan s.data.toList (k + 1)).1 = (f : Int) := by rw [HSC.out]; rfl
            have HNX := Lib.hid hnx; clear hnx
            have HNY := Lib.hid hny; clear hny
            rw [hf0]
            go_wp2_with fail
            go_roundg (gk - 1)
            case measure => have := HK.out; omega
            case rel => exact ⟨k + 1, by have := HK.out; omega, by go_num, by rw [HNY.out], by rw [HNX.out]; exact HO.out, hb⟩
    · obtain rfl : k = s.size + 1 := by omega
      have hw := HO.out
      have hwe : wordsTo s.data.toList (s.size + 1) = wordsL s.data.toList := by rw [wordsL, HLEN.out]
      rw [hwe] at hw
      go_wp2_with fail
      go_ret
      exact ⟨_, rfl, hw, hb⟩

end Go.Proofs.YtldngebikgendaaDoor
