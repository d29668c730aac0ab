
/-
  PrintLoad writes the text of rows, or their error.
-/
import Derived.Test.YtbipkkebkddegaaGreatDoorSign
import Derived.Test.YtbipkkebkddegaaGreatDoorLoadPlain
import Derived.Test.YtbipkkebkddegaaGreatDoorTabSet
import Derived.Test.YtbipkkebkddegaaGreatDoorTabErr
namespace Go.Proofs.YtbipkkebkddegaaGreatDoor
open Go.RowKit

def signP : List (UInt8 × List UInt8) := [(94, [94, 94]), (126, [126, 126]), (10, [126, 110])]
theorem signP_ok : PairsOk signP := ⟨.inr rfl, by decide, by decide, by decide⟩
theorem repl_sign (s : List UInt8) : replL (tabOf signP) s = signL s := by
  unfold replL signL
  congr 1
  funext b
  unfold replB sgn
  simp only [signP, tabOf]
  by_cases h1 : b = 94
  · subst h1; rfl
  · by_cases h2 : b = 126
    · subst h2; rfl
    · by_cases h3 : b = 10
      · subst h3; rfl
      · simp [h1, h2, h3]
theorem six_strs (w : World) : StrsAt (w.alloc (.cells #[.string ⟨#[94]⟩, .string ⟨#[94, 94]⟩, .string ⟨#[126]⟩, .string ⟨#[126, 126]⟩, .string ⟨#[10]⟩, .string ⟨#[126, 110]⟩] 9)) (some ⟨w.heap.size, 0, none⟩) 6 6 (flatP signP) := by
  refine ⟨rfl, Nat.le_refl _, (fun e => by cases e), fun _ => ⟨w.heap.size, 0, rfl, by simp, fun k x i v hk hv => ?_⟩⟩
  have hi : i = 0 := by have := (List.getElem?_eq_some_iff.1 hv).1; simp [StrE] at this; exact this
  subst hi
  have hk4 : k < 6 := (List.getElem?_eq_some_iff.1 hk).1
  rw [World.cell?_alloc_at _ _ _ _ rfl]
  simp only [StrE, List.getElem?_cons_zero, Option.some.injEq] at hv
  subst hv
  match k, hk4 with
  | 0, _ => cases hk; rfl
  | 1, _ => cases hk; rfl
  | 2, _ => cases hk; rfl
  | 3, _ => cases hk; rfl
  | 4, _ => cases hk; rfl
  | 5, _ => cases hk; rfl
theorem rowT_snoc : ∀ (l : List (List UInt8)) (s : List UInt8), rowT (l ++ [s]) = rowT l ++ ((if l = [] then [] else [124]) ++ cellT s)
  | [], s => by simp [rowT]
  | [t], s => by simp [rowT]
  | t :: u :: l, s => by
    have ih := rowT_snoc (u :: l) s
    rw [List.cons_append, List.cons_append] at *
    simp only [rowT, reduceCtorEq, if_false] at *
    rw [ih]; simp
theorem signL_len (s : List UInt8) : (signL s).length ≤ 2 * s.length := by
  induction s with
  | nil => simp [signL]
  | cons b s ih =>
    rw [signL_cons, List.length_append, List.length_cons]
    have : (sgn b).length ≤ 2 := by unfold sgn; split; simp; split; simp; split <;> simp
    omega
theorem cellT_len {s : List UInt8} (h : s.length ≤ 20) : (cellT s).length ≤ 42 := by
  have := signL_len s
  simp [cellT]; omega
theorem rowT_len : ∀ r : List (List UInt8), (∀ s ∈ r, s.length ≤ 20) → (rowT r).length ≤ 43 * r.length
  | [], _ => by simp [rowT]
  | [s], h => by have := cellT_len (h s (by simp)); simp [rowT]; omega
  | s :: t :: r, h => by
    have h1 := cellT_len (h s (by simp))
    have h2 := rowT_len (t :: r) (fun x hx => h x (List.mem_cons_of_mem _ hx))
    simp only [rowT, List.length_append, List.length_cons] at h2 ⊢
    omega
theorem loadT_len : ∀ T : List (List (List UInt8)), (∀ r ∈ T, r.length ≤ 40 ∧ ∀ s ∈ r, s.length ≤ 20) → (loadT T).length ≤ 1721 * T.length
  | [], _ => by simp [loadT]
  | r :: T, h => by
    have h1 := h r (by simp)
    have h2 := rowT_len r h1.2
    have h3 := loadT_len T (fun x hx => h x (List.mem_cons_of_mem _ hx))
    rw [loadT_cons, List.length_append, List.length_append, List.length_cons (a := r)]
    have e1 : ([10] : List UInt8).length = 1 := rfl
    have : r.length ≤ 40 := h1.1
    rw [e1]
    omega
theorem loadT_take (T : List (List (List UInt8))) (k : Nat) (h : k < T.length) : loadT (T.take (k + 1)) = loadT (T.take k) ++ rowT (T.getD k []) ++ [10] := by
  rw [List.take_succ_eq_append_getElem h, List.getD_eq_getElem?_getD, List.getElem?_eq_getElem h]
  show List.flatMap _ _ = _
  rw [List.flatMap_append]
  simp [loadT]
theorem rowT_take (r : List (List UInt8)) (k : Nat) (h : k < r.length) : rowT (r.take (k + 1)) = rowT (r.take k) ++ ((if k = 0 then [] else [124]) ++ cellT (r.getD k [])) := by
  rw [List.take_succ_eq_append_getElem h, List.getD_eq_getElem?_getD, List.getElem?_eq_getElem h, rowT_snoc]
  congr 2
  have : (r.take k = []) ↔ k = 0 := by
    constructor
    · intro e
      have := congrArg List.length e
      simp at this
      rcases this with h1 | h1
      · exact h1
      · subst h1; simp at h
    · rintro rfl; rfl
  simp only [this]
/-- A builder is kept where another kind of block is turned. -/
theorem BuildAt.other {w w' : World} {B b gs : Nat} {l : List UInt8} (h : BuildAt B b l w) (hg : w.grownBy w' (some gs)) {cs : Array Value} (hr : w.heap[gs]? = some (.cells cs 138 (0, 0))) : BuildAt B b l w' := by
  have key : ∀ p, Lib.BuilderAt 73 5 B b p (Lib.byteCells l) w → Lib.BuilderAt 73 5 B b p (Lib.byteCells l) w' := by
    rintro p ⟨hB, v, hb, hown, hne⟩
    have hbg : gs ≠ b := fun e => by subst e; rw [hb] at hr; cases hr
    have hv : v.ownBlock ≠ some gs := by
      have ho : Owns ByteE w B v l := by
        unfold Owns
        rw [byteE_cells]
        rw [show (Lib.byteCells l).length = l.length by simp [Lib.byteCells]] at hown
        exact hown
      exact ho.ne_block hr (by decide)
    exact ⟨hB, v, (hg.block b (Array.getElem?_eq_some_iff.1 hb).1 (fun e => hbg (Option.some.inj e.symm))).trans hb, World.ownsRow.kept hown hg (.inr hv), hne⟩
  rcases h with h | h
  · exact .inl (key _ h)
  · exact .inr (key _ h)
theorem SignAt.kind {w : World} {base b : Nat} {ps : List (UInt8 × List UInt8)} (h : SignAt w base b ps) : ∃ cs, w.heap[b]? = some (.cells cs 138 (0, 0)) := by
  rcases h.2 with ⟨ov, h1, _⟩ | ⟨R, A, V, h1, _⟩
  · exact ⟨_, h1⟩
  · exact ⟨_, h1⟩
theorem BuildAt.new (w : World) : BuildAt w.heap.size w.heap.size [] (w.alloc (.cells #[.pointer none, .slice none 0 0] 73)) :=
  .inl ⟨Nat.le_refl _, .slice none 0 0, heap_alloc_new _ _, ⟨rfl, .inl ⟨rfl, rfl⟩⟩, by simp [Value.ownBlock]⟩
theorem wrap_size (l : List UInt8) : ((⟨#[94]⟩ : ByteArray) ++ bag l ++ ⟨#[94]⟩).size = l.length + 2 := by
  rw [ByteArray.size_append, ByteArray.size_append, bag_size]
  show 1 + l.length + 1 = _
  omega
theorem cell_below {w w' : World} (h : Below w.heap.size w w') {g : Nat} (hg : g < w.heap.size) (k : Nat) : w'.cell? ⟨g, k, none⟩ = w.cell? ⟨g, k, none⟩ := by
  unfold World.cell?
  rw [h.block g hg]
def PrintPost (w : World) (T : List (List (List UInt8))) (e : Ending) (w' : World) : Prop := e = .returned (.tuple #[.string (bag (if rowsE T = 0 then loadT T else [])), .int .i64 (rowsE T)]) ∧ Below w.heap.size w w'
set_option maxHeartbeats 3200000 in
set_option maxRecDepth 100000 in
theorem printLoad_any (A : Option Addr) (n c : Nat) (T : List (List (List UInt8))) (w : World) (h : TabAt w A n c T) (hs : TinyT T) (hT : Tabs w) :
    Calls Tryz.prog 7 #[.slice A n c] w (PrintPost w T) := by
  have hsm : SmallT T := ⟨by have := hs.1; omega, fun r hr => ⟨by have := (hs.2 r hr).1; omega, fun s hx => by have := (hs.2 r hr).2 s hx; omega⟩⟩
  have HRE := Lib.hid (rowsError_any A n c T w h hsm hT)
  have HH := Lib.hid h
  have HN := Lib.hid h.len
  have hn : n ≤ 10 := by have := HN.out; have := hs.1; omega
  have HS := Lib.hid hs
  clear h hs hT hsm
  go_enter Tryz.func7, Tryz.ntmps7
  go_wp2_with fail
  refine HRE.out.mono ?_
  rintro e w1 ⟨rfl, hb1⟩
  by_cases hz : rowsE T = 0
  · have HZ := Lib.hid hz
    have HP : Hid (∀ w', Below w.heap.size w w' → PrintPost w T (.returned (.tuple #[.string (bag (loadT T)), .int .i64 0])) w') := fun w' hb => ⟨by rw [if_pos hz, hz], hb⟩
    rw [hz]
    clear hz HRE
    have HNW := Lib.hid (newReplacer_any w1.heap.size 0 6 6 signP (w1.alloc (.cells #[.string ⟨#[94]⟩, .string ⟨#[94, 94]⟩, .string ⟨#[126]⟩, .string ⟨#[126, 126]⟩, .string ⟨#[10]⟩, .string ⟨#[126, 110]⟩] 9)) (.inr rfl) (six_strs w1))
    have HBA : Hid (Below w.heap.size w (w1.alloc (.cells #[.string ⟨#[94]⟩, .string ⟨#[94, 94]⟩, .string ⟨#[126]⟩, .string ⟨#[126, 126]⟩, .string ⟨#[10]⟩, .string ⟨#[126, 110]⟩] 9))) := hb1.alloc hb1.size _
    go_wp2_with fail
    refine HNW.out.mono ?_
    generalize w1.alloc (.cells #[.string ⟨#[94]⟩, .string ⟨#[94, 94]⟩, .string ⟨#[126]⟩, .string ⟨#[126, 126]⟩, .string ⟨#[10]⟩, .string ⟨#[126, 110]⟩] 9) = w2 at *
    rintro e w3 ⟨gs, rfl, hsg, hb3⟩
    have HB3 := Lib.hid (HBA.out.trans (hb3.mono HBA.out.size))
    have hsz2 := HBA.out.size
    have hgs := hsg.1
    have HSG := Lib.hid hsg
    have hB3 := HB3.out.size
    clear HNW hb3 hsg hb1
    go_upto_region 6 with (fail)
    have HBU := Lib.hid (BuildAt.new w3)
    have HSG0 : Hid (SignAt (w3.alloc (.cells #[.pointer none, .slice none 0 0] 73)) w2.heap.size gs signP) := HSG.out.below ((Below.refl _ _).alloc (Nat.le_refl _) _)
    have HB0 : Hid (Below w.heap.size w (w3.alloc (.cells #[.pointer none, .slice none 0 0] 73))) := HB3.out.alloc HB3.out.size _
    have hz0 : w3.heap.size < (w3.alloc (.cells #[.pointer none, .slice none 0 0] 73)).heap.size := by simp
    generalize w3.alloc (.cells #[.pointer none, .slice none 0 0] 73) = w4 at *
    obtain ⟨b, hb⟩ : ∃ b, b = w3.heap.size := ⟨_, rfl⟩
    rw [← hb] at hz0 HBU hB3
    obtain ⟨bg, hbg⟩ : ∃ bg, bg = w2.heap.size := ⟨_, rfl⟩
    rw [← hbg] at HSG0 hgs hsz2
    rw [← hb]
    clear HSG HB3 HBA hb hbg
    go_wp2_with fail
    go_loopg [20] n (fun gk v wr => ∃ k : Nat, Hid (k + gk = n) ∧ v = .int .i64 (k : Int) ∧ Hid (BuildAt b b (loadT (T.take k)) wr) ∧ Hid (SignAt wr bg gs signP) ∧ Hid (Below w.heap.size w wr) ∧ Hid (b < wr.heap.size))
    case atStart => exact ⟨0, show 0 + n = n by omega, rfl, (show BuildAt _ _ _ _ from HBU.out), HSG0.out, HB0.out, hz0⟩
    case round =>
      obtain ⟨k, HK, rfl, HBL, HSI, HW, HBZ⟩ := hrel
      clear HBU HSG0 HB0 hz0
      have hkn : k ≤ n := by have := HK.out; omega
      have hbz := HBZ.out
      have HTL : Hid ((loadT (T.take k)).length ≤ 1721 * k) := by
        have := loadT_len (T.take k) (fun r hr => HS.out.2 r (List.mem_of_mem_take hr))
        rw [List.length_take] at this
        show _ ≤ _
        have h2 : min k T.length ≤ k := Nat.min_le_left _ _
        omega
      obtain ⟨gko, rfl⟩ : ∃ gko : Nat, gko = gk := ⟨_, rfl⟩
      obtain ⟨wo, rfl⟩ : ∃ wo : World, wo = wr := ⟨_, rfl⟩
      by_cases hlt : k < n
      · obtain ⟨g, off, rfl, hg0, hc⟩ := HH.out.row (by omega)
        obtain ⟨R, rn, rc, hck0, hRow⟩ := hc k hlt
        have hg : g < wo.heap.size := Nat.lt_of_lt_of_le hg0 HW.out.size
        have hck := (cell_below HW.out hg0 (off + k)).trans hck0
        have hkl : k < T.length := by have := HN.out; omega
        have HLT := Lib.hid (loadT_take T k hkl)
        have hrl := HS.out.2 (T.getD k []) (by rw [List.getD_eq_getElem?_getD, List.getElem?_eq_getElem hkl]; exact List.getElem_mem hkl)
        generalize T.getD k [] = row at *
        have HRW := Lib.hid hRow
        have HRN := Lib.hid hRow.1
        have HRS := Lib.hid hrl.2
        have hrn : rn ≤ 40 := by have := HRN.out; have := hrl.1; omega
        clear hc hRow hrl hck0 hg0
        go_wp2_with fail
        go_loopg [26] rn (fun gk v wr => ∃ j : Nat, Hid (j + gk = rn) ∧ v = .int .i64 (j : Int) ∧ Hid (BuildAt b b (loadT (T.take k) ++ rowT (row.take j)) wr) ∧ Hid (SignAt wr bg gs signP) ∧ Hid (Below w.heap.size w wr) ∧ Hid (b < wr.heap.size))
        case atStart => exact ⟨0, show 0 + rn = rn by omega, rfl, (show BuildAt _ _ _ _ by rw [show row.take 0 = [] from rfl, show rowT [] = [] from rfl, List.append_nil]; exact HBL.out), HSI.out, HW.out, hbz⟩
        case round =>
          obtain ⟨j, HJ, rfl, HBJ, HSJ, HWJ, HBZJ⟩ := hrel
          have hjn : j ≤ rn := by have := HJ.out; omega
          have HRL : Hid ((rowT (row.take j)).length ≤ 43 * j) := by
            have := rowT_len (row.take j) (fun x hx => HRS.out x (List.mem_of_mem_take hx))
            rw [List.length_take] at this
            show _ ≤ _
            have h2 : min j row.length ≤ j := Nat.min_le_left _ _
            omega
          by_cases hlt2 : j < rn
          · obtain ⟨g2, off2, rfl, hg2, hc2⟩ := (ElemsAt.keep HRW.out HWJ.out).str (by omega)
            have hcj := hc2 j hlt2
            have hjl : j < row.length := by have := HRN.out; omega
            have HRT := Lib.hid (rowT_take row j hjl)
            have hsl : (row.getD j []).length ≤ 20 := HRS.out _ (by rw [List.getD_eq_getElem?_getD, List.getElem?_eq_getElem hjl]; exact List.getElem_mem hjl)
            generalize row.getD j [] = s at *
            have HSL := Lib.hid hsl
            clear hc2 hsl
            have hbj := HBZJ.out
            by_cases hj0 : j = 0
            · subst hj0
              rw [Nat.add_zero] at hcj
              have HBX : Hid (BuildAt b b (loadT (T.take k) ++ rowT (row.take 0) ++ []) wr) := by show BuildAt _ _ _ _; rw [List.append_nil]; exact HBJ.out
              have HSX := HSJ
              have HWX := HWJ
              clear HBJ HSJ HWJ
              go_wp2_with fail
              refine (sign_any signP_ok bg gs ⟨s.toArray⟩ _ HSX.out (by have := HSL.out; simp [ByteArray.size]; omega)).mono ?_
              rintro e w6 ⟨rfl, hsg6, hg6⟩
              obtain ⟨cs, hcs⟩ := HSX.out.kind
              have HB6 := Lib.hid (HBX.out.other hg6 hcs)
              have HS6 := Lib.hid hsg6
              have HW6 : Hid (Below w.heap.size w w6) := HWX.out.grown hg6 HWX.out.size (fun i e => by cases e; omega)
              have hz6 := hg6.size
              rw [show (⟨s.toArray⟩ : ByteArray).data.toList = s by simp, repl_sign]
              have hbs : (bag (signL s)).size ≤ 100 := by rw [bag_size]; have := signL_len s; have := HSL.out; omega
              have HWS := Lib.hid (writeString_buf b b _ ((⟨#[94]⟩ : ByteArray) ++ bag (signL s) ++ ⟨#[94]⟩) w6 HB6.out (by have h1 := HTL.out; have h2 := HRL.out; have h3 := HSL.out; have h4 := signL_len s; rw [wrap_size]; simp only [List.length_append, List.length_nil]; omega) (by omega))
              clear hsg6 hg6 hcs hcj HB6
              go_wp2_with fail
              refine HWS.out.mono ?_
              rintro e w7 ⟨rfl, hb7, hbe7, hon7⟩
              have HS7 := Lib.hid (HS6.out.onlyBuf hon7)
              have HB7 : Hid (BuildAt b b (loadT (T.take k) ++ rowT (row.take (0 + 1))) w7) := by
                show BuildAt _ _ _ _
                rw [HRT.out]
                refine cast ?_ hb7
                congr 1
                simp [cellT, bag]
              have HW7 : Hid (Below w.heap.size w w7) := HW6.out.trans (hbe7.mono hB3)
              have hz7 := hbe7.size
              clear hb7 hbe7 hon7 HWS hbs
              go_wp2_with fail
              go_roundg (gk - 1)
              case measure => have := HJ.out; omega
              case rel => exact ⟨(0 + 1), show (0 + 1) + (gk - 1) = rn by have := HJ.out; omega, by go_num, HB7.out, HS7.out, HW7.out, (show b < _ by omega)⟩
            · have hj1 : (0 : Int) < (j : Int) := by omega
              have HWB := Lib.hid (writeByte_buf b b _ 124 wr HBJ.out (by have h1 := HTL.out; have h2 := HRL.out; rw [List.length_append]; omega) (by omega))
              have HIF : Hid ((if j = 0 then ([] : List UInt8) else [124]) = [124]) := if_neg hj0
              go_wp2_with fail
              refine HWB.out.mono ?_
              rintro e w5 ⟨rfl, hb5, hbe5, hon5⟩
              have HBX := Lib.hid hb5
              have HSX := Lib.hid (HSJ.out.onlyBuf hon5)
              have HWX : Hid (Below w.heap.size w w5) := HWJ.out.trans (hbe5.mono hB3)
              have hz5 := hbe5.size
              clear HBJ HSJ HWJ hb5 hbe5 hon5 HWB
              go_wp2_with fail
              refine (sign_any signP_ok bg gs ⟨s.toArray⟩ _ HSX.out (by have := HSL.out; simp [ByteArray.size]; omega)).mono ?_
              rintro e w6 ⟨rfl, hsg6, hg6⟩
              obtain ⟨cs, hcs⟩ := HSX.out.kind
              have HB6 := Lib.hid (HBX.out.other hg6 hcs)
              have HS6 := Lib.hid hsg6
              have HW6 : Hid (Below w.heap.size w w6) := HWX.out.grown hg6 HWX.out.size (fun i e => by cases e; omega)
              have hz6 := hg6.size
              rw [show (⟨s.toArray⟩ : ByteArray).data.toList = s by simp, repl_sign]
              have hbs : (bag (signL s)).size ≤ 100 := by rw [bag_size]; have := signL_len s; have := HSL.out; omega
              have HWS := Lib.hid (writeString_buf b b _ ((⟨#[94]⟩ : ByteArray) ++ bag (signL s) ++ ⟨#[94]⟩) w6 HB6.out (by have h1 := HTL.out; have h2 := HRL.out; have h3 := HSL.out; have h4 := signL_len s; rw [wrap_size]; simp only [List.length_append, List.length_singleton]; omega) (by omega))
              clear hsg6 hg6 hcs hcj HB6
              go_wp2_with fail
              refine HWS.out.mono ?_
              rintro e w7 ⟨rfl, hb7, hbe7, hon7⟩
              have HS7 := Lib.hid (HS6.out.onlyBuf hon7)
              have HB7 : Hid (BuildAt b b (loadT (T.take k) ++ rowT (row.take (j + 1))) w7) := by
                show BuildAt _ _ _ _
                rw [HRT.out]
                refine cast ?_ hb7
                congr 1
                rw [HIF.out]; simp [cellT, bag]
              have HW7 : Hid (Below w.heap.size w w7) := HW6.out.trans (hbe7.mono hB3)
              have hz7 := hbe7.size
              clear hb7 hbe7 hon7 HWS hbs
              go_wp2_with fail
              go_roundg (gk - 1)
              case measure => have := HJ.out; omega
              case rel => exact ⟨(j + 1), show (j + 1) + (gk - 1) = rn by have := HJ.out; omega, by go_num, HB7.out, HS7.out, HW7.out, (show b < _ by omega)⟩
          · have hj2 : j = rn := by omega
            have HBR : Hid (BuildAt b b (loadT (T.take k) ++ rowT row) wr) := by
              have := HBJ.out
              rw [List.take_of_length_le (l := row) (by have := HRN.out; omega)] at this
              exact this
            have HRLL : Hid ((rowT row).length ≤ 43 * j) := by
              have := HRL.out
              rw [List.take_of_length_le (l := row) (by have := HRN.out; omega)] at this
              exact this
            have hbj := HBZJ.out
            have HWB := Lib.hid (writeByte_buf b b _ 10 wr HBR.out (by have h1 := HTL.out; have h2 := HRLL.out; rw [List.length_append]; omega) (by omega))
            clear HBJ HBR HRL
            go_wp2_with fail
            refine HWB.out.mono ?_
            rintro e w5 ⟨rfl, hb5, hbe5, hon5⟩
            have HB5 : Hid (BuildAt b b (loadT (T.take (k + 1))) w5) := by show BuildAt _ _ _ _; rw [HLT.out]; exact hb5
            have HS5 := Lib.hid (HSJ.out.onlyBuf hon5)
            have HW5 : Hid (Below w.heap.size w w5) := HWJ.out.trans (hbe5.mono hB3)
            have hz5 := hbe5.size
            have HLEN := Lib.hid (Tryz.Builder_Len b b _ w5 HB5.out)
            have hbl : ¬ (200000 : Int) < ((Lib.byteCells (loadT (T.take (k + 1)))).length : Int) := by
              have h1 := loadT_len (T.take (k + 1)) (fun r hr => HS.out.2 r (List.mem_of_mem_take hr))
              rw [List.length_take] at h1
              have h2 : min (k + 1) T.length ≤ k + 1 := Nat.min_le_left _ _
              simp only [Lib.byteCells, List.length_map]
              omega
            clear hb5 hbe5 hon5 HWB HSJ HWJ
            go_wp2_with fail
            refine HLEN.out.mono ?_
            rintro e w6 ⟨rfl, hw6⟩
            obtain rfl := hw6.symm
            clear HLEN
            go_wp2_with fail
            go_roundg (gko - 1)
            case measure => have := HK.out; omega
            case rel => exact ⟨k + 1, show k + 1 + (gko - 1) = n by have := HK.out; omega, by go_num, HB5.out, HS5.out, HW5.out, (show b < _ by omega)⟩
      · have hk2 : k = n := by omega
        have HBE : Hid (BuildAt b b (loadT T) wo) := by
          have := HBL.out
          rw [List.take_of_length_le (by have := HN.out; omega)] at this
          exact this
        have HSTR := Lib.hid (string_any b b _ wo HBE.out (by omega))
        clear HBL HBE HTL
        go_wp2_with fail
        refine HSTR.out.mono ?_
        rintro e w6 ⟨rfl, hb6⟩
        have HF := Lib.hid (HP.out w6 (HW.out.trans (hb6.mono hB3)))
        clear hb6 HSTR
        go_wp2_with fail
        go_ret2
        exact HF.out
  · have HF : Hid (PrintPost w T (.returned (.tuple #[.string ⟨#[]⟩, .int .i64 (rowsE T)])) w1) := ⟨by rw [if_neg hz]; rfl, hb1⟩
    clear HRE hb1
    go_wp2_with fail
    go_ret2
    exact HF.out
end Go.Proofs.YtbipkkebkddegaaGreatDoor
