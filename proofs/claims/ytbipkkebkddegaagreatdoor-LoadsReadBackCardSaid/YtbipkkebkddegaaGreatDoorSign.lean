
/-
  strings.NewReplacer and (*strings.Replacer).Replace, at pairs of single bytes: built once, at the first call.
-/
import Derived.Test.YtbipkkebkddegaaGreatDoorReplR
import Derived.Test.YtbipkkebkddegaaGreatDoorReplW
import Derived.Test.YtbipkkebkddegaaGreatDoorReplW2
namespace Go.Proofs.YtbipkkebkddegaaGreatDoor
open Go.RowKit

theorem SlotAt.base_ {w : World} {base base' R : Nat} {u : Option Value} {t : Option (List UInt8)} (h : SlotAt w base R u t) (hb : base' ≤ base) : SlotAt w base' R u t := by
  cases t with
  | none => exact h
  | some l => obtain ⟨g, N, h1, h2, h3⟩ := h; exact ⟨g, N, h1, by omega, h3⟩
theorem ReplAt.base_ {w : World} {base base' R : Nat} {tab : RTab} {tl : List UInt8} {A : Array Value} {V : Value} (h : ReplAt w base R tab tl A V) (hb : base' ≤ base) : ReplAt w base' R tab tl A V :=
  ⟨h.1, h.2.1, h.2.2.1, h.2.2.2.1.base_ hb, by have := h.2.2.2.2.1; omega, fun b => (h.2.2.2.2.2 b).base_ hb⟩
theorem OwnStrs.onlyBuf {w w' : World} {B : Nat} {v : Value} {l : List (List UInt8)} (h : OwnStrs w B v l) (hf : OnlyBuf w w') : OwnStrs w' B v l := by
  refine ⟨h.1, ?_⟩
  rcases h.2 with hn | ⟨g, cap, cur, e, hb, hh, h1⟩
  · exact .inl hn
  · exact .inr ⟨g, cap, cur, e, hb, hf g _ hh (fun c hc => by cases hc) (fun c hc => by cases hc), h1⟩
theorem ReplAt.onlyBuf {w w' : World} {base R : Nat} {tab : RTab} {tl : List UInt8} {A : Array Value} {V : Value} (h : ReplAt w base R tab tl A V) (hf : OnlyBuf w w') : ReplAt w' base R tab tl A V :=
  ⟨hf R _ h.1 (fun c hc => by cases hc) (fun c hc => by cases hc), h.2.1, h.2.2.1, OwnStrs.onlyBuf h.2.2.2.1 hf, h.2.2.2.2.1, fun b => (h.2.2.2.2.2 b).keep fun g _ _ _ hC => by
    obtain ⟨C, N, hC⟩ := hC
    rw [hC]
    exact hf g _ hC (fun c hc => by cases hc) (fun c hc => by simp at hc)⟩
/-- A Replacer of these pairs, built or not. -/
def SignAt (w : World) (base b : Nat) (ps : List (UInt8 × List UInt8)) : Prop := base ≤ b ∧
  ((∃ ov, RepAt w b 0 0 .nilIface ov ∧ OwnStrs w base ov (flatP ps)) ∨ ∃ R A V, RepAt w b 1 0 (.iface 215 (.pointer (some ⟨R, 0, none⟩))) (.slice none 0 0) ∧ ReplAt w (b + 1) R (tabOf ps) (ps.reverse.map (·.1)) A V)
theorem SignAt.onlyBuf {w w' : World} {base b : Nat} {ps : List (UInt8 × List UInt8)} (h : SignAt w base b ps) (hf : OnlyBuf w w') : SignAt w' base b ps := by
  refine ⟨h.1, ?_⟩
  rcases h.2 with ⟨ov, h1, h2⟩ | ⟨R, A, V, h1, h2⟩
  · exact .inl ⟨ov, hf b _ h1 (fun c hc => by cases hc) (fun c hc => by cases hc), OwnStrs.onlyBuf h2 hf⟩
  · exact .inr ⟨R, A, V, hf b _ h1 (fun c hc => by cases hc) (fun c hc => by cases hc), h2.onlyBuf hf⟩
theorem SignAt.below {w w' : World} {base b : Nat} {ps : List (UInt8 × List UInt8)} (h : SignAt w base b ps) (hb : Below w.heap.size w w') : SignAt w' base b ps := h.onlyBuf (OnlyBuf.belows hb)
theorem SignAt.lt {w : World} {base b : Nat} {ps : List (UInt8 × List UInt8)} (h : SignAt w base b ps) : b < w.heap.size := by
  rcases h.2 with ⟨ov, h1, _⟩ | ⟨R, A, V, h1, _⟩
  · exact h1.lt
  · exact h1.lt
/-- Pairs that build walks. -/
structure PairsOk (ps : List (UInt8 × List UInt8)) : Prop where
  many : ps.length = 2 ∨ ps.length = 3
  news : ∀ p ∈ ps, p.2.length ≠ 1
  short : ∀ p ∈ ps, p.2.length ≤ 1000
  apart : (ps.map (·.1)).Nodup
theorem PairsOk.dom {ps : List (UInt8 × List UInt8)} (_h : PairsOk ps) (b : UInt8) : tabOf ps b ≠ none ↔ b ∈ ps.reverse.map (·.1) := by
  rw [tabOf_iff, List.map_reverse, List.mem_reverse]
theorem tabOf_mem : ∀ (ps : List (UInt8 × List UInt8)) (b : UInt8) (l : List UInt8), tabOf ps b = some l → ∃ p ∈ ps, p.2 = l
  | [], b, l, h => by cases h
  | p :: ps, b, l, h => by
    simp only [tabOf] at h
    split at h
    · exact ⟨p, by simp, by simpa using h⟩
    · obtain ⟨q, hq, e⟩ := tabOf_mem ps b l h
      exact ⟨q, by simp [hq], e⟩
theorem build_any {ps : List (UInt8 × List UInt8)} (hp : PairsOk ps) (b c : Nat) (rv : Value) (O : Option Addr) (w : World) (h : RepAt w b 0 1 rv (.slice O (flatP ps).length c)) (hO : StrsAt w O (flatP ps).length c (flatP ps)) :
    Calls Tryz.prog 107 #[.pointer (some ⟨b, 0, none⟩)] w (BuiltPost w ps) := by
  rw [flatP_len] at h hO
  rcases hp.many with h2 | h3
  · rw [h2] at h hO
    exact build_two b c rv O ps w h h2 hO hp.news hp.apart
  · rw [h3] at h hO
    exact build_three b c rv O ps w h h3 hO hp.news hp.apart
def OnceQ (b : Nat) (ps : List (UInt8 × List UInt8)) (w w' : World) : Prop := (∃ R A V, RepAt w' b 0 1 (.iface 215 (.pointer (some ⟨R, 0, none⟩))) (.slice none 0 0) ∧ ReplAt w' (b + 1) R (tabOf ps) (ps.reverse.map (·.1)) A V) ∧ w.grownBy w' (some b)
set_option maxHeartbeats 1600000 in
set_option maxRecDepth 100000 in
theorem buildOnce_any {ps : List (UInt8 × List UInt8)} (hp : PairsOk ps) (b base : Nat) (ov : Value) (w : World) (h : RepAt w b 0 1 .nilIface ov) (hO : OwnStrs w base ov (flatP ps)) :
    Calls Tryz.prog 71 #[.pointer (some ⟨b, 0, none⟩)] w fun e w' => e = .returned (.tuple #[]) ∧ (∃ rv' ov', RepAt w' b 0 1 rv' ov') ∧ OnceQ b ps w w' := by
  obtain ⟨A, c, rfl, hc, hat, hA⟩ := hO.at_ strE_ok
  have HB := Lib.hid (build_any hp b c .nilIface A w h hat)
  have HR := Lib.hid h
  clear hat hA hc hO h
  go_enter Tryz.func71, Tryz.ntmps71
  go_wp2_with fail
  refine HB.out.mono ?_
  rintro e w1 ⟨R, A1, V, rfl, hrp, hb1⟩
  have hr1 : RepAt w1 b 0 1 .nilIface (.slice A (flatP ps).length c) := (hb1.block b HR.out.lt).trans HR.out
  have c3 := hr1.c.2.2.1
  have f3 := hr1.c.2.2.2.2 3
  have hlt := hr1.lt
  have hr2 := hr1.set3 (.iface 215 (.pointer (some ⟨R, 0, none⟩)))
  have c4 := hr2.c.2.2.2.1
  have f4 := hr2.c.2.2.2.2 4
  have hlt2 := hr2.lt
  have hr3 := hr2.set4 (.slice none 0 0)
  have hbl := HR.out.lt
  have hg : w.grownBy (((w1.setCell ⟨b, 3, none⟩ (.iface 215 (.pointer (some ⟨R, 0, none⟩)))).setCell ⟨b, 4, none⟩ (.slice none 0 0))) (some b) := grown_trans (below_grown hb1 _) (grown_trans (grown_setCell _ _ _ _) (grown_setCell _ _ _ _))
  have hrp2 := (hrp.row_ (grown_trans (grown_setCell w1 b 3 (.iface 215 (.pointer (some ⟨R, 0, none⟩)))) (grown_setCell _ b 4 (.slice none 0 0))) (by omega)).base_ (show b + 1 ≤ w.heap.size by omega)
  have HF : Hid ((∃ rv' ov', RepAt ((w1.setCell ⟨b, 3, none⟩ (.iface 215 (.pointer (some ⟨R, 0, none⟩)))).setCell ⟨b, 4, none⟩ (.slice none 0 0)) b 0 1 rv' ov') ∧ OnceQ b ps w ((w1.setCell ⟨b, 3, none⟩ (.iface 215 (.pointer (some ⟨R, 0, none⟩)))).setCell ⟨b, 4, none⟩ (.slice none 0 0))) := ⟨⟨_, _, hr3⟩, ⟨R, A1, V, hr3, hrp2⟩, hg⟩
  clear hr1 hr2 hr3 hg hrp hrp2 hb1 HB
  go_wp2_with fail
  go_end0
  exact ⟨rfl, HF.out⟩
theorem invoke_rep (x : Value) (s : ByteArray) (w : World) : (invoke (.fn (.method "Replace") #[]) #[.iface 215 x, .string s]).run Tryz.prog w = .ok (.enter 302 #[x, .string s]) w := by kernel_rfl
def SignPost (base b : Nat) (ps : List (UInt8 × List UInt8)) (L : List UInt8) (w : World) (e : Ending) (w' : World) : Prop := e = .returned (.string (bag (replL (tabOf ps) L))) ∧ SignAt w' base b ps ∧ w.grownBy w' (some b)
set_option maxHeartbeats 1600000 in
set_option maxRecDepth 100000 in
theorem sign_any {ps : List (UInt8 × List UInt8)} (hp : PairsOk ps) (base b : Nat) (s : ByteArray) (w : World) (h : SignAt w base b ps) (hs : s.size ≤ 100000) :
    Calls Tryz.prog 35 #[.pointer (some ⟨b, 0, none⟩), .string s] w (SignPost base b ps s.data.toList w) := by
  have hinv := invoke_rep
  have HREP := Lib.hid (fun (wx : World) (R : Nat) (A : Array Value) (V : Value) (h : ReplAt wx (b + 1) R (tabOf ps) (ps.reverse.map (·.1)) A V) => replace_any (b + 1) R (tabOf ps) (ps.reverse.map (·.1)) A V s wx h (fun x l hl => by obtain ⟨p, hp1, rfl⟩ := tabOf_mem ps x l hl; exact hp.short p hp1) (by rw [List.map_reverse]; exact (List.reverse_perm _).nodup_iff.2 hp.apart) hp.dom (by rcases hp.many with h | h <;> simp [h]) hs)
  have hbase := h.1
  rcases h.2 with ⟨ov, h1, h2⟩ | ⟨R, A, V, h1, h2⟩
  · have HDO := Lib.hid (do_once b .nilIface ov (OnceQ b ps (w.setCell ⟨b, 1, none⟩ (.int .i32 1))) w h1 (fun wx hr hw => by
      have hO : OwnStrs wx base ov (flatP ps) := by
        rw [hw]
        exact World.ownsRow.kept h2 (grown_setCell w b 1 _) (.inr (fun e => (h2.ne_block h1 (by decide)) (by first | exact e | exact e.symm)))
      have := buildOnce_any hp b base ov wx hr hO
      rw [← hw]
      exact this))
    clear h h1 h2
    go_enter Tryz.func35, Tryz.ntmps35
    go_wp2_with fail
    refine HDO.out.mono ?_
    rintro e w1 ⟨rfl, wq, ⟨⟨R, A, V, hr, hrp⟩, hg⟩, hw1⟩
    have hq0 : RepAt (wq.drew.setCell ⟨b, 0, none⟩ (.int .u32 1)) b 1 1 (.iface 215 (.pointer (some ⟨R, 0, none⟩))) (.slice none 0 0) := RepAt.set0 (w := wq.drew) hr 1
    have hq1 := hq0.set1 0
    have hrp1 : ReplAt wq.drew (b + 1) R (tabOf ps) (ps.reverse.map (·.1)) A V := hrp
    have hg1 : wq.drew.grownBy w1 (some b) := by rw [hw1]; exact grown_trans (grown_setCell _ _ _ _) (grown_setCell _ _ _ _)
    rw [← hw1] at hq1
    have hrp2 := hrp1.row_ hg1 (Nat.lt_succ_self b)
    have hg2 : w.grownBy w1 (some b) := grown_trans (grown_trans (grown_setCell w b 1 _) (grown_drewN hg 1)) hg1
    have c3 := hq1.c.2.2.1
    have hlt := hq1.lt
    have HRW := Lib.hid (HREP.out w1 R A V hrp2)
    have HQ := Lib.hid hq1
    have HRP := Lib.hid hrp2
    have HG := Lib.hid hg2
    clear hq0 hq1 hrp hrp1 hrp2 hg hg1 hg2 hr hw1 HDO HREP
    go_wp2_with fail
    refine HRW.out.mono ?_
    rintro e w2 ⟨rfl, hb2⟩
    have HF : Hid (SignPost base b ps s.data.toList w (.returned (.string (bag (replL (tabOf ps) s.data.toList)))) w2) := ⟨rfl, ⟨hbase, .inr ⟨R, A, V, (hb2.block b hlt).trans HQ.out, HRP.out.below hb2⟩⟩, grown_below HG.out hb2⟩
    clear hb2 c3 HRW
    go_wp2_with fail
    go_ret
    exact HF.out
  · have HDO := Lib.hid (do_again b (.iface 215 (.pointer (some ⟨R, 0, none⟩))) (.slice none 0 0) (.func (.func 71) #[.pointer (some ⟨b, 0, none⟩)] #[]) w h1)
    have c3 := h1.c.2.2.1
    have hlt := h1.lt
    have HRW := Lib.hid (HREP.out w R A V h2)
    have HQ := Lib.hid h1
    have HRP := Lib.hid h2
    clear h h1 h2 HREP
    go_enter Tryz.func35, Tryz.ntmps35
    go_wp2_with fail
    refine HDO.out.mono ?_
    rintro e w1 ⟨rfl, hw1⟩
    obtain rfl := hw1.symm
    clear HDO
    go_wp2_with fail
    refine HRW.out.mono ?_
    rintro e w2 ⟨rfl, hb2⟩
    have HF : Hid (SignPost base b ps s.data.toList w (.returned (.string (bag (replL (tabOf ps) s.data.toList)))) w2) := ⟨rfl, ⟨hbase, .inr ⟨R, A, V, (hb2.block b hlt).trans HQ.out, HRP.out.below hb2⟩⟩, below_grown hb2 _⟩
    clear hb2 c3 HRW
    go_wp2_with fail
    go_ret
    exact HF.out
def NewRepPost (w : World) (ps : List (UInt8 × List UInt8)) (e : Ending) (w' : World) : Prop := ∃ b, e = .returned (.pointer (some ⟨b, 0, none⟩)) ∧ SignAt w' w.heap.size b ps ∧ Below w.heap.size w w'
set_option maxHeartbeats 1600000 in
set_option maxRecDepth 100000 in
theorem newReplacer_any (g off m c : Nat) (ps : List (UInt8 × List UInt8)) (w : World) (hm : m = 4 ∨ m = 6) (h : StrsAt w (some ⟨g, off, none⟩) m c (flatP ps)) :
    Calls Tryz.prog 32 #[.slice (some ⟨g, off, none⟩) m c] w (NewRepPost w ps) := by
  have hl := h.1
  have HH := Lib.hid h
  have HL := Lib.hid hl
  clear h hl
  rcases hm with rfl | rfl
  all_goals
    go_enter Tryz.func32, Tryz.ntmps32
    go_wp2_with (at_builtin; go_loud (refine append_elems strE_ok rfl _ _ rfl w.heap.size (.slice none 0 0) [] rfl (Owns.nil _ _) (some ⟨g, off, none⟩) _ c (flatP ps) rfl HH.out (by have := HL.out; simp; omega) (Nat.le_refl _) ?_); intro v' w1 hown hg hrow; obtain ⟨A5, c5, rfl, hc5, hat5, hA5⟩ := hown.at_ strE_ok; have HO := Lib.hid hown; have HG := Lib.hid hg; clear hown hg hrow hat5 hA5 hc5; generalize hl5 : ([] ++ flatP ps).length = n5 at *; have HL5 := Lib.hid hl5; clear hl5)
    go_ret
    have hb1 : Below w.heap.size w w1 := (Below.refl _ _).grown HG.out (Nat.le_refl _) (fun i e => by cases e)
    have hz := hb1.size
    refine ⟨w1.heap.size, rfl, ⟨hz, .inl ⟨_, heap_alloc_new _ _, World.ownsRow.alloc HO.out _⟩⟩, hb1.alloc hz _⟩
end Go.Proofs.YtbipkkebkddegaaGreatDoor
