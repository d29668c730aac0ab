
/-
  sync.Once in a Replacer, one goroutine: its lock, the two calls that doSlow defers. (Modelled on the guide's example Lazy.)
-/
import Derived.Test.YtbipkkebkddegaaGreatDoorElems
import Derived.Defers
import Derived.Laws.Pointers
import Derived.Laws.LoneSync
import Derived.RegionCalls
import Derived.ChangeAlike
import Derived.Laws.NewBlocks
namespace Go.Proofs.YtbipkkebkddegaaGreatDoor
open Go.RowKit

theorem race_disable (w : World) : (callFunc 219 #[]).run Tryz.prog w = .ok (.value (.tuple #[])) w := run_call_mark0 Tryz.func219 (by kernel_rfl) (by kernel_rfl) (by kernel_rfl) .disable (by kernel_rfl) w
theorem race_enable (w : World) : (callFunc 221 #[]).run Tryz.prog w = .ok (.value (.tuple #[])) w := run_call_mark0 Tryz.func221 (by kernel_rfl) (by kernel_rfl) (by kernel_rfl) .enable (by kernel_rfl) w
theorem race_acquire (a : Addr) (w : World) : (callFunc 222 #[.pointer (some a)]).run Tryz.prog w = .ok (.value (.tuple #[])) w := run_call_marked Tryz.func222 (by kernel_rfl) (by kernel_rfl) (by kernel_rfl) .acquire (by kernel_rfl) a w
theorem race_release (a : Addr) (w : World) : (callFunc 224 #[.pointer (some a)]).run Tryz.prog w = .ok (.value (.tuple #[])) w := run_call_marked Tryz.func224 (by kernel_rfl) (by kernel_rfl) (by kernel_rfl) .releaseMerge (by kernel_rfl) a w

theorem store_deferred (a : Addr) (x : Value) (u : FrameMode) (w : World) (hc : w.cell? a = some x) (hz : w.frozen? a = false) :
    CallsD Tryz.prog 140 #[.pointer (some a), .bool true] u w fun e u' w' => u' = u ∧ (e = .returned (.tuple #[]) ∧ w' = w.drew.setCell a (.int .u32 1)) := by
  have hc' : w.drew.cell? a = some x := by go_simp
  have hz' : w.drew.frozen? a = false := by go_simp
  have hst := run_call_store (P := Tryz.prog) Tryz.func176 (by kernel_rfl) (by kernel_rfl) (by kernel_rfl) (by kernel_rfl) (k := .u32) (y := 1) hc' hz'
  go_enter_d Tryz.func140, Tryz.ntmps140
  go_wp2
  go_region_calls
  all_goals (go_end0; exact ⟨rfl, rfl⟩)

set_option maxHeartbeats 1600000 in
set_option maxRecDepth 100000 in
theorem unlock_deferred (a : Addr) (u : FrameMode) (w : World) (hc : w.cell? a = some (.int .i32 1)) (hz : w.frozen? a = false) :
    CallsD Tryz.prog 139 #[.pointer (some a)] u w fun e u' w' => u' = u ∧ (e = .returned (.tuple #[]) ∧ w' = w.setCell a (.int .i32 0)) := by
  have hd := race_disable
  have he := race_enable
  have hr := race_release
  have hadd := run_call_add (P := Tryz.prog) Tryz.func225 (by kernel_rfl) (by kernel_rfl) (by kernel_rfl) .i32 (by kernel_rfl) (y := -1) (s := 0) hc hz (by simp [go_sem]; rfl)
  have hcv := run_convert_to_unsafe (P := Tryz.prog) (src := 274) (dst := 174) Tryz.underlying274 Tryz.underlying174 (by kernel_rfl) hc
  go_enter_d Tryz.func139, Tryz.ntmps139
  go_wp2
  go_end0
  go_wp2
  go_end0
  exact ⟨rfl, rfl⟩

set_option maxHeartbeats 1600000 in
set_option maxRecDepth 100000 in
theorem lock_free (a : Addr) (w : World) (hc : w.cell? a = some (.int .i32 0)) (hz : w.frozen? a = false) :
    Calls Tryz.prog 138 #[.pointer (some a)] w fun e w' => e = .returned (.tuple #[]) ∧ w' = w.setCell a (.int .i32 1) := by
  have hd := race_disable
  have he := race_enable
  have ha := race_acquire
  have hcas := run_call_cas_hit (P := Tryz.prog) Tryz.func220 (by kernel_rfl) (by kernel_rfl) (by kernel_rfl) .i32 (by kernel_rfl) (y := 1) hc hz
  have hc' : (w.setCell a (.int .i32 1)).cell? a = some (.int .i32 1) := World.cell?_setCell_same w a _ hc
  have hcv := run_convert_to_unsafe (P := Tryz.prog) (src := 274) (dst := 174) Tryz.underlying274 Tryz.underlying174 (by kernel_rfl) hc'
  go_enter Tryz.func138, Tryz.ntmps138
  go_wp2
  first | go_end0 | (simp only [Exit.inBlock, Exit.then]; refine bodyPost_ret (results_none rfl _ _ _) rfl ?_) | refine bodyPost_ret (results_none rfl _ _ _) rfl ?_
  go_wp2
  go_end0
  exact ⟨rfl, rfl⟩

/-- A Replacer: whether it is built, its lock's state, what it was built to, what it is built of. -/
def RepAt (w : World) (b : Nat) (d st : Int) (rv ov : Value) : Prop := w.heap[b]? = some (.cells #[.int .u32 d, .int .i32 st, .int .u32 0, rv, ov] 138 (0, 0))
theorem RepAt.c {w : World} {b : Nat} {d st : Int} {rv ov : Value} (h : RepAt w b d st rv ov) :
    w.cell? ⟨b, 0, none⟩ = some (.int .u32 d) ∧ w.cell? ⟨b, 1, none⟩ = some (.int .i32 st) ∧ w.cell? ⟨b, 3, none⟩ = some rv ∧ w.cell? ⟨b, 4, none⟩ = some ov ∧ ∀ i, w.frozen? ⟨b, i, none⟩ = false := by
  refine ⟨?_, ?_, ?_, ?_, fun i => by simp [World.frozen?, show w.heap[b]? = _ from h]⟩ <;> (rw [cell_of_row w b _ _ _ _ h]; rfl)
theorem RepAt.lt {w : World} {b : Nat} {d st : Int} {rv ov : Value} (h : RepAt w b d st rv ov) : b < w.heap.size := (Array.getElem?_eq_some_iff.1 h).1
theorem RepAt.set0 {w : World} {b : Nat} {d st : Int} {rv ov : Value} (h : RepAt w b d st rv ov) (x : Int) : RepAt (w.setCell ⟨b, 0, none⟩ (.int .u32 x)) b x st rv ov := by
  simp [RepAt, World.setCell, Array.getElem?_modify, show w.heap[b]? = _ from h]
theorem RepAt.set1 {w : World} {b : Nat} {d st : Int} {rv ov : Value} (h : RepAt w b d st rv ov) (x : Int) : RepAt (w.setCell ⟨b, 1, none⟩ (.int .i32 x)) b d x rv ov := by
  simp [RepAt, World.setCell, Array.getElem?_modify, show w.heap[b]? = _ from h]
theorem RepAt.set3 {w : World} {b : Nat} {d st : Int} {rv ov : Value} (h : RepAt w b d st rv ov) (x : Value) : RepAt (w.setCell ⟨b, 3, none⟩ x) b d st x ov := by
  simp [RepAt, World.setCell, Array.getElem?_modify, show w.heap[b]? = _ from h]
theorem RepAt.set4 {w : World} {b : Nat} {d st : Int} {rv ov : Value} (h : RepAt w b d st rv ov) (x : Value) : RepAt (w.setCell ⟨b, 4, none⟩ x) b d st rv x := by
  simp [RepAt, World.setCell, Array.getElem?_modify, show w.heap[b]? = _ from h]

set_option maxHeartbeats 3200000 in
set_option maxRecDepth 100000 in
theorem slow_once (b : Nat) (rv ov : Value) (Q : World → Prop) (w : World) (h : RepAt w b 0 0 rv ov)
    (hQ : ∀ wx, RepAt wx b 0 1 rv ov → wx = w.setCell ⟨b, 1, none⟩ (.int .i32 1) → Calls Tryz.prog 71 #[.pointer (some ⟨b, 0, none⟩)] wx fun e w' => e = .returned (.tuple #[]) ∧ (∃ rv' ov', RepAt w' b 0 1 rv' ov') ∧ Q w') :
    Calls Tryz.prog 106 #[.pointer (some ⟨b, 0, none⟩), .func (.func 71) #[.pointer (some ⟨b, 0, none⟩)] #[]] w fun e w' => e = .returned (.tuple #[]) ∧ ∃ wq, Q wq ∧ w' = (wq.drew.setCell ⟨b, 0, none⟩ (.int .u32 1)).setCell ⟨b, 1, none⟩ (.int .i32 0) := by
  obtain ⟨c0, c1, c3, c4, cf⟩ := h.c
  have h1 := h.set1 1
  have HB := Lib.hid (hQ _ h1 rfl)
  have hl := run_call_load (P := Tryz.prog) Tryz.func137 (by kernel_rfl) (by kernel_rfl) (by kernel_rfl) .u32 (by kernel_rfl) (w := w.setCell ⟨b, 1, none⟩ (.int .i32 1)) (a := ⟨b, 0, none⟩) (x := 0) h1.c.1
  have hnot : ∀ (x : Bool) (w : World), (Op.unary .not (.bool x)).run Tryz.prog w = .ok (.bool (!x)) w := fun _ _ => rfl
  have f1 := cf 1
  clear hQ cf
  go_enter_defers Tryz.func106, Tryz.ntmps106
  go_wp2_with (first | (go_at_call 138; refine (lock_free ⟨b, 1, none⟩ _ c1 f1).mono ?_; rintro e w' ⟨rfl, rfl⟩) | (go_at_call 105; go_in) | (go_at_call 71; refine HB.out.mono ?_; rintro e w2 ⟨rfl, ⟨rv', ov', hr2⟩, hq2⟩))
  refine leaves_cons (f := 140) (args := #[.pointer (some ⟨b, 0, none⟩), .bool true]) (by simp) (by simp [go_sem]) ?_
  refine (store_deferred ⟨b, 0, none⟩ (.int .u32 0) .returning _ hr2.c.1 (hr2.c.2.2.2.2 0)).mono ?_
  rintro e u' w'' ⟨rfl, rfl, rfl⟩
  have hr3 : RepAt (w2.drew.setCell ⟨b, 0, none⟩ (.int .u32 1)) b 1 1 rv' ov' := RepAt.set0 (w := w2.drew) hr2 1
  refine leaves_cons (f := 139) (args := #[.pointer (some ⟨b, 1, none⟩)]) (by simp [settle]) (by simp [go_sem]) ?_
  refine (unlock_deferred ⟨b, 1, none⟩ _ _ hr3.c.2.1 (hr3.c.2.2.2.2 1)).mono ?_
  rintro e u' w'' ⟨rfl, rfl, rfl⟩
  simp [Leaves, settle, results, Tryz.results106]
  exact ⟨w2, hq2, rfl⟩

set_option maxHeartbeats 3200000 in
set_option maxRecDepth 100000 in
theorem do_once (b : Nat) (rv ov : Value) (Q : World → Prop) (w : World) (h : RepAt w b 0 0 rv ov)
    (hQ : ∀ wx, RepAt wx b 0 1 rv ov → wx = w.setCell ⟨b, 1, none⟩ (.int .i32 1) → Calls Tryz.prog 71 #[.pointer (some ⟨b, 0, none⟩)] wx fun e w' => e = .returned (.tuple #[]) ∧ (∃ rv' ov', RepAt w' b 0 1 rv' ov') ∧ Q w') :
    Calls Tryz.prog 70 #[.pointer (some ⟨b, 0, none⟩), .func (.func 71) #[.pointer (some ⟨b, 0, none⟩)] #[]] w fun e w' => e = .returned (.tuple #[]) ∧ ∃ wq, Q wq ∧ w' = (wq.drew.setCell ⟨b, 0, none⟩ (.int .u32 1)).setCell ⟨b, 1, none⟩ (.int .i32 0) := by
  have HS := Lib.hid (slow_once b rv ov Q w h hQ)
  have hl := run_call_load (P := Tryz.prog) Tryz.func137 (by kernel_rfl) (by kernel_rfl) (by kernel_rfl) .u32 (by kernel_rfl) (w := w) (a := ⟨b, 0, none⟩) (x := 0) h.c.1
  have hnot : ∀ (x : Bool) (w : World), (Op.unary .not (.bool x)).run Tryz.prog w = .ok (.bool (!x)) w := fun _ _ => rfl
  clear hQ
  go_enter Tryz.func70, Tryz.ntmps70
  go_wp2_with (first | (go_at_call 106; refine HS.out.mono ?_; rintro e w2 ⟨rfl, hq2⟩) | (go_at_call 105; go_in))
  go_end0
  exact ⟨rfl, hq2⟩
set_option maxHeartbeats 1600000 in
set_option maxRecDepth 100000 in
theorem do_again (b : Nat) (rv ov fv : Value) (w : World) (h : RepAt w b 1 0 rv ov) :
    Calls Tryz.prog 70 #[.pointer (some ⟨b, 0, none⟩), fv] w fun e w' => e = .returned (.tuple #[]) ∧ w' = w := by
  have hl := run_call_load (P := Tryz.prog) Tryz.func137 (by kernel_rfl) (by kernel_rfl) (by kernel_rfl) .u32 (by kernel_rfl) (w := w) (a := ⟨b, 0, none⟩) (x := 1) h.c.1
  have hnot : ∀ (x : Bool) (w : World), (Op.unary .not (.bool x)).run Tryz.prog w = .ok (.bool (!x)) w := fun _ _ => rfl
  go_enter Tryz.func70, Tryz.ntmps70
  go_wp2
  go_end0
  exact ⟨rfl, rfl⟩
end Go.Proofs.YtbipkkebkddegaaGreatDoor
