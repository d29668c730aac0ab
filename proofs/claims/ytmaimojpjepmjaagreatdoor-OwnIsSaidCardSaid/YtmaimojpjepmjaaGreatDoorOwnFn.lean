
/-
  What Depth, Lines and Own return.
-/
import Derived.Test.YtmaimojpjepmjaaGreatDoorApart
namespace Go.Proofs.YtmaimojpjepmjaaGreatDoor
open Go.RowKit

theorem ElemsAt.q {w : World} {A : Option Addr} {n c : Nat} {l : List Qt} (h : ElemsAt QE w A n c l) {k : Nat} {q : Qt} (hk : l[k]? = some q) : ∃ g off, A = some ⟨g, off, none⟩ ∧ g < w.heap.size ∧ w.cell? ⟨g, off + k * 3, none⟩ = some (.int .i64 (q.1 : Int)) ∧ w.cell? ⟨g, off + k * 3 + 1, none⟩ = some (.string ⟨q.2.1.toArray⟩) ∧ w.cell? ⟨g, off + k * 3 + 2, none⟩ = some (.bool q.2.2) := by
  have hn := h.1
  have hkl := (List.getElem?_eq_some_iff.1 hk).1
  obtain ⟨g, off, hA, hg, hc⟩ := h.2.2.2 (by omega)
  exact ⟨g, off, hA, hg, hc k q 0 _ hk rfl, hc k q 1 _ hk rfl, hc k q 2 _ hk rfl⟩
/-- The greatest depth. -/
def maxQ (l : List Qt) : Nat := l.foldl (fun m q => max m q.1) 0
theorem maxQ_snoc (l : List Qt) (q : Qt) : maxQ (l ++ [q]) = max (maxQ l) q.1 := by simp [maxQ]
theorem take_next {α : Type} {l : List α} {k : Nat} {x : α} (h : l[k]? = some x) : l.take (k + 1) = l.take k ++ [x] := by
  obtain ⟨h1, h2⟩ := List.getElem?_eq_some_iff.1 h
  rw [List.take_succ_eq_append_getElem h1, h2]
def DepthPost (w : World) (d : Nat) (e : Ending) (w' : World) : Prop := e = .returned (.tuple #[.int .i64 (d : Int), .int .i64 0]) ∧ Below w.heap.size w w'
/-- What a right body gives its readers. -/
structure BodyOk (s : ByteArray) (w : World) : Prop where
  size : s.size ≤ 1000
  max : MaxAt w
  tabs : Tabs w
  text : textB s.data.toList = true
theorem BodyOk.below {s : ByteArray} {w w' : World} (h : BodyOk s w) (hb : Below w.heap.size w w') : BodyOk s w' := ⟨h.size, h.max.below hb, h.tabs.below hb, h.text⟩
theorem BodyOk.endd {s : ByteArray} {w : World} (h : BodyOk s w) : s.data.toList.isEmpty = true ∨ [10].isSuffixOf s.data.toList = true := by
  have := h.text
  unfold textB at this
  simp only [Bool.and_eq_true, Bool.or_eq_true] at this
  exact this.2
theorem apartQ_bound (D : List (Nat × List UInt8)) (B : Nat) (h : ∀ p ∈ D, p.1 ≤ B ∧ p.2.length ≤ B) : ∀ q ∈ apartQ D, q.1 ≤ B ∧ q.2.1.length ≤ B := by
  intro q hq
  obtain ⟨k, hk, rfl⟩ := List.getElem_of_mem hq
  have hk2 : k < D.length := by rwa [apartQ_length] at hk
  have h1 := apartQ_at D k D[k] (List.getElem?_eq_getElem hk2)
  rw [List.getElem?_eq_getElem hk] at h1
  rw [Option.some.inj h1]
  have hp := h D[k] (List.getElem_mem hk2)
  refine ⟨?_, by rw [oneQ_text]; exact hp.2⟩
  unfold oneQ
  split
  · split
    · rename_i e he
      have : ∀ (R : List (Nat × List UInt8)) (a e : Nat), (∀ p ∈ R, p.1 ≤ B) → seek a R = some e → e ≤ B := by
        intro R
        induction R with
        | nil => intro a e _ h; simp [seek] at h
        | cons x R ih =>
          intro a e hR h
          obtain ⟨d, t⟩ := x
          unfold seek at h
          split at h
          · have h2 := hR (d, t) (by simp)
            simp at h h2
            omega
          · split at h
            · exact ih a e (fun p hp => hR p (List.mem_cons_of_mem _ hp)) h
            · simp at h
      exact this _ _ _ (fun p hp' => (h p (List.mem_of_mem_drop hp')).1) he
    · exact hp.1
  · exact hp.1
theorem apartL_bound (l : List UInt8) (h : l.length ≤ 1000) : (apartL l).length ≤ 1000 ∧ ∀ q ∈ apartL l, q.1 ≤ 1000 ∧ q.2.1.length ≤ 1000 := by
  obtain ⟨h1, h2⟩ := lineL_le l
  refine ⟨by unfold apartL; rw [apartQ_length, List.length_map]; omega, ?_⟩
  refine apartQ_bound _ 1000 (fun p hp => ?_)
  rw [List.mem_map] at hp
  obtain ⟨x, hx, rfl⟩ := hp
  have h3 := strip_len x.length x (Nat.le_refl _)
  have h4 := h2 x hx
  omega
theorem maxQ_bound (l : List Qt) (B : Nat) (h : ∀ q ∈ l, q.1 ≤ B) : maxQ l ≤ B := by
  unfold maxQ
  have : ∀ (l : List Qt) (m : Nat), m ≤ B → (∀ q ∈ l, q.1 ≤ B) → l.foldl (fun m q => max m q.1) m ≤ B := by
    intro l
    induction l with
    | nil => intro m hm _; exact hm
    | cons q l ih =>
      intro m hm h
      have := h q (by simp)
      exact ih _ (by show max m q.1 ≤ B; omega) (fun q' hq' => h q' (List.mem_cons_of_mem _ hq'))
  exact this l 0 (Nat.zero_le _) h
set_option maxHeartbeats 3200000 in
set_option maxRecDepth 100000 in
theorem depth_any (s : ByteArray) (w : World) (h : BodyOk s w) :
    Calls Tryz.prog 9 #[.string s] w (DepthPost w (maxQ (apartL s.data.toList))) := by
  have HCB := Lib.hid (checkBody_any s w (by have := h.size; omega) h.tabs h.text)
  have HAP := Lib.hid (fun wx (hx : BodyOk s wx) => apart_any s wx hx.size hx.max hx.endd)
  have hab := apartL_bound s.data.toList (by have := h.size; simpa using this)
  have HOK := Lib.hid h
  clear h
  generalize apartL s.data.toList = l at *
  have HAB := Lib.hid hab
  clear hab
  go_enter Tryz.func9, Tryz.ntmps9
  go_wp2_with fail
  refine HCB.out.mono ?_
  rintro e w1 ⟨rfl, hb1⟩
  have HB1 := Lib.hid hb1
  clear hb1 HCB
  go_wp2_with fail
  refine (HAP.out w1 (HOK.out.below HB1.out)).mono ?_
  rintro e w2 ⟨A, n, c, rfl, hat, hb2⟩
  have HN := Lib.hid hat.1
  have hn1 : n ≤ 1000 := by have := HAB.out.1; have := hat.1; omega
  have HAT := Lib.hid hat
  have HB2 := Lib.hid (HB1.out.trans (hb2.mono HB1.out.size))
  clear hat hb2 HAP
  go_wp2_with fail
  go_loopg [5, 16] n (fun gk v i wr => ∃ k : Nat, Hid (k + gk = n) ∧ i = .int .i64 (k : Int) ∧ v = .int .i64 ((maxQ (l.take k) : Nat) : Int) ∧ Hid (Below w2.heap.size w2 wr))
  case atStart => exact ⟨0, show 0 + n = n by omega, rfl, rfl, Below.refl _ _⟩
  case round =>
    obtain ⟨k, HK, rfl, rfl, HB⟩ := hrel
    have hkn : k ≤ n := by have := HK.out; omega
    have hmb : maxQ (l.take k) ≤ 1000 := maxQ_bound _ _ (fun q hq => (HAB.out.2 q (List.mem_of_mem_take hq)).1)
    by_cases hlt : k < n
    · obtain ⟨q, hq⟩ : ∃ q, l[k]? = some q := ⟨_, List.getElem?_eq_getElem (by rw [← HN.out]; exact hlt)⟩
      have hqb := HAB.out.2 q (List.mem_of_getElem? hq)
      obtain ⟨g, off, rfl, hg, c0, c1, c2⟩ := HAT.out.q hq
      have d0 := (HB.out.cell (p := ⟨g, off + k * 3, none⟩) hg).trans c0
      have d1 := (HB.out.cell (p := ⟨g, off + k * 3 + 1, none⟩) hg).trans c1
      have d2 := (HB.out.cell (p := ⟨g, off + k * 3 + 2, none⟩) hg).trans c2
      have HT := Lib.hid (take_next hq)
      clear c0 c1 c2 hq
      obtain ⟨qd, qt, qb⟩ := q
      simp only at hqb d0 d1 d2
      have HMX : Hid (maxQ (l.take (k + 1)) = max (maxQ (l.take k)) qd) := by show _ = _; rw [HT.out, maxQ_snoc]
      generalize maxQ (l.take k) = m at *
      have hba : Below w2.heap.size w2 (wr.alloc (.cells #[.int .i64 (qd : Int), .string ⟨qt.toArray⟩, .bool qb] 76)) := HB.out.alloc HB.out.size _
      have HBA := Lib.hid hba
      clear hba
      go_wp2_with fail
      all_goals
        go_roundg (gk - 1)
        case measure => have := HK.out; omega
        case rel => exact ⟨k + 1, show k + 1 + (gk - 1) = n by have := HK.out; omega, by go_num, by rw [HMX.out]; first | rfl | (congr 1; omega) | (push_cast; rfl) | (simp; omega), HBA⟩
    · have hall : l.take k = l := List.take_of_length_le (by have := HN.out; omega)
      rw [hall]
      go_wp2_with fail
      go_ret2
      exact ⟨rfl, HB2.out.trans (HB.out.mono HB2.out.size)⟩
/-- A line with its depth. -/
def LnE : Elem (Nat × List UInt8) := ⟨44, 38, 2, 24, .agg #[.int .i64 0, .string ⟨#[]⟩], fun p => [.int .i64 (p.1 : Int), .string ⟨p.2.toArray⟩]⟩
theorem lnE_ok : LnE.Ok := ⟨fun _ => rfl, fun x u hu => by simp [LnE] at hu; rcases hu with rfl | rfl <;> rfl, by decide, by decide, by kernel_rfl, by kernel_rfl, Tryz.underlying38⟩
def lnQ (q : Qt) : Nat × List UInt8 := (q.1, q.2.1)
def LinesPostQ (w : World) (l : List Qt) (e : Ending) (w' : World) : Prop := ∃ A n c, e = .returned (.tuple #[.slice A n c, .int .i64 0]) ∧ ElemsAt LnE w' A n c (l.map lnQ) ∧ Below w.heap.size w w'
set_option maxHeartbeats 3200000 in
set_option maxRecDepth 100000 in
theorem linesQ_any (s : ByteArray) (w : World) (h : BodyOk s w) :
    Calls Tryz.prog 8 #[.string s] w (LinesPostQ w (apartL s.data.toList)) := by
  have HCB := Lib.hid (checkBody_any s w (by have := h.size; omega) h.tabs h.text)
  have HAP := Lib.hid (fun wx (hx : BodyOk s wx) => apart_any s wx hx.size hx.max hx.endd)
  have hab := apartL_bound s.data.toList (by have := h.size; simpa using this)
  have HOK := Lib.hid h
  clear h
  generalize apartL s.data.toList = l at *
  have HAB := Lib.hid hab
  clear hab
  go_enter Tryz.func8, Tryz.ntmps8
  go_wp2_with fail
  refine HCB.out.mono ?_
  rintro e w1 ⟨rfl, hb1⟩
  have HB1 := Lib.hid hb1
  clear hb1 HCB
  go_wp2_with fail
  refine (HAP.out w1 (HOK.out.below HB1.out)).mono ?_
  rintro e w2 ⟨A, n, c, rfl, hat, hb2⟩
  have HN := Lib.hid hat.1
  have hn1 : n ≤ 1000 := by have := HAB.out.1; have := hat.1; omega
  have HAT := Lib.hid hat
  have HB2 := Lib.hid (HB1.out.trans (hb2.mono HB1.out.size))
  clear hat hb2 HAP
  go_wp2_with fail
  go_loopg [5, 16] n (fun gk v i wr => ∃ k : Nat, Hid (k + gk = n) ∧ i = .int .i64 (k : Int) ∧ Hid (Owns LnE wr w2.heap.size v ((l.take k).map lnQ)) ∧ Hid (Below w2.heap.size w2 wr))
  case atStart => exact ⟨0, show 0 + n = n by omega, rfl, Owns.nil _ _, Below.refl _ _⟩
  case round =>
    obtain ⟨k, HK, rfl, HO, HB⟩ := hrel
    have hkn : k ≤ n := by have := HK.out; omega
    by_cases hlt : k < n
    · obtain ⟨q, hq⟩ : ∃ q, l[k]? = some q := ⟨_, List.getElem?_eq_getElem (by rw [← HN.out]; exact hlt)⟩
      have hqb := HAB.out.2 q (List.mem_of_getElem? hq)
      obtain ⟨g, off, rfl, hg, c0, c1, c2⟩ := HAT.out.q hq
      have d0 := (HB.out.cell (p := ⟨g, off + k * 3, none⟩) hg).trans c0
      have d1 := (HB.out.cell (p := ⟨g, off + k * 3 + 1, none⟩) hg).trans c1
      have d2 := (HB.out.cell (p := ⟨g, off + k * 3 + 2, none⟩) hg).trans c2
      have HT := Lib.hid (take_next hq)
      clear c0 c1 c2 hq
      obtain ⟨qd, qt, qb⟩ := q
      simp only at hqb d0 d1 d2
      have hba : Below w2.heap.size w2 (wr.alloc (.cells #[.int .i64 (qd : Int), .string ⟨qt.toArray⟩, .bool qb] 76)) := HB.out.alloc HB.out.size _
      have HO1 : Hid (Owns LnE (wr.alloc (.cells #[.int .i64 (qd : Int), .string ⟨qt.toArray⟩, .bool qb] 76)) w2.heap.size u5 ((l.take k).map lnQ)) := World.ownsRow.alloc HO.out _
      have hz := HB.out.size
      have hz1 : w2.heap.size ≤ (wr.alloc (.cells #[.int .i64 (qd : Int), .string ⟨qt.toArray⟩, .bool qb] 76)).heap.size := by simp; omega
      have hx0 : (wr.alloc (.cells #[.int .i64 (qd : Int), .string ⟨qt.toArray⟩, .bool qb] 76)).cell? ⟨wr.heap.size, 0, none⟩ = some (.int .i64 (qd : Int)) := by rw [World.cell?_alloc_at _ _ _ _ rfl]; rfl
      have hx1 : (wr.alloc (.cells #[.int .i64 (qd : Int), .string ⟨qt.toArray⟩, .bool qb] 76)).cell? ⟨wr.heap.size, 1, none⟩ = some (.string ⟨qt.toArray⟩) := by rw [World.cell?_alloc_at _ _ _ _ rfl]; rfl
      have HBA := Lib.hid hba
      clear hba
      go_upto_region 8 with (fail)
      clear HO d0 d1 d2
      generalize wr.alloc (.cells #[.int .i64 (qd : Int), .string ⟨qt.toArray⟩, .bool qb] 76) = w4 at *
      go_wp2_with (at_builtin; refine append_elems lnE_ok rfl _ _ rfl w2.heap.size u5 ((l.take k).map lnQ) rfl (World.ownsRow.alloc HO1.out _) (some ⟨w4.heap.size, 0, none⟩) 1 1 [(qd, qt)] rfl (one_elem (E := LnE) w4 (qd, qt)) (by simp; omega) (by simp; omega) ?_; intro v5 w5 hown5 hgrow5 hv5; have HO5 := Lib.hid hown5; have HG5 : Hid ((w4.alloc (.cells #[.int .i64 (qd : Int), .string ⟨qt.toArray⟩] 44)).grownBy w5 u5.ownBlock) := hgrow5; clear hown5 hgrow5 hv5)
      have HB5 : Hid (Below w2.heap.size w2 w5) := (HBA.out.alloc HBA.out.size _).grown HG5.out (by simp; omega) (fun i e => (HO1.out.lt i e).1)
      go_roundg (gk - 1)
      case measure => have := HK.out; omega
      case rel => exact ⟨k + 1, show k + 1 + (gk - 1) = n by have := HK.out; omega, by go_num, by show Owns _ _ _ _ _; rw [HT.out, List.map_append]; exact HO5.out, HB5⟩
    · have hall : l.take k = l := List.take_of_length_le (by have := HN.out; omega)
      rw [hall] at HO
      obtain ⟨A7, c7, rfl, hc7, hat7, _⟩ := HO.out.at_ lnE_ok
      have HAT7 := Lib.hid hat7
      clear hat7
      go_wp2_with fail
      go_ret2
      exact ⟨_, _, _, rfl, HAT7.out, HB2.out.trans (HB.out.mono HB2.out.size)⟩
end Go.Proofs.YtmaimojpjepmjaaGreatDoor
