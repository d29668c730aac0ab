
/-
  Stores into the rows of a table of the call's own; rows that are made.
-/
import Derived.Test.YtiegbbngfojjoaaGreatDoorTab
namespace Go.Proofs.YtiegbbngfojjoaaGreatDoor
open Go.RowKit

section
variable {α : Type} {E : Elem α}
theorem made_owns (hE : E.Ok) (x0 : α) (hz : E.zero.cells = (E.enc x0).toArray) (w : World) (N : Nat) (hN : N ≤ 100000) : ∃ wb, (Instr.makeSlice E.ts (.int .i64 (N : Int)) (.int .i64 (N : Int))).run Tryz.prog w = .ok (.slice (some ⟨w.heap.size, 0, none⟩) N N) wb ∧
    Owns E wb w.heap.size (.slice (some ⟨w.heap.size, 0, none⟩) N N) (List.replicate N x0) ∧ Below w.heap.size w wb ∧ wb.heap.size = w.heap.size + 1 := by
  obtain ⟨i0, hi, hz0, hz1, hz2⟩ := info_parts hE.info
  have hf := hE.few
  have hpos := hE.pos
  have hb : (E.bytes : Int) * (N : Int) ≤ 281474976710656 := by
    have : E.bytes * N ≤ 1000 * 100000 := Nat.mul_le_mul hf hN
    have h2 : ((E.bytes * N : Nat) : Int) ≤ 100000000 := by omega
    push_cast at h2
    omega
  have hr := run_make (P := Tryz.prog) w E.ts E.t i0 E.zero hE.und hi hz0 .i64 .i64 (N : Int) (N : Int) (by omega) (by omega) (by rw [hz2]; exact hb) (by omega)
  rw [hz1] at hr
  simp only [Int.toNat_natCast] at hr
  refine ⟨_, hr, ?_, (Below.refl _ _).alloc (Nat.le_refl _) _, by simp⟩
  have hlen := Elem.cells_length hE (List.replicate N x0)
  rw [List.length_replicate] at hlen
  refine ⟨by rw [hlen, List.length_replicate], .inr ⟨w.heap.size, N, _, by rw [List.length_replicate], Nat.le_refl _, heap_alloc_new _ _, by rw [List.length_replicate]; exact Nat.le_refl _, by simp only [maxLen]; omega, size_madeCells _ _, ?_⟩⟩
  rw [List.length_replicate, List.take_of_length_le (by rw [Array.length_toList, size_madeCells]; exact Nat.le_refl _)]
  have hzs : E.zero.cells.size = E.size := hE.zcells
  apply List.ext_getElem?
  intro j
  rcases Nat.lt_or_ge j (N * E.size) with hj | hj
  · have hm : j % E.size < E.size := Nat.mod_lt _ hpos
    have hk : j / E.size < N := (Nat.div_lt_iff_lt_mul hpos).2 hj
    have h1 := Elem.cells_at hE (List.replicate N x0) (j / E.size) x0 (j % E.size) (by simp [hk]) hm
    have e : j / E.size * E.size + j % E.size = j := by rw [Nat.mul_comm]; exact Nat.div_add_mod _ _
    rw [e] at h1
    rw [h1]
    have hl : (E.enc x0).length = E.size := hE.len x0
    have hmm : j % E.size < (E.enc x0).length := by omega
    simp only [madeCells, hz, Array.getElem?_toList, Array.getElem?_map]
    rw [Array.getElem?_range, if_pos hj]
    simp only [Option.map_some]
    rw [show (E.enc x0).toArray.size = E.size by simp [hl]]
    rw [List.getElem?_eq_getElem hmm]
    simp [hmm]
  · rw [List.getElem?_eq_none (by rw [Array.length_toList, size_madeCells]; exact hj), List.getElem?_eq_none (by rw [hlen]; exact hj)]
end
theorem sl_toS (B : Option Addr) (m d j : Nat) (hj : j ≤ d) (V : Value) (h : sliced B 0 j d StrE.size = V) (wx : World) : (Instr.slice 32 (.slice B m d) none (some (.int .i64 (j : Int))) none).run Tryz.prog wx = .ok V wx := by
  rw [run_slice_h (P := Tryz.prog) (w := wx) (t := 32) (a := B) (len := m) (cap := d) (ht := und_strs) (kh := .i64) (h := (j : Int)) (h0 := by omega) (h2 := by omega), elem_strs, Tryz.sizeOf9]
  show Result.ok (sliced B 0 ((j : Int)).toNat d 1) wx = _
  rw [Int.toNat_natCast, ← h]; rfl
theorem owns_block {α : Type} {E : Elem α} (w : World) (base g n : Nat) (cs : Array Value) (l : List α) (hb : w.heap[g]? = some (.cells cs E.t (0, 0))) (hbase : base ≤ g) (hn : l.length = n) (hcs : cs.toList = E.cells l) (hsz : (E.cells l).length = n * E.size) (hmax : n ≤ maxLen) : Owns E w base (.slice (some ⟨g, 0, none⟩) n n) l := by
  subst hn
  refine ⟨hsz, .inr ⟨g, l.length, cs, rfl, hbase, hb, Nat.le_refl _, hmax, ?_, ?_⟩⟩
  · rw [← hsz, ← hcs]; simp
  · rw [← hsz, ← hcs]; exact List.take_of_length_le (Nat.le_refl _)
/-- A new slice of one string. -/
theorem one_str (w : World) (base : Nat) (s : ByteArray) (hb : base ≤ w.heap.size) : OwnStrs (w.alloc (.cells #[.string s] 9)) base (.slice (some ⟨w.heap.size, 0, none⟩) 1 1) [s.data.toList] := by
  refine owns_block _ base w.heap.size 1 #[.string s] _ (heap_alloc_new w _) hb rfl ?_ rfl (by decide)
  show [Value.string s] = [Value.string (bag s.data.toList)]
  rw [bag_of]
/-- A new table of one row. -/
theorem one_row (w : World) (base : Nat) (r : HdS) (p : List Str) (h : OwnStrs w base r.v p) (hb : base ≤ w.heap.size) : ParasAt (w.alloc (.cells #[r.v] 32)) base (.slice (some ⟨w.heap.size, 0, none⟩) 1 1) [r] [p] := by
  refine ⟨owns_block _ base w.heap.size 1 #[r.v] _ (heap_alloc_new w _) hb rfl rfl rfl (by decide), rfl, fun k r' p' hr hp => ?_, List.pairwise_singleton _ _⟩
  have hk : k = 0 := by have := (List.getElem?_eq_some_iff.1 hr).1; simpa using this
  subst hk
  simp at hr hp
  subst hr
  subst hp
  exact World.ownsRow.alloc h _
theorem ParasAt.setAt {w : World} {base : Nat} {v : Value} {rs : List HdS} {T : List (List Str)} (h : ParasAt w base v rs T) {k i G n c : Nat} {p : List Str} (s : ByteArray) (hr : rs[k]? = some (some ⟨G, 0, none⟩, n, c)) (hp : T[k]? = some p) (hi : i < p.length) :
    ParasAt (w.setCell ⟨G, i, none⟩ (.string s)) base v rs (T.set k (p.set i s.data.toList)) := by
  have hown := h.each k _ p hr hp
  have hg : w.grownBy (w.setCell ⟨G, i, none⟩ (.string s)) (HdS.v (some ⟨G, 0, none⟩, n, c)).ownBlock := grown_setCell w G i (.string s)
  have hkl := (List.getElem?_eq_some_iff.1 hr).1
  refine ⟨h.own.beside hown (Ne.symm line_ne) hg, by rw [List.length_set]; exact h.len, fun k' r' p' hr' hp' => ?_, h.apart⟩
  by_cases hk : k' = k
  · subst hk
    rw [hr] at hr'
    cases hr'
    rw [List.getElem?_set_self (by rw [← h.len]; exact hkl)] at hp'
    cases hp'
    have := hown.set_ strE_ok i p[i] s.data.toList 0 (.string s) (List.getElem?_eq_getElem hi) (by decide) (by show [Value.string (bag s.data.toList)] = [Value.string s]; rw [bag_of])
    have e : i * StrE.size + 0 = i := by show i * 1 + 0 = i; omega
    rw [e] at this
    exact this
  · rw [List.getElem?_set_ne (fun e => hk e.symm)] at hp'
    have hold := h.each k' r' p' hr' hp'
    have hkl' := (List.getElem?_eq_some_iff.1 hr').1
    refine World.ownsRow.kept hold hg ?_
    rcases Nat.lt_or_ge k' k with hlt | hge
    · have ha := List.pairwise_iff_getElem.1 h.apart k' k hkl' hkl hlt
      rw [(List.getElem?_eq_some_iff.1 hr').2, (List.getElem?_eq_some_iff.1 hr).2] at ha
      rcases ha with ha | ha
      · exact .inl ha
      · exact .inr (fun e => ha e.symm)
    · have ha := List.pairwise_iff_getElem.1 h.apart k k' hkl hkl' (by omega)
      rw [(List.getElem?_eq_some_iff.1 hr').2, (List.getElem?_eq_some_iff.1 hr).2] at ha
      rcases ha with ha | ha
      · cases ha
      · exact .inr ha
/-- Small tables. -/
def TinyT (T : List (List Str)) : Prop := T.length ≤ 10 ∧ ∀ r ∈ T, r.length ≤ 40 ∧ ∀ s ∈ r, s.length ≤ 20
theorem TinyT.push {T : List (List Str)} {r : List Str} {n : Nat} (h : TinyT T) (hn : T.length ≤ n) (hn9 : n ≤ 9) (hr : r.length ≤ 40 ∧ ∀ s ∈ r, s.length ≤ 20) : TinyT (T ++ [r]) := by
  refine ⟨by rw [List.length_append]; simp; omega, fun x hx => ?_⟩
  rcases List.mem_append.1 hx with hx | hx
  · exact h.2 x hx
  · rw [List.mem_singleton] at hx; subst hx; exact hr
theorem TinyT.set {T : List (List Str)} {k i : Nat} {p : List Str} {s : Str} (h : TinyT T) (hp : T[k]? = some p) (hs : s.length ≤ 20) : TinyT (T.set k (p.set i s)) := by
  have hpm := h.2 p (List.mem_of_getElem? hp)
  refine ⟨by rw [List.length_set]; exact h.1, fun x hx => ?_⟩
  rcases List.mem_or_eq_of_mem_set hx with hx | hx
  · exact h.2 x hx
  · subst hx
    refine ⟨by rw [List.length_set]; exact hpm.1, fun y hy => ?_⟩
    rcases List.mem_or_eq_of_mem_set hy with hy | hy
    · exact hpm.2 y hy
    · subst hy; exact hs
end Go.Proofs.YtiegbbngfojjoaaGreatDoor
