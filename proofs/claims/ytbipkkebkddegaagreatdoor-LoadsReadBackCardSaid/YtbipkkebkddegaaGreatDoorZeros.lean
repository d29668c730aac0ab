
/-
  append(s, make([]T, m)...) onto a slice of the call's own: m zeros more.
-/
import Derived.Test.YtbipkkebkddegaaGreatDoorElems
import Derived.Lib.AppendZeros
namespace Go.Proofs.YtbipkkebkddegaaGreatDoor
open Go.RowKit

theorem run_zeros_room {P : Program} (w : World) (t tn ty e : TypeId) (i : TypeInfo) (z : Value) (k : IntKind) (ht : P.underlying t = some (.slice e)) (htn : P.underlying tn = some (.int k)) (hi : P.info? e = some i) (hz : i.zero = some z)
    (g sLen sCap : Nat) (cur : Array Value) (hg : w.heap[g]? = some (.cells cur e (0, 0))) (m : Nat) (news : List Value) (hl : news.length = m * i.size) (hnews : (Builtin.zeroCells z.cells m).toList = news) (h1 : ∀ u ∈ news, u.oneCell' = true)
    (h63 : (m : Int) ≤ 100000) (h48 : (m : Int) * (i.bytes : Int) ≤ 281474976710656) (hroom : sLen + m ≤ sCap) (hfit : sLen * i.size + news.length ≤ cur.size) :
    (Builtin.append_ #[t, tn] ty #[.slice (some ⟨g, 0, none⟩) sLen sCap, .int .i64 (m : Int)]).run P w =
      .ok (.slice (some ⟨g, 0, none⟩) (sLen + m) sCap) (w.setRow g (cur.toList.take (sLen * i.size) ++ news ++ cur.toList.drop (sLen * i.size + news.length)).toArray) := by
  have hw : IntKind.i64.wrap (m : Int) = m := by rw [IntKind.wrap_i64]; omega
  have hneg : ¬ ((m : Int) < 0) := by omega
  have h48i : ¬ (281474976710656 < (m : Int) * (i.bytes : Int)) := by omega
  have hst := run_storeCells_at P g (sLen * i.size) e news 0 cur w hg (by simpa using hfit) h1
  simp only [Nat.add_zero] at hst
  by_cases h0 : m * i.size = 0
  · have hn0 : news = [] := List.eq_nil_of_length_eq_zero (by rw [hl, h0])
    subst hn0
    simp [Builtin.append_, run_underlying ht, run_underlying htn, sizeOf, typeInfo, hi, asInt, asIntOf, hw, hneg, h48i, h0, hroom, Addr.add_lit, hst]
  · simp [Builtin.append_, run_underlying ht, run_underlying htn, sizeOf, typeInfo, zeroValue, hi, hz, asInt, asIntOf, hw, hneg, h48i, h0, hroom, Addr.add_lit, hnews, hst]
theorem run_zeros_grow {P : Program} (w : World) (t tn ty e : TypeId) (i : TypeInfo) (z : Value) (k : IntKind) (ht : P.underlying t = some (.slice e)) (htn : P.underlying tn = some (.int k)) (hi : P.info? e = some i) (hz : i.zero = some z)
    (b : Addr) (sLen sCap : Nat) (olds : List Value) (hlo : olds.length = sLen * i.size) (holds : ∀ j v, olds[j]? = some v → w.cell? (b.add j) = some v) (m : Nat) (hs : 0 < i.size)
    (h63 : (m : Int) ≤ 100000) (h48 : (m : Int) * (i.bytes : Int) ≤ 281474976710656) (hg : sCap < sLen + m) (h64 : ((sLen + m : Nat) : Int) ≤ 9223372036854775807) (hfit : Builtin.nextslicecap (sLen + m) sCap * i.bytes ≤ 281474976710656) (hle : sLen ≤ sCap) :
    (Builtin.append_ #[t, tn] ty #[.slice (some b) sLen sCap, .int .i64 (m : Int)]).run P w =
      .ok (.slice (some ⟨w.heap.size, 0, none⟩) (sLen + m) (grownCap w (sLen + m) sCap e))
        (w.drew.alloc (.cells (olds.toArray ++ Builtin.zeroCells z.cells m ++ Builtin.zeroCells z.cells (grownCap w (sLen + m) sCap e - (sLen + m))) e)) := by
  have hw : IntKind.i64.wrap (m : Int) = m := by rw [IntKind.wrap_i64]; omega
  have hneg : ¬ ((m : Int) < 0) := by omega
  have h48i : ¬ (281474976710656 < (m : Int) * (i.bytes : Int)) := by omega
  have hn : ¬ (sLen + m ≤ sCap) := by omega
  have h63' : ¬ (9223372036854775807 < ((sLen : Int) + (m : Int))) := by omega
  have h48' : ¬ (281474976710656 < Builtin.nextslicecap (sLen + m) sCap * i.bytes) := by omega
  have hfo := run_firstCells_some (P := P) w.drew i.size sLen b sLen sCap olds hlo (by simpa using holds)
  have h0 : ¬ m * i.size = 0 := by
    intro h0
    rcases Nat.mul_eq_zero.1 h0 with h | h <;> omega
  simp [Builtin.append_, run_underlying ht, run_underlying htn, sizeOf, typeInfo, zeroValue, hi, hz, asInt, asIntOf, hw, hneg, h48i, hn, h63', h48', h0, Question.forced, hfo, newRow, grownCap]

section
variable {α : Type} {E : Elem α}
theorem zero_cells (hE : E.Ok) (x0 : α) (hz : E.zero.cells = (E.enc x0).toArray) (N : Nat) : (Builtin.zeroCells E.zero.cells N).toList = E.cells (List.replicate N x0) := by
  have hpos := hE.pos
  have hlen := Elem.cells_length hE (List.replicate N x0)
  rw [List.length_replicate] at hlen
  have hsz : (Builtin.zeroCells E.zero.cells N).size = N * E.size := by simp [Builtin.zeroCells, hE.zcells]
  apply List.ext_getElem?
  intro j
  rcases Nat.lt_or_ge j (N * E.size) with hj | hj
  · have hm : j % E.size < E.size := Nat.mod_lt _ hpos
    have hk : j / E.size < N := (Nat.div_lt_iff_lt_mul hpos).2 hj
    have h1 := Elem.cells_at hE (List.replicate N x0) (j / E.size) x0 (j % E.size) (by simp [hk]) hm
    have e : j / E.size * E.size + j % E.size = j := by rw [Nat.mul_comm]; exact Nat.div_add_mod _ _
    rw [e] at h1
    rw [h1]
    have hl : (E.enc x0).length = E.size := hE.len x0
    have hmm : j % E.size < (E.enc x0).length := by omega
    simp only [Builtin.zeroCells, hz, Array.getElem?_toList, Array.getElem?_map]
    rw [show (E.enc x0).toArray.size = E.size by simp [hl]]
    rw [Array.getElem?_range, if_pos hj]
    simp only [Option.map_some]
    rw [List.getElem?_eq_getElem hmm]
    simp [hmm]
  · rw [List.getElem?_eq_none (by rw [Array.length_toList, hsz]; exact hj), List.getElem?_eq_none (by rw [hlen]; exact hj)]
theorem append_zeros (hE : E.Ok) (x0 : α) (hz : E.zero.cells = (E.enc x0).toArray) (tn : TypeId) (k : IntKind) (htn : Tryz.prog.underlying tn = some (.int k)) (ty : TypeId) (w : World) (base : Nat) (v : Value) (l : List α) (hown : Owns E w base v l) (m : Nat) (hsz : l.length + m ≤ 100000) (hbase : base ≤ w.heap.size) :
    ∃ v' w', (Builtin.append_ #[E.ts, tn] ty #[v, .int .i64 (m : Int)]).run Tryz.prog w = .ok v' w' ∧ Owns E w' base v' (l ++ List.replicate m x0) ∧ w.grownBy w' v.ownBlock ∧ (v'.ownBlock = v.ownBlock ∨ v'.ownBlock = some w.heap.size) := by
  obtain ⟨i0, hi, hz0, hz1, hz2⟩ := info_parts hE.info
  have hf := hE.few
  have hpos := hE.pos
  have hzc := zero_cells hE x0 hz m
  have hb : (l.length + m) * E.bytes ≤ 140737488355328 := Nat.le_trans (Nat.mul_le_mul (show l.length + m ≤ 100000 by omega) hf) (by omega)
  have hmb : m * E.bytes ≤ 100000 * 1000 := Nat.mul_le_mul (by omega) hf
  have h48 : (m : Int) * (i0.bytes : Int) ≤ 281474976710656 := by rw [hz2, ← Int.natCast_mul]; omega
  have hlr : (E.cells (List.replicate m x0)).length = m * E.size := by rw [Elem.cells_length hE, List.length_replicate]
  have hone : ∀ u ∈ E.cells (List.replicate m x0), u.oneCell' = true := Elem.cells_one hE _
  have hzs : ∀ q, (Builtin.zeroCells E.zero.cells q).size = q * E.size := fun q => by simp [Builtin.zeroCells, hE.zcells]
  have hls : (E.cells l).toArray.size = l.length * E.size := by rw [List.size_toArray, Elem.cells_length hE]
  have hgrown : ∀ (old : Nat), old < l.length + m → ∀ (row : Option Nat),
      (w.drew.alloc (.cells ((E.cells l).toArray ++ Builtin.zeroCells E.zero.cells m ++ Builtin.zeroCells E.zero.cells (grownCap w (l.length + m) old E.t - (l.length + m))) E.t)).ownsRow base E.t E.size
        (.slice (some ⟨w.heap.size, 0, none⟩) (l.length + m) (grownCap w (l.length + m) old E.t)) (l ++ List.replicate m x0).length (E.cells (l ++ List.replicate m x0)) ∧
      w.grownBy (w.drew.alloc (.cells ((E.cells l).toArray ++ Builtin.zeroCells E.zero.cells m ++ Builtin.zeroCells E.zero.cells (grownCap w (l.length + m) old E.t - (l.length + m))) E.t)) row := by
    intro old ho row
    have hge := grownCap_ge w (l.length + m) old E.t
    have hcm : grownCap w (l.length + m) old E.t ≤ maxLen := grownCap_le_maxLen w (l.length + m) old E.t (by simp only [maxLen]; omega)
    have hll : (l ++ List.replicate m x0).length = l.length + m := by simp
    have hcl := Elem.cells_length hE (l ++ List.replicate m x0)
    refine ⟨⟨hcl, .inr ⟨w.heap.size, _, _, by rw [hll], hbase, heap_alloc_new w.drew _, by rw [hll]; exact hge, hcm, ?_, ?_⟩⟩, ⟨rfl, rfl, rfl, by simp, fun k hk _ => heap_alloc_old w.drew _ hk⟩⟩
    · rw [Array.size_append, Array.size_append, hzs, hzs, hls, ← Nat.add_mul, ← Nat.add_mul, show l.length + m + (grownCap w (l.length + m) old E.t - (l.length + m)) = grownCap w (l.length + m) old E.t by omega]
    · rw [Array.toList_append, Array.toList_append, hzc]
      rw [show (E.cells l).toArray.toList ++ E.cells (List.replicate m x0) = E.cells (l ++ List.replicate m x0) by rw [Elem.cells_append], hll, ← hll, ← hcl]
      exact List.take_left
  have hfin : ∀ v' (w' : World), w'.ownsRow base E.t E.size v' (l ++ List.replicate m x0).length (E.cells (l ++ List.replicate m x0)) → Owns E w' base v' (l ++ List.replicate m x0) := fun _ _ h => h
  rcases hown.2 with ⟨rfl, hn⟩ | ⟨g, cap, cur, rfl, hbg, hg, hnc, hcm, hcs, htake⟩
  · have hl : l = [] := List.eq_nil_of_length_eq_zero hn
    subst hl
    by_cases hm : m = 0
    · subst hm
      refine ⟨.slice none 0 0, w, ?_, by simpa using Owns.nil w base, World.grownBy.refl _ _, .inl rfl⟩
      have hw : IntKind.i64.wrap (0 : Int) = 0 := by decide
      simp [Builtin.append_, run_underlying hE.und, run_underlying htn, sizeOf, typeInfo, hi, asInt, asIntOf, hw]
    · have hr := Lib.run_append_nil_zeros (P := Tryz.prog) w E.ts tn ty E.t i0 E.zero .i64 k hE.und htn hi hz0 m (by omega) (by rw [hz1]; exact hpos) (by omega) (by rw [hz2]; omega)
      have hgr := hgrown 0 (by simp; omega) (Value.ownBlock (.slice none 0 0))
      have e0 : (E.cells ([] : List α)).toArray = #[] := rfl
      simp only [List.length_nil, Nat.zero_add, e0, Array.empty_append] at hgr
      exact ⟨_, _, hr, hfin _ _ hgr.1, hgr.2, .inr rfl⟩
  · by_cases hroom : l.length + m ≤ cap
    · have hfit : l.length * i0.size + (E.cells (List.replicate m x0)).length ≤ cur.size := by rw [hlr, hcs, hz1, ← Nat.add_mul]; exact Nat.mul_le_mul_right _ hroom
      have hr := run_zeros_room (P := Tryz.prog) w E.ts tn ty E.t i0 E.zero k hE.und htn hi hz0 g l.length cap cur hg m (E.cells (List.replicate m x0)) (by rw [hz1]; exact hlr) hzc hone (by omega) h48 hroom hfit
      have hcl := Elem.cells_length hE (l ++ List.replicate m x0)
      have hll : (l ++ List.replicate m x0).length = l.length + m := by simp
      refine ⟨_, _, hr, ⟨hcl, .inr ⟨g, cap, _, by rw [hll], hbg, setRow_heap w g cur _ E.t _ hg, by rw [hll]; exact hroom, hcm, ?_, ?_⟩⟩, ⟨rfl, rfl, rfl, by simp, fun k _ hk => setRow_other w g k _ (fun e => hk (by simp [Value.ownBlock, e]))⟩, .inl rfl⟩
      · simp only [List.size_toArray, List.length_append, List.length_take, List.length_drop, Array.length_toList]
        rw [hz1] at hfit ⊢
        omega
      · rw [hz1, htake, ← hcl, Elem.cells_append]
        exact List.take_left
    · have holds : ∀ j u, (E.cells l)[j]? = some u → w.cell? ((⟨g, 0, none⟩ : Addr).add j) = some u := World.ownsRow.cells hown (g := g) rfl
      have hr := run_zeros_grow (P := Tryz.prog) w E.ts tn ty E.t i0 E.zero k hE.und htn hi hz0 ⟨g, 0, none⟩ l.length cap (E.cells l) (by rw [hz1]; exact hown.1) holds m (by rw [hz1]; exact hpos) (by omega) h48 (by omega) (by omega) (by rw [hz2]; exact growslice_fits (by omega) hb) hnc
      have hgr := hgrown cap (by omega) (Value.ownBlock (.slice (some ⟨g, 0, none⟩) l.length cap))
      exact ⟨_, _, hr, hfin _ _ hgr.1, hgr.2, .inr rfl⟩
end
end Go.Proofs.YtbipkkebkddegaaGreatDoor
