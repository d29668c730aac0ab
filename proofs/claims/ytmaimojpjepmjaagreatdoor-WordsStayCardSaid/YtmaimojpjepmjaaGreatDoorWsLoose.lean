
/-
  Strings that are written into what Turn returned: it stays the call's own memory.
-/
import Derived.Test.YtmaimojpjepmjaaGreatDoorWsSame
import Derived.Test.YtmaimojpjepmjaaGreatDoorCat2
import Derived.Test.YtmaimojpjepmjaaGreatDoorStreamNew
namespace Go.Proofs.YtmaimojpjepmjaaGreatDoor
open Go.RowKit Go.Maps

theorem own_spoil {w : World} {B S j : Nat} {v : Value} {l : List (List UInt8)} (h : OwnStrs w B v l) (t : List UInt8) : ∃ l', OwnStrs (w.setCell ⟨S, j, none⟩ (.string ⟨t.toArray⟩)) B v l' ∧ l'.length = l.length := by
  obtain ⟨h1, h2⟩ := h
  rcases h2 with ⟨e, hn⟩ | ⟨g, cap, cur, e, hb, hh, hc1, hc2, hsz, htk⟩
  · exact ⟨l, ⟨h1, .inl ⟨e, hn⟩⟩, rfl⟩
  · by_cases hg : g = S
    · subst hg
      have hcl : StrE.cells (l.set j t) = (StrE.cells l).set j (.string ⟨t.toArray⟩) := by
        rw [strE_cells, strE_cells, List.map_set, List.map_set]; rfl
      refine ⟨l.set j t, ⟨by rw [hcl, List.length_set, List.length_set]; exact h1, .inr ⟨g, cap, cur.setIfInBounds j (.string ⟨t.toArray⟩), by rw [List.length_set]; exact e, hb, ?_, by rw [List.length_set]; exact hc1, hc2, by rw [Array.size_setIfInBounds]; exact hsz, ?_⟩⟩, List.length_set⟩
      · simp [World.setCell, Array.getElem?_modify, hh]
      · rw [hcl, ← htk, List.length_set, Array.toList_setIfInBounds, List.take_set]
    · exact ⟨l, ⟨h1, .inr ⟨g, cap, cur, e, hb, (Below.heap_setCell w ⟨S, j, none⟩ _ g hg).trans hh, hc1, hc2, hsz, htk⟩⟩, rfl⟩

def spoiltB : List UInt8 := [115, 112, 111, 105, 108, 116]
/-- What Turn returned, its lists of strings with whatever strings. -/
structure LooseAt (w0 w : World) (v : Value) (rs : List RawC) : Prop where
  own : Owns ChgE w w0.heap.size v rs
  strs : ∀ (k : Nat) (r : RawC), rs[k]? = some r → (∃ l, OwnStrs w w0.heap.size r.2.1.v l ∧ l.length ≤ 101) ∧ ∃ l, OwnStrs w w0.heap.size r.2.2.v l ∧ l.length ≤ 101
  below : Below w0.heap.size w0 w
theorem LooseAt.of {w0 w : World} {v : Value} {rs : List RawC} {cs : List TokC} (hO : Owns ChgE w w0.heap.size v rs) (hC : ChgsOf w w0.heap.size rs cs) (hS : ShortC cs) (hb : Below w0.heap.size w0 w) : LooseAt w0 w v rs := by
  refine ⟨hO, fun k r hr => ?_, hb⟩
  obtain ⟨c, hc⟩ : ∃ c, cs[k]? = some c := ⟨_, List.getElem?_eq_getElem (by rw [← hC.1]; exact (List.getElem?_eq_some_iff.1 hr).1)⟩
  obtain ⟨_, h1, h2⟩ := hC.2 k r c hr hc
  have h3 := hS.2 c (List.mem_of_getElem? hc)
  exact ⟨⟨_, h1, h3.1⟩, _, h2, h3.2⟩
theorem LooseAt.spoil {w0 w : World} {v : Value} {rs : List RawC} (h : LooseAt w0 w v rs) {D : Option Addr} {dn dc j : Nat} {l : List (List UInt8)} (hl : OwnStrs w w0.heap.size (.slice D dn dc) l) (hj : j < dn) :
    ∃ S u, D = some ⟨S, 0, none⟩ ∧ w.cell? ⟨S, j, none⟩ = some u ∧ w.frozen? ⟨S, j, none⟩ = false ∧ LooseAt w0 (w.setCell ⟨S, j, none⟩ (.string ⟨spoiltB.toArray⟩)) v rs := by
  have hn : dn = l.length := (own_is (s := (D, dn, dc)) hl).1
  obtain ⟨S, c', e, hb, hs, hc⟩ := Owns.where_ strE_ok hl (by omega)
  simp only [Value.slice.injEq] at e
  obtain ⟨rfl, _, rfl⟩ := e
  have hk : l[j]? = some (l[j]'(by omega)) := List.getElem?_eq_getElem (by omega)
  have hcj := hc j _ 0 _ hk rfl
  have e2 : j * StrE.size + 0 = j := by show j * 1 + 0 = j; omega
  rw [e2] at hcj
  refine ⟨S, _, rfl, hcj.1, hcj.2, Owns.beside h.own hl (by decide) (grown_setCell w S j _), fun k r hr => ?_, h.below.setCell hb _⟩
  obtain ⟨⟨l1, h1, n1⟩, l2, h2, n2⟩ := h.strs k r hr
  obtain ⟨m1, k1, q1⟩ := own_spoil (S := S) (j := j) h1 spoiltB
  obtain ⟨m2, k2, q2⟩ := own_spoil (S := S) (j := j) h2 spoiltB
  exact ⟨⟨m1, k1, by omega⟩, m2, k2, by omega⟩

theorem row_is (w : World) (A : Option Addr) (n : Nat) (h : RowAt w A n) :
    ∃ zs : List Int, zs.length = n ∧ ∀ j, j < n → ∃ b off, A = some ⟨b, off, none⟩ ∧ b < w.heap.size ∧ w.cell? ⟨b, off + j, none⟩ = some (.int .i64 (zs.getD j 0)) := by
  have h2 : ∀ j : Fin n, ∃ z, ∃ b off, A = some ⟨b, off, none⟩ ∧ b < w.heap.size ∧ w.cell? ⟨b, off + j.1, none⟩ = some (.int .i64 z) := fun j => by
    obtain ⟨b, off, z, h1, h2, h3⟩ := h j.1 j.2
    exact ⟨z, b, off, h1, h2, h3⟩
  refine ⟨List.ofFn fun j => (h2 j).choose, by simp, fun j hj => ?_⟩
  obtain ⟨b, off, h3, h4, h5⟩ := (h2 ⟨j, hj⟩).choose_spec
  refine ⟨b, off, h3, h4, ?_⟩
  have e : (List.ofFn fun j => (h2 j).choose).getD j 0 = (h2 ⟨j, hj⟩).choose := by simp [List.getD, hj]
  rw [e]; exact h5
theorem stream_at {w wx : World} {A : Option Addr} {n c k g : Nat} {zs : List Int} (hz : zs.length = n ∧ ∀ j, j < n → ∃ b off, A = some ⟨b, off, none⟩ ∧ b < w.heap.size ∧ w.cell? ⟨b, off + j, none⟩ = some (.int .i64 (zs.getD j 0))) (hbig : n ≤ 1000000000000000)
    (hb : Below w.heap.size w wx) (hg : w.heap.size ≤ g) (hh : wx.heap[g]? = some (.cells #[.slice A n c, .int .i64 k] 25 (0, 0))) : StreamIs wx g A n c k zs := by
  refine ⟨hh, hz.1, fun j hj => ?_, hbig⟩
  obtain ⟨b, off, h1, h2, h3⟩ := hz.2 j hj
  exact ⟨b, off, h1, by omega, (hb.cell (p := ⟨b, off + j, none⟩) h2).trans h3⟩
theorem ba_keys (x : DataW Unit) : sortK (strKeys ((DataW.map []).put (.string [98, 97]) x)) = [[98, 97]] := by
  have h : strKeys ((DataW.map []).put (.string [98, 97]) x) = [[98, 97]] := by rfl
  rw [h]; unfold sortK; simp
theorem ba_key : keyL (⟨#[98, 97]⟩ : ByteArray).data.toList = true := by decide +kernel
end Go.Proofs.YtmaimojpjepmjaaGreatDoor
