
/-
  A map from strings to the places where they stand in a list; slices of ints of the call's own.
-/
import Derived.Test.YtbipkkebkddegaaGreatDoorSetMap
import Derived.Test.YtbipkkebkddegaaGreatDoorTabSet
import Derived.Test.YtbipkkebkddegaaGreatDoorOvPlain
import Derived.Maps.Own
namespace Go.Proofs.YtbipkkebkddegaaGreatDoor
open Go.RowKit Go.Maps

def IntE : Elem Int := ⟨3, 22, 1, 8, .int .i64 0, fun z => [.int .i64 z]⟩
theorem intE_ok : IntE.Ok := ⟨fun _ => rfl, fun x u hu => by simp [IntE] at hu; subst hu; rfl, by decide, by decide, by kernel_rfl, by kernel_rfl, Tryz.underlying22⟩
theorem Owns.setInt {w : World} {base G n c : Nat} {l : List Int} (h : Owns IntE w base (.slice (some ⟨G, 0, none⟩) n c) l) (k : Nat) (hk : k < l.length) (z : Int) : Owns IntE (w.setCell ⟨G, k, none⟩ (.int .i64 z)) base (.slice (some ⟨G, 0, none⟩) n c) (l.set k z) := by
  have := h.set_ intE_ok k l[k] z 0 (.int .i64 z) (List.getElem?_eq_getElem hk) (by decide) rfl
  rw [show k * IntE.size + 0 = k by show k * 1 + 0 = k; omega] at this
  exact this
theorem Owns.intAt {w : World} {base G n c : Nat} {l : List Int} (h : Owns IntE w base (.slice (some ⟨G, 0, none⟩) n c) l) (k : Nat) (z : Int) (hk : l[k]? = some z) : w.cell? ⟨G, k, none⟩ = some (.int .i64 z) ∧ w.frozen? ⟨G, k, none⟩ = false := by
  obtain ⟨G', c', he, _, _, hc⟩ := h.where_ intE_ok (by have := (List.getElem?_eq_some_iff.1 hk).1; omega)
  simp only [Value.slice.injEq, Option.some.injEq, Addr.mk.injEq] at he
  obtain ⟨⟨rfl, _⟩, _, _⟩ := he
  have := hc k z 0 _ hk rfl
  rw [show k * IntE.size + 0 = k by show k * 1 + 0 = k; omega] at this
  exact this
theorem wf64 (z : Int) (h1 : 0 ≤ z) (h2 : z ≤ 1000000) : (Lit.int .i64 z).wf = true := by
  have e1 : IntKind.i64.min = -9223372036854775808 := by decide
  have e2 : IntKind.i64.max = 9223372036854775807 := by decide
  simp only [Lit.wf, e1, e2, Bool.and_eq_true, decide_eq_true_eq]
  omega
/-- The places of the strings. -/
def atD (l : List Str) : DataW Unit := l.zipIdx.foldl (fun D p => D.put (.string p.1) (.lit (.int .i64 ((p.2 : Int) + 1)))) (.map [])
theorem atD_snoc (l : List Str) (x : Str) : atD (l ++ [x]) = (atD l).put (.string x) (.lit (.int .i64 ((l.length : Int) + 1))) := by simp [atD, List.zipIdx_append]
def plcI (l : List Str) (k : Str) : Int := if k ∈ l then ((l.idxOf k : Nat) : Int) + 1 else 0
theorem atD_take (k : Str) (l : List Str) (hn : l.Nodup) : ∀ n, n ≤ l.length → IsMap (atD (l.take n)) ∧ (atD (l.take n)).atKey (.string k) (.lit (.int .i64 0)) = .lit (.int .i64 (plcI (l.take n) k))
  | 0, _ => ⟨isMap_empty, by simp [atD, plcI]; rfl⟩
  | n + 1, h => by
    obtain ⟨h1, h2⟩ := atD_take k l hn n (by omega)
    have hx : l[n]? = some l[n] := List.getElem?_eq_getElem (by omega)
    have ht : l.take (n + 1) = l.take n ++ [l[n]] := List.take_succ_eq_append_getElem (by omega)
    have hnn : l[n] ∉ l.take n := fun hm => not_nodup_of hx hm hn
    rw [ht, atD_snoc]
    refine ⟨h1.put _ _, ?_⟩
    by_cases hk : k = l[n]
    · rw [hk, atKey_put_same h1 (str_key _) _ _]
      unfold plcI
      rw [if_pos (List.mem_append_right _ (List.mem_singleton.2 rfl)), idxOf_snoc_new hnn]
    · have hne : (Lit.string k) ≠ .string l[n] := fun e => hk (by simpa using e)
      rw [atKey_put_other hne, h2]
      unfold plcI
      by_cases hm : k ∈ l.take n
      · rw [if_pos hm, if_pos (List.mem_append_left _ hm), idxOf_snoc_mem hm]
      · rw [if_neg hm, if_neg (by simp only [List.mem_append, List.mem_singleton, not_or]; exact ⟨hm, hk⟩)]
theorem atD_at (k : Str) (l : List Str) (hn : l.Nodup) : (atD l).atKey (.string k) (.lit (.int .i64 0)) = .lit (.int .i64 (plcI l k)) := by
  have := (atD_take k l hn l.length (Nat.le_refl _)).2
  rwa [List.take_length] at this
/-- Block M holds the places of the strings. -/
def PlcAt (w : World) (M : Nat) (l : List Str) : Prop := w.ownsMap Tryz.prog 9 (plainElem Tryz.prog 3) M l.length (atD l)
theorem PlcAt.look {w : World} {M : Nat} {l : List Str} (h : PlcAt w M l) (hn : l.Nodup) (id : Str) (hid : id.length ≤ 1000000) (q : Nat) :
    (Instr.lookup 90 (.map (some M)) (.string ⟨id.toArray⟩) false).run Tryz.prog (w.drewN q) = .ok (.int .i64 (plcI l id)) (w.drewN q) := by
  have hd : (w.drewN q).ownsMap Tryz.prog 9 (plainElem Tryz.prog 3) M l.length (atD l) := h
  have hk := keyS_mk ⟨id.toArray⟩ (by simp [ByteArray.size]; exact hid)
  rw [show (⟨id.toArray⟩ : ByteArray).data.toList = id by simp] at hk
  obtain ⟨c, hrun, hat, _⟩ := hd.lookup_int keyS Tryz.underlying90 Tryz.underlying3 (by kernel_rfl) hk
  rw [atD_at id l hn] at hat
  simp only [DataW.lit.injEq, Lit.int.injEq, true_and] at hat
  rw [hat]
  exact hrun
theorem PlcAt.look0 {w : World} {M : Nat} {l : List Str} (h : PlcAt w M l) (hn : l.Nodup) (id : Str) (hid : id.length ≤ 1000000) :
    (Instr.lookup 90 (.map (some M)) (.string ⟨id.toArray⟩) false).run Tryz.prog w = .ok (.int .i64 (plcI l id)) w := h.look hn id hid 0
theorem PlcAt.kept {w w' : World} {M : Nat} {l : List Str} {row : Option Nat} (h : PlcAt w M l) (hg : w.grownBy w' row) (hr : row ≠ some M) : PlcAt w' M l := World.ownsMap.kept h hg hr.symm
theorem PlcAt.below {w w' : World} {M : Nat} {l : List Str} (h : PlcAt w M l) (hb : Below w.heap.size w w') : PlcAt w' M l := h.kept (below_grown hb none) (by simp)
theorem PlcAt.lt {w : World} {M : Nat} {l : List Str} (h : PlcAt w M l) : M < w.heap.size := World.ownsMap.lt h
end Go.Proofs.YtbipkkebkddegaaGreatDoor
