
/-
  Documents in groups: each is in exactly one, with its pivot. Plain lists.
-/
import Derived.Test.YtabdjkcediolcaaGreatDoorGSort
namespace Go.Proofs.YtabdjkcediolcaaGreatDoor
open Go Go.Maps

def condG (num : Str → List Int) (least : Nat) (p id : Str) : Bool := decide (id = p) || enoughL (likeZ (num id) (num p)) least
def gIn (num : Str → List Int) (least : Nat) (p : Str) (st : List Str × List Str) (id : Str) : List Str × List Str :=
  if !decide (id ∈ st.1) && condG num least p id then (st.1 ++ [id], st.2 ++ [id]) else st
def gOut (num : Str → List Int) (least : Nat) (ids : List Str) (st : List Str × List (Str × List Str)) (p : Str) : List Str × List (Str × List Str) :=
  if p ∈ st.1 then st else ((ids.foldl (gIn num least p) (st.1, [])).1, st.2 ++ [(p, sortL (ids.foldl (gIn num least p) (st.1, [])).2)])
def gAll (num : Str → List Int) (least : Nat) (ids js : List Str) : List Str × List (Str × List Str) := js.foldl (gOut num least ids) ([], [])
def groupsL (num : Str → List Int) (least : Nat) (ids : List Str) : List (Str × List Str) := (gAll num least ids ids).2
theorem gAll_snoc (num : Str → List Int) (least : Nat) (ids js : List Str) (p : Str) : gAll num least ids (js ++ [p]) = gOut num least ids (gAll num least ids js) p := by simp [gAll]

structure InnerOk (num : Str → List Int) (least : Nat) (p : Str) (inn0 l : List Str) (st : List Str × List Str) : Prop where
  eq : st.1 = inn0 ++ st.2
  nodup : st.1.Nodup
  from_ : ∀ id ∈ st.2, id ∈ l ∧ condG num least p id = true
  all : ∀ id ∈ l, condG num least p id = true → id ∈ st.1
theorem inner_ok (num : Str → List Int) (least : Nat) (p : Str) (inn0 : List Str) (h0 : inn0.Nodup) (l : List Str) : InnerOk num least p inn0 l (l.foldl (gIn num least p) (inn0, [])) := by
  have h : ∀ (l done : List Str) (st : List Str × List Str), InnerOk num least p inn0 done st → InnerOk num least p inn0 (done ++ l) (l.foldl (gIn num least p) st) := by
    intro l
    induction l with
    | nil => intro done st h; simpa using h
    | cons id l ih =>
      intro done st h
      rw [List.foldl_cons]
      have := ih (done ++ [id]) (gIn num least p st id) ?_
      · simpa using this
      · unfold gIn
        by_cases h1 : id ∈ st.1
        · rw [if_neg (by simp [h1])]
          refine ⟨h.eq, h.nodup, fun x hx => ⟨List.mem_append_left _ (h.from_ x hx).1, (h.from_ x hx).2⟩, fun x hx hc => ?_⟩
          rcases List.mem_append.1 hx with hx | hx
          · exact h.all x hx hc
          · simp at hx; subst hx; exact h1
        · cases hc : condG num least p id with
          | false =>
            rw [if_neg (by simp)]
            refine ⟨h.eq, h.nodup, fun x hx => ⟨List.mem_append_left _ (h.from_ x hx).1, (h.from_ x hx).2⟩, fun x hx hc' => ?_⟩
            rcases List.mem_append.1 hx with hx | hx
            · exact h.all x hx hc'
            · simp at hx; subst hx; rw [hc] at hc'; cases hc'
          | true =>
            rw [if_pos (by simp [h1])]
            refine ⟨?_, ?_, fun x hx => ?_, fun x hx hc' => ?_⟩
            · simp only [h.eq, List.append_assoc]
            · simp only
              rw [List.nodup_append]
              exact ⟨h.nodup, by simp, fun a ha b hb => by simp at hb; subst hb; exact fun e => h1 (e ▸ ha)⟩
            · rcases List.mem_append.1 hx with hx | hx
              · exact ⟨List.mem_append_left _ (h.from_ x hx).1, (h.from_ x hx).2⟩
              · simp at hx; subst hx; exact ⟨by simp, hc⟩
            · rcases List.mem_append.1 hx with hx | hx
              · exact List.mem_append_left _ (h.all x hx hc')
              · simp at hx; subst hx; simp
  have := h l [] (inn0, []) ⟨by simp, h0, fun x hx => (by cases hx), fun x hx => (by cases hx)⟩
  simpa using this
structure GroupOk (num : Str → List Int) (least : Nat) (ids js : List Str) (st : List Str × List (Str × List Str)) : Prop where
  nodup : st.1.Nodup
  sub : ∀ id ∈ st.1, id ∈ ids
  all : ∀ id ∈ js, id ∈ st.1
  perm : (st.2.flatMap (·.2)).Perm st.1
  each : ∀ c ∈ st.2, c.1 ∈ c.2 ∧ ∀ id ∈ c.2, condG num least c.1 id = true
theorem group_ok (num : Str → List Int) (least : Nat) (ids : List Str) : ∀ js : List Str, (∀ p ∈ js, p ∈ ids) → GroupOk num least ids js (gAll num least ids js) := by
  have h : ∀ (l done : List Str) (st : List Str × List (Str × List Str)), (∀ p ∈ l, p ∈ ids) → GroupOk num least ids done st → GroupOk num least ids (done ++ l) (l.foldl (gOut num least ids) st) := by
    intro l
    induction l with
    | nil => intro done st _ h; simpa using h
    | cons p l ih =>
      intro done st hl h
      rw [List.foldl_cons]
      have := ih (done ++ [p]) (gOut num least ids st p) (fun x hx => hl x (List.mem_cons_of_mem _ hx)) ?_
      · simpa using this
      · unfold gOut
        by_cases h1 : p ∈ st.1
        · rw [if_pos h1]
          refine ⟨h.nodup, h.sub, fun x hx => ?_, h.perm, h.each⟩
          rcases List.mem_append.1 hx with hx | hx
          · exact h.all x hx
          · simp at hx; subst hx; exact h1
        · rw [if_neg h1]
          have hi := inner_ok num least p st.1 h.nodup ids
          generalize ids.foldl (gIn num least p) (st.1, []) = r at *
          have hpc : condG num least p p = true := by simp [condG]
          have hp1 := hi.all p (hl p (by simp)) hpc
          have hp2 : p ∈ r.2 := by
            rw [hi.eq] at hp1
            rcases List.mem_append.1 hp1 with hh | hh
            · exact absurd hh h1
            · exact hh
          have hsp : (sortL r.2).Perm r.2 := List.mergeSort_perm _ _
          refine ⟨hi.nodup, fun x hx => ?_, fun x hx => ?_, ?_, fun c hc => ?_⟩
          · rw [hi.eq] at hx
            rcases List.mem_append.1 hx with hx | hx
            · exact h.sub x hx
            · exact (hi.from_ x hx).1
          · rcases List.mem_append.1 hx with hx | hx
            · rw [hi.eq]; exact List.mem_append_left _ (h.all x hx)
            · simp at hx; subst hx; exact hp1
          · rw [List.flatMap_append, hi.eq]
            refine h.perm.append ?_
            simpa using hsp
          · rcases List.mem_append.1 hc with hc | hc
            · exact h.each c hc
            · simp only [List.mem_singleton] at hc
              subst hc
              exact ⟨hsp.mem_iff.2 hp2, fun id hid => (hi.from_ id (hsp.mem_iff.1 hid)).2⟩
  intro js hj
  have := h js [] ([], []) hj ⟨List.nodup_nil, fun x hx => (by cases hx), fun x hx => (by cases hx), List.Perm.refl _, fun c hc => (by cases hc)⟩
  simpa [gAll] using this
theorem find_group {id : Str} {c : Str × List Str} : ∀ (cl : List (Str × List Str)), (cl.flatMap (·.2)).Nodup → c ∈ cl → id ∈ c.2 → cl.find? (fun x => x.2.contains id) = some c
  | [], _, h, _ => by cases h
  | d :: cl, hn, h, hid => by
    rw [List.flatMap_cons, List.nodup_append] at hn
    rcases List.mem_cons.1 h with rfl | h
    · rw [List.find?_cons_of_pos (by simpa using hid)]
    · have hnd : id ∉ d.2 := fun hd => hn.2.2 id hd id (List.mem_flatMap.2 ⟨c, h, hid⟩) rfl
      rw [List.find?_cons_of_neg (by simpa using hnd)]
      exact find_group cl hn.2.1 h hid
theorem lengths_flat (cl : List (Str × List Str)) : (cl.map fun c => c.2.length).sum = (cl.flatMap (·.2)).length := by
  induction cl with
  | nil => rfl
  | cons c cl ih => rw [List.map_cons, List.sum_cons, List.flatMap_cons, List.length_append, ih]
/-- What the law asks of groups. -/
theorem groups_part (num : Str → List Int) (least : Nat) (ids : List Str) (hn : ids.Nodup) (hl : least ≤ 100) :
    (((groupsL num least ids).map fun c => c.2.length).sum = ids.length) ∧ (∀ c ∈ groupsL num least ids, c.1 ∈ c.2 ∧ ∀ id ∈ c.2, (groupsL num least ids).find? (fun x => x.2.contains id) = some c ∧ enoughL (likeZ (num id) (num c.1)) least = true) := by
  have h := group_ok num least ids ids (fun p hp => hp)
  have hnd : ((groupsL num least ids).flatMap (·.2)).Nodup := h.perm.nodup_iff.2 h.nodup
  refine ⟨?_, fun c hc => ⟨(h.each c hc).1, fun id hid => ⟨find_group _ hnd hc hid, ?_⟩⟩⟩
  · rw [lengths_flat]
    have hp : (gAll num least ids ids).1.Perm ids := (List.perm_ext_iff_of_nodup h.nodup hn).2 fun x => ⟨h.sub x, h.all x⟩
    exact (h.perm.trans hp).length_eq
  · have hc' := (h.each c hc).2 id hid
    unfold condG at hc'
    simp only [Bool.or_eq_true, decide_eq_true_eq] at hc'
    rcases hc' with rfl | hc'
    · rw [likeZ_self]
      unfold enoughL
      exact decide_eq_true (by omega)
    · exact hc'
/-- A set of strings as a map. -/
def setD (inn : List Str) : DataW Unit := inn.foldl (fun D s => D.put (.string s) (.lit (.bool true))) (.map [])
theorem setD_snoc (inn : List Str) (s : Str) : setD (inn ++ [s]) = (setD inn).put (.string s) (.lit (.bool true)) := by simp [setD]
theorem setD_at (k : Str) (inn : List Str) : (setD inn).atKey (.string k) (.lit (.bool false)) = .lit (.bool (decide (k ∈ inn))) := by
  have h : ∀ (l : List Str) (D : DataW Unit) (b : Bool), IsMap D → D.atKey (.string k) (.lit (.bool false)) = .lit (.bool b) → (l.foldl (fun D s => D.put (.string s) (.lit (.bool true))) D).atKey (.string k) (.lit (.bool false)) = .lit (.bool (b || decide (k ∈ l))) := by
    intro l
    induction l with
    | nil => intro D b h1 h2; simpa using h2
    | cons x l ih =>
      intro D b h1 h2
      rw [List.foldl_cons]
      by_cases hx : k = x
      · subst hx
        rw [ih _ true (h1.put _ _) (atKey_put_same h1 (str_key' _) _ _)]
        simp
      · rw [ih _ b (h1.put _ _) (by rw [atKey_put_other (str_ne hx)]; exact h2)]
        simp [hx]
  have h2 := h inn (.map []) false isMap_empty rfl
  rw [Bool.false_or] at h2
  exact h2
end Go.Proofs.YtabdjkcediolcaaGreatDoor
