
/-
  Which strings stand in the changes that a stream makes; isToken and its friends at them.
-/
import Derived.Test.YtmaimojpjepmjaaGreatDoorWsChanges
import Derived.Test.YtmaimojpjepmjaaGreatDoorAnyChar
import Derived.Test.YtmaimojpjepmjaaGreatDoorBoth
namespace Go.Proofs.YtmaimojpjepmjaaGreatDoor
open Go.RowKit

/-- A token that is not too long, or one of the two wrong ones. -/
def TokOk (t : List UInt8) : Prop := (isTok t ∧ t.length ≤ 100000) ∨ t = [] ∨ t = [97, 32, 98]
def TokC.Ok (c : TokC) : Prop := (∀ t ∈ c.2.1, TokOk t) ∧ ∀ t ∈ c.2.2, TokOk t
theorem tokOk_of {x : List (List UInt8)} (hx : ∀ t ∈ x, isTok t) (hl : lensL x ≤ 100000) {t : List UInt8} (h : t ∈ x) : TokOk t := .inl ⟨hx t h, by have := lensL_mem x t h; omega⟩
theorem repB_tok : isTok repB.data.toList := by
  have h : ∀ b ∈ repB.data.toList, b = 120 := by
    have key : ∀ n, ∀ b ∈ Lib.repeatL [120] n, b = 120 := by
      intro n
      induction n with
      | zero => intro b hb; simp [Lib.repeatL] at hb
      | succ n ih => intro b hb; simp only [Lib.repeatL, List.mem_append, List.mem_singleton] at hb; rcases hb with hb | hb; exact hb; exact ih b hb
    intro b hb
    have e : repB.data.toList = Lib.repeatL [120] 20000 := by
      show (Lib.repeatL (⟨#[120]⟩ : ByteArray).data.toList 20000).toArray.toList = _
      rw [List.toList_toArray]
    rw [e] at hb
    exact key 20000 b hb
  refine .inr ⟨?_, fun hm => ?_, fun hm => ?_⟩
  · intro e
    have h1 : repB.data.toList.length = repB.size := by simp
    rw [e, repB_size] at h1
    simp at h1
  · have := h _ hm; simp at this
  · have := h _ hm; simp at this
theorem tok_a : TokOk [97] := .inl ⟨.inr ⟨by simp, by decide, by decide⟩, by decide⟩
theorem tok_n : TokOk [10] := .inl ⟨.inl rfl, by decide⟩
theorem dropW_ok : ∀ s ∈ dropW, TokOk s.data.toList := by
  intro s hs
  simp only [dropW, List.mem_cons, List.not_mem_nil, or_false] at hs
  rcases hs with rfl | rfl | rfl | rfl
  · exact tok_a
  · exact .inr (.inl rfl)
  · exact .inr (.inr rfl)
  · exact tok_n
theorem addW_ok : ∀ s ∈ addW, TokOk s.data.toList := by
  intro s hs
  have hl := addW_le s hs
  simp only [addW, List.mem_cons, List.not_mem_nil, or_false] at hs
  rcases hs with rfl | rfl | rfl | rfl | rfl
  · exact tok_a
  · exact .inr (.inl rfl)
  · exact .inr (.inr rfl)
  · exact tok_n
  · exact .inl ⟨repB_tok, by omega⟩
theorem ok_getD {l : List TokC} (h : ∀ c ∈ l, c.Ok) (i : Nat) : (l.getD i (0, [], [])).Ok := by
  rw [List.getD_eq_getElem?_getD]
  cases e : l[i]? with
  | none => exact ⟨fun t ht => (by cases ht), fun t ht => (by cases ht)⟩
  | some c => exact h c (List.mem_of_getElem? e)
theorem ok_set {l : List TokC} (h : ∀ c ∈ l, c.Ok) (i : Nat) (d : TokC) (hd : d.Ok) : ∀ c ∈ l.set i d, c.Ok := by
  intro c hc
  rcases List.mem_or_eq_of_mem_set hc with hc | rfl
  · exact h c hc
  · exact hd
theorem tailF_ok (zs : List Int) (k : Nat) (l : List TokC) (h : ∀ c ∈ l, c.Ok) : ∀ c ∈ tailF zs k l, c.Ok := by
  have hg := ok_getD h (nextN zs (k + 1) l.length)
  have h0 := ok_getD h 0
  have hd := dropW_ok _ (oneF_mem zs (k + 3) dropW (by decide))
  have ha := addW_ok _ (oneF_mem zs (k + 3) addW (by decide))
  unfold tailF
  split
  · split
    · exact ok_set h _ _ hg
    · split
      · refine ok_set h _ _ ⟨fun t ht => ?_, hg.2⟩
        rcases List.mem_append.1 ht with ht | ht
        · exact hg.1 t ht
        · rw [List.mem_singleton] at ht; subst ht; exact hd
      · split
        · refine ok_set h _ _ ⟨hg.1, fun t ht => ?_⟩
          rcases List.mem_append.1 ht with ht | ht
          · exact hg.2 t ht
          · rw [List.mem_singleton] at ht; subst ht; exact ha
        · split
          · exact ok_set h _ _ ⟨fun t ht => (by cases ht), fun t ht => (by cases ht)⟩
          · intro c hc
            rcases List.mem_append.1 hc with hc | hc
            · exact h c hc
            · rw [List.mem_singleton] at hc; subst hc; exact h0
  · exact h
theorem diffF_ok (x y : List (List UInt8)) (hx : ∀ t ∈ x, TokOk t) (hy : ∀ t ∈ y, TokOk t) : ∀ c ∈ diffF x y, c.Ok := by
  intro c hc
  unfold diffF at hc
  obtain ⟨d, hd, rfl⟩ := List.mem_map.1 hc
  obtain ⟨_, h2, h3⟩ := chgs_bd x y x.length _ 0 0 (fun p hp => by
    rcases List.mem_append.1 hp with hp | hp
    · have := keptR_bd x y x.length 0 0 (Nat.zero_le _) p hp; omega
    · simp at hp; subst hp; exact Nat.le_refl _) (by omega) d hd
  exact ⟨fun t ht => hx t (h2.subset ht), fun t ht => hy t (h3.subset ht)⟩
theorem changesF_all (zs : List Int) (k : Nat) (t : ByteArray) (ht : t.size ≤ 84) : ChgBd (changesF zs k t) ∧ ∀ c ∈ changesF zs k t, c.Ok := by
  have h1 := changedF_size zs k t abxB
  have h2 := changedF_size zs (changedK k t) (changedF zs k t abxB) cdB
  have e1 : abxB.size = 5 := rfl
  have e2 : cdB.size = 3 := rfl
  obtain ⟨b1, b2⟩ := diff_small t (changedF zs (changedK k t) (changedF zs k t abxB) cdB) (by omega) (by omega)
  have ok : ∀ s : ByteArray, s.size ≤ 1000 → ∀ u ∈ tokL s.data.toList, TokOk u := by
    intro s hs u hu
    have h3 := tokL_lens s.data.toList
    have h4 : s.data.toList.length = s.size := by simp
    exact tokOk_of (tokL_ok s.data.toList) (by omega) hu
  unfold changesF
  exact ⟨tailF_bd _ _ _ b1 b2, tailF_ok _ _ _ (diffF_ok _ _ (ok t (by omega)) (ok _ (by omega)))⟩

set_option maxHeartbeats 800000 in
theorem isToken_all (t : List UInt8) (w : World) (h : TokOk t) :
    Calls Tryz.prog 76 #[.string ⟨t.toArray⟩] w fun e w' => ∃ b, e = .returned (.bool b) ∧ Below w.heap.size w w' := by
  rcases h with ⟨h, hl⟩ | rfl | rfl
  · exact (isToken_any t w hl h).mono fun e w' h => ⟨true, h⟩
  · go_enter Tryz.func76, Tryz.ntmps76
    go_wp2_with fail
    go_ret
    exact ⟨_, rfl, Below.refl _ _⟩
  · have hc := Tryz.strings_ContainsAny_laid ⟨#[97, 32, 98]⟩ ⟨#[32, 10]⟩ w (by decide) (by decide) (fun j b hb => by
      have := List.mem_of_getElem? hb
      simp at this
      rcases this with rfl | rfl | rfl <;> decide) (fun j b hb => by
      have := List.mem_of_getElem? hb
      simp at this
      rcases this with rfl | rfl <;> decide)
    generalize Lib.containsAny (⟨#[97, 32, 98]⟩ : ByteArray).data.toList (⟨#[32, 10]⟩ : ByteArray).data.toList = b at *
    go_enter Tryz.func76, Tryz.ntmps76
    go_wp2_with fail
    refine hc.mono ?_
    rintro e w1 ⟨rfl, hb⟩
    go_wp2_with fail
    go_ret
    exact ⟨_, rfl, hb⟩
set_option maxHeartbeats 800000 in
theorem wrong_all (t : List UInt8) (w : World) (h : TokOk t) :
    Calls Tryz.prog 75 #[.string ⟨t.toArray⟩] w fun e w' => ∃ b, e = .returned (.bool b) ∧ Below w.heap.size w w' := by
  go_enter Tryz.func75, Tryz.ntmps75
  go_wp2_with fail
  refine (isToken_all t w h).mono ?_
  rintro e w1 ⟨b, rfl, hb⟩
  go_wp2_with fail
  go_ret
  exact ⟨_, rfl, hb⟩
set_option maxHeartbeats 1600000 in
theorem indexFunc_all (A : Option Addr) (n c : Nat) (l : List (List UInt8)) (w : World) (h : StrsAt w A n c l) (hn : n ≤ 100000) (ht : ∀ t ∈ l, TokOk t) :
    Calls Tryz.prog 110 #[.slice A n c, .func (.func 75) #[] #[]] w fun e w' => ∃ r : Int, e = .returned (.int .i64 r) ∧ Below w.heap.size w w' := by
  have HN := Lib.hid h.1
  go_enter Tryz.func110, Tryz.ntmps110
  go_wp2_with fail
  go_loopg [8] n (fun gk i wr => ∃ k : Nat, Hid (k + gk = n) ∧ i = .int .i64 k ∧ Below w.heap.size w wr)
  case atStart => exact ⟨0, show 0 + n = n by omega, rfl, Below.refl _ _⟩
  case round =>
    obtain ⟨k, HK, rfl, hb⟩ := hrel
    have hkn : k ≤ n := by have := HK.out; omega
    by_cases hlt : k < n
    · obtain ⟨gs, os, rfl, hgs, hcs⟩ := h.str (by omega)
      have hcur := (hb.cell (p := ⟨gs, os + k, none⟩) hgs).trans (hcs k hlt)
      have h1 := ht (l.getD k []) (by have : k < l.length := by (have := HN.out; omega)
                                      simp [this])
      generalize l.getD k [] = t at *
      clear hcs
      have H1 := Lib.hid h1; clear h1
      go_wp2_with fail
      refine (wrong_all t wr H1.out).mono ?_
      rintro e w2 ⟨b, rfl, hb2⟩
      have hb3 := below_trans' hb hb2
      cases b
      · go_wp2_with fail
        go_roundg (gk - 1)
        case measure => have := HK.out; omega
        case rel => exact ⟨k + 1, show k + 1 + (gk - 1) = n by have := HK.out; omega, by go_num, hb3⟩
      · go_wp2_with fail
        go_ret
        exact ⟨_, rfl, hb3⟩
    · go_wp2_with fail
      go_ret
      exact ⟨_, rfl, hb⟩
set_option maxHeartbeats 800000 in
theorem containsFunc_all (A : Option Addr) (n c : Nat) (l : List (List UInt8)) (w : World) (h : StrsAt w A n c l) (hn : n ≤ 100000) (ht : ∀ t ∈ l, TokOk t) :
    Calls Tryz.prog 78 #[.slice A n c, .func (.func 75) #[] #[]] w fun e w' => ∃ b, e = .returned (.bool b) ∧ Below w.heap.size w w' := by
  go_enter Tryz.func78, Tryz.ntmps78
  go_wp2_with fail
  refine (indexFunc_all A n c l w h hn ht).mono ?_
  rintro e w1 ⟨r, rfl, hb⟩
  go_wp2_with fail
  go_ret
  exact ⟨_, rfl, hb⟩
theorem nlarge_all (s : ByteArray) (w : World) (_hs : s.size ≤ 1000000) :
    Calls Tryz.prog 47 #[.string s] w fun e w' => ∃ z : Int, e = .returned (.int .i64 z) ∧ w = w' := by
  go_enter Tryz.func47, Tryz.ntmps47
  go_wp2_with (go_at_call 45; refine (when_any _ _ _).mono ?_; rintro e w' ⟨rfl, rfl⟩)
  go_ret
  exact ⟨_, rfl, rfl⟩
end Go.Proofs.YtmaimojpjepmjaaGreatDoor
