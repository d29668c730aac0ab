
/-
  What groups returns.
-/
import Derived.Test.YtabdjkcediolcaaGreatDoorGroupsPlain
namespace Go.Proofs.YtabdjkcediolcaaGreatDoor
open Go.RowKit Go.Maps Go.Sort Go.Shelf

def SortedHPost (base : Nat) (w : World) (D0 : DataW Value) (e : Ending) (w' : World) : Prop := ∃ v, e = .returned v ∧ OwnStrs w' base v (sortK (strKeys D0)) ∧ Below w.heap.size w w'
set_option maxHeartbeats 1000000 in
theorem sortedH_any (b nn : Nat) (D0 : DataW Value) (R : Value → Option (DataW Value × List MemPlace)) (w : World) (hown : w.ownsMap Tryz.prog 9 R b nn D0) (hmax : Maps.size D0 ≤ 1000000) :
    Calls Tryz.prog 32 #[.func (.func 93) #[] #[.pointer (some ⟨w.heap.size, 0, none⟩)]] (w.alloc (.cells #[.map (some b)] 82)) (SortedHPost w.heap.size w D0) := by
  have hbl := hown.lt
  have hseq : SeqGives Fence.wide 2 Tryz.prog 93 #[.pointer (some ⟨w.heap.size, 0, none⟩)] encStr (fun ss => ss.Perm (strKeys D0)) (Maps.size D0) (w.alloc (.cells #[.map (some b)] 82)) :=
    AnyZ.keys_gives (ρ := Tryz.keys64_ren) { Tryz.keys64 with } Fence.wide _ trivial rfl (by omega) w.heap.size b nn D0 _ (by simp) (by simp) (by
      obtain ⟨es, clock, hb, Ft, hs, hD⟩ := hown
      exact ⟨es, clock, (Below.heap_alloc _ _ b hbl).trans hb, Ft, hs, hD⟩)
  have cS := AnyZ.sorted_in Tryz.sorted32 Fence.wide 5 trivial trivial trivial trivial rfl (by omega) (sorts_any _) (enters_of Tryz.func58 (by kernel_rfl) rfl) 93 #[.pointer (some ⟨w.heap.size, 0, none⟩)] trivial (enters_of Tryz.func93 (by kernel_rfl) rfl) _ _ (by simp only [maxLen]; omega) (by omega) _ hseq
  have cS' := callsIn_wide.1 cS
  refine Calls.mono cS' ?_
  rintro e w' ⟨v, ss, rfl, hS, hrow, hnil, hb⟩
  refine ⟨v, rfl, ?_, ((Below.refl _ w).alloc (Nat.le_refl _) _).trans (hb.mono (by simp))⟩
  have h1 := ownsRow_base_a (base' := w.heap.size) hrow (by simp)
  rw [strs_enc] at h1
  have e1 : ss.mergeSort (fun x y => decide (x ≤ y)) = sortK (strKeys D0) := sortK_perm hS
  rw [e1] at h1
  have e2 : ss.length = (sortK (strKeys D0)).length := by rw [← e1, List.length_mergeSort]
  rw [e2] at h1
  exact h1

theorem keysH_of {w : World} {M m : Nat} {D : DataW Value} {R : Value → Option (DataW Value × List MemPlace)} (h : w.ownsMap Tryz.prog 9 R M m D) : (strKeys D).Nodup ∧ (∀ x, x ∈ strKeys D ↔ has D (.string x) = true) ∧ (strKeys D).length ≤ m := by
  have hsl := h.size_le
  obtain ⟨es, hD, hpw, _⟩ := h.entries keyS'
  obtain ⟨es', hD', hko⟩ := h.keysOf
  obtain rfl : es = es' := by rw [hD] at hD'; simpa using hD'
  subst hD
  have hk : ∀ p ∈ es, ∃ x, p.1 = .string x := fun p hp => by obtain ⟨v, hv⟩ := hko p hp; obtain ⟨x, _, hx, _⟩ := Maps.keyOf_str Tryz.underlying9 hv; exact ⟨x, hx⟩
  refine ⟨?_, fun x => ?_, ?_⟩
  · show (es.map fun p => strOf p.1).Nodup
    refine List.pairwise_map.2 (hpw.imp_of_mem fun {p q} hp' hq' hne e => hne ?_)
    obtain ⟨a, ha⟩ := hk p hp'
    obtain ⟨b, hb⟩ := hk q hq'
    rw [ha, hb] at e ⊢
    exact congrArg _ e
  · rw [has_eq, List.any_eq_true]
    show x ∈ es.map (fun p => strOf p.1) ↔ _
    rw [List.mem_map]
    constructor
    · rintro ⟨p, hp', rfl⟩
      obtain ⟨a, ha⟩ := hk p hp'
      exact ⟨p, hp', by rw [ha]; simp [Lit.sameKey, strOf]⟩
    · rintro ⟨p, hp', hs⟩
      obtain ⟨a, ha⟩ := hk p hp'
      rw [ha] at hs
      exact ⟨p, hp', by rw [ha]; simpa [Lit.sameKey, strOf] using hs⟩
  · have : (strKeys (.map es : DataW Value)).length = Maps.size (.map es : DataW Value) := by simp [strKeys, Maps.size]
    rw [this]; exact hsl

/-- Groups: the pivot, and a slice of ids. -/
def ClusE : Elem (Str × HdS) := ⟨47, 43, 2, 40, .agg #[.string ⟨#[]⟩, .slice none 0 0], fun x => [.string (bag x.1), x.2.v]⟩
theorem clusE_ok : ClusE.Ok := ⟨fun _ => rfl, fun x u hu => by simp [ClusE] at hu; rcases hu with rfl | rfl <;> rfl, by decide, by decide, by kernel_rfl, by kernel_rfl, Tryz.underlying43⟩
structure ClusAt (w : World) (base : Nat) (v : Value) (rs : List (Str × HdS)) (cl : List (Str × List Str)) : Prop where
  own : Owns ClusE w base v rs
  len : rs.length = cl.length
  each : ∀ (k : Nat) (r : Str × HdS) (c : Str × List Str), rs[k]? = some r → cl[k]? = some c → r.1 = c.1 ∧ OwnStrs w base r.2.v c.2
theorem clus_ne : ClusE.t ≠ StrE.t := by decide
theorem ClusAt.nil (w : World) (base : Nat) : ClusAt w base (.slice none 0 0) [] [] := ⟨Owns.nil _ _, rfl, fun k r p h => by simp at h⟩
theorem ClusAt.kept_ {w w' : World} {base : Nat} {v : Value} {rs : List (Str × HdS)} {cl : List (Str × List Str)} {row : Option Nat} (h : ClusAt w base v rs cl) (hg : w.grownBy w' row) (hr : ∀ i, row = some i → i < base) : ClusAt w' base v rs cl :=
  ⟨h.own.kept_ hg hr, h.len, fun k r c hk hc => ⟨(h.each k r c hk hc).1, (h.each k r c hk hc).2.kept_ hg hr⟩⟩
theorem ClusAt.below {w w' : World} {base : Nat} {v : Value} {rs : List (Str × HdS)} {cl : List (Str × List Str)} (h : ClusAt w base v rs cl) (hb : Below w.heap.size w w') : ClusAt w' base v rs cl := h.kept_ (below_grown hb none) (fun i hi => by cases hi)
theorem ClusAt.base_ {w : World} {base base' : Nat} {v : Value} {rs : List (Str × HdS)} {cl : List (Str × List Str)} (h : ClusAt w base v rs cl) (hb : base' ≤ base) : ClusAt w base' v rs cl :=
  ⟨h.own.base_ hb, h.len, fun k r c hk hc => ⟨(h.each k r c hk hc).1, (h.each k r c hk hc).2.base_ hb⟩⟩
theorem ClusAt.more {w w' : World} {base : Nat} {v v' : Value} {rs : List (Str × HdS)} {cl : List (Str × List Str)} (h : ClusAt w base v rs cl) (p : Str) (r : HdS) (c : List Str) (hr : OwnStrs w base r.v c) (ho : Owns ClusE w' base v' (rs ++ [(p, r)])) (hg : w.grownBy w' v.ownBlock) : ClusAt w' base v' (rs ++ [(p, r)]) (cl ++ [(p, c)]) := by
  refine ⟨ho, by simp [h.len], fun k x y hx hy => ?_⟩
  rcases Nat.lt_or_ge k rs.length with hk | hk
  · rw [List.getElem?_append_left hk] at hx
    rw [List.getElem?_append_left (by rw [← h.len]; exact hk)] at hy
    exact ⟨(h.each k x y hx hy).1, (h.each k x y hx hy).2.beside h.own clus_ne hg⟩
  · rw [List.getElem?_append_right hk] at hx
    rw [List.getElem?_append_right (by rw [← h.len]; exact hk)] at hy
    have hk0 : k - rs.length = 0 := by have := (List.getElem?_eq_some_iff.1 hx).1; simpa using this
    rw [hk0] at hx
    rw [h.len] at hk0
    rw [hk0] at hy
    simp at hx hy
    subst hx hy
    exact ⟨rfl, hr.beside h.own clus_ne hg⟩
/-- One of the groups: its cells, and its ids. -/
theorem ClusAt.at_ {w : World} {base : Nat} {v : Value} {rs : List (Str × HdS)} {cl : List (Str × List Str)} (h : ClusAt w base v rs cl) (j : Nat) (c : Str × List Str) (hc : cl[j]? = some c) :
    ∃ G cc A c2, v = .slice (some ⟨G, 0, none⟩) cl.length cc ∧ G < w.heap.size ∧ w.cell? ⟨G, j * 2, none⟩ = some (.string (bag c.1)) ∧ w.cell? ⟨G, j * 2 + 1, none⟩ = some (.slice A c.2.length c2) ∧ StrsAt w A c.2.length c2 c.2 := by
  have hj : j < cl.length := (List.getElem?_eq_some_iff.1 hc).1
  have hl := h.len
  obtain ⟨r, hr⟩ : ∃ r, rs[j]? = some r := ⟨_, List.getElem?_eq_getElem (by omega)⟩
  obtain ⟨G, cc, he, _, h2, hcl⟩ := h.own.where_ clusE_ok (by omega)
  have h3 := (hcl j r 0 (.string (bag r.1)) hr rfl).1
  have h4 := (hcl j r 1 r.2.v hr rfl).1
  obtain ⟨h5, h6⟩ := h.each j r c hr hc
  obtain ⟨A, c2, hv, _, hat, _⟩ := h6.at_ strE_ok
  rw [hv] at h4
  rw [h5] at h3
  exact ⟨G, cc, A, c2, by rw [he, hl], h2, h3, h4, hat⟩
theorem ClusAt.slice_ {w : World} {base : Nat} {v : Value} {rs : List (Str × HdS)} {cl : List (Str × List Str)} (h : ClusAt w base v rs cl) : ∃ A c, v = .slice A cl.length c := by
  obtain ⟨A, c, hv, _⟩ := h.own.at_ clusE_ok
  exact ⟨A, c, by rw [hv, h.len]⟩
theorem lookBs {w : World} {M m : Nat} {inn : List Str} (h : w.ownsMap Tryz.prog 9 (plainElem Tryz.prog 4) M m (setD inn)) (id : Str) (hid : id.length ≤ 1000) (q : Nat) :
    (Instr.lookup 67 (.map (some M)) (.string (bag id)) false).run Tryz.prog (w.drewN q) = .ok (.bool (decide (id ∈ inn))) (w.drewN q) := by
  have hd : (w.drewN q).ownsMap Tryz.prog 9 (plainElem Tryz.prog 4) M m (setD inn) := h
  exact lookB hd (bag id) (by rw [bag_size]; omega) _ (by rw [bag_data]; exact setD_at id inn)

theorem nodup_sub_len {a b : List Str} (hn : a.Nodup) (hs : ∀ x ∈ a, x ∈ b) : a.length ≤ b.length := hn.length_le_of_subset hs
theorem inner_len (num : Str → List Int) (least : Nat) (p : Str) (inn l : List Str) (n : Nat) (hl : l.length ≤ n) : (l.foldl (gIn num least p) (inn, [])).1.length = inn.length + (l.foldl (gIn num least p) (inn, [])).2.length ∧ (l.foldl (gIn num least p) (inn, [])).2.length ≤ n := by
  have h : ∀ (l : List Str) (st : List Str × List Str), (l.foldl (gIn num least p) st).1.length + st.2.length = st.1.length + (l.foldl (gIn num least p) st).2.length ∧ (l.foldl (gIn num least p) st).2.length ≤ st.2.length + l.length := by
    intro l
    induction l with
    | nil => intro st; simp
    | cons x l ih =>
      intro st
      rw [List.foldl_cons]
      have := ih (gIn num least p st x)
      have h2 : (gIn num least p st x).1.length + st.2.length = st.1.length + (gIn num least p st x).2.length ∧ (gIn num least p st x).2.length ≤ st.2.length + 1 := by
        unfold gIn
        split
        · simp; omega
        · omega
      rw [List.length_cons]
      omega
  have := h l (inn, [])
  simp only [List.length_nil] at this
  omega
theorem groups_few (num : Str → List Int) (least : Nat) (ids : List Str) (j : Nat) : (gAll num least ids (ids.take j)).2.length ≤ j := by
  have h : ∀ (l : List Str) (st : List Str × List (Str × List Str)), (l.foldl (gOut num least ids) st).2.length ≤ st.2.length + l.length := by
    intro l
    induction l with
    | nil => intro st; simp
    | cons x l ih =>
      intro st
      rw [List.foldl_cons, List.length_cons]
      have h1 := ih (gOut num least ids st x)
      have h2 : (gOut num least ids st x).2.length ≤ st.2.length + 1 := by
        unfold gOut
        split
        · omega
        · simp
      omega
  have := h (ids.take j) ([], [])
  rw [List.length_take] at this
  simp only [List.length_nil] at this
  unfold gAll
  omega
def GroupsPost (w : World) (cl : List (Str × List Str)) (e : Ending) (w' : World) : Prop := ∃ v rs, e = .returned v ∧ ClusAt w' w.heap.size v rs cl ∧ Below w.heap.size w w'
set_option maxHeartbeats 6400000 in
set_option maxRecDepth 100000 in
theorem groups_any {w : World} {N m : Nat} {D : DataW Value} {hd : Str → Value} {num : Str → List Int} (h : NumAt w N m D hd num) (hlen : ∀ id, (num id).length ≤ 100000) (least : Nat) (ids0 : List Str) (hp : (strKeys D).Perm ids0) (hl : ∀ s ∈ ids0, s.length ≤ 1000) (hm : m ≤ 10) (hle : least ≤ 100) :
    Calls Tryz.prog 40 #[.map (some N), .int .i64 least] w (GroupsPost w (groupsL num least (sortG num (sortK ids0)))) := by
  have HLEN := Lib.hid hlen
  have HNA := Lib.hid h
  have hsk : sortK (strKeys D) = sortK ids0 := sortK_perm hp
  have hkl := (keysH_of h.map).2.2
  have hs0 : ∀ s ∈ sortK ids0, s.length ≤ 1000 := fun s hs => hl s ((List.mergeSort_perm _ _).mem_iff.1 hs)
  have hn0 : (sortK ids0).length ≤ 10 := by
    rw [← hsk]
    unfold sortK
    rw [List.length_mergeSort]
    omega
  have hszD := h.map.size_le
  have hmm := @run_makeMap Tryz.prog
  have HSK := Lib.hid hsk
  have HS0 := Lib.hid hs0
  clear h hlen hp hl hsk hkl hs0
  go_enter Tryz.func40, Tryz.ntmps40
  go_wp2_with fail
  have hb0 : Below w.heap.size w (w.alloc (.cells #[.map (some N)] 82)) := (Below.refl _ _).alloc (Nat.le_refl _) _
  have HRW0 := Lib.hid (heap_alloc_new w (.cells #[.map (some N)] 82))
  have HX0 : Hid ((w.alloc (.cells #[.map (some N)] 82)).heap.size = w.heap.size + 1) := by show _ = _; simp
  generalize w.alloc (.cells #[.map (some N)] 82) = X0 at *
  have HNA0 := Lib.hid (HNA.out.keep hb0)
  refine (keysN_any (some N) X0).mono ?_
  rintro e w' ⟨rfl, rfl⟩
  go_wp2_with fail
  refine (sortedH_any N m D holdE X0 HNA0.out.map (by omega)).mono ?_
  rintro e w2 ⟨v15, rfl, hown, hb2⟩
  rw [HSK.out] at hown
  have HNA2 := Lib.hid (HNA0.out.keep hb2)
  have HRW2 := Lib.hid (row_on hb2 HRW0.out)
  obtain ⟨A5, c5, rfl, q1, hat5, q2⟩ := hown.at_ strE_ok
  have HOW := Lib.hid hown
  clear q1 q2 hat5 hown
  go_wp2_with fail
  refine (sortStableG_any HNA2.out HLEN.out w.heap.size X0.heap.size c5 A5 (sortK ids0) _ HRW2.out (by decide) HOW.out HS0.out (by omega)).mono ?_
  rintro e w3 ⟨rfl, hown3, hg3⟩
  have hb3x : Below X0.heap.size X0 w3 := hb2.grown hg3 hb2.size (fun k hk => (HOW.out.lt k hk).1)
  have hb3' : Below w.heap.size w w3 := below_trans' hb0 hb3x
  have HNA3 := Lib.hid (HNA0.out.keep hb3x)
  have HRW3 := Lib.hid (row_on hb3x HRW0.out)
  have HIL : Hid (∀ s ∈ sortG num (sortK ids0), s.length ≤ 1000) := fun s hs => HS0.out s ((sortG_perm num _ HS0.out).mem_iff.1 hs)
  have hnl := sortG_length num (sortK ids0)
  obtain ⟨A5', c5', he5, q1, hat5, q2⟩ := hown3.at_ strE_ok
  simp only [Value.slice.injEq] at he5
  obtain ⟨rfl, hle5, rfl⟩ := he5
  clear hle5
  rw [hnl] at hat5
  have HID3 := Lib.hid hat5
  have HGL : Hid (groupsL num least (sortG num (sortK ids0)) = (gAll num least (sortG num (sortK ids0)) (sortG num (sortK ids0))).2) := rfl
  have HNL := Lib.hid hnl
  generalize sortG num (sortK ids0) = ids at *
  generalize (sortK ids0).length = n5 at *
  clear q1 q2 hat5 hown3 hg3 HNA2 HRW2 hb2 HOW HNA0 HRW0 hb0 hb3x hnl HSK HS0 hszD HNA
  go_wp2_with fail
  have hIb : (w3.alloc (.map #[] 0)).ownsMap Tryz.prog 9 (plainElem Tryz.prog 4) w3.heap.size 0 (.map [] : DataW Unit) := World.ownsMap_made w3 _ _ _
  have hz4 : (w3.alloc (.map #[] 0)).heap.size = w3.heap.size + 1 := by simp
  go_loopg [7, 22] n5 (fun gk v7 i wr => ∃ (j : Nat) (rs : List (Str × HdS)), Hid (j + gk = n5) ∧ i = .int .i64 j ∧ Hid (wr.ownsMap Tryz.prog 9 (plainElem Tryz.prog 4) w3.heap.size (gAll num least ids (ids.take j)).1.length (setD (gAll num least ids (ids.take j)).1)) ∧ Hid (ClusAt wr (w3.heap.size + 1) v7 rs (gAll num least ids (ids.take j)).2) ∧ Below w3.heap.size w3 wr)
  case atStart => exact ⟨0, [], show 0 + n5 = n5 by omega, rfl, hIb, ClusAt.nil _ _, (Below.refl _ _).alloc (Nat.le_refl _) _⟩
  case round =>
    obtain ⟨j, rs, HJ, rfl, HIM, HCL, hb⟩ := hrel
    clear hIb hz4
    have hjn : j ≤ n5 := by have := HJ.out; omega
    have hzb := hb.size
    have HNAr := Lib.hid (HNA3.out.keep hb)
    have HRWr := Lib.hid (row_on hb HRW3.out)
    have HIDr := Lib.hid (HID3.out.keep hb)
    by_cases hlt : j < n5
    · obtain ⟨p, hp⟩ : ∃ p, ids[j]? = some p := ⟨_, List.getElem?_eq_getElem (by have := HNL.out; omega)⟩
      obtain ⟨g5, o5, hA5, hg5, hc5⟩ := HIDr.out.2.2.2 (by omega)
      subst hA5
      have hss1 : StrE.size = 1 := rfl
      have cp := hc5 j p 0 _ hp rfl
      rw [hss1, Nat.mul_one, Nat.add_zero] at cp
      have cp' : wr.cell? ⟨g5, o5 + j, none⟩ = some (.string (bag p)) := cp
      have hpl := HIL.out p (List.mem_of_getElem? hp)
      have HST : Hid (gAll num least ids (ids.take (j + 1)) = gOut num least ids (gAll num least ids (ids.take j)) p) := by
        show _ = _
        obtain ⟨h1, h2⟩ := List.getElem?_eq_some_iff.1 hp
        rw [List.take_succ_eq_append_getElem h1, gAll_snoc, h2]
      have HOKJ := Lib.hid (group_ok num least ids (ids.take j) (fun q hq => List.mem_of_mem_take hq))
      clear cp hc5 hp hss1
      have HCLN : Hid ((gAll num least ids (ids.take j)).2.length ≤ 10) := Nat.le_trans (groups_few num least ids j) (by omega)
      generalize gAll num least ids (ids.take j) = st at *
      obtain ⟨inn, out⟩ := st
      simp only at *
      have hlkp : (Instr.lookup 67 (.map (some w3.heap.size)) (.string (bag p)) false).run Tryz.prog wr = .ok (.bool (decide (p ∈ inn))) wr := lookBs HIM.out p hpl 0
      by_cases hpi : p ∈ inn
      · rw [decide_eq_true hpi] at hlkp
        have HST2 : Hid (gAll num least ids (ids.take (j + 1)) = (inn, out)) := by show _ = _; rw [HST.out, gOut, if_pos hpi]
        go_wp2_with fail
        go_roundg (gk - 1)
        case measure => have := HJ.out; omega
        case rel => exact ⟨j + 1, rs, show j + 1 + (gk - 1) = n5 by have := HJ.out; omega, by go_num, (by show World.ownsMap _ _ _ _ _ _ _; rw [HST2.out]; exact HIM.out), (by show ClusAt _ _ _ _ _; rw [HST2.out]; exact HCL.out), hb⟩
      · rw [decide_eq_false hpi] at hlkp
        have HST2 : Hid (gAll num least ids (ids.take (j + 1)) = ((ids.foldl (gIn num least p) (inn, [])).1, out ++ [(p, sortL (ids.foldl (gIn num least p) (inn, [])).2)])) := by show _ = _; rw [HST.out, gOut, if_neg hpi]
        clear HST
        obtain ⟨esI, clI, hIb⟩ := ownsMap_block HIM.out
        have HIB := Lib.hid hIb
        have hNl : N < w3.heap.size := HNA3.out.map.lt
        have hIl : w3.heap.size < wr.heap.size := HIM.out.lt
        have hBl := (Array.getElem?_eq_some_iff.1 HRW3.out).1
        have hinn : inn.length ≤ 10 := by
          exact Nat.le_trans (nodup_sub_len HOKJ.out.nodup HOKJ.out.sub) (by have := HNL.out; omega)
        go_wp2_with fail
        have HRC := Lib.hid (heap_alloc_new wr (.cells #[.string (bag p), .slice none 0 0] 47))
        have HIMX := Lib.hid (HIM.out.alloc (.cells #[.string (bag p), .slice none 0 0] 47))
        have HGX : Hid (wr.grownBy (wr.alloc (.cells #[.string (bag p), .slice none 0 0] 47)) (some w3.heap.size)) := grown_alloc (World.grownBy.refl _ _) _
        clear cp' hlkp hIb
        obtain ⟨wo, rfl⟩ : ∃ wo : World, wo = wr := ⟨_, rfl⟩
        obtain ⟨ko, rfl⟩ : ∃ ko : Nat, ko = gk := ⟨_, rfl⟩
        go_loopg [33] n5 (fun gk v33 wr => ∃ (i : Nat) (v10 : Value), Hid (i + gk = n5) ∧ v33 = .int .i64 i ∧ Hid (wr.ownsMap Tryz.prog 9 (plainElem Tryz.prog 4) w3.heap.size ((ids.take i).foldl (gIn num least p) (inn, [])).1.length (setD ((ids.take i).foldl (gIn num least p) (inn, [])).1)) ∧ Hid (wr.heap[wo.heap.size]? = some (.cells #[.string (bag p), v10] 47 (0, 0))) ∧ Hid (OwnStrs wr (wo.heap.size + 1) v10 ((ids.take i).foldl (gIn num least p) (inn, [])).2) ∧ Hid (wo.grownBy wr (some w3.heap.size)))
        case atStart => exact ⟨0, .slice none 0 0, show 0 + n5 = n5 by omega, rfl, HIMX.out, HRC.out, Owns.nil _ _, HGX.out⟩
        case round =>
          obtain ⟨i, v10, HI, rfl, HIM2, HRC2, HO2, HG⟩ := hrel
          have hin : i ≤ n5 := by have := HI.out; omega
          have HNAq := Lib.hid (HNAr.out.beside (by omega) HIB.out HG.out)
          have HIDq := Lib.hid (HIDr.out.beside_map strE_ok HIB.out HG.out)
          have HBq : Hid (wr.heap[w.heap.size]? = some (.cells #[.map (some N)] 82 (0, 0))) := (HG.out.block _ (Array.getElem?_eq_some_iff.1 HRWr.out).1 (fun e => by have := Option.some.inj e; omega)).trans HRWr.out
          have cB : wr.cell? ⟨w.heap.size, 0, none⟩ = some (.map (some N)) := by rw [cell_of_row _ w.heap.size 0 _ _ _ HBq.out]; rfl
          have hzq := HG.out.size
          by_cases hil : i < n5
          · obtain ⟨id, hid⟩ : ∃ id, ids[i]? = some id := ⟨_, List.getElem?_eq_getElem (by have := HNL.out; omega)⟩
            obtain ⟨g6, o6, hA6, hg6, hc6⟩ := HIDq.out.2.2.2 (by omega)
            simp only [Option.some.injEq, Addr.mk.injEq, and_true] at hA6
            obtain ⟨rfl, rfl⟩ := hA6
            have hss1 : StrE.size = 1 := rfl
            have cp := hc6 i id 0 _ hid rfl
            rw [hss1, Nat.mul_one, Nat.add_zero] at cp
            have cid : wr.cell? ⟨g5, o5 + i, none⟩ = some (.string (bag id)) := cp
            have hidl := HIL.out id (List.mem_of_getElem? hid)
            have HS2 : Hid ((ids.take (i + 1)).foldl (gIn num least p) (inn, []) = gIn num least p ((ids.take i).foldl (gIn num least p) (inn, [])) id) := by
              show _ = _
              obtain ⟨h1, h2⟩ := List.getElem?_eq_some_iff.1 hid
              rw [List.take_succ_eq_append_getElem h1, List.foldl_append, h2]
              rfl
            have hlc : ((ids.take i).foldl (gIn num least p) (inn, [])).1.length = inn.length + ((ids.take i).foldl (gIn num least p) (inn, [])).2.length ∧ ((ids.take i).foldl (gIn num least p) (inn, [])).2.length ≤ i := inner_len num least p inn (ids.take i) i (by rw [List.length_take]; omega)
            have HKID := Lib.hid (key_le (x := id) (by simp only [maxLen]; omega))
            clear cp hc6 hid hss1 hg6
            generalize (ids.take i).foldl (gIn num least p) (inn, []) = s2 at *
            obtain ⟨in2, cids⟩ := s2
            simp only at *
            obtain ⟨hlc1, hlc2⟩ := hlc
            have hin2 : in2.length ≤ 20 := by omega
            clear hlc1
            have hlki : (Instr.lookup 67 (.map (some w3.heap.size)) (.string (bag id)) false).run Tryz.prog wr = .ok (.bool (decide (id ∈ in2))) wr := lookBs HIM2.out id hidl 0
            by_cases hii : id ∈ in2
            · rw [decide_eq_true hii] at hlki
              have HS3 : Hid ((ids.take (i + 1)).foldl (gIn num least p) (inn, []) = (in2, cids)) := by show _ = _; rw [HS2.out, gIn, if_neg (by simp [hii])]
              clear hii
              go_wp2_with fail
              go_roundg (gk - 1)
              case measure => have := HI.out; omega
              case rel => exact ⟨i + 1, v10, show i + 1 + (gk - 1) = n5 by have := HI.out; omega, by go_num, (by show World.ownsMap _ _ _ _ _ _ _; rw [HS3.out]; exact HIM2.out), HRC2.out, (by show OwnStrs _ _ _ _; rw [HS3.out]; exact HO2.out), HG.out⟩
            · rw [decide_eq_false hii] at hlki
              by_cases hip : id = p
              · have HS3 : Hid ((ids.take (i + 1)).foldl (gIn num least p) (inn, []) = (in2 ++ [id], cids ++ [id])) := by
                  show _ = _
                  have hc : condG num least p id = true := by simp [condG, hip]
                  rw [HS2.out, gIn, hc, if_pos (by simp [hii])]
                have heqb : ((bag id).toList == (bag p).toList) = true := by rw [hip]; simp
                have HIMe := HIM2
                have HRCe := HRC2
                have HOe := HO2
                have HGe := HG
                clear hii hip HIM2 HRC2 HO2 HG HNAq HIDq HBq
                have hz_e := HGe.out.size
                go_upto_region 15 with (at_mapUpdate; refine wpList_mapUpdate_own _ rfl _ _ _ 67 rfl 9 4 keyS Tryz.underlying67 _ w3.heap.size _ _ rfl HIMe.out (by simp only [maxLen]; omega) _ _ (.string id) rfl rfl HKID.out (.lit (.bool true)) [] (plainElem_bool Tryz.underlying4 true) ?_; intro w5 hown5 hgrow5)
                have HRC5 : Hid (w5.heap[wo.heap.size]? = some (.cells #[.string (bag p), v10] 47 (0, 0))) := (hgrow5.block _ (Array.getElem?_eq_some_iff.1 HRCe.out).1 (fun e => by have := Option.some.inj e; omega)).trans HRCe.out
                have HO5 := Lib.hid (HOe.out.kept_ hgrow5 (fun q hq => by cases hq; omega))
                have HG5 := Lib.hid (grown_trans HGe.out hgrow5)
                have HIM5 := Lib.hid hown5
                have hz5 := HG5.out.size
                have hCl5 := (Array.getElem?_eq_some_iff.1 HRC5.out).1
                obtain ⟨A10, c10, rfl, q1, q2, q3⟩ := HO5.out.at_ strE_ok
                obtain ⟨b0, b1, bf0, bf1⟩ := two_cell HRC5.out
                have HRA : Hid ((w5.alloc (.cells #[.string (bag id)] 9)).heap[wo.heap.size]? = some (.cells #[.string (bag p), .slice A10 cids.length c10] 47 (0, 0))) := (Below.heap_alloc _ _ _ hCl5).trans HRC5.out
                clear q1 q2 q3 HIMe HRCe HOe HGe hown5 hgrow5
                go_wp2_with (at_builtin; refine append_elems strE_ok rfl _ _ rfl (wo.heap.size + 1) _ cids rfl (World.ownsRow.alloc HO5.out _) (some ⟨w5.heap.size, 0, none⟩) 1 1 [id] rfl (one_elem (E := StrE) w5 id) (by simp only [List.length_singleton]; omega) (by simp; omega) ?_; intro v6 w6 hown6 hgrow6 _; have hR6 := (hgrow6.block wo.heap.size (Array.getElem?_eq_some_iff.1 HRA.out).1 (fun e => by have := (HO5.out.lt _ e.symm).1; omega)).trans HRA.out; obtain ⟨d0, d1, df0, df1⟩ := two_cell hR6; obtain ⟨A6, c6, rfl, y1, y2, y3⟩ := hown6.at_ strE_ok; clear y1 y2 y3 b0 b1 bf0 bf1)
                have hlap : (cids ++ [id]).length = cids.length + 1 := by simp
                rw [hlap] at hown6
                have HO7 : Hid (OwnStrs (w6.setCell ⟨wo.heap.size, 1, none⟩ (.slice A6 (cids.length + 1) c6)) (wo.heap.size + 1) (.slice A6 (cids.length + 1) c6) (cids ++ [id])) := hown6.kept_ (grown_setCell w6 wo.heap.size 1 _) (fun q hq => by cases hq; omega)
                have HR7 := Lib.hid (two_set1 hR6 (.slice A6 (cids.length + 1) c6))
                have HI7 := Lib.hid (((HIM5.out.alloc (.cells #[.string (bag id)] 9)).kept hgrow6 (fun e => by have := (HO5.out.lt _ e.symm).1; omega)).setCell (a := ⟨wo.heap.size, 1, none⟩) (show w3.heap.size ≠ wo.heap.size by omega) (.slice A6 (cids.length + 1) c6))
                have HG7 := Lib.hid (grown_row (grown_row (grown_alloc HG5.out (.cells #[.string (bag id)] 9)) hgrow6 (fun q hq => by have := (HO5.out.lt q hq).1; omega)) (grown_setCell w6 wo.heap.size 1 (.slice A6 (cids.length + 1) c6)) (fun q hq => by cases hq; exact Nat.le_refl _))
                go_roundg (gk - 1)
                case measure => have := HI.out; omega
                case rel =>
                  refine ⟨i + 1, .slice A6 (cids.length + 1) c6, show i + 1 + (gk - 1) = n5 by have := HI.out; omega, by go_num, ?_, HR7.out, ?_, HG7.out⟩
                  · show World.ownsMap _ _ _ _ _ _ _
                    rw [HS3.out, setD_snoc]
                    have e : (in2 ++ [id]).length = in2.length + 1 := by simp
                    rw [e]; exact HI7.out
                  · show OwnStrs _ _ _ _
                    rw [HS3.out]; exact HO7.out

              · have heqb : ((bag id).toList == (bag p).toList) = false := by
                  rw [Lib.toList_data, Lib.toList_data, bag_data, bag_data]
                  simpa using hip
                obtain ⟨Ax, cx, hx1, hx2⟩ := HNAq.out.row id
                obtain ⟨Ay, cy, hy1, hy2⟩ := HNAq.out.row p
                have hlx : (Instr.lookup 82 (.map (some N)) (.string (bag id)) false).run Tryz.prog wr = .ok (.slice Ax (num id).length cx) wr := by rw [← hx1]; exact HNAq.out.look id HKID.out 0
                have hly : (Instr.lookup 82 (.map (some N)) (.string (bag p)) false).run Tryz.prog wr = .ok (.slice Ay (num p).length cy) wr := by rw [← hy1]; exact HNAq.out.look p (key_le (x := p) (by simp only [maxLen]; omega)) 0
                have HX2 := Lib.hid hx2
                have HY2 := Lib.hid hy2
                have hlx1 := HLEN.out id
                have hly1 := HLEN.out p
                have HCND : Hid (condG num least p id = enoughL (likeZ (num id) (num p)) least) := by show _ = _; simp [condG, hip]
                clear hx1 hx2 hy1 hy2 hip
                go_wp2_with fail
                refine (likeI_any Ax Ay _ cx _ cy (num id) (num p) wr HX2.out HY2.out hlx1 hly1).mono ?_
                rintro e wl ⟨rfl, hbl⟩
                have hfl := likeZ_le (num id) (num p) hlx1 hly1
                generalize likeZ (num id) (num p) = fq at *
                go_wp2_with fail
                refine (enough_any fq least wl hfl.1 hfl.2 hle).mono ?_
                rintro e we ⟨rfl, hbe⟩
                have hbwe := below_trans' hbl hbe
                have HIMe := Lib.hid (HIM2.out.kept (below_grown hbwe none) (by simp))
                have HRCe := Lib.hid (row_on hbwe HRC2.out)
                have HOe := Lib.hid (HO2.out.below_ hbwe)
                have HGe := Lib.hid (grown_below HG.out hbwe)
                clear hbl hbe hbwe HIM2 HRC2 HO2 HG HNAq HIDq HBq HX2 HY2 hlx hly
                cases hen : enoughL fq least with
                | false =>
                  have HS3 : Hid ((ids.take (i + 1)).foldl (gIn num least p) (inn, []) = (in2, cids)) := by show _ = _; rw [HS2.out, gIn, HCND.out, hen, if_neg (by simp)]
                  go_wp2_with fail
                  go_roundg (gk - 1)
                  case measure => have := HI.out; omega
                  case rel => exact ⟨i + 1, v10, show i + 1 + (gk - 1) = n5 by have := HI.out; omega, by go_num, (by show World.ownsMap _ _ _ _ _ _ _; rw [HS3.out]; exact HIMe.out), HRCe.out, (by show OwnStrs _ _ _ _; rw [HS3.out]; exact HOe.out), HGe.out⟩
                | true =>
                  have HS3 : Hid ((ids.take (i + 1)).foldl (gIn num least p) (inn, []) = (in2 ++ [id], cids ++ [id])) := by show _ = _; rw [HS2.out, gIn, HCND.out, hen, if_pos (by simp [hii])]
                  clear hii hen HCND
                  have hz_e := HGe.out.size
                  go_upto_region 15 with (at_mapUpdate; refine wpList_mapUpdate_own _ rfl _ _ _ 67 rfl 9 4 keyS Tryz.underlying67 _ w3.heap.size _ _ rfl HIMe.out (by simp only [maxLen]; omega) _ _ (.string id) rfl rfl HKID.out (.lit (.bool true)) [] (plainElem_bool Tryz.underlying4 true) ?_; intro w5 hown5 hgrow5)
                  have HRC5 : Hid (w5.heap[wo.heap.size]? = some (.cells #[.string (bag p), v10] 47 (0, 0))) := (hgrow5.block _ (Array.getElem?_eq_some_iff.1 HRCe.out).1 (fun e => by have := Option.some.inj e; omega)).trans HRCe.out
                  have HO5 := Lib.hid (HOe.out.kept_ hgrow5 (fun q hq => by cases hq; omega))
                  have HG5 := Lib.hid (grown_trans HGe.out hgrow5)
                  have HIM5 := Lib.hid hown5
                  have hz5 := HG5.out.size
                  have hCl5 := (Array.getElem?_eq_some_iff.1 HRC5.out).1
                  obtain ⟨A10, c10, rfl, q1, q2, q3⟩ := HO5.out.at_ strE_ok
                  obtain ⟨b0, b1, bf0, bf1⟩ := two_cell HRC5.out
                  have HRA : Hid ((w5.alloc (.cells #[.string (bag id)] 9)).heap[wo.heap.size]? = some (.cells #[.string (bag p), .slice A10 cids.length c10] 47 (0, 0))) := (Below.heap_alloc _ _ _ hCl5).trans HRC5.out
                  clear q1 q2 q3 HIMe HRCe HOe HGe hown5 hgrow5
                  go_wp2_with (at_builtin; refine append_elems strE_ok rfl _ _ rfl (wo.heap.size + 1) _ cids rfl (World.ownsRow.alloc HO5.out _) (some ⟨w5.heap.size, 0, none⟩) 1 1 [id] rfl (one_elem (E := StrE) w5 id) (by simp only [List.length_singleton]; omega) (by simp; omega) ?_; intro v6 w6 hown6 hgrow6 _; have hR6 := (hgrow6.block wo.heap.size (Array.getElem?_eq_some_iff.1 HRA.out).1 (fun e => by have := (HO5.out.lt _ e.symm).1; omega)).trans HRA.out; obtain ⟨d0, d1, df0, df1⟩ := two_cell hR6; obtain ⟨A6, c6, rfl, y1, y2, y3⟩ := hown6.at_ strE_ok; clear y1 y2 y3 b0 b1 bf0 bf1)
                  have hlap : (cids ++ [id]).length = cids.length + 1 := by simp
                  rw [hlap] at hown6
                  have HO7 : Hid (OwnStrs (w6.setCell ⟨wo.heap.size, 1, none⟩ (.slice A6 (cids.length + 1) c6)) (wo.heap.size + 1) (.slice A6 (cids.length + 1) c6) (cids ++ [id])) := hown6.kept_ (grown_setCell w6 wo.heap.size 1 _) (fun q hq => by cases hq; omega)
                  have HR7 := Lib.hid (two_set1 hR6 (.slice A6 (cids.length + 1) c6))
                  have HI7 := Lib.hid (((HIM5.out.alloc (.cells #[.string (bag id)] 9)).kept hgrow6 (fun e => by have := (HO5.out.lt _ e.symm).1; omega)).setCell (a := ⟨wo.heap.size, 1, none⟩) (show w3.heap.size ≠ wo.heap.size by omega) (.slice A6 (cids.length + 1) c6))
                  have HG7 := Lib.hid (grown_row (grown_row (grown_alloc HG5.out (.cells #[.string (bag id)] 9)) hgrow6 (fun q hq => by have := (HO5.out.lt q hq).1; omega)) (grown_setCell w6 wo.heap.size 1 (.slice A6 (cids.length + 1) c6)) (fun q hq => by cases hq; exact Nat.le_refl _))
                  go_roundg (gk - 1)
                  case measure => have := HI.out; omega
                  case rel =>
                    refine ⟨i + 1, .slice A6 (cids.length + 1) c6, show i + 1 + (gk - 1) = n5 by have := HI.out; omega, by go_num, ?_, HR7.out, ?_, HG7.out⟩
                    · show World.ownsMap _ _ _ _ _ _ _
                      rw [HS3.out, setD_snoc]
                      have e : (in2 ++ [id]).length = in2.length + 1 := by simp
                      rw [e]; exact HI7.out
                    · show OwnStrs _ _ _ _
                      rw [HS3.out]; exact HO7.out

          · have hie : ids.take i = ids := List.take_of_length_le (by have := HNL.out; omega)
            rw [hie] at HIM2 HO2
            have hlc2 := (inner_len num least p inn ids 10 (by have := HNL.out; omega)).2
            generalize ids.foldl (gIn num least p) (inn, []) = s2 at *
            obtain ⟨in2, cids⟩ := s2
            simp only at *
            have hCl := (Array.getElem?_eq_some_iff.1 HRC2.out).1
            obtain ⟨A10, c10, rfl, q1, q2, q3⟩ := HO2.out.at_ strE_ok
            obtain ⟨b0, b1, bf0, bf1⟩ := two_cell HRC2.out
            clear q1 q2 q3 hie
            go_wp2_with fail
            refine (sortS_any (wo.heap.size + 1) _ cids wr HO2.out (by omega) (by omega)).mono ?_
            rintro e w6 ⟨rfl, hown6, hb6⟩
            have HRC6 : Hid (w6.heap[wo.heap.size]? = some (.cells #[.string (bag p), .slice A10 cids.length c10] 47 (0, 0))) := (hb6.block _ (by omega)).trans HRC2.out
            have HG6 := Lib.hid (grown_belowB HG.out (hb6.mono (by omega)))
            have HCL6 := Lib.hid (HCL.out.kept_ HG6.out (fun q hq => by cases hq; omega))
            have HIM6 := Lib.hid (ownsMap_same HIM2.out (hb6.block _ (by omega)))
            have HO6 : Hid (OwnStrs w6 (w3.heap.size + 1) (.slice A10 cids.length c10) (sortL cids)) := hown6.base_ (by omega)
            have hz6 := HG6.out.size
            have hrl : rs.length ≤ 10 := by
              have h1 := HCL.out.len
              have h4 := HCLN.out
              omega
            clear b0 b1 bf0 bf1
            obtain ⟨b0, b1, bf0, bf1⟩ := two_cell HRC6.out
            clear hown6 hb6 HIM2 HRC2 HO2 HG HNAq HIDq HBq cB
            go_wp2_with (at_builtin; refine append_elems clusE_ok rfl _ _ rfl (w3.heap.size + 1) _ rs rfl (World.ownsRow.alloc HCL6.out.own _) (some ⟨w6.heap.size, 0, none⟩) 1 1 [(p, (A10, cids.length, c10))] rfl (one_elem (E := ClusE) w6 (p, (A10, cids.length, c10))) (by simp only [List.length_singleton]; omega) (by simp; omega) ?_; intro v7 w7 hown7 hgrow7 _)
            have HAL : Hid (Below w6.heap.size w6 (w6.alloc (.cells #[.string (bag p), .slice A10 cids.length c10] 47))) := (Below.refl _ _).alloc (Nat.le_refl _) _
            have HCL7 := Lib.hid ((HCL6.out.below HAL.out).more p (A10, cids.length, c10) (sortL cids) (HO6.out.below_ HAL.out) hown7 hgrow7)
            have hrow : ∀ q, u7.ownBlock = some q → w3.heap.size < q := fun q hq => (HCL6.out.own.lt q hq).1
            have HIM7 := Lib.hid ((HIM6.out.alloc (.cells #[.string (bag p), .slice A10 cids.length c10] 47)).kept hgrow7 (fun e => by have := hrow _ e.symm; omega))
            have hb6' : Below w3.heap.size w3 w6 := hb.grown HG6.out hb.size (fun q hq => by cases hq; exact Nat.le_refl _)
            have hb7 : Below w3.heap.size w3 w7 := (hb6'.alloc hb6'.size _).grown hgrow7 (by simp; omega) (fun q hq => by have := hrow q hq; omega)
            go_roundg (ko - 1)
            case measure => have := HJ.out; omega
            case rel => exact ⟨j + 1, rs ++ [(p, (A10, cids.length, c10))], show j + 1 + (ko - 1) = n5 by have := HJ.out; omega, by go_num, (by show World.ownsMap _ _ _ _ _ _ _; rw [HST2.out]; exact HIM7.out), (by show ClusAt _ _ _ _ _; rw [HST2.out]; exact HCL7.out), hb7⟩
    · have hje : ids.take j = ids := List.take_of_length_le (by have := HNL.out; omega)
      rw [hje] at HCL
      obtain ⟨Ac, cc, rfl⟩ := HCL.out.slice_
      have hbf := below_trans' hb3' hb
      have hz3 := hb3'.size
      go_wp2_with fail
      go_ret
      exact ⟨_, rs, rfl, by rw [HGL.out]; exact HCL.out.base_ (by omega), hbf⟩
end Go.Proofs.YtabdjkcediolcaaGreatDoor
