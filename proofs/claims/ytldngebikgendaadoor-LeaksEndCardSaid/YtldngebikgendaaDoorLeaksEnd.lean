/-
  The law LeaksEnd: it returns true.
-/
import Derived.Test.YtldngebikgendaaDoorCovered
import Derived.Test.YtldngebikgendaaDoorMemo2
import Derived.Test.YtldngebikgendaaDoorLeaks
import Derived.Test.YtldngebikgendaaDoorLeaksEndLaw
namespace Go.Proofs.YtldngebikgendaaDoor
open Go.RowKit

set_option maxHeartbeats 3200000 in
set_option maxRecDepth 100000 in
theorem leaksEnd_any (A : Option Addr) (n c : Nat) (w : World) (hrow : RowAt w A n) (hbig : n ≤ 1000000000000000) (hT : Tabs w) :
    Calls Tryd.prog 4 #[.slice A n c] w (LawPost w) := by
  have hs0 := stream_new w A n c hrow hbig
  have hb0 : Below w.heap.size w (w.alloc (.cells #[.slice A n c, .int .i64 0] 25)) := (Below.refl _ _).alloc (Nat.le_refl _) _
  have hrr : ∀ k, some w.heap.size = some k → w.heap.size ≤ k := fun k hk => by injection hk with hk; omega
  clear hrow
  go_enter Tryd.func4, Tryd.ntmps4
  go_wp2_with fail
  refine (memo2_any w.heap.size A n c 0 _ hs0 (by omega)).mono ?_
  rintro e w2 ⟨t, rfl, ht, hs2, hg2⟩
  have hb2 : Below w.heap.size w w2 := hb0.grown hg2 hb0.size hrr
  clear hs0 hb0 hg2
  have HTS := Lib.hid ht; clear ht
  have htl : t.size ≤ 30000 := by have := HTS.out; omega
  go_wp2_with fail
  refine (bodyFault_any t w2 (by omega) (hT.below hb2)).mono ?_
  rintro e w3 ⟨rfl, hb3⟩
  have hs3 := hs2.below hb3
  have hb3 : Below w.heap.size w w3 := hb2.trans (hb3.mono hb2.size)
  clear hs2 hb2
  have HOK := Lib.hid (bodyE_ok t)
  generalize bodyE t = be at *
  by_cases hbe : be = 0
  · obtain ⟨hsz, htx⟩ := HOK.out hbe
    have hsz5 : t.size ≤ 500 := by have := HTS.out; omega
    subst hbe
    clear HOK
    go_wp2_with fail
    refine (spanList_any w.heap.size A n c _ _ w3 hs3 (by omega)).mono ?_
    rintro e w4 ⟨vl, ll, rfl, hll, hRl, hol, hs4, hg4⟩
    have hb4 : Below w.heap.size w w4 := hb3.grown hg4 hb3.size hrr
    clear hs3 hs4 hg4 hb3
    have hRl := hRl.mono (show min (t.size : Int) 50 ≤ (t.size : Int) by omega)
    obtain ⟨Al, cl, rfl, hcl, _, hsl⟩ := hol.atc
    clear hol
    generalize hnl : ll.length = nl at *
    have HNL := Lib.hid hnl; clear hnl
    have HLT : Hid (t.data.toList.length = t.size) := by show _ = _; simp
    go_wp2_with fail
    refine (widen_any t Al nl cl ll w4 hsl hRl (by omega) hsz htx (hT.below hb4)).mono ?_
    rintro e w5 ⟨va, la, rfl, hoa, hRa, hia, hla, hb5⟩
    have hb5 : Below w.heap.size w w5 := hb4.trans (hb5.mono hb4.size)
    clear hsl hb4
    obtain ⟨Aa, ca, rfl, hca, _, hsa⟩ := hoa.atc
    clear hoa
    generalize hna : la.length = na at *
    have HNA := Lib.hid hna; clear hna
    have HIA := Lib.hid hia; clear hia
    go_wp2_with fail
    refine (leaks_any t Aa na ca la w5 hsa hRa (by omega) hsz5 htx (hT.below hb5)).mono ?_
    rintro e w6 ⟨vk, rfl, hok, hb6⟩
    have hsa6 := hsa.keep hb6
    have hb6 : Below w.heap.size w w6 := hb5.trans (hb6.mono hb5.size)
    clear hsa hb5
    have hRk : Right t.size (-1) (leaksL t.data.toList (pointsL t.data.toList la)) := by rw [← HLT.out]; exact leaks_right _ _
    have hlk : (leaksL t.data.toList (pointsL t.data.toList la)).length ≤ 501 := by
      have := leaksTo_length t.data.toList (pointsL t.data.toList la) (t.data.toList.length + 1)
      have h2 := HLT.out
      unfold leaksL
      omega
    have HEND := Lib.hid (fun u (hRu : Right t.data.toList.length (-1) u) (hu : ∀ i, inS u i = (inS la i || inS (leaksL t.data.toList (pointsL t.data.toList la)) i)) => leaks_end (text_valid htx) (by rw [HLT.out]; exact hRl) (by rw [HLT.out]; exact hRa) HIA.out hRu hu)
    generalize leaksL t.data.toList (pointsL t.data.toList la) = lk at *
    obtain ⟨Ak, ck, rfl, hck, _, hsk⟩ := hok.atc
    clear hok
    generalize hnk : lk.length = nk at *
    have HNK := Lib.hid hnk; clear hnk
    go_wp2_with fail
    refine (union_any Aa Ak na nk ca ck la lk t.size w6 hsa6 hsk hca hck (by omega) (by omega) (by omega) hRa hRk).mono ?_
    rintro e w7 ⟨vu, lu, rfl, hou, hRu, hiu, hlu, hb7⟩
    have hb7 : Below w.heap.size w w7 := hb6.trans (hb7.mono hb6.size)
    clear hsa6 hsk hb6
    obtain ⟨he1, he2⟩ := HEND.out lu (by rw [HLT.out]; exact hRu) hiu
    clear hiu HEND
    have HE1 := Lib.hid he1; clear he1
    have HE2 := Lib.hid he2; clear he2
    obtain ⟨Au, cu, rfl, hcu, _, hsu⟩ := hou.atc
    clear hou
    generalize hnu : lu.length = nu at *
    have HNU := Lib.hid hnu; clear hnu
    go_wp2_with fail
    refine (leaks_any t Au nu cu lu w7 hsu hRu (by omega) hsz5 htx (hT.below hb7)).mono ?_
    rintro e w8 ⟨v8, rfl, ho8, hb8⟩
    have hsu8 := hsu.keep hb8
    have hb8 : Below w.heap.size w w8 := hb7.trans (hb8.mono hb7.size)
    clear hsu hb7
    rw [HE1.out] at ho8
    obtain ⟨A8, c8, rfl, _, _, _⟩ := ho8.atc
    clear ho8
    go_wp2_with fail
    refine (widen_any t Au nu cu lu w8 hsu8 hRu (by omega) hsz htx (hT.below hb8)).mono ?_
    rintro e w9 ⟨v9, l9, rfl, ho9, hR9, hi9, hl9, hb9⟩
    have hsu9 := hsu8.keep hb9
    have hb9 : Below w.heap.size w w9 := hb8.trans (hb9.mono hb8.size)
    clear hsu8 hb8
    have h9u : l9 = lu := by
      refine Right.ext (by omega) hR9 hRu (fun i => ?_)
      have e1 := hi9 i
      simp only at e1
      rw [e1, HE2.out]
    subst h9u
    obtain ⟨A9, c9, rfl, _, _, hs9⟩ := ho9.atc
    rw [HNU.out] at hs9 ⊢
    clear ho9 hi9
    go_wp2_with fail
    refine (privileges_any w9 (hT.below hb9)).mono ?_
    rintro e w10 ⟨rfl, hb10⟩
    have hsu10 := hsu9.keep hb10
    have hs10 := hs9.keep hb10
    have hb10 : Below w.heap.size w w10 := hb9.trans (hb10.mono hb9.size)
    clear hsu9 hs9 hb9
    go_wp2_with fail
    refine (equal_spans A9 Au nu c9 cu _ w10 hs10 hsu10 (by omega)).mono ?_
    rintro e w11 ⟨rfl, hb11⟩
    go_wp2_with fail
    go_ret
    exact ⟨rfl, hb10.trans (hb11.mono hb10.size)⟩
  · have hne : (be != 0) = true := by simpa using hbe
    go_wp2_with fail
    refine (privileges_any w3 (hT.below hb3)).mono ?_
    rintro e w4 ⟨rfl, hb4⟩
    go_wp2_with fail
    go_ret
    exact ⟨rfl, hb3.trans (hb4.mono hb3.size)⟩

end Go.Proofs.YtldngebikgendaaDoor
