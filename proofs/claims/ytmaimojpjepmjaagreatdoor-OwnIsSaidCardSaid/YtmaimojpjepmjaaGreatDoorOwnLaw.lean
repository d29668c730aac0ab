
/-
  OwnIsSaid returns true.
-/
import Derived.Test.YtmaimojpjepmjaaGreatDoorAddr7
import Derived.Test.YtmaimojpjepmjaaGreatDoorNoFeed
namespace Go.Proofs.YtmaimojpjepmjaaGreatDoor
open Go.RowKit

theorem tabIs_keep2 {n : String} {g : Nat} {k : IntKind} {zs : List Int} {w w' : World} (hg : Tryz.prog.globalNamed n = some g) (h : Lib.TabIs Tryz.prog w n k zs) (hb : Below w.heap.size w w') : Lib.TabIs Tryz.prog w' n k zs := by
  unfold Lib.TabIs World.var? at h ⊢
  rw [hg] at h ⊢
  simp only [Option.bind_some] at h ⊢
  have hlt : g < w.heap.size := by
    rcases Nat.lt_or_ge g w.heap.size with h' | h'
    · exact h'
    · rw [Array.getElem?_eq_none h'] at h; cases h
  rw [hb.block g hlt]
  exact h
theorem bare_take (l : List Qt) (k : Nat) (q : Qt) (h : l[k]? = some q) : (bareQ (l.take (k + 1))).length = (bareQ (l.take k)).length + (if q.1 = 0 then 1 else 0) := by
  rw [take_next h, bareQ_snoc, List.length_append]
  split <;> simp
theorem nodup_take {l : List Str} (h : l.Nodup) {k : Nat} {x : Str} (hk : l[k]? = some x) : (l.take k).contains x = false := by
  rw [List.contains_eq_mem, decide_eq_false_iff_not]
  intro hm
  obtain ⟨h1, h2⟩ := List.getElem?_eq_some_iff.1 hk
  have e : l = l.take k ++ l.drop k := (List.take_append_drop k l).symm
  rw [e, List.nodup_append] at h
  have hd : x ∈ l.drop k := by rw [List.drop_eq_getElem_cons h1, h2]; simp
  exact h.2.2 x hm x hd rfl
theorem ElemsAt.ln {w : World} {A : Option Addr} {n c : Nat} {L : List Qt} (h : ElemsAt LnE w A n c (L.map lnQ)) {k : Nat} {q : Qt} (hk : L[k]? = some q) : ∃ g off, A = some ⟨g, off, none⟩ ∧ g < w.heap.size ∧ w.cell? ⟨g, off + k * 2, none⟩ = some (.int .i64 (q.1 : Int)) ∧ w.cell? ⟨g, off + k * 2 + 1, none⟩ = some (.string ⟨q.2.1.toArray⟩) := by
  have hn := h.1
  rw [List.length_map] at hn
  have hkl := (List.getElem?_eq_some_iff.1 hk).1
  obtain ⟨g, off, hA, hg, hc⟩ := h.2.2.2 (by omega)
  have hk2 : (L.map lnQ)[k]? = some (lnQ q) := by rw [List.getElem?_map, hk]; rfl
  exact ⟨g, off, hA, hg, hc k _ 0 _ hk2 rfl, hc k _ 1 _ hk2 rfl⟩

set_option maxHeartbeats 6400000 in
set_option maxRecDepth 100000 in
theorem ownLaw_any (A : Option Addr) (n c : Nat) (w : World) (hrow : RowAt w A n) (hbig : n ≤ 1000000000000000) (hM : MaxAt w) (hT : Tabs w) (hTab : Lib.TabIs Tryz.prog w "strings.asciiSpace" .u8 Lib.asciiSpaceTab) :
    Calls Tryz.prog 3 #[.slice A n c] w (LawPost w) := by
  have hst := stream_new w A n c hrow hbig
  have hB : Below w.heap.size w (w.alloc (.cells #[.slice A n c, .int .i64 0] 25)) := (Below.refl _ _).alloc (Nat.le_refl _) _
  have hrr : ∀ k, some w.heap.size = some k → w.heap.size ≤ k := fun k hk => by injection hk with hk; omega
  have HMX := Lib.hid hM
  have HTX := Lib.hid hT
  have HTB := Lib.hid hTab
  clear hrow hM hT hTab
  go_enter Tryz.func3, Tryz.ntmps3
  go_upto_region 2 with (fail)
  have HL := Lib.hid (letterM_any w.heap.size A n c 0 _ hst (by omega) (fun w' hg => tabIs_keep2 (g := 0) (by kernel_rfl) HTB.out (hB.grown hg hB.size hrr)))
  have HB := Lib.hid hB
  clear hst hB
  generalize w.alloc (.cells #[.slice A n c, .int .i64 0] 25) = w1 at *
  go_wp2_with fail
  refine HL.out.mono ?_
  rintro e w2 ⟨id, nm, ml, sb, body, at_, A1, A2, A3, n1, c1, n2, c2, n3, c3, rfl, htx, hg2⟩
  have HTXT := Lib.hid htx
  have HB2 := Lib.hid (HB.out.grown hg2 HB.out.size hrr)
  clear HL htx hg2 HB
  go_upto_region 3 with (fail)
  have HMA : Hid (MailAt (w2.alloc (.cells #[.string id, .int .i64 at_, .string nm, .string ml, .slice A1 n1 c1, .slice A2 n2 c2, .slice A3 n3 c3, .string sb, .string body] 31)) w2.heap.size id at_ nm ml (.slice A1 n1 c1) (.slice A2 n2 c2) (.slice A3 n3 c3) sb body) := heap_alloc_new w2 _
  have HB3 := Lib.hid (HB2.out.alloc HB2.out.size (.cells #[.string id, .int .i64 at_, .string nm, .string ml, .slice A1 n1 c1, .slice A2 n2 c2, .slice A3 n3 c3, .string sb, .string body] 31))
  generalize w2.alloc (.cells #[.string id, .int .i64 at_, .string nm, .string ml, .slice A1 n1 c1, .slice A2 n2 c2, .slice A3 n3 c3, .string sb, .string body] 31) = w3 at *
  generalize w2.heap.size = M at *
  clear HB2
  have hbs : body.size ≤ 700 := by have := HTXT.out.len; rwa [← size_list] at this
  have HBO : Hid (∀ wx, Below w.heap.size w wx → BodyOk body wx) := fun wx hb => ⟨by omega, HMX.out.below hb, HTX.out.below hb, HTXT.out.text⟩
  have HC8 : Hid (∀ wx, Below w3.heap.size w3 wx → wx.cell? ⟨M, 8, none⟩ = some (.string body)) := fun wx hb => (hb.cell (p := ⟨M, 8, none⟩) HMA.out.lt).trans HMA.out.c.2.2.2.2.2.2.2.2
  have HCO := Lib.hid (costT_own body.data.toList)
  have HOL := Lib.hid (own_lines body.data.toList)
  have HAB := Lib.hid (apartL_bound body.data.toList (by rw [← size_list]; omega))
  have c3 := HC8.out w3 (Below.refl _ _)
  have HW := Lib.hid (own_any body w3 (HBO.out w3 HB3.out))
  go_wp2_with fail
  refine HW.out.mono ?_
  rintro e w4 ⟨m, hm, rfl, hb4⟩
  have HB4 := Lib.hid hb4
  have HB4' := Lib.hid (HB3.out.trans (hb4.mono HB3.out.size))
  clear HW c3 hb4
  obtain ⟨own, hown⟩ : ∃ own : ByteArray, bag (endL ((bareQ (apartL body.data.toList)).take m)) = own := ⟨_, rfl⟩
  have HOS : Hid (own.size ≤ body.size) := by
    show _ ≤ _
    rw [← hown, bag_size]
    have h1 := endL_len ((bareQ (apartL body.data.toList)).take m)
    have h2 := costT_take (bareQ (apartL body.data.toList)) m
    have h3 := HCO.out
    rw [← size_list] at h3
    omega
  have HOLN : Hid (((splitC 10 own.data.toList).dropLast).length ≤ (bareQ (apartL body.data.toList)).length) := by
    show _ ≤ _
    rw [← hown, bag_data]
    exact HOL.out m
  rw [hown]
  clear hown HCO HOL hm
  have c4 := HC8.out w4 HB4.out
  have HPA := Lib.hid (paragraphs_fn body w4 (HBO.out w4 HB4'.out))
  go_wp2_with fail
  refine HPA.out.mono ?_
  rintro e w5 ⟨Ap, np, cp, ss, rfl, hps, hnd, hne, hnp, hb5⟩
  have HPS := Lib.hid hps
  have HND := Lib.hid (And.intro hnd hne)
  have HB5 := Lib.hid (HB4.out.trans (hb5.mono HB4.out.size))
  have HB5' := Lib.hid (HB4'.out.trans (hb5.mono HB4'.out.size))
  clear HPA c4 hps hnd hne hb5 HB4 HB4'
  have c5 := HC8.out w5 HB5.out
  have HLI : Hid (Calls Tryz.prog 8 #[.string body] w5 fun e w' => ∃ A n c, e = .returned (.tuple #[.slice A n c, .int .i64 0]) ∧ ElemsAt LnE w' A n c ((apartL body.data.toList).map lnQ) ∧ Below w5.heap.size w5 w') := linesQ_any body w5 (HBO.out w5 HB5'.out)
  have HDE : Hid (∀ wx, BodyOk body wx → Calls Tryz.prog 9 #[.string body] wx fun e w' => e = .returned (.tuple #[.int .i64 ((maxQ (apartL body.data.toList) : Nat) : Int), .int .i64 0]) ∧ Below wx.heap.size wx w') := fun wx h => depth_any body wx h
  generalize apartL body.data.toList = L at *
  go_wp2_with fail
  refine HLI.out.mono ?_
  rintro e w6 ⟨Al, nl, cl, rfl, hls, hb6⟩
  have HLS := Lib.hid hls
  have HPS6 := Lib.hid (HPS.out.keep hb6)
  have HB6 := Lib.hid (HB5.out.trans (hb6.mono HB5.out.size))
  have HB6' := Lib.hid (HB5'.out.trans (hb6.mono HB5'.out.size))
  clear HLI c5 hls hb6 HB5 HB5' HPS
  have c6 := HC8.out w6 HB6.out
  go_wp2_with fail
  refine (HDE.out w6 (HBO.out w6 HB6'.out)).mono ?_
  rintro e w7 ⟨rfl, hb7⟩
  have HLS7 := Lib.hid (HLS.out.keep hb7)
  have HPS7 := Lib.hid (HPS6.out.keep hb7)
  have HB7 := Lib.hid (HB6.out.trans (hb7.mono HB6.out.size))
  have HB7' := Lib.hid (HB6'.out.trans (hb7.mono HB6'.out.size))
  clear HDE c6 hb7 HB6 HB6' HLS HPS6
  have HNL : Hid (nl = L.length) := by show _ = _; have := HLS7.out.1; rwa [List.length_map] at this
  have hnl : nl ≤ 1000 := by have := HNL.out; have := HAB.out.1; omega
  have HNP : Hid (np = ss.length) := HPS7.out.1
  go_wp2_with fail
  go_loopg [13, 14, 64] nl (fun gk v13 v14 v64 wr => ∃ k : Nat, Hid (k + gk = nl) ∧ v64 = .int .i64 (k : Int) ∧ v13 = .int .i64 ((maxQ (L.take k) : Nat) : Int) ∧ v14 = .int .i64 (((bareQ (L.take k)).length : Nat) : Int) ∧ Hid (Below w7.heap.size w7 wr))
  case atStart => exact ⟨0, show 0 + nl = nl by omega, rfl, rfl, rfl, Below.refl _ _⟩
  case round =>
    obtain ⟨k, HK, rfl, rfl, rfl, HB⟩ := hrel
    have hkn : k ≤ nl := by have := HK.out; omega
    have hmb : maxQ (L.take k) ≤ 1000 := maxQ_bound _ _ (fun q hq => (HAB.out.2 q (List.mem_of_mem_take hq)).1)
    have hbb : (bareQ (L.take k)).length ≤ 1000 := by have h1 := bareQ_len (L.take k); rw [List.length_take] at h1; omega
    by_cases hlt : k < nl
    · obtain ⟨q, hq⟩ : ∃ q, L[k]? = some q := ⟨_, List.getElem?_eq_getElem (by rw [← HNL.out]; exact hlt)⟩
      have hqb := HAB.out.2 q (List.mem_of_getElem? hq)
      obtain ⟨gl, ol, rfl, hgl, a0, a1⟩ := HLS7.out.ln hq
      have d0 := (HB.out.cell (p := ⟨gl, ol + k * 2, none⟩) hgl).trans a0
      have d1 := (HB.out.cell (p := ⟨gl, ol + k * 2 + 1, none⟩) hgl).trans a1
      have HQM : Hid (maxQ (L.take (k + 1)) = max (maxQ (L.take k)) q.1) := by show _ = _; rw [take_next hq, maxQ_snoc]
      have HQB : Hid ((bareQ (L.take (k + 1))).length = (bareQ (L.take k)).length + (if q.1 = 0 then 1 else 0)) := bare_take L k q hq
      clear a0 a1 hq
      obtain ⟨qd, qt, qb⟩ := q
      simp only at hqb d0 d1 HQM HQB
      generalize maxQ (L.take k) = mq at *
      generalize (bareQ (L.take k)).length = nq0 at *
      have HBA : Hid (Below w7.heap.size w7 (wr.alloc (.cells #[.int .i64 (qd : Int), .string ⟨qt.toArray⟩] 44))) := HB.out.alloc HB.out.size _
      by_cases hq0 : qd = 0
      · subst hq0
        rw [if_pos rfl] at HQB
        go_wp2_with fail
        all_goals
          go_roundg (gk - 1)
          case measure => have := HK.out; omega
          case rel => exact ⟨k + 1, show k + 1 + (gk - 1) = nl by have := HK.out; omega, by go_num, by rw [HQM.out]; first | rfl | (congr 1; omega) | (push_cast; rfl) | (simp; omega), by rw [HQB.out]; go_num, HBA⟩
      · have hz : ((qd : Int) == 0) = false := by simpa using hq0
        rw [if_neg hq0] at HQB
        go_wp2_with fail
        all_goals
          go_roundg (gk - 1)
          case measure => have := HK.out; omega
          case rel => exact ⟨k + 1, show k + 1 + (gk - 1) = nl by have := HK.out; omega, by go_num, by rw [HQM.out]; first | rfl | (congr 1; omega) | (push_cast; rfl) | (simp; omega), by rw [HQB.out]; rfl, HBA⟩
    · have hall : L.take k = L := List.take_of_length_le (by have := HNL.out; omega)
      rw [hall] at hmb hbb ⊢
      have HPS8 := Lib.hid (HPS7.out.keep HB.out)
      have HB8 := Lib.hid (HB7.out.trans (HB.out.mono HB7.out.size))
      have HB8' := Lib.hid (HB7'.out.trans (HB.out.mono HB7'.out.size))
      obtain ⟨w8, rfl⟩ : ∃ w8 : World, w8 = wr := ⟨_, rfl⟩
      obtain ⟨k8, rfl⟩ : ∃ k8 : Nat, k8 = gk := ⟨_, rfl⟩
      clear HLS7 HPS7 HB7 HB7' hall HB
      generalize maxQ L = mq at *
      generalize hbl : (bareQ L).length = bl at *
      clear hbl
      go_wp2_with fail
      go_loopg [80] np (fun gk v80 wr => ∃ k : Nat, Hid (k + gk = np) ∧ v80 = .int .i64 (k : Int) ∧ Hid (Below w8.heap.size w8 wr))
      case atStart => exact ⟨0, show 0 + np = np by omega, rfl, Below.refl _ _⟩
      case round =>
        obtain ⟨k, HK, rfl, HB⟩ := hrel
        have hkn : k ≤ np := by have := HK.out; omega
        by_cases hlt : k < np
        · obtain ⟨p, hp⟩ : ∃ p, ss[k]? = some p := ⟨_, List.getElem?_eq_getElem (by rw [← HNP.out]; exact hlt)⟩
          obtain ⟨gp, op, rfl, hgp, hcp⟩ := HPS8.out.str (by omega)
          have d0 := (HB.out.cell (p := ⟨gp, op + k, none⟩) hgp).trans (hcp k hlt)
          have hpd : ss.getD k [] = p := by rw [List.getD_eq_getElem?_getD, hp]; rfl
          rw [hpd] at d0
          have hpe : p ≠ [] := fun e => by subst e; exact HND.out.2 (List.mem_of_getElem? hp)
          have hn1 : (⟨p.toArray⟩ : ByteArray).toList = p := by rw [Lib.toList_data]
          have he1 : (⟨p.toArray⟩ : ByteArray).toList.isEmpty = false := by rw [hn1]; cases p with
            | nil => exact absurd rfl hpe
            | cons => rfl
          have he2 : ¬ (⟨p.toArray⟩ : ByteArray).toList = [] := by rw [hn1]; exact hpe
          have hct := nodup_take HND.out.1 hp
          obtain ⟨B, hsl0, hpc⟩ := (HPS8.out.keep HB.out).piece 0 k (Nat.zero_le _) hkn
          rw [List.drop_zero, Nat.sub_zero, Nat.sub_zero] at hpc
          have hsl := sl_toS (some ⟨gp, op, none⟩) np cp k (by have := HPS8.out.2.1; omega) _ hsl0
          have HCT : Hid (Calls Tryz.prog 10 #[.slice B k cp, .string ⟨p.toArray⟩] wr fun e w' => e = .returned (.bool false) ∧ w' = wr) := (containsS_any B k cp (ss.take k) p wr hpc (by omega)).mono fun e w' h => ⟨by rw [h.1, hct], h.2⟩
          have hpi : p.isEmpty = false := by cases p with
            | nil => exact absurd rfl hpe
            | cons => rfl
          have hpq : (p == []) = false := by simpa using hpe
          have hpe' : ¬ p = [] := hpe
          clear hpc hsl0 hct hcp hpd hp hpe
          go_wp2_with fail
          refine HCT.out.mono ?_
          rintro e wx ⟨rfl, rfl⟩
          go_wp2_with fail
          go_roundg (gk - 1)
          case measure => have := HK.out; omega
          case rel => exact ⟨k + 1, show k + 1 + (gk - 1) = np by have := HK.out; omega, by go_num, HB⟩
        · have HB9 := Lib.hid (HB8.out.trans (HB.out.mono HB8.out.size))
          have HB9' := Lib.hid (HB8'.out.trans (HB.out.mono HB8'.out.size))
          go_wp2_with fail
          refine (threads_any wr (HMX.out.below HB9'.out) (HTX.out.below HB9'.out)).mono ?_
          rintro e wa ⟨rfl, hba⟩
          have HBa := Lib.hid (HB9.out.trans (hba.mono HB9.out.size))
          have HBa' := Lib.hid (HB9'.out.trans (hba.mono HB9'.out.size))
          have ca := HC8.out wa HBa.out
          have hoz : (own.size : Int) ≤ (body.size : Int) := by have := HOS.out; omega
          clear hba
          have HLF := Lib.hid (linesOf_fn own wa (by have := HOS.out; omega) (HMX.out.below HBa'.out))
          go_wp2_with fail
          refine HLF.out.mono ?_
          rintro e wb ⟨A9, n9, c9, rfl, hat9, hb9⟩
          have h9 : n9 ≤ bl := by have h1 := hat9.1; have h2 := HOLN.out; omega
          have h9' : (n9 : Int) ≤ (bl : Int) := by omega
          have HB10 := Lib.hid (HBa'.out.trans (hb9.mono HBa'.out.size))
          clear hat9 hb9
          go_wp2_with fail
          go_ret
          exact ⟨rfl, HB10.out⟩
end Go.Proofs.YtmaimojpjepmjaaGreatDoor
