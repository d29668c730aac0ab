
/-
  What Key returns of every string; CheckBodies returns what is wrong with documents.
-/
import Derived.Test.YtabdjkcediolcaaGreatDoorCat
namespace Go.Proofs.YtabdjkcediolcaaGreatDoor
open Go.RowKit Go.Maps

set_option maxHeartbeats 1600000 in
set_option maxRecDepth 100000 in
theorem keyAll_any (s : ByteArray) (w : World) (hs : s.size ≤ 1000000) :
    Calls Tryz.prog 53 #[.string s] w fun e w' => e = .returned (.bool (keyL s.data.toList)) ∧ w' = w := by
  have hlen : s.data.toList.length = s.size := by simp
  have HK : Hid (keyL s.data.toList = (decide (1 ≤ s.size) && decide (s.size ≤ 40) && s.data.toList.all keyC && (s.data.toList.take 1).all smallU)) := by show _ = _; unfold keyL; rw [hlen]
  cases hk : keyL s.data.toList with
  | true => exact (key_any s w hk).mono fun _ _ h => ⟨h.1, h.2.symm⟩
  | false =>
    by_cases hin : 1 ≤ s.size ∧ s.size ≤ 40
    · have h1 := hin.1
      have h2 := hin.2
      have hinb : inB (s.size : Int) 1 40 = true := by simp [inB]; omega
      have h0 : 0 < s.size := by omega
      cases hsm : smallU s[0] with
      | false =>
        clear HK hk hlen
        go_enter Tryz.func53, Tryz.ntmps53
        go_wp2_with fail
        refine (in_any _ 1 40 w).mono ?_
        rintro e w' ⟨rfl, rfl⟩
        rw [hinb]
        go_wp2_with fail
        refine (small_any _ w).mono ?_
        rintro e w' ⟨rfl, rfl⟩
        rw [hsm]
        go_wp2_with fail
        go_ret
        exact ⟨rfl, rfl⟩
      | true =>
        have hall : s.data.toList.all keyC = false := by
          have ht : (s.data.toList.take 1).all smallU = true := by
            rw [List.all_eq_true]
            intro x hx
            obtain ⟨i, hi, rfl⟩ := List.mem_take_iff_getElem.1 hx
            have : i = 0 := by omega
            subst this
            have h : smallU (s.data[0]'h0) = true := hsm
            simpa using h
          rw [hk, ht] at HK
          have := HK.out
          simpa [h1, h2] using this
        have HALL : Hid (∃ j, ∃ hj : j < s.size, keyC s[j] = false) := by
          rw [List.all_eq_false] at hall
          obtain ⟨x, hx, hc⟩ := hall
          obtain ⟨j, hj, rfl⟩ := List.getElem_of_mem hx
          refine ⟨j, by omega, ?_⟩
          have h : keyC (s.data[j]'(by omega)) = false := by simpa using hc
          exact h
        clear HK hk hlen hall hin
        go_enter Tryz.func53, Tryz.ntmps53
        go_wp2_with fail
        refine (in_any _ 1 40 w).mono ?_
        rintro e w' ⟨rfl, rfl⟩
        rw [hinb]
        go_wp2_with fail
        refine (small_any _ w).mono ?_
        rintro e w' ⟨rfl, rfl⟩
        rw [hsm]
        clear hinb hsm
        go_wp2_with fail
        go_loopg [17] s.size (fun gk i wr => ∃ k : Nat, Hid (k + gk = s.size) ∧ i = .int .i64 k ∧ Hid (∀ j, (hj : j < s.size) → j < k → keyC s[j] = true) ∧ w = wr)
        case atStart => exact ⟨0, show 0 + s.size = s.size by omega, rfl, show ∀ j, _ from (fun j hj h => by omega), rfl⟩
        case round =>
          obtain ⟨k, HK, rfl, HF, rfl⟩ := hrel
          have hkn : k ≤ s.size := by have := HK.out; omega
          by_cases hlt : k < s.size
          · have hd := digU_b s[k]
            have HC := Lib.hid (keyC_b s[k])
            have HNX : Hid (keyC s[k] = true → ∀ j, (hj : j < s.size) → j < k + 1 → keyC s[j] = true) := fun hc j hj h => by
              rcases Nat.lt_or_ge j k with h' | h'
              · exact HF.out j hj h'
              · obtain rfl : j = k := by omega
                exact hc
            go_wp2_with fail
            refine (small_any _ w).mono ?_
            rintro e w' ⟨rfl, rfl⟩
            cases h5 : smallU s[k] with
            | true =>
              have HN2 := Lib.hid (HNX.out (by rw [HC.out, h5]; rfl))
              go_wp2_with fail
              go_roundg (gk - 1)
              case measure => have := HK.out; omega
              case rel => exact ⟨k + 1, show k + 1 + (gk - 1) = s.size by have := HK.out; omega, by go_num, HN2.out, rfl⟩
            | false =>
              go_wp2_with fail
              refine (digit_any _ w).mono ?_
              rintro e w' ⟨rfl, rfl⟩
              rw [hd]
              cases h6 : digU s[k] with
              | true =>
                have HN2 := Lib.hid (HNX.out (by rw [HC.out, h5, h6]; rfl))
                go_wp2_with fail
                go_roundg (gk - 1)
                case measure => have := HK.out; omega
                case rel => exact ⟨k + 1, show k + 1 + (gk - 1) = s.size by have := HK.out; omega, by go_num, HN2.out, rfl⟩
              | false =>
                by_cases h7 : (s[k].toNat : Int) = 45
                · have HN2 := Lib.hid (HNX.out (by rw [HC.out, h5, h6, h7]; rfl))
                  have h8 : ((s[k].toNat : Int) != 45) = false := by simp [h7]
                  clear h5 h6 HC hd
                  go_wp2_with fail
                  go_roundg (gk - 1)
                  case measure => have := HK.out; omega
                  case rel => exact ⟨k + 1, show k + 1 + (gk - 1) = s.size by have := HK.out; omega, by go_num, HN2.out, rfl⟩
                · have h9 : ((s[k].toNat : Int) != 45) = true := by simpa using h7
                  by_cases h10 : (s[k].toNat : Int) = 95
                  · have HN2 := Lib.hid (HNX.out (by rw [HC.out, h5, h6, h10]; rfl))
                    have h8 : ((s[k].toNat : Int) != 95) = false := by simp [h10]
                    clear h5 h6 HC hd
                    go_wp2_with fail
                    go_roundg (gk - 1)
                    case measure => have := HK.out; omega
                    case rel => exact ⟨k + 1, show k + 1 + (gk - 1) = s.size by have := HK.out; omega, by go_num, HN2.out, rfl⟩
                  · have h8 : ((s[k].toNat : Int) != 95) = true := by simpa using h10
                    clear h5 h6 HC hd
                    go_wp2_with fail
                    go_ret
                    exact ⟨rfl, rfl⟩
          · exfalso
            obtain ⟨j, hj, hc⟩ := HALL.out
            rw [HF.out j hj (by omega)] at hc
            cases hc
    · have hinb : inB (s.size : Int) 1 40 = false := by simp [inB]; omega
      clear HK hk hlen
      go_enter Tryz.func53, Tryz.ntmps53
      go_wp2_with fail
      refine (in_any _ 1 40 w).mono ?_
      rintro e w' ⟨rfl, rfl⟩
      rw [hinb]
      go_wp2_with fail
      go_ret
      exact ⟨rfl, rfl⟩

set_option maxHeartbeats 400000 in
theorem nlargeAll_any (s : ByteArray) (w : World) : Calls Tryz.prog 36 #[.string s] w fun e w' => e = .returned (.int .i64 (whenE (decide (20000 < s.size)) 2)) ∧ w' = w := by
  by_cases h : 20000 < s.size
  · have hi : (20000 : Int) < (s.size : Int) := by omega
    go_enter Tryz.func36, Tryz.ntmps36
    go_wp2_with fail
    refine (when_any _ _ _).mono ?_
    rintro e w' ⟨rfl, rfl⟩
    go_wp2_with fail
    go_ret
    exact ⟨ret_int (by rw [decide_eq_true h]), rfl⟩
  · have hi : ¬ (20000 : Int) < (s.size : Int) := by omega
    go_enter Tryz.func36, Tryz.ntmps36
    go_wp2_with fail
    refine (when_any _ _ _).mono ?_
    rintro e w' ⟨rfl, rfl⟩
    go_wp2_with fail
    go_ret
    exact ⟨ret_int (by rw [decide_eq_false h]), rfl⟩
theorem when_still (b : Bool) (c : Int) (w : World) : Calls Tryz.prog 28 #[.bool b, .int .i64 c] w fun e w' => e = .returned (.int .i64 (whenE b c)) ∧ w' = w := (when_any b c w).mono fun _ _ h => ⟨h.1, h.2.symm⟩
theorem first_3 (a b c : Int) (g : Nat) (w : World) (h : g = w.heap.size) (t : TypeId) : Calls Tryz.prog 26 #[.slice (some ⟨g, 0, none⟩) 3 3] (w.alloc (.cells #[.int .i64 a, .int .i64 b, .int .i64 c] t)) fun e w' => e = .returned (.int .i64 (firstE [a, b, c])) ∧ (w.alloc (.cells #[.int .i64 a, .int .i64 b, .int .i64 c] t)) = w' := by
  subst h
  refine first_any _ 3 3 [a, b, c] _ rfl (by omega) (fun j hj => ?_)
  rw [World.cell?_alloc_at _ _ _ _ rfl]
  match j, hj with
  | 0, _ => rfl
  | 1, _ => rfl
  | 2, _ => rfl

/-- The ids that were seen. -/
def seenD (l : List Body2) : DataW Unit := l.foldl (fun D x => D.put (.string x.1.data.toList) (.lit (.bool true))) (.map [])
theorem seenD_snoc (l : List Body2) (x : Body2) : seenD (l ++ [x]) = (seenD l).put (.string x.1.data.toList) (.lit (.bool true)) := by simp [seenD]
theorem str_key (x : List UInt8) : WideAt.IsKeyLit (.string x) := by first | trivial | exact Or.inl trivial | simp [WideAt.IsKeyLit]
theorem seenD_at (k : ByteArray) (l : List Body2) : IsMap (seenD l) ∧ (seenD l).atKey (.string k.data.toList) (.lit (.bool false)) = .lit (.bool (l.any fun x => decide (x.1 = k))) := by
  have h : ∀ (l : List Body2) (D : DataW Unit) (b : Bool), IsMap D → D.atKey (.string k.data.toList) (.lit (.bool false)) = .lit (.bool b) → IsMap (l.foldl (fun D x => D.put (.string x.1.data.toList) (.lit (.bool true))) D) ∧ (l.foldl (fun D x => D.put (.string x.1.data.toList) (.lit (.bool true))) D).atKey (.string k.data.toList) (.lit (.bool false)) = .lit (.bool (b || l.any fun x => decide (x.1 = k))) := by
    intro l
    induction l with
    | nil => intro D b h1 h2; exact ⟨h1, by simpa using h2⟩
    | cons x l ih =>
      intro D b h1 h2
      rw [List.foldl_cons, List.any_cons]
      by_cases hx : x.1 = k
      · have := ih (D.put (.string x.1.data.toList) (.lit (.bool true))) true (h1.put _ _) (by rw [hx]; exact atKey_put_same h1 (str_key _) _ _)
        refine ⟨this.1, this.2.trans ?_⟩
        simp [hx]
      · have hne : (Lit.string k.data.toList) ≠ .string x.1.data.toList := fun e => hx (ByteArray.ext (Array.toList_inj.1 (by simpa using e.symm)))
        have := ih (D.put (.string x.1.data.toList) (.lit (.bool true))) b (h1.put _ _) (by rw [atKey_put_other hne]; exact h2)
        refine ⟨this.1, this.2.trans ?_⟩
        simp [hx]
  have h2 := h l (.map []) false isMap_empty rfl
  rw [Bool.false_or] at h2
  exact h2
theorem elem_bool_inv {P : Program} {e : TypeId} (he : P.underlying e = some .bool) {v : Value} {z : DataW Unit × List MemPlace} (h : plainElem P e v = some z) : ∃ b, v = .bool b ∧ z = (.lit (.bool b), []) := by
  unfold plainElem at h
  rw [he] at h
  cases v <;> simp at h
  exact ⟨_, rfl, h.symm⟩
theorem lookB {w : World} {M m : Nat} {D : DataW Unit} (h : w.ownsMap Tryz.prog 9 (plainElem Tryz.prog 4) M m D) (id : ByteArray) (hid : id.size ≤ 1000000) (b : Bool) (hb : D.atKey (.string id.data.toList) (.lit (.bool false)) = .lit (.bool b)) :
    (Instr.lookup 67 (.map (some M)) (.string id) false).run Tryz.prog w = .ok (.bool b) w := by
  obtain ⟨v, ps, hrun, hv⟩ := h.lookup keyS Tryz.underlying67 (z := .bool false) (by kernel_rfl) (zd := .lit (.bool false)) (zp := []) (by kernel_rfl) (keyS_mk id hid)
  rw [hb] at hv
  obtain ⟨b', rfl, hz⟩ := elem_bool_inv Tryz.underlying4 hv
  simp only [Prod.mk.injEq, DataW.lit.injEq, Lit.bool.injEq] at hz
  rw [hz.1]
  exact hrun

theorem faultL_step {l : List Body2} {k : Nat} {x : Body2} (hx : l[k]? = some x) (h300 : ¬ 300 < l.length) (hR : faultR (l.take k) (l.drop k) = faultR [] l) :
    (firstE [whenE (!keyL x.1.data.toList) 5, whenE ((l.take k).any fun y => decide (y.1 = x.1)) 6, whenE (decide (20000 < x.2.size)) 2] ≠ 0 → faultL l = firstE [whenE (!keyL x.1.data.toList) 5, whenE ((l.take k).any fun y => decide (y.1 = x.1)) 6, whenE (decide (20000 < x.2.size)) 2]) ∧ (firstE [whenE (!keyL x.1.data.toList) 5, whenE ((l.take k).any fun y => decide (y.1 = x.1)) 6, whenE (decide (20000 < x.2.size)) 2] = 0 → faultR (l.take (k + 1)) (l.drop (k + 1)) = faultR [] l) := by
  have h := faultR_at l k x hx
  rw [hR] at h
  unfold faultL
  rw [if_neg h300]
  cases h1 : keyL x.1.data.toList <;> cases h2 : ((l.take k).any fun y => decide (y.1 = x.1)) <;> by_cases h3 : 20000 < x.2.size <;> simp [h1, h2, h3, firstE, whenE] at h ⊢ <;> first | (simp [h]; done) | exact h.symm | skip

set_option maxHeartbeats 3200000 in
set_option maxRecDepth 100000 in
theorem checkBodies_any (A : Option Addr) (n c : Nat) (l : List Body2) (w : World) (h : ElemsAt BodyE w A n c l) (hn : n ≤ 1000) (hs : ∀ x ∈ l, TextOk x) :
    Calls Tryz.prog 27 #[.slice A n c] w (FaultPost w l) := by
  have HN := Lib.hid h.1
  have HS := Lib.hid hs; clear hs
  have HH := Lib.hid h
  have hmm := @run_makeMap Tryz.prog
  by_cases hbig : 300 < n
  · have HF : Hid (faultL l = 2) := by show _ = _; unfold faultL; rw [if_pos (by rw [← HN.out]; exact hbig)]
    have hbi : (300 : Int) < (n : Int) := by omega
    clear h
    go_enter Tryz.func27, Tryz.ntmps27
    go_wp2_with fail
    go_ret
    exact ⟨ret_int (by rw [HF.out]), Below.refl _ _⟩
  · have h300 : Hid (¬ 300 < l.length) := by show ¬ _; rw [← HN.out]; exact hbig
    have HF : Hid (faultL l = if faultR [] l ≠ 0 then faultR [] l else if 500000 < totB l then 2 else 0) := by show _ = _; unfold faultL; rw [if_neg h300.out]
    have hbi : ¬ (300 : Int) < (n : Int) := by omega
    clear h
    go_enter Tryz.func27, Tryz.ntmps27
    go_wp2_with fail
    go_loopg [4, 14] n (fun gk v4 i wr => ∃ k : Nat, Hid (k + gk = n) ∧ i = .int .i64 k ∧ v4 = .int .i64 (totB (l.take k) : Nat) ∧ Hid (wr.ownsMap Tryz.prog 9 (plainElem Tryz.prog 4) w.heap.size k (seenD (l.take k))) ∧ Hid (faultR (l.take k) (l.drop k) = faultR [] l) ∧ Below w.heap.size w wr)
    case atStart => exact ⟨0, show 0 + n = n by omega, rfl, rfl, World.ownsMap_made w _ _ _, show _ = _ from rfl, (Below.refl _ _).alloc (Nat.le_refl _) _⟩
    case round =>
      obtain ⟨k, HK, rfl, rfl, HM, HR, hb⟩ := hrel
      clear hmm
      have hkn : k ≤ n := by have := HK.out; omega
      have hzb := hb.size
      have htot : totB (l.take k) ≤ 20001 * 1000 := by
        have h1 := totB_le (l.take k) 20001 (fun x hx => (HS.out x (List.mem_of_mem_take hx)).1)
        rw [List.length_take] at h1
        omega
      by_cases hlt : k < n
      · obtain ⟨x, hx⟩ : ∃ x, l[k]? = some x := ⟨_, List.getElem?_eq_getElem (by have := HN.out; omega)⟩
        have HST := Lib.hid (faultL_step hx h300.out HR.out)
        obtain ⟨gA, oA, hA, hgA, hcA⟩ := HH.out.2.2.2 (by omega)
        subst hA
        have c0 := (hb.cell (p := ⟨gA, oA + k * BodyE.size + 0, none⟩) hgA).trans (hcA k x 0 _ hx rfl)
        have c1 := (hb.cell (p := ⟨gA, oA + k * BodyE.size + 1, none⟩) hgA).trans (hcA k x 1 _ hx rfl)
        have hsz : BodyE.size = 2 := rfl
        rw [hsz] at c0 c1
        rw [Nat.add_zero] at c0
        have hxs := HS.out x (List.mem_of_getElem? hx)
        have HTOT : Hid (totB (l.take (k + 1)) = totB (l.take k) + x.2.size) := by
          show _ = _
          obtain ⟨h1, h2⟩ := List.getElem?_eq_some_iff.1 hx
          rw [List.take_succ_eq_append_getElem h1, totB_append, h2]
          simp [totB]
        have HSEEN : Hid (seenD (l.take (k + 1)) = (seenD (l.take k)).put (.string x.1.data.toList) (.lit (.bool true))) := by
          show _ = _
          obtain ⟨h1, h2⟩ := List.getElem?_eq_some_iff.1 hx
          rw [List.take_succ_eq_append_getElem h1, seenD_snoc, h2]
        have HAT := Lib.hid (seenD_at x.1 (l.take k)).2
        generalize totB (l.take k) = tk at *
        generalize ((l.take k).any fun y => decide (y.1 = x.1)) = anyb at *
        clear hcA hsz hx
        obtain ⟨x1, x2⟩ := x
        have hx10 : x1.size ≤ 1000000 := by have := hxs.2; simp only at this; omega
        have hx20 : x2.size ≤ 20001 := hxs.1
        clear hxs
        simp only at *
        have hal : Below w.heap.size w (wr.alloc (.cells #[.string x1, .string x2] 30)) := hb.alloc hb.size _
        have HMA := Lib.hid (HM.out.alloc (.cells #[.string x1, .string x2] 30))
        have HRW := Lib.hid (heap_alloc_new wr (.cells #[.string x1, .string x2] 30))
        have hPl : w.heap.size < wr.heap.size := HM.out.lt
        go_wp2_with fail
        generalize wr.alloc (.cells #[.string x1, .string x2] 30) = X at *
        generalize wr.heap.size = P at *
        clear HM c0 c1 hb
        obtain ⟨b0, b1, bf0, bf1⟩ := two_cell HRW.out
        have hlk := lookB (w := X.drew) HMA.out x1 hx10 anyb HAT.out
        refine wp_region_still_tail 13 (by kernel_rfl) (by kernel_rfl) ?_
        simp only [List.take_succ_cons, List.take_zero, List.drop_succ_cons, List.drop_zero]
        repeat still_step
        still_call (keyAll_any x1 _ hx10)
        repeat still_step
        still_call (when_still _ _ _)
        repeat still_step
        still_call (when_still _ _ _)
        repeat still_step
        still_call (nlargeAll_any x2 _)
        repeat still_step
        refine wpStill_nil ?_
        change wpList _ _ _ _ _ X.drew
        have HMY : Hid (X.drew.ownsMap Tryz.prog 9 (plainElem Tryz.prog 4) w.heap.size k (seenD (l.take k))) := HMA.out
        have HRY : Hid (X.drew.heap[P]? = some (.cells #[.string x1, .string x2] 30 (0, 0))) := HRW.out
        have hbY : Below w.heap.size w X.drew := hal.drew
        clear HMA HRW hal hlk b0 b1 bf0 bf1
        generalize X.drew = Y at *
        generalize hE : firstE [whenE (!keyL x1.data.toList) 5, whenE anyb 6, whenE (decide (20000 < x2.size)) 2] = E7 at *
        have hF3 : ∀ (g : Nat) (w : World) (h : g = w.heap.size) (t : TypeId), Calls Tryz.prog 26 #[.slice (some ⟨g, 0, none⟩) 3 3] (w.alloc (.cells #[.int .i64 (whenE (!keyL x1.data.toList) 5), .int .i64 (whenE anyb 6), .int .i64 (whenE (decide (20000 < x2.size)) 2)] t)) fun e w' => e = .returned (.int .i64 E7) ∧ (w.alloc (.cells #[.int .i64 (whenE (!keyL x1.data.toList) 5), .int .i64 (whenE anyb 6), .int .i64 (whenE (decide (20000 < x2.size)) 2)] t)) = w' := fun g w h t => by rw [← hE]; exact first_3 _ _ _ g w h t
        have HF3 := Lib.hid hF3
        clear hF3 hE HAT
        generalize whenE (!keyL x1.data.toList) 5 = e1 at *
        generalize whenE anyb 6 = e2 at *
        generalize whenE (decide (20000 < x2.size)) 2 = e3 at *
        have hal : Below w.heap.size w (Y.alloc (.cells #[.int .i64 e1, .int .i64 e2, .int .i64 e3] 34)) := hbY.alloc hbY.size _
        have HMZ := Lib.hid (HMY.out.alloc (.cells #[.int .i64 e1, .int .i64 e2, .int .i64 e3] 34))
        have HRZ : Hid ((Y.alloc (.cells #[.int .i64 e1, .int .i64 e2, .int .i64 e3] 34)).heap[P]? = some (.cells #[.string x1, .string x2] 30 (0, 0))) := (Below.heap_alloc _ _ P (Array.getElem?_eq_some_iff.1 HRY.out).1).trans HRY.out
        clear HMY HRY
        by_cases hE0 : E7 = 0
        · have HNX := Lib.hid (HST.out.2 hE0)
          subst hE0
          obtain ⟨b0, b1, bf0, bf1⟩ := two_cell HRZ.out
          go_wp2_with (first
            | (go_at_call 26; refine (HF3.out _ _ rfl _).mono ?_; rintro e w' ⟨rfl, rfl⟩)
            | (at_mapUpdate; refine wpList_mapUpdate_own _ rfl _ _ _ 67 rfl 9 4 keyS Tryz.underlying67 _ w.heap.size k _ rfl HMZ.out (by simp only [maxLen]; omega) _ _ (.string x1.data.toList) rfl rfl (keyS_mk x1 hx10) (.lit (.bool true)) [] (plainElem_bool Tryz.underlying4 true) ?_; intro w5 hown5 hgrow5; have hR5 := (hgrow5.block P (Array.getElem?_eq_some_iff.1 HRZ.out).1 (fun e => by cases e; omega)).trans HRZ.out; clear b0 b1 bf0 bf1; obtain ⟨b0, b1, bf0, bf1⟩ := two_cell hR5))
          go_roundg (gk - 1)
          case measure => have := HK.out; omega
          case rel => 
            refine ⟨k + 1, show k + 1 + (gk - 1) = n by have := HK.out; omega, by go_num, ?_, ?_, HNX.out, hal.grown hgrow5 hal.size (fun i hi => by cases hi; exact Nat.le_refl _)⟩
            · rw [HTOT.out]; go_num
            · show World.ownsMap _ _ _ _ _ _ _
              rw [HSEEN.out]; exact hown5
        · have hEb : (E7 != 0) = true := by simpa using hE0
          have HFL := Lib.hid (HST.out.1 hE0)
          go_wp2_with (go_at_call 26; refine (HF3.out _ _ rfl _).mono ?_; rintro e w' ⟨rfl, rfl⟩)
          go_ret
          exact ⟨ret_int (by rw [HFL.out]), hal⟩
      · have hfin : faultR [] l = 0 := by rw [← HR.out, List.drop_of_length_le (by have := HN.out; omega)]; rfl
        have HF2 : Hid (faultL l = whenE (decide (500000 < (totB (l.take k) : Nat))) 2) := by show _ = _; rw [HF.out, hfin, List.take_of_length_le (by have := HN.out; omega)]; by_cases h5 : 500000 < totB l <;> simp [h5, whenE]
        clear hfin
        generalize totB (l.take k) = tk at *
        by_cases htk : 500000 < tk
        · have hti : (500000 : Int) < (tk : Int) := by omega
          go_wp2_with fail
          refine (when_any _ _ _).mono ?_
          rintro e w' ⟨rfl, rfl⟩
          go_wp2_with fail
          go_ret
          exact ⟨ret_int (by rw [HF2.out, decide_eq_true htk]), hb⟩
        · have hti : ¬ (500000 : Int) < (tk : Int) := by omega
          go_wp2_with fail
          refine (when_any _ _ _).mono ?_
          rintro e w' ⟨rfl, rfl⟩
          go_wp2_with fail
          go_ret
          exact ⟨ret_int (by rw [HF2.out, decide_eq_false htk]), hb⟩
end Go.Proofs.YtabdjkcediolcaaGreatDoor
