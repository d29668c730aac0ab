
/-
  What DeleteFunc leaves.
-/
import Derived.Test.YtmliaiinfgddhaaGreatDoorCuts2
import Derived.Lib.SliceRun
import Derived.Laws.IdiomCopy
import Derived.BigFrame
namespace Go.Proofs.YtmliaiinfgddhaaGreatDoor
open Go.RowKit
attribute [local go_sem ↓] Go.wp_at_zero Go.wp_at_succ

theorem Owns.setStr {w : World} {base G n c : Nat} {l : List (List UInt8)} (h : OwnStrs w base (.slice (some ⟨G, 0, none⟩) n c) l) (k : Nat) (x : List UInt8) (hk : k < l.length) : OwnStrs (w.setCell ⟨G, k, none⟩ (.string ⟨x.toArray⟩)) base (.slice (some ⟨G, 0, none⟩) n c) (l.set k x) := by
  have e : k * StrE.size + 0 = k := by rw [Nat.add_zero]; exact Nat.mul_one k
  have r := Owns.set_ strE_ok h k l[k] x 0 (.string ⟨x.toArray⟩) (List.getElem?_eq_getElem hk) (by decide) rfl
  rw [e] at r
  exact r
theorem Owns.setAllS {base G n c : Nat} : ∀ (zs l : List (List UInt8)) (o : Nat) (w : World), OwnStrs w base (.slice (some ⟨G, 0, none⟩) n c) l → o + zs.length = l.length → OwnStrs (w.setCells G o (zs.map fun x => .string ⟨x.toArray⟩)) base (.slice (some ⟨G, 0, none⟩) n c) (l.take o ++ zs)
  | [], l, o, w, h, hl => by
    rw [List.append_nil, List.take_of_length_le (by simp at hl; omega)]
    exact h
  | z :: r, l, o, w, h, hl => by
    have ih := Owns.setAllS r (l.set o z) (o + 1) (w.setCell ⟨G, o, none⟩ (.string ⟨z.toArray⟩)) (h.setStr o z (by simp at hl; omega)) (by simp at hl ⊢; omega)
    have e : (l.set o z).take (o + 1) ++ r = l.take o ++ z :: r := by
      have ho : o < (l.set o z).length := by simp at hl ⊢; omega
      rw [List.take_succ_eq_append_getElem ho, List.append_assoc, List.take_set, List.set_eq_of_length_le (by simp; omega)]
      simp
    rw [e] at ih
    exact ih
theorem grown_setCellsS (G : Nat) : ∀ (vs : List Value) (o : Nat) (w : World), w.grownBy (w.setCells G o vs) (some G)
  | [], _, _ => World.grownBy.refl _ _
  | v :: r, o, w => grown_trans (grown_setCell w G o v) (grown_setCellsS G r (o + 1) _)
theorem sl_uptoS (G m d j : Nat) (hj : j ≤ d) (wx : World) : (Instr.slice 26 (.slice (some ⟨G, 0, none⟩) m d) none (some (.int .i64 (j : Int))) none).run Tryz.prog wx = .ok (.slice (some ⟨G, 0, none⟩) j d) wx := by
  rw [run_slice_h wx 26 (some ⟨G, 0, none⟩) m d und_strs .i64 (j : Int) (by omega) (by omega), elem_strs, Tryz.sizeOf9]
  simp only [Result.andThen, sliced, Int.toNat_natCast]
  split <;> simp [addr_add]
theorem Owns.frozenS {w : World} {base G n c : Nat} {l : List (List UInt8)} (h : OwnStrs w base (.slice (some ⟨G, 0, none⟩) n c) l) {k : Nat} (hk : k < l.length) : w.frozen? ⟨G, k, none⟩ = false := by
  obtain ⟨G4, c4, e4, _, _, hw4⟩ := Owns.where_ strE_ok h (by omega)
  simp only [Value.slice.injEq, Option.some.injEq, Addr.mk.injEq] at e4
  obtain ⟨⟨rfl, _⟩, _, _⟩ := e4
  have r := (hw4 k l[k] 0 (.string ⟨l[k].toArray⟩) (List.getElem?_eq_getElem hk) rfl).2
  rw [show k * StrE.size + 0 = k by rw [Nat.add_zero]; exact Nat.mul_one k] at r
  exact r
theorem take_filter {p : List UInt8 → Bool} {l : List (List UInt8)} {j : Nat} (hj : j < l.length) : (l.take (j + 1)).filter (fun x => !p x) = (l.take j).filter (fun x => !p x) ++ (if p (l.getD j []) = true then [] else [l.getD j []]) := by
  have e : l.getD j [] = l[j] := by simp [hj]
  rw [List.take_succ_eq_append_getElem hj, List.filter_append, e]
  congr 1
  by_cases h : p l[j] = true <;> simp [h]
def DelFPost (w : World) (base G : Nat) (p : List UInt8 → Bool) (l : List (List UInt8)) (e : Ending) (w' : World) : Prop := ∃ v, e = .returned v ∧ OwnStrs w' base v (l.filter fun x => !p x) ∧ w.grownBy w' (some G)
set_option maxHeartbeats 3200000 in
set_option maxRecDepth 100000 in
theorem deleteFunc_any (N P G base c : Nat) (p : List UInt8 → Bool) (l : List (List UInt8)) (w : World) (ho : OwnStrs w base (.slice (some ⟨G, 0, none⟩) l.length c) l) (hn : l.length ≤ 100)
    (eg : ∀ args w, (callFunc N args).run Tryz.prog w = .ok (.enter N args) w)
    (hp : ∀ wx, w.grownBy wx (some G) → ∀ x : List UInt8, Calls Tryz.prog N #[.string ⟨x.toArray⟩, .pointer (some ⟨P, 0, none⟩)] wx fun e w' => e = .returned (.bool (p x)) ∧ w' = wx) :
    Calls Tryz.prog 11 #[.slice (some ⟨G, 0, none⟩) l.length c, .func (.func N) #[] #[.pointer (some ⟨P, 0, none⟩)]] w (DelFPost w base G p l) := by
  obtain ⟨A', c', e, hc', hat, hG'⟩ := ho.at_ strE_ok
  simp only [Value.slice.injEq] at e
  obtain ⟨rfl, _, rfl⟩ := e
  have HI := Lib.hid (indexFunc_any N P p _ l.length c l w hat (by omega) eg (fun x _ => hp w (World.grownBy.refl _ _) x))
  have HO := Lib.hid ho
  have HP := Lib.hid hp
  have hcc := hat.2.1
  clear ho hp hat hG'
  go_enter Tryz.func11, Tryz.ntmps11
  go_wp2_with fail
  refine HI.out.mono ?_
  rintro e w' ⟨⟨r, rfl, hf⟩, hw⟩
  obtain rfl := hw.symm
  rcases hf with ⟨rfl, hf⟩ | ⟨k, rfl, hk, hpk, hpj⟩
  · have hfil : l.filter (fun x => !p x) = l := List.filter_eq_self.2 (fun x hx => by simp [hf x hx])
    have HF : Hid (DelFPost w base G p l (.returned (.slice (some ⟨G, 0, none⟩) l.length c)) w) := ⟨_, rfl, by rw [hfil]; exact HO.out, World.grownBy.refl _ _⟩
    clear hf hfil HI
    go_wp2_with fail
    go_ret
    exact HF.out
  · have HPK := Lib.hid hpk
    have HPJ := Lib.hid hpj
    clear hpk hpj HI
    have hst : l.take k = (l.take (k + 1)).filter (fun x => !p x) := by
      rw [take_filter hk, if_pos HPK.out, List.append_nil]
      refine (List.filter_eq_self.2 (fun x hx => ?_)).symm
      obtain ⟨j, hj, rfl⟩ := List.getElem_of_mem hx
      have hjk : j < k := by simp at hj; omega
      have := HPJ.out j hjk
      rw [List.getD_eq_getElem?_getD, List.getElem?_eq_getElem (show j < l.length by omega)] at this
      simpa using this
    have hk1 : ((k : Int) == -1) = false := by simp
    go_wp2_with fail
    go_loopg [5, 6] (l.length - (k + 1)) (fun gk v5 v6 wx => ∃ (i j : Nat) (M : List (List UInt8)), v5 = .int .i64 (i : Int) ∧ v6 = .int .i64 (j : Int) ∧ Hid (j + gk = l.length ∧ i < j ∧ M.length = l.length) ∧ Hid (M.take i = (l.take j).filter (fun x => !p x)) ∧ Hid (M.drop j = l.drop j) ∧ Hid (OwnStrs wx base (.slice (some ⟨G, 0, none⟩) l.length c) M) ∧ Hid (w.grownBy wx (some G)))
    case atStart => exact ⟨k, k + 1, l, rfl, by go_num, ⟨by omega, by omega, rfl⟩, hst, rfl, HO.out, World.grownBy.refl _ _⟩
    case round =>
      obtain ⟨i, j, M, rfl, rfl, HI, HT, HD, HM, HG⟩ := hrel
      have hij := HI.out.2.1
      have hjl : j ≤ l.length := by have := HI.out.1; omega
      obtain ⟨G3, e3, hG1, hG2, hjunk, hlc, hcell⟩ := HM.out.strAt (by have := HI.out.2.2; omega)
      simp only [Option.some.injEq, Addr.mk.injEq] at e3
      obtain ⟨rfl, _⟩ := e3
      clear hjunk
      by_cases hlt : j < l.length
      · have hMl := HI.out.2.2
        have hcj := hcell j (by omega)
        have hMj : M.getD j [] = l.getD j [] := by
          have e1 := congrArg (fun z => z[0]?) HD.out
          simp only [List.getElem?_drop, Nat.add_zero] at e1
          rw [List.getD_eq_getElem?_getD, e1, ← List.getD_eq_getElem?_getD]
        rw [hMj] at hcj
        have hci := hcell i (by omega)
        have HTF := Lib.hid (take_filter (p := p) hlt)
        have HC := Lib.hid (HP.out wr HG.out (l.getD j []))
        obtain ⟨x, hx⟩ : ∃ x, x = l.getD j [] := ⟨_, rfl⟩
        rw [← hx] at hcj HTF HC
        obtain ⟨bb, hbb⟩ : ∃ bb, p x = bb := ⟨_, rfl⟩
        rw [hbb] at HC HTF
        have hiM : i < M.length := by omega
        have hfz : wr.frozen? ⟨G, i, none⟩ = false := by
          obtain ⟨G4, c4, e4, _, _, hw4⟩ := Owns.where_ strE_ok HM.out (by omega)
          simp only [Value.slice.injEq, Option.some.injEq, Addr.mk.injEq] at e4
          obtain ⟨⟨rfl, _⟩, _, _⟩ := e4
          have r := (hw4 i M[i] 0 (.string ⟨M[i].toArray⟩) (List.getElem?_eq_getElem hiM) rfl).2
          rw [show i * StrE.size + 0 = i by rw [Nat.add_zero]; exact Nat.mul_one i] at r
          exact r
        have HMD : Hid (M.drop (j + 1) = l.drop (j + 1)) := by
          show _ = _
          rw [← List.drop_drop, HD.out, List.drop_drop]
        generalize M.getD i [] = y at *
        have HIM := Lib.hid hiM
        have HLT := Lib.hid hlt
        clear hcell hMj hMl hiM hx hbb
        go_wp2_with fail
        refine HC.out.mono ?_
        rintro e w' ⟨rfl, hw'⟩
        obtain rfl := hw'
        cases bb
        · go_wp2_with fail
          go_roundg (gk - 1)
          case measure => have := HI.out.1; have := HLT.out; omega
          case rel =>
            refine ⟨i + 1, j + 1, M.set i x, by go_num, by go_num, ⟨by have := HI.out.1; have := HLT.out; omega, by omega, by rw [List.length_set]; exact HI.out.2.2⟩, ?_, ?_, HM.out.setStr i x HIM.out, grown_trans HG.out (grown_setCell _ _ _ _)⟩
            · show _ = _
              rw [HTF.out, if_neg (by simp), ← HT.out, List.take_succ_eq_append_getElem (by rw [List.length_set]; exact HIM.out), List.take_set, List.set_eq_of_length_le (by simp; omega)]
              simp
            · show _ = _
              rw [List.drop_set_of_lt (by omega), HMD.out]
        · go_wp2_with fail
          go_roundg (gk - 1)
          case measure => have := HI.out.1; have := HLT.out; omega
          case rel =>
            refine ⟨i, j + 1, M, rfl, by go_num, ⟨by have := HI.out.1; have := HLT.out; omega, by omega, HI.out.2.2⟩, ?_, HMD.out, HM.out, HG.out⟩
            show _ = _
            rw [HTF.out, if_pos trivial, List.append_nil]; exact HT.out
      · obtain rfl : j = l.length := by omega
        have hMl := HI.out.2.2
        have hTl : M.take i = l.filter (fun x => !p x) := by rw [HT.out, List.take_of_length_le (Nat.le_refl _)]
        have hsl := sl_from (some ⟨G, 0, none⟩) l.length c i (by omega) (.slice (some ⟨G, i, none⟩) (l.length - i) (c - i)) (by
          simp only [sliced]
          rw [if_neg (by omega), show i * StrE.size = i from Nat.mul_one i]
          simp [addr_add])
        have hcl : ∀ ty, (Builtin.clear_ #[26] ty #[.slice (some ⟨G, i, none⟩) (l.length - i) (c - i)]).run Tryz.prog wr = .ok (.tuple #[]) (wr.setCells G i (List.replicate (l.length - i) (.string ⟨#[]⟩))) := fun ty =>
          Lib.run_clear_slice wr 26 9 ty (.string ⟨#[]⟩) Tryz.underlying26 Tryz.zeroValue9 rfl rfl G i (l.length - i) (c - i) (by omega) (fun q hq => by rw [hcell (i + q) (by omega)]; rfl) (fun q hq => HM.out.frozenS (by omega))
        have hup := sl_uptoS G l.length c i (by omega)
        have hfin := Owns.shrink (HM.out.setAllS (List.replicate (l.length - i) []) M i wr (by simp; omega)) i (by simp; omega)
        have hgf := grown_trans HG.out (grown_setCellsS G (List.replicate (l.length - i) (.string ⟨#[]⟩)) i wr)
        rw [List.take_append_of_le_length (by simp; omega), List.take_take, Nat.min_self, hTl] at hfin
        rw [List.map_replicate] at hfin
        have HF : Hid (DelFPost w base G p l (.returned (.slice (some ⟨G, 0, none⟩) i c)) (wr.setCells G i (List.replicate (l.length - i) (.string ⟨#[]⟩)))) := ⟨_, rfl, hfin, hgf⟩
        clear hfin hgf hTl hcell hst hk1
        generalize wr.setCells G i (List.replicate (l.length - i) (.string ⟨#[]⟩)) = w9 at *
        go_wp2_with (simp only [hcl])
        go_ret
        exact HF.out
end Go.Proofs.YtmliaiinfgddhaaGreatDoor
