
/-
  PagesHaveAll returns true.
-/
import Derived.Test.YtemgaanmpgpdcaaGreatDoorPgFn
import Derived.Test.YtemgaanmpgpdcaaGreatDoorPages
import Derived.Test.YtemgaanmpgpdcaaGreatDoorPapText
import Derived.Test.YtemgaanmpgpdcaaGreatDoorNumb
import Derived.Test.YtemgaanmpgpdcaaGreatDoorStreamNew
namespace Go.Proofs.YtemgaanmpgpdcaaGreatDoor
open Go.RowKit

theorem wide_not (w : World) (l : List Str) : PredB 20 (fun s => decide (80 < s.length)) w l := by
  intro x hx wx hb
  have hz : (⟨x.toArray⟩ : ByteArray).size = x.length := by simp [ByteArray.size]
  generalize (⟨x.toArray⟩ : ByteArray) = t at *
  have HD : Hid (decide (80 < x.length) = decide ((80 : Int) < (t.size : Int))) := by show _ = _; exact decide_eq_decide.2 (by omega)
  clear hz
  go_enter Tryz.func20, Tryz.ntmps20
  go_wp2_with fail
  go_ret
  exact ⟨by rw [HD.out]; rfl, Below.refl _ _⟩
theorem enters_pw : ∀ args w, (callFunc 20 args).run Tryz.prog w = .ok (.enter 20 args) w := enters_of Tryz.func20 (by kernel_rfl) rfl
def blankP : List (UInt8 × List UInt8) := [(32, []), (10, [])]
theorem blankP_ok : PairsOk blankP := ⟨.inl rfl, (by decide), (by decide), (by decide)⟩
theorem repl_ink : ∀ s : List UInt8, replL (tabOf blankP) s = inkL s
  | [] => rfl
  | b :: s => by
    rw [replL_cons, repl_ink s]
    unfold replB tabOf tabOf tabOf blankP
    by_cases h1 : b = 32
    · simp [h1, inkL, inkB]
    · by_cases h2 : b = 10
      · simp [h2, inkL, inkB]
      · have hb : inkB b = true := by unfold inkB; simp [h1, h2]
        simp [h1, h2, inkL, hb]
def BarePost (w : World) (L : List UInt8) (e : Ending) (w' : World) : Prop := e = .returned (.string (bag (inkL L))) ∧ Below w.heap.size w w'
theorem blank_strs (w : World) : StrsAt (w.alloc (.cells #[.string ⟨#[32]⟩, .string ⟨#[]⟩, .string ⟨#[10]⟩, .string ⟨#[]⟩] 9)) (some ⟨w.heap.size, 0, none⟩) 4 4 (flatP blankP) := by
  refine ⟨rfl, Nat.le_refl _, (fun e => by cases e), fun _ => ⟨w.heap.size, 0, rfl, by simp, fun k x i v hk hv => ?_⟩⟩
  have hi : i = 0 := by have := (List.getElem?_eq_some_iff.1 hv).1; simp [StrE] at this; exact this
  subst hi
  have hk4 : k < 4 := (List.getElem?_eq_some_iff.1 hk).1
  rw [World.cell?_alloc_at _ _ _ _ rfl]
  simp only [StrE, List.getElem?_cons_zero, Option.some.injEq] at hv
  subst hv
  match k, hk4 with
  | 0, _ => cases hk; rfl
  | 1, _ => cases hk; rfl
  | 2, _ => cases hk; rfl
  | 3, _ => cases hk; rfl
set_option maxHeartbeats 1600000 in
set_option maxRecDepth 100000 in
theorem bare_any (s : ByteArray) (w : World) (hs : s.size ≤ 100000) :
    Calls Tryz.prog 21 #[.string s] w (BarePost w s.data.toList) := by
  have HRI := Lib.hid (repl_ink s.data.toList)
  have HNW := Lib.hid (newReplacer_any w.heap.size 0 4 4 blankP (w.alloc (.cells #[.string ⟨#[32]⟩, .string ⟨#[]⟩, .string ⟨#[10]⟩, .string ⟨#[]⟩] 9)) (.inl rfl) (blank_strs w))
  have HBA : Hid (Below w.heap.size w (w.alloc (.cells #[.string ⟨#[32]⟩, .string ⟨#[]⟩, .string ⟨#[10]⟩, .string ⟨#[]⟩] 9))) := (Below.refl _ _).alloc (Nat.le_refl _) _
  go_enter Tryz.func21, Tryz.ntmps21
  go_wp2_with fail
  refine HNW.out.mono ?_
  generalize w.alloc (.cells #[.string ⟨#[32]⟩, .string ⟨#[]⟩, .string ⟨#[10]⟩, .string ⟨#[]⟩] 9) = w1 at *
  rintro e w2 ⟨b, rfl, hsg, hb2⟩
  have hbz := hsg.1
  have HB2 := Lib.hid (HBA.out.trans (hb2.mono HBA.out.size))
  have HSG := Lib.hid (sign_any blankP_ok w1.heap.size b s w2 hsg hs)
  clear HNW hb2 hsg
  go_wp2_with fail
  refine HSG.out.mono ?_
  rintro e w3 ⟨rfl, _, hg3⟩
  rw [HRI.out]
  have HF : Hid (BarePost w s.data.toList (.returned (.string (bag (inkL s.data.toList)))) w3) := ⟨rfl, HB2.out.grown hg3 HB2.out.size (fun i e => by cases e; have := HBA.out.size; omega)⟩
  clear hg3 HSG
  go_wp2_with fail
  go_ret
  exact HF.out
theorem joinE (l : List Str) : Lib.join l [] = l.flatten := by
  unfold Lib.join
  induction l with
  | nil => rfl
  | cons x l ih =>
    cases l with
    | nil => simp [List.intercalate]
    | cons y l =>
      rw [List.flatten_cons, ← ih]
      simp [List.intercalate, List.intersperse]
theorem bags_data' (l : List Str) : (l.map bag).map (·.data.toList) = l := by
  rw [List.map_map]
  conv => rhs; rw [← List.map_id l]
  exact List.map_congr_left fun x _ => bag_data x
theorem join_any (A : Option Addr) (n c : Nat) (l : List Str) (w : World) (h : StrsAt w A n c l) (hn : n ≤ 100000) (hl : l.flatten.length ≤ 1000000) :
    Calls Tryz.prog 24 #[.slice A n c, .string ⟨#[]⟩] w fun e w' => e = .returned (.string (bag l.flatten)) ∧ Below w.heap.size w w' := by
  have hnl := h.1
  rcases Nat.eq_zero_or_pos n with h0 | h0
  · subst h0
    have hl : l = [] := List.eq_nil_of_length_eq_zero hnl.symm
    subst hl
    refine (Tryz.strings_Join_none A c ⟨#[]⟩ w).mono ?_
    rintro e w' ⟨rfl, rfl⟩
    exact ⟨rfl, Below.refl _ _⟩
  · obtain ⟨g, off, rfl, hg, hc⟩ := h.str h0
    subst hnl
    have hb := bags_data' l
    have hj := Tryz.strings_Join g off c (l.map bag) ⟨#[]⟩ w (fun j x hx => by
      have hjl : j < (l.map bag).length := (List.getElem?_eq_some_iff.1 hx).1
      rw [h.bags j hjl, List.getD_eq_getElem?_getD, hx]; rfl) hg (by simp; omega) (by simp; exact h.2.1) (by rw [hb]; show (Lib.join l []).length ≤ _; rw [joinE]; omega)
    rw [hb, List.length_map, show (⟨#[]⟩ : ByteArray).data.toList = [] from rfl, joinE] at hj
    exact hj
theorem piece_flat {t : List UInt8} (hr : NoRun t) (ht : t.isEmpty = true ∨ [10].isSuffixOf t = true) : (pieceL t).flatten.length ≤ t.length := by
  have h1 := lineL_sum t
  have h2 := linesL_norun hr
  rw [linesL_eq ht] at h2
  unfold pieceL
  rw [linesL_eq ht]
  have key : ∀ L : List (List UInt8), (∀ x ∈ L, NoRun x) → (L.flatMap wrapL).flatten.length ≤ lensL L := by
    intro L
    induction L with
    | nil => intro _; simp [lensL]
    | cons x L ih =>
      intro hL
      have a1 := (wrapL_count x (hL x (by simp))).2
      have a2 := ih (fun y hy => hL y (by simp [hy]))
      rw [List.flatMap_cons, List.flatten_append, List.length_append]
      simp only [lensL, List.map_cons, List.sum_cons] at *
      omega
  have h3 := key _ h2
  by_cases h0 : t = []
  · subst h0; simp [lineL]
  · have hne : 1 ≤ (lineL t).length := by
      unfold lineL
      rw [if_neg (by simpa using h0)]
      obtain ⟨a, b, e⟩ := splitC_ne 10 t.dropLast
      rw [e]; simp
    omega
theorem wide_none {t : List UInt8} {ps : List (List Str)} (hf : ps.flatten = pieceL t) : ∀ p ∈ ps, p.any (fun s => decide (80 < s.length)) = false := by
  intro p hp
  rw [List.any_eq_false]
  intro x hx
  have : x ∈ pieceL t := by rw [← hf]; exact List.mem_flatten.2 ⟨p, hp, hx⟩
  have := pieceL_le t x this
  simp; omega
set_option maxHeartbeats 6400000 in
set_option maxRecDepth 100000 in
theorem pagesLaw_any (A : Option Addr) (n c : Nat) (w : World) (hrow : RowAt w A n) (hbig : n ≤ 1000000000000000) (hM : MaxAt w) (hT : Tabs w) :
    Calls Tryz.prog 4 #[.slice A n c] w (LawPost w) := by
  have hst := stream_new w A n c hrow hbig
  have hB : Below w.heap.size w (w.alloc (.cells #[.slice A n c, .int .i64 0] 25)) := (Below.refl _ _).alloc (Nat.le_refl _) _
  have hrr : ∀ k, some w.heap.size = some k → w.heap.size ≤ k := fun k hk => by injection hk with hk; omega
  have HMX := Lib.hid hM
  have HTX := Lib.hid hT
  clear hrow hM hT
  go_enter Tryz.func4, Tryz.ntmps4
  go_upto_region 2 with (fail)
  have HL := Lib.hid (paperText_any w.heap.size A n c 0 _ hst (by omega))
  have HB := Lib.hid hB
  clear hst hB
  generalize w.alloc (.cells #[.slice A n c, .int .i64 0] 25) = w1 at *
  go_wp2_with fail
  refine HL.out.mono ?_
  rintro e w2 ⟨t, rfl, hts, _, hg2⟩
  have HB2 := Lib.hid (HB.out.grown hg2 HB.out.size hrr)
  clear HL hg2 HB
  have HWR := Lib.hid (wrap_any t w2 (by omega) (HMX.out.below HB2.out) (HTX.out.below HB2.out))
  have HPG := Lib.hid (fun wx (hb : Below w.heap.size w wx) => pages_any t wx (by omega) (HMX.out.below hb) (HTX.out.below hb))
  have HBF := Lib.hid (fun wx (hb : Below w.heap.size w wx) => bodyFault_any t wx (by omega) (HTX.out.below hb))
  have HOK : Hid (bodyE t = 0 → inkL (pieceL t.data.toList).flatten = inkL t.data.toList ∧ (pieceL t.data.toList).flatten.length ≤ 20000 ∧ (pieceL t.data.toList).length ≤ 20001) := fun h => by
    obtain ⟨h1, h2, h3⟩ := body_ok h
    have h4 := piece_flat h2 h3
    have h5 := piece_count h2 h3
    rw [size_list'] at h1
    exact ⟨pieceL_ink h2, by omega, by omega⟩
  unfold WrapsPost at HWR
  unfold PagesPost at HPG
  generalize bodyE t = z at *
  go_wp2_with fail
  refine HWR.out.mono ?_
  rintro e w3 ⟨v3, rfl, ho3, hb3⟩
  have HO3 := Lib.hid ho3
  have HB3 := Lib.hid (HB2.out.trans (hb3.mono HB2.out.size))
  clear ho3 hb3 HWR
  go_wp2_with fail
  refine (HPG.out w3 HB3.out).mono ?_
  rintro e w4 ⟨v4, rfl, ho4, hb4⟩
  have HO4 := Lib.hid ho4
  have HB34 := Lib.hid hb4
  have HB4 := Lib.hid (HB3.out.trans (hb4.mono HB3.out.size))
  clear ho4 hb4 HPG
  go_wp2_with fail
  refine (HBF.out w4 HB4.out).mono ?_
  rintro e w5 ⟨rfl, hb5⟩
  have HB45 := Lib.hid hb5
  have HB5 := Lib.hid (HB4.out.trans (hb5.mono HB4.out.size))
  clear hb5 HBF
  by_cases hz : z = 0
  · subst hz
    obtain ⟨A3, c3, rfl, hc3, hat3, hq3⟩ := (HO3.out (by trivial)).at_ strE_ok
    obtain ⟨rs, ps, hpp, hps, h50, hpl⟩ := HO4.out (by trivial)
    obtain ⟨A4, c4, rfl, hc4, htab, hq4⟩ := hpp.tab
    obtain ⟨hink, hfl, hcnt⟩ := HOK.out (by trivial)
    have HAT3 := Lib.hid ((hat3.keep HB34.out).keep HB45.out)
    have HTAB := Lib.hid (htab.keep HB45.out)
    have HINK := Lib.hid hink
    have HFC : Hid ((pieceL t.data.toList).length ≤ 20001) := hcnt
    have HFL := Lib.hid hfl
    have HPS := Lib.hid hps
    have H50 := Lib.hid h50
    have HWN := Lib.hid (wide_none hps)
    clear hq3 hq4 hat3 htab hpp hps h50 HO3 HO4 HOK hink
    obtain ⟨m, hm⟩ : ∃ m, m = (pieceL t.data.toList).length := ⟨_, rfl⟩
    rw [← hm] at HAT3 hcnt ⊢
    have hmp : m ≤ 20001 := hcnt
    obtain ⟨pn, hpn⟩ : ∃ pn, pn = ps.length := ⟨_, rfl⟩
    rw [← hpn] at HTAB ⊢
    have HPN := Lib.hid hpn
    have hpn2 : pn ≤ 100000 := by omega
    clear hpn hm hpl
    have hb50 : ps.flatten.length ≤ 50000 := by rw [HPS.out]; have := HFC.out; omega
    have HCT := Lib.hid (concatT_any A4 pn c4 ps w5 HTAB.out hpn2 hb50)
    clear hb50
    go_wp2_with fail
    refine HCT.out.mono ?_
    rintro e w6 ⟨v6, rfl, hown6, hb6⟩
    rw [HPS.out] at hown6
    obtain ⟨A6, c6, rfl, hc6, hat6, -⟩ := hown6.at_ strE_ok
    have HB6 := Lib.hid (HB5.out.trans (hb6.mono HB5.out.size))
    have HAT6 := Lib.hid (HAT3.out.keep hb6)
    have HTAB6 := Lib.hid (TabAt.keep HTAB.out hb6)
    have HEQ := Lib.hid (equal_any A6 A3 (pieceL t.data.toList).length c6 m c3 _ _ w6 hat6 HAT6.out (by have := HFC.out; omega) (by omega))
    clear hown6 hb6 hat6 HCT HAT3 HTAB
    generalize (pieceL t.data.toList).length = m6 at *
    go_wp2_with fail
    refine HEQ.out.mono ?_
    rintro e w7 ⟨rfl, q, rfl⟩
    rw [decide_eq_true trivial]
    have HB7 := Lib.hid (below_drewN HB6.out q)
    have HAT7 : Hid (StrsAt (w6.drewN q) A3 m c3 (pieceL t.data.toList)) := HAT6.out
    have HTAB7 : Hid (TabAt (w6.drewN q) A4 pn c4 ps) := HTAB6.out
    generalize w6.drewN q = w7 at *
    clear HEQ HAT6 HTAB6
    have HPG2 : Hid (pn = ps.length) := HPN.out
    go_wp2_with fail
    go_loopg [58] pn (fun gk v58 wr => ∃ k : Nat, Hid (k + gk = pn) ∧ v58 = .int .i64 (k : Int) ∧ Hid (Below w7.heap.size w7 wr))
    case atStart => exact ⟨0, show 0 + pn = pn by omega, rfl, Below.refl _ _⟩
    case round =>
      obtain ⟨k, HK, rfl, HBR⟩ := hrel
      have hkn : k ≤ pn := by have := HK.out; omega
      by_cases hlt : k < pn
      · obtain ⟨g, off, rfl, hg, hc⟩ := (TabAt.keep HTAB7.out HBR.out).row (by omega)
        obtain ⟨R, rn, rc, hck, hRow⟩ := hc k hlt
        have hkl : k < ps.length := by rw [← HPG2.out]; exact hlt
        have hgk : ps.getD k [] = ps[k] := by rw [List.getD_eq_getElem?_getD, List.getElem?_eq_getElem hkl]; rfl
        have hmem : ps[k] ∈ ps := List.getElem_mem hkl
        rw [hgk] at hRow
        have hrn : rn ≤ 50 := by have h1 := hRow.1; have h2 := H50.out _ hmem; omega
        have hrn2 : ¬ (50 : Int) < (rn : Int) := by omega
        have HCP := Lib.hid (containsPred_any _ _ R rn rc ps[k] wr hRow (by omega) enters_pw (wide_not wr ps[k]))
        rw [HWN.out _ hmem] at HCP
        clear hc hRow hgk hmem
        go_wp2_with fail
        refine HCP.out.mono ?_
        rintro e w8 ⟨rfl, hb8⟩
        have HBR8 := Lib.hid (HBR.out.trans (hb8.mono HBR.out.size))
        clear hb8 HCP hck
        go_wp2_with fail
        go_roundg (gk - 1)
        case measure => have := HK.out; omega
        case rel => exact ⟨k + 1, show k + 1 + (gk - 1) = pn by have := HK.out; omega, by go_num, HBR8.out⟩
      · have HBW := Lib.hid (HB7.out.trans (HBR.out.mono HB7.out.size))
        have HAT8 := Lib.hid (HAT7.out.keep HBR.out)
        clear HTAB7 HAT7
        go_wp2_with fail
        refine (produces_any wr).mono ?_
        rintro e wa ⟨rfl, hba⟩
        have HBA := Lib.hid (HBW.out.trans (hba.mono HBW.out.size))
        have HJ := Lib.hid (join_any A3 m c3 (pieceL t.data.toList) wa (HAT8.out.keep hba) (by omega) (by have := HFL.out; omega))
        clear hba
        go_wp2_with fail
        refine HJ.out.mono ?_
        rintro e wb ⟨rfl, hbb⟩
        have HBB := Lib.hid (HBA.out.trans (hbb.mono HBA.out.size))
        have HX := Lib.hid (bare_any (bag (pieceL t.data.toList).flatten) wb (by rw [bag_size]; have := HFL.out; omega))
        rw [bag_data] at HX
        clear hbb HJ
        go_wp2_with fail
        refine HX.out.mono ?_
        rintro e wc ⟨rfl, hbc⟩
        rw [HINK.out]
        have HBC := Lib.hid (HBB.out.trans (hbc.mono HBB.out.size))
        have HY := Lib.hid (bare_any t wc (by omega))
        clear hbc HX
        go_wp2_with fail
        refine HY.out.mono ?_
        rintro e wd ⟨rfl, hbd⟩
        have HBD := Lib.hid (HBC.out.trans (hbd.mono HBC.out.size))
        clear hbd HY
        go_wp2_with fail
        go_ret
        exact ⟨rfl, HBD.out⟩
  · have hz2 : (z != 0) = true := by simpa using hz
    go_wp2_with fail
    refine (produces_any w5).mono ?_
    rintro e w6 ⟨rfl, hb6⟩
    have HB6 := Lib.hid (HB5.out.trans (hb6.mono HB5.out.size))
    clear hb6
    go_wp2_with fail
    go_ret
    exact ⟨rfl, HB6.out⟩
end Go.Proofs.YtemgaanmpgpdcaaGreatDoor
