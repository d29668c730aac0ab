
/-
  Names sorted by their hashes: least's closure, and what SortFunc leaves.
-/
import Derived.Test.YtiegbbngfojjoaaGreatDoorGr
import Derived.Test.YtiegbbngfojjoaaGreatDoorShelfB
import Derived.Test.YtiegbbngfojjoaaGreatDoorLeast
import Derived.Sort.LotA
import Derived.Sort.Walk0
import Derived.Sort.OwnSorted
namespace Go.Proofs.YtiegbbngfojjoaaGreatDoor
open Go.RowKit Go.Sort Go.Shelf Go.Lib

theorem strE_cellsN (l : List (List UInt8)) : StrE.cells l = l.map encStr := by
  rw [strE_cells, List.map_map]; rfl
abbrev NameT : Type := {x : List UInt8 // x.length ≤ 1000}
instance : Inhabited NameT := ⟨⟨[], by simp⟩⟩
def mkName (s : List UInt8) : NameT := if h : s.length ≤ 1000 then ⟨s, h⟩ else ⟨[], by simp⟩
theorem mkName_val {s : List UInt8} (h : s.length ≤ 1000) : (mkName s).1 = s := by simp [mkName, h]
def encN (x : NameT) : Value := .string ⟨x.1.toArray⟩
def hzN (x : NameT) : Int := hashN (oneK ++ 32 :: x.1)
theorem hzN_range (x : NameT) : 0 ≤ hzN x ∧ hzN x < 4294967296 := hashN_range _
def cfL (x y : NameT) : Int := if hzN x - hzN y = 0 then cmpS x.1 y.1 else hzN x - hzN y
theorem cmpS_neg (a b : List UInt8) : decide (cmpS a b < 0) = ltStr a b := by
  unfold cmpS ltStr
  rw [← bytesLess_eq]
  cases h1 : Op.bytesLess a b
  · cases h2 : Op.bytesLess b a <;> simp
  · simp
theorem ltL (x y : NameT) : ltOf cfL x y = (decide (hzN x < hzN y) || (decide (hzN x = hzN y) && ltStr x.1 y.1)) := by
  unfold ltOf cfL
  by_cases h : hzN x - hzN y = 0
  · have e : hzN x = hzN y := by omega
    rw [if_pos h, cmpS_neg, e]
    simp
  · have e : hzN x ≠ hzN y := by omega
    rw [if_neg h]
    by_cases h1 : hzN x < hzN y
    · have h2 : hzN x - hzN y < 0 := by omega
      simp [h1, h2]
    · have h2 : ¬ hzN x - hzN y < 0 := by omega
      simp [h1, h2, e]
theorem swoL : SWO (ltOf cfL) where
  irrefl x := by rw [ltL, swo_ltStr.irrefl]; simp
  trans x y z h1 h2 := by
    rw [ltL] at *
    simp only [Bool.or_eq_true, decide_eq_true_eq, Bool.and_eq_true] at *
    rcases h1 with h1 | ⟨h1, k1⟩ <;> rcases h2 with h2 | ⟨h2, k2⟩
    · exact .inl (by omega)
    · exact .inl (by omega)
    · exact .inl (by omega)
    · exact .inr ⟨by omega, swo_ltStr.trans _ _ _ k1 k2⟩
  ntrans x y z h1 h2 := by
    rw [ltL] at *
    simp only [Bool.or_eq_false_iff, decide_eq_false_iff_not, Bool.and_eq_false_imp, decide_eq_true_eq] at *
    exact ⟨by omega, fun e => swo_ltStr.ntrans _ _ _ (h1.2 (by omega)) (h2.2 (by omega))⟩

theorem hash_oneg (x : List UInt8) (h : x.length ≤ 1000) (wx : World) : Calls Tryz.prog 79 #[.string ⟨x.toArray⟩, .string ⟨#[111, 110, 101]⟩] wx fun e w' => e = .returned (.int .i64 (hashN (oneK ++ 32 :: x))) ∧ Gr wx w' := by
  have k := hash_gr ⟨x.toArray⟩ ⟨#[111, 110, 101]⟩ wx (by simpa [ByteArray.size] using h) (by decide)
  have e : (⟨#[111, 110, 101]⟩ : ByteArray).data.toList ++ 32 :: (⟨x.toArray⟩ : ByteArray).data.toList = oneK ++ 32 :: x := by simp
  rw [e] at k
  exact k
theorem Gr.cell {a b : World} (h : Gr a b) {p : Addr} (hp : p.block < a.heap.size) : b.cell? p = a.cell? p := h.below.cell hp
set_option maxHeartbeats 1600000 in
set_option maxRecDepth 100000 in
theorem cmpL_closure (x y : NameT) (P : Nat) (W : World) (hP : W.cell? ⟨P, 0, none⟩ = some (.string ⟨#[111, 110, 101]⟩)) (hl : P < W.heap.size) :
    Calls Tryz.prog 133 #[.string ⟨x.1.toArray⟩, .string ⟨y.1.toArray⟩, .pointer (some ⟨P, 0, none⟩)] W fun e w' => e = .returned (.int .i64 (cfL x y)) ∧ ∃ q os, w' = grow (W.drewN q) os := by
  have HX := Lib.hid (hash_oneg x.1 x.2)
  have HY := Lib.hid (hash_oneg y.1 y.2)
  have HC := Lib.hid (fun w => compareS_any x.1 y.1 w)
  have hrx := hzN_range x
  have hry := hzN_range y
  have HF : Hid (cfL x y = if hzN x - hzN y = 0 then cmpS x.1 y.1 else hzN x - hzN y) := rfl
  rw [HF.out]
  have ex : hashN (oneK ++ 32 :: x.1) = hzN x := rfl
  have ey : hashN (oneK ++ 32 :: y.1) = hzN y := rfl
  rw [ex] at HX
  rw [ey] at HY
  clear ex ey HF
  have HG : Hid (∀ w', Gr W w' → w'.cell? ⟨P, 0, none⟩ = some (.string ⟨#[111, 110, 101]⟩)) := fun w' h => (h.cell hl).trans hP
  generalize hzN x = zx at *
  generalize hzN y = zy at *
  generalize cmpS x.1 y.1 = cc at *
  generalize x.1 = a at *
  generalize y.1 = b at *
  have e1 : IntKind.i64.wrap (zx - zy) = zx - zy := IntWalk.i64_in _ (by omega)
  go_enter Tryz.func133, Tryz.ntmps133
  have HOR := Lib.hid (fun (g : Nat) (w : World) h0 h1 => cmpOr_any g (zx - zy) cc w h0 h1)
  generalize (if zx - zy = 0 then cc else zx - zy) = ov at *
  go_upto_region 1 with (fail)
  go_region_held3 (fun w' => w'.cell? ⟨P, 0, none⟩ = some (.string ⟨#[111, 110, 101]⟩))
    (first | assumption | exact HG.out _ ((Gr.refl _).drew) | exact HG.out _ hx0 | exact HG.out _ hy0 | exact HG.out _ (hx0.alloc _) | exact HG.out _ (hy0.alloc _))
    (first
      | (go_at_call 79; (with_reducible refine Calls.mono (HX.out _) ?_); rintro e wx ⟨rfl, hbx⟩; have hx0 : Gr W wx := (by first | exact hy0.trans hbx | exact hbx.undrew); clear hbx)
      | (go_at_call 79; (with_reducible refine Calls.mono (HY.out _) ?_); rintro e wy ⟨rfl, hby⟩; have hy0 : Gr W wy := (by first | exact hx0.trans hby | exact hby.undrew); clear hby)
      | (go_at_call 135; (with_reducible refine Calls.mono (HC.out _) ?_); rintro e wz ⟨rfl, hwz⟩; obtain rfl := hwz.symm)
      | (go_at_call 134; (refine Calls.mono (HOR.out _ _ (by rw [World.cell?_alloc_at _ _ _ _ rfl]; rfl) (by rw [World.cell?_alloc_at _ _ _ _ rfl]; rfl)) ?_); rintro e wz ⟨rfl, hwz⟩; obtain rfl := hwz.symm))
  all_goals
    go_wp2_with fail
    go_ret
    first
      | exact ⟨rfl, hx0.alloc _⟩
      | exact ⟨rfl, hy0.alloc _⟩

theorem grown_sortN {α : Type} [Inhabited α] (enc : α → Value) (w : World) (blk off m : Nat) (d : Array α) (os : Array Obj) : w.grownBy (sortWorld enc w blk off m d os) (some blk) := by
  refine ⟨rfl, rfl, rfl, by simp [sortWorld, grow, putRow, mapBlock, Sort.ahead], fun i hi hne => ?_⟩
  have hne' : blk ≠ i := fun e => hne (by rw [e])
  unfold sortWorld
  rw [heap_grow_old _ _ (by simpa [putRow, mapBlock, Sort.ahead] using hi)]
  simp [putRow, mapBlock, Sort.ahead, Array.getElem?_modify, hne']
theorem cmpL_lays (w : World) (P blk size : Nat) (hP : w.cell? ⟨P, 0, none⟩ = some (.string ⟨#[111, 110, 101]⟩)) (hl : P < w.heap.size) (hne : P ≠ blk) :
    CmpLays1 Tryz.prog 133 #[.pointer (some ⟨P, 0, none⟩)] encN cfL blk 0 size w := fun mm os dk _ x y => by
  have hg := grown_sortN encN w blk 0 mm dk os
  refine cmpL_closure x y P _ ((World.cell?_of_block (hg.block P hl (fun e => hne (Option.some.inj e)))).trans hP) (Nat.lt_of_lt_of_le hl hg.size)
theorem putCells_name (d : Array NameT) (c : Array Value) : putCells encN 0 d c = putCells encStr 0 (d.toList.map (·.1)).toArray c := by
  unfold putCells
  congr 1
  funext k x
  simp only [Nat.zero_le, true_and, Nat.zero_add, Nat.sub_zero, List.size_toArray, List.length_map, Array.length_toList]
  split
  · rename_i hk
    have : (d.toList.map (·.1)).toArray[k]! = (d[k]!).1 := by simp [hk]
    rw [this]; rfl
  · rfl
def SortFPost (w : World) (base : Nat) (v : Value) (n : Nat) (e : Ending) (w' : World) : Prop := e = .returned (.tuple #[]) ∧ ∃ l', l'.length = n ∧ OwnStrs w' base v l' ∧ Below base w w'
set_option maxHeartbeats 1600000 in
theorem sortF_any (base c P : Nat) (A : Option Addr) (l : List (List UInt8)) (w : World) (h : OwnStrs w base (.slice A l.length c) l) (hl : ∀ x ∈ l, x.length ≤ 1000) (hl2 : l.length ≤ 100000) (hP : w.cell? ⟨P, 0, none⟩ = some (.string ⟨#[111, 110, 101]⟩)) (hPb : P < base) (hbs : base ≤ w.heap.size) :
    Calls Tryz.prog 132 #[.slice A l.length c, .func (.func 133) #[] #[.pointer (some ⟨P, 0, none⟩)]] w (SortFPost w base (.slice A l.length c) l.length) := by
  rcases h.2 with ⟨e, hn⟩ | ⟨g, cap, cur, e, hbase, hb, h1, h2, h3, h4⟩
  · have hl0 : l = [] := List.eq_nil_of_length_eq_zero hn
    subst hl0
    refine (Tryz.slices_SortFunc_none (α := NameT) A c _ w).mono ?_
    rintro e w' ⟨rfl, rfl⟩
    exact ⟨rfl, [], rfl, h, Below.refl _ _⟩
  · simp only [Value.slice.injEq] at e
    obtain ⟨rfl, _, rfl⟩ := e
    have hH0 : Holds encStr w g 0 l.toArray := holds_of_block hb (by rw [show l.length * StrE.size = l.length from Nat.mul_one _, strE_cellsN] at h4; exact h4)
    have hH : Holds encN w g 0 (l.map mkName).toArray := by
      intro j hj
      have hj' : j < l.length := by simpa using hj
      have h5 := hH0 j (by simpa using hj')
      have e : encN (l.map mkName).toArray[j]! = encStr l.toArray[j]! := by
        simp [hj', encN, mkName_val (hl l[j] (List.getElem_mem _)), encStr]
      rw [e]
      exact h5
    have hsz : (l.map mkName).toArray.size = l.length := by simp
    have hgl := (Array.getElem?_eq_some_iff.1 hb).1
    have eg : ∀ args w, (callFunc 133 args).run Tryz.prog w = .ok (.enter 133 args) w := enters_of Tryz.func133 (by kernel_rfl) rfl
    have hcon := Tryz.slices_SortFunc encN (fun _ => rfl) cfL swoL 133 #[.pointer (some ⟨P, 0, none⟩)] g 0 c (l.map mkName).toArray w eg (cmpL_lays w P g _ hP (by omega) (by omega)) hH hgl (by simp; omega)
    rw [hsz] at hcon
    refine Calls.mono hcon ?_
    rintro e w' ⟨rfl, d', q, os, hp, _, rfl⟩
    have hd' : d'.size = l.length := by rw [hp.1, hsz]
    have e1 : sortWorld encN w g 0 q d' os = grow (putRow encStr (Sort.ahead w q) g 0 (d'.toList.map (·.1)).toArray) os := by
      unfold sortWorld putRow
      rw [show putCells encN 0 d' = putCells encStr 0 (d'.toList.map (·.1)).toArray from funext fun c => putCells_name _ c]
    have hlen : (d'.toList.map (·.1)).length = l.length := by simp [hd']
    refine ⟨rfl, d'.toList.map (·.1), hlen, ?_, (Below.refl _ _).grown (grown_sortN encN w g 0 q d' os) hbs (fun j hj => by cases hj; exact hbase)⟩
    rw [e1]
    clear e1 hcon
    generalize d'.toList.map (·.1) = ts at *
    unfold OwnStrs Owns
    rw [strE_cellsN, hlen]
    exact ownsRow_sorted (ss := l) (ts := ts) hlen hbase hb h1 h2 h3
end Go.Proofs.YtiegbbngfojjoaaGreatDoor
