
/-
  near.Turn returns new memory, whatever changes a stream has made.
-/
import Derived.Test.YtmaimojpjepmjaaGreatDoorWsPatched
namespace Go.Proofs.YtmaimojpjepmjaaGreatDoor
open Go.RowKit

theorem turn_end {w w0 wz w5 : World} {u5 v5 : Value} {rs : List RawC} {cs : List TokC} {Ax By : Option Addr} {nx cx ny cy : Nat} {sx sy : List (List UInt8)} {z : Int} {o : Obj} {P : Nat} {C : Array Value} {fr : Nat × Nat}
    (hb0 : Below w.heap.size w w0) (hO : Owns ChgE w0 w.heap.size u5 rs) (hC : ChgsOf w0 w.heap.size rs cs) (hblk : w0.heap[P]? = some (.cells C 55 fr)) (hne : u5.ownBlock ≠ some P)
    (hz : Below w0.heap.size w0 wz) (ox : OwnStrs wz w.heap.size (.slice Ax nx cx) sx) (oy : OwnStrs wz w.heap.size (.slice By ny cy) sy) (hg : (wz.alloc o).grownBy w5 u5.ownBlock) (hown5 : Owns ChgE w5 w.heap.size v5 (rs ++ [(z, (Ax, nx, cx), (By, ny, cy))])) :
    Owns ChgE w5 w.heap.size v5 (rs ++ [(z, (Ax, nx, cx), (By, ny, cy))]) ∧ ChgsOf w5 w.heap.size (rs ++ [(z, (Ax, nx, cx), (By, ny, cy))]) (cs ++ [(z, sx, sy)]) ∧ Below w.heap.size w w5 ∧ w5.heap[P]? = some (.cells C 55 fr) := by
  have hO' : Owns ChgE (wz.alloc o) w.heap.size u5 rs := World.ownsRow.alloc (hO.below_ hz) _
  have f : ∀ v l, OwnStrs wz w.heap.size v l → OwnStrs w5 w.heap.size v l := fun v l h => Owns.beside (World.ownsRow.alloc h _) hO' (by decide) hg
  have hPl : P < w0.heap.size := (Array.getElem?_eq_some_iff.1 hblk).1
  have hPz : P < wz.heap.size := Nat.lt_of_lt_of_le hPl hz.size
  have hbz : Below w.heap.size w (wz.alloc o) := (hb0.trans (hz.mono hb0.size)).alloc (Nat.le_trans hb0.size hz.size) _
  refine ⟨hown5, ((hC.below hz).map f).snoc ⟨rfl, f _ _ ox, f _ _ oy⟩, hbz.grown hg hbz.size (fun r hr => (hO.lt r hr).1), ?_⟩
  exact (hg.block P (by simp; omega) (fun e => hne e.symm)).trans ((Below.heap_alloc wz o P hPz).trans ((hz.block P hPl).trans hblk))

def ShortC (cs : List TokC) : Prop := cs.length ≤ 102 ∧ ∀ c ∈ cs, c.2.1.length ≤ 101 ∧ c.2.2.length ≤ 101
def TurnIs (w : World) (e : Ending) (w' : World) : Prop :=
  ∃ (v : Value) (z : Int), e = .returned (.tuple #[v, .int .i64 z]) ∧ Below w.heap.size w w' ∧ (z = 0 → ∃ (rs : List RawC) (cs : List TokC), Owns ChgE w' w.heap.size v rs ∧ ChgsOf w' w.heap.size rs cs ∧ ShortC cs)

set_option maxHeartbeats 6400000 in
set_option maxRecDepth 100000 in
theorem turn_all (s : ByteArray) (A : Option Addr) (n c : Nat) (rs : List RawC) (cs : List TokC) (w : World) (hs : s.size ≤ 1000) (hM : MaxAt w)
    (hat : ElemsAt ChgE w A n c rs) (hrd : ChgsIs w rs cs) (hbd : ChgBd cs) (hok : ∀ c ∈ cs, TokC.Ok c) :
    Calls Tryz.prog 15 #[.string s, .slice A n c] w (TurnIs w) := by
  have HPT := Lib.hid (patched_all s A n c rs cs w hs hM hat hrd hbd hok)
  have HAT := Lib.hid hat
  have HRD := Lib.hid hrd
  have HBD := Lib.hid hbd
  clear hat hrd hok hM hbd
  have HN := Lib.hid HAT.out.1
  have HRL := Lib.hid HRD.out.1
  have hn : n ≤ 102 := by have := HN.out; have := HRL.out; have := HBD.out.len; omega
  go_enter Tryz.func15, Tryz.ntmps15
  go_wp2_with fail
  refine HPT.out.mono ?_
  rintro e w1 ⟨⟨v6, z6, rfl⟩, hb1⟩
  clear HPT
  have hz1 := hb1.size
  by_cases hz : z6 = 0
  · subst hz
    go_wp2_with fail
    go_loopg [8, 9, 23] n (fun gk v8 v9 v23 wr => ∃ (k : Nat) (m : Int) (ro : List RawC) (co : List TokC), Hid (k + gk = n) ∧ v23 = .int .i64 k ∧ v9 = .int .i64 m ∧ -1000 * (k : Int) ≤ m ∧ m ≤ 1000 * (k : Int) ∧ Owns ChgE wr w1.heap.size v8 ro ∧ ChgsOf wr w1.heap.size ro co ∧ Below w1.heap.size w1 wr ∧ Hid (co.length = k ∧ ShortC co))
    case atStart => exact ⟨0, 0, [], [], show 0 + n = n by omega, rfl, rfl, by omega, by omega, Owns.nil _ _, ChgsOf.nil _ _, Below.refl _ _, ⟨rfl, by simp, fun c hc => (by cases hc)⟩⟩
    case round =>
      obtain ⟨k, mo, ro, co, HK, rfl, rfl, hm1, hm2, hown, hcs, hb, HCO⟩ := hrel
      have hkn : k ≤ n := by have := HK.out; omega
      have hzr := hb.size
      have HO := Lib.hid hown; clear hown
      have HCS := Lib.hid hcs; clear hcs
      by_cases hlt : k < n
      · obtain ⟨r, hr⟩ : ∃ r, rs[k]? = some r := ⟨_, List.getElem?_eq_getElem (by have := HN.out; omega)⟩
        obtain ⟨ch, hch⟩ : ∃ ch, cs[k]? = some ch := ⟨_, List.getElem?_eq_getElem (by have := HN.out; have := HRL.out; omega)⟩
        obtain ⟨hr1, hrD, hrE⟩ := HRD.out.2 k r ch hr hch
        have hmem := List.mem_of_getElem? hch
        obtain ⟨l0, l0'⟩ := HBD.out.at_ ch hmem
        have l1 := (HBD.out.drop ch hmem).1
        have l2 := (HBD.out.add ch hmem).1
        obtain ⟨gA, oA, rfl, hgA, hcA⟩ := HAT.out.2.2.2 (by omega)
        have hbw : Below w.heap.size w wr := below_trans' hb1 hb
        have c0 := (hbw.cell (p := ⟨gA, oA + k * ChgE.size + 0, none⟩) hgA).trans (hcA k r 0 _ hr rfl)
        have c1 := (hbw.cell (p := ⟨gA, oA + k * ChgE.size + 1, none⟩) hgA).trans (hcA k r 1 _ hr rfl)
        have c2 := (hbw.cell (p := ⟨gA, oA + k * ChgE.size + 2, none⟩) hgA).trans (hcA k r 2 _ hr rfl)
        have hsz : ChgE.size = 3 := rfl
        rw [hsz] at c0 c1 c2
        rw [Nat.add_zero] at c0
        clear hsz hcA hr hch hmem
        obtain ⟨z, ⟨D, dn, dc⟩, ⟨F, fn, fc⟩⟩ := r
        obtain ⟨a, d, e⟩ := ch
        simp only at hr1 hrD hrE l0 l0' l1 l2 c0 c1 c2
        subst hr1
        obtain rfl : dn = d.length := hrD.1
        obtain rfl : fn = e.length := hrE.1
        have c1' : wr.cell? ⟨gA, oA + k * 3 + 1, none⟩ = some (.slice D d.length dc) := c1
        have c2' : wr.cell? ⟨gA, oA + k * 3 + 2, none⟩ = some (.slice F e.length fc) := c2
        clear c1 c2
        have HRDD := Lib.hid hrD; clear hrD
        have HREE := Lib.hid hrE; clear hrE
        have HRO := Lib.hid (HCS.out.1.trans HCO.out.1)
        have hlro : ro.length ≤ 5000 := by have := HRO.out; omega
        go_upto_region 9 with (fail)
        have hblk : (wr.alloc (.cells #[.int .i64 z, .slice D d.length dc, .slice F e.length fc] 55)).heap[wr.heap.size]? = some (.cells #[.int .i64 z, .slice D d.length dc, .slice F e.length fc] 55 (0, 0)) := heap_alloc_new wr _
        have HO0 : Hid (Owns ChgE (wr.alloc (.cells #[.int .i64 z, .slice D d.length dc, .slice F e.length fc] 55)) w1.heap.size u8 ro) := World.ownsRow.alloc HO.out _
        have hne : u8.ownBlock ≠ some wr.heap.size := fun e => by have := (HO.out.lt _ e).2; omega
        have hb0 : Below w1.heap.size w1 (wr.alloc (.cells #[.int .i64 z, .slice D d.length dc, .slice F e.length fc] 55)) := hb.alloc hb.size _
        have HCS0 := Lib.hid (HCS.out.below ((Below.refl _ _).alloc (Nat.le_refl _) (.cells #[.int .i64 z, .slice D d.length dc, .slice F e.length fc] 55)))
        have hz0 : wr.heap.size < (wr.alloc (.cells #[.int .i64 z, .slice D d.length dc, .slice F e.length fc] 55)).heap.size := by simp
        clear c0 c1' c2' HO hb hbw hzr HCS
        generalize wr.heap.size = P at *
        generalize wr.alloc (.cells #[.int .i64 z, .slice D d.length dc, .slice F e.length fc] 55) = w0 at *
        have e0 : w0.cell? ⟨P, 0, none⟩ = some (.int .i64 z) := by rw [cell_of_row w0 P 0 _ _ _ hblk]; rfl
        have e1 : w0.cell? ⟨P, 1, none⟩ = some (.slice D d.length dc) := by rw [cell_of_row w0 P 1 _ _ _ hblk]; rfl
        have e2 : w0.cell? ⟨P, 2, none⟩ = some (.slice F e.length fc) := by rw [cell_of_row w0 P 2 _ _ _ hblk]; rfl
        have HD2 : Hid (StrsAt w0 D d.length dc d) := HRDD.out.keep (below_trans' hb1 hb0)
        have HE2 : Hid (StrsAt w0 F e.length fc e) := HREE.out.keep (below_trans' hb1 hb0)
        go_cut [8] (fun v wx => ∃ ro' : List RawC, Owns ChgE wx w1.heap.size v ro' ∧ ChgsOf wx w1.heap.size ro' (co ++ [(z + mo, e, d)]) ∧ Below w1.heap.size w1 wx ∧ wx.heap[P]? = some (.cells #[.int .i64 z, .slice D d.length dc, .slice F e.length fc] 55 (0, 0)))
        case first =>
          have g1 : IntKind.i64.wrap (z + mo) = z + mo := IntWalk.i64_in _ (by omega)
          have hbd := build_chg
          have hbs := slice_chg
          go_region_held3 (fun w' => w'.cell? ⟨P, 0, none⟩ = some (.int .i64 z) ∧ w'.cell? ⟨P, 1, none⟩ = some (.slice D d.length dc) ∧ w'.cell? ⟨P, 2, none⟩ = some (.slice F e.length fc))
            (go_keep)
            (first
              | (go_at_call 40; (with_reducible refine Calls.mono (clone_any F e.length fc e _ ?_ (by omega)) ?_); (first | exact HE2.out | exact HE2.out.keep hy0); rintro e' wx ⟨vx, rfl, hownx, hbx⟩; obtain ⟨Ax, cx, rfl, hq1, hq2, hq3⟩ := hownx.at_ strE_ok; clear hq1 hq2 hq3; have hx0 : Below w0.heap.size w0 wx := (by first | exact below_undrew hbx | exact hy0.trans (hbx.mono hy0.size)); have kx0 := (hx0.cell (p := ⟨P, 0, none⟩) hz0).trans e0; have kx1 := (hx0.cell (p := ⟨P, 1, none⟩) hz0).trans e1; have kx2 := (hx0.cell (p := ⟨P, 2, none⟩) hz0).trans e2)
              | (go_at_call 40; (with_reducible refine Calls.mono (clone_any D d.length dc d _ ?_ (by omega)) ?_); (first | exact HD2.out | exact HD2.out.keep hx0); rintro e' wy ⟨vy, rfl, howny, hby⟩; obtain ⟨By, cy, rfl, hq1, hq2, hq3⟩ := howny.at_ strE_ok; clear hq1 hq2 hq3; have hy0 : Below w0.heap.size w0 wy := (by first | exact below_undrew hby | exact hx0.trans (hby.mono hx0.size)); have ky0 := (hy0.cell (p := ⟨P, 0, none⟩) hz0).trans e0; have ky1 := (hy0.cell (p := ⟨P, 1, none⟩) hz0).trans e1; have ky2 := (hy0.cell (p := ⟨P, 2, none⟩) hz0).trans e2)
              | (refine step_elems chgE_ok (by rfl) _ _ (by rfl) w1.heap.size u8 ro (by rfl) ?_ _ 1 1 [(z + mo, (Ax, e.length, cx), (By, d.length, cy))] (by rfl) ?_ (by omega) ?_ ?_ ?_; (first | exact World.ownsRow.alloc (HO0.out.below_ hy0) _ | exact World.ownsRow.alloc (HO0.out.below_ hx0) _); (first | exact one_elem (E := ChgE) wy _ | exact one_elem (E := ChgE) wx _); (simp only [List.length_singleton]; omega); (have h1 := hx0.size; have h2 := hy0.size; have h3 := hb0.size; simp; omega); intro v5 w5 hown5 hgrow5 hv5; have fin := (by first | exact turn_end hb0 HO0.out HCS0.out hblk hne hy0 ((hownx.below_ hby).base_ hb0.size) (howny.base_ (Nat.le_trans hb0.size hx0.size)) hgrow5 hown5 | exact turn_end hb0 HO0.out HCS0.out hblk hne hx0 (hownx.base_ (Nat.le_trans hb0.size hy0.size)) ((howny.below_ hbx).base_ hb0.size) hgrow5 hown5 : Owns ChgE w5 w1.heap.size v5 (ro ++ [(z + mo, (Ax, e.length, cx), (By, d.length, cy))]) ∧ ChgsOf w5 w1.heap.size (ro ++ [(z + mo, (Ax, e.length, cx), (By, d.length, cy))]) (co ++ [(z + mo, e, d)]) ∧ Below w1.heap.size w1 w5 ∧ w5.heap[P]? = some (.cells #[.int .i64 z, .slice D d.length dc, .slice F e.length fc] 55 (0, 0))); have kw0 : w5.cell? ⟨P, 0, none⟩ = some (.int .i64 z) := (by rw [cell_of_row w5 P 0 _ _ _ fin.2.2.2]; rfl); have kw1 : w5.cell? ⟨P, 1, none⟩ = some (.slice D d.length dc) := (by rw [cell_of_row w5 P 1 _ _ _ fin.2.2.2]; rfl); have kw2 : w5.cell? ⟨P, 2, none⟩ = some (.slice F e.length fc) := (by rw [cell_of_row w5 P 2 _ _ _ fin.2.2.2]; rfl); have FIN := Lib.hid fin; clear fin hown5 hgrow5 hv5))
          all_goals
            go_wp2_with fail
            go_meet
            exact ⟨_, FIN.out⟩
        case rest =>
          obtain ⟨ro', hown', hcs', hb', hblk'⟩ := hcut
          have d1 : wc.cell? ⟨P, 1, none⟩ = some (.slice D d.length dc) := by rw [cell_of_row wc P 1 _ _ _ hblk']; rfl
          have d2 : wc.cell? ⟨P, 2, none⟩ = some (.slice F e.length fc) := by rw [cell_of_row wc P 2 _ _ _ hblk']; rfl
          have HOW := Lib.hid hown'; clear hown'
          have HCS2 := Lib.hid hcs'; clear hcs' hblk hblk'
          have HSH : Hid ((co ++ [(z + mo, e, d)]).length = k + 1 ∧ ShortC (co ++ [(z + mo, e, d)])) := by
            have h1 := HCO.out.1
            refine ⟨by simp [h1], by simp; omega, fun c hc => ?_⟩
            rcases List.mem_append.1 hc with hc | hc
            · exact HCO.out.2.2 c hc
            · rw [List.mem_singleton] at hc; subst hc; exact ⟨l2, l1⟩
          have g2 : IntKind.i64.wrap ((e.length : Int) - (d.length : Int)) = (e.length : Int) - (d.length : Int) := IntWalk.i64_in _ (by omega)
          have g3 : IntKind.i64.wrap (mo + ((e.length : Int) - (d.length : Int))) = mo + ((e.length : Int) - (d.length : Int)) := IntWalk.i64_in _ (by omega)
          go_wp2_with fail
          go_roundg (gk - 1)
          case measure => have := HK.out; omega
          case rel => exact ⟨k + 1, mo + ((e.length : Int) - (d.length : Int)), ro', _, show k + 1 + (gk - 1) = n by have := HK.out; omega, by go_num, by go_num, by omega, by omega, HOW.out, HCS2.out, hb', HSH.out⟩
      · have hown := HO.out
        go_wp2_with fail
        go_ret2
        exact ⟨_, 0, rfl, below_trans' hb1 hb, fun _ => ⟨ro, co, hown.base_ hz1, HCS.out.base hz1, HCO.out.2⟩⟩
  · have hzf : (z6 != 0) = true := by simpa using hz
    go_wp2_with fail
    go_ret2
    exact ⟨_, z6, rfl, hb1, fun h => absurd h hz⟩
end Go.Proofs.YtmaimojpjepmjaaGreatDoor
