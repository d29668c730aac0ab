
/-
  placed accepts an item of right items.
-/
import Derived.Test.YtccllmkijnmooaaGreatDoorChkMap
namespace Go.Proofs.YtccllmkijnmooaaGreatDoor
open Go.RowKit Go.Maps

set_option maxHeartbeats 3200000 in
set_option maxRecDepth 100000 in
theorem placed_ok (M i : Nat) (x : Itm) (l : List Itm) (w : World) (hM : IMapAt w M l) (hl : SetI l) (hx : l[i]? = some x) :
    Calls Tryz.prog 34 #[.map (some M), x.v] w (OkPost w) := by
  have HL := Lib.hid hl
  have HX := Lib.hid hx
  have HIL : Hid (i < l.length) := (List.getElem?_eq_some_iff.1 hx).1
  have hmem := List.mem_of_getElem? hx
  have hps := ((hl.ok.each x hmem).small).2.2.2.1
  have hb1 : Below w.heap.size w (w.alloc (.cells #[.string x.id, .string x.cu, .int .i64 x.kind, .string x.name, .int .i64 x.at_, .string x.par, .string x.text] 35)) := (Below.refl _ _).alloc (Nat.le_refl _) _
  have HI1 : Hid (ItemAt (w.alloc (.cells #[.string x.id, .string x.cu, .int .i64 x.kind, .string x.name, .int .i64 x.at_, .string x.par, .string x.text] 35)) w.heap.size x) := item_new w x
  have HM1 := Lib.hid (hM.below hb1)
  have HB1 := Lib.hid hb1
  have HAB := Lib.hid (fun wx (hb : Below (w.alloc (.cells #[.string x.id, .string x.cu, .int .i64 x.kind, .string x.name, .int .i64 x.at_, .string x.par, .string x.text] 35)).heap.size (w.alloc (.cells #[.string x.id, .string x.cu, .int .i64 x.kind, .string x.name, .int .i64 x.at_, .string x.par, .string x.text] 35)) wx) => aboveP_any M i x l wx (HM1.out.below hb) hl hx)
  have hdeep := hl.ok.tree.deep i HIL.out
  unfold Itm.v at HAB
  unfold Itm.v
  clear hM hl hx hb1
  go_enter Tryz.func34, Tryz.ntmps34
  go_upto_region 1 with (fail)
  obtain ⟨P, hP⟩ : ∃ P, P = w.heap.size := ⟨_, rfl⟩
  rw [← hP] at HI1 ⊢
  generalize w.alloc (.cells #[.string x.id, .string x.cu, .int .i64 x.kind, .string x.name, .int .i64 x.at_, .string x.par, .string x.text] 35) = w1 at *
  clear hP
  obtain ⟨c0, c1, c2, c3, c4, c5, c6⟩ := HI1.out.c
  generalize (chainI l (l.length + 1) i).length = len at *
  have hli : ¬ (4 : Int) < (len : Int) := by omega
  by_cases hp : x.par.data.toList = []
  · have hlk := HM1.out.miss hps (HL.out.findEmpty hp)
    have hb2 : Below w1.heap.size w1 (w1.alloc (.cells #[.string ⟨#[]⟩, .string ⟨#[]⟩, .int .i64 0, .string ⟨#[]⟩, .int .i64 0, .string ⟨#[]⟩, .string ⟨#[]⟩] 35)) := (Below.refl _ _).alloc (Nat.le_refl _) _
    obtain ⟨q1, q2, q3⟩ := par_emptyL hp
    clear hp hmem hps
    go_upto_region 2 with (fail)
    generalize w1.alloc (.cells #[.string ⟨#[]⟩, .string ⟨#[]⟩, .int .i64 0, .string ⟨#[]⟩, .int .i64 0, .string ⟨#[]⟩, .string ⟨#[]⟩] 35) = w2 at *
    clear hlk c0 c1 c2 c3 c4 c5 c6
    obtain ⟨c0, c1, c2, c3, c4, c5, c6⟩ := (HI1.out.keep hb2).c
    go_upto_region 4 with (fail)
    clear q1 q2 q3
    go_wp2_with fail
    refine (HAB.out _ hb2).mono ?_
    rintro e w3 ⟨rfl, hb3⟩
    have HB3 := Lib.hid (HB1.out.trans ((below_trans' hb2 hb3).mono HB1.out.size))
    clear hb3 hb2 HAB c0 c1 c2 c3 c4 c5 c6
    go_wp2_with fail
    rw [show decide ((4 : Int) < (len : Int)) = false from decide_eq_false (by omega)]
    refine (when_any false 2 _).mono ?_
    rintro e w' ⟨rfl, hw⟩
    obtain rfl := hw
    go_wp2_with fail
    go_ret
    exact ⟨rfl, HB3.out⟩
  · obtain ⟨q, hq⟩ : ∃ q, findI l x.par = some q := by
      rcases HL.out.ok.par x hmem with h | h
      · exact absurd h hp
      · exact Option.isSome_iff_exists.1 h
    obtain ⟨z, hz, -, -⟩ := findI_some hq
    have HKD : Hid (z.kind = 1 ∨ z.kind = 3) := by
      obtain ⟨y, hy, hk⟩ := HL.out.ok.tree.kind i q HIL.out (by rw [parI_of HX.out hp, hq])
      rw [hz] at hy
      cases hy
      exact hk
    have hlk := HM1.out.hit hps hq hz
    have hb2 : Below w1.heap.size w1 (w1.alloc (.cells #[.string z.id, .string z.cu, .int .i64 z.kind, .string z.name, .int .i64 z.at_, .string z.par, .string z.text] 35)) := (Below.refl _ _).alloc (Nat.le_refl _) _
    have HIZ : Hid (ItemAt (w1.alloc (.cells #[.string z.id, .string z.cu, .int .i64 z.kind, .string z.name, .int .i64 z.at_, .string z.par, .string z.text] 35)) w1.heap.size z) := item_new w1 z
    obtain ⟨q1, q2, q3⟩ := par_fullL hp
    clear hp hmem hps hq hz
    go_upto_region 2 with (fail)
    obtain ⟨Q, hQ⟩ : ∃ Q, Q = w1.heap.size := ⟨_, rfl⟩
    rw [← hQ] at HIZ ⊢
    generalize w1.alloc (.cells #[.string z.id, .string z.cu, .int .i64 z.kind, .string z.name, .int .i64 z.at_, .string z.par, .string z.text] 35) = w2 at *
    clear hlk hQ c0 c1 c2 c3 c4 c5 c6
    obtain ⟨c0, c1, c2, c3, c4, c5, c6⟩ := (HI1.out.keep hb2).c
    have d2 := HIZ.out.c.2.2.1
    generalize z.kind = kd at *
    rcases HKD.out with rfl | rfl
    · go_wp2_with fail
      refine (HAB.out _ hb2).mono ?_
      rintro e w3 ⟨rfl, hb3⟩
      have HB3 := Lib.hid (HB1.out.trans ((below_trans' hb2 hb3).mono HB1.out.size))
      clear hb3 hb2 HAB c0 c1 c2 c3 c4 c5 c6
      go_wp2_with fail
      rw [show decide ((4 : Int) < (len : Int)) = false from decide_eq_false (by omega)]
      refine (when_any false 2 _).mono ?_
      rintro e w' ⟨rfl, hw⟩
      obtain rfl := hw
      go_wp2_with fail
      go_ret
      exact ⟨rfl, HB3.out⟩
    · go_wp2_with fail
      refine (HAB.out _ hb2).mono ?_
      rintro e w3 ⟨rfl, hb3⟩
      have HB3 := Lib.hid (HB1.out.trans ((below_trans' hb2 hb3).mono HB1.out.size))
      clear hb3 hb2 HAB c0 c1 c2 c3 c4 c5 c6
      go_wp2_with fail
      rw [show decide ((4 : Int) < (len : Int)) = false from decide_eq_false (by omega)]
      refine (when_any false 2 _).mono ?_
      rintro e w' ⟨rfl, hw⟩
      obtain rfl := hw
      go_wp2_with fail
      go_ret
      exact ⟨rfl, HB3.out⟩
end Go.Proofs.YtccllmkijnmooaaGreatDoor
