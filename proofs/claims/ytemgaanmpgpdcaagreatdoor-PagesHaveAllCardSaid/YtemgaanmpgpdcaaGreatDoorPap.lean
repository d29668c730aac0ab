
/-
  Papers(1) makes at most one item, of a short text; PaperText makes a text of at most 20001 bytes.
-/
import Derived.Test.YtemgaanmpgpdcaaGreatDoorElems
import Derived.Test.YtemgaanmpgpdcaaGreatDoorShelf
import Derived.Deep.RegionHeld3
namespace Go.Proofs.YtemgaanmpgpdcaaGreatDoor
open Go.RowKit

/-- An item: its kind, when it is from, its id, custodian, name, parent, text. -/
structure Itm where
  id : ByteArray
  cu : ByteArray
  kind : Int
  name : ByteArray
  at_ : Int
  par : ByteArray
  text : ByteArray
def Itm.cells (x : Itm) : List Value := [.string x.id, .string x.cu, .int .i64 x.kind, .string x.name, .int .i64 x.at_, .string x.par, .string x.text]
def ItemE : Elem Itm := ⟨83, 79, 7, 96, .agg #[.string ⟨#[]⟩, .string ⟨#[]⟩, .int .i64 0, .string ⟨#[]⟩, .int .i64 0, .string ⟨#[]⟩, .string ⟨#[]⟩], Itm.cells⟩
theorem itemE_ok : ItemE.Ok := ⟨fun _ => rfl, fun x u hu => by
  have hm : u ∈ [Value.string x.id, .string x.cu, .int .i64 x.kind, .string x.name, .int .i64 x.at_, .string x.par, .string x.text] := hu
  simp only [List.mem_cons, List.not_mem_nil, or_false] at hm
  rcases hm with h | h | h | h | h | h | h <;> (subst h; rfl), by decide, by decide, by kernel_rfl, by kernel_rfl, Tryz.underlying79⟩
/-- Block P holds an item. -/
def ItemAt (w : World) (P : Nat) (x : Itm) : Prop := w.heap[P]? = some (.cells x.cells.toArray 83 (0, 0))
theorem ItemAt.lt {w : World} {P : Nat} {x : Itm} (h : ItemAt w P x) : P < w.heap.size := (Array.getElem?_eq_some_iff.1 h).1
theorem ItemAt.row_ {w w' : World} {P g : Nat} {x : Itm} (h : ItemAt w P x) (hg : w.grownBy w' (some g)) (hne : P ≠ g) : ItemAt w' P x := (hg.block P h.lt (by simp; omega)).trans h
theorem ItemAt.c {w : World} {P : Nat} {x : Itm} (h : ItemAt w P x) : w.cell? ⟨P, 0, none⟩ = some (.string x.id) ∧ w.cell? ⟨P, 1, none⟩ = some (.string x.cu) ∧ w.cell? ⟨P, 2, none⟩ = some (.int .i64 x.kind) ∧ w.cell? ⟨P, 3, none⟩ = some (.string x.name) ∧ w.cell? ⟨P, 4, none⟩ = some (.int .i64 x.at_) ∧ w.cell? ⟨P, 5, none⟩ = some (.string x.par) ∧ w.cell? ⟨P, 6, none⟩ = some (.string x.text) ∧ w.frozen? ⟨P, 6, none⟩ = false := by
  refine ⟨?_, ?_, ?_, ?_, ?_, ?_, ?_, by unfold ItemAt at h; simp [World.frozen?, h]⟩ <;> (rw [cell_of_row w P _ _ _ _ h]; rfl)
theorem ItemAt.setText {w : World} {P : Nat} {x : Itm} (h : ItemAt w P x) (t : ByteArray) : ItemAt (w.setCell ⟨P, 6, none⟩ (.string t)) P { x with text := t } := by
  unfold ItemAt at *
  simp [World.setCell, Array.getElem?_modify, h, Itm.cells]
theorem below_undrw {w w' : World} (h : Below w.drew.heap.size w.drew w') : Below w.heap.size w w' := ⟨h.os, h.tape, h.output, h.size, h.block⟩
theorem grown_undrw {w w' : World} {r : Option Nat} (h : w.drew.grownBy w' r) : w.grownBy w' r := ⟨h.os, h.tape, h.output, h.size, h.block⟩
theorem StreamAt.drewN {w : World} {g : Nat} {A : Option Addr} {n c K : Nat} (h : StreamAt w g A n c K) (q : Nat) : StreamAt (w.drewN q) g A n c K := ⟨h.blk, h.row, h.big⟩
theorem rep_size (u : List UInt8) (z : Nat) : (⟨(Lib.repeatL u z).toArray⟩ : ByteArray).size = z * u.length := by
  have h := Lib.repeatL_length u z
  simp only [ByteArray.size, List.size_toArray]
  rw [h]
theorem one6 {a b : ByteArray} (ha : a.size ≤ 90) (hb : b.size ≤ 90) : ∀ r ∈ [(⟨#[111, 110, 101]⟩ : ByteArray), ⟨#[115, 101, 99, 114, 101, 116, 32, 119, 111, 114, 100, 115]⟩, ⟨#[]⟩, ⟨#[195, 169, 116, 195, 169, 32, 120]⟩, a, b], r.size ≤ 90 := by
  intro r hr
  simp only [List.mem_cons, List.not_mem_nil, or_false] at hr
  rcases hr with rfl | rfl | rfl | rfl | rfl | rfl
  · decide
  · decide
  · decide
  · decide
  · exact ha
  · exact hb
/-- Three numbers in a block of their own, beside a stream. -/
structure Pick3 (W : World) (g : Nat) (A : Option Addr) (n c K B : Nat) : Prop where
  st : StreamAt W g A n c K
  ne : g ≠ B
  lt : B < W.heap.size
  cell : ∀ j, j < 3 → W.cell? ⟨B, j, none⟩ = some (.int .i64 ([79, 80, 81].getD j 0))
theorem Pick3.new {W : World} {g : Nat} {A : Option Addr} {n c K : Nat} (h : StreamAt W g A n c K) : Pick3 (W.alloc (.cells #[.int .i64 79, .int .i64 80, .int .i64 81] 3)) g A n c K W.heap.size :=
  ⟨h.alloc _, by have := h.lt; omega, by simp, fun j hj => by
    rw [World.cell?_alloc_at _ _ _ _ rfl]
    match j, hj with
    | 0, _ => rfl
    | 1, _ => rfl
    | 2, _ => rfl⟩
theorem Pick3.keep {W W' : World} {g : Nat} {A : Option Addr} {n c K B : Nat} (h : Pick3 W g A n c K B) (hb : Below W.heap.size W W') : Pick3 W' g A n c K B :=
  ⟨h.st.below hb, h.ne, Nat.lt_of_lt_of_le h.lt hb.size, fun j hj => (hb.cell (p := ⟨B, j, none⟩) h.lt).trans (h.cell j hj)⟩
theorem Pick3.drewN {W : World} {g : Nat} {A : Option Addr} {n c K B : Nat} (h : Pick3 W g A n c K B) (q : Nat) : Pick3 (W.drewN q) g A n c K B := ⟨h.st.drewN q, h.ne, h.lt, h.cell⟩
theorem pick3_any (g : Nat) (A : Option Addr) (n c K B : Nat) (W : World) (h : Pick3 W g A n c K B) (hK : K ≤ 1000000) :
    Calls Tryz.prog 29 #[.pointer (some ⟨g, 0, none⟩), .slice (some ⟨B, 0, none⟩) 3 3] W fun e w' => (∃ z : Nat, e = .returned (.int .i64 (z : Int)) ∧ z ≤ 81) ∧ StreamAt w' g A n c (K + 1) ∧ W.grownBy w' (some g) := by
  refine (pick_any g A n c K [79, 80, 81] B 3 3 W h.st hK rfl (by omega) (by omega) h.ne h.cell).mono ?_
  rintro e w' ⟨r, rfl, hr, hs, hg⟩
  have hr2 : 0 ≤ r ∧ r ≤ 81 := by simp at hr; omega
  obtain ⟨z, rfl⟩ := Int.eq_ofNat_of_zero_le hr2.1
  exact ⟨⟨z, rfl, by omega⟩, hs, hg⟩
def PapPost (w : World) (g : Nat) (A : Option Addr) (n c K : Nat) (e : Ending) (w' : World) : Prop :=
  ∃ (v : Value) (l : List Itm), e = .returned v ∧ Owns ItemE w' w.heap.size v l ∧ l.length ≤ 1 ∧ (∀ x ∈ l, x.text.size ≤ 1000) ∧ StreamAt w' g A n c (K + 40) ∧ w.grownBy w' (some g)
set_option maxHeartbeats 3200000 in
set_option maxRecDepth 100000 in
theorem papers_any (g : Nat) (A : Option Addr) (n c K : Nat) (w : World) (hs : StreamAt w g A n c K) (hK : K ≤ 10000) :
    Calls Tryz.prog 45 #[.pointer (some ⟨g, 0, none⟩), .int .i64 1] w (PapPost w g A n c K) := by
  have hgw := hs.lt
  go_enter Tryz.func45, Tryz.ntmps45
  go_wp2_with fail
  refine (next_any g A n c K 2 w hs (by omega) (by omega)).mono ?_
  rintro e w1 ⟨N, rfl, h0, h1, hs1, hg1⟩
  have h1' := h1 (by omega)
  clear h1
  obtain ⟨N, rfl⟩ := Int.eq_ofNat_of_zero_le h0
  have hN : N ≤ 1 := by omega
  have HS1 := Lib.hid hs1
  have HG1 := Lib.hid hg1
  clear hs hs1 hg1 h0 h1'
  go_wp2_with fail
  go_loopg [5, 13] N (fun gk v i wr => ∃ (k : Nat) (l : List Itm), Hid (k + gk = N) ∧ i = .int .i64 k ∧ Hid (Owns ItemE wr w.heap.size v l) ∧ Hid (l.length = k) ∧ Hid (∀ x ∈ l, x.text.size ≤ 1000) ∧ Hid (StreamAt wr g A n c (K + 1 + 39 * k)) ∧ Hid (w.grownBy wr (some g)) ∧ Hid (k = 0 → v = .slice none 0 0 ∧ l = []))
  case atStart => exact ⟨0, [], show 0 + N = N by omega, rfl, Owns.nil _ _, show _ = _ from rfl, show ∀ _ _, _ from (fun _ h => by cases h), HS1.out, HG1.out, show _ → _ from fun _ => ⟨rfl, rfl⟩⟩
  case round =>
    obtain ⟨k, l, HK, rfl, HO, HLE, HAL, HS, HG, HNIL⟩ := hrel
    clear HS1 HG1
    have hkN : k ≤ N := by have := HK.out; omega
    by_cases hlt : k < N
    · obtain rfl : k = 0 := by omega
      obtain ⟨rfl, rfl⟩ := HNIL.out rfl
      clear HO HLE HAL HNIL
      have hsr := HS.out
      have hgl := hsr.lt
      have p1 : ∀ (wx : World), (Op.stringOp .add ⟨#[105]⟩ (Utf8.encode 97)).run Tryz.prog wx = .ok (.string (⟨#[105]⟩ ++ Utf8.encode 97)) wx := fun wx => run_string_add_sum wx _ _ (by have := encode_size_le 97; have : (⟨#[105]⟩ : ByteArray).size = 1 := rfl; omega)
      have e1 : IntKind.i32.wrap 97 = 97 := by decide
      generalize (⟨#[105]⟩ ++ Utf8.encode 97 : ByteArray) = id1 at *
      go_wp2_with fail
      refine (one_any g A n c _ [⟨#[97, 110, 110]⟩, ⟨#[98, 111]⟩] wr.heap.size 2 2 _ (hsr.alloc _) (by omega) rfl (by omega) (by omega) (by omega) (fun j hj => cells_strings wr [⟨#[97, 110, 110]⟩, ⟨#[98, 111]⟩] _ j hj)).mono ?_
      rintro e w2 ⟨cu, rfl, _, hs2, hg2⟩
      have HG2 := Lib.hid (grown_trans (grown_alloc HG.out _) hg2)
      have hgl2 := hs2.lt
      clear hg2 HS HG hsr hgl
      go_wp2_with fail
      refine (pick_any g A n c _ [1, 3, 2, 4] w2.heap.size 4 4 _ (hs2.alloc _) (by omega) rfl (by omega) (by omega) (by omega) (fun j hj => ?_)).mono ?_
      · rw [World.cell?_alloc_at _ _ _ _ rfl]
        match j, hj with
        | 0, _ => rfl
        | 1, _ => rfl
        | 2, _ => rfl
        | 3, _ => rfl
      rintro e w3 ⟨kd, rfl, _, hs3, hg3⟩
      have HG3 := Lib.hid (grown_trans (grown_alloc HG2.out _) hg3)
      have hgl3 := hs3.lt
      clear hg3 hs2 HG2 hgl2
      go_wp2_with fail
      refine (pick_any g A n c _ [0, 5, 5, 40, 1440] w3.heap.size 5 5 _ (hs3.alloc _) (by omega) rfl (by omega) (by omega) (by omega) (fun j hj => ?_)).mono ?_
      · rw [World.cell?_alloc_at _ _ _ _ rfl]
        match j, hj with
        | 0, _ => rfl
        | 1, _ => rfl
        | 2, _ => rfl
        | 3, _ => rfl
        | 4, _ => rfl
      rintro e w4 ⟨at_, rfl, _, hs4, hg4⟩
      have HG4 := Lib.hid (grown_trans (grown_alloc HG3.out _) hg4)
      have hgl4 := hs4.lt
      clear hg4 hs3 HG3 hgl3
      go_wp2_with fail
      refine (one_any g A n c _ [⟨#[]⟩, ⟨#[120]⟩] w4.heap.size 2 2 _ (hs4.alloc _) (by omega) rfl (by omega) (by omega) (by omega) (fun j hj => cells_strings w4 [⟨#[]⟩, ⟨#[120]⟩] _ j hj)).mono ?_
      rintro e w5 ⟨nm, rfl, _, hs5, hg5⟩
      have HG5 := Lib.hid (grown_trans (grown_alloc HG4.out _) hg5)
      have hgl5 := hs5.lt
      clear hg5 hs4 HG4 hgl4
      go_upto_region 6 with (fail)
      have HIT : Hid (ItemAt (w5.alloc (.cells #[.string id1, .string cu, .int .i64 kd, .string nm, .int .i64 at_, .string ⟨#[]⟩, .string ⟨#[]⟩] 83)) w5.heap.size ⟨id1, cu, kd, nm, at_, ⟨#[]⟩, ⟨#[]⟩⟩) := heap_alloc_new w5 _
      have hs6 := hs5.alloc (.cells #[.string id1, .string cu, .int .i64 kd, .string nm, .int .i64 at_, .string ⟨#[]⟩, .string ⟨#[]⟩] 83)
      have HG6 := Lib.hid (grown_alloc HG5.out (.cells #[.string id1, .string cu, .int .i64 kd, .string nm, .int .i64 at_, .string ⟨#[]⟩, .string ⟨#[]⟩] 83))
      generalize w5.alloc (.cells #[.string id1, .string cu, .int .i64 kd, .string nm, .int .i64 at_, .string ⟨#[]⟩, .string ⟨#[]⟩] 83) = w6 at *
      have hPg : w5.heap.size ≠ g := by omega
      have hPw : w.heap.size ≤ w5.heap.size := HG5.out.size
      generalize w5.heap.size = P at *
      clear hs5 HG5 hgl5
      go_wp2_with fail
      refine (next_any g A n c _ 6 _ hs6 (by omega) (by omega)).mono ?_
      rintro e w7 ⟨M, rfl, m0, m1, hs7, hg7⟩
      have m1' := m1 (by omega)
      clear m1
      obtain ⟨M, rfl⟩ := Int.eq_ofNat_of_zero_le m0
      have hM : M ≤ 5 := by omega
      have HIT7 := Lib.hid (HIT.out.row_ hg7 hPg)
      have HG7 := Lib.hid (grown_trans HG6.out hg7)
      have HS7 := Lib.hid hs7
      obtain ⟨gko, rfl⟩ : ∃ gko : Nat, gko = gk := ⟨_, rfl⟩
      clear hs6 hs7 hg7 HG6 HIT m0 m1' p1 e1
      go_wp2_with fail
      go_loopg [36] M (fun gk v wr => ∃ (j : Nat) (tx : ByteArray), Hid (j + gk = M) ∧ v = .int .i64 (j : Int) ∧ Hid (tx.size ≤ 100 * j) ∧ Hid (ItemAt wr P ⟨id1, cu, kd, nm, at_, ⟨#[]⟩, tx⟩) ∧ Hid (StreamAt wr g A n c (K + 10 + 2 * j)) ∧ Hid (w.grownBy wr (some g)))
      case atStart => exact ⟨0, ⟨#[]⟩, show 0 + M = M by omega, rfl, show _ ≤ _ by simp [ByteArray.size], HIT7.out, HS7.out.more (by omega), HG7.out⟩
      case round =>
        obtain ⟨j, tx, HJ, rfl, HTX, HIT, HS, HG⟩ := hrel
        clear HIT7 HS7 HG7
        have hjM : j ≤ M := by have := HJ.out; omega
        have htx : tx.size ≤ 600 := by have := HTX.out; omega
        by_cases hlt2 : j < M
        · have hst := HS.out
          have hPl := HIT.out.lt
          have hgl := hst.lt
          have hh := HIT.out.c
          have HHELD : Hid (∀ w', wr.grownBy w' (some g) → w'.cell? ⟨P, 6, none⟩ = some (.string tx) ∧ w'.frozen? ⟨P, 6, none⟩ = false) := fun w' hg => by
            have := (HIT.out.row_ hg hPg).c
            exact ⟨this.2.2.2.2.2.2.1, this.2.2.2.2.2.2.2⟩
          obtain ⟨hh1, hh2⟩ := HHELD.out wr (World.grownBy.refl _ _)
          clear hh
          have HRW : Hid (∀ z : Nat, z ≤ 81 → ∀ W, Calls Tryz.prog 46 #[.string ⟨#[119]⟩, .int .i64 (z : Int)] W fun e w' => (∃ r : ByteArray, e = .returned (.string r) ∧ r.size ≤ 90) ∧ Below W.heap.size W w') := fun z hz W => (Tryz.strings_Repeat ⟨#[119]⟩ z W (by omega) (by show 1 * z ≤ _; omega)).mono fun e w' h => ⟨⟨_, h.1, by rw [rep_size]; simp; omega⟩, h.2⟩
          have HRA : Hid (∀ W, Calls Tryz.prog 46 #[.string ⟨#[97, 98, 32]⟩, .int .i64 30] W fun e w' => (∃ r : ByteArray, e = .returned (.string r) ∧ r.size ≤ 90) ∧ Below W.heap.size W w') := fun W => (Tryz.strings_Repeat ⟨#[97, 98, 32]⟩ 30 W (by omega) (by decide)).mono fun e w' h => ⟨⟨_, h.1, by rw [rep_size]; simp⟩, h.2⟩
          go_wp2_with fail
          have HEL : Hid (∀ w', wr.grownBy w' (some g) → w'.cell? ⟨P, 6, none⟩ = some (.string tx) ∧ w'.frozen? ⟨P, 6, none⟩ = false) := HHELD.out
          go_region_law (first
              | (go_simp; go_at_call 29; (with_reducible refine Calls.mono (pick3_any g A n c (K + 10 + 2 * j) _ _ ?_ (by omega)) ?_); (first | exact Pick3.new (StreamAt.drewN hst 1) | exact Pick3.new hsa | exact (Pick3.new (StreamAt.drewN hst 1)).keep hba | exact ((Pick3.new hst).drewN 1).keep hba | exact (Pick3.new hst).drewN 1 | exact Pick3.new hst | exact (Pick3.new hst).keep hba | fail); rintro e wp ⟨⟨z, rfl, hz⟩, hsp, hgp0⟩; (first | have hgp : wr.grownBy wp (some g) := grown_trans hga hgp0 | have hgp : wr.grownBy wp (some g) := grown_trans (grown_alloc hga _) hgp0 | have hgp : wr.grownBy wp (some g) := grown_trans (grown_alloc (grown_drewN (World.grownBy.refl _ _) 1) _) hgp0 | have hgp : wr.grownBy wp (some g) := grown_trans (grown_drewN (grown_alloc (World.grownBy.refl _ _) _) 1) hgp0 | have hgp : wr.grownBy wp (some g) := grown_trans (grown_alloc (World.grownBy.refl _ _) _) hgp0 | fail); have kp := HEL.out wp hgp; obtain ⟨kp1, kp2⟩ := kp; have kp3 := fun (o : Obj) => (HEL.out (wp.alloc o) (grown_alloc hgp o)).1; have kp4 := fun (o : Obj) => (HEL.out (wp.alloc o) (grown_alloc hgp o)).2)
              | (go_simp; go_at_call 46; (with_reducible refine Calls.mono (HRW.out z hz _) ?_); rintro e wq ⟨⟨rw_, rfl, hrw⟩, hbq⟩; (first | have hgr : wr.grownBy wq (some g) := grown_below hgp hbq | have hgr : wr.grownBy wq (some g) := grown_below hga hbq | fail); (first | have hsq := hsp.below hbq | have hsq := hsa.below hbq | fail); have kq := HEL.out wq hgr; obtain ⟨kq1, kq2⟩ := kq; have kq3 := fun (o : Obj) => (HEL.out (wq.alloc o) (grown_alloc hgr o)).1; have kq4 := fun (o : Obj) => (HEL.out (wq.alloc o) (grown_alloc hgr o)).2)
              | (go_simp; go_at_call 46; (with_reducible refine Calls.mono (HRA.out _) ?_); rintro e wa ⟨⟨ra, rfl, hra⟩, hba⟩; (first | have hga : wr.grownBy wa (some g) := grown_below hgr hba | have hga : wr.grownBy wa (some g) := grown_below hgp hba | have hga : wr.grownBy wa (some g) := grown_below (grown_drewN (World.grownBy.refl _ _) 1) hba | have hga : wr.grownBy wa (some g) := grown_below (grown_alloc (grown_drewN (World.grownBy.refl _ _) 1) _) hba | have hga : wr.grownBy wa (some g) := grown_below (grown_drewN (grown_alloc (World.grownBy.refl _ _) _) 1) hba | have hga : wr.grownBy wa (some g) := grown_below (grown_alloc (World.grownBy.refl _ _) _) hba | have hga : wr.grownBy wa (some g) := grown_below (World.grownBy.refl _ _) hba | fail); (first | have hsa := hsq.below hba | have hsa := hsp.below hba | have hsa := (StreamAt.drewN hst 1).below hba | have hsa := ((StreamAt.drewN hst 1).alloc _).below hba | have hsa := (StreamAt.drewN (hst.alloc _) 1).below hba | have hsa := hst.below hba | have hsa := (hst.alloc _).below hba | fail); have ka := HEL.out wa hga; obtain ⟨ka1, ka2⟩ := ka; have ka3 := fun (o : Obj) => (HEL.out (wa.alloc o) (grown_alloc hga o)).1; have ka4 := fun (o : Obj) => (HEL.out (wa.alloc o) (grown_alloc hga o)).2)
              | (go_simp; go_at_call 28; (with_reducible refine Calls.mono (one_any g A n c (K + 10 + 2 * j + 1) [⟨#[111, 110, 101]⟩, ⟨#[115, 101, 99, 114, 101, 116, 32, 119, 111, 114, 100, 115]⟩, ⟨#[]⟩, ⟨#[195, 169, 116, 195, 169, 32, 120]⟩, rw_, ra] _ 6 6 _ ?_ (by omega) rfl (by omega) (by omega) ?_ ?_) ?_); (first | exact hsa.alloc _ | exact hsq.alloc _ | fail); (first | (have h1 := hsa.lt; have h2 := hsq.lt; omega) | (have h1 := hsq.lt; omega) | (have h1 := hsa.lt; omega)); (exact fun j hj => cells_strings _ [⟨#[111, 110, 101]⟩, ⟨#[115, 101, 99, 114, 101, 116, 32, 119, 111, 114, 100, 115]⟩, ⟨#[]⟩, ⟨#[195, 169, 116, 195, 169, 32, 120]⟩, rw_, ra] _ j hj); rintro e wo ⟨ro, rfl, hro, hso, hgo0⟩; have hzo : ro.size ≤ 90 := one6 hrw hra ro hro; have hgo : wr.grownBy wo (some g) := (by first | exact grown_trans (grown_alloc hga _) hgo0 | exact grown_trans (grown_alloc hgr _) hgo0 | fail); clear hro hgo0; have ko := HEL.out wo hgo; obtain ⟨ko1, ko2⟩ := ko; have q1 := fun (wx : World) => run_string_add_sum (P := Tryz.prog) wx ro ⟨#[10]⟩ (by show _ + 1 ≤ _; omega); have q2 := fun (wx : World) => run_string_add_sum (P := Tryz.prog) wx tx (ro ++ ⟨#[10]⟩) (by rw [ByteArray.size_append]; show _ + (_ + 1) ≤ _; omega)))
          all_goals
            have HSET := Lib.hid ((HIT.out.row_ hgo hPg).setText (tx ++ (ro ++ ⟨#[10]⟩)))
            have HSS := Lib.hid ((hso.row_ (grown_setCell wo P 6 (.string (tx ++ (ro ++ ⟨#[10]⟩)))) (fun q hq => by cases hq; omega)).more (K' := K + 10 + 2 * (j + 1)) (by omega))
            have HGG := Lib.hid (grown_row (grown_trans HG.out hgo) (grown_setCell wo P 6 (.string (tx ++ (ro ++ ⟨#[10]⟩)))) (fun q hq => by cases hq; exact hPw))
            have HZZ : Hid ((tx ++ (ro ++ ⟨#[10]⟩)).size ≤ 100 * (j + 1)) := by show _ ≤ _; have := HTX.out; rw [ByteArray.size_append, ByteArray.size_append]; show _ + (_ + 1) ≤ _; omega
            go_wp2_with fail
            go_roundg (gk - 1)
            case measure => have := HJ.out; omega
            case rel => exact ⟨j + 1, _, show j + 1 + (gk - 1) = M by have := HJ.out; omega, by go_num, HZZ.out, HSET.out, HSS.out, HGG.out⟩
        · go_wp2_with fail
          refine (flip_any g A n c _ 8 _ HS.out (by omega) (by omega)).mono ?_
          rintro e w8 ⟨b8, rfl, hs8, hg8⟩
          have HIT8 := Lib.hid (HIT.out.row_ hg8 hPg)
          have HG8 := Lib.hid (grown_trans HG.out hg8)
          have HS8 := Lib.hid hs8
          clear hs8 hg8 HIT HS HG
          go_upto_if 53 with (fail)
          go_cut [] (fun wx => ∃ (ty : ByteArray), Hid (ty.size ≤ 1000) ∧ Hid (ItemAt wx P ⟨id1, cu, kd, nm, at_, ⟨#[]⟩, ty⟩) ∧ Hid (StreamAt wx g A n c (K + 10 + 2 * j + 2)) ∧ Hid (w.grownBy wx (some g)))
          case first =>
            cases b8 with
            | false =>
              go_wp2_with fail
              go_meet
              exact ⟨tx, show _ ≤ _ by omega, HIT8, HS8.out.more (by omega), HG8⟩
            | true =>
              have hgl8 := HS8.out.lt
              go_wp2_with fail
              refine (pick_any g A n c _ [49, 50, 51, 101] w8.heap.size 4 4 _ (HS8.out.alloc _) (by omega) rfl (by omega) (by omega) (by omega) (fun j hj => ?_)).mono ?_
              · rw [World.cell?_alloc_at _ _ _ _ rfl]
                match j, hj with
                | 0, _ => rfl
                | 1, _ => rfl
                | 2, _ => rfl
                | 3, _ => rfl
              rintro e w9 ⟨z, rfl, hz, hs9, hg9⟩
              have hzr : 0 ≤ z ∧ z ≤ 101 := by simp at hz; omega
              obtain ⟨z, rfl⟩ := Int.eq_ofNat_of_zero_le hzr.1
              have hz9 : z ≤ 101 := by omega
              have HIT9 := Lib.hid ((ItemAt.row_ (g := g) HIT8.out (grown_trans (grown_alloc (World.grownBy.refl _ _) _) hg9) hPg))
              have HG9 := Lib.hid (grown_trans (grown_alloc HG8.out _) hg9)
              clear hz hzr hg9 HIT8 HG8
              go_wp2_with fail
              refine (Tryz.strings_Repeat ⟨#[108, 105, 110, 101, 10]⟩ z _ (by omega) (by show 5 * z ≤ _; omega)).mono ?_
              rintro e w10 ⟨rfl, hb10⟩
              have HRS : Hid ((⟨(Lib.repeatL (⟨#[108, 105, 110, 101, 10]⟩ : ByteArray).data.toList z).toArray⟩ : ByteArray).size ≤ 1000) := by show _ ≤ _; rw [rep_size]; simp; omega
              generalize (⟨(Lib.repeatL (⟨#[108, 105, 110, 101, 10]⟩ : ByteArray).data.toList z).toArray⟩ : ByteArray) = big at *
              have HIT10 := Lib.hid (ItemAt.row_ (g := g) HIT9.out (grown_below (World.grownBy.refl _ _) hb10) hPg)
              have HG10 := Lib.hid (grown_below HG9.out hb10)
              have HS10 := Lib.hid (hs9.below hb10)
              clear hs9 hb10 HIT9 HG9
              have hh := HIT10.out.c.2.2.2.2.2.2
              obtain ⟨hh1, hh2⟩ := hh
              go_wp2_with fail
              go_meet
              exact ⟨big, HRS, HIT10.out.setText big, (HS10.out.row_ (grown_setCell _ _ _ _) (fun q hq => by cases hq; omega)).more (by omega), grown_row HG10.out (grown_setCell _ _ _ _) (fun q hq => by cases hq; exact hPw)⟩
          case rest =>
            obtain ⟨ty, HTY, HITY, HSY, HGY⟩ := hcut
            clear HIT8 HS8 HG8
            obtain ⟨c0, c1, c2, c3, c4, c5, c6, c7⟩ := HITY.out.c
            have hwz := HGY.out.size
            have HOY : Hid (Owns ItemE (wc.alloc (.cells (ItemE.enc ⟨id1, cu, kd, nm, at_, ⟨#[]⟩, ty⟩).toArray 83)) w.heap.size (.slice none 0 0) []) := Owns.nil _ _
            go_wp2_with (at_builtin; refine append_elems itemE_ok rfl _ _ rfl w.heap.size _ [] rfl HOY.out (some ⟨wc.heap.size, 0, none⟩) 1 1 [⟨id1, cu, kd, nm, at_, ⟨#[]⟩, ty⟩] rfl (one_elem (E := ItemE) wc _) (by simp) (by simp; omega) ?_; intro v11 w11 hown11 hgrow11 _; rw [List.nil_append] at hown11)
            have hg11 : w.grownBy w11 (some g) := grown_row (grown_alloc HGY.out _) hgrow11 (fun i hi => by cases hi)
            have hs11 : StreamAt w11 g A n c (K + 1 + 39) := ((HSY.out.alloc _).row_ hgrow11 (fun i hi => by cases hi)).more (by omega)
            have HO11 := Lib.hid hown11
            clear hown11 hgrow11
            go_wp2_with fail
            go_roundg (gko - 1)
            case measure => have := HK.out; omega
            case rel => exact ⟨1, _, show 1 + (gko - 1) = N by have := HK.out; omega, by go_num, HO11.out, show _ = _ from rfl, show ∀ _ _, _ from (fun x hx => by rw [List.mem_singleton] at hx; subst hx; exact HTY.out), hs11, hg11, show _ → _ from fun h => by cases h⟩
    · go_wp2_with fail
      go_ret
      exact ⟨_, l, rfl, HO.out, by have := HLE.out; omega, HAL.out, HS.out.more (by omega), HG.out⟩
end Go.Proofs.YtemgaanmpgpdcaaGreatDoor
