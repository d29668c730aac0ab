
/-
  chaseref1.deedOf.
-/
import Derived.Test.YthogkcgklakibaaGreatDoorDdOf
namespace Go.Proofs.YthogkcgklakibaaGreatDoor
open Go.RowKit
attribute [local go_sem ↓] Go.wp_at_zero Go.wp_at_succ

/-- The zero deed. -/
def zeroD : Deed := ⟨zeroB, 0, 0, 0, zeroB, zeroB, zeroB, 0, 0, zeroB, 0, zeroB⟩
def DeedOfPost (w : World) (l : List Deed) (s : ByteArray) (z : Int) (e : Ending) (w' : World) : Prop :=
  ((∃ x ∈ l, x.site = s ∧ x.no = z ∧ e = .returned (.tuple #[x.v, .bool true])) ∨ ((∀ x ∈ l, ¬ (x.site = s ∧ x.no = z)) ∧ e = .returned (.tuple #[zeroD.v, .bool false]))) ∧ Below w.heap.size w w'
theorem hasSt_true {s : ByteArray} {z : Int} {x : Deed} (h : hasSt s z x = true) : x.site = s ∧ x.no = z := by
  simpa [hasSt] using h
theorem hasSt_false {s : ByteArray} {z : Int} {x : Deed} (h : hasSt s z x = false) : ¬ (x.site = s ∧ x.no = z) := by
  rintro ⟨h1, h2⟩
  simp [hasSt, h1, h2] at h
set_option maxHeartbeats 1600000 in
set_option maxRecDepth 100000 in
theorem deedOf_any (A : Option Addr) (n c : Nat) (l : List Deed) (s : ByteArray) (z : Int) (w : World) (hA : DeedsAt w A n c l) (hn : n ≤ 100000) :
    Calls Tryz.prog 74 #[.slice A n c, .agg #[.string s, .int .i64 z]] w (DeedOfPost w l s z) := by
  have hb1 : Below w.heap.size w (w.alloc (.cells #[.string s, .int .i64 z] 36)) := (Below.refl _ _).alloc (Nat.le_refl _) _
  have HS1 : Hid (StB (w.alloc (.cells #[.string s, .int .i64 z] 36)) w.heap.size s z) := heap_alloc_new w _
  have hb2 : Below w.heap.size w ((w.alloc (.cells #[.string s, .int .i64 z] 36)).alloc (.cells #[.string ⟨#[]⟩, .int .i64 0, .int .i64 0, .int .i64 0, .string ⟨#[]⟩, .string ⟨#[]⟩, .string ⟨#[]⟩, .int .i64 0, .int .i64 0, .string ⟨#[]⟩, .int .i64 0, .string ⟨#[]⟩] 40)) := hb1.alloc hb1.size _
  have HZ2 : Hid (DeedAt ((w.alloc (.cells #[.string s, .int .i64 z] 36)).alloc (.cells #[.string ⟨#[]⟩, .int .i64 0, .int .i64 0, .int .i64 0, .string ⟨#[]⟩, .string ⟨#[]⟩, .string ⟨#[]⟩, .int .i64 0, .int .i64 0, .string ⟨#[]⟩, .int .i64 0, .string ⟨#[]⟩] 40)) (w.alloc (.cells #[.string s, .int .i64 z] 36)).heap.size zeroD) := deed_new _ zeroD
  have HS2 := Lib.hid (HS1.out.keep ((Below.refl _ _).alloc (Nat.le_refl _) (.cells #[.string ⟨#[]⟩, .int .i64 0, .int .i64 0, .int .i64 0, .string ⟨#[]⟩, .string ⟨#[]⟩, .string ⟨#[]⟩, .int .i64 0, .int .i64 0, .string ⟨#[]⟩, .int .i64 0, .string ⟨#[]⟩] 40)))
  have HA2 := Lib.hid (ElemsAt.keep hA hb2)
  have HB := Lib.hid hb2
  have hsz : (w.alloc (.cells #[.string s, .int .i64 z] 36)).heap.size = w.heap.size + 1 := by simp
  rw [hsz] at HZ2
  have HN := Lib.hid hA.1
  clear hb1 hb2 hA hsz HS1
  go_enter Tryz.func74, Tryz.ntmps74
  go_upto_region 1 with (fail)
  generalize (w.alloc (.cells #[.string s, .int .i64 z] 36)).alloc (.cells #[.string ⟨#[]⟩, .int .i64 0, .int .i64 0, .int .i64 0, .string ⟨#[]⟩, .string ⟨#[]⟩, .string ⟨#[]⟩, .int .i64 0, .int .i64 0, .string ⟨#[]⟩, .int .i64 0, .string ⟨#[]⟩] 40) = w2 at *
  obtain ⟨B, hB⟩ : ∃ B, B = w.heap.size := ⟨_, rfl⟩
  obtain ⟨Z, hZ⟩ : ∃ Z, Z = w.heap.size + 1 := ⟨_, rfl⟩
  rw [← hB] at HS2 ⊢
  rw [← hZ] at HZ2
  try rw [hB, ← hZ]
  try rw [← hB]
  have HBZ : Hid (w.heap.size ≤ Z) := by show _ ≤ _; omega
  clear hB hZ
  have HIX := Lib.hid (idxOf_any A n c l B s z w2 HA2.out hn (fun x hx wx hb => deedOf1_any B s z x wx (HS2.out.keep hb)))
  go_wp2_with fail
  refine HIX.out.mono ?_
  rintro e w3 ⟨⟨r, rfl, hr⟩, hb3⟩
  have HB3 := Lib.hid (HB.out.trans (hb3.mono HB.out.size))
  have HZ3 := Lib.hid (HZ2.out.keep hb3)
  have HA3 := Lib.hid (ElemsAt.keep HA2.out hb3)
  have HZL : Hid (Z < w3.heap.size) := HZ3.out.lt
  clear hb3 HIX HS2 HZ2 HA2 HB
  obtain ⟨z0, z1, z2, z3, z4, z5, z6, z7, z8, z9, z10, z11⟩ := HZ3.out.c
  obtain ⟨f0, f1, f2, f3, f4, f5, f6, f7, f8, f9, f10, f11⟩ := HZ3.out.f
  rcases hr with ⟨rfl, hno⟩ | ⟨k, x, rfl, hx, hp⟩
  · have HNO := Lib.hid hno
    clear hno
    go_wp2_with fail
    have HW := Lib.hid (HZ3.out.setAll zeroD)
    have HBW := Lib.hid (below_set12 HB3.out HBZ.out zeroD)
    simp only [zeroD, zeroB] at HW HBW
    obtain ⟨d0, d1, d2, d3, d4, d5, d6, d7, d8, d9, d10, d11⟩ := HW.out.c
    exact bodyPost_ret (v := .tuple #[zeroD.v, .bool false]) (by simp [results, Tryz.results74, go_sem, Deed.v, zeroD, zeroB, d0, d1, d2, d3, d4, d5, d6, d7, d8, d9, d10, d11]) rfl ⟨.inr ⟨fun x hx => hasSt_false (HNO.out x hx), rfl⟩, HBW.out⟩
  · have hkl := (List.getElem?_eq_some_iff.1 hx).1
    have hkn : k < n := by rw [HN.out]; exact hkl
    obtain ⟨gA, off, rfl, hgA, hcA⟩ := HA3.out.deed (by omega)
    obtain ⟨c0, c1, c2, c3, c4, c5, c6, c7, c8, c9, c10, c11⟩ := hcA k x hx
    have HX := Lib.hid hx
    have HP := Lib.hid hp
    clear hcA hx hp hgA hkl
    go_wp2_with fail
    have HW := Lib.hid (HZ3.out.setAll x)
    have HBW := Lib.hid (below_set12 HB3.out HBZ.out x)
    
    obtain ⟨d0, d1, d2, d3, d4, d5, d6, d7, d8, d9, d10, d11⟩ := HW.out.c
    exact bodyPost_ret (v := .tuple #[x.v, .bool true]) (by simp [results, Tryz.results74, go_sem, Deed.v, d0, d1, d2, d3, d4, d5, d6, d7, d8, d9, d10, d11]) rfl ⟨.inl ⟨x, List.mem_of_getElem? HX.out, (hasSt_true HP.out).1, (hasSt_true HP.out).2, rfl⟩, HBW.out⟩
end Go.Proofs.YthogkcgklakibaaGreatDoor
