/-
 A text's elements. live, in plain words: what the keys of a few texts are. live: letters, marks, great ones, two that are one.
-/
import Derived.Test.YtokeamebcdhnpaaGreatDoorColMK
import Derived.Test.YtokeamebcdhnpaaGreatDoorColST
section
namespace Go.Proofs.YtokeamebcdhnpaaGreatDoor
open Go.RowKit Go.Rp Go.Shelf Go.Maps Go.Cl

theorem own_mono {w : World} {B B' : Nat} {e : TypeId} {size n : Nat} {v : Value} {xs : List Value} (h : w.ownsRow B' e size v n xs) (hb : B ≤ B') : w.ownsRow B e size v n xs :=
 ⟨h.1, h.2.imp id (fun ⟨g, cap, cur, e, hg, hr⟩ => ⟨g, cap, cur, e, Nat.le_trans hb hg, hr⟩)⟩
set_option maxRecDepth 100000 in
set_option maxHeartbeats 4000000 in
theorem c_Elements (s : ByteArray) (w : World) (hT : TabsC w) (hs : s.size ≤ 200) :
  Calls Tryz.prog 11 #[.string s] w fun e w' => ∃ v, e = .returned v ∧ w'.ownsRow w.heap.size 59 3 v (elems bookP (mostC bookP) (formT 0 s.data.toList)).length (elW (elems bookP (mostC bookP) (formT 0 s.data.toList))) ∧ Ext w w' := by
 have HF := Lib.hid (fun w hT => c_Form s 0 w hT (by omega))
 go_enter Tryz.func11, Tryz.ntmps11
 go_wp2_with fail
 refine (HF.out w hT.t).mono ?_
 rintro e w2 ⟨rfl, hx2⟩
 obtain ⟨t, ht⟩ : ∃ t : ByteArray, (⟨(formT 0 s.data.toList).toArray⟩ : ByteArray) = t := ⟨_, rfl⟩
 rw [ht]
 have HT2 := Lib.hid (show t.data.toList = formT 0 s.data.toList by rw [← ht])
 have HX2 := Lib.hid hx2
 clear hx2 ht
 go_wp2_with fail
 refine (c_els t w2 (hT.ext HX2.out) (by
  have h1 := formT_len 0 s.data.toList
  rw [len_eqC] at h1
  rw [← len_eqC, HT2.out]
  omega)).mono ?_
 rintro e w3 ⟨v3, rfl, hr3, hx3⟩
 rw [HT2.out] at hr3
 have HR3 := Lib.hid (And.intro (own_mono hr3 HX2.out.sz) (HX2.out.trans hx3))
 clear hr3 hx3
 go_wp2_with fail
 exact ret_one rfl rfl rfl ⟨v3, rfl, HR3.out.1, HR3.out.2⟩
end Go.Proofs.YtokeamebcdhnpaaGreatDoor
end

section
namespace Go.Proofs.YtokeamebcdhnpaaGreatDoor
open Go.RowKit Go.Rp Go.Shelf Go.Maps Go.Cl

def ordL : Cl.Ord := ⟨3, false, false, false⟩
theorem lv_c1 : cmpB (keyT ordL ⟨#[99, 111, 116, 101]⟩) (keyT ordL ⟨#[99, 111, 116, 195, 169]⟩) = -1 := by kernel_rfl
theorem lv_c2 : cmpB (keyT ordL ⟨#[97]⟩) (keyT ordL ⟨#[65]⟩) = -1 := by kernel_rfl
theorem lv_c3 : cmpB (keyT ordL ⟨#[99, 104]⟩) (keyT ordL ⟨#[99, 122]⟩) = 1 := by kernel_rfl
theorem lv_c4 : cmpB (keyT ordL ⟨#[98]⟩) (keyT ordL ⟨#[97]⟩) = 1 := by kernel_rfl
theorem lv_c5 : (elems bookP (mostC bookP) (formT 0 [195, 166])).length = 2 := by kernel_rfl
end Go.Proofs.YtokeamebcdhnpaaGreatDoor
end

section
namespace Go.Proofs.YtokeamebcdhnpaaGreatDoor
open Go.RowKit Go.Rp Go.Shelf Go.Maps Go.Cl

theorem lv_sort : sortI (fun x y => decide (cmpB (keyT ordL (([⟨#[98]⟩, ⟨#[97]⟩] : List ByteArray).getD x ⟨#[]⟩)) (keyT ordL (([⟨#[98]⟩, ⟨#[97]⟩] : List ByteArray).getD y ⟨#[]⟩)) < 0)) (List.range 2) = [1, 0] := by kernel_rfl
theorem c_lv_c1 (w : World) (hT : TabsC w) : Calls Tryz.prog 18 #[.string ⟨#[99, 111, 116, 101]⟩, .string ⟨#[99, 111, 116, 195, 169]⟩, .agg #[.int .i64 3, .bool false, .bool false, .bool false]] w fun e w' => e = .returned (.int .i64 (-1)) ∧ Ext w w' := by
 have h := c_Compare ⟨#[99, 111, 116, 101]⟩ ⟨#[99, 111, 116, 195, 169]⟩ ordL w hT (by decide) (by decide)
 rw [lv_c1] at h
 exact h
theorem c_lv_c2 (w : World) (hT : TabsC w) : Calls Tryz.prog 18 #[.string ⟨#[97]⟩, .string ⟨#[65]⟩, .agg #[.int .i64 3, .bool false, .bool false, .bool false]] w fun e w' => e = .returned (.int .i64 (-1)) ∧ Ext w w' := by
 have h := c_Compare ⟨#[97]⟩ ⟨#[65]⟩ ordL w hT (by decide) (by decide)
 rw [lv_c2] at h
 exact h
theorem c_lv_c3 (w : World) (hT : TabsC w) : Calls Tryz.prog 18 #[.string ⟨#[99, 104]⟩, .string ⟨#[99, 122]⟩, .agg #[.int .i64 3, .bool false, .bool false, .bool false]] w fun e w' => e = .returned (.int .i64 1) ∧ Ext w w' := by
 have h := c_Compare ⟨#[99, 104]⟩ ⟨#[99, 122]⟩ ordL w hT (by decide) (by decide)
 rw [lv_c3] at h
 exact h
theorem c_lv_c4 (w : World) (hT : TabsC w) : Calls Tryz.prog 18 #[.string ⟨#[98]⟩, .string ⟨#[97]⟩, .agg #[.int .i64 3, .bool false, .bool false, .bool false]] w fun e w' => e = .returned (.int .i64 1) ∧ Ext w w' := by
 have h := c_Compare ⟨#[98]⟩ ⟨#[97]⟩ ordL w hT (by decide) (by decide)
 rw [lv_c4] at h
 exact h
set_option maxRecDepth 100000 in
set_option maxHeartbeats 8000000 in
theorem c_live (w : World) (hT : TabsC w) : Calls Tryz.prog 8 #[] w fun e w' => e = .returned (.bool true) ∧ Ext w w' := by
 go_enter Tryz.func8, Tryz.ntmps8
 go_wp2_with fail
 have hx0 := (Ext.refl w).alloc (.cells #[.int .i64 3, .bool false, .bool false, .bool false] 24)
 have hb0 := World.alloc_heap_new w (.cells #[.int .i64 3, .bool false, .bool false, .bool false] 24)
 generalize w.alloc (.cells #[.int .i64 3, .bool false, .bool false, .bool false] 24) = W0 at hx0 hb0 ⊢
 generalize w.heap.size = ob at hb0 ⊢
 have HB0 := Lib.hid (show ∀ w', Ext W0 w' → w'.cell? ⟨ob, 0, none⟩ = some (.int .i64 3) ∧ w'.cell? ⟨ob, 1, none⟩ = some (.bool false) ∧ w'.cell? ⟨ob, 2, none⟩ = some (.bool false) ∧ w'.cell? ⟨ob, 3, none⟩ = some (.bool false) from fun w' hx => ⟨(cell_blk (hx.blk hb0) 0).trans rfl, (cell_blk (hx.blk hb0) 1).trans rfl, (cell_blk (hx.blk hb0) 2).trans rfl, (cell_blk (hx.blk hb0) 3).trans rfl⟩)
 have HX0 := Lib.hid hx0
 have HT0 := Lib.hid (hT.ext hx0)
 clear hx0 hb0
 refine (c_lv_c1 W0 HT0.out).mono ?_
 rintro e w1 ⟨rfl, hx1⟩
 obtain ⟨o0, o1, o2, o3⟩ := HB0.out w1 hx1
 have HX1 := Lib.hid hx1
 clear hx1
 go_wp2_with fail
 refine (c_lv_c2 w1 (HT0.out.ext HX1.out)).mono ?_
 rintro e w2 ⟨rfl, hx2⟩
 obtain ⟨o0, o1, o2, o3⟩ := HB0.out w2 (HX1.out.trans hx2)
 have HX2 := Lib.hid (HX1.out.trans hx2)
 clear hx2
 go_wp2_with fail
 refine (c_lv_c3 w2 (HT0.out.ext HX2.out)).mono ?_
 rintro e w3 ⟨rfl, hx3⟩
 obtain ⟨o0, o1, o2, o3⟩ := HB0.out w3 (HX2.out.trans hx3)
 have HX3 := Lib.hid (HX2.out.trans hx3)
 clear hx3
 go_wp2_with fail
 refine (c_lv_c4 w3 (HT0.out.ext HX3.out)).mono ?_
 rintro e w4 ⟨rfl, hx4⟩
 obtain ⟨o0, o1, o2, o3⟩ := HB0.out w4 (HX3.out.trans hx4)
 have HX4 := Lib.hid (HX3.out.trans hx4)
 clear hx4
 go_wp2_with fail
 refine (c_Elements ⟨#[195, 166]⟩ w4 (HT0.out.ext HX4.out) (by decide)).mono ?_
 rintro e w5 ⟨v5, rfl, hr5, hx5⟩
 rw [lv_c5] at hr5
 obtain ⟨p5, c5, rfl⟩ := own_slice hr5
 have hx6 := (HX4.out.trans hx5).alloc (.cells #[.string ⟨#[98]⟩, .string ⟨#[97]⟩] 9)
 have hb6 := World.alloc_heap_new w5 (.cells #[.string ⟨#[98]⟩, .string ⟨#[97]⟩] 9)
 obtain ⟨o0, o1, o2, o3⟩ := HB0.out _ hx6
 have HX6 := Lib.hid hx6
 have HS6 := Lib.hid (show TxtRow (w5.alloc (.cells #[.string ⟨#[98]⟩, .string ⟨#[97]⟩] 9)) (.slice (some ⟨w5.heap.size, 0, none⟩) 2 2) [⟨#[98]⟩, ⟨#[97]⟩] from ⟨_, 2, rfl, Nat.le_refl _, fun _ => ⟨_, rfl, fun i hi => by
  rw [cell_blk hb6 i]
  rcases i with _ | _ | i
  ·rfl
  ·rfl
  ·exact absurd (show i + 1 + 1 < 2 from hi) (by omega)⟩⟩)
 clear hx5 hr5 hx6 hb6
 go_wp2_with fail
 refine (c_Sort _ [⟨#[98]⟩, ⟨#[97]⟩] ordL _ (HT0.out.ext HX6.out) HS6.out (by decide) (by decide) (by decide)).mono ?_
 rintro e w7 ⟨u7, rfl, hr7, hx7⟩
 rw [show List.length [(⟨#[98]⟩ : ByteArray), ⟨#[97]⟩] = 2 from rfl, lv_sort] at hr7
 have HX7 := Lib.hid (HX6.out.trans hx7)
 have HR7 := Lib.hid (show NumRow w7 u7 [1, 0] from hr7.opened)
 clear hx7 hr7
 go_wp2_with fail
 refine (c_Places u7 _ [1, 0] [1, 0] true _ (HR7.out.ext ((Ext.refl w7).alloc _)) ⟨_, 2, rfl, Nat.le_refl _, fun _ => ⟨_, rfl, fun i hi => by
  rw [cell_blk (World.alloc_heap_new w7 _) i]
  rcases i with _ | _ | i
  ·rfl
  ·rfl
  ·exact absurd (show i + 1 + 1 < 2 from hi) (by omega)⟩⟩ (by simp) (by decide)).mono ?_
 rintro e w8 ⟨rfl, hx8⟩
 have HX8 := Lib.hid (HX0.out.trans (HX7.out.trans (((Ext.refl w7).alloc _).trans hx8)))
 clear hx8
 go_wp2_with fail
 exact ret_one rfl rfl rfl ⟨rfl, HX8.out⟩
end Go.Proofs.YtokeamebcdhnpaaGreatDoor
end
