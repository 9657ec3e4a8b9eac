/-
 CollateOrders: an order.
-/
import Derived.Test.YtokeamebcdhnpaaGreatDoorColW
namespace Go.Proofs.YtokeamebcdhnpaaGreatDoor
open Go.RowKit Go.Rp Go.Shelf Go.Maps Go.Cl

/-- What three keys tell. -/
theorem cmp_three (a b c : List UInt8) : ∃ x y z : Int, cmpB a b = x ∧ cmpB b c = y ∧ cmpB a c = z ∧ cmpB b a = -x ∧ ((x = 0 ∧ y = 0 ∧ z = 0) ∨ (x = 0 ∧ y = 1 ∧ z = 1) ∨ (x = 0 ∧ y = -1 ∧ z = -1) ∨ x = 1 ∨ (x = -1 ∧ y = 0 ∧ z = -1) ∨ (x = -1 ∧ y = -1 ∧ z = -1) ∨ (x = -1 ∧ y = 1)) := by
 refine ⟨_, _, _, rfl, rfl, rfl, cmpB_swap a b, ?_⟩
 have h1 := cmpB_vals a b
 have h2 := cmpB_vals b c
 have h3 := cmpB_vals a c
 rcases h1 with h1 | h1 | h1
 ·rcases h2 with h2 | h2 | h2
  ·have h4 := cmpB_trans (by omega : cmpB a b ≤ 0) (by omega : cmpB b c ≤ 0)
   have := h4.2 (.inl (by omega))
   omega
  ·have h4 := cmpB_trans (by omega : cmpB a b ≤ 0) (by omega : cmpB b c ≤ 0)
   have := h4.2 (.inl (by omega))
   omega
  ·omega
 ·have e := cmpB_eq h1
  subst e
  omega
 ·omega
set_option maxRecDepth 100000 in
set_option maxHeartbeats 8000000 in
theorem c_Orders (a b c : ByteArray) (o : Cl.Ord) (w : World) (hT : TabsC w) (ha : a.size ≤ 140737488351232) (hb : b.size ≤ 140737488351232) (hc : c.size ≤ 140737488351232) :
  Calls Tryz.prog 5 #[.string a, .string b, .string c, ordV o] w fun e w' => e = .returned (.bool true) ∧ Ext w w' := by
 have HL := Lib.hid (fun w hT => c_live w hT)
 by_cases hs : a.size + b.size + c.size ≤ 120
 ·have hsI : ¬ (120 : Int) < ((a.size : Nat) : Int) + (b.size : Nat) + (c.size : Nat) := by omega
  obtain ⟨x, y, z, hx, hy, hz, hx', hall⟩ := cmp_three (keyT o a) (keyT o b) (keyT o c)
  have C1 := Lib.hid (fun w hT => c_Compare a b o w hT (by omega) (by omega))
  have C2 := Lib.hid (fun w hT => c_Compare b c o w hT (by omega) (by omega))
  have C3 := Lib.hid (fun w hT => c_Compare a c o w hT (by omega) (by omega))
  have C4 := Lib.hid (fun w hT => c_Compare b a o w hT (by omega) (by omega))
  have C5 := Lib.hid (fun w hT => c_Compare a a o w hT (by omega) (by omega))
  rw [hx] at C1
  rw [hy] at C2
  rw [hz] at C3
  rw [hx'] at C4
  rw [cmpB_refl] at C5
  have HALL := Lib.hid hall
  clear hx hy hz hx' hall
  go_enter Tryz.func5, Tryz.ntmps5
  go_wp2_with fail
  have hx0 := (Ext.refl w).alloc (.cells #[.int .i64 o.level, .bool o.shift, .bool o.back, .bool o.great] 24)
  have hb0 := World.alloc_heap_new w (.cells #[.int .i64 o.level, .bool o.shift, .bool o.back, .bool o.great] 24)
  generalize w.alloc (.cells #[.int .i64 o.level, .bool o.shift, .bool o.back, .bool o.great] 24) = W0 at hx0 hb0 ⊢
  generalize w.heap.size = ob at hb0 ⊢
  have HB0 := Lib.hid (show ∀ w', Ext W0 w' → w'.cell? ⟨ob, 0, none⟩ = some (.int .i64 o.level) ∧ w'.cell? ⟨ob, 1, none⟩ = some (.bool o.shift) ∧ w'.cell? ⟨ob, 2, none⟩ = some (.bool o.back) ∧ w'.cell? ⟨ob, 3, none⟩ = some (.bool o.great) from fun w' hx => ⟨(cell_blk (hx.blk hb0) 0).trans rfl, (cell_blk (hx.blk hb0) 1).trans rfl, (cell_blk (hx.blk hb0) 2).trans rfl, (cell_blk (hx.blk hb0) 3).trans rfl⟩)
  have HX0 := Lib.hid hx0
  have HT0 := Lib.hid (hT.ext hx0)
  clear hx0 hb0
  refine (C1.out W0 HT0.out).mono ?_
  rintro e w1 ⟨rfl, hx1⟩
  obtain ⟨o0, o1, o2, o3⟩ := HB0.out w1 hx1
  have HX1 := Lib.hid hx1
  clear hx1
  go_wp2_with fail
  refine (C2.out w1 (HT0.out.ext HX1.out)).mono ?_
  rintro e w2 ⟨rfl, hx2⟩
  obtain ⟨o0, o1, o2, o3⟩ := HB0.out w2 (HX1.out.trans hx2)
  have HX2 := Lib.hid (HX1.out.trans hx2)
  clear hx2
  go_wp2_with fail
  refine (C3.out w2 (HT0.out.ext HX2.out)).mono ?_
  rintro e w3 ⟨rfl, hx3⟩
  obtain ⟨o0, o1, o2, o3⟩ := HB0.out w3 (HX2.out.trans hx3)
  have HX3 := Lib.hid (HX2.out.trans hx3)
  clear hx3
  go_wp2_with fail
  refine (C4.out w3 (HT0.out.ext HX3.out)).mono ?_
  rintro e w4 ⟨rfl, hx4⟩
  obtain ⟨o0, o1, o2, o3⟩ := HB0.out w4 (HX3.out.trans hx4)
  have HX4 := Lib.hid (HX3.out.trans hx4)
  clear hx4 C1 C2 C3 C4
  rcases HALL.out with ⟨rfl, rfl, rfl⟩ | ⟨rfl, rfl, rfl⟩ | ⟨rfl, rfl, rfl⟩ | rfl | ⟨rfl, rfl, rfl⟩ | ⟨rfl, rfl, rfl⟩ | ⟨rfl, rfl⟩
  all_goals
   clear HALL
   go_wp2_with fail
   refine (C5.out w4 (HT0.out.ext HX4.out)).mono ?_
   rintro e w5 ⟨rfl, hx5⟩
   have HX5 := Lib.hid (HX4.out.trans hx5)
   clear hx5 o0 o1 o2 o3
   go_wp2_with fail
   refine (HL.out w5 (HT0.out.ext HX5.out)).mono ?_
   rintro e w6 ⟨rfl, hx6⟩
   have HX6 := Lib.hid (HX0.out.trans (HX5.out.trans hx6))
   clear hx6
   go_wp2_with fail
   exact ret_one rfl rfl rfl ⟨rfl, HX6.out⟩
 ·have hsI : (120 : Int) < ((a.size : Nat) : Int) + (b.size : Nat) + (c.size : Nat) := by omega
  go_enter Tryz.func5, Tryz.ntmps5
  go_wp2_with fail
  refine (HL.out _ (hT.ext ((Ext.refl w).alloc _))).mono ?_
  rintro e w1 ⟨rfl, hx1⟩
  have HX1 := Lib.hid (((Ext.refl w).alloc _).trans hx1)
  clear hx1
  go_wp2_with fail
  exact ret_one rfl rfl rfl ⟨rfl, HX1.out⟩
end Go.Proofs.YtokeamebcdhnpaaGreatDoor
