/-
 CollateLevels: lesser levels tell less. CollateKeys: every text's elements and keys.
-/
import Derived.Test.YtokeamebcdhnpaaGreatDoorLvW
import Derived.Test.YtokeamebcdhnpaaGreatDoorKwKCL
section
namespace Go.Proofs.YtokeamebcdhnpaaGreatDoor
open Go.RowKit Go.Rp Go.Shelf Go.Maps Go.Cl

theorem conv_holds {W : World} {v : Value} {F : List UInt8} (h : Lib.HoldsBytes W v F) : (convert 34 9 v).run Tryz.prog W = .ok (.string ⟨F.toArray⟩) W := by
 obtain ⟨p, c, rfl, h0, h1⟩ := h
 cases p with
 | none =>
  obtain rfl := h0 rfl
  exact run_convert_bytes_nil (P := Tryz.prog) W 34 5 Tryz.underlying34 Tryz.underlying5 _ _ _ Tryz.underlying9
 | some a => exact run_convert_bytes_back (P := Tryz.prog) W 34 9 5 a c F Tryz.underlying34 Tryz.underlying5 Tryz.underlying9 (fun j hj => h1 a rfl j _ (List.getElem?_eq_getElem hj))
theorem holds_on {w w' : World} {v : Value} {K : List UInt8} (h : Lib.HoldsBytes w v K) (hx : EOn (fun _ => True) w w') : Lib.HoldsBytes w' v K := by
 obtain ⟨p, cap, e, h1, h2⟩ := h
 exact ⟨p, cap, e, h1, fun a ha i x hi => hx.cell trivial (h2 a ha i x hi)⟩
end Go.Proofs.YtokeamebcdhnpaaGreatDoor
end

section
namespace Go.Proofs.YtokeamebcdhnpaaGreatDoor
open Go.RowKit Go.Rp Go.Shelf Go.Maps Go.Cl

theorem c_num29 (k : Int) (w : World) : Calls Tryz.prog 13 #[.int .i64 k] w fun e w' => e = .returned (.int .i64 k) ∧ Ext w w' := by
 go_enter Tryz.func13, Tryz.ntmps13
 go_wp2_with fail
 go_ret
 exact ⟨rfl, Ext.refl _⟩
set_option maxRecDepth 100000 in
set_option maxHeartbeats 8000000 in
theorem c_Keys (s t : ByteArray) (o : Cl.Ord) (w : World) (hT : TabsC w) (hs : s.size ≤ 140737488351232) (ht : t.size ≤ 140737488351232) :
  Calls Tryz.prog 4 #[.string s, .string t, ordV o] w fun e w' => e = .returned (.bool true) ∧ Ext w w' := by
 have HL := Lib.hid (fun w hT => c_live w hT)
 by_cases hs : s.size + t.size ≤ 60
 ·have hsI : ¬ (60 : Int) < ((s.size : Nat) : Int) + (t.size : Nat) := by omega
  go_enter Tryz.func4, Tryz.ntmps4
  go_wp2_with fail
  have hx0 := (Ext.refl w).alloc (.cells #[.int .i64 o.level, .bool o.shift, .bool o.back, .bool o.great] 24)
  have hb0 := World.alloc_heap_new w (.cells #[.int .i64 o.level, .bool o.shift, .bool o.back, .bool o.great] 24)
  generalize w.alloc (.cells #[.int .i64 o.level, .bool o.shift, .bool o.back, .bool o.great] 24) = W0 at hx0 hb0 ⊢
  generalize w.heap.size = ob at hb0 ⊢
  have HB0 := Lib.hid hb0
  have HX0 := Lib.hid hx0
  have HT0 := Lib.hid (hT.ext hx0)
  clear hx0 hb0
  refine (c_bkNew W0).mono ?_
  rintro e w1 ⟨kb, rfl, hbk, hx1⟩
  have HK := Lib.hid hbk
  have HX1 := Lib.hid hx1
  clear hx1 hbk
  go_wp2_with fail
  have q0 : ∀ w', EOn (fun _ => True) w1 w' → w'.cell? ⟨ob, 0, none⟩ = some (.int .i64 o.level) := fun w' hx => hx.cell trivial ((cell_blk (HX1.out.blk HB0.out) 0).trans rfl)
  have q1 : ∀ w', EOn (fun _ => True) w1 w' → w'.cell? ⟨ob, 1, none⟩ = some (.bool o.shift) := fun w' hx => hx.cell trivial ((cell_blk (HX1.out.blk HB0.out) 1).trans rfl)
  have q2 : ∀ w', EOn (fun _ => True) w1 w' → w'.cell? ⟨ob, 2, none⟩ = some (.bool o.back) := fun w' hx => hx.cell trivial ((cell_blk (HX1.out.blk HB0.out) 2).trans rfl)
  have q3 : ∀ w', EOn (fun _ => True) w1 w' → w'.cell? ⟨ob, 3, none⟩ = some (.bool o.great) := fun w' hx => hx.cell trivial ((cell_blk (HX1.out.blk HB0.out) 3).trans rfl)
  have HT1 := Lib.hid (HT0.out.ext HX1.out)
  have HSZ := Lib.hid (show s.size ≤ 60 ∧ t.size ≤ 60 from ⟨by omega, by omega⟩)
  have HEL := Lib.hid (show (elems bookP (mostC bookP) (formT 0 s.data.toList)).length ≤ 100000000 by
   have h0 := formT_len 0 s.data.toList
   rw [len_eqC] at h0
   have h1 := elems_few (B := bookP) (most := mostC bookP) (fun p hp => by
    have h1 := bookP_few
    rw [List.all_eq_true] at h1
    exact of_decide_eq_true (h1 p hp)) _ (formT 0 s.data.toList) (Nat.le_refl _)
   omega)
  have HE1 := Lib.hid (fun w hT => c_Elements s w hT (by omega))
  have HE2 := Lib.hid (fun w hk => c_bkElems kb s w hk (by omega))
  have HCK := Lib.hid (fun w => c_Check o w)
  have HRK := Lib.hid (fun w => c_RCheck o w)
  have HKA := Lib.hid (fun w hT => c_Key s o w hT (by omega))
  have HKB := Lib.hid (fun w hk => c_bkKey kb s o w hk (by omega))
  have HC1 := Lib.hid (fun w hT => c_Compare s t o w hT (by omega) (by omega))
  have HC2 := Lib.hid (fun w hk => c_bkCompare kb s t o w hk (by omega) (by omega))
  obtain ⟨E, hE⟩ : ∃ x, elems bookP (mostC bookP) (formT 0 s.data.toList) = x := ⟨_, rfl⟩
  obtain ⟨kc, hkc⟩ : ∃ x, (if 1 ≤ o.level ∧ o.level ≤ 4 then (0 : Int) else 2) = x := ⟨_, rfl⟩
  obtain ⟨cc, hcc⟩ : ∃ x, cmpB (keyT o s) (keyT o t) = x := ⟨_, rfl⟩
  have HKT := Lib.hid (show keyT o s = keyL bookP (mostC bookP) o (formT 0 s.data.toList) from rfl)
  rw [hE] at HEL
  simp only [hE] at HE1 HE2
  simp only [hkc] at HCK HRK
  simp only [hcc] at HC1 HC2
  simp only [← HKT.out] at HKA
  generalize keyT o s = KT at HKA HKB
  clear hE hkc hcc HKT hs
  have hkk : (kc == kc) = true := by simp
  have hccq : (cc == cc) = true := by simp
  refine wp_perm (fun _ => True) [0, 2, 3, 1, 4, 5, 6, 7, 10, 8, 9, 11, 12, 13, 14, 15, 16, 19, 20, 21, 17, 18, 22, 23, 24, 25, 26, 27, 28, 29, 31, 32, 33, 34, 30, 35, 36, 37, 38, 39, 40, 41] [true, true, true, false, false, false, true, true, true, true, true, true, true, true, true, true, true, true, true, true, false, true, false, true, true, true, true, true, true, true, true, true, true, true, false, false, true, true, true, false, true] (by kernel_rfl) (by kernel_rfl) (by simp only [List.map_cons, List.map_nil, nth]; rfl) ?_
  repeat first
   | refine wpG_move' ?_
   | refine wpG_assign' ?_
   | refine wpG_val' ?_
   | refine wpG_no' ?_
  refine wpG_do (by rfl) (fun w2 hx2 K hK => ?_)
  go_wp2_with fail
  refine (HE1.out w2 (HT1.out.ext hx2)).mono ?_
  rintro e w3 ⟨va, rfl, hra, hx3⟩
  refine hK _ _ ⟨EOn.of_ext hx3, ?_⟩
  clear hK
  refine wpG_do (by rfl) (fun w4 hx4 K hK => ?_)
  go_wp2_with fail
  have HX4 := Lib.hid (hx2.trans (hx3.trans hx4))
  refine (HE2.out w4 (HK.out.ext HX4.out)).mono ?_
  rintro e w5 ⟨vb, rfl, hrb, hx5⟩
  refine hK _ _ ⟨EOn.of_ext hx5, ?_⟩
  clear hK
  refine wpG_do (by rfl) (fun w6 hx6 K hK => ?_)
  go_wp2_with fail
  have HX6 := Lib.hid (HX4.out.trans (hx5.trans hx6))
  refine (c_lawEls va vb E w6 ((ElRow.of_own hra).ext (hx4.trans (hx5.trans hx6))) (hrb.ext hx6) HEL.out).mono ?_
  rintro e w7 ⟨rfl, hx7⟩
  refine hK _ _ ⟨EOn.of_ext hx7, ?_⟩
  clear hK
  have HX7 := Lib.hid (HX6.out.trans hx7)
  clear hra hrb hx2 hx3 hx4 hx5 hx6 hx7
  replace q0 : ∀ w', EOn (fun _ => True) w7 w' → _ := fun w' hx => q0 w' ((EOn.of_ext HX7.out).trans hx)
  replace q1 : ∀ w', EOn (fun _ => True) w7 w' → _ := fun w' hx => q1 w' ((EOn.of_ext HX7.out).trans hx)
  replace q2 : ∀ w', EOn (fun _ => True) w7 w' → _ := fun w' hx => q2 w' ((EOn.of_ext HX7.out).trans hx)
  replace q3 : ∀ w', EOn (fun _ => True) w7 w' → _ := fun w' hx => q3 w' ((EOn.of_ext HX7.out).trans hx)
  repeat first
   | refine wpG_move' ?_
   | refine wpG_assign' ?_
   | refine wpG_val' ?_
   | refine wpG_no' ?_
  refine wpG_call (by rfl) (fun w' hx => (by go_simp <;> first | exact rfl | exact ⟨rfl, rfl⟩)) (fun w' hx => HCK.out w') (by simp only [Act.put, List.setIfInBounds_toArray, List.set_cons_succ, List.set_cons_zero]; rfl) ?_
  repeat first
   | refine wpG_move' ?_
   | refine wpG_assign' ?_
   | refine wpG_val' ?_
   | refine wpG_no' ?_
  refine wpG_call (by rfl) (fun w' hx => (by go_simp <;> first | exact rfl | exact ⟨rfl, rfl⟩)) (fun w' hx => c_num29 kc w') (by simp only [Act.put, List.setIfInBounds_toArray, List.set_cons_succ, List.set_cons_zero]; rfl) ?_
  repeat first
   | refine wpG_move' ?_
   | refine wpG_assign' ?_
   | refine wpG_val' ?_
   | refine wpG_no' ?_
  refine wpG_call (by rfl) (fun w' hx => (by go_simp <;> first | exact rfl | exact ⟨rfl, rfl⟩)) (fun w' hx => HRK.out w') (by simp only [Act.put, List.setIfInBounds_toArray, List.set_cons_succ, List.set_cons_zero]; rfl) ?_
  repeat first
   | refine wpG_move' ?_
   | refine wpG_assign' ?_
   | refine wpG_val' ?_
   | refine wpG_no' ?_
  clear q0 q1 q2 q3
  refine wpG_do (by rfl) (fun w8 hx8 K hK => ?_)
  go_wp2_with fail
  have HX8 := Lib.hid (HX7.out.trans hx8)
  refine (HKA.out w8 (HT1.out.ext HX8.out)).mono ?_
  rintro e w9 ⟨va2, rfl, hka, hx9⟩
  refine hK _ _ ⟨EOn.of_ext hx9, ?_⟩
  have HX9 := Lib.hid (HX8.out.trans hx9)
  have hcv : ∀ w', EOn (fun _ => True) w9 w' → (convert 34 9 va2).run Tryz.prog w' = .ok (.string ⟨KT.toArray⟩) w' := fun w' hx => conv_holds (holds_on hka.1 hx)
  clear hK hx8 hx9 hka
  obtain ⟨kt, hkt⟩ : ∃ x : ByteArray, (⟨KT.toArray⟩ : ByteArray) = x := ⟨_, rfl⟩
  simp only [hkt] at hcv
  have hktq : (kt.toList == kt.toList) = true := by simp
  have HKX := Lib.hid hkt
  clear hkt
  repeat first
   | refine wpG_move' ?_
   | refine wpG_assign' ?_
   | refine wpG_val' ?_
   | refine wpG_no' ?_
  clear hcv
  refine wpG_do (by rfl) (fun w10 hx10 K hK => ?_)
  go_wp2_with fail
  have HX10 := Lib.hid (HX9.out.trans hx10)
  refine (HKB.out w10 (HK.out.ext HX10.out)).mono ?_
  rintro e w11 ⟨vb2, rfl, hkb, hx11⟩
  refine hK _ _ ⟨EOn.of_ext hx11, ?_⟩
  have HX11 := Lib.hid (HX10.out.trans hx11)
  have hcv : ∀ w', EOn (fun _ => True) w11 w' → (convert 34 9 vb2).run Tryz.prog w' = .ok (.string ⟨KT.toArray⟩) w' := fun w' hx => conv_holds (holds_on hkb.1 hx)
  simp only [HKX.out] at hcv
  clear hK hx10 hx11 hkb
  have q0 : ∀ w', EOn (fun _ => True) w11 w' → w'.cell? ⟨ob, 0, none⟩ = some (.int .i64 o.level) := fun w' hx => hx.cell trivial ((cell_blk ((HX1.out.trans HX11.out).blk HB0.out) 0).trans rfl)
  have q1 : ∀ w', EOn (fun _ => True) w11 w' → w'.cell? ⟨ob, 1, none⟩ = some (.bool o.shift) := fun w' hx => hx.cell trivial ((cell_blk ((HX1.out.trans HX11.out).blk HB0.out) 1).trans rfl)
  have q2 : ∀ w', EOn (fun _ => True) w11 w' → w'.cell? ⟨ob, 2, none⟩ = some (.bool o.back) := fun w' hx => hx.cell trivial ((cell_blk ((HX1.out.trans HX11.out).blk HB0.out) 2).trans rfl)
  have q3 : ∀ w', EOn (fun _ => True) w11 w' → w'.cell? ⟨ob, 3, none⟩ = some (.bool o.great) := fun w' hx => hx.cell trivial ((cell_blk ((HX1.out.trans HX11.out).blk HB0.out) 3).trans rfl)
  repeat first
   | refine wpG_move' ?_
   | refine wpG_assign' ?_
   | refine wpG_val' ?_
   | refine wpG_no' ?_
  clear hcv q0 q1 q2 q3
  refine wpG_do (by rfl) (fun w12 hx12 K hK => ?_)
  go_wp2_with fail
  have HX12 := Lib.hid (HX11.out.trans hx12)
  refine (HC1.out w12 (HT1.out.ext HX12.out)).mono ?_
  rintro e w13 ⟨rfl, hx13⟩
  refine hK _ _ ⟨EOn.of_ext hx13, ?_⟩
  have HX13 := Lib.hid (HX12.out.trans hx13)
  clear hK hx12 hx13
  refine wpG_do (by rfl) (fun w14 hx14 K hK => ?_)
  go_wp2_with fail
  have HX14 := Lib.hid (HX13.out.trans hx14)
  refine (HC2.out w14 (HK.out.ext HX14.out)).mono ?_
  rintro e w15 ⟨rfl, hx15⟩
  refine hK _ _ ⟨EOn.of_ext hx15, ?_⟩
  have HX15 := Lib.hid (HX14.out.trans hx15)
  clear hK hx14 hx15
  repeat first
   | refine wpG_move' ?_
   | refine wpG_assign' ?_
   | refine wpG_val' ?_
   | refine wpG_no' ?_
  refine wpG_do (by rfl) (fun w16 hx16 K hK => ?_)
  go_wp2_with fail
  have HX16 := Lib.hid (HX15.out.trans hx16)
  refine (HL.out w16 (HT1.out.ext HX16.out)).mono ?_
  rintro e w17 ⟨rfl, hx17⟩
  refine hK _ _ ⟨EOn.of_ext hx17, ?_⟩
  have HX17 := Lib.hid (HX16.out.trans hx17)
  clear hK hx16 hx17
  repeat first
   | refine wpG_move' ?_
   | refine wpG_assign' ?_
   | refine wpG_val' ?_
   | refine wpG_no' ?_
  refine wpG_end (fun w18 hx18 => ?_)
  have HX18 := Lib.hid (HX0.out.trans (HX1.out.trans (HX17.out.trans hx18)))
  clear hx18
  go_wp2_with fail
  refine gQ_normal ?_
  go_wp2_with fail
  exact ret_one rfl rfl rfl ⟨rfl, HX18.out⟩
 ·have hsI : (60 : Int) < ((s.size : Nat) : Int) + (t.size : Nat) := by omega
  go_enter Tryz.func4, Tryz.ntmps4
  go_wp2_with fail
  refine (HL.out _ (hT.ext ((Ext.refl w).alloc _))).mono ?_
  rintro e w1 ⟨rfl, hx1⟩
  have HX1 := Lib.hid (((Ext.refl w).alloc _).trans hx1)
  clear hx1
  go_wp2_with fail
  exact ret_one rfl rfl rfl ⟨rfl, HX1.out⟩
end Go.Proofs.YtokeamebcdhnpaaGreatDoor
end
