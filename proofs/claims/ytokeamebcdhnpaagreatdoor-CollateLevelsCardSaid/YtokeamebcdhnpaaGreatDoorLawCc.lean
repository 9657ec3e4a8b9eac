/-
 CollateLevels: lesser levels tell less.
-/
import Derived.Test.YtokeamebcdhnpaaGreatDoorColW
namespace Go.Proofs.YtokeamebcdhnpaaGreatDoor
open Go.RowKit Go.Rp Go.Shelf Go.Maps Go.Cl

/-- What two texts' keys tell at each level. -/
noncomputable def lvX (o : Cl.Ord) (a b : ByteArray) (n : Nat) : Int := if n = 0 then 0 else cmpB (keyT ⟨(n : Nat), o.shift, o.back, o.great⟩ a) (keyT ⟨(n : Nat), o.shift, o.back, o.great⟩ b)
theorem lvX_laws (o : Cl.Ord) (a b : ByteArray) : (∀ n : Nat, n < 4 → lvX o a b n ≠ 0 → lvX o a b (n + 1) = lvX o a b n) ∧ (lvX o a b 4 = 0 ↔ formT 0 a.data.toList = formT 0 b.data.toList) := by
 obtain ⟨h1, h2⟩ := levels linesP_ok.2.2.1 (mostC bookP) o.shift o.back o.great (formT 0 a.data.toList) (formT 0 b.data.toList)
 refine ⟨fun n hn hz => ?_, h2⟩
 by_cases h0 : n = 0
 ·subst h0
  exact absurd rfl hz
 ·have h3 := h1 (n : Nat) (by omega) (by omega)
  unfold lvX at hz ⊢
  rw [if_neg h0] at hz ⊢
  rw [if_neg (by omega)]
  exact h3 hz
theorem conv_holds {W : World} {v : Value} {F : List UInt8} (h : Lib.HoldsBytes W v F) : (convert 34 9 v).run Tryz.prog W = .ok (.string ⟨F.toArray⟩) W := by
 obtain ⟨p, c, rfl, h0, h1⟩ := h
 cases p with
 | none =>
  obtain rfl := h0 rfl
  exact run_convert_bytes_nil (P := Tryz.prog) W 34 5 Tryz.underlying34 Tryz.underlying5 _ _ _ Tryz.underlying9
 | some a => exact run_convert_bytes_back (P := Tryz.prog) W 34 9 5 a c F Tryz.underlying34 Tryz.underlying5 Tryz.underlying9 (fun j hj => h1 a rfl j _ (List.getElem?_eq_getElem hj))
theorem holds_on {w w' : World} {v : Value} {K : List UInt8} (h : Lib.HoldsBytes w v K) (hx : EOn (fun _ => True) w w') : Lib.HoldsBytes w' v K := by
 obtain ⟨p, cap, e, h1, h2⟩ := h
 exact ⟨p, cap, e, h1, fun a ha i x hi => hx.cell trivial (h2 a ha i x hi)⟩
theorem form_10 (s : List UInt8) : formT 0 (formT 1 s) = formT 0 s := by
 unfold formT
 rw [if_pos (by decide), if_pos (by decide), if_pos (by decide), Go.Nm.form_form tbT_ok]
 rfl
set_option maxRecDepth 100000 in
set_option maxHeartbeats 8000000 in
theorem c_Levels (a b : ByteArray) (o : Cl.Ord) (w : World) (hT : TabsC w) (ha : a.size ≤ 140737488351232) (hb : b.size ≤ 140737488351232) :
  Calls Tryz.prog 6 #[.string a, .string b, ordV o] w fun e w' => e = .returned (.bool true) ∧ Ext w w' := by
 have HL := Lib.hid (fun w hT => c_live w hT)
 by_cases hs : a.size + b.size ≤ 60
 ·have hsI : ¬ (60 : Int) < ((a.size : Nat) : Int) + (b.size : Nat) := by omega
  go_enter Tryz.func6, Tryz.ntmps6
  go_wp2_with fail
  have hx0 := (Ext.refl w).alloc (.cells #[.int .i64 o.level, .bool o.shift, .bool o.back, .bool o.great] 24)
  have hb0 := World.alloc_heap_new w (.cells #[.int .i64 o.level, .bool o.shift, .bool o.back, .bool o.great] 24)
  generalize w.alloc (.cells #[.int .i64 o.level, .bool o.shift, .bool o.back, .bool o.great] 24) = W0 at hx0 hb0 ⊢
  generalize w.heap.size = ob at hb0 ⊢
  have HB0 := Lib.hid (show ∀ w', Ext W0 w' → w'.cell? ⟨ob, 0, none⟩ = some (.int .i64 o.level) ∧ w'.cell? ⟨ob, 1, none⟩ = some (.bool o.shift) ∧ w'.cell? ⟨ob, 2, none⟩ = some (.bool o.back) ∧ w'.cell? ⟨ob, 3, none⟩ = some (.bool o.great) from fun w' hx => ⟨(cell_blk (hx.blk hb0) 0).trans rfl, (cell_blk (hx.blk hb0) 1).trans rfl, (cell_blk (hx.blk hb0) 2).trans rfl, (cell_blk (hx.blk hb0) 3).trans rfl⟩)
  have HX0 := Lib.hid hx0
  have HT0 := Lib.hid (hT.ext hx0)
  clear hx0 hb0
  obtain ⟨X, hX⟩ : ∃ X : Nat → Int, lvX o a b = X := ⟨_, rfl⟩
  have HLW := Lib.hid (lvX_laws o a b)
  have HC := Lib.hid (show ∀ n : Nat, n < 4 → ∀ w, TabsC w → Calls Tryz.prog 18 #[.string a, .string b, .agg #[.int .i64 ((n : Nat) + 1), .bool o.shift, .bool o.back, .bool o.great]] w fun e w' => e = .returned (.int .i64 (X (n + 1))) ∧ Ext w w' from fun n hn w hT => by
   rw [← hX]
   exact c_Compare a b ⟨((n + 1 : Nat) : Int), o.shift, o.back, o.great⟩ w hT (by omega) (by omega))
  have HX00 := Lib.hid (show X 0 = 0 by rw [← hX]; rfl)
  rw [hX] at HLW
  clear hX
  go_loopw [7, 8] (fun lv nv W => ∃ i : Nat, i ≤ 4 ∧ lv = .int .i64 (X i) ∧ nv = .int .i64 ((i : Nat) + 1) ∧ Hid (Ext W0 W)) (fun _ nv _ => 6 - (intOf nv).toNat)
  case atStart => exact ⟨0, by omega, by rw [HX00.out], rfl, Lib.hid (Ext.refl _)⟩
  case round =>
   obtain ⟨i, hi, rfl, rfl, HXW⟩ := hrel
   obtain ⟨o0, o1, o2, o3⟩ := HB0.out wr HXW.out
   by_cases hlt : i < 4
   ·have hI : ((i : Nat) : Int) + 1 ≤ 4 := by omega
    have HCC := Lib.hid (HC.out i hlt)
    have HXX := Lib.hid (HLW.out.1 i hlt)
    obtain ⟨v, hv⟩ : ∃ v, X i = v := ⟨_, rfl⟩
    obtain ⟨v', hv'⟩ : ∃ v, X (i + 1) = v := ⟨_, rfl⟩
    rw [hv, hv'] at HXX
    rw [hv'] at HCC
    rw [hv]
    have HV := Lib.hid hv'
    clear hv hv'
    go_wp2_with fail
    have hxp := (HXW.out).alloc (.cells #[.int .i64 ((i : Nat) + 1), .bool o.shift, .bool o.back, .bool o.great] 24)
    refine (HCC.out _ (HT0.out.ext hxp)).mono ?_
    rintro e w2 ⟨rfl, hx2⟩
    have HX2 := Lib.hid (hxp.trans hx2)
    clear hxp hx2 o0 o1 o2 o3
    by_cases hv0 : v = 0
    ·subst hv0
     go_wp2_with fail
     exact ⟨⟨i + 1, by omega, by rw [HV.out], by simp, HX2⟩, by simp only [intOf]; omega⟩
    ·have hne : (v != 0) = true := bne_iff_ne.2 hv0
     obtain rfl := (HXX.out hv0).symm
     have hne2 : (v != v) = false := by simp
     go_wp2_with fail
     exact ⟨⟨i + 1, by omega, by rw [HV.out], by simp, HX2⟩, by simp only [intOf]; omega⟩
   ·obtain rfl : i = 4 := by omega
    obtain ⟨v, hv⟩ : ∃ v, X 4 = v := ⟨_, rfl⟩
    rw [hv]
    have HX4 := Lib.hid (show v = 0 ↔ formT 0 a.data.toList = formT 0 b.data.toList by rw [← hv]; exact HLW.out.2)
    clear hv HLW HC
    have HF := Lib.hid (fun (x : ByteArray) (hx : x.size ≤ 5000) (f : Int) w hT => c_Form x f w hT (by omega))
    have HAB := Lib.hid (show a.size ≤ 5000 ∧ b.size ≤ 5000 from ⟨by omega, by omega⟩)
    clear o0 o1 o2 o3
    go_wp2_with fail
    refine (HF.out a HAB.out.1 0 wr (HT0.out.ext HXW.out).t).mono ?_
    rintro e w2 ⟨rfl, hx2⟩
    have HX2 := Lib.hid (HXW.out.trans hx2)
    clear hx2
    go_wp2_with fail
    refine (HF.out b HAB.out.2 0 w2 (HT0.out.ext HX2.out).t).mono ?_
    rintro e w3 ⟨rfl, hx3⟩
    have HX3 := Lib.hid (HX2.out.trans hx3)
    clear hx3
    obtain ⟨fa, hfa⟩ : ∃ x : ByteArray, (⟨(formT 0 a.data.toList).toArray⟩ : ByteArray) = x := ⟨_, rfl⟩
    obtain ⟨fb, hfb⟩ : ∃ x : ByteArray, (⟨(formT 0 b.data.toList).toArray⟩ : ByteArray) = x := ⟨_, rfl⟩
    have hfe : v = 0 ↔ fa = fb := by
     rw [HX4.out, ← hfa, ← hfb]
     constructor
     ·intro e
      rw [e]
     ·intro e
      have := congrArg (fun x : ByteArray => x.data.toList) e
      simpa using this
    rw [hfa, hfb]
    clear hfa hfb
    obtain ⟨o0, o1, o2, o3⟩ := HB0.out w3 HX3.out
    have hxp := (HX3.out).alloc (.cells #[.int .i64 4, .bool o.shift, .bool o.back, .bool o.great] 24)
    have hbp := World.alloc_heap_new w3 (.cells #[.int .i64 4, .bool o.shift, .bool o.back, .bool o.great] 24)
    obtain ⟨vz, hvz⟩ : ∃ z : Bool, decide (fa = fb) = z := ⟨_, rfl⟩
    have hv1 : (v == 0) = vz := by
     rw [← hvz]
     by_cases h : fa = fb
     ·rw [decide_eq_true h, beq_iff_eq.2 (hfe.2 h)]
     ·rw [decide_eq_false h]
      exact beq_false_of_ne fun e => h (hfe.1 e)
    have hv2 : (fa.toList == fb.toList) = vz := by
     rw [← hvz]
     by_cases h : fa = fb
     ·rw [decide_eq_true h, h]; simp
     ·rw [decide_eq_false h]
      exact beq_false_of_ne fun e => h (ByteArray.ext (by
       rw [ByteArray.toList_eq, ByteArray.toList_eq] at e
       exact Array.toList_inj.1 e))
    have HKA := Lib.hid (fun w hT => c_Key a ⟨4, o.shift, o.back, o.great⟩ w hT (by omega))
    obtain ⟨fc, hfc⟩ : ∃ x : ByteArray, (⟨(formT 1 a.data.toList).toArray⟩ : ByteArray) = x := ⟨_, rfl⟩
    have HKC := Lib.hid (fun w hT => c_KeyG fc ⟨4, o.shift, o.back, o.great⟩ w hT (by
     have h1 := formT_len 1 a.data.toList
     rw [← len_eqC, ← hfc]
     rw [len_eqC] at h1
     show (formT 1 a.data.toList).toArray.toList.length ≤ 16000
     rw [List.toList_toArray]
     omega) (by
     have h1 := formT_len 0 a.data.toList
     rw [len_eqC] at h1
     rw [← hfc]
     show (formT 0 (formT 1 a.data.toList).toArray.toList).length ≤ 16000
     rw [List.toList_toArray, form_10]
     omega))
    have HFC := Lib.hid (show fc.data.toList = formT 1 a.data.toList by rw [← hfc])
    rw [HFC.out, form_10] at HKC
    have HFF := Lib.hid (fun w hT => HF.out a HAB.out.1 1 w hT)
    rw [hfc] at HFF
    clear hfe hvz HX4 hfc HF
    cases vz
    all_goals
     go_wp2_with fail
     clear o0 o1 o2 o3
     have HXP := Lib.hid hxp
     have HBP := Lib.hid hbp
     clear hxp hbp
     generalize w3.alloc (.cells #[.int .i64 4, .bool o.shift, .bool o.back, .bool o.great] 24) = W3 at HXP HBP ⊢
     generalize w3.heap.size = pb at HBP ⊢
     have q0 : ∀ w', EOn (fun _ => True) W3 w' → w'.cell? ⟨pb, 0, none⟩ = some (.int .i64 4) := fun w' hx => hx.cell trivial ((cell_blk HBP.out 0).trans rfl)
     have q1 : ∀ w', EOn (fun _ => True) W3 w' → w'.cell? ⟨pb, 1, none⟩ = some (.bool o.shift) := fun w' hx => hx.cell trivial ((cell_blk HBP.out 1).trans rfl)
     have q2 : ∀ w', EOn (fun _ => True) W3 w' → w'.cell? ⟨pb, 2, none⟩ = some (.bool o.back) := fun w' hx => hx.cell trivial ((cell_blk HBP.out 2).trans rfl)
     have q3 : ∀ w', EOn (fun _ => True) W3 w' → w'.cell? ⟨pb, 3, none⟩ = some (.bool o.great) := fun w' hx => hx.cell trivial ((cell_blk HBP.out 3).trans rfl)
     refine wp_perm (fun _ => True) [0, 1, 4, 6, 2, 3, 5, 7, 8, 9, 10, 11, 12, 13] [true, true, true, true, false, true, false, false, true, true, true, false, true] (by kernel_rfl) (by kernel_rfl) (by simp only [List.map_cons, List.map_nil, nth]; rfl) ?_
     repeat first
      | refine wpG_move' ?_
      | refine wpG_assign' ?_
      | refine wpG_val' ?_
      | refine wpG_no' ?_
     clear q0 q1 q2 q3
     refine wpG_do (by rfl) (fun w5 hx5 K hK => ?_)
     go_wp2_with fail
     refine (HKA.out w5 (HT0.out.ext (HXP.out.trans hx5))).mono ?_
     rintro e w6 ⟨va, rfl, hka, hx6⟩
     refine hK _ _ ⟨EOn.of_ext hx6, ?_⟩
     clear hK
     have hcv : ∀ w', EOn (fun _ => True) w6 w' → (convert 34 9 va).run Tryz.prog w' = .ok (.string ⟨(keyL bookP (mostC bookP) ⟨4, o.shift, o.back, o.great⟩ (formT 0 a.data.toList)).toArray⟩) w' := fun w' hx => conv_holds (holds_on hka.1 hx)
     have HX6 := Lib.hid (HXP.out.trans (hx5.trans hx6))
     clear hx5 hx6 hka
     obtain ⟨ka, hkea⟩ : ∃ x : ByteArray, (⟨(keyL bookP (mostC bookP) ⟨4, o.shift, o.back, o.great⟩ (formT 0 a.data.toList)).toArray⟩ : ByteArray) = x := ⟨_, rfl⟩
     simp only [hkea] at hcv
     have HKE := Lib.hid hkea
     have hkk : (ka.toList == ka.toList) = true := by simp
     clear hkea
     repeat first
      | refine wpG_move' ?_
      | refine wpG_assign' ?_
      | refine wpG_val' ?_
      | refine wpG_no' ?_
     clear hcv
     refine wpG_do (by rfl) (fun w7 hx7 K hK => ?_)
     go_wp2_with fail
     have HX7 := Lib.hid (HX6.out.trans hx7)
     refine (HFF.out w7 (HT0.out.ext HX7.out).t).mono ?_
     rintro e w8 ⟨rfl, hx8⟩
     refine hK _ _ ⟨EOn.of_ext hx8, ?_⟩
     have HX8 := Lib.hid (HX7.out.trans hx8)
     clear hK hx7 hx8
     refine wpG_do (by rfl) (fun w9 hx9 K hK => ?_)
     go_wp2_with fail
     have HX9 := Lib.hid (HX8.out.trans hx9)
     refine (HKC.out w9 (HT0.out.ext HX9.out)).mono ?_
     rintro e w10 ⟨vc, rfl, hkc, hx10⟩
     refine hK _ _ ⟨EOn.of_ext hx10, ?_⟩
     have HX10 := Lib.hid (HX9.out.trans hx10)
     clear hK hx9 hx10
     have hcv : ∀ w', EOn (fun _ => True) w10 w' → (convert 34 9 vc).run Tryz.prog w' = .ok (.string ⟨(keyL bookP (mostC bookP) ⟨4, o.shift, o.back, o.great⟩ (formT 0 a.data.toList)).toArray⟩) w' := fun w' hx => conv_holds (holds_on hkc.1 hx)
     simp only [HKE.out] at hcv
     clear hkc
     repeat first
      | refine wpG_move' ?_
      | refine wpG_assign' ?_
      | refine wpG_val' ?_
      | refine wpG_no' ?_
     clear hcv
     refine wpG_do (by rfl) (fun w11 hx11 K hK => ?_)
     go_wp2_with fail
     have HX11 := Lib.hid (HX10.out.trans hx11)
     refine (HL.out w11 (HT0.out.ext HX11.out)).mono ?_
     rintro e w12 ⟨rfl, hx12⟩
     refine hK _ _ ⟨EOn.of_ext hx12, ?_⟩
     have HX12 := Lib.hid (HX11.out.trans hx12)
     clear hK hx11 hx12
     repeat first
      | refine wpG_move' ?_
      | refine wpG_assign' ?_
      | refine wpG_val' ?_
      | refine wpG_no' ?_
     refine wpG_end (fun w13 hx13 => ?_)
     have HX13 := Lib.hid (HX0.out.trans (HX12.out.trans hx13))
     clear hx13
     go_wp2_with fail
     refine gQ_normal ?_
     go_wp2_with fail
     exact ret_one rfl rfl rfl ⟨rfl, HX13.out⟩
 ·have hsI : (60 : Int) < ((a.size : Nat) : Int) + (b.size : Nat) := by omega
  go_enter Tryz.func6, Tryz.ntmps6
  go_wp2_with fail
  refine (HL.out _ (hT.ext ((Ext.refl w).alloc _))).mono ?_
  rintro e w1 ⟨rfl, hx1⟩
  have HX1 := Lib.hid (((Ext.refl w).alloc _).trans hx1)
  clear hx1
  go_wp2_with fail
  exact ret_one rfl rfl rfl ⟨rfl, HX1.out⟩
end Go.Proofs.YtokeamebcdhnpaaGreatDoor
