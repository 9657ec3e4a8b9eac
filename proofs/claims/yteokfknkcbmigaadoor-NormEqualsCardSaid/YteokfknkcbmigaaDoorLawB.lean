/-
  A nil stream; equal by one form.
-/
import Derived.Test.YteokfknkcbmigaaDoorLawA
namespace Go.Proofs.YteokfknkcbmigaaDoor
open Go.RowKit Go.Rp Go.Shelf Go.Maps Go.Nm

set_option maxRecDepth 100000 in
set_option maxHeartbeats 4000000 in
theorem c_Nil (w : World) (hT : Tabs w) : Calls Tryd.prog 7 #[] w fun e w' => e = .returned (.bool true) ∧ Ext w w' := by
  have hcc := fun (w : World) (C : Array Value) (n c : Nat) => Lib.run_convert_bytes_const (P := Tryd.prog) w 26 5 C n c Tryd.underlying26 Tryd.underlying5
  have HW := Lib.hid (show ∀ p w, Calls Tryd.prog 14 #[.pointer none, p] w fun e w' => e = .returned (.string ⟨#[]⟩) ∧ w' = w from fun p w => by
    go_enter Tryd.func14, Tryd.ntmps14
    go_wp2_with fail
    go_ret
    exact ⟨rfl, rfl⟩)
  have HC := Lib.hid (show ∀ w, Calls Tryd.prog 15 #[.pointer none] w fun e w' => e = .returned (.string ⟨#[]⟩) ∧ w' = w from fun w => by
    go_enter Tryd.func15, Tryd.ntmps15
    go_wp2_with fail
    go_ret
    exact ⟨rfl, rfl⟩)
  have HH := Lib.hid (show ∀ w, Calls Tryd.prog 16 #[.pointer none] w fun e w' => e = .returned (.int .i64 0) ∧ w' = w from fun w => by
    go_enter Tryd.func16, Tryd.ntmps16
    go_wp2_with fail
    go_ret
    exact ⟨rfl, rfl⟩)
  go_enter Tryd.func7, Tryd.ntmps7
  go_wp2_with fail
  refine (c_live w hT).mono ?_
  rintro e w1 ⟨rfl, hx1⟩
  have HX1 := Lib.hid hx1
  clear hx1
  go_wp2_with fail
  have HX2 := Lib.hid (HX1.out.alloc (.cells #[.int .u8 97] 5 (1, 2)))
  generalize w1.alloc (.cells #[.int .u8 97] 5 (1, 2)) = w2 at HX2 ⊢
  refine (HW.out _ w2).mono ?_
  rintro e wn ⟨rfl, en⟩
  obtain rfl := en.symm
  clear en
  go_wp2_with fail
  refine (HC.out w2).mono ?_
  rintro e wn ⟨rfl, en⟩
  obtain rfl := en.symm
  clear en
  go_wp2_with fail
  refine (HH.out w2).mono ?_
  rintro e wn ⟨rfl, en⟩
  obtain rfl := en.symm
  clear en
  go_wp2_with fail
  go_ret
  exact ⟨rfl, HX2.out⟩
theorem form_eq {f g : Int} (hf : 0 ≤ f ∧ f ≤ 3) (hg : 0 ≤ g ∧ g ≤ 3) (h : decide (f = 2 ∨ f = 3) = decide (g = 2 ∨ g = 3)) {s t : List UInt8} : formT f s = formT f t ↔ formT g s = formT g t := by
  unfold formT
  rw [if_pos hf, if_pos hf, if_pos hg, if_pos hg, form_eq_iff tbT_ok, form_eq_iff tbT_ok, h]
theorem form_loose {s t : List UInt8} (h : formT 0 s = formT 0 t) : formT 2 s = formT 2 t := by
  unfold formT at h ⊢
  rw [if_pos (by decide), if_pos (by decide)] at h ⊢
  rw [form_eq_iff tbT_ok] at h ⊢
  exact E_loose tbT_ok h
set_option maxRecDepth 100000 in
set_option maxHeartbeats 8000000 in
theorem c_Equals (a b : ByteArray) (w : World) (hT : Tabs w) : Calls Tryd.prog 6 #[.string a, .string b] w fun e w' => e = .returned (.bool true) ∧ Ext w w' := by
  by_cases hin : a.size ≤ 90 ∧ b.size ≤ 90
  · obtain ⟨ha, hb⟩ := hin
    have haI : ¬ (90 : Int) < (a.size : Nat) := by omega
    have hbI : ¬ (90 : Int) < (b.size : Nat) := by omega
    obtain ⟨d, hd⟩ : ∃ d : Bool, d = true ↔ formT 0 a.data.toList = formT 0 b.data.toList := by
      by_cases h : formT 0 a.data.toList = formT 0 b.data.toList
      · exact ⟨true, fun _ => h, fun _ => rfl⟩
      · exact ⟨false, (fun h2 => by cases h2), fun h2 => absurd h2 h⟩
    obtain ⟨k, hk⟩ : ∃ k : Bool, k = true ↔ formT 2 a.data.toList = formT 2 b.data.toList := by
      by_cases h : formT 2 a.data.toList = formT 2 b.data.toList
      · exact ⟨true, fun _ => h, fun _ => rfl⟩
      · exact ⟨false, (fun h2 => by cases h2), fun h2 => absurd h2 h⟩
    have hdk : d = true → k = true := fun h => hk.2 (form_loose (hd.1 h))
    have HE := Lib.hid (show ∀ w2, Tabs w2 → (Calls Tryd.prog 13 #[.string a, .string b, .int .i64 0] w2 fun e w' => e = .returned (.bool d) ∧ Ext w2 w') ∧ (Calls Tryd.prog 13 #[.string a, .string b, .int .i64 1] w2 fun e w' => e = .returned (.bool d) ∧ Ext w2 w') ∧ (Calls Tryd.prog 13 #[.string a, .string b, .int .i64 2] w2 fun e w' => e = .returned (.bool k) ∧ Ext w2 w') ∧ (Calls Tryd.prog 13 #[.string a, .string b, .int .i64 3] w2 fun e w' => e = .returned (.bool k) ∧ Ext w2 w') from fun w2 hT2 =>
      ⟨c_Equal a b 0 d hd w2 hT2 (by omega) (by omega), c_Equal a b 1 d (hd.trans (form_eq (by decide) (by decide) (by decide))) w2 hT2 (by omega) (by omega), c_Equal a b 2 k hk w2 hT2 (by omega) (by omega), c_Equal a b 3 k (hk.trans (form_eq (by decide) (by decide) (by decide))) w2 hT2 (by omega) (by omega)⟩)
    obtain ⟨a0, ha0⟩ : ∃ x : ByteArray, (⟨(formT 0 a.data.toList).toArray⟩ : ByteArray) = x := ⟨_, rfl⟩
    obtain ⟨b0, hb0⟩ : ∃ x : ByteArray, (⟨(formT 0 b.data.toList).toArray⟩ : ByteArray) = x := ⟨_, rfl⟩
    obtain ⟨a2, ha2⟩ : ∃ x : ByteArray, (⟨(formT 2 a.data.toList).toArray⟩ : ByteArray) = x := ⟨_, rfl⟩
    obtain ⟨b2, hb2⟩ : ∃ x : ByteArray, (⟨(formT 2 b.data.toList).toArray⟩ : ByteArray) = x := ⟨_, rfl⟩
    obtain ⟨a1, ha1⟩ : ∃ x : ByteArray, (⟨(formT 1 a.data.toList).toArray⟩ : ByteArray) = x := ⟨_, rfl⟩
    obtain ⟨a3, ha3⟩ : ∃ x : ByteArray, (⟨(formT 3 a.data.toList).toArray⟩ : ByteArray) = x := ⟨_, rfl⟩
    have HF := Lib.hid (show ∀ w2, Tabs w2 → (Calls Tryd.prog 9 #[.string a, .int .i64 0] w2 fun e w' => e = .returned (.string a0) ∧ Ext w2 w') ∧ (Calls Tryd.prog 9 #[.string b, .int .i64 0] w2 fun e w' => e = .returned (.string b0) ∧ Ext w2 w') ∧ (Calls Tryd.prog 9 #[.string a, .int .i64 2] w2 fun e w' => e = .returned (.string a2) ∧ Ext w2 w') ∧ (Calls Tryd.prog 9 #[.string b, .int .i64 2] w2 fun e w' => e = .returned (.string b2) ∧ Ext w2 w') ∧ (Calls Tryd.prog 9 #[.string a, .int .i64 1] w2 fun e w' => e = .returned (.string a1) ∧ Ext w2 w') ∧ (Calls Tryd.prog 9 #[.string a, .int .i64 3] w2 fun e w' => e = .returned (.string a3) ∧ Ext w2 w') from fun w2 hT2 =>
      ⟨by rw [← ha0]; exact c_Form a 0 w2 hT2 (by omega), by rw [← hb0]; exact c_Form b 0 w2 hT2 (by omega), by rw [← ha2]; exact c_Form a 2 w2 hT2 (by omega), by rw [← hb2]; exact c_Form b 2 w2 hT2 (by omega), by rw [← ha1]; exact c_Form a 1 w2 hT2 (by omega), by rw [← ha3]; exact c_Form a 3 w2 hT2 (by omega)⟩)
    have l0 : a0.data.toList = formT 0 a.data.toList := by rw [← ha0]
    have l1 : a1.data.toList = formT 1 a.data.toList := by rw [← ha1]
    have l3 : a3.data.toList = formT 3 a.data.toList := by rw [← ha3]
    have hz : ∀ (f : Int) (x : ByteArray), x.data.toList = formT f a.data.toList → x.size ≤ 1000000 := fun f x h => by
      have := formT_len f a.data.toList
      rw [← h, len_eq, len_eq] at this
      omega
    have hl : ∀ f g : Int, 0 ≤ f ∧ f ≤ 3 → 0 ≤ g ∧ g ≤ 3 → lastF f g = g → formT g a.data.toList = formT g (formT f a.data.toList) := fun f g hf hg h => by rw [form_last hf hg, h]
    have HG := Lib.hid (show ∀ w2, Tabs w2 → (Calls Tryd.prog 13 #[.string a, .string a1, .int .i64 0] w2 fun e w' => e = .returned (.bool true) ∧ Ext w2 w') ∧ (Calls Tryd.prog 13 #[.string a, .string a0, .int .i64 1] w2 fun e w' => e = .returned (.bool true) ∧ Ext w2 w') ∧ (Calls Tryd.prog 13 #[.string a, .string a3, .int .i64 2] w2 fun e w' => e = .returned (.bool true) ∧ Ext w2 w') ∧ (Calls Tryd.prog 13 #[.string a, .string a, .int .i64 77] w2 fun e w' => e = .returned (.bool true) ∧ Ext w2 w') from fun w2 hT2 =>
      ⟨c_Equal a a1 0 true ⟨fun _ => by rw [l1]; exact hl 1 0 (by decide) (by decide) (by decide), fun _ => rfl⟩ w2 hT2 (by omega) (hz 1 a1 l1), c_Equal a a0 1 true ⟨fun _ => by rw [l0]; exact hl 0 1 (by decide) (by decide) (by decide), fun _ => rfl⟩ w2 hT2 (by omega) (hz 0 a0 l0), c_Equal a a3 2 true ⟨fun _ => by rw [l3]; exact hl 3 2 (by decide) (by decide) (by decide), fun _ => rfl⟩ w2 hT2 (by omega) (hz 3 a3 l3), c_Equal a a 77 true ⟨fun _ => rfl, fun _ => rfl⟩ w2 hT2 (by omega) (by omega)⟩)
    have q0 : (a0.toList == b0.toList) = d := by
      rw [Bool.eq_iff_iff, hd, beq_iff_eq, ByteArray.toList_eq, ByteArray.toList_eq, ← ha0, ← hb0]
    have q2 : (a2.toList == b2.toList) = k := by
      rw [Bool.eq_iff_iff, hk, beq_iff_eq, ByteArray.toList_eq, ByteArray.toList_eq, ← ha2, ← hb2]
    have HX0 := Lib.hid (Ext.refl w)
    clear ha0 hb0 ha1 ha2 hb2 ha3 l0 l1 l3 hz hl hd hk ha hb
    go_enter Tryd.func6, Tryd.ntmps6
    go_wp2_with fail
    refine ((HE.out w hT).1).mono ?_
    rintro e w1 ⟨rfl, hx⟩
    have HX1 := Lib.hid (HX0.out.trans hx)
    clear hx
    go_wp2_with fail
    refine ((HE.out w1 (hT.ext HX1.out)).2.1).mono ?_
    rintro e w2 ⟨rfl, hx⟩
    have HX2 := Lib.hid (HX1.out.trans hx)
    clear hx
    go_wp2_with fail
    refine ((HE.out w2 (hT.ext HX2.out)).2.2.1).mono ?_
    rintro e w3 ⟨rfl, hx⟩
    have HX3 := Lib.hid (HX2.out.trans hx)
    clear hx
    go_wp2_with fail
    refine ((HE.out w3 (hT.ext HX3.out)).2.2.2).mono ?_
    rintro e w4 ⟨rfl, hx⟩
    have HX4 := Lib.hid (HX3.out.trans hx)
    clear hx
    have hdd : (d != d) = false := by cases d <;> rfl
    have hkk : (k != k) = false := by cases k <;> rfl
    cases d with
    | true =>
      obtain rfl : k = true := hdk rfl
      go_wp2_with fail
      refine ((HF.out w4 (hT.ext HX4.out)).1).mono ?_
      rintro e w5 ⟨rfl, hx⟩
      have HX5 := Lib.hid (HX4.out.trans hx)
      clear hx
      go_wp2_with fail
      refine ((HF.out w5 (hT.ext HX5.out)).2.1).mono ?_
      rintro e w6 ⟨rfl, hx⟩
      have HX6 := Lib.hid (HX5.out.trans hx)
      clear hx
      go_wp2_with fail
      refine ((HF.out w6 (hT.ext HX6.out)).2.2.1).mono ?_
      rintro e w7 ⟨rfl, hx⟩
      have HX7 := Lib.hid (HX6.out.trans hx)
      clear hx
      go_wp2_with fail
      refine ((HF.out w7 (hT.ext HX7.out)).2.2.2.1).mono ?_
      rintro e w8 ⟨rfl, hx⟩
      have HX8 := Lib.hid (HX7.out.trans hx)
      clear hx
      go_wp2_with fail
      refine ((HF.out w8 (hT.ext HX8.out)).2.2.2.2.1).mono ?_
      rintro e w9 ⟨rfl, hx⟩
      have HX9 := Lib.hid (HX8.out.trans hx)
      clear hx
      go_wp2_with fail
      refine ((HG.out w9 (hT.ext HX9.out)).1).mono ?_
      rintro e w10 ⟨rfl, hx⟩
      have HX10 := Lib.hid (HX9.out.trans hx)
      clear hx
      go_wp2_with fail
      refine ((HF.out w10 (hT.ext HX10.out)).1).mono ?_
      rintro e w11 ⟨rfl, hx⟩
      have HX11 := Lib.hid (HX10.out.trans hx)
      clear hx
      go_wp2_with fail
      refine ((HG.out w11 (hT.ext HX11.out)).2.1).mono ?_
      rintro e w12 ⟨rfl, hx⟩
      have HX12 := Lib.hid (HX11.out.trans hx)
      clear hx
      go_wp2_with fail
      refine ((HF.out w12 (hT.ext HX12.out)).2.2.2.2.2).mono ?_
      rintro e w13 ⟨rfl, hx⟩
      have HX13 := Lib.hid (HX12.out.trans hx)
      clear hx
      go_wp2_with fail
      refine ((HG.out w13 (hT.ext HX13.out)).2.2.1).mono ?_
      rintro e w14 ⟨rfl, hx⟩
      have HX14 := Lib.hid (HX13.out.trans hx)
      clear hx
      go_wp2_with fail
      refine ((HG.out w14 (hT.ext HX14.out)).2.2.2).mono ?_
      rintro e w15 ⟨rfl, hx⟩
      have HX15 := Lib.hid (HX14.out.trans hx)
      clear hx
      go_wp2_with fail
      refine (c_live w15 (hT.ext HX15.out)).mono ?_
      rintro e w16 ⟨rfl, hx⟩
      have HX16 := Lib.hid (HX15.out.trans hx)
      clear hx
      go_wp2_with fail
      go_ret
      exact ⟨rfl, HX16.out⟩
    | false =>
      cases k with
      | true =>
        go_wp2_with fail
        refine ((HF.out w4 (hT.ext HX4.out)).1).mono ?_
        rintro e w5 ⟨rfl, hx⟩
        have HX5 := Lib.hid (HX4.out.trans hx)
        clear hx
        go_wp2_with fail
        refine ((HF.out w5 (hT.ext HX5.out)).2.1).mono ?_
        rintro e w6 ⟨rfl, hx⟩
        have HX6 := Lib.hid (HX5.out.trans hx)
        clear hx
        go_wp2_with fail
        refine ((HF.out w6 (hT.ext HX6.out)).2.2.1).mono ?_
        rintro e w7 ⟨rfl, hx⟩
        have HX7 := Lib.hid (HX6.out.trans hx)
        clear hx
        go_wp2_with fail
        refine ((HF.out w7 (hT.ext HX7.out)).2.2.2.1).mono ?_
        rintro e w8 ⟨rfl, hx⟩
        have HX8 := Lib.hid (HX7.out.trans hx)
        clear hx
        go_wp2_with fail
        refine ((HF.out w8 (hT.ext HX8.out)).2.2.2.2.1).mono ?_
        rintro e w9 ⟨rfl, hx⟩
        have HX9 := Lib.hid (HX8.out.trans hx)
        clear hx
        go_wp2_with fail
        refine ((HG.out w9 (hT.ext HX9.out)).1).mono ?_
        rintro e w10 ⟨rfl, hx⟩
        have HX10 := Lib.hid (HX9.out.trans hx)
        clear hx
        go_wp2_with fail
        refine ((HF.out w10 (hT.ext HX10.out)).1).mono ?_
        rintro e w11 ⟨rfl, hx⟩
        have HX11 := Lib.hid (HX10.out.trans hx)
        clear hx
        go_wp2_with fail
        refine ((HG.out w11 (hT.ext HX11.out)).2.1).mono ?_
        rintro e w12 ⟨rfl, hx⟩
        have HX12 := Lib.hid (HX11.out.trans hx)
        clear hx
        go_wp2_with fail
        refine ((HF.out w12 (hT.ext HX12.out)).2.2.2.2.2).mono ?_
        rintro e w13 ⟨rfl, hx⟩
        have HX13 := Lib.hid (HX12.out.trans hx)
        clear hx
        go_wp2_with fail
        refine ((HG.out w13 (hT.ext HX13.out)).2.2.1).mono ?_
        rintro e w14 ⟨rfl, hx⟩
        have HX14 := Lib.hid (HX13.out.trans hx)
        clear hx
        go_wp2_with fail
        refine ((HG.out w14 (hT.ext HX14.out)).2.2.2).mono ?_
        rintro e w15 ⟨rfl, hx⟩
        have HX15 := Lib.hid (HX14.out.trans hx)
        clear hx
        go_wp2_with fail
        refine (c_live w15 (hT.ext HX15.out)).mono ?_
        rintro e w16 ⟨rfl, hx⟩
        have HX16 := Lib.hid (HX15.out.trans hx)
        clear hx
        go_wp2_with fail
        go_ret
        exact ⟨rfl, HX16.out⟩
      | false =>
        go_wp2_with fail
        refine ((HF.out w4 (hT.ext HX4.out)).1).mono ?_
        rintro e w5 ⟨rfl, hx⟩
        have HX5 := Lib.hid (HX4.out.trans hx)
        clear hx
        go_wp2_with fail
        refine ((HF.out w5 (hT.ext HX5.out)).2.1).mono ?_
        rintro e w6 ⟨rfl, hx⟩
        have HX6 := Lib.hid (HX5.out.trans hx)
        clear hx
        go_wp2_with fail
        refine ((HF.out w6 (hT.ext HX6.out)).2.2.1).mono ?_
        rintro e w7 ⟨rfl, hx⟩
        have HX7 := Lib.hid (HX6.out.trans hx)
        clear hx
        go_wp2_with fail
        refine ((HF.out w7 (hT.ext HX7.out)).2.2.2.1).mono ?_
        rintro e w8 ⟨rfl, hx⟩
        have HX8 := Lib.hid (HX7.out.trans hx)
        clear hx
        go_wp2_with fail
        refine ((HF.out w8 (hT.ext HX8.out)).2.2.2.2.1).mono ?_
        rintro e w9 ⟨rfl, hx⟩
        have HX9 := Lib.hid (HX8.out.trans hx)
        clear hx
        go_wp2_with fail
        refine ((HG.out w9 (hT.ext HX9.out)).1).mono ?_
        rintro e w10 ⟨rfl, hx⟩
        have HX10 := Lib.hid (HX9.out.trans hx)
        clear hx
        go_wp2_with fail
        refine ((HF.out w10 (hT.ext HX10.out)).1).mono ?_
        rintro e w11 ⟨rfl, hx⟩
        have HX11 := Lib.hid (HX10.out.trans hx)
        clear hx
        go_wp2_with fail
        refine ((HG.out w11 (hT.ext HX11.out)).2.1).mono ?_
        rintro e w12 ⟨rfl, hx⟩
        have HX12 := Lib.hid (HX11.out.trans hx)
        clear hx
        go_wp2_with fail
        refine ((HF.out w12 (hT.ext HX12.out)).2.2.2.2.2).mono ?_
        rintro e w13 ⟨rfl, hx⟩
        have HX13 := Lib.hid (HX12.out.trans hx)
        clear hx
        go_wp2_with fail
        refine ((HG.out w13 (hT.ext HX13.out)).2.2.1).mono ?_
        rintro e w14 ⟨rfl, hx⟩
        have HX14 := Lib.hid (HX13.out.trans hx)
        clear hx
        go_wp2_with fail
        refine ((HG.out w14 (hT.ext HX14.out)).2.2.2).mono ?_
        rintro e w15 ⟨rfl, hx⟩
        have HX15 := Lib.hid (HX14.out.trans hx)
        clear hx
        go_wp2_with fail
        refine (c_live w15 (hT.ext HX15.out)).mono ?_
        rintro e w16 ⟨rfl, hx⟩
        have HX16 := Lib.hid (HX15.out.trans hx)
        clear hx
        go_wp2_with fail
        go_ret
        exact ⟨rfl, HX16.out⟩
  · by_cases h1 : a.size ≤ 90
    · have h1I : ¬ (90 : Int) < (a.size : Nat) := by omega
      have h2I : (90 : Int) < (b.size : Nat) := by
        have : ¬ b.size ≤ 90 := fun h => hin ⟨h1, h⟩
        omega
      clear hin
      go_enter Tryd.func6, Tryd.ntmps6
      go_wp2_with fail
      refine (c_live w hT).mono ?_
      rintro e w6 ⟨rfl, hx6⟩
      have HX6 := Lib.hid hx6
      clear hx6
      go_wp2_with fail
      go_ret
      exact ⟨rfl, HX6.out⟩
    · have h1I : (90 : Int) < (a.size : Nat) := by omega
      clear hin
      go_enter Tryd.func6, Tryd.ntmps6
      go_wp2_with fail
      refine (c_live w hT).mono ?_
      rintro e w6 ⟨rfl, hx6⟩
      have HX6 := Lib.hid hx6
      clear hx6
      go_wp2_with fail
      go_ret
      exact ⟨rfl, HX6.out⟩
end Go.Proofs.YteokfknkcbmigaaDoor
