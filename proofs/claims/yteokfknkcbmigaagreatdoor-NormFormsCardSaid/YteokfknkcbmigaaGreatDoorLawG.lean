/-
  Every text in every form, as the document has it.
-/
import Derived.Test.YteokfknkcbmigaaGreatDoorRefC
import Derived.Test.YteokfknkcbmigaaGreatDoorLiveM
namespace Go.Proofs.YteokfknkcbmigaaGreatDoor
open Go.RowKit Go.Rp Go.Shelf Go.Maps Go.Nm

set_option maxRecDepth 100000 in
set_option maxHeartbeats 8000000 in
theorem c_Forms (s : ByteArray) (f : Int) (w : World) (hT : Tabs w) : Calls Tryz.prog 3 #[.string s, .int .i64 f] w fun e w' => e = .returned (.bool true) ∧ Ext w w' := by
  by_cases hs : s.size ≤ 90
  · have hsI : ¬ (90 : Int) < (s.size : Nat) := by omega
    obtain ⟨z, hz⟩ : ∃ x : ByteArray, (⟨(formT f s.data.toList).toArray⟩ : ByteArray) = x := ⟨_, rfl⟩
    obtain ⟨b, hb⟩ : ∃ b : Bool, decide (formT f s.data.toList = s.data.toList) = b := ⟨_, rfl⟩
    have hbz : (z.toList == s.toList) = b := by
      rw [← hb, ← hz, ByteArray.toList_eq, ByteArray.toList_eq]
      show ((formT f s.data.toList == s.data.toList) : Bool) = _
      rw [Bool.eq_iff_iff, decide_eq_true_eq, beq_iff_eq]
    have H1 := Lib.hid (fun tB w2 h2 => c_rForm tB s f w2 h2 (by omega))
    have H2 := Lib.hid (fun w2 hT2 => c_Form s f w2 hT2 (by omega))
    have H3 := Lib.hid (fun w2 hT2 => c_Is' s f b (by rw [← hb, decide_eq_true_eq]) w2 hT2 (by omega))
    simp only [hz] at H1 H2
    have hzz : (z.toList == z.toList) = true := by simp
    have hbb : (b == b) = true := by simp
    clear hs hz hb
    go_enter Tryz.func3, Tryz.ntmps3
    go_wp2_with fail
    refine (c_rTables w).mono ?_
    rintro e w1 ⟨tB, rfl, hr1, hx1⟩
    have HX1 := Lib.hid (And.intro hx1 hr1)
    clear hx1 hr1
    go_wp2_with fail
    refine (H1.out tB w1 HX1.out.2).mono ?_
    rintro e w2 ⟨rfl, hx2⟩
    have HX2 := Lib.hid (HX1.out.1.trans hx2)
    clear hx2
    go_wp2_with fail
    refine (H2.out w2 (hT.ext HX2.out)).mono ?_
    rintro e w3 ⟨rfl, hx3⟩
    have HX3 := Lib.hid (HX2.out.trans hx3)
    clear hx3
    go_wp2_with fail
    refine (H3.out w3 (hT.ext HX3.out)).mono ?_
    rintro e w4 ⟨rfl, hx4⟩
    have HX4 := Lib.hid (HX3.out.trans hx4)
    clear hx4
    go_wp2_with fail
    refine (c_live w4 (hT.ext HX4.out)).mono ?_
    rintro e w9 ⟨rfl, hx9⟩
    have HX9 := Lib.hid (HX4.out.trans hx9)
    clear hx9
    go_wp2_with fail
    go_ret
    exact ⟨rfl, HX9.out⟩
  · have hsI : (90 : Int) < (s.size : Nat) := by omega
    have HX0 := Lib.hid (Ext.refl w)
    go_enter Tryz.func3, Tryz.ntmps3
    go_wp2_with fail
    refine (c_live w (hT.ext HX0.out)).mono ?_
    rintro e w9 ⟨rfl, hx9⟩
    have HX9 := Lib.hid (HX0.out.trans hx9)
    clear hx9
    go_wp2_with fail
    go_ret
    exact ⟨rfl, HX9.out⟩
end Go.Proofs.YteokfknkcbmigaaGreatDoor
