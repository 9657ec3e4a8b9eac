/-
  Where every text may be cut, as the document has it.
-/
import Derived.Test.YteokfknkcbmigaaGreatDoorRefE
import Derived.Test.YteokfknkcbmigaaGreatDoorRJ
import Derived.Test.YteokfknkcbmigaaGreatDoorLiveM
namespace Go.Proofs.YteokfknkcbmigaaGreatDoor
open Go.RowKit Go.Rp Go.Shelf Go.Maps Go.Nm

theorem safe_bool (s : List UInt8) (k f : Int) : ∃ b : Bool, b = true ↔ SafeT s k f := by
  by_cases h : SafeT s k f
  · exact ⟨true, by simp [h]⟩
  · exact ⟨false, by simp [h]⟩
set_option maxRecDepth 100000 in
set_option maxHeartbeats 8000000 in
theorem c_Safes (s : ByteArray) (f k : Int) (w : World) (hT : Tabs w) : Calls Tryz.prog 4 #[.string s, .int .i64 f, .int .i64 k] w fun e w' => e = .returned (.bool true) ∧ Ext w w' := by
  by_cases hs : s.size ≤ 90
  · have hsI : ¬ (90 : Int) < (s.size : Nat) := by omega
    have hsJ : ((s.size : Nat) : Int) ≤ 90 := by omega
    have H1 := Lib.hid (fun z b hb w2 hT2 => c_Safe s z f b w2 hT2 (by omega) hb)
    have H2 := Lib.hid (fun tB z b hb w2 h2 => c_rSafe tB s z f b w2 h2 (by omega) hb)
    clear hs
    go_enter Tryz.func4, Tryz.ntmps4
    go_wp2_with fail
    refine (c_rTables w).mono ?_
    rintro e w1 ⟨tB, rfl, hr1, hx1⟩
    have HX1 := Lib.hid (And.intro hx1 hr1)
    clear hx1 hr1
    go_wp2_with fail
    go_loopw [8] (fun iv W => ∃ z : Int, iv = .int .i64 z ∧ -1 ≤ z ∧ z ≤ (s.size : Nat) + 2 ∧ Ext w1 W) (fun iv _ => ((s.size : Nat) + 3 - intOf iv).toNat)
    case atStart => exact ⟨-1, rfl, by omega, by omega, Ext.refl _⟩
    case round =>
      obtain ⟨z, rfl, hz1, hz2, hx⟩ := hrel
      have HXR := Lib.hid hx
      clear hx
      by_cases hlt : z ≤ (s.size : Nat) + 1
      · have hd : decide (z ≤ ((s.size : Nat) : Int) + 1) = true := decide_eq_true hlt
        obtain ⟨b, hb⟩ := safe_bool s.data.toList z f
        have HB := Lib.hid hb
        have hbb : (b != b) = false := by simp
        clear hb
        go_wp2_with fail
        refine (H1.out z b HB.out _ (hT.ext (HX1.out.1.trans HXR.out))).mono ?_
        rintro e w2 ⟨rfl, hx2⟩
        have HX2 := Lib.hid (HXR.out.trans hx2)
        clear hx2
        go_wp2_with fail
        refine (H2.out tB z b HB.out _ (HX1.out.2.mono HX2.out)).mono ?_
        rintro e w3 ⟨rfl, hx3⟩
        have HX3 := Lib.hid (HX2.out.trans hx3)
        clear hx3
        go_wp2_with fail
        exact ⟨⟨z + 1, rfl, by omega, by omega, HX3.out⟩, by simp only [intOf]; omega⟩
      · have hd : decide (z ≤ ((s.size : Nat) : Int) + 1) = false := decide_eq_false hlt
        obtain ⟨b, hb⟩ := safe_bool s.data.toList k f
        have HB := Lib.hid hb
        have hbb : (b == b) = true := by simp
        clear hb
        go_wp2_with fail
        refine (H1.out k b HB.out _ (hT.ext (HX1.out.1.trans HXR.out))).mono ?_
        rintro e w2 ⟨rfl, hx2⟩
        have HX2 := Lib.hid (HXR.out.trans hx2)
        clear hx2
        go_wp2_with fail
        refine (H2.out tB k b HB.out _ (HX1.out.2.mono HX2.out)).mono ?_
        rintro e w3 ⟨rfl, hx3⟩
        have HX3 := Lib.hid (HX2.out.trans hx3)
        clear hx3
        have HX4 := Lib.hid (HX1.out.1.trans HX3.out)
        go_wp2_with fail
        refine (c_live w3 (hT.ext HX4.out)).mono ?_
        rintro e w9 ⟨rfl, hx9⟩
        have HX9 := Lib.hid (HX4.out.trans hx9)
        clear hx9
        go_wp2_with fail
        go_ret
        exact ⟨rfl, HX9.out⟩
  · have hsI : (90 : Int) < (s.size : Nat) := by omega
    have HX0 := Lib.hid (Ext.refl w)
    go_enter Tryz.func4, Tryz.ntmps4
    go_wp2_with fail
    refine (c_live w (hT.ext HX0.out)).mono ?_
    rintro e w9 ⟨rfl, hx9⟩
    have HX9 := Lib.hid (HX0.out.trans hx9)
    clear hx9
    go_wp2_with fail
    go_ret
    exact ⟨rfl, HX9.out⟩
end Go.Proofs.YteokfknkcbmigaaGreatDoor
