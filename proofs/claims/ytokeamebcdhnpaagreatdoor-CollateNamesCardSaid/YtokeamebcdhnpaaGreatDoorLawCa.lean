/-
 CollateNames.
-/
import Derived.Test.YtokeamebcdhnpaaGreatDoorColW
namespace Go.Proofs.YtokeamebcdhnpaaGreatDoor
open Go.RowKit Go.Rp Go.Shelf Go.Maps Go.Cl

theorem c_Names (w : World) (hT : TabsC w) : Calls Tryz.prog 3 #[] w fun e w' => e = .returned (.bool true) ∧ Ext w w' := by
 have HL := Lib.hid (fun w hT => c_live w hT)
 go_enter Tryz.func3, Tryz.ntmps3
 go_wp2_with fail
 refine (HL.out w hT).mono ?_
 rintro e w1 ⟨rfl, hx1⟩
 have HX1 := Lib.hid hx1
 clear hx1
 go_wp2_with fail
 exact ret_one rfl rfl rfl ⟨rfl, HX1.out⟩
end Go.Proofs.YtokeamebcdhnpaaGreatDoor
