/-
 live, in plain words: what the keys of a few texts are.
-/
import Derived.Test.YtokeamebcdhnpaaGreatDoorColM
namespace Go.Proofs.YtokeamebcdhnpaaGreatDoor
open Go.RowKit Go.Rp Go.Shelf Go.Maps Go.Cl

def ordL : Cl.Ord := ⟨3, false, false, false⟩
theorem lv_c1 : cmpB (keyT ordL ⟨#[99, 111, 116, 101]⟩) (keyT ordL ⟨#[99, 111, 116, 195, 169]⟩) = -1 := by kernel_rfl
theorem lv_c2 : cmpB (keyT ordL ⟨#[97]⟩) (keyT ordL ⟨#[65]⟩) = -1 := by kernel_rfl
theorem lv_c3 : cmpB (keyT ordL ⟨#[99, 104]⟩) (keyT ordL ⟨#[99, 122]⟩) = 1 := by kernel_rfl
theorem lv_c4 : cmpB (keyT ordL ⟨#[98]⟩) (keyT ordL ⟨#[97]⟩) = 1 := by kernel_rfl
theorem lv_c5 : (elems bookP (mostC bookP) (formT 0 [195, 166])).length = 2 := by kernel_rfl
end Go.Proofs.YtokeamebcdhnpaaGreatDoor
