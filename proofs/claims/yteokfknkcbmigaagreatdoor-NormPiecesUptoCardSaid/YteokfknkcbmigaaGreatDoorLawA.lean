/-
  A form of a form.
-/
import Derived.Test.YteokfknkcbmigaaGreatDoorLiveM
namespace Go.Proofs.YteokfknkcbmigaaGreatDoor
open Go.RowKit Go.Rp Go.Shelf Go.Maps Go.Nm

/-- The last form, loose if one of them was. -/
def lastF (a b : Int) : Int := if 2 ≤ a ∧ b < 2 then b + 2 else b
theorem form_last {a b : Int} (ha : 0 ≤ a ∧ a ≤ 3) (hb : 0 ≤ b ∧ b ≤ 3) (s : List UInt8) : formT b (formT a s) = formT (lastF a b) s := by
  have hc : 0 ≤ lastF a b ∧ lastF a b ≤ 3 := by unfold lastF; split <;> omega
  unfold formT
  rw [if_pos ha, if_pos hb, if_pos hc, form_form tbT_ok]
  have h1 : (decide (a = 2 ∨ a = 3) || decide (b = 2 ∨ b = 3)) = decide (lastF a b = 2 ∨ lastF a b = 3) := by
    rw [Bool.eq_iff_iff, Bool.or_eq_true, decide_eq_true_eq, decide_eq_true_eq, decide_eq_true_eq]
    unfold lastF
    split <;> omega
  have h2 : decide (b = 1 ∨ b = 3) = decide (lastF a b = 1 ∨ lastF a b = 3) := by
    rw [decide_eq_decide]
    unfold lastF
    split <;> omega
  rw [h1, h2]
theorem form_self {a : Int} (ha : 0 ≤ a ∧ a ≤ 3) (s : List UInt8) : formT a (formT a s) = formT a s := by
  rw [form_last ha ha]
  congr 1
  unfold lastF
  split <;> omega
end Go.Proofs.YteokfknkcbmigaaGreatDoor
