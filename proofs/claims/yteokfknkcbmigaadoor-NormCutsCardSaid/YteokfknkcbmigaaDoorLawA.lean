/-
  A form of a form.
-/
import Derived.Test.YteokfknkcbmigaaDoorLiveM
namespace Go.Proofs.YteokfknkcbmigaaDoor
open Go.RowKit Go.Rp Go.Shelf Go.Maps Go.Nm

/-- The last form, loose if one of them was. -/
def lastF (a b : Int) : Int := if 2 ≤ a ∧ b < 2 then b + 2 else b
theorem form_last {a b : Int} (ha : 0 ≤ a ∧ a ≤ 3) (hb : 0 ≤ b ∧ b ≤ 3) (s : List UInt8) : formT b (formT a s) = formT (lastF a b) s := by
  have hc : 0 ≤ lastF a b ∧ lastF a b ≤ 3 := by unfold lastF; split <;> omega
  unfold formT
  rw [if_pos ha, if_pos hb, if_pos hc, form_form tbT_ok]
  have h1 : (decide (a = 2 ∨ a = 3) || decide (b = 2 ∨ b = 3)) = decide (lastF a b = 2 ∨ lastF a b = 3) := by
    rw [Bool.eq_iff_iff, Bool.or_eq_true, decide_eq_true_eq, decide_eq_true_eq, decide_eq_true_eq]
    unfold lastF
    split <;> omega
  have h2 : decide (b = 1 ∨ b = 3) = decide (lastF a b = 1 ∨ lastF a b = 3) := by
    rw [decide_eq_decide]
    unfold lastF
    split <;> omega
  rw [h1, h2]
theorem form_self {a : Int} (ha : 0 ≤ a ∧ a ≤ 3) (s : List UInt8) : formT a (formT a s) = formT a s := by
  rw [form_last ha ha]
  congr 1
  unfold lastF
  split <;> omega
set_option maxRecDepth 100000 in
set_option maxHeartbeats 4000000 in
theorem c_Twice (s : ByteArray) (a b : Int) (w : World) (hT : Tabs w) :
    Calls Tryd.prog 3 #[.string s, .int .i64 a, .int .i64 b] w fun e w' => e = .returned (.bool true) ∧ Ext w w' := by
  by_cases hin : s.size ≤ 90 ∧ (0 ≤ a ∧ a ≤ 3) ∧ (0 ≤ b ∧ b ≤ 3)
  · obtain ⟨hs, ha, hb⟩ := hin
    have hsI : ¬ (90 : Int) < (s.size : Nat) := by omega
    have ha1 : ¬ a < 0 := by omega
    have ha2 : ¬ 3 < a := by omega
    have hb1 : ¬ b < 0 := by omega
    have hb2 : ¬ 3 < b := by omega
    have H1 := Lib.hid (c_Form s a w hT (by omega))
    obtain ⟨x, hx⟩ : ∃ x : ByteArray, (⟨(formT a s.data.toList).toArray⟩ : ByteArray) = x := ⟨_, rfl⟩
    rw [hx] at H1
    have hxl : x.data.toList = formT a s.data.toList := by rw [← hx]
    have hxs : x.size ≤ 7200 := by
      have := formT_len a s.data.toList
      rw [← hxl, len_eq, len_eq] at this
      omega
    have H2 := Lib.hid (fun w2 hT2 => c_Form x b w2 hT2 (by omega))
    have H3 := Lib.hid (fun w2 hT2 => c_Form s (lastF a b) w2 hT2 (by omega))
    have H4 := Lib.hid (fun w2 hT2 => c_Form x a w2 hT2 (by omega))
    have H5 := Lib.hid (fun w2 hT2 => c_Is' x a true ⟨fun _ => by rw [hxl, form_self ha], fun _ => rfl⟩ w2 hT2 (by omega))
    rw [hxl, form_last ha hb] at H2
    rw [hxl, form_self ha, hx] at H4
    obtain ⟨y, hy⟩ : ∃ y : ByteArray, (⟨(formT (lastF a b) s.data.toList).toArray⟩ : ByteArray) = y := ⟨_, rfl⟩
    rw [hy] at H2 H3
    have hyy : (y.toList == y.toList) = true := by simp
    have hxx : (x.toList == x.toList) = true := by simp
    have HAB := Lib.hid (And.intro ha hb)
    clear hx hxl hxs hy ha hb hs
    by_cases hc : 2 ≤ a ∧ b < 2
    · have hl : lastF a b = b + 2 := by unfold lastF; rw [if_pos hc]
      have hc1 : (2 : Int) ≤ a := hc.1
      have hc2 : b < 2 := hc.2
      rw [hl] at H3
      clear hl hc
      go_enter Tryd.func3, Tryd.ntmps3
      go_wp2_with fail
      refine H1.out.mono ?_
      rintro e w1 ⟨rfl, hx1⟩
      have HX1 := Lib.hid hx1
      clear hx1
      go_wp2_with fail
      refine (H2.out w1 (hT.ext HX1.out)).mono ?_
      rintro e w2 ⟨rfl, hx2⟩
      have HX2 := Lib.hid (HX1.out.trans hx2)
      clear hx2
      go_wp2_with fail
      refine (H3.out w2 (hT.ext HX2.out)).mono ?_
      rintro e w3 ⟨rfl, hx3⟩
      have HX3 := Lib.hid (HX2.out.trans hx3)
      clear hx3
      go_wp2_with fail
      refine (H4.out w3 (hT.ext HX3.out)).mono ?_
      rintro e w4 ⟨rfl, hx4⟩
      have HX4 := Lib.hid (HX3.out.trans hx4)
      clear hx4
      go_wp2_with fail
      refine (H5.out w4 (hT.ext HX4.out)).mono ?_
      rintro e w5 ⟨rfl, hx5⟩
      have HX5 := Lib.hid (HX4.out.trans hx5)
      clear hx5
      go_wp2_with fail
      refine (c_live w5 (hT.ext HX5.out)).mono ?_
      rintro e w6 ⟨rfl, hx6⟩
      have HX6 := Lib.hid (HX5.out.trans hx6)
      clear hx6
      go_wp2_with fail
      go_ret
      exact ⟨rfl, HX6.out⟩
    · have hl : lastF a b = b := by unfold lastF; rw [if_neg hc]
      rw [hl] at H3
      by_cases hc1 : (2 : Int) ≤ a
      · have hc2 : ¬ b < 2 := fun h => hc ⟨hc1, h⟩
        clear hl hc
        go_enter Tryd.func3, Tryd.ntmps3
        go_wp2_with fail
        refine H1.out.mono ?_
        rintro e w1 ⟨rfl, hx1⟩
        have HX1 := Lib.hid hx1
        clear hx1
        go_wp2_with fail
        refine (H2.out w1 (hT.ext HX1.out)).mono ?_
        rintro e w2 ⟨rfl, hx2⟩
        have HX2 := Lib.hid (HX1.out.trans hx2)
        clear hx2
        go_wp2_with fail
        refine (H3.out w2 (hT.ext HX2.out)).mono ?_
        rintro e w3 ⟨rfl, hx3⟩
        have HX3 := Lib.hid (HX2.out.trans hx3)
        clear hx3
        go_wp2_with fail
        refine (H4.out w3 (hT.ext HX3.out)).mono ?_
        rintro e w4 ⟨rfl, hx4⟩
        have HX4 := Lib.hid (HX3.out.trans hx4)
        clear hx4
        go_wp2_with fail
        refine (H5.out w4 (hT.ext HX4.out)).mono ?_
        rintro e w5 ⟨rfl, hx5⟩
        have HX5 := Lib.hid (HX4.out.trans hx5)
        clear hx5
        go_wp2_with fail
        refine (c_live w5 (hT.ext HX5.out)).mono ?_
        rintro e w6 ⟨rfl, hx6⟩
        have HX6 := Lib.hid (HX5.out.trans hx6)
        clear hx6
        go_wp2_with fail
        go_ret
        exact ⟨rfl, HX6.out⟩
      · clear hl hc
        go_enter Tryd.func3, Tryd.ntmps3
        go_wp2_with fail
        refine H1.out.mono ?_
        rintro e w1 ⟨rfl, hx1⟩
        have HX1 := Lib.hid hx1
        clear hx1
        go_wp2_with fail
        refine (H2.out w1 (hT.ext HX1.out)).mono ?_
        rintro e w2 ⟨rfl, hx2⟩
        have HX2 := Lib.hid (HX1.out.trans hx2)
        clear hx2
        go_wp2_with fail
        refine (H3.out w2 (hT.ext HX2.out)).mono ?_
        rintro e w3 ⟨rfl, hx3⟩
        have HX3 := Lib.hid (HX2.out.trans hx3)
        clear hx3
        go_wp2_with fail
        refine (H4.out w3 (hT.ext HX3.out)).mono ?_
        rintro e w4 ⟨rfl, hx4⟩
        have HX4 := Lib.hid (HX3.out.trans hx4)
        clear hx4
        go_wp2_with fail
        refine (H5.out w4 (hT.ext HX4.out)).mono ?_
        rintro e w5 ⟨rfl, hx5⟩
        have HX5 := Lib.hid (HX4.out.trans hx5)
        clear hx5
        go_wp2_with fail
        refine (c_live w5 (hT.ext HX5.out)).mono ?_
        rintro e w6 ⟨rfl, hx6⟩
        have HX6 := Lib.hid (HX5.out.trans hx6)
        clear hx6
        go_wp2_with fail
        go_ret
        exact ⟨rfl, HX6.out⟩
  · by_cases h1 : s.size ≤ 90
    · have h1I : ¬ (90 : Int) < (s.size : Nat) := by omega
      by_cases h2 : a < 0
      · clear hin
        go_enter Tryd.func3, Tryd.ntmps3
        go_wp2_with fail
        refine (c_live w hT).mono ?_
        rintro e w6 ⟨rfl, hx6⟩
        have HX6 := Lib.hid hx6
        clear hx6
        go_wp2_with fail
        go_ret
        exact ⟨rfl, HX6.out⟩
      · by_cases h3 : 3 < a
        · clear hin
          go_enter Tryd.func3, Tryd.ntmps3
          go_wp2_with fail
          refine (c_live w hT).mono ?_
          rintro e w6 ⟨rfl, hx6⟩
          have HX6 := Lib.hid hx6
          clear hx6
          go_wp2_with fail
          go_ret
          exact ⟨rfl, HX6.out⟩
        · by_cases h4 : b < 0
          · clear hin
            go_enter Tryd.func3, Tryd.ntmps3
            go_wp2_with fail
            refine (c_live w hT).mono ?_
            rintro e w6 ⟨rfl, hx6⟩
            have HX6 := Lib.hid hx6
            clear hx6
            go_wp2_with fail
            go_ret
            exact ⟨rfl, HX6.out⟩
          · have h5 : 3 < b := by
              by_cases h : 3 < b
              · exact h
              · exact absurd ⟨h1, by omega, by omega⟩ hin
            clear hin
            go_enter Tryd.func3, Tryd.ntmps3
            go_wp2_with fail
            refine (c_live w hT).mono ?_
            rintro e w6 ⟨rfl, hx6⟩
            have HX6 := Lib.hid hx6
            clear hx6
            go_wp2_with fail
            go_ret
            exact ⟨rfl, HX6.out⟩
    · have h1I : (90 : Int) < (s.size : Nat) := by omega
      clear hin
      go_enter Tryd.func3, Tryd.ntmps3
      go_wp2_with fail
      refine (c_live w hT).mono ?_
      rintro e w6 ⟨rfl, hx6⟩
      have HX6 := Lib.hid hx6
      clear hx6
      go_wp2_with fail
      go_ret
      exact ⟨rfl, HX6.out⟩
end Go.Proofs.YteokfknkcbmigaaDoor
