/-
  What joins falls apart again; all syllables.
-/
import Derived.Test.YteokfknkcbmigaaGreatDoorJoinM
import Derived.Test.YteokfknkcbmigaaGreatDoorJoinZ
namespace Go.Proofs.YteokfknkcbmigaaGreatDoor
open Go.RowKit Go.Rp Go.Shelf Go.Maps Go.Nm

theorem enc_size (r : Int) : (Utf8.encode r).size ≤ 4 := by
  rw [← len_eq]
  show (encB r).length ≤ 4
  unfold encB Utf8.encode
  simp only
  generalize (if Utf8.valid r = true then r.toNat else Utf8.runeError) = c
  by_cases h1 : c < 128
  · simp [h1]
  by_cases h2 : c < 2048
  · simp [h1, h2]
  by_cases h3 : c < 65536
  · simp [h1, h2, h3]
  · simp [h1, h2, h3]
set_option maxRecDepth 100000 in
set_option maxHeartbeats 16000000 in
theorem c_Joins (a b n : Int) (w : World) (hT : Tabs w) (ha : -2147483648 ≤ a ∧ a ≤ 2147483647) (hb : -2147483648 ≤ b ∧ b ≤ 2147483647) :
    Calls Tryz.prog 7 #[.int .i32 a, .int .i32 b, .int .i64 n] w fun e w' => e = .returned (.bool true) ∧ Ext w w' := by
  have HJ := Lib.hid (fun w hT => c_JoinZ a b w hT ha hb)
  have hsA := enc_size a
  have hsB := enc_size b
  obtain ⟨o, ho⟩ : ∃ o, jnT a b = o := ⟨_, rfl⟩
  rw [ho] at HJ
  cases o with
  | some r =>
    simp only [Option.getD_some, Option.isSome_some] at HJ
    obtain ⟨z, hz⟩ : ∃ x : ByteArray, (⟨(formT 0 (encB r)).toArray⟩ : ByteArray) = x := ⟨_, rfl⟩
    have hzz : (z.toList == z.toList) = true := by simp
    have HF1 := Lib.hid (show ∀ w2, Tabs w2 → Calls Tryz.prog 11 #[.string (Utf8.encode r), .int .i64 0] w2 fun e w' => e = .returned (.string z) ∧ Ext w2 w' from fun w2 hT2 => by
      rw [← hz]
      exact c_Form (Utf8.encode r) 0 w2 hT2 (by have := enc_size r; omega))
    have HF2 := Lib.hid (show ∀ w2, Tabs w2 → Calls Tryz.prog 11 #[.string (Utf8.encode a ++ Utf8.encode b), .int .i64 0] w2 fun e w' => e = .returned (.string z) ∧ Ext w2 w' from fun w2 hT2 => by
      rw [← hz, join_form ho]
      have h := c_Form (Utf8.encode a ++ Utf8.encode b) 0 w2 hT2 (by rw [ByteArray.size_append]; omega)
      rw [ByteArray.data_append, Array.toList_append] at h
      exact h)
    clear hz ho ha hb
    by_cases hn0 : n < 0
    · go_enter Tryz.func7, Tryz.ntmps7
      go_wp2_with fail
      refine (HJ.out w hT).mono ?_
      rintro e w1 ⟨rfl, hx1⟩
      have HX1 := Lib.hid hx1
      clear hx1
      go_wp2_with fail
      refine (HF1.out w1 (hT.ext HX1.out)).mono ?_
      rintro e w2 ⟨rfl, hx2⟩
      have HX2 := Lib.hid (HX1.out.trans hx2)
      clear hx2
      go_wp2_with fail
      refine (HF2.out w2 (hT.ext HX2.out)).mono ?_
      rintro e w3 ⟨rfl, hx3⟩
      have HX3 := Lib.hid (HX2.out.trans hx3)
      clear hx3 hsA hsB
      go_wp2_with fail
      refine (c_live w3 (hT.ext HX3.out)).mono ?_
      rintro e w9 ⟨rfl, hx9⟩
      have HX9 := Lib.hid (HX3.out.trans hx9)
      clear hx9
      go_wp2_with fail
      go_ret
      exact ⟨rfl, HX9.out⟩
    · by_cases hn1 : 11172 ≤ n
      · go_enter Tryz.func7, Tryz.ntmps7
        go_wp2_with fail
        refine (HJ.out w hT).mono ?_
        rintro e w1 ⟨rfl, hx1⟩
        have HX1 := Lib.hid hx1
        clear hx1
        go_wp2_with fail
        refine (HF1.out w1 (hT.ext HX1.out)).mono ?_
        rintro e w2 ⟨rfl, hx2⟩
        have HX2 := Lib.hid (HX1.out.trans hx2)
        clear hx2
        go_wp2_with fail
        refine (HF2.out w2 (hT.ext HX2.out)).mono ?_
        rintro e w3 ⟨rfl, hx3⟩
        have HX3 := Lib.hid (HX2.out.trans hx3)
        clear hx3 hsA hsB
        go_wp2_with fail
        refine (c_live w3 (hT.ext HX3.out)).mono ?_
        rintro e w9 ⟨rfl, hx9⟩
        have HX9 := Lib.hid (HX3.out.trans hx9)
        clear hx9
        go_wp2_with fail
        go_ret
        exact ⟨rfl, HX9.out⟩
      · have hr : 44032 ≤ 44032 + n ∧ 44032 + n ≤ 55203 := by omega
        obtain ⟨hs1, hs2⟩ := syl_form hr
        have HA := Lib.hid (show ∀ w2, Tabs w2 → Calls Tryz.prog 26 #[.int .i32 (44032 + n), .int .i64 0] w2 fun e w' => ∃ p c, e = .returned (.slice p (if n % 28 = 0 then 2 else 3) c) ∧ Ext w2 w' from fun w2 hT2 => by
          have h := c_ApartS (44032 + n) w2 hT2 hr.1 hr.2
          rw [syl_len hr.1, show 44032 + n - 44032 = n by omega] at h
          exact h)
        obtain ⟨sv, hsv⟩ : ∃ x : ByteArray, Utf8.encode (44032 + n) = x := ⟨_, rfl⟩
        obtain ⟨dv, hdv⟩ : ∃ x : ByteArray, (⟨(formT 0 (encB (44032 + n))).toArray⟩ : ByteArray) = x := ⟨_, rfl⟩
        have hsz : sv.size ≤ 4 := by rw [← hsv]; exact enc_size _
        have hdz : dv.size ≤ 320 := by
          have h1 := formT_len 0 (encB (44032 + n))
          have h2 : (encB (44032 + n)).length ≤ 4 := by have := enc_size (44032 + n); rw [← len_eq] at this; exact this
          rw [← hdv]
          show (formT 0 (encB (44032 + n))).toArray.size ≤ 320
          rw [List.size_toArray]
          omega
        have hback : (⟨(encB (44032 + n)).toArray⟩ : ByteArray) = sv := hsv
        have HD := Lib.hid (show ∀ w2, Tabs w2 → Calls Tryz.prog 11 #[.string sv, .int .i64 0] w2 fun e w' => e = .returned (.string dv) ∧ Ext w2 w' from fun w2 hT2 => by
          rw [← hdv, ← hsv]
          exact c_Form (Utf8.encode (44032 + n)) 0 w2 hT2 (by rw [hsv]; omega))
        have HC := Lib.hid (show ∀ w2, Tabs w2 → Calls Tryz.prog 11 #[.string dv, .int .i64 1] w2 fun e w' => e = .returned (.string sv) ∧ Ext w2 w' from fun w2 hT2 => by
          have h := c_Form dv 1 w2 hT2 (by omega)
          rw [show formT 1 dv.data.toList = encB (44032 + n) by rw [← hdv]; exact hs2, hback] at h
          exact h)
        have HS1 := Lib.hid (show ∀ w2, Tabs w2 → Calls Tryz.prog 11 #[.string sv, .int .i64 1] w2 fun e w' => e = .returned (.string sv) ∧ Ext w2 w' from fun w2 hT2 => by
          have h := c_Form sv 1 w2 hT2 (by omega)
          rw [show formT 1 sv.data.toList = encB (44032 + n) by rw [← hsv]; exact hs1, hback] at h
          exact h)
        have hss : (sv.toList == sv.toList) = true := by simp
        have HSV := Lib.hid hsv
        clear hdv hback hsz hdz hs1 hs2 hr
        by_cases h28 : n % 28 = 0
        · rw [if_pos h28] at HA
          have hb28 : (n % 28 == 0) = true := by rw [h28]; rfl
          go_enter Tryz.func7, Tryz.ntmps7
          go_wp2_with fail
          refine (HJ.out w hT).mono ?_
          rintro e w1 ⟨rfl, hx1⟩
          have HX1 := Lib.hid hx1
          clear hx1
          go_wp2_with fail
          refine (HF1.out w1 (hT.ext HX1.out)).mono ?_
          rintro e w2 ⟨rfl, hx2⟩
          have HX2 := Lib.hid (HX1.out.trans hx2)
          clear hx2
          go_wp2_with fail
          refine (HF2.out w2 (hT.ext HX2.out)).mono ?_
          rintro e w3 ⟨rfl, hx3⟩
          have HX3 := Lib.hid (HX2.out.trans hx3)
          clear hx3 hsA hsB
          go_wp2_with fail
          refine (HA.out w3 (hT.ext HX3.out)).mono ?_
          rintro e w4 ⟨pA, cA, rfl, hx4⟩
          have HX4 := Lib.hid (HX3.out.trans hx4)
          clear hx4
          go_wp2_with fail
          refine (HD.out w4 (hT.ext HX4.out)).mono ?_
          rintro e w5 ⟨rfl, hx5⟩
          have HX5 := Lib.hid (HX4.out.trans hx5)
          clear hx5
          go_wp2_with fail
          refine (HC.out w5 (hT.ext HX5.out)).mono ?_
          rintro e w6 ⟨rfl, hx6⟩
          have HX6 := Lib.hid (HX5.out.trans hx6)
          clear hx6
          go_wp2_with fail
          refine (HS1.out w6 (hT.ext HX6.out)).mono ?_
          rintro e w7 ⟨rfl, hx7⟩
          have HX7 := Lib.hid (HX6.out.trans hx7)
          clear hx7
          go_wp2_with fail
          refine (c_live w7 (hT.ext HX7.out)).mono ?_
          rintro e w9 ⟨rfl, hx9⟩
          have HX9 := Lib.hid (HX7.out.trans hx9)
          clear hx9
          go_wp2_with fail
          go_ret
          exact ⟨rfl, HX9.out⟩
        · rw [if_neg h28] at HA
          have hb28 : (n % 28 == 0) = false := beq_false_of_ne h28
          go_enter Tryz.func7, Tryz.ntmps7
          go_wp2_with fail
          refine (HJ.out w hT).mono ?_
          rintro e w1 ⟨rfl, hx1⟩
          have HX1 := Lib.hid hx1
          clear hx1
          go_wp2_with fail
          refine (HF1.out w1 (hT.ext HX1.out)).mono ?_
          rintro e w2 ⟨rfl, hx2⟩
          have HX2 := Lib.hid (HX1.out.trans hx2)
          clear hx2
          go_wp2_with fail
          refine (HF2.out w2 (hT.ext HX2.out)).mono ?_
          rintro e w3 ⟨rfl, hx3⟩
          have HX3 := Lib.hid (HX2.out.trans hx3)
          clear hx3 hsA hsB
          go_wp2_with fail
          refine (HA.out w3 (hT.ext HX3.out)).mono ?_
          rintro e w4 ⟨pA, cA, rfl, hx4⟩
          have HX4 := Lib.hid (HX3.out.trans hx4)
          clear hx4
          go_wp2_with fail
          refine (HD.out w4 (hT.ext HX4.out)).mono ?_
          rintro e w5 ⟨rfl, hx5⟩
          have HX5 := Lib.hid (HX4.out.trans hx5)
          clear hx5
          go_wp2_with fail
          refine (HC.out w5 (hT.ext HX5.out)).mono ?_
          rintro e w6 ⟨rfl, hx6⟩
          have HX6 := Lib.hid (HX5.out.trans hx6)
          clear hx6
          go_wp2_with fail
          refine (HS1.out w6 (hT.ext HX6.out)).mono ?_
          rintro e w7 ⟨rfl, hx7⟩
          have HX7 := Lib.hid (HX6.out.trans hx7)
          clear hx7
          go_wp2_with fail
          refine (c_live w7 (hT.ext HX7.out)).mono ?_
          rintro e w9 ⟨rfl, hx9⟩
          have HX9 := Lib.hid (HX7.out.trans hx9)
          clear hx9
          go_wp2_with fail
          go_ret
          exact ⟨rfl, HX9.out⟩
  | none =>
    simp only [Option.getD_none, Option.isSome_none] at HJ
    clear ho ha hb
    by_cases hn0 : n < 0
    · go_enter Tryz.func7, Tryz.ntmps7
      go_wp2_with fail
      refine (HJ.out w hT).mono ?_
      rintro e w3 ⟨rfl, hx1⟩
      have HX3 := Lib.hid hx1
      clear hx1 hsA hsB
      go_wp2_with fail
      refine (c_live w3 (hT.ext HX3.out)).mono ?_
      rintro e w9 ⟨rfl, hx9⟩
      have HX9 := Lib.hid (HX3.out.trans hx9)
      clear hx9
      go_wp2_with fail
      go_ret
      exact ⟨rfl, HX9.out⟩
    · by_cases hn1 : 11172 ≤ n
      · go_enter Tryz.func7, Tryz.ntmps7
        go_wp2_with fail
        refine (HJ.out w hT).mono ?_
        rintro e w3 ⟨rfl, hx1⟩
        have HX3 := Lib.hid hx1
        clear hx1 hsA hsB
        go_wp2_with fail
        refine (c_live w3 (hT.ext HX3.out)).mono ?_
        rintro e w9 ⟨rfl, hx9⟩
        have HX9 := Lib.hid (HX3.out.trans hx9)
        clear hx9
        go_wp2_with fail
        go_ret
        exact ⟨rfl, HX9.out⟩
      · have hr : 44032 ≤ 44032 + n ∧ 44032 + n ≤ 55203 := by omega
        obtain ⟨hs1, hs2⟩ := syl_form hr
        have HA := Lib.hid (show ∀ w2, Tabs w2 → Calls Tryz.prog 26 #[.int .i32 (44032 + n), .int .i64 0] w2 fun e w' => ∃ p c, e = .returned (.slice p (if n % 28 = 0 then 2 else 3) c) ∧ Ext w2 w' from fun w2 hT2 => by
          have h := c_ApartS (44032 + n) w2 hT2 hr.1 hr.2
          rw [syl_len hr.1, show 44032 + n - 44032 = n by omega] at h
          exact h)
        obtain ⟨sv, hsv⟩ : ∃ x : ByteArray, Utf8.encode (44032 + n) = x := ⟨_, rfl⟩
        obtain ⟨dv, hdv⟩ : ∃ x : ByteArray, (⟨(formT 0 (encB (44032 + n))).toArray⟩ : ByteArray) = x := ⟨_, rfl⟩
        have hsz : sv.size ≤ 4 := by rw [← hsv]; exact enc_size _
        have hdz : dv.size ≤ 320 := by
          have h1 := formT_len 0 (encB (44032 + n))
          have h2 : (encB (44032 + n)).length ≤ 4 := by have := enc_size (44032 + n); rw [← len_eq] at this; exact this
          rw [← hdv]
          show (formT 0 (encB (44032 + n))).toArray.size ≤ 320
          rw [List.size_toArray]
          omega
        have hback : (⟨(encB (44032 + n)).toArray⟩ : ByteArray) = sv := hsv
        have HD := Lib.hid (show ∀ w2, Tabs w2 → Calls Tryz.prog 11 #[.string sv, .int .i64 0] w2 fun e w' => e = .returned (.string dv) ∧ Ext w2 w' from fun w2 hT2 => by
          rw [← hdv, ← hsv]
          exact c_Form (Utf8.encode (44032 + n)) 0 w2 hT2 (by rw [hsv]; omega))
        have HC := Lib.hid (show ∀ w2, Tabs w2 → Calls Tryz.prog 11 #[.string dv, .int .i64 1] w2 fun e w' => e = .returned (.string sv) ∧ Ext w2 w' from fun w2 hT2 => by
          have h := c_Form dv 1 w2 hT2 (by omega)
          rw [show formT 1 dv.data.toList = encB (44032 + n) by rw [← hdv]; exact hs2, hback] at h
          exact h)
        have HS1 := Lib.hid (show ∀ w2, Tabs w2 → Calls Tryz.prog 11 #[.string sv, .int .i64 1] w2 fun e w' => e = .returned (.string sv) ∧ Ext w2 w' from fun w2 hT2 => by
          have h := c_Form sv 1 w2 hT2 (by omega)
          rw [show formT 1 sv.data.toList = encB (44032 + n) by rw [← hsv]; exact hs1, hback] at h
          exact h)
        have hss : (sv.toList == sv.toList) = true := by simp
        have HSV := Lib.hid hsv
        clear hdv hback hsz hdz hs1 hs2 hr
        by_cases h28 : n % 28 = 0
        · rw [if_pos h28] at HA
          have hb28 : (n % 28 == 0) = true := by rw [h28]; rfl
          go_enter Tryz.func7, Tryz.ntmps7
          go_wp2_with fail
          refine (HJ.out w hT).mono ?_
          rintro e w3 ⟨rfl, hx1⟩
          have HX3 := Lib.hid hx1
          clear hx1 hsA hsB
          go_wp2_with fail
          refine (HA.out w3 (hT.ext HX3.out)).mono ?_
          rintro e w4 ⟨pA, cA, rfl, hx4⟩
          have HX4 := Lib.hid (HX3.out.trans hx4)
          clear hx4
          go_wp2_with fail
          refine (HD.out w4 (hT.ext HX4.out)).mono ?_
          rintro e w5 ⟨rfl, hx5⟩
          have HX5 := Lib.hid (HX4.out.trans hx5)
          clear hx5
          go_wp2_with fail
          refine (HC.out w5 (hT.ext HX5.out)).mono ?_
          rintro e w6 ⟨rfl, hx6⟩
          have HX6 := Lib.hid (HX5.out.trans hx6)
          clear hx6
          go_wp2_with fail
          refine (HS1.out w6 (hT.ext HX6.out)).mono ?_
          rintro e w7 ⟨rfl, hx7⟩
          have HX7 := Lib.hid (HX6.out.trans hx7)
          clear hx7
          go_wp2_with fail
          refine (c_live w7 (hT.ext HX7.out)).mono ?_
          rintro e w9 ⟨rfl, hx9⟩
          have HX9 := Lib.hid (HX7.out.trans hx9)
          clear hx9
          go_wp2_with fail
          go_ret
          exact ⟨rfl, HX9.out⟩
        · rw [if_neg h28] at HA
          have hb28 : (n % 28 == 0) = false := beq_false_of_ne h28
          go_enter Tryz.func7, Tryz.ntmps7
          go_wp2_with fail
          refine (HJ.out w hT).mono ?_
          rintro e w3 ⟨rfl, hx1⟩
          have HX3 := Lib.hid hx1
          clear hx1 hsA hsB
          go_wp2_with fail
          refine (HA.out w3 (hT.ext HX3.out)).mono ?_
          rintro e w4 ⟨pA, cA, rfl, hx4⟩
          have HX4 := Lib.hid (HX3.out.trans hx4)
          clear hx4
          go_wp2_with fail
          refine (HD.out w4 (hT.ext HX4.out)).mono ?_
          rintro e w5 ⟨rfl, hx5⟩
          have HX5 := Lib.hid (HX4.out.trans hx5)
          clear hx5
          go_wp2_with fail
          refine (HC.out w5 (hT.ext HX5.out)).mono ?_
          rintro e w6 ⟨rfl, hx6⟩
          have HX6 := Lib.hid (HX5.out.trans hx6)
          clear hx6
          go_wp2_with fail
          refine (HS1.out w6 (hT.ext HX6.out)).mono ?_
          rintro e w7 ⟨rfl, hx7⟩
          have HX7 := Lib.hid (HX6.out.trans hx7)
          clear hx7
          go_wp2_with fail
          refine (c_live w7 (hT.ext HX7.out)).mono ?_
          rintro e w9 ⟨rfl, hx9⟩
          have HX9 := Lib.hid (HX7.out.trans hx9)
          clear hx9
          go_wp2_with fail
          go_ret
          exact ⟨rfl, HX9.out⟩
end Go.Proofs.YteokfknkcbmigaaGreatDoor
