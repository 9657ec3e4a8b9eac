/-
  Two ranges of elements turned.
-/
import Derived.Test.YteokfknkcbmigaaGreatDoorWalkN
namespace Go.Proofs.YteokfknkcbmigaaGreatDoor
open Go.RowKit Go.Rp Go.Shelf Go.Maps Go.Nm

set_option maxRecDepth 100000 in
set_option maxHeartbeats 8000000 in
theorem c_rotate (g : Nat) (pre post : List Value) (R R' A X Y B : List El) (a m b n cap : Nat) (fv : Value) (w : World) (h : Arr w g pre R post) (hR : R = A ++ (X ++ (Y ++ B))) (hR' : R' = A ++ (Y ++ (X ++ B))) (ha : a = A.length) (hm : m = A.length + X.length) (hb : b = A.length + X.length + Y.length) (hX : 1 ≤ X.length) (hY : 1 ≤ Y.length) (hn : n = R.length) (hl : n ≤ 1000000000) :
    Calls Tryz.prog 116 #[.slice (some ⟨g, pre.length, none⟩) n cap, .int .i64 (a : Nat), .int .i64 (m : Nat), .int .i64 (b : Nat), fv] w fun e w' => e = .returned (.tuple #[]) ∧ Arr w' g pre R' post ∧ w.grownBy w' (some g) := by
  have hbn : a < m ∧ m < b ∧ b ≤ n := by rw [hn, hR, ha, hb, hm]; simp; omega
  have HI := Lib.hid (show (m : Int) - (a : Nat) = ((m - a : Nat) : Int) ∧ (b : Int) - (m : Nat) = ((b - m : Nat) : Int) by omega)
  have HH := Lib.hid (show A.length + X.length = m ∧ X.length = m - a ∧ Y.length = b - m ∧ R = A ++ (X ++ (Y ++ B)) ∧ R' = A ++ (Y ++ (X ++ B)) ∧ n = R.length by
    refine ⟨hm.symm, by omega, by omega, hR, hR', hn⟩)
  clear hR' hR ha hm hb hX hY hn
  go_enter Tryz.func116, Tryz.ntmps116
  go_wp2_with fail
  rw [HI.out.1, HI.out.2]
  go_loopw [10, 11] (fun iv jv W => ∃ (i j : Nat) (A X Y B : List El), iv = .int .i64 (i : Nat) ∧ jv = .int .i64 (j : Nat) ∧ Hid (1 ≤ i ∧ 1 ≤ j ∧ X.length = i ∧ Y.length = j ∧ A.length + i = m ∧ m + j ≤ n ∧ R' = A ++ (Y ++ (X ++ B)) ∧ n = (A ++ (X ++ (Y ++ B))).length) ∧ Arr W g pre (A ++ (X ++ (Y ++ B))) post ∧ w.grownBy W (some g)) (fun iv jv _ => (intOf iv).toNat + (intOf jv).toNat)
  case atStart =>
    have hh := HH.out
    refine ⟨m - a, b - m, A, X, Y, B, rfl, rfl, Lib.hid ⟨by omega, by omega, hh.2.1, hh.2.2.1, by omega, by omega, hh.2.2.2.2.1, by rw [← hh.2.2.2.1]; exact hh.2.2.2.2.2⟩, by rw [← hh.2.2.2.1]; exact h, World.grownBy.refl _ _⟩
  case round =>
    clear h HH HI
    obtain ⟨i, j, A, X, Y, B, rfl, rfl, hh, hA, hg⟩ := hrel
    have h1 := hh.out
    have HS := Lib.hid (show (m : Int) - (i : Nat) = ((m - i : Nat) : Int) by omega)
    have hmi : ((i : Nat) : Int) ≤ (m : Nat) := by omega
    have hm9 : ((m : Nat) : Int) ≤ 1000000000 := by omega
    have hj9 : ((j : Nat) : Int) ≤ 1000000000 := by omega
    by_cases hij : i = j
    · subst hij
      have hA' : Arr wr g pre (A ++ (X ++ ([] ++ (Y ++ B)))) post := by simpa using hA
      have HA := Lib.hid (And.intro hA' hg)
      clear hA hA' hg h1
      go_wp2_with fail
      rw [HS.out]
      have h1 := hh.out
      refine (c_swaps g pre post _ R' A X [] Y B (m - i) m i n cap _ wr HA.out.1 rfl (by rw [h1.2.2.2.2.2.2.1]; simp) (by omega) (by simp; omega) h1.2.2.1 h1.2.2.2.1 (by rw [h1.2.2.2.2.2.2.2]; simp) hl).mono ?_
      rintro e w2 ⟨rfl, hA2, hg2⟩
      have HA2 := Lib.hid (And.intro hA2 (HA.out.2.trans hg2))
      clear hA2 hg2 h1
      go_wp2_with fail
      refine bodyPost_end (results_none rfl _ _ _) rfl ?_
      exact ⟨rfl, HA2.out⟩
    · have hne : (((i : Nat) : Int) != (j : Nat)) = true := by simp; omega
      by_cases hgt : j < i
      · have hgI : ((j : Nat) : Int) < (i : Nat) := by omega
        obtain ⟨X1, X2, rfl, hX1⟩ : ∃ X1 X2, X = X1 ++ X2 ∧ X1.length = j := ⟨X.take j, X.drop j, (List.take_append_drop _ _).symm, by rw [List.length_take]; omega⟩
        have hA' : Arr wr g pre (A ++ (X1 ++ (X2 ++ (Y ++ B)))) post := by simpa using hA
        have HA := Lib.hid (And.intro hA' hg)
        have HX := Lib.hid hX1
        have HJ := Lib.hid (show (i : Int) - (j : Nat) = ((i - j : Nat) : Int) by omega)
        clear hA hA' hg h1 hij hX1
        go_wp2_with fail
        rw [HS.out]
        have h1 := hh.out
        rw [List.length_append] at h1
        refine (c_swaps g pre post _ (A ++ (Y ++ (X2 ++ (X1 ++ B)))) A X1 X2 Y B (m - i) m j n cap _ wr HA.out.1 rfl rfl (by omega) (by have := HX.out; omega) HX.out h1.2.2.2.1 (by rw [h1.2.2.2.2.2.2.2]; simp) hl).mono ?_
        rintro e w2 ⟨rfl, hA2, hg2⟩
        have HA2 := Lib.hid (And.intro hA2 (HA.out.2.trans hg2))
        clear hA2 hg2 h1
        go_wp2_with fail
        go_roundw
        case rel =>
          have h1 := hh.out
          have h2 := HX.out
          rw [List.length_append] at h1
          exact ⟨i - j, j, A ++ Y, X2, X1, B, by rw [HJ.out], rfl, Lib.hid ⟨by omega, by omega, by omega, h2, by rw [List.length_append]; omega, by omega, by rw [h1.2.2.2.2.2.2.1]; simp, by rw [h1.2.2.2.2.2.2.2]; simp; omega⟩, by simpa using HA2.out.1, HA2.out.2⟩
        case measure => have := hh.out; simp [intOf]; omega
      · have hgI : ¬ ((j : Nat) : Int) < (i : Nat) := by omega
        obtain ⟨Y1, Y2, rfl, hY2⟩ : ∃ Y1 Y2, Y = Y1 ++ Y2 ∧ Y2.length = i := ⟨Y.take (j - i), Y.drop (j - i), (List.take_append_drop _ _).symm, by rw [List.length_drop]; omega⟩
        have hA' : Arr wr g pre (A ++ (X ++ (Y1 ++ (Y2 ++ B)))) post := by simpa using hA
        have HA := Lib.hid (And.intro hA' hg)
        have HX := Lib.hid hY2
        have HJ := Lib.hid (show (j : Int) - (i : Nat) = ((j - i : Nat) : Int) by omega)
        have HM := Lib.hid (show (m : Int) + (j : Nat) - (i : Nat) = ((m + j - i : Nat) : Int) by omega)
        have HLT := Lib.hid (show i < j by omega)
        clear hA hA' hg h1 hij hY2
        go_wp2_with fail
        rw [HS.out, HM.out]
        have h1 := hh.out
        rw [List.length_append] at h1
        refine (c_swaps g pre post _ (A ++ (Y2 ++ (Y1 ++ (X ++ B)))) A X Y1 Y2 B (m - i) (m + j - i) i n cap _ wr HA.out.1 rfl rfl (by omega) (by have := HX.out; have := h1.2.2.1; have := h1.2.2.2.1; omega) h1.2.2.1 HX.out (by rw [h1.2.2.2.2.2.2.2]; simp) hl).mono ?_
        rintro e w2 ⟨rfl, hA2, hg2⟩
        have HA2 := Lib.hid (And.intro hA2 (HA.out.2.trans hg2))
        clear hA2 hg2 h1
        go_wp2_with fail
        go_roundw
        case rel =>
          have h1 := hh.out
          have h2 := HX.out
          have h3 := HLT.out
          rw [List.length_append] at h1
          exact ⟨i, j - i, A, Y2, Y1, X ++ B, rfl, by rw [HJ.out], Lib.hid ⟨by omega, by omega, h2, by omega, by omega, by omega, by rw [h1.2.2.2.2.2.2.1]; simp, by rw [h1.2.2.2.2.2.2.2]; simp; omega⟩, HA2.out.1, HA2.out.2⟩
        case measure => have := hh.out; simp [intOf]; omega
end Go.Proofs.YteokfknkcbmigaaGreatDoor
