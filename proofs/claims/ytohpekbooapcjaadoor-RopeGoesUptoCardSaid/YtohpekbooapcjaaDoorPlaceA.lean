/-
  The document's answers on places: bytes, numbers of runes and units, lines.
-/
import Derived.Test.YtohpekbooapcjaaDoorDoorD
namespace Go.Proofs.YtohpekbooapcjaaDoor
open Go.RowKit Go.Rp

theorem brk_lines (s : ByteArray) (k : Nat) : brkN s k = linesAt s k := by
  unfold brkN linesAt nBreaks
  rw [toList_extract]
  simp

theorem pair_Byte (v : Value) (o : Option T) (q : Int) (hs : (txt o).size ≤ 1048576) : ∃ (a : Int) (b : Bool),
    (∀ w, IsRope w v o → Calls Tryd.prog 41 #[v, .int .i64 q] w fun e w' => e = .returned (.tuple #[.int .u8 a, .bool b]) ∧ Ext w w') ∧
    (∀ w, Calls Tryd.prog 42 #[.string (txt o), .int .i64 q] w fun e w' => e = .returned (.tuple #[.int .u8 a, .bool b]) ∧ Ext w w') := by
  by_cases h : 0 ≤ q ∧ q < (txt o).size
  · obtain ⟨k, rfl⟩ : ∃ k : Nat, q = (k : Int) := ⟨q.toNat, by omega⟩
    have hk : k < (txt o).size := by omega
    refine ⟨bytN (txt o) k, true, fun w hr => c_Byte v o k w hr hs hk, fun w => ?_⟩
    have hb := bytN_eq (txt o) k hk
    clear h
    go_enter Tryd.func42, Tryd.ntmps42
    go_wp2_with fail
    refine ret_two rfl rfl rfl rfl ⟨?_, Ext.refl _⟩
    rw [← hb]
    try rfl
  · refine ⟨0, false, fun w hr => c_Byte_no v o q w hr hs (by omega), fun w => ?_⟩
    by_cases h0 : q < 0
    · clear h
      go_enter Tryd.func42, Tryd.ntmps42
      go_wp2_with fail
      exact ret_two rfl rfl rfl rfl ⟨rfl, Ext.refl _⟩
    · have h1 : ((txt o).size : Int) ≤ q := by omega
      clear h
      go_enter Tryd.func42, Tryd.ntmps42
      go_wp2_with fail
      exact ret_two rfl rfl rfl rfl ⟨rfl, Ext.refl _⟩

set_option maxHeartbeats 1000000 in
theorem c_refLineOf (s : ByteArray) (q : Int) (w : World) (hs : s.size ≤ 1048576) :
    Calls Tryd.prog 49 #[.string s, .int .i64 q] w fun e w' => e = .returned (.int .i64 (nBreaks (s.extract 0 (clampN q s)) : Nat)) ∧ Ext w w' := by
  have hk1 : clampN q s ≤ s.size := by unfold clampN; omega
  have hk2 : ∀ j : Nat, j < s.size → ((j : Int) < q ↔ j < clampN q s) := fun j hj => by unfold clampN; omega
  have he : nBreaks (s.extract 0 (clampN q s)) = brkN s (clampN q s) := (brk_lines s _).symm
  rw [he]
  generalize clampN q s = c at hk1 hk2
  have HK := Lib.hid hk2
  clear he hk2
  go_enter Tryd.func49, Tryd.ntmps49
  go_wp2_with fail
  go_loop [5, 6] (fun x y => ∃ k : Nat, y = .int .i64 (k : Nat) ∧ k ≤ c ∧ x = .int .i64 (brkN s k : Nat)) (fun _ y => c + 1 - (intOf y).toNat)
  case atStart => exact ⟨0, rfl, by omega, rfl⟩
  case round =>
    obtain ⟨k, rfl, h1, rfl⟩ := hrel
    by_cases hlt : k < c
    · have hks : k < s.size := by omega
      have hkq : (k : Int) < q := (HK.out k hks).2 hlt
      have h2 := brkN_step s k hks
      have h3 := brkN_le s k
      by_cases h10 : (s[k].toNat : Int) = 10
      · rw [if_pos h10] at h2
        have H2 := Lib.hid h2
        clear h2
        go_wp2
        go_round
        case rel => exact ⟨k + 1, by go_num, by omega, by rw [H2.out]; go_num⟩
        case measure => simp [intOf]; omega
      · rw [if_neg h10] at h2
        have H2 := Lib.hid h2
        clear h2
        go_wp2
        go_round
        case rel => exact ⟨k + 1, by go_num, by omega, by rw [H2.out]; go_num⟩
        case measure => simp [intOf]; omega
    · have hkc : c = k := by omega
      by_cases hks : k < s.size
      · have hkq : ¬ (k : Int) < q := fun h => hlt ((HK.out k hks).1 h)
        clear hlt
        subst hkc
        go_wp2
        exact ret_one rfl rfl rfl ⟨rfl, Ext.refl _⟩
      · clear hlt
        subst hkc
        go_wp2
        exact ret_one rfl rfl rfl ⟨rfl, Ext.refl _⟩

set_option maxHeartbeats 1000000 in
/-- The place of a line that is there. -/
theorem c_refAtLine_yes (s : ByteArray) (q K : Nat) (w : World) (hs : s.size ≤ 1048576) (hK : K ≤ s.size) (hg : brkN s K = q) (hlow : ∀ a, a < K → brkN s a < q) :
    Calls Tryd.prog 48 #[.string s, .int .i64 (q : Nat)] w fun e w' => e = .returned (.tuple #[.int .i64 (K : Nat), .bool true]) ∧ Ext w w' := by
  by_cases hq0 : q = 0
  · subst hq0
    have hK0 : K = 0 := by
      apply Decidable.byContradiction
      intro h
      have := hlow 0 (by omega)
      omega
    subst hK0
    go_enter Tryd.func48, Tryd.ntmps48
    go_wp2_with fail
    exact ret_two rfl rfl rfl rfl ⟨rfl, Ext.refl _⟩
  have hq1 : ¬ ((q : Int) = 0) := by omega
  have HG := Lib.hid hg
  have HL := Lib.hid hlow
  clear hg hlow
  go_enter Tryd.func48, Tryd.ntmps48
  go_wp2_with fail
  go_loop [1, 6] (fun x y => ∃ k n : Nat, y = .int .i64 (k : Nat) ∧ k < K ∧ x = .int .i64 (n : Nat) ∧ 0 < n ∧ n ≤ 1048576 ∧ Hid (brkN s k + n = q)) (fun _ y => s.size + 1 - (intOf y).toNat)
  case atStart =>
    have hqs : q ≤ 1048576 := by rw [← HG.out]; have := brkN_le s K; omega
    refine ⟨0, q, rfl, ?_, rfl, by omega, hqs, by unfold Hid; simp [brkN]⟩
    apply Nat.pos_of_ne_zero
    intro e
    subst e
    have := HG.out
    simp [brkN] at this
    omega
  case round =>
    obtain ⟨k, n, rfl, h1, rfl, h2, hn, h3⟩ := hrel
    have hks : k < s.size := by omega
    have hst := brkN_step s k hks
    have h3' := h3.out
    by_cases h10 : (s[k].toNat : Int) = 10
    · rw [if_pos h10] at hst
      by_cases hn1 : n = 1
      · subst hn1
        have hkK : K = k + 1 := by
          apply Decidable.byContradiction
          intro hne
          have := HL.out (k + 1) (by omega)
          omega
        clear hst h3' h3
        subst hkK
        go_wp2_with fail
        exact ret_two rfl rfl rfl rfl ⟨rfl, Ext.refl _⟩
      · have hn2 : ¬ ((n : Int) - 1 = 0) := by omega
        have hkK : k + 1 < K := by
          apply Decidable.byContradiction
          intro hge
          have : K = k + 1 := by omega
          have := HG.out
          subst K
          omega
        have H3 : Hid (brkN s (k + 1) + (n - 1) = q) := by unfold Hid; omega
        clear hst h3' h3
        go_wp2_with fail
        go_round
        case rel => exact ⟨k + 1, n - 1, by go_num, hkK, by go_num, by omega, by omega, H3⟩
        case measure => simp [intOf]; omega
    · rw [if_neg h10] at hst
      have hkK : k + 1 < K := by
        apply Decidable.byContradiction
        intro hge
        have : K = k + 1 := by omega
        have := HG.out
        subst K
        omega
      have H3 : Hid (brkN s (k + 1) + n = q) := by unfold Hid; omega
      clear hst h3' h3
      go_wp2_with fail
      go_round
      case rel => exact ⟨k + 1, n, by go_num, hkK, by go_num, by omega, by omega, H3⟩
      case measure => simp [intOf]; omega
end Go.Proofs.YtohpekbooapcjaaDoor
