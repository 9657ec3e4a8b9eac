/-
  The classes of line breaking, out of the program. Where lines of a text may end, in plain Lean: the places rise.
-/
import Derived.Test.YtlmkbldiicbejaaGreatDoorGaE
import Derived.Test.YtlmkbldiicbejaaGreatDoorWpA
section
namespace Go.Proofs.YtlmkbldiicbejaaGreatDoor
open Go.RowKit Go.Rp Go.Maps Go.Cl Go.Shelf Go.Gr Go.Ln

noncomputable def textLp : ByteArray := (strsOf (Tryz.f80.body.getD .skip)).getD 0 ByteArray.empty
theorem textLp_ok : textB textLp.data.toList = true := by kernel_rfl
noncomputable def rngL : List (Nat × Nat × Nat) := rangedP textLp.data.toList
theorem rngL_rise : RiseD rngL := riseB_spec (by kernel_rfl)
theorem rngL_len : rngL.length ≤ 100 := by
  have : (decide (rngL.length ≤ 100)) = true := by kernel_rfl
  exact of_decide_eq_true this
/-- A rune's class where lines are broken. -/
noncomputable def clsL (r : Nat) : Nat := getR rngL r
theorem nmL1 : (namesP textLp.data.toList)[1]? = some [66, 107] := by kernel_rfl
theorem nmL2 : (namesP textLp.data.toList)[2]? = some [67, 114] := by kernel_rfl
theorem nmL3 : (namesP textLp.data.toList)[3]? = some [76, 102] := by kernel_rfl
theorem nodL : (namesP textLp.data.toList).Nodup := (textB_spec textLp_ok).names
theorem clsL_bad : clsL 65533 = 0 := by kernel_rfl
theorem lenL : (namesP textLp.data.toList).length = 26 := by kernel_rfl
theorem getR_le : ∀ (D : List (Nat × Nat × Nat)) (n : Nat), (∀ x ∈ D, x.2.2 ≤ n) → ∀ r, getR D r ≤ n
  | [], _, _, _ => Nat.zero_le _
  | x :: D, n, h, r => by
    rw [getR]
    split
    · exact getR_le D n (fun y hy => h y (by simp [hy])) r
    · split
      · exact h x (by simp)
      · exact Nat.zero_le _
theorem clsL_le (r : Nat) : clsL r ≤ 25 := getR_le rngL 25 (by
  have : rngL.all (fun x => decide (x.2.2 ≤ 25)) = true := by kernel_rfl
  intro x hx
  exact of_decide_eq_true (List.all_eq_true.1 this x hx)) r
end Go.Proofs.YtlmkbldiicbejaaGreatDoor
end

section
namespace Go.Proofs.YtlmkbldiicbejaaGreatDoor
open Go.RowKit Go.Rp Go.Maps Go.Cl Go.Shelf Go.Gr Go.Ln

theorem marks_ge : ∀ (n : Nat) (l : List UInt8) (p : Nat), ∀ m ∈ marks n l p, p ≤ m.2.1
  | 0, _, _, m, h => by simp [marks] at h
  | n + 1, l, p, m, h => by
    by_cases hl : l = []
    · subst hl; rw [marks_nil] at h; cases h
    · rw [marks_step _ _ _ hl] at h
      rcases List.mem_cons.1 h with rfl | h
      · exact Nat.le_refl _
      · have := marks_ge n _ _ m h
        omega
theorem marks_rise : ∀ (n : Nat) (l : List UInt8) (p : Nat), (marks n l p).Pairwise fun x y => x.2.1 < y.2.1
  | 0, _, _ => by simp [marks]
  | n + 1, l, p => by
    by_cases hl : l = []
    · subst hl; rw [marks_nil]; exact List.Pairwise.nil
    · rw [marks_step _ _ _ hl]
      refine List.pairwise_cons.2 ⟨fun m hm => ?_, marks_rise n _ _⟩
      have h1 := marks_ge n _ _ m hm
      have h2 := wid_pos l
      show p < m.2.1
      omega
noncomputable def atK (s : ByteArray) : List Nat := (mk s).map fun m => m.2.1
noncomputable def clK (s : ByteArray) : List Nat := (mk s).map fun m => clsL m.1
theorem atK_rise (s : ByteArray) : (atK s).Pairwise (· < ·) := List.pairwise_map.2 (marks_rise _ _ _)
theorem atK_lt (s : ByteArray) : ∀ a ∈ atK s, a < s.size := fun a h => by
  obtain ⟨m, hm, rfl⟩ := List.mem_map.1 h
  have := (marks_place s.size s.data.toList 0 (by rw [len_eq]; omega) hm).2
  rw [len_eq] at this
  omega
theorem atK_len (s : ByteArray) : (atK s).length = (mk s).length := by simp [atK]
theorem clK_len (s : ByteArray) : (clK s).length = (mk s).length := by simp [clK]
theorem atK_le (s : ByteArray) : (atK s).length ≤ s.size := by rw [atK_len]; exact mk_len s
/-- The chances of a text. -/
noncomputable def chK (s : ByteArray) : List (Nat × Bool) := chances (atK s) (clK s) s.size
theorem chGo_mem (A C : List Nat) : ∀ (n i : Nat), ∀ x ∈ chGo A C n i, ∃ j, i ≤ j ∧ j < i + n ∧ x.1 = A.getD j 0
  | 0, _, x, h => by simp [chGo] at h
  | n + 1, i, x, h => by
    rw [chGo] at h
    rcases List.mem_append.1 h with h | h
    · split at h
      · exact ⟨i, Nat.le_refl _, by omega, by rw [List.mem_singleton.1 h]⟩
      · cases h
    · obtain ⟨j, h1, h2, h3⟩ := chGo_mem A C n (i + 1) x h
      exact ⟨j, by omega, by omega, h3⟩
theorem getD_lt {A : List Nat} (h : A.Pairwise (· < ·)) {i j : Nat} (hij : i < j) (hj : j < A.length) : A.getD i 0 < A.getD j 0 := by
  have := List.pairwise_iff_getElem.1 h i j (by omega) hj hij
  simpa [List.getD_eq_getElem?_getD, hj, show i < A.length by omega] using this
theorem chGo_rise (A C : List Nat) (h : A.Pairwise (· < ·)) : ∀ (n i : Nat), i + n ≤ A.length → (chGo A C n i).Pairwise fun x y => x.1 < y.1
  | 0, _, _ => by simp [chGo]
  | n + 1, i, hi => by
    rw [chGo, List.pairwise_append]
    refine ⟨by split <;> simp, chGo_rise A C h n (i + 1) (by omega), fun x hx y hy => ?_⟩
    split at hx
    · obtain ⟨j, h1, h2, h3⟩ := chGo_mem A C n (i + 1) y hy
      rw [List.mem_singleton.1 hx, h3]
      exact getD_lt h (by omega) (by omega)
    · cases hx
theorem getD_memA {A : List Nat} {j : Nat} (hj : j < A.length) : A.getD j 0 ∈ A := by
  rw [List.getD_eq_getElem?_getD, List.getElem?_eq_getElem hj]
  exact List.getElem_mem hj
theorem chK_rise (s : ByteArray) : (chK s).Pairwise fun x y => x.1 < y.1 := by
  unfold chK chances
  rw [List.pairwise_append]
  refine ⟨?_, by split <;> simp, fun x hx y hy => ?_⟩
  · by_cases h : (atK s).length = 0
    · rw [h]; simp [chGo]
    · exact chGo_rise _ _ (atK_rise s) _ _ (by omega)
  · obtain ⟨j, h1, h2, h3⟩ := chGo_mem _ _ _ _ x hx
    split at hy
    · rw [List.mem_singleton.1 hy, h3]
      exact atK_lt s _ (getD_memA (by omega))
    · cases hy
theorem chK_in (s : ByteArray) : ∀ x ∈ chK s, 0 < x.1 ∧ x.1 ≤ s.size := fun x hx => by
  unfold chK chances at hx
  rcases List.mem_append.1 hx with hx | hx
  · obtain ⟨j, h1, h2, h3⟩ := chGo_mem _ _ _ _ x hx
    have h4 := getD_lt (atK_rise s) (i := 0) (j := j) (by omega) (by omega)
    have h5 := atK_lt s _ (getD_memA (A := atK s) (j := j) (by omega))
    omega
  · split at hx
    · rw [List.mem_singleton.1 hx]
      exact ⟨by assumption, Nat.le_refl _⟩
    · cases hx
theorem chGo_len (A C : List Nat) : ∀ (n i : Nat), (chGo A C n i).length ≤ n
  | 0, _ => by simp [chGo]
  | n + 1, i => by
    rw [chGo, List.length_append]
    have := chGo_len A C n (i + 1)
    split <;> simp <;> omega
theorem chK_len (s : ByteArray) : (chK s).length ≤ s.size + 1 := by
  unfold chK chances
  rw [List.length_append]
  have h1 := chGo_len (atK s) (clK s) ((atK s).length - 1) 1
  have h2 := atK_le s
  split <;> simp <;> omega
/-- The last chance is the text's end, and must be taken. -/
theorem chK_last (s : ByteArray) (h : 0 < s.size) : ∃ l, chK s = l ++ [(s.size, true)] := by
  unfold chK chances
  rw [if_pos h]
  exact ⟨_, rfl⟩
theorem chK_nil (s : ByteArray) (h : s.size = 0) : chK s = [] := by
  have h1 := atK_le s
  unfold chK chances
  rw [if_neg (by omega), show (atK s).length - 1 = 0 by omega]
  rfl
theorem chGo_app (A C : List Nat) : ∀ (n m i : Nat), chGo A C (n + m) i = chGo A C n i ++ chGo A C m (i + n)
  | 0, m, i => by simp [chGo]
  | n + 1, m, i => by
    rw [show n + 1 + m = n + m + 1 by omega, chGo, chGo, chGo_app A C n m (i + 1), List.append_assoc, show i + 1 + n = i + (n + 1) by omega]
end Go.Proofs.YtlmkbldiicbejaaGreatDoor
end
