/-
  Cut where it is safe.
-/
import Derived.Test.YteokfknkcbmigaaGreatDoorLawA
namespace Go.Proofs.YteokfknkcbmigaaGreatDoor
open Go.RowKit Go.Rp Go.Shelf Go.Maps Go.Nm

theorem scT_none {r : Int} (h : scT r = false) (a : Int) : jnT a r = none := by
  cases hj : jnT a r with
  | none => rfl
  | some x =>
    exfalso
    unfold scT at h
    simp only [Bool.or_eq_false_iff, Bool.and_eq_false_iff, decide_eq_false_iff_not] at h
    unfold jnT at hj
    split at hj
    · rename_i hc
      omega
    · split at hj
      · rename_i hc
        omega
      · have hm := jnL_some.1 hj
        have := List.any_eq_false.1 h.1.1 _ hm
        simp at this
/-- Where a text is safe to be cut, both sides' forms are the form. -/
theorem cut_form {s : List UInt8} {k : Nat} {f : Int} (h : SafeT s k f) (h0 : 0 < k) (h1 : k < s.length) : formT f s = formT f (s.take k) ++ formT f (s.drop k) := by
  obtain ⟨⟨_, _, he⟩, hs⟩ := h
  have hne : s.drop k ≠ [] := by
    intro e
    have := congrArg List.length e
    rw [List.length_drop, List.length_nil] at this
    omega
  have hk : ((k : Nat) : Int).toNat = k := rfl
  rw [hk] at he hs
  unfold formT
  by_cases hf : 0 ≤ f ∧ f ≤ 3
  · rw [if_pos hf, if_pos hf, if_pos hf]
    have hr := rawOf_split s.length s k (Nat.le_refl _) (by omega) he
    refine form_cut _ _ hr (fun z hz => ?_)
    rw [rawOf_step _ hne] at hz
    rcases hs with h | h | h
    · rcases h with h | h | h
      · omega
      · omega
      · exact absurd hf h
    · have hrw : run (s.drop k) = 65533 ∧ wid (s.drop k) = 1 := ⟨congrArg Prod.fst h, congrArg Prod.snd h⟩
      rw [if_pos hrw] at hz
      simp only [Tb.els, List.flatMap_cons, if_true, List.cons_append, List.nil_append, List.head?_cons, Option.mem_def, Option.some.injEq] at hz
      subst hz
      exact ⟨rfl, .inl rfl⟩
    · by_cases hrw : run (s.drop k) = 65533 ∧ wid (s.drop k) = 1
      · rw [if_pos hrw] at hz
        simp only [Tb.els, List.flatMap_cons, if_true, List.cons_append, List.nil_append, List.head?_cons, Option.mem_def, Option.some.injEq] at hz
        subst hz
        exact ⟨rfl, .inl rfl⟩
      · rw [if_neg hrw] at hz
        obtain ⟨r, hr⟩ : ∃ r : Int, ((run (s.drop k) : Nat) : Int) = r := ⟨_, rfl⟩
        rw [hr] at hz h
        unfold firmT at h
        have hl := (faT_len (decide (f = 2 ∨ f = 3)) r).1
        obtain ⟨q, t, hqt⟩ : ∃ q t, faT (decide (f = 2 ∨ f = 3)) r = q :: t := by
          cases hq : faT (decide (f = 2 ∨ f = 3)) r with
          | nil => rw [hq] at hl; simp at hl
          | cons q t => exact ⟨q, t, rfl⟩
        rw [hqt, List.headD_cons, Bool.and_eq_true, decide_eq_true_eq] at h
        have hz2 : z = tbT.mk1 q := by
          simp only [Tb.els, List.flatMap_cons] at hz
          rw [if_neg (by simp), show tbT.fa (decide (f = 2 ∨ f = 3)) r = q :: t from hqt] at hz
          simpa using hz.symm
        subst hz2
        refine ⟨h.1, .inr (fun hc a => ?_)⟩
        have h2 := h.2
        rw [show (decide (f = 1 ∨ f = 3)) = true from hc] at h2
        simp only [Bool.true_and, Bool.not_eq_true'] at h2
        exact scT_none h2 a
  · rw [if_neg hf, if_neg hf, if_neg hf, List.take_append_drop]
theorem safe_ends (s : List UInt8) (f : Int) : SafeT s 0 f ∧ SafeT s (s.length : Nat) f := by
  refine ⟨⟨⟨by omega, by omega, edge_zero s⟩, .inl (.inl rfl)⟩, ⟨⟨by omega, by omega, ?_⟩, .inl (.inr (.inl rfl))⟩⟩
  exact edge_end s
end Go.Proofs.YteokfknkcbmigaaGreatDoor
