/-
  What a stream has told and what it holds: together always the form.
-/
import Derived.Test.YteokfknkcbmigaaGreatDoorLawC
namespace Go.Proofs.YteokfknkcbmigaaGreatDoor
open Go.RowKit Go.Rp Go.Shelf Go.Maps Go.Nm

theorem heldGo_end : ∀ (n : Nat) (l : List UInt8), l.length ≤ n → (heldGo n l = [] ∨ fullB (heldGo n l) = false) ∧ ∃ k, k ≤ l.length ∧ heldGo n l = l.drop k
  | 0, l, h => by
    obtain rfl : l = [] := List.length_eq_zero_iff.1 (by omega)
    exact ⟨.inl rfl, 0, Nat.le_refl _, rfl⟩
  | n + 1, l, h => by
    rw [heldGo]
    split
    · rename_i hc
      exact ⟨hc, 0, Nat.zero_le _, rfl⟩
    · rename_i hc
      have hne : l ≠ [] := fun e => hc (.inl e)
      have hw := wid_pos l
      have hw2 := wid_le l hne
      obtain ⟨h1, k, hk, h2⟩ := heldGo_end n (l.drop (wid l)) (by rw [List.length_drop]; omega)
      rw [List.length_drop] at hk
      exact ⟨h1, wid l + k, by omega, by rw [h2, List.drop_drop]⟩
theorem full_cont {l : List UInt8} (hne : l ≠ []) (h : isCont (l.getD 0 0)) : fullB l = true := by
  have hl : 0 < l.length := List.length_pos_iff.2 hne
  have hk : ∀ x : Fin 256, x.1 / 64 = 2 → Lib.firstT x.1 % 8 ≤ 1 := by decide +kernel
  have h1 := hk ⟨(l.getD 0 0).toNat, UInt8.toNat_lt _⟩ h
  unfold fullB fullN
  rw [decide_eq_true (show Lib.firstT (l.getD 0 0).toNat % 8 ≤ l.length by simp only at h1; omega)]
  rfl
theorem held_at (l : List UInt8) : ∃ m, wholeN l = m ∧ m ≤ l.length ∧ (l.drop m = [] ∨ fullB (l.drop m) = false) := by
  obtain ⟨h1, k, hk, h2⟩ := heldGo_end (l.drop (l.length - 3)).length (l.drop (l.length - 3)) (Nat.le_refl _)
  rw [List.length_drop] at hk
  have e : (heldL (l.drop (l.length - 3))) = l.drop (l.length - 3 + k) := by
    unfold heldL
    rw [h2, List.drop_drop]
  have hw : wholeN l = l.length - 3 + k := by
    unfold wholeN
    rw [e, List.length_drop]
    omega
  refine ⟨_, hw, by omega, ?_⟩
  have h3 : l.drop (l.length - 3 + k) = heldGo (l.drop (l.length - 3)).length (l.drop (l.length - 3)) := by rw [h2, List.drop_drop]
  rw [h3]
  exact h1
/-- What is held back begins a rune. -/
theorem edge_whole (l : List UInt8) : edge l (wholeN l) := by
  obtain ⟨m, hm, hml, hf⟩ := held_at l
  rw [hm]
  intro j hj
  apply Decidable.byContradiction
  intro hc
  have hwl := wid_le (l.drop j) (by
    intro e
    have := congrArg List.length e
    rw [List.length_drop, List.length_nil] at this
    omega)
  rw [List.length_drop] at hwl
  have hcont := wid_cont (l.drop j) (m - j) (by omega) (by omega)
  have e : (l.drop j).getD (m - j) 0 = (l.drop m).getD 0 0 := by
    rw [List.getD_eq_getElem?_getD, List.getD_eq_getElem?_getD, List.getElem?_drop, List.getElem?_drop, show j + (m - j) = m + 0 by omega]
  rw [e] at hcont
  have hne : l.drop m ≠ [] := by
    intro e2
    have := congrArg List.length e2
    rw [List.length_drop, List.length_nil] at this
    omega
  rcases hf with h | h
  · exact hne h
  · rw [full_cont hne hcont] at h
    cases h
theorem edge_take {l : List UInt8} {m k : Nat} (hm : edge l m) (hml : m ≤ l.length) (hk : k ≤ m) (h : edge (l.take m) k) : edge l k := by
  intro j hj
  have h1 := h j hj
  have h2 : dec ((l.drop j).take (m - j)) = dec (l.drop j) := wid_head _ _ (by
    intro e
    have := congrArg List.length e
    rw [List.length_drop, List.length_nil] at this
    omega) (by have := hm j (by omega); omega)
  have h3 : (l.take m).drop j = (l.drop j).take (m - j) := by rw [List.drop_take]
  unfold wid at h1 ⊢
  rw [h3, h2] at h1
  exact h1
/-- Safe in the part of whole runes is safe in all. -/
theorem safe_take {l : List UInt8} {m k : Nat} {f : Int} (hm : edge l m) (hml : m ≤ l.length) (h0 : 0 < k) (hk : k < m) (h : SafeT (l.take m) k f) : SafeT l k f := by
  obtain ⟨⟨_, _, he⟩, hs⟩ := h
  have hkn : ((k : Nat) : Int).toNat = k := rfl
  rw [hkn] at he hs
  have hd : dec ((l.take m).drop k) = dec (l.drop k) := by
    rw [List.drop_take]
    exact wid_head _ _ (by
      intro e
      have := congrArg List.length e
      rw [List.length_drop, List.length_nil] at this
      omega) (by have := hm k hk; omega)
  refine ⟨⟨by omega, by omega, ?_⟩, ?_⟩
  · rw [hkn]; exact edge_take hm hml (by omega) he
  · rw [hkn]
    rcases hs with h | h | h
    · rcases h with h | h | h
      · omega
      · rw [List.length_take] at h; omega
      · exact .inl (.inr (.inr h))
    · exact .inr (.inl (by rw [← hd]; exact h))
    · exact .inr (.inr (by unfold run at h ⊢; rw [← hd]; exact h))
/-- What is told, and what is held. -/
theorem told_held {l : List UInt8} {f : Int} {k : Nat} (h : CutAt (l.take (wholeN l)) f k) : (if k = 0 then [] else formT f (l.take k)) ++ formT f (l.drop k) = formT f l := by
  by_cases h0 : k = 0
  · subst h0
    rw [if_pos rfl, List.nil_append, List.drop_zero]
  · rw [if_neg h0]
    obtain ⟨m, hm, hml, _⟩ := held_at l
    have he := edge_whole l
    rcases h.1 with h1 | ⟨h1, h2, h3⟩
    · exact absurd h1 h0
    · rw [List.length_take, hm] at h2
      rw [hm] at h3 he
      exact (cut_form (safe_take he hml h1 (by omega) h3) h1 (by omega)).symm
theorem full_wid (n m x0 x1 x2 y1 y2 y3 : Nat) (hn : 1 ≤ n) (h0 : x0 < 256) (h1 : 1 < n → y1 = x1) (h2 : 2 < n → y2 = x2) (hf : fullN n x0 x1 x2 = true) : (Lib.decodeN m x0 y1 y2 y3).2 ≤ n := by
  have hA2 : ∀ x : Fin 256, 194 ≤ x.1 → x.1 < 224 → Lib.firstT x.1 % 8 = 2 := by decide +kernel
  have hA3 : ∀ x : Fin 256, 224 ≤ x.1 → x.1 < 240 → Lib.firstT x.1 % 8 = 3 := by decide +kernel
  have hA3a : Lib.firstT 224 / 16 = 1 ∧ Lib.firstT 237 / 16 = 2 := by decide +kernel
  have hA3b : ∀ x : Fin 256, 224 ≤ x.1 → x.1 < 240 → x.1 ≠ 224 → x.1 ≠ 237 → Lib.firstT x.1 / 16 = 0 := by decide +kernel
  have hA4 : ∀ x : Fin 256, 240 ≤ x.1 → x.1 < 245 → Lib.firstT x.1 % 8 = 4 := by decide +kernel
  have hA4a : Lib.firstT 240 / 16 = 3 ∧ Lib.firstT 244 / 16 = 4 := by decide +kernel
  have hA4b : ∀ x : Fin 256, 240 ≤ x.1 → x.1 < 245 → x.1 ≠ 240 → x.1 ≠ 244 → Lib.firstT x.1 / 16 = 0 := by decide +kernel
  have a2 : 194 ≤ x0 → x0 < 224 → Lib.firstT x0 % 8 = 2 := hA2 ⟨x0, h0⟩
  have a3 : 224 ≤ x0 → x0 < 240 → Lib.firstT x0 % 8 = 3 ∧ (x0 = 224 → Lib.firstT x0 / 16 = 1) ∧ (x0 = 237 → Lib.firstT x0 / 16 = 2) ∧ (x0 ≠ 224 → x0 ≠ 237 → Lib.firstT x0 / 16 = 0) := fun u v =>
    ⟨hA3 ⟨x0, h0⟩ u v, fun e => by rw [e]; exact hA3a.1, fun e => by rw [e]; exact hA3a.2, hA3b ⟨x0, h0⟩ u v⟩
  have a4 : 240 ≤ x0 → x0 < 245 → Lib.firstT x0 % 8 = 4 ∧ (x0 = 240 → Lib.firstT x0 / 16 = 3) ∧ (x0 = 244 → Lib.firstT x0 / 16 = 4) ∧ (x0 ≠ 240 → x0 ≠ 244 → Lib.firstT x0 / 16 = 0) := fun u v =>
    ⟨hA4 ⟨x0, h0⟩ u v, fun e => by rw [e]; exact hA4a.1, fun e => by rw [e]; exact hA4a.2, hA4b ⟨x0, h0⟩ u v⟩
  clear hA2 hA3 hA3a hA3b hA4 hA4a hA4b
  have hL : Lib.accLo 0 = 128 ∧ Lib.accLo 1 = 160 ∧ Lib.accLo 2 = 128 ∧ Lib.accLo 3 = 144 ∧ Lib.accLo 4 = 128 ∧ Lib.accHi 0 = 191 ∧ Lib.accHi 1 = 191 ∧ Lib.accHi 2 = 159 ∧ Lib.accHi 3 = 191 ∧ Lib.accHi 4 = 143 := by decide
  obtain ⟨p0, p1, p2, p3, p4, q0, q1, q2, q3, q4⟩ := hL
  unfold fullN at hf
  simp only [Bool.or_eq_true, Bool.and_eq_true, decide_eq_true_eq] at hf
  generalize hs : Lib.firstT x0 % 8 = sz at *
  generalize ha : Lib.firstT x0 / 16 = ac at *
  apply Decidable.byContradiction
  intro hc
  unfold Lib.decodeN at hc
  split at hc
  · simp only at hc; omega
  split at hc
  · split at hc
    · simp only at hc
      rename_i c1 c2 c3
      have := a2 (by omega) (by omega)
      omega
    · simp only at hc; omega
  split at hc
  · split at hc
    · simp only at hc
      rename_i c1 c2 c3 c4
      obtain ⟨b1, b2, b3, b4⟩ := a3 (by omega) (by omega)
      rcases hf with (hf | hf) | hf
      · omega
      · have e1 := h1 hf.1
        subst e1
        by_cases g1 : x0 = 224
        · rw [b2 g1, p1, q1] at hf; subst g1; omega
        · by_cases g2 : x0 = 237
          · rw [b3 g2, p2, q2] at hf; subst g2; omega
          · rw [b4 g1 g2, p0, q0] at hf; omega
      · omega
    · simp only at hc; omega
  split at hc
  · split at hc
    · simp only at hc
      rename_i c1 c2 c3 c4 c5
      obtain ⟨b1, b2, b3, b4⟩ := a4 (by omega) (by omega)
      rcases hf with (hf | hf) | hf
      · omega
      · have e1 := h1 hf.1
        subst e1
        by_cases g1 : x0 = 240
        · rw [b2 g1, p3, q3] at hf; subst g1; omega
        · by_cases g2 : x0 = 244
          · rw [b3 g2, p4, q4] at hf; subst g2; omega
          · rw [b4 g1 g2, p0, q0] at hf; omega
      · have e2 := h2 hf.1
        subst e2
        omega
    · simp only at hc; omega
  · simp only at hc; omega
theorem full_wide {a : List UInt8} (hne : a ≠ []) (h : fullB a = true) (t : List UInt8) : wid (a ++ t) ≤ a.length := by
  have hl : 0 < a.length := List.length_pos_iff.2 hne
  have hg : ∀ i, i < a.length → (a ++ t).getD i 0 = a.getD i 0 := fun i hi => by
    rw [List.getD_eq_getElem?_getD, List.getD_eq_getElem?_getD, List.getElem?_append_left hi]
  unfold wid dec
  rw [hg 0 hl]
  exact full_wid a.length _ _ (a.getD 1 0).toNat (a.getD 2 0).toNat _ _ _ hl (UInt8.toNat_lt _) (fun h => by rw [hg 1 h]) (fun h => by rw [hg 2 h]) h
/-- All runes of a part are whole: its end is an edge, whatever comes. -/
theorem held_edge (t : List UInt8) : ∀ (n : Nat) (a : List UInt8), a.length ≤ n → heldGo n a = [] → edge (a ++ t) a.length
  | 0, a, h, _ => by
    intro j hj
    omega
  | n + 1, a, h, hh => by
    rw [heldGo] at hh
    split at hh
    · rename_i hc
      intro j hj
      rw [hh] at hj
      simp at hj
    · rename_i hc
      have hne : a ≠ [] := fun e => hc (.inl e)
      have hfull : fullB a = true := by
        cases hb : fullB a with
        | true => rfl
        | false => exact absurd (.inr hb) hc
      have hwp := wid_pos a
      have hwl := wid_le a hne
      have ih := held_edge t n (a.drop (wid a)) (by rw [List.length_drop]; omega) hh
      intro j hj
      by_cases h1 : j = 0
      · subst h1
        rw [List.drop_zero, Nat.zero_add]
        exact full_wide hne hfull t
      · by_cases h2 : j < wid a
        · have hcn := wid_cont a j (by omega) h2
          have e : ((a ++ t).drop j).getD 0 0 = a.getD j 0 := by
            rw [List.getD_eq_getElem?_getD, List.getD_eq_getElem?_getD, List.getElem?_drop, List.getElem?_append_left (by omega), Nat.add_zero]
          have := dec_of_cont ((a ++ t).drop j) (by rw [e]; exact hcn)
          unfold wid
          rw [this]
          omega
        · have h3 := ih (j - wid a) (by rw [List.length_drop]; omega)
          rw [List.length_drop, ← List.drop_append_of_le_length hwl, List.drop_drop, show wid a + (j - wid a) = j by omega] at h3
          omega
/-- Whatever comes behind, what is whole ends at an edge. -/
theorem edge_wholeT (l t : List UInt8) : edge (l ++ t) (wholeN l) := by
  obtain ⟨h1, k, hk, h2⟩ := heldGo_end (l.drop (l.length - 3)).length (l.drop (l.length - 3)) (Nat.le_refl _)
  obtain ⟨m, hm, hml, hf⟩ := held_at l
  rw [hm]
  intro j hj
  apply Decidable.byContradiction
  intro hc
  by_cases hlt : m < l.length
  · have hcont := wid_cont ((l ++ t).drop j) (m - j) (by omega) (by omega)
    have e : ((l ++ t).drop j).getD (m - j) 0 = (l.drop m).getD 0 0 := by
      rw [List.getD_eq_getElem?_getD, List.getD_eq_getElem?_getD, List.getElem?_drop, List.getElem?_drop, List.getElem?_append_left (by omega), show j + (m - j) = m + 0 by omega]
    rw [e] at hcont
    have hne : l.drop m ≠ [] := by
      intro e2
      have := congrArg List.length e2
      rw [List.length_drop, List.length_nil] at this
      omega
    rcases hf with h | h
    · exact hne h
    · rw [full_cont hne hcont] at h
      cases h
  · have hmE : m = l.length := by omega
    have hnil : heldGo (l.drop (l.length - 3)).length (l.drop (l.length - 3)) = [] := by
      apply List.length_eq_zero_iff.1
      have : wholeN l = l.length - (heldGo (l.drop (l.length - 3)).length (l.drop (l.length - 3))).length := rfl
      rw [hm, hmE] at this
      have h4 : (heldGo (l.drop (l.length - 3)).length (l.drop (l.length - 3))).length ≤ l.length := by
        rw [h2, List.length_drop, List.length_drop]
        omega
      have hl0 : l.length = 0 ∨ 0 < l.length := by omega
      omega
    have he := held_edge t _ _ (Nat.le_refl _) hnil
    have hw4 := wid_le4 ((l ++ t).drop j)
    have h5 := he (j - (l.length - 3)) (by rw [List.length_drop]; omega)
    rw [List.length_drop, ← List.drop_append_of_le_length (Nat.sub_le _ _), List.drop_drop, show l.length - 3 + (j - (l.length - 3)) = j by omega] at h5
    omega
/-- What is told, and what is held, whatever comes behind. -/
theorem told_heldT {l : List UInt8} {f : Int} {k : Nat} (h : CutAt (l.take (wholeN l)) f k) (t : List UInt8) : (if k = 0 then [] else formT f (l.take k)) ++ formT f (l.drop k ++ t) = formT f (l ++ t) := by
  by_cases h0 : k = 0
  · subst h0
    rw [if_pos rfl, List.nil_append, List.drop_zero]
  · rw [if_neg h0]
    obtain ⟨m, hm, hml, _⟩ := held_at l
    have he := edge_wholeT l t
    rcases h.1 with h1 | ⟨h1, h2, h3⟩
    · exact absurd h1 h0
    · rw [List.length_take, hm] at h2
      rw [hm] at h3 he
      have e1 : (l ++ t).take m = l.take m := List.take_append_of_le_length hml
      have h4 := cut_form (safe_take he (by rw [List.length_append]; omega) h1 (by omega) (by rw [e1]; exact h3)) h1 (by rw [List.length_append]; omega)
      rw [List.take_append_of_le_length (by omega), List.drop_append_of_le_length (by omega)] at h4
      exact h4.symm
/-- There is a place to cut at. -/
theorem cut_some (u : List UInt8) (f : Int) : ∃ k, CutAt u f k := by
  have : ∀ n, ∃ k, (k = 0 ∨ (0 < k ∧ k < u.length ∧ SafeT u k f)) ∧ ∀ j, k < j → j < u.length → j < n → ¬ SafeT u j f := by
    intro n
    induction n with
    | zero => exact ⟨0, .inl rfl, fun j _ _ h => by omega⟩
    | succ n ih =>
      by_cases h : 0 < n ∧ n < u.length ∧ SafeT u n f
      · exact ⟨n, .inr h, fun j h1 _ h2 => by omega⟩
      · obtain ⟨k, h1, h2⟩ := ih
        refine ⟨k, h1, fun j h3 h4 h5 h6 => ?_⟩
        by_cases hj : j = n
        · subst hj; exact h ⟨by omega, h4, h6⟩
        · exact h2 j h3 h4 (by omega) h6
  obtain ⟨k, h1, h2⟩ := this u.length
  exact ⟨k, h1, fun j h3 h4 => h2 j h3 h4 h4⟩
end Go.Proofs.YteokfknkcbmigaaGreatDoor
