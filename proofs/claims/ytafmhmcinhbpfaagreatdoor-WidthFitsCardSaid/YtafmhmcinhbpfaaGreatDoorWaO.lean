/-
  What was cut fits; what was made plain is as wide: of the program's own answers, in plain Lean.
-/
import Derived.Test.YtafmhmcinhbpfaaGreatDoorWaIL
import Derived.Test.YtafmhmcinhbpfaaGreatDoorGrQ
import Derived.Test.YtafmhmcinhbpfaaGreatDoorLawWJ
namespace Go.Proofs.YtafmhmcinhbpfaaGreatDoor
open Go.RowKit Go.Rp Go.Maps Go.Cl Go.Shelf Go.Gr

/-- Do ranges of one class cover these runes? -/
def cov (c : Nat) : List (Nat × Nat × Nat) → Nat → Nat → Bool
  | [], cur, hi => decide (hi < cur)
  | x :: l, cur, hi => decide (hi < cur) || (if x.2.1 < cur then cov c l cur hi else decide (x.1 ≤ cur) && x.2.2 == c && cov c l (x.2.1 + 1) hi)
theorem cov_spec (c : Nat) : ∀ (D : List (Nat × Nat × Nat)) (cur hi r : Nat), cov c D cur hi = true → cur ≤ r → r ≤ hi → getR D r = c
  | [], cur, hi, r, h, h1, h2 => by
    have := of_decide_eq_true h
    omega
  | x :: l, cur, hi, r, h, h1, h2 => by
    rw [cov, Bool.or_eq_true, decide_eq_true_eq] at h
    rcases h with h | h
    · omega
    · rw [getR]
      split at h
      · rw [if_pos (by omega)]
        exact cov_spec c l cur hi r h h1 h2
      · rw [Bool.and_eq_true, Bool.and_eq_true, decide_eq_true_eq, beq_iff_eq] at h
        obtain ⟨⟨h3, h4⟩, h5⟩ := h
        by_cases h6 : x.2.1 < r
        · rw [if_pos h6]
          exact cov_spec c l _ hi r h5 (by omega) h2
        · rw [if_neg h6, if_pos (by omega), h4]
theorem getR_mem : ∀ (D : List (Nat × Nat × Nat)) (r c : Nat), getR D r = c → c ≠ 0 → ∃ x ∈ D, x.1 ≤ r ∧ r ≤ x.2.1 ∧ x.2.2 = c
  | [], r, c, h, h0 => absurd h.symm h0
  | x :: l, r, c, h, h0 => by
    rw [getR] at h
    split at h
    · obtain ⟨y, hy, h1⟩ := getR_mem l r c h h0
      exact ⟨y, by simp [hy], h1⟩
    · split at h
      · exact ⟨x, by simp, by omega, by omega, h⟩
      · exact absurd h.symm h0
theorem zeroB : (rngG.all fun x => !(x.2.2 == 4 || x.2.2 == 5 || x.2.2 == 7) || cov 1 rngW x.1 x.2.1) = true := by kernel_rfl
theorem zero_cls (r : Nat) (h : clsG r = 4 ∨ clsG r = 5 ∨ clsG r = 7) : clsW r = 1 := by
  obtain ⟨x, hx, h1, h2, h3⟩ := getR_mem rngG r (clsG r) rfl (by omega)
  have hb := List.all_eq_true.1 zeroB x hx
  have hc : (x.2.2 == 4 || x.2.2 == 5 || x.2.2 == 7) = true := by
    rw [h3]
    rcases h with h | h | h <;> rw [h] <;> rfl
  rw [hc] at hb
  exact cov_spec 1 rngW _ _ r (by simpa using hb) h1 h2
theorem cls_b0 : clsG 32 = 0 := by kernel_rfl
theorem clsw_b1 : clsW 32 = 0 := by kernel_rfl
theorem cls_t3 : clsG 9 = 3 := by kernel_rfl
theorem cls_ends : ([10, 11, 12, 13, 133, 8232, 8233].all fun r => endsC (clsG r)) = true := by kernel_rfl
set_option maxRecDepth 100000 in
theorem cellK_ok (a t : Nat) (ht : 1 ≤ t) : (cellK a t).Ok where
  tab := ht
  zero r h := by
    show wdC a (clsW r) = 0
    rw [zero_cls r h]
    rfl
  b0 := cls_b0
  b1 := by
    show wdC a (clsW 32) = 1
    rw [clsw_b1]
    rfl
  t3 := cls_t3
  ends r h := by
    refine List.all_eq_true.1 cls_ends r ?_
    unfold endR at h
    simp only [Bool.or_eq_true, Bool.and_eq_true, decide_eq_true_eq, beq_iff_eq] at h
    simp only [List.mem_cons, List.not_mem_nil, or_false]
    omega
theorem plcS_plain (a t : Nat) (s : ByteArray) : ∀ (ps : List (Nat × Nat)) (col : Nat), (plcS a t s col ps).flatMap (plB s) = plainL (cellK a t) col (ps.map fun p => (s.data.toList.take p.2).drop p.1)
  | [], _ => rfl
  | p :: ps, col => by
    have h := plcS_plain a t s ps (bhK a t col (subS s p))
    rw [List.map_cons, plainL, ← subS_eq]
    rw [plcS, List.flatMap_cons, h]
    rfl
theorem plainK_eq (a t st : Nat) (s : ByteArray) : plainK a t st s = plainL (cellK a t) st (letters clsG s.data.toList) := plcS_plain a t s _ st
set_option maxRecDepth 100000 in
/-- Blanks in the place of tabs: as wide. -/
theorem txtK_plain (a t st : Nat) (s : ByteArray) (ht : 1 ≤ t) (h6 : ∀ r ∈ runesOf s.data.toList, clsG r ≠ 6) : txtK a t st ⟨(plainK a t st s).toArray⟩ = txtK a t st s := by
  rw [txtK_text, txtK_text, plainK_eq]
  exact plainL_text (cellK_ok a t ht) st s.data.toList h6
set_option maxRecDepth 100000 in
theorem plainK_no9 (a t st : Nat) (s : ByteArray) (ht : 1 ≤ t) : 9 ∉ plainK a t st s := by
  rw [plainK_eq]
  exact plainL_no9 (cellK a t) _ st (letters_ne clsG _) (letters_tab (cellK_ok a t ht) _)
/-- What is cut off has the column that is told. -/
theorem cutK_text (a t st : Nat) (s : ByteArray) (cells : Int) : txtK a t st (cutK a t st s cells).1 = (cutK a t st s cells).2 := by
  have h0 : txtK a t st ⟨#[]⟩ = st := by
    rw [txtK_text]
    have : letters clsG (⟨#[]⟩ : ByteArray).data.toList = [] := by simp [letters, bounds, pairsOf]
    rw [this]
    rfl
  unfold cutK
  split
  · exact h0
  · obtain ⟨n, hn, hf⟩ := fitK_pre a t st s cells
    cases n with
    | zero =>
      rw [hf]
      exact h0
    | succ i =>
      have hi : i < (plcs a t st s).length := by omega
      have hl : (fitK a t st s cells).getLast? = some (plcs a t st s)[i] := by
        rw [hf, List.getLast?_eq_getElem?, List.length_take, Nat.min_eq_left (by omega), Nat.add_sub_cancel, List.getElem?_take_of_lt (by omega), List.getElem?_eq_getElem hi]
      rw [hl]
      simp only
      have hip : i < (pairsOf (bdG s)).length := by rw [← plcs_len a t st s]; exact hi
      have hg : (plcs a t st s)[i] = _ := plcS_get a t s (pairsOf (bdG s)) st i hip hi
      rw [hg]
      simp only
      have hb2 : (pairsOf (bdG s))[i].2 ∈ bounds clsG s.data.toList := (pairsOf_mem _ _ (List.getElem_mem hip)).2
      have hle := bounds_le clsG s.data.toList _ hb2
      have hne : s.data.toList ≠ [] := by
        intro e
        have : bdG s = [] := by unfold bdG bounds; rw [if_pos e]
        rw [this] at hip
        simp [pairsOf] at hip
      obtain ⟨B, hB⟩ := bounds_head clsG s.data.toList hne
      have hfl := (pairs_flat s.data.toList B 0 (by rw [← hB]; exact bounds_rise clsG _) (by rw [← hB]; exact bounds_le clsG _) i (by rw [← hB]; exact hip) ((pairsOf (bdG s))[i]) (by rw [← hB]; exact List.getElem?_eq_getElem hip)).2
      rw [← hB, Nat.sub_zero] at hfl
      have hfr := letters_front clsG s.data.toList (i + 1) hb2 hle (by
        unfold letters
        rw [← List.map_take]
        exact hfl)
      rw [txtK_text, colS_text]
      have e1 : (s.extract 0 (pairsOf (bdG s))[i].2).data.toList = s.data.toList.take (pairsOf (bdG s))[i].2 := by
        rw [toList_extract, List.drop_zero, Nat.sub_zero]
      rw [e1, hfr]
      unfold letters
      rw [← List.map_take]
      rfl
theorem cutK_fit (a t st : Nat) (s : ByteArray) (cells : Int) : ((cutK a t st s cells).2 : Int) ≤ cells ∨ (cutK a t st s cells).2 = st := by
  unfold cutK
  split
  · exact .inr rfl
  · cases hl : (fitK a t st s cells).getLast? with
    | none => exact .inr rfl
    | some p =>
      left
      simp only
      have hm : p ∈ fitK a t st s cells := List.mem_of_getLast? hl
      have key : ∀ l : List Plc, p ∈ l.takeWhile (fitB s cells) → fitB s cells p = true := by
        intro l
        induction l with
        | nil => intro h; cases h
        | cons x l ih =>
          intro h
          rw [List.takeWhile_cons] at h
          split at h
          · rcases List.mem_cons.1 h with rfl | h
            · assumption
            · exact ih h
          · cases h
      have := key _ hm
      unfold fitB at this
      simp only [Bool.not_eq_true', Bool.or_eq_false_iff, decide_eq_false_iff_not] at this
      omega
/-- What is cut off is a beginning. -/
theorem cutK_pre (a t st : Nat) (s : ByteArray) (cells : Int) : (cutK a t st s cells).1.size ≤ s.size ∧ s.extract 0 (cutK a t st s cells).1.size = (cutK a t st s cells).1 := by
  have h0 : s.extract 0 0 = ⟨#[]⟩ := emp_eq (by simp)
  unfold cutK
  split
  · exact ⟨Nat.zero_le _, h0⟩
  · cases hl : (fitK a t st s cells).getLast? with
    | none => exact ⟨Nat.zero_le _, h0⟩
    | some p =>
      simp only
      have hm : p ∈ fitK a t st s cells := List.mem_of_getLast? hl
      obtain ⟨i, hi, rfl⟩ := List.getElem_of_mem hm
      obtain ⟨h2, e⟩ := fitK_get a t st s cells i hi
      have := (plcs_ok a t st s i h2).2
      rw [e]
      have hsz : (s.extract 0 (plcs a t st s)[i].t).size = (plcs a t st s)[i].t := by simp; omega
      rw [hsz]
      exact ⟨this, rfl⟩
theorem plainL_len (k : Cell) (T : Nat) (ht : ∀ col x, x.headD 0 = 9 → behindC (lwT k) enT k.tab col x - col ≤ T) (hT : 1 ≤ T) : ∀ (ls : List (List UInt8)) (col : Nat), (∀ x ∈ ls, x ≠ []) → (plainL k col ls).length ≤ T * ls.flatten.length
  | [], _, _ => by simp [plainL]
  | x :: ls, col, h0 => by
    have hi := plainL_len k T ht hT ls (behindC (lwT k) enT k.tab col x) (fun y hy => h0 y (by simp [hy]))
    have hx := List.length_pos_iff.2 (h0 x (by simp))
    rw [plainL, List.length_append, List.flatten_cons, List.length_append, Nat.mul_add]
    have h1 : T * 1 ≤ T * x.length := Nat.mul_le_mul_left _ hx
    have h2 : 1 * x.length ≤ T * x.length := Nat.mul_le_mul_right _ hT
    split
    · rename_i h
      have := ht col x h
      rw [List.length_replicate]
      omega
    · omega
theorem plainK_len (a t st : Nat) (s : ByteArray) (ht : 1 ≤ t) (ht2 : t ≤ 64) : (plainK a t st s).length ≤ 64 * s.size := by
  rw [plainK_eq]
  have h := plainL_len (cellK a t) 64 (fun col x hx => by
    have hb : behindC (lwT (cellK a t)) enT (cellK a t).tab col x = col - col % t + t := bhK_tab a t col x hx
    rw [hb]
    omega) (by omega) (letters clsG s.data.toList) st (letters_ne clsG _)
  rw [letters_flat clsG _ _ (Nat.le_refl _), len_eq] at h
  exact h
end Go.Proofs.YtafmhmcinhbpfaaGreatDoor
