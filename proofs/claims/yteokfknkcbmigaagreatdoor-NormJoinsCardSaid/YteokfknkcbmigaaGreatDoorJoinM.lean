/-
  What joins falls apart into the same; syllables are their own joined form.
-/
import Derived.Test.YteokfknkcbmigaaGreatDoorLawA
namespace Go.Proofs.YteokfknkcbmigaaGreatDoor
open Go.RowKit Go.Rp Go.Shelf Go.Maps Go.Nm

theorem jn_ab {a b r : Int} (h : jnT a b = some r) : Utf8.valid a = true ∧ Utf8.valid b = true := by
  unfold jnT at h
  split at h
  · rename_i hc
    exact ⟨valid_jamo (by omega), valid_jamo (by omega)⟩
  · split at h
    · rename_i hc
      exact ⟨valid_syl (by omega), valid_jamo (by omega)⟩
    · obtain ⟨e, he, x, y, rfl, e2, rfl, rfl⟩ := joins_line (jnL_some.1 h)
      have hv := (lineA he).vals
      rw [e2] at hv
      exact ⟨hv x (by simp), hv y (by simp)⟩
theorem raw_enc {r : Int} (hv : Utf8.valid r = true) (t : List UInt8) : rawOf (encB r ++ t) = (r, false) :: rawOf t := by
  have hd := dec_enc hv t
  have hne : encB r ++ t ≠ [] := fun e => enc_ne r (List.append_eq_nil_iff.1 e).1
  have hr : run (encB r ++ t) = r.toNat := by unfold run; rw [hd]
  have hw : wid (encB r ++ t) = (encB r).length := by unfold wid; rw [hd]
  have h0 := valid_iff.1 hv
  rw [rawOf_step _ hne, hr, hw, List.drop_left, if_neg]
  · rw [Int.toNat_of_nonneg (by omega)]
  · rintro ⟨h1, h2⟩
    have := enc_len hv h2
    omega
theorem rawOf_nil : rawOf [] = [] := rfl
theorem els_cons (k : Bool) (r : Int) (l : List (Int × Bool)) : tbT.els k ((r, false) :: l) = (faT k r).map tbT.mk1 ++ tbT.els k l := rfl
theorem els_nil (k : Bool) : tbT.els k [] = [] := rfl
/-- What joins falls apart into the same as the two do. -/
theorem join_form {a b r : Int} (h : jnT a b = some r) : formT 0 (encB r) = formT 0 (encB a ++ encB b) := by
  obtain ⟨ha, hb⟩ := jn_ab h
  have hr := jnT_valid a b r h
  have e : tbT.E false (encB r) = tbT.E false (encB a ++ encB b) := by
    unfold Tb.E
    have e1 : rawOf (encB r) = [(r, false)] := by
      have := raw_enc hr []
      rw [List.append_nil, rawOf_nil] at this
      exact this
    have e2 : rawOf (encB a ++ encB b) = [(a, false), (b, false)] := by
      have := raw_enc hb []
      rw [List.append_nil, rawOf_nil] at this
      rw [raw_enc ha, this]
    rw [e1, e2, els_cons, els_cons, els_cons, els_nil, List.append_nil, List.append_nil, jnT_parts a b r h, List.map_append]
  unfold formT
  show out (tbT.E false _) = out (tbT.E false _)
  rw [e]
theorem chkO2 : linesO.all (fun ws => Nat.blt 4546 (hexV (ws.headD [])) || Nat.blt (hexV (ws.getD 1 [])) 4352) = true := by kernel_rfl
theorem ordE_off : ∀ (l : List (Int × Int × Int)) (r : Int), (∀ x ∈ l, ¬ (x.1 ≤ r ∧ r ≤ x.2.1)) → ordE l r = 0
  | [], r, _ => rfl
  | x :: t, r, h => by
    rw [ordE, if_neg (h x (by simp))]
    exact ordE_off t r fun y hy => h y (by simp [hy])
theorem odT_jamo {r : Int} (h : 4352 ≤ r ∧ r ≤ 4546) : odT r = 0 := by
  refine ordE_off _ r fun x hx => ?_
  obtain ⟨ws, hw, rfl⟩ := List.mem_map.1 hx
  have h1 := List.all_eq_true.1 chkO2 ws hw
  obtain ⟨a, b, c, n, rfl, _⟩ := hO0.2.2 ws hw
  have e : (ordOf [a, b, c]).1 = (hexV a : Nat) ∧ (ordOf [a, b, c]).2.1 = (hexV b : Nat) := ⟨rfl, rfl⟩
  rw [e.1, e.2]
  simp only [List.headD_cons, List.getD_cons_succ, List.getD_cons_zero, Bool.or_eq_true] at h1
  rcases h1 with h1 | h1
  · have := Nat.le_of_ble_eq_true h1
    omega
  · have := Nat.le_of_ble_eq_true h1
    omega
theorem mk_jamo {r : Int} (h : 4352 ≤ r ∧ r ≤ 4546) : tbT.mk1 r = ⟨r, 0, false⟩ := by
  show (⟨r, odT r, false⟩ : El) = _
  rw [odT_jamo h]
theorem J_one (jn : Int → Int → Option Int) (s : El) : J jn (some (s, [])) [] = [s] := rfl
theorem syl_E {r : Int} (h : 44032 ≤ r ∧ r ≤ 55203) : J jnT none (tbT.E false (encB r)) = [⟨r, 0, false⟩] := by
  have e1 : rawOf (encB r) = [(r, false)] := by
    have := raw_enc (valid_syl h) []
    rw [List.append_nil, rawOf_nil] at this
    exact this
  unfold Tb.E
  rw [e1, els_cons, els_nil, List.append_nil, faT_syl false h]
  obtain ⟨l, hl⟩ : ∃ l, 4352 + (r - 44032) / 588 = l := ⟨_, rfl⟩
  obtain ⟨v, hv⟩ : ∃ v, 4449 + (r - 44032) % 588 / 28 = v := ⟨_, rfl⟩
  have hl2 : 4352 ≤ l ∧ l ≤ 4370 := by omega
  have hv2 : 4449 ≤ v ∧ v ≤ 4469 := by omega
  have ml := mk_jamo (r := l) (by omega)
  have mv := mk_jamo (r := v) (by omega)
  have j1 : jnT l v = some (44032 + ((l - 4352) * 21 + v - 4449) * 28) := by
    unfold jnT
    rw [if_pos ⟨hl2, hv2⟩]
  unfold sylE
  rw [hl, hv]
  by_cases ht : (r - 44032) % 28 = 0
  · rw [if_pos ht, List.append_nil]
    simp only [List.map_cons, List.map_nil, ml, mv]
    rw [sortL_zero rfl, sortL_zero rfl, sortL, J_open (by simp), J_join (by simp) (by simp [free]) j1, J_one]
    simp only [List.cons.injEq, and_true, El.mk.injEq]
    omega
  · rw [if_neg ht]
    obtain ⟨t, htt⟩ : ∃ t, 4519 + (r - 44032) % 28 = t := ⟨_, rfl⟩
    have ht2 : 4519 < t ∧ t ≤ 4546 := by omega
    have mt := mk_jamo (r := t) (by omega)
    rw [htt]
    have j2 : jnT (44032 + ((l - 4352) * 21 + v - 4449) * 28) t = some (44032 + ((l - 4352) * 21 + v - 4449) * 28 + t - 4519) := by
      unfold jnT
      rw [if_neg (by omega), if_pos (by omega)]
    simp only [List.cons_append, List.nil_append, List.map_cons, List.map_nil, ml, mv, mt]
    rw [sortL_zero rfl, sortL_zero rfl, sortL_zero rfl, sortL, J_open (by simp), J_join (by simp) (by simp [free]) j1, J_join (by simp) (by simp [free]) j2, J_one]
    simp only [List.cons.injEq, and_true, El.mk.injEq]
    omega
/-- A syllable is its own joined form, and its parts join to it. -/
theorem syl_form {r : Int} (h : 44032 ≤ r ∧ r ≤ 55203) : formT 1 (encB r) = encB r ∧ formT 1 (formT 0 (encB r)) = encB r := by
  have h1 : formT 1 (encB r) = encB r := by
    unfold formT
    show out (J jnT none (tbT.E false (encB r))) = _
    rw [syl_E h]
    show encE (r, false) ++ [] = encB r
    rw [List.append_nil, encE_rune]
  refine ⟨h1, ?_⟩
  rw [form_last (by omega) (by omega)]
  exact h1
theorem syl_len {r : Int} (h : 44032 ≤ r) : (sylE r).length = if (r - 44032) % 28 = 0 then 2 else 3 := by
  unfold sylE
  split <;> simp
end Go.Proofs.YteokfknkcbmigaaGreatDoor
