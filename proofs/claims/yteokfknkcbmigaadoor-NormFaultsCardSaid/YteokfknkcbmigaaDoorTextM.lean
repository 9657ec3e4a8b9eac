/-
  Plain facts on the runes and faults of a text, and on the text that they make.
-/
import Derived.Test.YteokfknkcbmigaaDoorEdges
namespace Go.Nm
open Go.Rp Go.Lib

/-- The runes and the faults of some bytes: a fault has its byte. -/
def raw : Nat → List UInt8 → List (Int × Bool)
  | 0, _ => []
  | n + 1, l => if l = [] then [] else (if run l = 65533 ∧ wid l = 1 then (((l.getD 0 0).toNat : Int), true) else ((run l : Int), false)) :: raw n (l.drop (wid l))
theorem raw_nil (n : Nat) : raw n [] = [] := by cases n <;> simp [raw]
theorem raw_fuel (n : Nat) : ∀ (m : Nat) (l : List UInt8), l.length ≤ n → l.length ≤ m → raw n l = raw m l := by
  induction n with
  | zero =>
    intro m l h1 _
    have : l = [] := List.length_eq_zero_iff.1 (by omega)
    subst this
    rw [raw_nil, raw_nil]
  | succ n ih =>
    intro m l h1 h2
    by_cases h : l = []
    · subst h; rw [raw_nil, raw_nil]
    · have hp := wid_pos l
      have hw := wid_le l h
      have h0 : 0 < l.length := List.length_pos_iff.2 h
      obtain ⟨m', rfl⟩ : ∃ m', m = m' + 1 := ⟨m - 1, by omega⟩
      rw [raw, raw, if_neg h, if_neg h, ih m' (l.drop (wid l)) (by simp; omega) (by simp; omega)]
def rawOf (l : List UInt8) : List (Int × Bool) := raw l.length l
theorem rawOf_step (l : List UInt8) (h : l ≠ []) : rawOf l = (if run l = 65533 ∧ wid l = 1 then (((l.getD 0 0).toNat : Int), true) else ((run l : Int), false)) :: rawOf (l.drop (wid l)) := by
  have hp := wid_pos l
  have hw := wid_le l h
  obtain ⟨m', hm⟩ : ∃ m', l.length = m' + 1 := ⟨l.length - 1, by omega⟩
  unfold rawOf
  rw [hm, raw, if_neg h, raw_fuel m' (l.drop (wid l)).length _ (by simp; omega) (Nat.le_refl _)]
theorem raw_of {n : Nat} {l : List UInt8} (h : l.length ≤ n) : raw n l = rawOf l := raw_fuel n l.length l h (Nat.le_refl _)
/-- At an edge the runes and faults fall apart. -/
theorem rawOf_split : ∀ (n : Nat) (l : List UInt8) (e : Nat), l.length ≤ n → e ≤ l.length → edge l e → rawOf l = rawOf (l.take e) ++ rawOf (l.drop e) := by
  intro n
  induction n with
  | zero =>
    intro l e hn he _
    have : l = [] := List.length_eq_zero_iff.1 (by omega)
    subst this
    simp [rawOf, raw_nil]
  | succ n ih =>
    intro l e hn he hedge
    by_cases h : l = []
    · subst h; simp [rawOf, raw_nil]
    · by_cases h0 : e = 0
      · subst h0; simp [rawOf, raw]
      · have hp := wid_pos l
        have hw : wid l ≤ e := by have := hedge 0 (by omega); simpa using this
        have hd := wid_head l e h hw
        have hwd : wid (l.take e) = wid l := by unfold wid; rw [hd]
        have hrd : run (l.take e) = run l := by unfold run; rw [hd]
        have hi := ih (l.drop (wid l)) (e - wid l) (by simp; omega) (by simp; omega) (fun j hj => by
          have := hedge (wid l + j) (by omega)
          rw [List.drop_drop]
          omega)
        have hne := take_ne l e (by omega) h
        have h00 : (l.take e).getD 0 0 = l.getD 0 0 := by
          cases l with
          | nil => exact absurd rfl h
          | cons c t =>
            obtain ⟨e', rfl⟩ : ∃ e', e = e' + 1 := ⟨e - 1, by omega⟩
            rfl
        rw [rawOf_step l h, rawOf_step (l.take e) hne, hwd, hrd, h00, hi, List.cons_append, List.drop_take, List.drop_drop, show wid l + (e - wid l) = e from by omega]
/-- A rune's bytes. -/
def encB (r : Int) : List UInt8 := (Utf8.encode r).data.toList
theorem u8n (n : Nat) (h : n < 256) : (UInt8.ofNat n).toNat = n := by simp; omega
set_option maxRecDepth 100000 in
theorem dec_enc {r : Int} (h : Utf8.valid r = true) (b : List UInt8) : dec (encB r ++ b) = (r.toNat, (encB r).length) := by
  have hv : (0 ≤ r ∧ r < 55296) ∨ (57344 ≤ r ∧ r ≤ 1114111) := by
    unfold Utf8.valid at h
    simp only [Bool.or_eq_true, Bool.and_eq_true, decide_eq_true_eq] at h
    omega
  obtain ⟨n, rfl⟩ : ∃ n : Nat, r = (n : Int) := ⟨r.toNat, by omega⟩
  have hv : n < 55296 ∨ (57344 ≤ n ∧ n ≤ 1114111) := by omega
  unfold encB Utf8.encode
  simp only [h, if_true, Int.toNat_natCast]
  by_cases h1 : n < 128
  · simp only [h1, if_true, List.cons_append, List.nil_append]
    unfold dec decodeN
    simp only [List.getD_cons_zero, u8n n (by omega), h1, if_true]
    rfl
  by_cases h2 : n < 2048
  · simp only [h1, h2, if_true, if_false, List.cons_append, List.nil_append]
    unfold dec decodeN
    simp only [List.getD_cons_zero, List.getD_cons_succ, u8n (192 + n / 64) (by omega), u8n (128 + n % 64) (by omega)]
    rw [if_neg (by omega), if_pos ⟨by omega, by simp, by omega⟩, if_pos (by omega)]
    simp only [List.length_cons, List.length_nil, Prod.mk.injEq, and_true]
    omega
  by_cases h3 : n < 65536
  · simp only [h1, h2, h3, if_true, if_false, List.cons_append, List.nil_append]
    unfold dec decodeN
    simp only [List.getD_cons_zero, List.getD_cons_succ, u8n (224 + n / 4096) (by omega), u8n (128 + n / 64 % 64) (by omega), u8n (128 + n % 64) (by omega)]
    rw [if_neg (by omega), if_neg (by omega), if_pos ⟨by omega, ⟨by simp, by omega⟩, by simp, by omega⟩, if_pos (by omega)]
    simp only [List.length_cons, List.length_nil, Prod.mk.injEq, and_true]
    omega
  · simp only [h1, h2, h3, if_false, List.cons_append, List.nil_append]
    unfold dec decodeN
    simp only [List.getD_cons_zero, List.getD_cons_succ, u8n (240 + n / 262144) (by omega), u8n (128 + n / 4096 % 64) (by omega), u8n (128 + n / 64 % 64) (by omega), u8n (128 + n % 64) (by omega)]
    rw [if_neg (by omega), if_neg (by omega), if_neg (by omega), if_pos ⟨by omega, ⟨by simp, by omega⟩, ⟨by simp, by omega⟩, by simp, by omega⟩, if_pos (by omega)]
    simp only [List.length_cons, List.length_nil, Prod.mk.injEq, and_true]
    omega
theorem enc_len {r : Int} (h : Utf8.valid r = true) (h1 : (encB r).length = 1) : r < 128 := by
  refine Decidable.byContradiction fun hn => ?_
  revert h1
  unfold encB Utf8.encode
  have : ¬ r.toNat < 128 := by omega
  simp only [h, if_true, this, if_false]
  split
  · simp
  · split <;> simp
theorem enc_ne (r : Int) : encB r ≠ [] := by
  unfold encB Utf8.encode
  simp only
  generalize (if Utf8.valid r = true then r.toNat else Utf8.runeError) = c
  by_cases h1 : c < 128
  · simp [h1]
  by_cases h2 : c < 2048
  · simp [h1, h2]
  by_cases h3 : c < 65536
  · simp [h1, h2, h3]
  · simp [h1, h2, h3]
theorem decN_valid (n b0 b1 b2 b3 : Nat) (h0 : b0 < 256) : Utf8.valid ((decodeN n b0 b1 b2 b3).1 : Int) = true := by
  have key : ∀ m : Nat, (m < 55296 ∨ (57344 ≤ m ∧ m ≤ 1114111)) → Utf8.valid (m : Int) = true := by
    intro m hm
    unfold Utf8.valid
    simp only [Bool.or_eq_true, Bool.and_eq_true, decide_eq_true_eq]
    omega
  apply key
  simp only [decodeN]
  repeat' split
  all_goals simp
  all_goals omega
theorem run_valid (l : List UInt8) : Utf8.valid (run l : Int) = true := decN_valid _ _ _ _ _ (byte_lt _)
/-- A rune's bytes, or a fault's. -/
def encE (x : Int × Bool) : List UInt8 := if x.2 = true then [UInt8.ofNat x.1.toNat] else encB x.1
theorem encE_bad (c : Int) : encE (c, true) = [UInt8.ofNat c.toNat] := rfl
theorem encE_rune (r : Int) : encE (r, false) = encB r := rfl
/-- The faults ahead. -/
def badPre : List (Int × Bool) → List UInt8
  | [] => []
  | x :: t => if x.2 = true then UInt8.ofNat x.1.toNat :: badPre t else []
/-- Faults that stay faults, and runes that are some. -/
def Firm : List (Int × Bool) → Prop
  | [] => True
  | x :: t => (if x.2 = true then (0 ≤ x.1 ∧ x.1 < 256) ∧ dec (UInt8.ofNat x.1.toNat :: badPre t) = (65533, 1) else Utf8.valid x.1 = true) ∧ Firm t
theorem enc_head {r : Int} (h : Utf8.valid r = true) (b : List UInt8) : ¬ isCont ((encB r ++ b).getD 0 0) := by
  intro hc
  have h1 := dec_of_cont _ hc
  rw [dec_enc h] at h1
  have h2 := enc_len h (Prod.mk.inj h1).2
  have h3 := (Prod.mk.inj h1).1
  omega
theorem out_head : ∀ {L : List (Int × Bool)}, Firm L → ∃ u, L.flatMap encE = badPre L ++ u ∧ (u = [] ∨ ¬ isCont (u.getD 0 0))
  | [], _ => ⟨[], rfl, .inl rfl⟩
  | (r, true) :: t, h => by
    obtain ⟨u, hu, hc⟩ := out_head h.2
    exact ⟨u, by rw [List.flatMap_cons, hu]; rfl, hc⟩
  | (r, false) :: t, h => by
    refine ⟨encB r ++ t.flatMap encE, rfl, .inr (enc_head ?_ _)⟩
    have := h.1
    simpa using this
theorem fault_more {c : UInt8} {u b : List UInt8} (h : dec (c :: u) = (65533, 1)) (hb : b = [] ∨ ¬ isCont (b.getD 0 0)) : dec (c :: (u ++ b)) = (65533, 1) := by
  rw [← List.cons_append]
  by_cases hw : wid (c :: u ++ b) ≤ (c :: u).length
  · rw [← dec_cut (c :: u) b (by simp) hw, h]
  · exfalso
    have h1 := wid_cont (c :: u ++ b) (c :: u).length (by simp) (by omega)
    have h2 : (c :: u ++ b).getD (c :: u).length 0 = b.getD 0 0 := by
      rw [List.getD_eq_getElem?_getD, List.getElem?_append_right (Nat.le_refl _), Nat.sub_self, List.getD_eq_getElem?_getD]
    rw [h2] at h1
    rcases hb with rfl | hb
    · unfold isCont at h1
      simp at h1
    · exact hb h1
/-- What was made a text reads as it was. -/
theorem rawOf_out : ∀ {L : List (Int × Bool)}, Firm L → rawOf (L.flatMap encE) = L
  | [], _ => by simp [rawOf, raw_nil]
  | (r, true) :: t, h => by
    obtain ⟨u, hu, hc⟩ := out_head h.2
    obtain ⟨⟨h1, h3⟩, h2⟩ : (0 ≤ r ∧ r < 256) ∧ dec (UInt8.ofNat r.toNat :: badPre t) = (65533, 1) := by simpa using h.1
    have hd := fault_more h2 hc
    rw [← hu] at hd
    have ih := rawOf_out h.2
    have hr : run (UInt8.ofNat r.toNat :: t.flatMap encE) = 65533 := by unfold run; rw [hd]
    have hw : wid (UInt8.ofNat r.toNat :: t.flatMap encE) = 1 := by unfold wid; rw [hd]
    rw [List.flatMap_cons, encE_bad, List.cons_append, List.nil_append, rawOf_step _ (by simp), hr, hw, if_pos ⟨rfl, rfl⟩, List.drop_one, List.tail_cons, ih, List.getD_cons_zero, u8n _ (by omega)]
    congr 2
    omega
  | (r, false) :: t, h => by
    have hv : Utf8.valid r = true := by simpa using h.1
    have hd := dec_enc hv (t.flatMap encE)
    have ih := rawOf_out h.2
    have hr : run (encB r ++ t.flatMap encE) = r.toNat := by unfold run; rw [hd]
    have hw : wid (encB r ++ t.flatMap encE) = (encB r).length := by unfold wid; rw [hd]
    have h0 : 0 ≤ r := by
      unfold Utf8.valid at hv
      simp only [Bool.or_eq_true, Bool.and_eq_true, decide_eq_true_eq] at hv
      omega
    rw [List.flatMap_cons, encE_rune, rawOf_step _ (by simp [enc_ne]), hr, hw, if_neg, List.drop_left, ih, Int.toNat_of_nonneg h0]
    intro hh
    have := enc_len hv hh.2
    omega
theorem badPre_take : ∀ (n : Nat) (l : List UInt8), l.length ≤ n → ∃ k, badPre (rawOf l) = l.take k := by
  intro n
  induction n with
  | zero =>
    intro l hl
    have : l = [] := List.length_eq_zero_iff.1 (by omega)
    subst this
    exact ⟨0, by simp [rawOf, raw_nil, badPre]⟩
  | succ n ih =>
    intro l hl
    by_cases h : l = []
    · subst h; exact ⟨0, by simp [rawOf, raw_nil, badPre]⟩
    · rw [rawOf_step l h]
      by_cases hb : run l = 65533 ∧ wid l = 1
      · obtain ⟨k, hk⟩ := ih (l.drop (wid l)) (by have := List.length_pos_iff.2 h; rw [hb.2]; simp; omega)
        refine ⟨k + 1, ?_⟩
        rw [if_pos hb, badPre, if_pos rfl, hk, hb.2]
        cases l with
        | nil => exact absurd rfl h
        | cons c t => simp
      · exact ⟨0, by rw [if_neg hb, badPre, if_neg (by simp)]; rfl⟩
theorem firm_raw : ∀ (n : Nat) (l : List UInt8), l.length ≤ n → Firm (rawOf l) := by
  intro n
  induction n with
  | zero =>
    intro l hl
    have : l = [] := List.length_eq_zero_iff.1 (by omega)
    subst this
    simp [rawOf, raw_nil, Firm]
  | succ n ih =>
    intro l hl
    by_cases h : l = []
    · subst h; simp [rawOf, raw_nil, Firm]
    · have hp := wid_pos l
      have h0 := List.length_pos_iff.2 h
      rw [rawOf_step l h]
      refine ⟨?_, ih _ (by simp; omega)⟩
      by_cases hb : run l = 65533 ∧ wid l = 1
      · rw [if_pos hb, if_pos rfl]
        obtain ⟨k, hk⟩ := badPre_take (l.drop (wid l)).length (l.drop (wid l)) (Nat.le_refl _)
        have hc := byte_lt (l.getD 0 0)
        refine ⟨⟨Int.natCast_nonneg _, by show ((l.getD 0 0).toNat : Int) < 256; omega⟩, ?_⟩
        rw [hk, hb.2]
        have e : UInt8.ofNat (((l.getD 0 0).toNat : Int)).toNat :: (l.drop 1).take k = l.take (k + 1) := by
          cases l with
          | nil => exact absurd rfl h
          | cons c t => simp
        rw [e]
        have h4 : dec l = (65533, 1) := Prod.ext hb.1 hb.2
        have := dec_cut (l.take (k + 1)) (l.drop (k + 1)) (take_ne l _ (by omega) h) (by
          rw [List.take_append_drop, hb.2, List.length_take]
          omega)
        rw [this, List.take_append_drop, h4]
      · rw [if_neg hb, if_neg (by simp)]
        exact run_valid l
theorem firm_text (l : List UInt8) : Firm (rawOf l) := firm_raw l.length l (Nat.le_refl _)
end Go.Nm
