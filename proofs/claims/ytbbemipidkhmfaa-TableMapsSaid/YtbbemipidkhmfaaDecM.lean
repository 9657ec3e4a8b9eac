/-
  The document's decoding in plain words: it is the language's own.
-/
import Derived.Lib.DecodeN
import Derived.Lib.Hide
import Derived.Test.YtbbemipidkhmfaaMath
namespace Go.Proofs.Ytbbemipidkhmfaa
open Go.Lib

/-- How many bytes a rune has. -/
def widR (r : Nat) : Nat := if r < 55296 ∨ (57344 ≤ r ∧ r ≤ 1114111) then (if r < 128 then 1 else if r < 2048 then 2 else if r < 65536 then 3 else 4) else 0
def leadN (b : Nat) : Nat × Nat := if b < 128 then (1, b) else if 192 ≤ b ∧ b < 224 then (2, b % 32) else if 224 ≤ b ∧ b < 240 then (3, b % 16) else if 240 ≤ b ∧ b < 248 then (4, b % 8) else (0, 0)
/-- The bits so far. -/
def accR (B : Nat → Nat) (r : Nat) : Nat → Nat
  | 0 => r
  | k + 1 => accR B r k * 64 + B (k + 1) % 64
def decB (n : Nat) (B : Nat → Nat) : Nat × Nat := decodeN n (B 0) (B 1) (B 2) (B 3)
theorem lead_le (b : Nat) : (leadN b).1 ≤ 4 ∧ (leadN b).2 < 128 ∧ (1 < (leadN b).1 → (leadN b).2 < 32) := by
  unfold leadN
  repeat' split
  all_goals (simp only; omega)
theorem accR_lt (B : Nat → Nat) {b : Nat} {k r : Nat} (h : leadN b = (k, r)) : ∀ i, i < k → accR B r i < 8388608 := by
  intro i hi
  have h1 := lead_le b
  rw [h] at h1
  obtain ⟨g1, g2, g3⟩ := h1
  simp only at g1 g2 g3
  have : i = 0 ∨ i = 1 ∨ i = 2 ∨ i = 3 := by omega
  rcases this with rfl | rfl | rfl | rfl <;> simp only [accR] <;> omega
theorem dec_short {n : Nat} {B : Nat → Nat} (hb : B 0 < 256) {k r : Nat} (hl : leadN (B 0) = (k, r)) (h : k = 0 ∨ n < k) (hn : 1 ≤ n) : decB n B = (65533, 1) := by
  unfold leadN at hl
  unfold decB decodeN
  repeat' split at hl
  all_goals (obtain ⟨rfl, rfl⟩ := Prod.mk.inj hl)
  all_goals (repeat' split)
  all_goals first | rfl | (exfalso; omega)
theorem dec_bad {n : Nat} {B : Nat → Nat} (hb : B 0 < 256) {k r : Nat} (hl : leadN (B 0) = (k, r)) {i : Nat} (h0 : 1 ≤ i) (hi : i < k) (h : B i / 64 ≠ 2) : decB n B = (65533, 1) := by
  have hk := (lead_le (B 0)).1
  rw [hl] at hk
  have hk : k ≤ 4 := hk
  have : i = 1 ∨ i = 2 ∨ i = 3 := by omega
  unfold leadN at hl
  unfold decB decodeN
  rcases this with rfl | rfl | rfl <;> (repeat' split at hl) <;> (obtain ⟨rfl, rfl⟩ := Prod.mk.inj hl) <;> (repeat' split) <;> first | rfl | (exfalso; omega)
theorem dec_end {n : Nat} {B : Nat → Nat} (hb : B 0 < 256) {k r : Nat} (hl : leadN (B 0) = (k, r)) (hn : k ≤ n) (h0 : 0 < k) (h : ∀ i, 1 ≤ i → i < k → B i / 64 = 2) : decB n B = if widR (accR B r (k - 1)) = k then (accR B r (k - 1), k) else (65533, 1) := by
  have h1 := h 1
  have h2 := h 2
  have h3 := h 3
  unfold leadN at hl
  (repeat' split at hl) <;> (obtain ⟨rfl, rfl⟩ := Prod.mk.inj hl)
  · have hb0 : B 0 < 128 := by assumption
    simp [accR, decB, decodeN, widR, hb0, show B 0 < 55296 from by omega]
  · have g1 := h1 (by omega) (by omega)
    simp only [accR, decB, decodeN, widR, show 2 - 1 = 1 from rfl]
    rw [if_neg (by omega), if_pos ⟨by omega, by omega, g1⟩]
    have hc : B 0 % 32 * 64 + B 1 % 64 < 2048 := by omega
    generalize B 0 % 32 * 64 + B 1 % 64 = c at *
    repeat' split
    all_goals first | rfl | (exfalso; omega) | skip
  · have g1 := h1 (by omega) (by omega)
    have g2 := h2 (by omega) (by omega)
    simp only [accR, decB, decodeN, widR, show 3 - 1 = 2 from rfl]
    rw [if_neg (by omega), if_neg (by omega), if_pos ⟨by omega, ⟨by omega, g1⟩, by omega, g2⟩]
    rw [show (B 0 % 16 * 64 + B 1 % 64) * 64 + B 2 % 64 = B 0 % 16 * 4096 + B 1 % 64 * 64 + B 2 % 64 from by omega]
    have hc : B 0 % 16 * 4096 + B 1 % 64 * 64 + B 2 % 64 < 65536 := by omega
    generalize B 0 % 16 * 4096 + B 1 % 64 * 64 + B 2 % 64 = c at *
    repeat' split
    all_goals first | rfl | (exfalso; omega) | skip
  · have g1 := h1 (by omega) (by omega)
    have g2 := h2 (by omega) (by omega)
    have g3 := h3 (by omega) (by omega)
    simp only [accR, decB, decodeN, widR, show 4 - 1 = 3 from rfl]
    rw [if_neg (by omega), if_neg (by omega), if_neg (by omega), if_pos ⟨by omega, ⟨by omega, g1⟩, ⟨by omega, g2⟩, by omega, g3⟩]
    rw [show ((B 0 % 8 * 64 + B 1 % 64) * 64 + B 2 % 64) * 64 + B 3 % 64 = B 0 % 8 * 262144 + B 1 % 64 * 4096 + B 2 % 64 * 64 + B 3 % 64 from by omega]
    generalize B 0 % 8 * 262144 + B 1 % 64 * 4096 + B 2 % 64 * 64 + B 3 % 64 = c at *
    repeat' split
    all_goals first | rfl | (exfalso; omega) | skip
  · omega
/-- A text's bytes, from a place on. -/
def bytesAt (s : ByteArray) (i : Nat) : Nat → Nat := fun j => (s.get! (i + j)).toNat
theorem decode_B (s : ByteArray) (i : Nat) : Utf8.decode s i = decB (s.size - i) (bytesAt s i) := by
  rw [decode_at]
  rfl
theorem bytesAt_lt (s : ByteArray) (i j : Nat) : bytesAt s i j < 256 := (s.get! (i + j)).toNat_lt
theorem dec_wid (s : ByteArray) (i : Nat) (h : i < s.size) : 1 ≤ (Utf8.decode s i).2 ∧ i + (Utf8.decode s i).2 ≤ s.size := by
  rw [decode_at]
  unfold decodeN
  repeat' split
  all_goals (simp only; omega)
theorem dec_max (s : ByteArray) (i : Nat) : (Utf8.decode s i).1 ≤ 1114111 := by
  rw [decode_at]
  have := (s.get! i).toNat_lt
  unfold decodeN
  repeat' split
  all_goals (simp only; omega)
/-- The runes of a text, from a place on. -/
def runesFrom (s : ByteArray) : Nat → Nat → List Int
  | 0, _ => []
  | f + 1, p => if p < s.size then ((Utf8.decode s p).1 : Int) :: runesFrom s f (p + (Utf8.decode s p).2) else []
def runesOf (s : ByteArray) : List Int := runesFrom s s.size 0
theorem runesFrom_end (s : ByteArray) (f p : Nat) (h : s.size ≤ p) : runesFrom s f p = [] := by
  cases f with
  | zero => rfl
  | succ f => rw [runesFrom, if_neg (by omega)]
theorem runesFrom_more (s : ByteArray) : ∀ (f g p : Nat), s.size ≤ f + p → s.size ≤ g + p → runesFrom s f p = runesFrom s g p
  | 0, g, p, hf, _ => by rw [runesFrom, runesFrom_end s g p (by omega)]
  | f + 1, 0, p, _, hg => by rw [runesFrom_end s _ p (by omega)]; rfl
  | f + 1, g + 1, p, hf, hg => by
    rw [runesFrom, runesFrom]
    split
    · have := dec_wid s p (by assumption)
      rw [runesFrom_more s f g _ (by omega) (by omega)]
    · rfl
theorem runesFrom_step (s : ByteArray) (p : Nat) (h : p < s.size) : runesFrom s s.size p = ((Utf8.decode s p).1 : Int) :: runesFrom s s.size (p + (Utf8.decode s p).2) := by
  have h2 := dec_wid s p h
  obtain ⟨f, hf⟩ : ∃ f, s.size = f + 1 := ⟨s.size - 1, by omega⟩
  rw [runesFrom_more s s.size (f + 1) p (by omega) (by omega), runesFrom, if_pos h, runesFrom_more s f s.size _ (by omega) (by omega)]
theorem runesFrom_length (s : ByteArray) : ∀ (f p : Nat), (runesFrom s f p).length ≤ s.size - p
  | 0, _ => by simp [runesFrom]
  | f + 1, p => by
    rw [runesFrom]
    split
    · have h := runesFrom_length s f (p + (Utf8.decode s p).2)
      have := dec_wid s p (by assumption)
      simp only [List.length_cons]
      omega
    · simp
/-- A text from a place on is read as the text at that place. -/
theorem decode_cut (s : ByteArray) (i : Nat) (h : i ≤ s.size) : Utf8.decode (s.extract i s.size) 0 = Utf8.decode s i := by
  rw [decode_at, decode_at]
  have g : ∀ k, (s.extract i s.size).get! k = s.get! (i + k) := by
    intro k
    simp only [ByteArray.get!, Array.getElem!_eq_getD, Array.getD_eq_getD_getElem?]
    congr 1
    rw [ByteArray.data_extract, Array.getElem?_extract]
    split
    · rfl
    · rw [Array.getElem?_eq_none]
      have : s.data.size = s.size := rfl
      omega
  have e : (s.extract i s.size).size - 0 = s.size - i := by rw [ByteArray.size_extract]; omega
  rw [e, g 0, g (0 + 1), g (0 + 2), g (0 + 3)]
  simp only [Nat.add_zero, Nat.zero_add]
end Go.Proofs.Ytbbemipidkhmfaa
