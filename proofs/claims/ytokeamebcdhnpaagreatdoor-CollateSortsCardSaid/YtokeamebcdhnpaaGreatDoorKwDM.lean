/-
 The document's decoding of one rune. The document's marks of a text.
-/
import Derived.Lib.EndianBits
import Derived.Lib.DecodeN
import Derived.Lib.Hide
import Derived.Test.YtokeamebcdhnpaaGreatDoorWalkIJ
import Derived.Test.YtokeamebcdhnpaaGreatDoorApp
import Derived.Test.YtokeamebcdhnpaaGreatDoorPlainM
section
namespace Go.Proofs.YtokeamebcdhnpaaGreatDoor.K1
section
open Go.Lib

/-- How many bytes a rune has. -/
def widR (r : Nat) : Nat := if r < 55296 ∨ (57344 ≤ r ∧ r ≤ 1114111) then (if r < 128 then 1 else if r < 2048 then 2 else if r < 65536 then 3 else 4) else 0
def leadN (b : Nat) : Nat × Nat := if b < 128 then (1, b) else if 192 ≤ b ∧ b < 224 then (2, b % 32) else if 224 ≤ b ∧ b < 240 then (3, b % 16) else if 240 ≤ b ∧ b < 248 then (4, b % 8) else (0, 0)
/-- The bits so far. -/
def accR (B : Nat → Nat) (r : Nat) : Nat → Nat
 | 0 => r
 | k + 1 => accR B r k * 64 + B (k + 1) % 64
def decB (n : Nat) (B : Nat → Nat) : Nat × Nat := decodeN n (B 0) (B 1) (B 2) (B 3)
theorem lead_le (b : Nat) : (leadN b).1 ≤ 4 ∧ (leadN b).2 < 128 ∧ (1 < (leadN b).1 → (leadN b).2 < 32) := by
 unfold leadN
 repeat' split
 all_goals (simp only; omega)
theorem accR_lt (B : Nat → Nat) {b : Nat} {k r : Nat} (h : leadN b = (k, r)) : ∀ i, i < k → accR B r i < 8388608 := by
 intro i hi
 have h1 := lead_le b
 rw [h] at h1
 obtain ⟨g1, g2, g3⟩ := h1
 simp only at g1 g2 g3
 have : i = 0 ∨ i = 1 ∨ i = 2 ∨ i = 3 := by omega
 rcases this with rfl | rfl | rfl | rfl <;> simp only [accR] <;> omega
theorem dec_short {n : Nat} {B : Nat → Nat} (hb : B 0 < 256) {k r : Nat} (hl : leadN (B 0) = (k, r)) (h : k = 0 ∨ n < k) (hn : 1 ≤ n) : decB n B = (65533, 1) := by
 unfold leadN at hl
 unfold decB decodeN
 repeat' split at hl
 all_goals (obtain ⟨rfl, rfl⟩ := Prod.mk.inj hl)
 all_goals (repeat' split)
 all_goals first | rfl | (exfalso; omega)
theorem dec_bad {n : Nat} {B : Nat → Nat} (hb : B 0 < 256) {k r : Nat} (hl : leadN (B 0) = (k, r)) {i : Nat} (h0 : 1 ≤ i) (hi : i < k) (h : B i / 64 ≠ 2) : decB n B = (65533, 1) := by
 have hk := (lead_le (B 0)).1
 rw [hl] at hk
 have hk : k ≤ 4 := hk
 have : i = 1 ∨ i = 2 ∨ i = 3 := by omega
 unfold leadN at hl
 unfold decB decodeN
 rcases this with rfl | rfl | rfl <;> (repeat' split at hl) <;> (obtain ⟨rfl, rfl⟩ := Prod.mk.inj hl) <;> (repeat' split) <;> first | rfl | (exfalso; omega)
theorem dec_end {n : Nat} {B : Nat → Nat} (hb : B 0 < 256) {k r : Nat} (hl : leadN (B 0) = (k, r)) (hn : k ≤ n) (h0 : 0 < k) (h : ∀ i, 1 ≤ i → i < k → B i / 64 = 2) : decB n B = if widR (accR B r (k - 1)) = k then (accR B r (k - 1), k) else (65533, 1) := by
 have h1 := h 1
 have h2 := h 2
 have h3 := h 3
 unfold leadN at hl
 (repeat' split at hl) <;> (obtain ⟨rfl, rfl⟩ := Prod.mk.inj hl)
 ·have hb0 : B 0 < 128 := by assumption
  simp [accR, decB, decodeN, widR, hb0, show B 0 < 55296 from by omega]
 ·have g1 := h1 (by omega) (by omega)
  simp only [accR, decB, decodeN, widR, show 2 - 1 = 1 from rfl]
  rw [if_neg (by omega), if_pos ⟨by omega, by omega, g1⟩]
  have hc : B 0 % 32 * 64 + B 1 % 64 < 2048 := by omega
  generalize B 0 % 32 * 64 + B 1 % 64 = c at *
  repeat' split
  all_goals first | rfl | (exfalso; omega) | skip
 ·have g1 := h1 (by omega) (by omega)
  have g2 := h2 (by omega) (by omega)
  simp only [accR, decB, decodeN, widR, show 3 - 1 = 2 from rfl]
  rw [if_neg (by omega), if_neg (by omega), if_pos ⟨by omega, ⟨by omega, g1⟩, by omega, g2⟩]
  rw [show (B 0 % 16 * 64 + B 1 % 64) * 64 + B 2 % 64 = B 0 % 16 * 4096 + B 1 % 64 * 64 + B 2 % 64 from by omega]
  have hc : B 0 % 16 * 4096 + B 1 % 64 * 64 + B 2 % 64 < 65536 := by omega
  generalize B 0 % 16 * 4096 + B 1 % 64 * 64 + B 2 % 64 = c at *
  repeat' split
  all_goals first | rfl | (exfalso; omega) | skip
 ·have g1 := h1 (by omega) (by omega)
  have g2 := h2 (by omega) (by omega)
  have g3 := h3 (by omega) (by omega)
  simp only [accR, decB, decodeN, widR, show 4 - 1 = 3 from rfl]
  rw [if_neg (by omega), if_neg (by omega), if_neg (by omega), if_pos ⟨by omega, ⟨by omega, g1⟩, ⟨by omega, g2⟩, by omega, g3⟩]
  rw [show ((B 0 % 8 * 64 + B 1 % 64) * 64 + B 2 % 64) * 64 + B 3 % 64 = B 0 % 8 * 262144 + B 1 % 64 * 4096 + B 2 % 64 * 64 + B 3 % 64 from by omega]
  generalize B 0 % 8 * 262144 + B 1 % 64 * 4096 + B 2 % 64 * 64 + B 3 % 64 = c at *
  repeat' split
  all_goals first | rfl | (exfalso; omega) | skip
 ·omega
/-- A text's bytes, from a place on. -/
def bytesAt (s : ByteArray) (i : Nat) : Nat → Nat := fun j => (s.get! (i + j)).toNat
theorem decode_B (s : ByteArray) (i : Nat) : Utf8.decode s i = decB (s.size - i) (bytesAt s i) := by
 rw [decode_at]
 rfl
theorem bytesAt_lt (s : ByteArray) (i j : Nat) : bytesAt s i j < 256 := (s.get! (i + j)).toNat_lt
theorem dec_wid (s : ByteArray) (i : Nat) (h : i < s.size) : 1 ≤ (Utf8.decode s i).2 ∧ i + (Utf8.decode s i).2 ≤ s.size := by
 rw [decode_at]
 unfold decodeN
 repeat' split
 all_goals (simp only; omega)
theorem dec_max (s : ByteArray) (i : Nat) : (Utf8.decode s i).1 ≤ 1114111 := by
 rw [decode_at]
 have := (s.get! i).toNat_lt
 unfold decodeN
 repeat' split
 all_goals (simp only; omega)
/-- A text from a place on is read as the text at that place. -/
theorem decode_cut (s : ByteArray) (i : Nat) (h : i ≤ s.size) : Utf8.decode (s.extract i s.size) 0 = Utf8.decode s i := by
 rw [decode_at, decode_at]
 have g : ∀ k, (s.extract i s.size).get! k = s.get! (i + k) := by
  intro k
  simp only [ByteArray.get!, Array.getElem!_eq_getD, Array.getD_eq_getD_getElem?]
  congr 1
  rw [ByteArray.data_extract, Array.getElem?_extract]
  split
  ·rfl
  ·rw [Array.getElem?_eq_none]
   have : s.data.size = s.size := rfl
   omega
 have e : (s.extract i s.size).size - 0 = s.size - i := by rw [ByteArray.size_extract]; omega
 rw [e, g 0, g (0 + 1), g (0 + 2), g (0 + 3)]
 simp only [Nat.add_zero, Nat.zero_add]
end
section
open Go.RowKit Go.Maps Go.Rp Go.Shelf

theorem c_rune (r : Int) (h0 : 0 ≤ r) (w : World) : Calls Tryz.prog 130 #[.int .i32 r] w fun e w' => e = .returned (.bool (decide (r < 55296 ∨ (57344 ≤ r ∧ r ≤ 1114111)))) ∧ w' = w := by
 by_cases h1 : r ≤ 1114111
 ·by_cases h2 : r < 55296
  ·have e : decide (r < 55296 ∨ (57344 ≤ r ∧ r ≤ 1114111)) = true := decide_eq_true (by omega)
   rw [e]
   clear e
   go_enter Tryz.func130, Tryz.ntmps130
   go_wp2_with fail
   go_ret
   exact ⟨rfl, rfl⟩
  ·by_cases h3 : 57343 < r
   ·have e : decide (r < 55296 ∨ (57344 ≤ r ∧ r ≤ 1114111)) = true := decide_eq_true (by omega)
    rw [e]
    clear e
    go_enter Tryz.func130, Tryz.ntmps130
    go_wp2_with fail
    go_ret
    exact ⟨rfl, rfl⟩
   ·have e : decide (r < 55296 ∨ (57344 ≤ r ∧ r ≤ 1114111)) = false := decide_eq_false (by omega)
    rw [e]
    clear e
    go_enter Tryz.func130, Tryz.ntmps130
    go_wp2_with fail
    go_ret
    exact ⟨rfl, rfl⟩
 ·have e : decide (r < 55296 ∨ (57344 ≤ r ∧ r ≤ 1114111)) = false := decide_eq_false (by omega)
  rw [e]
  clear e
  go_enter Tryz.func130, Tryz.ntmps130
  go_wp2_with fail
  go_ret
  exact ⟨rfl, rfl⟩
/-- How many bytes a number has. -/
def widI (r : Int) : Int := (widR r.toNat : Nat)
set_option maxRecDepth 100000 in
theorem c_Width (r : Int) (h0 : 0 ≤ r) (w : World) : Calls Tryz.prog 106 #[.int .i32 r] w fun e w' => e = .returned (.int .i64 (widI r)) ∧ w' = w := by
 by_cases hv : r < 55296 ∨ (57344 ≤ r ∧ r ≤ 1114111)
 ·by_cases h1 : r < 128
  ·have e : widI r = 1 := by
    unfold widI widR
    rw [if_pos (by omega)]
    repeat' split
    all_goals first | rfl | (exfalso; omega)
   rw [e]
   clear e
   have e : decide (r < 55296 ∨ (57344 ≤ r ∧ r ≤ 1114111)) = true := decide_eq_true hv
   have HV := Lib.hid hv
   clear hv
   go_enter Tryz.func106, Tryz.ntmps106
   go_wp2_with fail
   refine (c_rune r h0 w).mono ?_
   rintro e2 w1 ⟨rfl, rfl⟩
   rw [e]
   clear e
   go_wp2_with fail
   go_ret
   exact ⟨rfl, rfl⟩
  ·by_cases h2 : r < 2048
   ·have e : widI r = 2 := by
     unfold widI widR
     rw [if_pos (by omega)]
     repeat' split
     all_goals first | rfl | (exfalso; omega)
    rw [e]
    clear e
    have e : decide (r < 55296 ∨ (57344 ≤ r ∧ r ≤ 1114111)) = true := decide_eq_true hv
    have HV := Lib.hid hv
    clear hv
    go_enter Tryz.func106, Tryz.ntmps106
    go_wp2_with fail
    refine (c_rune r h0 w).mono ?_
    rintro e2 w1 ⟨rfl, rfl⟩
    rw [e]
    clear e
    go_wp2_with fail
    go_ret
    exact ⟨rfl, rfl⟩
   ·by_cases h3 : r < 65536
    ·have e : widI r = 3 := by
      unfold widI widR
      rw [if_pos (by omega)]
      repeat' split
      all_goals first | rfl | (exfalso; omega)
     rw [e]
     clear e
     have e : decide (r < 55296 ∨ (57344 ≤ r ∧ r ≤ 1114111)) = true := decide_eq_true hv
     have HV := Lib.hid hv
     clear hv
     go_enter Tryz.func106, Tryz.ntmps106
     go_wp2_with fail
     refine (c_rune r h0 w).mono ?_
     rintro e2 w1 ⟨rfl, rfl⟩
     rw [e]
     clear e
     go_wp2_with fail
     go_ret
     exact ⟨rfl, rfl⟩
    ·have e : widI r = 4 := by
      unfold widI widR
      rw [if_pos (by omega)]
      repeat' split
      all_goals first | rfl | (exfalso; omega)
     rw [e]
     clear e
     have e : decide (r < 55296 ∨ (57344 ≤ r ∧ r ≤ 1114111)) = true := decide_eq_true hv
     have HV := Lib.hid hv
     clear hv
     go_enter Tryz.func106, Tryz.ntmps106
     go_wp2_with fail
     refine (c_rune r h0 w).mono ?_
     rintro e2 w1 ⟨rfl, rfl⟩
     rw [e]
     clear e
     go_wp2_with fail
     go_ret
     exact ⟨rfl, rfl⟩
 ·have e : widI r = 0 := by
   unfold widI widR
   rw [if_neg (by omega)]
   rfl
  rw [e]
  clear e
  have e : decide (r < 55296 ∨ (57344 ≤ r ∧ r ≤ 1114111)) = false := decide_eq_false hv
  have HV := Lib.hid hv
  clear hv
  go_enter Tryz.func106, Tryz.ntmps106
  go_wp2_with fail
  refine (c_rune r h0 w).mono ?_
  rintro e2 w1 ⟨rfl, rfl⟩
  rw [e]
  clear e
  go_wp2_with fail
  go_ret
  exact ⟨rfl, rfl⟩
theorem and_u8 (m k : Nat) (hk : (∀ b : Fin 256, bits .and .u8 ((b : Nat) : Int) (m : Nat) = (((b : Nat) % k : Nat) : Int))) {b : Nat} (hb : b < 256) : bits .and .u8 ((b : Nat) : Int) (m : Nat) = ((b % k : Nat) : Int) := hk ⟨b, hb⟩
theorem and31 {b : Nat} (hb : b < 256) : bits .and .u8 ((b : Nat) : Int) 31 = ((b % 32 : Nat) : Int) := and_u8 31 32 (by decide +kernel) hb
theorem and15 {b : Nat} (hb : b < 256) : bits .and .u8 ((b : Nat) : Int) 15 = ((b % 16 : Nat) : Int) := and_u8 15 16 (by decide +kernel) hb
theorem and7 {b : Nat} (hb : b < 256) : bits .and .u8 ((b : Nat) : Int) 7 = ((b % 8 : Nat) : Int) := and_u8 7 8 (by decide +kernel) hb
theorem and63 {b : Nat} (hb : b < 256) : bits .and .u8 ((b : Nat) : Int) 63 = ((b % 64 : Nat) : Int) := and_u8 63 64 (by decide +kernel) hb
theorem and192 {b : Nat} (hb : b < 256) : bits .and .u8 ((b : Nat) : Int) 192 = ((b / 64 * 64 : Nat) : Int) := by
 have key : ∀ b : Fin 256, bits .and .u8 ((b : Nat) : Int) 192 = (((b : Nat) / 64 * 64 : Nat) : Int) := by decide +kernel
 exact key ⟨b, hb⟩
set_option maxRecDepth 100000 in
set_option maxHeartbeats 2000000 in
theorem c_lead (b : Nat) (hb : b < 256) (w : World) : Calls Tryz.prog 105 #[.int .u8 (b : Nat)] w fun e w' => e = .returned (.tuple #[.int .i64 ((leadN b).1 : Nat), .int .i32 ((leadN b).2 : Nat)]) ∧ w' = w := by
 have f31 := and31 hb
 have f15 := and15 hb
 have f7 := and7 hb
 by_cases h1 : ((b : Nat) : Int) < 128
 ·rw [show leadN b = (1, b) from by unfold leadN; (repeat' split) <;> first | rfl | (exfalso; omega)]
  have HB := Lib.hid hb
  go_enter Tryz.func105, Tryz.ntmps105
  go_wp2_with fail
  exact bodyPost_ret (v := .tuple #[.int .i64 1, .int .i32 (b : Nat)]) (by simp [results, Tryz.results105, go_sem]) rfl ⟨rfl, rfl⟩
 ·by_cases h2 : (192 : Int) ≤ ((b : Nat) : Int)
  ·by_cases h3 : ((b : Nat) : Int) < 224
   ·rw [show leadN b = (2, (b % 32)) from by unfold leadN; (repeat' split) <;> first | rfl | (exfalso; omega)]
    have HB := Lib.hid hb
    go_enter Tryz.func105, Tryz.ntmps105
    go_wp2_with fail
    exact bodyPost_ret (v := .tuple #[.int .i64 2, .int .i32 ((b % 32) : Nat)]) (by simp [results, Tryz.results105, go_sem]) rfl ⟨rfl, rfl⟩
   ·by_cases h4 : ((b : Nat) : Int) < 240
    ·rw [show leadN b = (3, (b % 16)) from by unfold leadN; (repeat' split) <;> first | rfl | (exfalso; omega)]
     have HB := Lib.hid hb
     go_enter Tryz.func105, Tryz.ntmps105
     go_wp2_with fail
     exact bodyPost_ret (v := .tuple #[.int .i64 3, .int .i32 ((b % 16) : Nat)]) (by simp [results, Tryz.results105, go_sem]) rfl ⟨rfl, rfl⟩
    ·by_cases h5 : ((b : Nat) : Int) < 248
     ·rw [show leadN b = (4, (b % 8)) from by unfold leadN; (repeat' split) <;> first | rfl | (exfalso; omega)]
      have HB := Lib.hid hb
      go_enter Tryz.func105, Tryz.ntmps105
      go_wp2_with fail
      exact bodyPost_ret (v := .tuple #[.int .i64 4, .int .i32 ((b % 8) : Nat)]) (by simp [results, Tryz.results105, go_sem]) rfl ⟨rfl, rfl⟩
     ·rw [show leadN b = (0, 0) from by unfold leadN; (repeat' split) <;> first | rfl | (exfalso; omega)]
      have HB := Lib.hid hb
      go_enter Tryz.func105, Tryz.ntmps105
      go_wp2_with fail
      exact bodyPost_ret (v := .tuple #[.int .i64 0, .int .i32 (0 : Nat)]) (by simp [results, Tryz.results105, go_sem]) rfl ⟨rfl, rfl⟩
  ·rw [show leadN b = (0, 0) from by unfold leadN; (repeat' split) <;> first | rfl | (exfalso; omega)]
   have HB := Lib.hid hb
   go_enter Tryz.func105, Tryz.ntmps105
   go_wp2_with fail
   exact bodyPost_ret (v := .tuple #[.int .i64 0, .int .i32 (0 : Nat)]) (by simp [results, Tryz.results105, go_sem]) rfl ⟨rfl, rfl⟩
theorem i32w (n : Int) (h₀ : 0 ≤ n) (h₁ : n < 2 ^ 31) : IntKind.i32.wrap n = n := by rw [IntKind.wrap_i32]; omega
theorem or64 (r x : Int) (h0 : 0 ≤ r) (h1 : r < 33554432) (hx : 0 ≤ x ∧ x < 64) : bits .or .i32 (r * 64) x = r * 64 + x := by
 have := bits_join .i32 31 (by decide) i32w 6 (r * 64) x (by omega) (by omega) (by omega) hx.1 (by omega) (by omega)
 exact this
theorem get_eq (s : ByteArray) (j : Nat) (h : j < s.size) : s[j].toNat = bytesAt s 0 j := by
 unfold bytesAt
 rw [Nat.zero_add, ByteArray.get!]
 congr 1
 exact (getElem!_pos s.data j h).symm
set_option maxRecDepth 100000 in
set_option maxHeartbeats 4000000 in
theorem c_RDecode (s : ByteArray) (hs : 0 < s.size) (hm : s.size ≤ 1099511627776) (w : World) : Calls Tryz.prog 78 #[.string s] w fun e w' => e = .returned (.tuple #[.int .i32 ((Utf8.decode s 0).1 : Nat), .int .i64 ((Utf8.decode s 0).2 : Nat)]) ∧ w' = w := by
 obtain ⟨q, hq⟩ : ∃ q, decB (s.size - 0) (bytesAt s 0) = q := ⟨_, rfl⟩
 have hq' := hq
 rw [← decode_B] at hq'
 rw [hq']
 clear hq'
 obtain ⟨⟨k, r⟩, hl⟩ : ∃ x, leadN (bytesAt s 0 0) = x := ⟨_, rfl⟩
 have hb0 := bytesAt_lt s 0 0
 have hkr := lead_le (bytesAt s 0 0)
 rw [hl] at hkr
 obtain ⟨hk4, hr1, hr2⟩ := hkr
 simp only at hk4 hr1 hr2
 have HL := Lib.hid hl
 have HQ := Lib.hid hq
 have g0 := get_eq s 0 hs
 clear hq
 go_enter Tryz.func78, Tryz.ntmps78
 go_wp2_with fail
 refine (c_lead _ hb0 w).mono ?_
 rintro e w1 ⟨rfl, rfl⟩
 rw [hl]
 clear hl g0
 simp only
 by_cases hk0 : k = 0
 ·subst hk0
  have hq := dec_short hb0 HL.out (.inl rfl) hs
  rw [Nat.sub_zero] at HQ
  rw [HQ.out] at hq
  subst hq
  go_wp2_with fail
  exact bodyPost_ret (v := .tuple #[.int .i32 65533, .int .i64 1]) (by simp [results, Tryz.results78, go_sem]) rfl ⟨rfl, rfl⟩
 have hkb : (((k : Nat) : Int) == 0) = false := beq_false_of_ne (by omega)
 by_cases hks : s.size < k
 ·have hq := dec_short hb0 HL.out (.inr hks) hs
  rw [Nat.sub_zero] at HQ
  rw [HQ.out] at hq
  subst hq
  have hd : decide (s.size < k) = true := decide_eq_true hks
  go_wp2_with fail
  exact bodyPost_ret (v := .tuple #[.int .i32 65533, .int .i64 1]) (by simp [results, Tryz.results78, go_sem]) rfl ⟨rfl, rfl⟩
 have hd : decide (s.size < k) = false := decide_eq_false hks
 have HK0 := Lib.hid hk0
 clear hk0
 go_wp2_with fail
 go_loopw [5, 6] (fun rv iv W => ∃ i : Nat, iv = .int .i64 ((i : Nat) + 1) ∧ rv = .int .i32 (accR (bytesAt s 0) r i : Nat) ∧ i < k ∧ Hid (∀ j, 1 ≤ j → j ≤ i → bytesAt s 0 j / 64 = 2) ∧ W = w1) (fun _ iv _ => (k + 1 - intOf iv).toNat)
 case atStart => exact ⟨0, rfl, rfl, by have := HK0.out; omega, Lib.hid (fun j _ _ => by omega), rfl⟩
 case round =>
  obtain ⟨i, rfl, rfl, hik, hc, rfl⟩ := hrel
  have hacc := accR_lt (bytesAt s 0) HL.out i hik
  obtain ⟨a, ha⟩ : ∃ a, accR (bytesAt s 0) r i = a := ⟨_, rfl⟩
  have HA := Lib.hid ha
  rw [ha] at hacc ⊢
  clear ha
  by_cases hlt : i + 1 < k
  ·have hd1 : decide (((i : Nat) : Int) + 1 < (k : Nat)) = true := decide_eq_true (by omega)
   have hlt2 : ((i : Nat) : Int) + 1 < (k : Nat) := by omega
   have hlt3 : ((i : Nat) : Int) + 1 < (s.size : Nat) := by omega
   have hlt4 : i + 1 < s.size := by omega
   have g1 := get_eq s (i + 1) hlt4
   have hb := bytesAt_lt s 0 (i + 1)
   obtain ⟨b, hbe⟩ : ∃ b, bytesAt s 0 (i + 1) = b := ⟨_, rfl⟩
   rw [hbe] at g1 hb
   have HBE := Lib.hid hbe
   clear hbe
   by_cases hco : b / 64 = 2
   ·have e1 : bits .and .u8 ((b : Nat) : Int) 192 = 128 := by rw [and192 hb, hco]; rfl
    have e2 : bits .or .i32 ((a : Nat) * 64 : Int) (wrap32 (bits .and .u8 ((b : Nat) : Int) 63)) = ((a * 64 + b % 64 : Nat) : Int) := by
     rw [and63 hb, show wrap32 ((b % 64 : Nat) : Int) = ((b % 64 : Nat) : Int) from by unfold wrap32; omega, or64 _ _ (by omega) (by omega) (by omega)]
     push_cast
     omega
    have HCO := Lib.hid hco
    clear hco
    go_wp2_with fail
    clear e1 e2 g1
    go_roundw
    case rel => exact ⟨i + 1, by simp, by rw [accR, HA.out, HBE.out]; push_cast; rfl, hlt, Lib.hid (fun j h1 h2 => by
     rcases Nat.lt_or_ge j (i + 1) with h | h
     ·exact hc.out j h1 (by omega)
     ·obtain rfl : j = i + 1 := by omega
      rw [HBE.out]
      exact HCO.out), trivial⟩
    case measure => simp [intOf]; omega
   ·have e1 : (bits .and .u8 ((b : Nat) : Int) 192 != 128) = true := by rw [and192 hb, bne_iff_ne]; omega
    have hq := dec_bad hb0 HL.out (i := i + 1) (by omega) hlt (by rw [HBE.out]; exact hco) (n := s.size)
    rw [Nat.sub_zero] at HQ
    rw [HQ.out] at hq
    subst hq
    clear hco
    go_wp2_with fail
    exact bodyPost_ret (v := .tuple #[.int .i32 65533, .int .i64 1]) (by simp [results, Tryz.results78, go_sem]) rfl ⟨rfl, rfl⟩
  ·have hd1 : decide (((i : Nat) : Int) + 1 < (k : Nat)) = false := decide_eq_false (by omega)
   have hlt2 : ¬ ((i : Nat) : Int) + 1 < (k : Nat) := by omega
   have hend := dec_end (n := s.size) hb0 HL.out (by omega) (by have := HK0.out; omega) (fun j h1 h2 => hc.out j h1 (by omega))
   rw [Nat.sub_zero] at HQ
   obtain rfl : k = i + 1 := by omega
   rw [HQ.out, Nat.add_sub_cancel, HA.out] at hend
   have HE := Lib.hid hend
   clear hend
   go_wp2_with fail
   refine (c_Width a (by omega) _).mono ?_
   rintro e w2 ⟨rfl, rfl⟩
   by_cases hw : widR a = i + 1
   ·have hwb : (widI (a : Nat) != ((i : Nat) : Int) + 1) = false := by
     unfold widI
     rw [Int.toNat_natCast, hw]
     simp
    have hq := HE.out
    rw [if_pos hw] at hq
    subst hq
    clear hw
    go_wp2_with fail
    exact bodyPost_ret (v := .tuple #[.int .i32 (a : Nat), .int .i64 ((i + 1 : Nat) : Int)]) (by simp [results, Tryz.results78, go_sem]) rfl ⟨rfl, rfl⟩
   ·have hwb : (widI (a : Nat) != ((i : Nat) : Int) + 1) = true := by
     unfold widI
     rw [Int.toNat_natCast, bne_iff_ne]
     omega
    have hq := HE.out
    rw [if_neg hw] at hq
    subst hq
    clear hw
    go_wp2_with fail
    exact bodyPost_ret (v := .tuple #[.int .i32 65533, .int .i64 1]) (by simp [results, Tryz.results78, go_sem]) rfl ⟨rfl, rfl⟩
end
end Go.Proofs.YtokeamebcdhnpaaGreatDoor.K1
end

section
namespace Go.Proofs.YtokeamebcdhnpaaGreatDoor.K1
open Go.RowKit Go.Rp Go.Shelf Go.Maps Go.Nm

/-- Marks: a place, a width, a rune, whether it is bad. -/
structure Mk where
 at_ : Nat
 wd : Nat
 r : Nat
 bad : Bool
def mkCells : List Mk → List Value
 | [] => []
 | x :: t => .int .i64 (x.at_ : Nat) :: .int .i64 (x.wd : Nat) :: .int .i32 (x.r : Nat) :: .bool x.bad :: mkCells t
theorem mkCells_append : ∀ a b : List Mk, mkCells (a ++ b) = mkCells a ++ mkCells b
 | [], _ => rfl
 | x :: a, b => by simp [mkCells, mkCells_append a b]
theorem mkCells_length : ∀ a : List Mk, (mkCells a).length = a.length * 4
 | [] => rfl
 | x :: a => by simp only [mkCells, List.length_cons, mkCells_length a]; omega
theorem mkCells_get (l : List Mk) (i : Nat) (h : i < l.length) (k : Nat) (hk : k < 4) : (mkCells l)[i * 4 + k]? = [Value.int .i64 (l[i].at_ : Nat), .int .i64 (l[i].wd : Nat), .int .i32 (l[i].r : Nat), .bool l[i].bad][k]? := by
 have h2 : l = l.take i ++ l[i] :: l.drop (i + 1) := by rw [← List.drop_eq_getElem_cons h, List.take_append_drop]
 have h3 : (l.take i).length = i := by rw [List.length_take]; omega
 have h4 : (mkCells l)[i * 4 + k]? = (mkCells (l.take i ++ l[i] :: l.drop (i + 1)))[i * 4 + k]? := by rw [← h2]
 rw [h4, mkCells_append, List.getElem?_append_right (by rw [mkCells_length, h3]; omega), mkCells_length, h3, show i * 4 + k - i * 4 = k from by omega]
 match k, hk with
 | 0, _ => rfl
 | 1, _ => rfl
 | 2, _ => rfl
 | 3, _ => rfl
theorem infoMp : (Tryz.prog.info? 90).map (fun i => (i.zero, i.size, i.bytes)) = some (some (.agg #[.int .i64 0, .int .i64 0, .int .i32 0, .bool false]), 4, 24) := by kernel_rfl
/-- What a mark tells: a rune, or a fault's byte. -/
def rawM (T : List UInt8) (m : Mk) : Int × Bool := if m.bad = true then (((T.getD m.at_ 0).toNat : Nat), true) else ((m.r : Nat), false)
structure Tied (T : List UInt8) (ms : List Mk) (p : Nat) : Prop where
 raw : rawOf T = ms.map (rawM T) ++ rawOf (T.drop p)
 lt : ∀ m ∈ ms, m.at_ < T.length
 rl : ∀ m ∈ ms, m.r ≤ 1114111
theorem Tied.snoc {T : List UInt8} {ms : List Mk} {p n r : Nat} {b : Bool} (h : Tied T ms p) (hp : p < T.length) (hr : run (T.drop p) = r) (hn : wid (T.drop p) = n) (hb : b = true ↔ r = 65533 ∧ n = 1) (hrl : r ≤ 1114111) : Tied T (ms ++ [⟨p, n, r, b⟩]) (p + n) := by
 have hne : T.drop p ≠ [] := by
  intro e
  have := congrArg List.length e
  rw [List.length_drop] at this
  simp at this
  omega
 refine ⟨?_, fun m hm => ?_, fun m hm => ?_⟩
 ·rw [h.raw, rawOf_step _ hne, List.drop_drop, hr, hn, List.map_append, List.append_assoc]
  congr 1
  show _ :: _ = _ :: _
  rw [List.cons.injEq]
  refine ⟨?_, by simp⟩
  unfold rawM
  cases b with
  | true =>
   rw [if_pos (hb.1 rfl), if_pos rfl, List.getD_eq_getElem?_getD, List.getD_eq_getElem?_getD, List.getElem?_drop]
   rfl
  | false =>
   rw [if_neg (fun h => by have := hb.2 h; cases this), if_neg (by simp)]
 ·rcases List.mem_append.1 hm with hm | hm
  ·exact h.lt m hm
  ·obtain rfl := List.mem_singleton.1 hm
   exact hp
 ·rcases List.mem_append.1 hm with hm | hm
  ·exact h.rl m hm
  ·obtain rfl := List.mem_singleton.1 hm
   exact hrl

theorem len_eqK (s : ByteArray) : s.data.toList.length = s.size := by simp
set_option maxRecDepth 100000 in
set_option maxHeartbeats 8000000 in
theorem c_Marks (s : ByteArray) (hm : s.size ≤ 1000000) (w : World) : Calls Tryz.prog 53 #[.string s] w fun e w' => ∃ v ms, e = .returned v ∧ w'.ownsRow w.heap.size 90 4 v ms.length (mkCells ms) ∧ Tied s.data.toList ms s.size ∧ ms.length ≤ s.size ∧ Ext w w' := by
 obtain ⟨i0, hi0, hz0, hz1, hz2⟩ := info_parts infoMp
 have hmI : ((s.size : Nat) : Int) ≤ 1000000 := by omega
 go_enter Tryz.func53, Tryz.ntmps53
 go_wp2_with fail
 go_loopw [3, 4] (fun lv kv W => ∃ (at_ : Nat) (ms : List Mk), kv = .int .i64 (at_ : Nat) ∧ at_ ≤ s.size ∧ ms.length ≤ at_ ∧ Hid (Tied s.data.toList ms at_) ∧ W.ownsRow w.heap.size 90 4 lv ms.length (mkCells ms) ∧ Ext w W) (fun _ kv _ => s.size + 1 - (intOf kv).toNat)
 case atStart => exact ⟨0, [], rfl, by omega, by simp, Lib.hid ⟨rfl, fun m hm => (by cases hm), fun m hm => (by cases hm)⟩, World.ownsRow_nil _ _ _ _, Ext.refl _⟩
 case round =>
  obtain ⟨p, ms, rfl, hp, hml, HT2, hrow, hx⟩ := hrel
  by_cases hlt : p < s.size
  ·have hd : decide (p < s.size) = true := decide_eq_true hlt
   have hw := dec_wid s p hlt
   have hmx := dec_max s p
   have hc := decode_cut s p (by omega)
   have hdl := dec_at s p
   obtain ⟨⟨r, n⟩, hrn⟩ : ∃ x, Utf8.decode s p = x := ⟨_, rfl⟩
   rw [hrn] at hw hmx hc hdl
   simp only at hw hmx
   have HRN := Lib.hid (show run (s.data.toList.drop p) = r ∧ wid (s.data.toList.drop p) = n by unfold run wid; rw [← hdl]; exact ⟨rfl, rfl⟩)
   have HC := Lib.hid hc
   clear hrn hc hdl
   have hz : 0 < (s.extract p s.size).size := by rw [ByteArray.size_extract]; omega
   by_cases h1 : n = 1
   ·subst h1
    by_cases h2 : r = 65533
    ·subst h2
     go_wp2_with fail
     refine (c_RDecode _ hz (by rw [ByteArray.size_extract]; omega) _).mono ?_
     rintro e w1 ⟨rfl, rfl⟩
     rw [HC.out]
     simp only
     have HROW := Lib.hid (And.intro hrow hx)
     clear hrow hx
     go_wp2_with (at_builtin; refine Hid.out ?_)
     refine Lib.hid ?_
     refine wpList_app rfl (.tmp 18) (.tmp 29) 86 rfl 90 i0 (.agg #[.int .i64 0, .int .i64 0, .int .i32 0, .bool false]) 4 24 Tryz.underlying86 hi0 hz0 hz1 hz2 rfl (by decide) rfl HROW.out.1 HROW.out.2 [.int .i64 (p : Nat), .int .i64 1, .int .i32 65533, .bool true] rfl rfl (by intro u hu; simp at hu; rcases hu with rfl | rfl | rfl | rfl <;> rfl) (by omega) (by decide) ?_
     intro v' w4 hown4 hx4 _
     have HO4 := Lib.hid (And.intro hown4 hx4)
     clear hown4 hx4 HROW
     go_wp2_with fail
     refine ⟨⟨p + 1, ms ++ [⟨p, 1, 65533, true⟩], by simp, by omega, by simp; omega, Lib.hid (HT2.out.snoc (by rw [len_eqK]; exact hlt) HRN.out.1 HRN.out.2 (by simp) (by omega)), ?_, HO4.out.2⟩, by simp [intOf]; omega⟩
     have e : mkCells (ms ++ [⟨p, 1, 65533, true⟩]) = mkCells ms ++ [.int .i64 (p : Nat), .int .i64 1, .int .i32 65533, .bool true] := by rw [mkCells_append]; rfl
     rw [e, List.length_append]
     exact HO4.out.1
    ·have hb2 : (((r : Nat) : Int) == 65533) = false := beq_false_of_ne (by omega)
     have HQT := Lib.hid (show (r = 65533) ↔ False from by simp [h2])
     clear h2
     go_wp2_with fail
     refine (c_RDecode _ hz (by rw [ByteArray.size_extract]; omega) _).mono ?_
     rintro e w1 ⟨rfl, rfl⟩
     rw [HC.out]
     simp only
     have HROW := Lib.hid (And.intro hrow hx)
     clear hrow hx
     go_wp2_with (at_builtin; refine Hid.out ?_)
     refine Lib.hid ?_
     refine wpList_app rfl (.tmp 18) (.tmp 29) 86 rfl 90 i0 (.agg #[.int .i64 0, .int .i64 0, .int .i32 0, .bool false]) 4 24 Tryz.underlying86 hi0 hz0 hz1 hz2 rfl (by decide) rfl HROW.out.1 HROW.out.2 [.int .i64 (p : Nat), .int .i64 1, .int .i32 (r : Nat), .bool false] rfl rfl (by intro u hu; simp at hu; rcases hu with rfl | rfl | rfl | rfl <;> rfl) (by omega) (by decide) ?_
     intro v' w4 hown4 hx4 _
     have HO4 := Lib.hid (And.intro hown4 hx4)
     clear hown4 hx4 HROW
     go_wp2_with fail
     refine ⟨⟨p + 1, ms ++ [⟨p, 1, r, false⟩], by simp, by omega, by simp; omega, Lib.hid (HT2.out.snoc (by rw [len_eqK]; exact hlt) HRN.out.1 HRN.out.2 (by simp [HQT.out]) (by omega)), ?_, HO4.out.2⟩, by simp [intOf]; omega⟩
     have e : mkCells (ms ++ [⟨p, 1, r, false⟩]) = mkCells ms ++ [.int .i64 (p : Nat), .int .i64 1, .int .i32 (r : Nat), .bool false] := by rw [mkCells_append]; rfl
     rw [e, List.length_append]
     exact HO4.out.1
   ·have hb1 : (((n : Nat) : Int) == 1) = false := beq_false_of_ne (by omega)
    have HQT := Lib.hid (show (n = 1) ↔ False from by simp [h1])
    clear h1
    go_wp2_with fail
    refine (c_RDecode _ hz (by rw [ByteArray.size_extract]; omega) _).mono ?_
    rintro e w1 ⟨rfl, rfl⟩
    rw [HC.out]
    simp only
    have HROW := Lib.hid (And.intro hrow hx)
    clear hrow hx
    go_wp2_with (at_builtin; refine Hid.out ?_)
    refine Lib.hid ?_
    refine wpList_app rfl (.tmp 18) (.tmp 29) 86 rfl 90 i0 (.agg #[.int .i64 0, .int .i64 0, .int .i32 0, .bool false]) 4 24 Tryz.underlying86 hi0 hz0 hz1 hz2 rfl (by decide) rfl HROW.out.1 HROW.out.2 [.int .i64 (p : Nat), .int .i64 (n : Nat), .int .i32 (r : Nat), .bool false] rfl rfl (by intro u hu; simp at hu; rcases hu with rfl | rfl | rfl | rfl <;> rfl) (by omega) (by decide) ?_
    intro v' w4 hown4 hx4 _
    have HO4 := Lib.hid (And.intro hown4 hx4)
    clear hown4 hx4 HROW
    go_wp2_with fail
    refine ⟨⟨p + n, ms ++ [⟨p, n, r, false⟩], by simp, by omega, by simp; omega, Lib.hid (HT2.out.snoc (by rw [len_eqK]; exact hlt) HRN.out.1 HRN.out.2 (by simp [HQT.out]) (by omega)), ?_, HO4.out.2⟩, by simp [intOf]; omega⟩
    have e : mkCells (ms ++ [⟨p, n, r, false⟩]) = mkCells ms ++ [.int .i64 (p : Nat), .int .i64 (n : Nat), .int .i32 (r : Nat), .bool false] := by rw [mkCells_append]; rfl
    rw [e, List.length_append]
    exact HO4.out.1
  ·obtain rfl : p = s.size := by omega
   have hd : decide (s.size < s.size) = false := decide_eq_false (by omega)
   go_wp2_with fail
   go_ret
   exact ⟨_, ms, rfl, hrow, HT2.out, hml, hx⟩
end Go.Proofs.YtokeamebcdhnpaaGreatDoor.K1
end
