/-
  A rune by its digits.
-/
import Derived.Test.YtlmkbldiicbejaaGreatDoorPlans
import Derived.Lib.Walk
import Derived.Lib.ConvBytes
import Derived.Laws.Bits64
import Derived.Laws.Closers25
import Derived.Lib.Hide
import Derived.Lib.MinMax
namespace Go.Proofs.YtlmkbldiicbejaaGreatDoor
open Go.RowKit Go.Rp

/-- The digits' number. -/
def hexD (c : UInt8) : Nat := if c.toNat < 58 then c.toNat - 48 else c.toNat - 55
def isHex (c : UInt8) : Prop := (48 ≤ c.toNat ∧ c.toNat ≤ 57) ∨ (65 ≤ c.toNat ∧ c.toNat ≤ 70)
def hexV (l : List UInt8) : Nat := l.foldl (fun n c => n * 16 + hexD c) 0
theorem emp_false {s : ByteArray} (h : 0 < s.size) : s.toList.isEmpty = false := by
  rw [← decide_eq_emptyBytes, decide_eq_false_iff_not]
  intro e
  rw [e] at h
  exact absurd h (by decide)
theorem hexD_lt {c : UInt8} (h : isHex c) : hexD c < 16 := by
  unfold isHex at h
  unfold hexD
  split <;> omega
theorem hexV_lt (l : List UInt8) (h : ∀ c ∈ l, isHex c) : hexV l < 16 ^ l.length := by
  have key : ∀ (l : List UInt8) (a k : Nat), (∀ c ∈ l, isHex c) → a < 16 ^ k → l.foldl (fun n c => n * 16 + hexD c) a < 16 ^ (k + l.length) := by
    intro l
    induction l with
    | nil => intro a k _ ha; exact ha
    | cons c t ih =>
      intro a k h ha
      have hc := hexD_lt (h c (by simp))
      have := ih (a * 16 + hexD c) (k + 1) (fun z hz => h z (by simp [hz])) (by rw [Nat.pow_succ]; omega)
      rw [List.foldl_cons, List.length_cons, show k + (t.length + 1) = k + 1 + t.length by omega]
      exact this
  have := key l 0 0 h (by simp)
  simpa [hexV] using this
theorem wrap_u64 {n : Int} (h0 : 0 ≤ n) (h1 : n < 18446744073709551616) : IntKind.u64.wrap n = n := by
  rw [IntKind.wrap_u64]
  omega
theorem or32 : ∀ m : Nat, 65 ≤ m → m ≤ 70 → bits .or .u8 ((m : Nat) : Int) 32 = (m : Nat) + 32 := by
  intro m h1 h2
  have : m = 65 ∨ m = 66 ∨ m = 67 ∨ m = 68 ∨ m = 69 ∨ m = 70 := by omega
  rcases this with rfl | rfl | rfl | rfl | rfl | rfl <;> decide
theorem c_lower (m : Nat) (w : World) (h1 : 65 ≤ m) (h2 : m ≤ 70) : Calls Tryz.prog 197 #[.int .u8 (m : Nat)] w fun e w' => e = .returned (.int .u8 ((m : Nat) + 32)) ∧ w' = w := by
  have h := or32 m h1 h2
  clear h1 h2
  go_enter Tryz.func197, Tryz.ntmps197
  go_wp2_with fail
  go_ret
  simp
/-- Bytes made of a string. -/
theorem bytes_of (w : World) (e : TypeId) (s : ByteArray) : Ext w (Lib.bytesWorld w e s) ∧ ∀ j, (h : j < s.data.toList.length) → (Lib.bytesWorld w e s).cell? ⟨w.heap.size, j, none⟩ = some (.int .u8 (s.data.toList[j].toNat : Nat)) := by
  refine ⟨?_, fun j h => ?_⟩
  · exact ⟨rfl, rfl, rfl, by rw [Lib.bytesWorld_size]; omega, fun k hk => Lib.bytesWorld_at_old w e s k hk⟩
  · have hj : j < s.size := by simpa using h
    rw [Lib.bytesWorld_cell w e s j hj, List.getD_eq_getElem?_getD, List.getElem?_eq_getElem h]
    rfl
set_option maxRecDepth 100000 in
set_option maxHeartbeats 4000000 in
theorem c_ParseUint (s : ByteArray) (w : World) (hne : 0 < s.size) (hl : s.size ≤ 6) (hh : ∀ c ∈ s.data.toList, isHex c) :
    Calls Tryz.prog 191 #[.string s, .int .i64 16, .int .i64 32] w fun e w' => e = .returned (.tuple #[.int .u64 (hexV s.data.toList : Nat), .nilIface]) ∧ Ext w w' := by
  have hem := emp_false hne
  have HH := Lib.hid hh
  have hcv := fun w => Lib.run_convert_string_bytes (P := Tryz.prog) w 9 166 5 s Tryz.underlying9 Tryz.underlying166 Tryz.underlying5
  clear hh
  go_enter Tryz.func191, Tryz.ntmps191
  go_wp2_with fail
  obtain ⟨hx1, hc1⟩ := bytes_of w 5 s
  generalize Lib.bytesWorld w 5 s = w1 at hx1 hc1 ⊢
  clear hcv hem
  obtain ⟨cv, hcv⟩ : ∃ cv : Int, (1152921504606846976 : Int) = cv := ⟨_, rfl⟩
  obtain ⟨mv, hmv⟩ : ∃ mv : Int, (4294967295 : Int) = mv := ⟨_, rfl⟩
  rw [hcv, hmv]
  have HCV := Lib.hid hcv
  have HMV := Lib.hid hmv
  clear hcv hmv
  go_loopw [12, 13, 101] (fun uv nv iv W => ∃ i : Nat, iv = .int .i64 (i : Nat) ∧ uv = .bool false ∧ nv = .int .u64 (hexV (s.data.toList.take i) : Nat) ∧ i ≤ s.size ∧ Ext w1 W) (fun _ _ iv _ => s.size + 1 - (intOf iv).toNat)
  case atStart => exact ⟨0, rfl, rfl, rfl, by omega, Ext.refl w1⟩
  case round =>
    obtain ⟨i, rfl, rfl, rfl, hi, hx⟩ := hrel
    by_cases hlt : i < s.size
    · have hlt' : i < s.data.toList.length := by simpa using hlt
      have hd : decide (i < s.size) = true := decide_eq_true hlt
      have hI : ((i : Nat) : Int) < (s.size : Nat) := by omega
      have hcell := hx.cell (hc1 i hlt')
      have hc0 := HH.out _ (List.getElem_mem hlt')
      have hval : hexV (s.data.toList.take (i + 1)) = hexV (s.data.toList.take i) * 16 + hexD s.data.toList[i] := by
        rw [List.take_add_one, List.getElem?_eq_getElem hlt']
        simp [hexV, List.foldl_append]
      have hb := hexV_lt (s.data.toList.take i) (fun c hc => HH.out c (List.mem_of_mem_take hc))
      have hpw : 16 ^ (s.data.toList.take i).length ≤ 16 ^ 5 := Nat.pow_le_pow_right (by decide) (by rw [List.length_take]; omega)
      have hD := hexD_lt hc0
      generalize s.data.toList[i] = c at hcell hc0 hval hD
      have hM := Lib.hid hval
      generalize hexV (s.data.toList.take i) = n at hb hM ⊢
      have hn : ((n : Nat) : Int) < 1048576 := by omega
      clear hval hb hpw
      rcases hc0 with ⟨ha, hz⟩ | ⟨ha, hz⟩
      · have hdv : hexD c = c.toNat - 48 := if_pos (by omega)
        generalize c.toNat = m at *
        have a1 : ¬ ((m : Nat) : Int) = 95 := by omega
        have a2 : (48 : Int) ≤ (m : Nat) := by omega
        have a3 : ((m : Nat) : Int) ≤ 57 := by omega
        have a4 : ((m : Nat) : Int) - 48 < 16 := by omega
        have a5 : ((n : Nat) : Int) < cv := by have := HCV.out; omega
        have w1' := wrap_u64 (n := ((n : Nat) : Int) * 16) (by omega) (by omega)
        have w2' := wrap_u64 (n := ((n : Nat) : Int) * 16 + ((m : Nat) - 48)) (by omega) (by omega)
        have a6 : ((n : Nat) : Int) * 16 ≤ ((n : Nat) : Int) * 16 + ((m : Nat) - 48) := by omega
        have a7 : ((n : Nat) : Int) * 16 + ((m : Nat) - 48) ≤ mv := by have := HMV.out; omega
        have HE := Lib.hid (show ((n : Nat) : Int) * 16 + ((m : Nat) - 48) = ((hexV (s.data.toList.take (i + 1)) : Nat) : Int) from by rw [hM.out, hdv]; omega)
        clear hc1 HH hn hM hD hdv ha hz HCV HMV
        go_wp2_with fail
        exact ⟨⟨i + 1, by simp, rfl, by rw [← HE.out], by omega, hx⟩, by simp [intOf]; omega⟩
      · have hdv : hexD c = c.toNat - 55 := if_neg (by omega)
        generalize c.toNat = m at *
        have a1 : ¬ ((m : Nat) : Int) = 95 := by omega
        have a2 : (48 : Int) ≤ (m : Nat) := by omega
        have a3 : ¬ ((m : Nat) : Int) ≤ 57 := by omega
        have a5 : ((n : Nat) : Int) < cv := by have := HCV.out; omega
        have w1' := wrap_u64 (n := ((n : Nat) : Int) * 16) (by omega) (by omega)
        have w2' := wrap_u64 (n := ((n : Nat) : Int) * 16 + ((m : Nat) + 32 - 97 + 10)) (by omega) (by omega)
        have a6 : ((n : Nat) : Int) * 16 ≤ ((n : Nat) : Int) * 16 + ((m : Nat) + 32 - 97 + 10) := by omega
        have a7 : ((n : Nat) : Int) * 16 + ((m : Nat) + 32 - 97 + 10) ≤ mv := by have := HMV.out; omega
        have HE := Lib.hid (show ((n : Nat) : Int) * 16 + ((m : Nat) + 32 - 97 + 10) = ((hexV (s.data.toList.take (i + 1)) : Nat) : Int) from by rw [hM.out, hdv]; omega)
        have HB := Lib.hid (show 65 ≤ m ∧ m ≤ 70 from ⟨ha, hz⟩)
        have b1 : (97 : Int) ≤ (m : Nat) + 32 := by omega
        have b2 : ((m : Nat) : Int) + 32 ≤ 122 := by omega
        have b4 : ((m : Nat) : Int) + 32 - 97 + 10 < 16 := by omega
        clear hc1 HH hn hM hD hdv ha hz HCV HMV
        go_wp2_with (refine (c_lower _ _ HB.out.1 HB.out.2).mono ?_; rintro e w9 ⟨rfl, rfl⟩)
        exact ⟨⟨i + 1, by simp, rfl, by rw [← HE.out], by omega, hx⟩, by simp [intOf]; omega⟩
    · have hd : decide (i < s.size) = false := decide_eq_false hlt
      have hie : i = s.data.toList.length := by simp; omega
      have HV := Lib.hid (show hexV (s.data.toList.take i) = hexV s.data.toList from by rw [hie, List.take_length])
      clear hie hc1
      go_wp2_with fail
      exact bodyPost_ret (v := .tuple #[.int .u64 (hexV (s.data.toList.take i) : Nat), .nilIface]) (by simp [results, Tryz.results191, go_sem]) rfl ⟨by rw [HV.out], Ext.trans hx1 hx⟩
set_option maxRecDepth 100000 in
set_option maxHeartbeats 4000000 in
theorem c_iParseInt (s : ByteArray) (w : World) (hne : 0 < s.size) (hl : s.size ≤ 6) (hh : ∀ c ∈ s.data.toList, isHex c) :
    Calls Tryz.prog 186 #[.string s, .int .i64 16, .int .i64 32] w fun e w' => e = .returned (.tuple #[.int .i64 (hexV s.data.toList : Nat), .nilIface]) ∧ Ext w w' := by
  have hem := emp_false hne
  have hlt' : 0 < s.data.toList.length := by simpa using hne
  have hc0 := hh _ (List.getElem_mem hlt')
  have hb := hexV_lt s.data.toList hh
  have hpw : 16 ^ s.data.toList.length ≤ 16 ^ 6 := Nat.pow_le_pow_right (by decide) (by simpa using hl)
  obtain ⟨z, hn⟩ : ∃ z : Int, ((hexV s.data.toList : Nat) : Int) = z := ⟨_, rfl⟩
  have hz1 : z < 2147483648 := by omega
  have hz0 : 0 ≤ z := by omega
  have HN := Lib.hid hn
  have HH := Lib.hid hh
  have hu : s[0] = s.data.toList[0] := rfl
  unfold isHex at hc0
  rw [← hu] at hc0
  have HC := Lib.hid (show (((s[0].toNat : Nat) : Int) == 43) = false ∧ (((s[0].toNat : Nat) : Int) == 45) = false from ⟨beq_false_of_ne (by omega), beq_false_of_ne (by omega)⟩)
  clear hb hpw hn hh hc0 hu
  go_enter Tryz.func186, Tryz.ntmps186
  go_wp2_with fail
  · have h : (((s[0].toNat : Nat) : Int) == 43) = true := by assumption
    exact absurd (h.symm.trans HC.out.1) (by decide)
  · have h : (((s[0].toNat : Nat) : Int) == 45) = true := by assumption
    exact absurd (h.symm.trans HC.out.2) (by decide)
  refine (c_ParseUint s _ hne hl HH.out).mono ?_
  rintro e w1 ⟨rfl, hx1⟩
  rw [HN.out]
  generalize ((s[0].toNat : Nat) : Int) = q at *
  clear hem hlt'
  go_wp2_with fail
  exact bodyPost_ret (v := .tuple #[.int .i64 z, .nilIface]) (by simp [results, Tryz.results186, go_sem]) rfl ⟨by rw [HN.out], hx1⟩
theorem c_ParseInt (s : ByteArray) (w : World) (hne : 0 < s.size) (hl : s.size ≤ 6) (hh : ∀ c ∈ s.data.toList, isHex c) :
    Calls Tryz.prog 174 #[.string s, .int .i64 16, .int .i64 32] w fun e w' => e = .returned (.tuple #[.int .i64 (hexV s.data.toList : Nat), .nilIface]) ∧ Ext w w' := by
  go_enter Tryz.func174, Tryz.ntmps174
  go_wp2_with fail
  refine (c_iParseInt s _ hne hl hh).mono ?_
  rintro e w1 ⟨rfl, hx1⟩
  go_wp2_with fail
  exact bodyPost_ret (v := .tuple #[.int .i64 (hexV s.data.toList : Nat), .nilIface]) (by simp [results, Tryz.results174, go_sem]) rfl ⟨rfl, hx1⟩
theorem wrap_i32 {n : Int} (h0 : 0 ≤ n) (h1 : n < 2147483648) : IntKind.i32.wrap n = n := by
  unfold IntKind.wrap
  simp [IntKind.bits, IntKind.signed]
  omega
end Go.Proofs.YtlmkbldiicbejaaGreatDoor
