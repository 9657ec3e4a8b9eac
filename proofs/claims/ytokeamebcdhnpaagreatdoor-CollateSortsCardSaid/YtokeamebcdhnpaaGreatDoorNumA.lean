/-
 A number by its digits, of ten or of sixteen.
-/
import Derived.Test.YtokeamebcdhnpaaGreatDoorPlans
import Derived.Lib.Walk
import Derived.Lib.ConvBytes
import Derived.Laws.Bits64
import Derived.Laws.Closers25
import Derived.Lib.Hide
import Derived.Lib.MinMax
import Derived.Test.YtokeamebcdhnpaaGreatDoorWalkA
namespace Go.Proofs.YtokeamebcdhnpaaGreatDoor
open Go.RowKit Go.Rp

/-- The digits' number. -/
def digD (c : UInt8) : Nat := if c.toNat < 58 then c.toNat - 48 else c.toNat - 87
def isDig (b : Nat) (c : UInt8) : Prop := (48 ≤ c.toNat ∧ c.toNat ≤ 57) ∨ (b = 16 ∧ 97 ≤ c.toNat ∧ c.toNat ≤ 102)
def numV (b : Nat) (l : List UInt8) : Nat := l.foldl (fun n c => n * b + digD c) 0
theorem digD_lt {b : Nat} (hb : b = 10 ∨ b = 16) {c : UInt8} (h : isDig b c) : digD c < b := by
 unfold isDig at h
 unfold digD
 split <;> omega
theorem numV_lt {b : Nat} (hb : b = 10 ∨ b = 16) (l : List UInt8) (h : ∀ c ∈ l, isDig b c) : numV b l < b ^ l.length := by
 have key : ∀ (l : List UInt8) (a k : Nat), (∀ c ∈ l, isDig b c) → a < b ^ k → l.foldl (fun n c => n * b + digD c) a < b ^ (k + l.length) := by
  intro l
  induction l with
  | nil => intro a k _ ha; exact ha
  | cons c t ih =>
   intro a k h ha
   have hc := digD_lt hb (h c (by simp))
   have h2 : a * b + digD c < b ^ (k + 1) := by
    rw [Nat.pow_succ]
    have : (a + 1) * b ≤ b ^ k * b := Nat.mul_le_mul_right b ha
    rw [Nat.add_mul] at this
    omega
   have := ih (a * b + digD c) (k + 1) (fun z hz => h z (by simp [hz])) h2
   rw [List.foldl_cons, List.length_cons, show k + (t.length + 1) = k + 1 + t.length by omega]
   exact this
 have := key l 0 0 h (by simp)
 simpa [numV] using this
theorem numV_big {b : Nat} (hb : b = 10 ∨ b = 16) (l : List UInt8) (n : Nat) (hl : l.length ≤ n) (_hn : n ≤ 6) (h : ∀ c ∈ l, isDig b c) : numV b l < 16 ^ n := by
 have h1 := numV_lt hb l h
 have h2 : b ^ l.length ≤ 16 ^ l.length := Nat.pow_le_pow_left (by omega) _
 have h3 : 16 ^ l.length ≤ 16 ^ n := Nat.pow_le_pow_right (by decide) hl
 omega
theorem or32b : ∀ m : Nat, 97 ≤ m → m ≤ 102 → bits .or .u8 ((m : Nat) : Int) 32 = (m : Nat) := by
 intro m h1 h2
 have : m = 97 ∨ m = 98 ∨ m = 99 ∨ m = 100 ∨ m = 101 ∨ m = 102 := by omega
 rcases this with rfl | rfl | rfl | rfl | rfl | rfl <;> decide
theorem c_lowerb (m : Nat) (w : World) (h1 : 97 ≤ m) (h2 : m ≤ 102) : Calls Tryz.prog 150 #[.int .u8 (m : Nat)] w fun e w' => e = .returned (.int .u8 (m : Nat)) ∧ w' = w := by
 have h := or32b m h1 h2
 clear h1 h2
 go_enter Tryz.func150, Tryz.ntmps150
 go_wp2_with fail
 go_ret
 simp
set_option maxRecDepth 100000 in
set_option maxHeartbeats 4000000 in
theorem c_PU16 (s : ByteArray) (w : World) (hne : 0 < s.size) (hl : s.size ≤ 6) (hh : ∀ c ∈ s.data.toList, isDig 16 c) :
  Calls Tryz.prog 132 #[.string s, .int .i64 16, .int .i64 64] w fun e w' => e = .returned (.tuple #[.int .u64 (numV 16 s.data.toList : Nat), .nilIface]) ∧ Ext w w' := by
 have hem := emp_false hne
 have HH := Lib.hid hh
 have hcv := fun w => Lib.run_convert_string_bytes (P := Tryz.prog) w 9 34 5 s Tryz.underlying9 Tryz.underlying34 Tryz.underlying5
 clear hh
 go_enter Tryz.func132, Tryz.ntmps132
 go_wp2_with fail
 obtain ⟨hx1, hc1⟩ := bytes_of w 5 s
 generalize Lib.bytesWorld w 5 s = w1 at hx1 hc1 ⊢
 clear hcv hem
 obtain ⟨cv, hcv⟩ : ∃ cv : Int, (1152921504606846976 : Int) = cv := ⟨_, rfl⟩
 obtain ⟨mv, hmv⟩ : ∃ mv : Int, IntKind.u64.wrap (IntKind.u64.wrap 18446744073709551616 - 1) = mv := ⟨_, rfl⟩
 rw [hcv, hmv]
 have HCV := Lib.hid hcv
 have HMV := Lib.hid (show (18446744073709551615 : Int) = mv from (by decide : (18446744073709551615 : Int) = IntKind.u64.wrap (IntKind.u64.wrap 18446744073709551616 - 1)).trans hmv)
 clear hcv hmv
 go_loopw [12, 13, 101] (fun uv nv iv W => ∃ i : Nat, iv = .int .i64 (i : Nat) ∧ uv = .bool false ∧ nv = .int .u64 (numV 16 (s.data.toList.take i) : Nat) ∧ i ≤ s.size ∧ Ext w1 W) (fun _ _ iv _ => s.size + 1 - (intOf iv).toNat)
 case atStart => exact ⟨0, rfl, rfl, rfl, by omega, Ext.refl w1⟩
 case round =>
  obtain ⟨i, rfl, rfl, rfl, hi, hx⟩ := hrel
  by_cases hlt : i < s.size
  ·have hlt' : i < s.data.toList.length := by simpa using hlt
   have hd : decide (i < s.size) = true := decide_eq_true hlt
   have hI : ((i : Nat) : Int) < (s.size : Nat) := by omega
   have hcell := hx.cell (hc1 i hlt')
   have hc0 := HH.out _ (List.getElem_mem hlt')
   have hval : numV 16 (s.data.toList.take (i + 1)) = numV 16 (s.data.toList.take i) * 16 + digD s.data.toList[i] := by
    rw [List.take_add_one, List.getElem?_eq_getElem hlt']
    simp [numV, List.foldl_append]
   have hb := numV_big (b := 16) (by omega) (s.data.toList.take i) 5 (by rw [List.length_take]; omega) (by omega) (fun c hc => HH.out c (List.mem_of_mem_take hc))
   generalize s.data.toList[i] = c at hcell hc0 hval
   have hM := Lib.hid hval
   generalize numV 16 (s.data.toList.take i) = n at hb hM ⊢
   have hn : ((n : Nat) : Int) < 1048576 := by omega
   clear hval hb
   rcases hc0 with ⟨ha, hz⟩ | ⟨ht, ha, hz⟩
   ·have hdv : digD c = c.toNat - 48 := if_pos (by omega)
    generalize c.toNat = m at *
    have a1 : ¬ ((m : Nat) : Int) = 95 := by omega
    have a2 : (48 : Int) ≤ (m : Nat) := by omega
    have a3 : ((m : Nat) : Int) ≤ 57 := by omega
    have a4 : ((m : Nat) : Int) - 48 < 16 := by omega
    have a5 : ((n : Nat) : Int) < cv := by have := HCV.out; omega
    have w1' := wrap_u64 (n := ((n : Nat) : Int) * 16) (by omega) (by omega)
    have w2' := wrap_u64 (n := ((n : Nat) : Int) * 16 + ((m : Nat) - 48)) (by omega) (by omega)
    have a6 : ((n : Nat) : Int) * 16 ≤ ((n : Nat) : Int) * 16 + ((m : Nat) - 48) := by omega
    have a7 : ((n : Nat) : Int) * 16 + ((m : Nat) - 48) ≤ mv := by have := HMV.out; omega
    have HE := Lib.hid (show ((n : Nat) : Int) * 16 + ((m : Nat) - 48) = ((numV 16 (s.data.toList.take (i + 1)) : Nat) : Int) from by rw [hM.out, hdv]; omega)
    clear hc1 HH hn hM hdv ha hz HCV HMV
    go_wp2_with fail
    exact ⟨⟨i + 1, by simp, rfl, by rw [← HE.out], by omega, hx⟩, by simp [intOf]; omega⟩
   ·have hdv : digD c = c.toNat - 87 := if_neg (by omega)
    generalize c.toNat = m at *
    have a1 : ¬ ((m : Nat) : Int) = 95 := by omega
    have a2 : (48 : Int) ≤ (m : Nat) := by omega
    have a3 : ¬ ((m : Nat) : Int) ≤ 57 := by omega
    have a5 : ((n : Nat) : Int) < cv := by have := HCV.out; omega
    have w1' := wrap_u64 (n := ((n : Nat) : Int) * 16) (by omega) (by omega)
    have w2' := wrap_u64 (n := ((n : Nat) : Int) * 16 + ((m : Nat) - 97 + 10)) (by omega) (by omega)
    have a6 : ((n : Nat) : Int) * 16 ≤ ((n : Nat) : Int) * 16 + ((m : Nat) - 97 + 10) := by omega
    have a7 : ((n : Nat) : Int) * 16 + ((m : Nat) - 97 + 10) ≤ mv := by have := HMV.out; omega
    have HE := Lib.hid (show ((n : Nat) : Int) * 16 + ((m : Nat) - 97 + 10) = ((numV 16 (s.data.toList.take (i + 1)) : Nat) : Int) from by rw [hM.out, hdv]; omega)
    have HB := Lib.hid (show 97 ≤ m ∧ m ≤ 102 from ⟨ha, hz⟩)
    have b1 : (97 : Int) ≤ (m : Nat) := by omega
    have b2 : ((m : Nat) : Int) ≤ 122 := by omega
    have b4 : ((m : Nat) : Int) - 97 + 10 < 16 := by omega
    clear hc1 HH hn hM hdv ha hz HCV HMV ht
    go_wp2_with (refine (c_lowerb _ _ HB.out.1 HB.out.2).mono ?_; rintro e w9 ⟨rfl, rfl⟩)
    exact ⟨⟨i + 1, by simp, rfl, by rw [← HE.out], by omega, hx⟩, by simp [intOf]; omega⟩
  ·have hd : decide (i < s.size) = false := decide_eq_false hlt
   have hie : i = s.data.toList.length := by simp; omega
   have HV := Lib.hid (show numV 16 (s.data.toList.take i) = numV 16 s.data.toList from by rw [hie, List.take_length])
   clear hie hc1
   go_wp2_with fail
   exact bodyPost_ret (v := .tuple #[.int .u64 (numV 16 (s.data.toList.take i) : Nat), .nilIface]) (by simp [results, Tryz.results132, go_sem]) rfl ⟨by rw [HV.out], Ext.trans hx1 hx⟩
set_option maxRecDepth 100000 in
set_option maxHeartbeats 4000000 in
theorem c_PU10 (s : ByteArray) (w : World) (hne : 0 < s.size) (hl : s.size ≤ 6) (hh : ∀ c ∈ s.data.toList, isDig 10 c) :
  Calls Tryz.prog 132 #[.string s, .int .i64 10, .int .i64 64] w fun e w' => e = .returned (.tuple #[.int .u64 (numV 10 s.data.toList : Nat), .nilIface]) ∧ Ext w w' := by
 have hem := emp_false hne
 have HH := Lib.hid hh
 have hcv := fun w => Lib.run_convert_string_bytes (P := Tryz.prog) w 9 34 5 s Tryz.underlying9 Tryz.underlying34 Tryz.underlying5
 clear hh
 go_enter Tryz.func132, Tryz.ntmps132
 go_wp2_with fail
 obtain ⟨hx1, hc1⟩ := bytes_of w 5 s
 generalize Lib.bytesWorld w 5 s = w1 at hx1 hc1 ⊢
 clear hcv hem
 obtain ⟨cv, hcv⟩ : ∃ cv : Int, (1844674407370955162 : Int) = cv := ⟨_, rfl⟩
 obtain ⟨mv, hmv⟩ : ∃ mv : Int, IntKind.u64.wrap (IntKind.u64.wrap 18446744073709551616 - 1) = mv := ⟨_, rfl⟩
 rw [hcv, hmv]
 have HCV := Lib.hid hcv
 have HMV := Lib.hid (show (18446744073709551615 : Int) = mv from (by decide : (18446744073709551615 : Int) = IntKind.u64.wrap (IntKind.u64.wrap 18446744073709551616 - 1)).trans hmv)
 clear hcv hmv
 go_loopw [12, 13, 101] (fun uv nv iv W => ∃ i : Nat, iv = .int .i64 (i : Nat) ∧ uv = .bool false ∧ nv = .int .u64 (numV 10 (s.data.toList.take i) : Nat) ∧ i ≤ s.size ∧ Ext w1 W) (fun _ _ iv _ => s.size + 1 - (intOf iv).toNat)
 case atStart => exact ⟨0, rfl, rfl, rfl, by omega, Ext.refl w1⟩
 case round =>
  obtain ⟨i, rfl, rfl, rfl, hi, hx⟩ := hrel
  by_cases hlt : i < s.size
  ·have hlt' : i < s.data.toList.length := by simpa using hlt
   have hd : decide (i < s.size) = true := decide_eq_true hlt
   have hI : ((i : Nat) : Int) < (s.size : Nat) := by omega
   have hcell := hx.cell (hc1 i hlt')
   have hc0 := HH.out _ (List.getElem_mem hlt')
   have hval : numV 10 (s.data.toList.take (i + 1)) = numV 10 (s.data.toList.take i) * 10 + digD s.data.toList[i] := by
    rw [List.take_add_one, List.getElem?_eq_getElem hlt']
    simp [numV, List.foldl_append]
   have hb := numV_big (b := 10) (by omega) (s.data.toList.take i) 5 (by rw [List.length_take]; omega) (by omega) (fun c hc => HH.out c (List.mem_of_mem_take hc))
   generalize s.data.toList[i] = c at hcell hc0 hval
   have hM := Lib.hid hval
   generalize numV 10 (s.data.toList.take i) = n at hb hM ⊢
   have hn : ((n : Nat) : Int) < 1048576 := by omega
   clear hval hb
   rcases hc0 with ⟨ha, hz⟩ | ⟨ht, ha, hz⟩
   ·have hdv : digD c = c.toNat - 48 := if_pos (by omega)
    generalize c.toNat = m at *
    have a1 : ¬ ((m : Nat) : Int) = 95 := by omega
    have a2 : (48 : Int) ≤ (m : Nat) := by omega
    have a3 : ((m : Nat) : Int) ≤ 57 := by omega
    have a4 : ((m : Nat) : Int) - 48 < 10 := by omega
    have a5 : ((n : Nat) : Int) < cv := by have := HCV.out; omega
    have w1' := wrap_u64 (n := ((n : Nat) : Int) * 10) (by omega) (by omega)
    have w2' := wrap_u64 (n := ((n : Nat) : Int) * 10 + ((m : Nat) - 48)) (by omega) (by omega)
    have a6 : ((n : Nat) : Int) * 10 ≤ ((n : Nat) : Int) * 10 + ((m : Nat) - 48) := by omega
    have a7 : ((n : Nat) : Int) * 10 + ((m : Nat) - 48) ≤ mv := by have := HMV.out; omega
    have HE := Lib.hid (show ((n : Nat) : Int) * 10 + ((m : Nat) - 48) = ((numV 10 (s.data.toList.take (i + 1)) : Nat) : Int) from by rw [hM.out, hdv]; omega)
    clear hc1 HH hn hM hdv ha hz HCV HMV
    go_wp2_with fail
    exact ⟨⟨i + 1, by simp, rfl, by rw [← HE.out], by omega, hx⟩, by simp [intOf]; omega⟩
   ·exact absurd ht (by decide)
  ·have hd : decide (i < s.size) = false := decide_eq_false hlt
   have hie : i = s.data.toList.length := by simp; omega
   have HV := Lib.hid (show numV 10 (s.data.toList.take i) = numV 10 s.data.toList from by rw [hie, List.take_length])
   clear hie hc1
   go_wp2_with fail
   exact bodyPost_ret (v := .tuple #[.int .u64 (numV 10 (s.data.toList.take i) : Nat), .nilIface]) (by simp [results, Tryz.results132, go_sem]) rfl ⟨by rw [HV.out], Ext.trans hx1 hx⟩
set_option maxRecDepth 100000 in
set_option maxHeartbeats 4000000 in
theorem c_iPI16 (s : ByteArray) (w : World) (hne : 0 < s.size) (hl : s.size ≤ 6) (hh : ∀ c ∈ s.data.toList, isDig 16 c) :
  Calls Tryz.prog 112 #[.string s, .int .i64 16, .int .i64 64] w fun e w' => e = .returned (.tuple #[.int .i64 (numV 16 s.data.toList : Nat), .nilIface]) ∧ Ext w w' := by
 have hem := emp_false hne
 have hlt' : 0 < s.data.toList.length := by simpa using hne
 have hc0 := hh _ (List.getElem_mem hlt')
 have hb := numV_big (b := 16) (by omega) s.data.toList 6 (by simpa using hl) (by omega) hh
 obtain ⟨z, hn⟩ : ∃ z : Int, ((numV 16 s.data.toList : Nat) : Int) = z := ⟨_, rfl⟩
 have hz1 : z < 2147483648 := by omega
 have hz0 : 0 ≤ z := by omega
 have HN := Lib.hid hn
 have HH := Lib.hid hh
 have hu : s[0] = s.data.toList[0] := rfl
 unfold isDig at hc0
 rw [← hu] at hc0
 have HC := Lib.hid (show (((s[0].toNat : Nat) : Int) == 43) = false ∧ (((s[0].toNat : Nat) : Int) == 45) = false from ⟨beq_false_of_ne (by omega), beq_false_of_ne (by omega)⟩)
 clear hb hn hh hc0 hu
 go_enter Tryz.func112, Tryz.ntmps112
 go_wp2_with fail
 ·have h : (((s[0].toNat : Nat) : Int) == 43) = true := by assumption
  exact absurd (h.symm.trans HC.out.1) (by decide)
 ·have h : (((s[0].toNat : Nat) : Int) == 45) = true := by assumption
  exact absurd (h.symm.trans HC.out.2) (by decide)
 refine (c_PU16 s _ hne hl HH.out).mono ?_
 rintro e w1 ⟨rfl, hx1⟩
 rw [HN.out]
 generalize ((s[0].toNat : Nat) : Int) = q at *
 clear hem hlt'
 go_wp2_with fail
 exact bodyPost_ret (v := .tuple #[.int .i64 z, .nilIface]) (by simp [results, Tryz.results112, go_sem]) rfl ⟨by rw [HN.out], hx1⟩
set_option maxRecDepth 100000 in
set_option maxHeartbeats 4000000 in
theorem c_iPI10 (s : ByteArray) (w : World) (hne : 0 < s.size) (hl : s.size ≤ 6) (hh : ∀ c ∈ s.data.toList, isDig 10 c) :
  Calls Tryz.prog 112 #[.string s, .int .i64 10, .int .i64 64] w fun e w' => e = .returned (.tuple #[.int .i64 (numV 10 s.data.toList : Nat), .nilIface]) ∧ Ext w w' := by
 have hem := emp_false hne
 have hlt' : 0 < s.data.toList.length := by simpa using hne
 have hc0 := hh _ (List.getElem_mem hlt')
 have hb := numV_big (b := 10) (by omega) s.data.toList 6 (by simpa using hl) (by omega) hh
 obtain ⟨z, hn⟩ : ∃ z : Int, ((numV 10 s.data.toList : Nat) : Int) = z := ⟨_, rfl⟩
 have hz1 : z < 2147483648 := by omega
 have hz0 : 0 ≤ z := by omega
 have HN := Lib.hid hn
 have HH := Lib.hid hh
 have hu : s[0] = s.data.toList[0] := rfl
 unfold isDig at hc0
 rw [← hu] at hc0
 have HC := Lib.hid (show (((s[0].toNat : Nat) : Int) == 43) = false ∧ (((s[0].toNat : Nat) : Int) == 45) = false from ⟨beq_false_of_ne (by omega), beq_false_of_ne (by omega)⟩)
 clear hb hn hh hc0 hu
 go_enter Tryz.func112, Tryz.ntmps112
 go_wp2_with fail
 ·have h : (((s[0].toNat : Nat) : Int) == 43) = true := by assumption
  exact absurd (h.symm.trans HC.out.1) (by decide)
 ·have h : (((s[0].toNat : Nat) : Int) == 45) = true := by assumption
  exact absurd (h.symm.trans HC.out.2) (by decide)
 refine (c_PU10 s _ hne hl HH.out).mono ?_
 rintro e w1 ⟨rfl, hx1⟩
 rw [HN.out]
 generalize ((s[0].toNat : Nat) : Int) = q at *
 clear hem hlt'
 go_wp2_with fail
 exact bodyPost_ret (v := .tuple #[.int .i64 z, .nilIface]) (by simp [results, Tryz.results112, go_sem]) rfl ⟨by rw [HN.out], hx1⟩
theorem c_PI16 (s : ByteArray) (w : World) (hne : 0 < s.size) (hl : s.size ≤ 6) (hh : ∀ c ∈ s.data.toList, isDig 16 c) :
  Calls Tryz.prog 84 #[.string s, .int .i64 16, .int .i64 64] w fun e w' => e = .returned (.tuple #[.int .i64 (numV 16 s.data.toList : Nat), .nilIface]) ∧ Ext w w' := by
 go_enter Tryz.func84, Tryz.ntmps84
 go_wp2_with fail
 refine (c_iPI16 s _ hne hl hh).mono ?_
 rintro e w1 ⟨rfl, hx1⟩
 go_wp2_with fail
 exact bodyPost_ret (v := .tuple #[.int .i64 (numV 16 s.data.toList : Nat), .nilIface]) (by simp [results, Tryz.results84, go_sem]) rfl ⟨rfl, hx1⟩
theorem c_PI10 (s : ByteArray) (w : World) (hne : 0 < s.size) (hl : s.size ≤ 6) (hh : ∀ c ∈ s.data.toList, isDig 10 c) :
  Calls Tryz.prog 84 #[.string s, .int .i64 10, .int .i64 64] w fun e w' => e = .returned (.tuple #[.int .i64 (numV 10 s.data.toList : Nat), .nilIface]) ∧ Ext w w' := by
 go_enter Tryz.func84, Tryz.ntmps84
 go_wp2_with fail
 refine (c_iPI10 s _ hne hl hh).mono ?_
 rintro e w1 ⟨rfl, hx1⟩
 go_wp2_with fail
 exact bodyPost_ret (v := .tuple #[.int .i64 (numV 10 s.data.toList : Nat), .nilIface]) (by simp [results, Tryz.results84, go_sem]) rfl ⟨rfl, hx1⟩
set_option maxRecDepth 100000 in
set_option maxHeartbeats 4000000 in
theorem c_num16 (s : ByteArray) (w : World) (hne : 0 < s.size) (hl : s.size ≤ 6) (hh : ∀ c ∈ s.data.toList, isDig 16 c) :
  Calls Tryz.prog 75 #[.string s, .int .i64 16] w fun e w' => e = .returned (.int .i64 (numV 16 s.data.toList : Nat)) ∧ Ext w w' := by
 have hb := numV_big (b := 16) (by omega) s.data.toList 6 (by simpa using hl) (by omega) hh
 obtain ⟨z, hn⟩ : ∃ z : Int, ((numV 16 s.data.toList : Nat) : Int) = z := ⟨_, rfl⟩
 have HN := Lib.hid hn
 clear hb hn
 go_enter Tryz.func75, Tryz.ntmps75
 go_wp2_with fail
 refine (c_PI16 s _ hne hl hh).mono ?_
 rintro e w1 ⟨rfl, hx1⟩
 rw [HN.out]
 go_wp2_with fail
 go_ret
 exact ⟨by rw [HN.out]; rfl, hx1⟩
set_option maxRecDepth 100000 in
set_option maxHeartbeats 4000000 in
theorem c_num10 (s : ByteArray) (w : World) (hne : 0 < s.size) (hl : s.size ≤ 6) (hh : ∀ c ∈ s.data.toList, isDig 10 c) :
  Calls Tryz.prog 75 #[.string s, .int .i64 10] w fun e w' => e = .returned (.int .i64 (numV 10 s.data.toList : Nat)) ∧ Ext w w' := by
 have hb := numV_big (b := 10) (by omega) s.data.toList 6 (by simpa using hl) (by omega) hh
 obtain ⟨z, hn⟩ : ∃ z : Int, ((numV 10 s.data.toList : Nat) : Int) = z := ⟨_, rfl⟩
 have HN := Lib.hid hn
 clear hb hn
 go_enter Tryz.func75, Tryz.ntmps75
 go_wp2_with fail
 refine (c_PI10 s _ hne hl hh).mono ?_
 rintro e w1 ⟨rfl, hx1⟩
 rw [HN.out]
 go_wp2_with fail
 go_ret
 exact ⟨by rw [HN.out]; rfl, hx1⟩
end Go.Proofs.YtokeamebcdhnpaaGreatDoor
