/-
  The document's answers for ropes that need no list of runes.
-/
import Derived.Test.YtohpekbooapcjaaDoorWalkP
namespace Go.Proofs.YtohpekbooapcjaaDoor
open Go.RowKit Go.Rp

def bitsN (n : Nat) : Nat := if n = 0 then 0 else n.log2 + 1
theorem bitsN_step (n : Nat) (h : 0 < n) : bitsN n = bitsN (n / 2) + 1 := by
  unfold bitsN
  rw [if_neg (by omega), Nat.log2_def]
  by_cases h2 : 2 ≤ n
  · rw [if_pos h2, if_neg (by omega)]
  · rw [if_neg h2, if_pos (by omega)]
theorem bitsN_lt (n : Nat) : n < 2 ^ bitsN n := by
  unfold bitsN
  by_cases h : n = 0
  · subst h; simp
  · rw [if_neg h]; exact Nat.lt_log2_self
set_option maxHeartbeats 400000 in
theorem c_Bits (n : Nat) (w : World) (hn : n ≤ 1099511627776) : Calls Tryd.prog 40 #[.int .i64 (n : Nat)] w fun e w' => e = .returned (.int .i64 (bitsN n : Nat)) ∧ w' = w := by
  have hb : bitsN n ≤ 63 := by
    apply Decidable.byContradiction
    intro h
    have h1 : n ≠ 0 := fun e => by subst e; simp [bitsN] at h
    have h2 : 2 ^ n.log2 ≤ n := Nat.log2_self_le h1
    have h3 : 2 ^ 63 ≤ 2 ^ n.log2 := Nat.pow_le_pow_right (by omega) (by unfold bitsN at h; rw [if_neg h1] at h; omega)
    have h4 : (2 : Nat) ^ 63 = 9223372036854775808 := by decide
    omega
  go_enter Tryd.func40, Tryd.ntmps40
  go_wp2_with fail
  go_loop [0, 3] (fun x y => ∃ a k : Nat, x = .int .i64 a ∧ y = .int .i64 k ∧ a ≤ n ∧ Hid (bitsN a + k = bitsN n)) (fun x _ => (intOf x).toNat)
  case atStart => exact ⟨n, 0, rfl, rfl, Nat.le_refl _, by unfold Hid; omega⟩
  case round =>
    obtain ⟨a, k, rfl, rfl, h1, h2⟩ := hrel
    by_cases h0 : 0 < a
    · have hs := bitsN_step a h0
      have H2 : Hid (bitsN (a / 2) + (k + 1) = bitsN n) := by have := h2.out; unfold Hid; omega
      have hk : k ≤ 63 := by have := h2.out; omega
      clear hs h2
      go_wp2_with fail
      go_round
      case rel => exact ⟨a / 2, k + 1, by go_num, by go_num, by omega, H2⟩
      case measure => simp [intOf]; omega
    · obtain rfl : a = 0 := by omega
      have e : k = bitsN n := by have := h2.out; unfold bitsN at this; simpa [bitsN] using this
      have E := Lib.hid e
      clear e
      go_wp2_with fail
      exact ret_one rfl rfl rfl ⟨by show Ending.returned (.int .i64 ((k : Nat) : Int)) = _; rw [E.out], rfl⟩
/-- A rope that is balanced is flat. -/
theorem flat_bits {w : World} {v : Value} {t : T} (hn : IsNode w v t) : t.deep ≤ 2 * bitsN t.text.size + 2 := by
  have h := hn.flat.2
  have hb := bitsN_lt t.text.size
  apply Decidable.byContradiction
  intro hc
  have h1 : 2 ^ (bitsN t.text.size + 1) ≤ 2 ^ (t.deep / 2) := Nat.pow_le_pow_right (by omega) (by omega)
  rw [Nat.pow_succ] at h1
  omega

theorem c_num (n : Int) (w : World) : Calls Tryd.prog 23 #[.int .i64 n] w fun e w' => e = .returned (.int .i64 n) ∧ w' = w := by
  go_enter Tryd.func23, Tryd.ntmps23
  go_wp2_with fail
  exact ret_one rfl rfl rfl ⟨rfl, rfl⟩

set_option maxHeartbeats 400000 in
theorem c_refRunes (s : ByteArray) (w : World) (hs : s.size ≤ 1099511627776) :
    Calls Tryd.prog 35 #[.string s] w fun e w' => e = .returned (.int .i64 (nRunes s : Nat)) ∧ Ext w w' := by
  go_enter Tryd.func35, Tryd.ntmps35
  go_wp2
  go_loopw [3] (fun n w' => ∃ (pos acc : Nat), w' = w.iter s pos ∧ n = .int .i64 acc ∧ pos ≤ s.size ∧ acc ≤ pos ∧ acc + upEx s 0 = pos + upEx s pos) (fun _ w' => s.size - w'.iterPos w.heap.size)
  case atStart => exact ⟨0, 0, rfl, rfl, by omega, by omega, by omega⟩
  case round =>
    obtain ⟨pos, acc, rfl, rfl, h1, h2, h3⟩ := hrel
    by_cases hp : pos < s.size
    · have hnx : ∀ ty, (Instr.next (.pointer (some ⟨w.heap.size, 0, none⟩)) true ty).run Tryd.prog (w.iter s pos) = _ := fun ty => run_next_any w s pos ty hp
      have H1 := upEx_step s pos hp
      have H2 := widAt_pos s pos
      have H3 := widAt_le s pos hp
      go_wp2
      go_roundw
      case rel => exact ⟨pos + widAt s pos, acc + 1, rfl, by go_num, by omega, by omega, by omega⟩
      case measure =>
        simp
        unfold widAt at *
        omega
    · have hnx : ∀ ty, (Instr.next (.pointer (some ⟨w.heap.size, 0, none⟩)) true ty).run Tryd.prog (w.iter s pos) = _ := fun ty => run_next_end w s pos ty hp
      go_wp2
      go_ret
      have H1 := upEx_zero s
      have H2 := upEx_end s pos (by omega)
      have H3 : acc = nRunes s := by omega
      subst H3
      exact ⟨rfl, (Ext.refl w).iter s pos⟩

set_option maxHeartbeats 400000 in
theorem c_refBreaks (s : ByteArray) (w : World) (hs : s.size ≤ 1099511627776) :
    Calls Tryd.prog 38 #[.string s] w fun e w' => e = .returned (.int .i64 (nBreaks s : Nat)) ∧ w' = w := by
  go_enter Tryd.func38, Tryd.ntmps38
  go_wp2_with fail
  go_loop [3, 4] (fun n i => ∃ k : Nat, i = .int .i64 k ∧ k ≤ s.size ∧ n = .int .i64 (brkN s k : Nat)) (fun _ i => s.size - (intOf i).toNat)
  case atStart => exact ⟨0, rfl, by omega, rfl⟩
  case round =>
    obtain ⟨k, rfl, h1, rfl⟩ := hrel
    by_cases hk : k < s.size
    · have h2 := brkN_step s k hk
      have h3 := brkN_le s k
      by_cases h10 : (s[k].toNat : Int) = 10
      · rw [if_pos h10] at h2
        have H2 := Lib.hid h2
        clear h2
        go_wp2
        go_round
        case rel => exact ⟨k + 1, by go_num, by omega, by rw [H2.out]; go_num⟩
        case measure => simp [intOf]; omega
      · rw [if_neg h10] at h2
        have H2 := Lib.hid h2
        clear h2
        go_wp2
        go_round
        case rel => exact ⟨k + 1, by go_num, by omega, by rw [H2.out]; go_num⟩
        case measure => simp [intOf]; omega
    · have he := brkN_end s k (by omega)
      have HE := Lib.hid he
      clear he
      go_wp2
      exact ret_one rfl rfl rfl ⟨by show Ending.returned (.int .i64 ((brkN s k : Nat) : Int)) = _; rw [HE.out], rfl⟩

end Go.Proofs.YtohpekbooapcjaaDoor
