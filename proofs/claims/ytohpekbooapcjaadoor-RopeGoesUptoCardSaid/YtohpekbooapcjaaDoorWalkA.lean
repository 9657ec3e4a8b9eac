/-
  The walks over the runes of a text: how many there are, how many units.
-/
import Derived.Test.YtohpekbooapcjaaDoorTree
import Derived.Laws.RangeAny
namespace Go.Proofs.YtohpekbooapcjaaDoor
open Go.RowKit Go.Rp

theorem dec_wid (s : ByteArray) (i : Nat) : (Utf8.decode s i).2 = wid (s.data.toList.drop i) := by rw [dec_at]; rfl
theorem dec_run (s : ByteArray) (i : Nat) : (Utf8.decode s i).1 = run (s.data.toList.drop i) := by rw [dec_at]; rfl
theorem drop_ne (s : ByteArray) (i : Nat) (h : i < s.size) : s.data.toList.drop i ≠ [] := by
  intro e
  have := congrArg List.length e
  simp at this
  change s.size - i = 0 at this
  omega
theorem len_eq (s : ByteArray) : s.data.toList.length = s.size := by simp
/-- Where the sums stand while a text is gone through. -/
def upEx (s : ByteArray) (k : Nat) : Nat := S ex (s.data.toList.drop k)
def upFour (s : ByteArray) (k : Nat) : Nat := S four (s.data.toList.drop k)
def widAt (s : ByteArray) (k : Nat) : Nat := (Utf8.decode s k).2
theorem upEx_step (s : ByteArray) (k : Nat) (h : k < s.size) : upEx s k + 1 = widAt s k + upEx s (k + widAt s k) := by
  unfold upEx widAt
  rw [S_skip ex rfl _ (drop_ne s k h), dec_wid, List.drop_drop]
  have := wid_pos (s.data.toList.drop k)
  unfold ex at *
  omega
theorem upFour_step (s : ByteArray) (k : Nat) (h : k < s.size) : upFour s k = (if 65535 < (Utf8.decode s k).1 then 1 else 0) + upFour s (k + widAt s k) := by
  unfold upFour widAt
  rw [S_skip four rfl _ (drop_ne s k h), dec_wid, List.drop_drop, dec_run]
  congr 1
  unfold four
  simp only [run_four]
theorem widAt_pos (s : ByteArray) (k : Nat) : 1 ≤ widAt s k := by unfold widAt; rw [dec_wid]; exact wid_pos _
theorem widAt_le (s : ByteArray) (k : Nat) (h : k < s.size) : k + widAt s k ≤ s.size := by
  unfold widAt; rw [dec_wid]
  have := wid_le _ (drop_ne s k h)
  simp only [List.length_drop, len_eq] at this
  omega
theorem upEx_zero (s : ByteArray) : nRunes s + upEx s 0 = s.size := by
  unfold nRunes upEx runes
  have := S_ex s.data.toList
  rw [len_eq] at *
  simp
  omega
theorem upEx_end (s : ByteArray) (k : Nat) (h : s.size ≤ k) : upEx s k = 0 := by
  unfold upEx
  rw [List.drop_of_length_le (by rw [len_eq]; omega)]
  rfl
theorem upFour_end (s : ByteArray) (k : Nat) (h : s.size ≤ k) : upFour s k = 0 := by
  unfold upFour
  rw [List.drop_of_length_le (by rw [len_eq]; omega)]
  rfl
theorem upFour_zero (s : ByteArray) : nUnits s = nRunes s + upFour s 0 := by
  unfold nUnits nRunes units upFour
  simp
theorem upFour_le (s : ByteArray) (k : Nat) : upFour s k ≤ s.size := by
  unfold upFour
  have := S_four_le (s.data.toList.drop k)
  simp only [List.length_drop, len_eq] at this
  omega

set_option maxHeartbeats 400000 in
theorem c_RuneCount (s : ByteArray) (w : World) (hs : s.size ≤ 1099511627776) :
    Calls Tryd.prog 69 #[.string s] w fun e w' => e = .returned (.int .i64 (nRunes s : Nat)) ∧ Ext w w' := by
  go_enter Tryd.func69, Tryd.ntmps69
  go_wp2
  go_loopw [2] (fun n w' => ∃ (pos acc : Nat), w' = w.iter s pos ∧ n = .int .i64 acc ∧ pos ≤ s.size ∧ acc ≤ pos ∧ acc + upEx s 0 = pos + upEx s pos) (fun _ w' => s.size - w'.iterPos w.heap.size)
  case atStart => exact ⟨0, 0, rfl, rfl, by omega, by omega, by omega⟩
  case round =>
    obtain ⟨pos, acc, rfl, rfl, h1, h2, h3⟩ := hrel
    by_cases hp : pos < s.size
    · have hnx : ∀ ty, (Instr.next (.pointer (some ⟨w.heap.size, 0, none⟩)) true ty).run Tryd.prog (w.iter s pos) = _ := fun ty => run_next_any w s pos ty hp
      have H1 := upEx_step s pos hp
      have H2 := widAt_pos s pos
      have H3 := widAt_le s pos hp
      go_wp2
      go_roundw
      case rel => exact ⟨pos + widAt s pos, acc + 1, rfl, by go_num, by omega, by omega, by omega⟩
      case measure =>
        simp
        unfold widAt at *
        omega
    · have hnx : ∀ ty, (Instr.next (.pointer (some ⟨w.heap.size, 0, none⟩)) true ty).run Tryd.prog (w.iter s pos) = _ := fun ty => run_next_end w s pos ty hp
      go_wp2
      go_ret
      have H1 := upEx_zero s
      have H2 := upEx_end s pos (by omega)
      have H3 : acc = nRunes s := by omega
      subst H3
      exact ⟨rfl, (Ext.refl w).iter s pos⟩

set_option maxHeartbeats 400000 in
theorem c_Count (s : ByteArray) (w : World) (hs : s.size ≤ 1099511627776) :
    Calls Tryd.prog 67 #[.string s] w fun e w' => e = .returned (.int .i64 (nRunes s : Nat)) ∧ Ext w w' := by
  go_enter Tryd.func67, Tryd.ntmps67
  go_wp2_with (go_at_call 69; refine (c_RuneCount s _ hs).mono ?_; rintro e w1 ⟨rfl, hx⟩)
  go_ret
  exact ⟨rfl, hx⟩

set_option maxHeartbeats 400000 in
theorem c_Units (s : ByteArray) (w : World) (hs : s.size ≤ 1099511627776) :
    Calls Tryd.prog 68 #[.string s] w fun e w' => e = .returned (.int .i64 (nUnits s : Nat)) ∧ Ext w w' := by
  go_enter Tryd.func68, Tryd.ntmps68
  go_wp2
  go_loopw [3, 5] (fun n _ w' => ∃ (pos acc : Nat), w' = w.iter s pos ∧ n = .int .i64 acc ∧ pos ≤ s.size ∧ acc ≤ 2 * pos ∧ acc + upEx s 0 + upFour s pos = pos + upEx s pos + upFour s 0) (fun _ _ w' => s.size - w'.iterPos w.heap.size)
  case atStart => exact ⟨0, 0, rfl, rfl, by omega, by omega, by omega⟩
  case round =>
    obtain ⟨pos, acc, rfl, rfl, h1, h2, h3⟩ := hrel
    by_cases hp : pos < s.size
    · have hnx : ∀ ty, (Instr.next (.pointer (some ⟨w.heap.size, 0, none⟩)) true ty).run Tryd.prog (w.iter s pos) = _ := fun ty => run_next_any w s pos ty hp
      have H1 := upEx_step s pos hp
      have H2 := widAt_pos s pos
      have H3 := widAt_le s pos hp
      have H4 := upFour_step s pos hp
      by_cases hf : 65535 < (Utf8.decode s pos).1
      · rw [if_pos hf] at H4
        go_wp2
        go_roundw
        case rel => exact ⟨pos + widAt s pos, acc + 2, rfl, by go_num, by omega, by omega, by omega⟩
        case measure =>
          simp
          unfold widAt at *
          omega
      · rw [if_neg hf] at H4
        go_wp2
        go_roundw
        case rel => exact ⟨pos + widAt s pos, acc + 1, rfl, by go_num, by omega, by omega, by omega⟩
        case measure =>
          simp
          unfold widAt at *
          omega
    · have hnx : ∀ ty, (Instr.next (.pointer (some ⟨w.heap.size, 0, none⟩)) true ty).run Tryd.prog (w.iter s pos) = _ := fun ty => run_next_end w s pos ty hp
      go_wp2
      go_ret
      have H1 := upEx_zero s
      have H2 := upEx_end s pos (by omega)
      have H4 := upFour_end s pos (by omega)
      have H5 := upFour_zero s
      have H3 : acc = nUnits s := by omega
      subst H3
      exact ⟨rfl, (Ext.refl w).iter s pos⟩
end Go.Proofs.YtohpekbooapcjaaDoor
