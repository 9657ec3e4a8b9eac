/-
  Does a rope tell what its text says: the walk of tells.
-/
import Derived.Test.YtohpekbooapcjaaDoorLive
namespace Go.Proofs.YtohpekbooapcjaaDoor
open Go.RowKit Go.Rp

set_option maxHeartbeats 400000 in
theorem c_refUnits (s : ByteArray) (w : World) (hs : s.size ≤ 1099511627776) :
    Calls Tryd.prog 37 #[.string s] w fun e w' => e = .returned (.int .i64 (nUnits s : Nat)) ∧ Ext w w' := by
  go_enter Tryd.func37, Tryd.ntmps37
  go_wp2
  go_loopw [3, 5] (fun n _ w' => ∃ (pos acc : Nat), w' = w.iter s pos ∧ n = .int .i64 acc ∧ pos ≤ s.size ∧ acc ≤ 2 * pos ∧ acc + upEx s 0 + upFour s pos = pos + upEx s pos + upFour s 0) (fun _ _ w' => s.size - w'.iterPos w.heap.size)
  case atStart => exact ⟨0, 0, rfl, rfl, by omega, by omega, by omega⟩
  case round =>
    obtain ⟨pos, acc, rfl, rfl, h1, h2, h3⟩ := hrel
    by_cases hp : pos < s.size
    · have hnx : ∀ ty, (Instr.next (.pointer (some ⟨w.heap.size, 0, none⟩)) true ty).run Tryd.prog (w.iter s pos) = _ := fun ty => run_next_any w s pos ty hp
      have H1 := upEx_step s pos hp
      have H2 := widAt_pos s pos
      have H3 := widAt_le s pos hp
      have H4 := upFour_step s pos hp
      by_cases hf : 65535 < (Utf8.decode s pos).1
      · rw [if_pos hf] at H4
        go_wp2
        go_roundw
        case rel => exact ⟨pos + widAt s pos, acc + 2, rfl, by go_num, by omega, by omega, by omega⟩
        case measure =>
          simp
          unfold widAt at *
          omega
      · rw [if_neg hf] at H4
        go_wp2
        go_roundw
        case rel => exact ⟨pos + widAt s pos, acc + 1, rfl, by go_num, by omega, by omega, by omega⟩
        case measure =>
          simp
          unfold widAt at *
          omega
    · have hnx : ∀ ty, (Instr.next (.pointer (some ⟨w.heap.size, 0, none⟩)) true ty).run Tryd.prog (w.iter s pos) = _ := fun ty => run_next_end w s pos ty hp
      go_wp2
      go_ret
      have H1 := upEx_zero s
      have H2 := upEx_end s pos (by omega)
      have H4 := upFour_end s pos (by omega)
      have H5 := upFour_zero s
      have H3 : acc = nUnits s := by omega
      subst H3
      exact ⟨rfl, (Ext.refl w).iter s pos⟩

theorem flat_rope {w : World} {v : Value} {o : Option T} (h : IsRope w v o) : dp o ≤ 2 * bitsN (txt o).size + 2 := by
  have key : ∀ (v : Value) (o : Option T), IsTree w v o → dp o ≤ 2 * bitsN (txt o).size + 2 := by
    intro v o hn
    cases o with
    | none => simp [dp]
    | some t => exact flat_bits hn
  cases h with
  | nil => simp [dp]
  | mk b n o hn hc => exact key n o hn
theorem bitsN_le63 (n : Nat) (hn : n ≤ 1099511627776) : bitsN n ≤ 63 := by
  apply Decidable.byContradiction
  intro h
  have h1 : n ≠ 0 := fun e => by subst e; simp [bitsN] at h
  have h2 : 2 ^ n.log2 ≤ n := Nat.log2_self_le h1
  have h3 : 2 ^ 63 ≤ 2 ^ n.log2 := Nat.pow_le_pow_right (by omega) (by unfold bitsN at h; rw [if_neg h1] at h; omega)
  have h4 : (2 : Nat) ^ 63 = 9223372036854775808 := by decide
  omega

set_option maxRecDepth 100000 in
set_option maxHeartbeats 2000000 in
theorem c_tells (v : Value) (o : Option T) (s : ByteArray) (w : World) (h : IsRope w v o) (he : txt o = s) (hs : s.size ≤ 1048576) :
    Calls Tryd.prog 20 #[v, .string s] w fun e w' => e = .returned (.bool true) ∧ Ext w w' := by
  have hX := Ext.refl w
  have hf := flat_rope h
  have hb := bitsN_le63 s.size (by omega)
  have hz : (txt o).size = s.size := by rw [he]
  rw [hz] at hf
  have E := Lib.hid he
  clear he
  go_enter Tryd.func20, Tryd.ntmps20
  go_wp2_with fail
  refine (c_String v o _ h (by omega)).mono ?_
  rintro e u1 ⟨rfl, hx⟩
  replace hX := hX.trans hx
  replace h := h.mono hx
  clear hx
  rw [E.out]
  go_wp2_with fail
  refine (c_Len v o _ h (by omega)).mono ?_
  rintro e u2 ⟨rfl, hx⟩
  replace hX := hX.trans hx
  replace h := h.mono hx
  clear hx
  rw [E.out]
  go_wp2_with fail
  refine (c_Runes v o _ h (by omega)).mono ?_
  rintro e u3 ⟨rfl, hx⟩
  replace hX := hX.trans hx
  replace h := h.mono hx
  clear hx
  rw [E.out]
  go_wp2_with fail
  refine (c_refRunes s _ (by omega)).mono ?_
  rintro e u4 ⟨rfl, hx⟩
  replace hX := hX.trans hx
  replace h := h.mono hx
  clear hx
  go_wp2_with fail
  refine (c_RUnits v o _ h (by omega)).mono ?_
  rintro e u5 ⟨rfl, hx⟩
  replace hX := hX.trans hx
  replace h := h.mono hx
  clear hx
  rw [E.out]
  go_wp2_with fail
  refine (c_refUnits s _ (by omega)).mono ?_
  rintro e u6 ⟨rfl, hx⟩
  replace hX := hX.trans hx
  replace h := h.mono hx
  clear hx
  go_wp2_with fail
  refine (c_Breaks v o _ h (by omega)).mono ?_
  rintro e u7 ⟨rfl, hx⟩
  replace hX := hX.trans hx
  replace h := h.mono hx
  clear hx
  rw [E.out]
  go_wp2_with fail
  refine (c_refBreaks s _ (by omega)).mono ?_
  rintro e u8 ⟨rfl, rfl⟩
  go_wp2_with fail
  refine (c_Depth v o _ h).mono ?_
  rintro e u9 ⟨rfl, hx⟩
  replace hX := hX.trans hx
  clear hx
  go_wp2_with fail
  refine (c_Bits s.size _ (by omega)).mono ?_
  rintro e u10 ⟨rfl, rfl⟩
  go_wp2_with fail
  have hd : decide ((dp o : Int) ≤ 2 * (bitsN s.size : Nat) + 2) = true := decide_eq_true (by omega)
  refine ret_one rfl rfl rfl ⟨?_, hX⟩
  rw [← hd]
  rfl

end Go.Proofs.YtohpekbooapcjaaDoor
