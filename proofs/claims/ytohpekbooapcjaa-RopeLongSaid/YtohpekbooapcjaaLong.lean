/-
  Ropes as long as may be: the walk of RopeLong.
-/
import Derived.Test.YtohpekbooapcjaaTells
namespace Go.Proofs.Ytohpekbooapcjaa
open Go.RowKit Go.Rp

/-- A text that is another one again and again. -/
def Again (s t : ByteArray) : Prop := (∃ m, t.size = s.size * m) ∧ ∀ j, j < t.size → bytN t j = bytN s (j % s.size)
theorem again_refl (s : ByteArray) : Again s s := ⟨⟨1, by omega⟩, fun j hj => by rw [Nat.mod_eq_of_lt hj]⟩
theorem again_twice {s t : ByteArray} (h : Again s t) : Again s (t ++ t) := by
  obtain ⟨⟨m, hm⟩, h2⟩ := h
  refine ⟨⟨m + m, by rw [ByteArray.size_append, hm, Nat.mul_add]⟩, fun j hj => ?_⟩
  rw [ByteArray.size_append] at hj
  by_cases hlt : j < t.size
  · rw [bytN_left _ _ _ hlt]
    exact h2 j hlt
  · rw [bytN_right _ _ _ (by omega), h2 _ (by omega)]
    congr 1
    rw [show j % s.size = (j - t.size + s.size * m) % s.size from by congr 1; omega, Nat.add_mul_mod_self_left]

set_option maxRecDepth 100000 in
set_option maxHeartbeats 8000000 in
theorem c_Long (s : ByteArray) (n : Int) (w : World) (hs : s.size ≤ 1099511627776000) :
    Calls Try.prog 5 #[.string s, .int .i64 n] w fun e w' => e = .returned (.bool true) ∧ Ext w w' := by
  have hX := Ext.refl w
  by_cases hw : 64 < s.size ∨ n < 0 ∨ 20 < n
  · by_cases h1 : 64 < s.size
    · clear hw
      go_enter Try.func5, Try.ntmps5
      go_wp2_with fail
      refine (c_live _).mono ?_
      rintro e u1 ⟨rfl, hx⟩
      replace hX := hX.trans hx
      clear hx
      go_wp2_with fail
      exact ret_one rfl rfl rfl ⟨rfl, hX⟩
    by_cases h2 : n < 0
    · clear hw
      go_enter Try.func5, Try.ntmps5
      go_wp2_with fail
      refine (c_live _).mono ?_
      rintro e u2 ⟨rfl, hx⟩
      replace hX := hX.trans hx
      clear hx
      go_wp2_with fail
      exact ret_one rfl rfl rfl ⟨rfl, hX⟩
    · have h3 : 20 < n := by omega
      clear hw
      go_enter Try.func5, Try.ntmps5
      go_wp2_with fail
      refine (c_live _).mono ?_
      rintro e u3 ⟨rfl, hx⟩
      replace hX := hX.trans hx
      clear hx
      go_wp2_with fail
      exact ret_one rfl rfl rfl ⟨rfl, hX⟩
  have h1 : s.size ≤ 64 := by omega
  have h2 : 0 ≤ n := by omega
  have h3 : n ≤ 20 := by omega
  clear hw
  go_enter Try.func5, Try.ntmps5
  go_wp2_with fail
  refine (c_New s _ (by omega)).mono ?_
  rintro e u4 ⟨va, oa, rfl, hA, ea, hx⟩
  replace hX := hX.trans hx
  clear hx
  go_wp2_with fail
  refine (c_num 0 _).mono ?_
  rintro e u5 ⟨rfl, rfl⟩
  go_wp2_with fail
  have hag : Again s (txt oa) := by rw [ea]; exact again_refl s
  have hsz : s.size = (txt oa).size := by rw [ea]
  go_loopw [5, 7, 8] (fun v z i w' => ∃ (k : Nat) (o : Option T), i = .int .i64 (k : Nat) ∧ (k : Int) ≤ n ∧ IsRope w' v o ∧ z = .int .i64 ((txt o).size : Nat) ∧ (txt o).size ≤ 1048576 ∧ Again s (txt o) ∧ Ext w w') (fun _ _ i _ => n.toNat - (intOf i).toNat)
  case atStart => exact ⟨0, oa, rfl, h2, hA, by rw [hsz], by omega, hag, hX⟩
  case round =>
    clear hA hX hag hsz ea
    obtain ⟨k, o, rfl, hk, hA, rfl, hz, hag, hX⟩ := hrel
    by_cases hlt : (k : Int) < n
    · by_cases hbig : 1048576 < (txt o).size + (txt o).size
      · go_wp2_with fail
        refine (c_Join_long _ _ o o _ hA hA hz hz hbig).mono ?_
        rintro e u6 ⟨rfl, hx⟩
        replace hX := hX.trans hx
        replace hA := hA.mono hx
        clear hx
        go_wp2_with fail
        refine (c_num 1 _).mono ?_
        rintro e u7 ⟨rfl, rfl⟩
        go_wp2_with fail
        have hsl := Lib.hid (show ((txt o).size : Int) / 3 = (((txt o).size / 3 : Nat) : Int) by omega)
        have hsr := Lib.hid (show ((txt o).size : Int) - (((txt o).size / 3 : Nat) : Int) = (((txt o).size - (txt o).size / 3 : Nat) : Int) by omega)
        rw [hsl.out, hsr.out]
        refine (c_Slice _ o ((txt o).size / 3) ((txt o).size - (txt o).size / 3) _ hA hz (by omega) (by omega)).mono ?_
        rintro e u8 ⟨vp, op, rfl, hP, ep, hx⟩
        replace hX := hX.trans hx
        replace hA := hA.mono hx
        clear hx
        have EP := Lib.hid (show ((txt op).size : Int) = ((txt o).size : Int) - 2 * (((txt o).size : Int) / 3) by rw [ep, ByteArray.size_extract]; omega)
        have zp : (txt op).size ≤ 1048576 := by rw [ep, ByteArray.size_extract]; omega
        clear ep
        go_wp2_with fail
        refine (c_num 0 _).mono ?_
        rintro e u9 ⟨rfl, rfl⟩
        go_wp2_with fail
        refine (c_Len vp op _ hP (by omega)).mono ?_
        rintro e u10 ⟨rfl, hx⟩
        replace hX := hX.trans hx
        replace hA := hA.mono hx
        clear hx
        rw [EP.out]
        go_wp2_with fail
        go_loopw [13] (fun i w' => ∃ q : Nat, i = .int .i64 (q : Nat) ∧ q ≤ 9 ∧ IsRope w' u5 o ∧ Ext w w') (fun i _ => 10 - (intOf i).toNat)
        case atStart => exact ⟨0, rfl, by omega, hA, hX⟩
        case round =>
          clear hA hX hP EP zp hsl hsr
          obtain ⟨q, rfl, hq9, hA, hX⟩ := hrel
          by_cases hin : q < s.size
          · by_cases h9 : q < 9
            · by_cases hat : (0 : Int) ≤ ((txt o).size : Int) - 1 - 7 * (q : Nat)
              · obtain ⟨p, hp⟩ : ∃ p : Nat, ((txt o).size : Int) - 1 - 7 * (q : Nat) = (p : Nat) := ⟨(((txt o).size : Int) - 1 - 7 * (q : Nat)).toNat, by omega⟩
                have hpz : p < (txt o).size := by omega
                have hpm : p % s.size < s.size := Nat.mod_lt _ (by omega)
                have hby := hag.2 p hpz
                have hbe := bytN_eq s (p % s.size) hpm
                have HB := Lib.hid hby
                clear hby hat
                go_wp2_with fail
                refine (c_Byte _ o p _ hA hz hpz).mono ?_
                rintro e u11 ⟨rfl, hx⟩
                replace hX := hX.trans hx
                replace hA := hA.mono hx
                clear hx
                rw [HB.out]
                go_wp2_with fail
                go_roundw
                case rel => exact ⟨q + 1, by go_num, by omega, hA, hX⟩
                case measure => simp [intOf]; omega
              · have hneg : ((txt o).size : Int) - 1 - 7 * (q : Nat) < 0 := by omega
                clear hat
                try (exfalso; omega)
                all_goals
                  go_wp2_with fail
                  refine (c_Byte_no _ o (((txt o).size : Int) - 1 - 7 * (q : Nat)) _ hA hz (by omega)).mono ?_
                  rintro e u12 ⟨rfl, hx⟩
                  replace hX := hX.trans hx
                  replace hA := hA.mono hx
                  clear hx
                  go_wp2_with fail
                  go_roundw
                  case rel => exact ⟨q + 1, by go_num, by omega, hA, hX⟩
                  case measure => simp [intOf]; omega
            · go_wp2_with fail
              refine (c_live _).mono ?_
              rintro e u13 ⟨rfl, hx⟩
              replace hX := hX.trans hx
              clear hx
              go_wp2_with fail
              exact ret_one rfl rfl rfl ⟨rfl, hX⟩
          · go_wp2_with fail
            refine (c_live _).mono ?_
            rintro e u14 ⟨rfl, hx⟩
            replace hX := hX.trans hx
            clear hx
            go_wp2_with fail
            exact ret_one rfl rfl rfl ⟨rfl, hX⟩
      · have hz2 : (txt o).size + (txt o).size ≤ 1048576 := by omega
        go_wp2_with fail
        refine (c_Join _ _ o o _ hA hA hz hz hz2).mono ?_
        rintro e u15 ⟨v2, o2, rfl, hA2, e2, hx⟩
        replace hX := hX.trans hx
        clear hx
        have hag2 : Again s (txt o2) := by rw [e2]; exact again_twice hag
        have z2 : (txt o2).size ≤ 2 * (txt o).size ∧ 2 * (txt o).size ≤ (txt o2).size := by rw [e2, ByteArray.size_append]; omega
        have hf := flat_rope hA2
        have hb := bitsN_le63 (txt o2).size (by omega)
        clear e2 hA hag
        go_wp2_with fail
        refine (c_num 0 _).mono ?_
        rintro e u16 ⟨rfl, rfl⟩
        go_wp2_with fail
        refine (c_Len v2 o2 _ hA2 (by omega)).mono ?_
        rintro e u17 ⟨rfl, hx⟩
        replace hX := hX.trans hx
        replace hA2 := hA2.mono hx
        clear hx
        have E2 := Lib.hid (show (2 : Int) * ((txt o).size : Nat) = ((txt o2).size : Nat) by omega)
        rw [E2.out]
        go_wp2_with fail
        refine (c_Depth v2 o2 _ hA2).mono ?_
        rintro e u18 ⟨rfl, hx⟩
        replace hX := hX.trans hx
        replace hA2 := hA2.mono hx
        clear hx
        go_wp2_with fail
        refine (c_Bits (txt o2).size _ (by omega)).mono ?_
        rintro e u19 ⟨rfl, rfl⟩
        go_wp2_with fail
        go_roundw
        case rel => exact ⟨k + 1, o2, by go_num, by omega, hA2, rfl, by omega, hag2, hX⟩
        case measure => simp [intOf]; omega
    · go_wp2_with fail
      go_wp2_with fail
      have hsl := Lib.hid (show ((txt o).size : Int) / 3 = (((txt o).size / 3 : Nat) : Int) by omega)
      have hsr := Lib.hid (show ((txt o).size : Int) - (((txt o).size / 3 : Nat) : Int) = (((txt o).size - (txt o).size / 3 : Nat) : Int) by omega)
      rw [hsl.out, hsr.out]
      refine (c_Slice _ o ((txt o).size / 3) ((txt o).size - (txt o).size / 3) _ hA hz (by omega) (by omega)).mono ?_
      rintro e u20 ⟨vp, op, rfl, hP, ep, hx⟩
      replace hX := hX.trans hx
      replace hA := hA.mono hx
      clear hx
      have EP := Lib.hid (show ((txt op).size : Int) = ((txt o).size : Int) - 2 * (((txt o).size : Int) / 3) by rw [ep, ByteArray.size_extract]; omega)
      have zp : (txt op).size ≤ 1048576 := by rw [ep, ByteArray.size_extract]; omega
      clear ep
      go_wp2_with fail
      refine (c_num 0 _).mono ?_
      rintro e u21 ⟨rfl, rfl⟩
      go_wp2_with fail
      refine (c_Len vp op _ hP (by omega)).mono ?_
      rintro e u22 ⟨rfl, hx⟩
      replace hX := hX.trans hx
      replace hA := hA.mono hx
      clear hx
      rw [EP.out]
      go_wp2_with fail
      go_loopw [13] (fun i w' => ∃ q : Nat, i = .int .i64 (q : Nat) ∧ q ≤ 9 ∧ IsRope w' u5 o ∧ Ext w w') (fun i _ => 10 - (intOf i).toNat)
      case atStart => exact ⟨0, rfl, by omega, hA, hX⟩
      case round =>
        clear hA hX hP EP zp hsl hsr
        obtain ⟨q, rfl, hq9, hA, hX⟩ := hrel
        by_cases hin : q < s.size
        · by_cases h9 : q < 9
          · by_cases hat : (0 : Int) ≤ ((txt o).size : Int) - 1 - 7 * (q : Nat)
            · obtain ⟨p, hp⟩ : ∃ p : Nat, ((txt o).size : Int) - 1 - 7 * (q : Nat) = (p : Nat) := ⟨(((txt o).size : Int) - 1 - 7 * (q : Nat)).toNat, by omega⟩
              have hpz : p < (txt o).size := by omega
              have hpm : p % s.size < s.size := Nat.mod_lt _ (by omega)
              have hby := hag.2 p hpz
              have hbe := bytN_eq s (p % s.size) hpm
              have HB := Lib.hid hby
              clear hby hat
              go_wp2_with fail
              refine (c_Byte _ o p _ hA hz hpz).mono ?_
              rintro e u23 ⟨rfl, hx⟩
              replace hX := hX.trans hx
              replace hA := hA.mono hx
              clear hx
              rw [HB.out]
              go_wp2_with fail
              go_roundw
              case rel => exact ⟨q + 1, by go_num, by omega, hA, hX⟩
              case measure => simp [intOf]; omega
            · have hneg : ((txt o).size : Int) - 1 - 7 * (q : Nat) < 0 := by omega
              clear hat
              try (exfalso; omega)
              all_goals
                go_wp2_with fail
                refine (c_Byte_no _ o (((txt o).size : Int) - 1 - 7 * (q : Nat)) _ hA hz (by omega)).mono ?_
                rintro e u24 ⟨rfl, hx⟩
                replace hX := hX.trans hx
                replace hA := hA.mono hx
                clear hx
                go_wp2_with fail
                go_roundw
                case rel => exact ⟨q + 1, by go_num, by omega, hA, hX⟩
                case measure => simp [intOf]; omega
          · go_wp2_with fail
            refine (c_live _).mono ?_
            rintro e u25 ⟨rfl, hx⟩
            replace hX := hX.trans hx
            clear hx
            go_wp2_with fail
            exact ret_one rfl rfl rfl ⟨rfl, hX⟩
        · go_wp2_with fail
          refine (c_live _).mono ?_
          rintro e u26 ⟨rfl, hx⟩
          replace hX := hX.trans hx
          clear hx
          go_wp2_with fail
          exact ret_one rfl rfl rfl ⟨rfl, hX⟩
end Go.Proofs.Ytohpekbooapcjaa
