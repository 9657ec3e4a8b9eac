/-
 The bytes of a text.
-/
import Derived.Test.YteokfknkcbmigaaGreatDoorWalkI
import Derived.Test.YteokfknkcbmigaaGreatDoorPlainM
namespace Go.Proofs.YteokfknkcbmigaaGreatDoor
open Go.RowKit Go.Rp Go.Shelf Go.Maps

theorem len_eq (s : ByteArray) : s.data.toList.length = s.size := by simp
theorem ret_one {P : Program} {fn : Func} {R : Ending → World → Prop} {a : Act} {w : World} {v : Value} {t : Tmp} (hf : fn.results = #[.tmp t]) (hv : a.tmps.getD t undef = v) (hd : a.defers = []) (hR : R (.returned v) w) : bodyPost P fn R .ret a w :=
 bodyPost_ret (by rw [results_tmp hf, hv]) hd hR
theorem ret_two {P : Program} {fn : Func} {R : Ending → World → Prop} {a : Act} {w : World} {v u : Value} {t s : Tmp} (hf : fn.results = #[.tmp t, .tmp s]) (hv : a.tmps.getD t undef = v) (hu : a.tmps.getD s undef = u) (hd : a.defers = [])
  (hR : R (.returned (.tuple #[v, u])) w) : bodyPost P fn R .ret a w :=
 bodyPost_ret (by rw [results_tmp2 hf, hv, hu]) hd hR
theorem toList_extract (s : ByteArray) (i j : Nat) : (s.extract i j).data.toList = (s.data.toList.drop i).take (j - i) := by
 rw [ByteArray.data_extract, Array.toList_extract, List.extract_eq_take_drop]
theorem take_all {l : List UInt8} {n : Nat} (h : l.length ≤ n) : l.take n = l := List.take_of_length_le h

theorem c_DecodeRune (s : ByteArray) (w : World) (hT : Tabs w) (hs : 0 < s.size) :
  Calls Tryz.prog 83 #[.string s] w fun e w' => e = .returned (.tuple #[.int .i32 (run s.data.toList : Nat), .int .i64 (wid s.data.toList : Nat)]) ∧ Ext w w' := by
 have h := Tryz.utf8_DecodeRuneInString s w hT.u8
 have e : Lib.decodeGo s = dec s.data.toList := by
  unfold Lib.decodeGo
  rw [if_neg (by omega), dec_at]
  rfl
 rw [e] at h
 exact h

theorem c_Decode (s : ByteArray) (w : World) (hT : Tabs w) (hs : 0 < s.size) :
  Calls Tryz.prog 59 #[.string s] w fun e w' => e = .returned (.tuple #[.int .i32 (run s.data.toList : Nat), .int .i64 (wid s.data.toList : Nat)]) ∧ Ext w w' := by
 have hne : s.data.toList ≠ [] := fun e => by
  have : s.size = 0 := by rw [← len_eq, e]; rfl
  omega
 have hne2 : (s.toList == []) = false := by
  rw [ByteArray.toList_eq]
  exact beq_false_of_ne hne
 have hne3 : ¬ s.toList = [] := by rw [ByteArray.toList_eq]; exact hne
 go_enter Tryz.func59, Tryz.ntmps59
 go_wp2_with fail
 refine (c_DecodeRune s _ hT hs).mono ?_
 rintro e w1 ⟨rfl, hx1⟩
 go_wp2_with fail
 exact ret_two rfl rfl rfl rfl ⟨rfl, hx1⟩

set_option maxRecDepth 100000 in
set_option maxHeartbeats 2000000 in
/-- utf.Is. -/
theorem c_Is (s : ByteArray) (k : Nat) (b : Bool) (w : World) (hb : b = true ↔ edge s.data.toList k) (hT : Tabs w) (hs : s.size ≤ 1099511627776) (hk : k ≤ s.size) :
  Calls Tryz.prog 58 #[.string s, .int .i64 (k : Nat)] w fun e w' => e = .returned (.bool b) ∧ Ext w w' := by
 have HB := Lib.hid hb
 clear hb
 have hk2 : ¬ s.size < k := by omega
 have hk3 : ¬ ((s.size : Nat) : Int) < (k : Nat) := by omega
 go_enter Tryz.func58, Tryz.ntmps58
 go_wp2_with fail
 go_loopw [5, 6, 7] (fun i _ _ w' => ∃ j : Nat, i = .int .i64 (j : Nat) ∧ 1 ≤ j ∧ j ≤ 4 ∧ j ≤ k + 1 ∧ Hid (∀ q, q < k → k < q + j → q + wid (s.data.toList.drop q) ≤ k) ∧ Ext w w') (fun i _ _ _ => 5 - (intOf i).toNat)
 case atStart => exact ⟨1, rfl, by omega, by omega, by omega, fun q h1 h2 => by omega, Ext.refl w⟩
 case round =>
  obtain ⟨j, rfl, h1, h2, h3, hinv, hX⟩ := hrel
  by_cases hlt : j < 4 ∧ j ≤ k
  ·obtain ⟨g1, g2⟩ := hlt
   have HS := Lib.hid (show (k : Int) - (j : Nat) = ((k - j : Nat) : Int) by omega)
   have hz : 0 < (s.extract (k - j) s.size).size := by rw [ByteArray.size_extract]; omega
   have hl : (s.extract (k - j) s.size).data.toList = s.data.toList.drop (k - j) := by
    rw [toList_extract, take_all (by rw [List.length_drop, len_eq]; omega)]
   have hk1 : k - j ≤ s.size := by omega
   have hw4 := wid_le4 (s.data.toList.drop (k - j))
   have hw1 := wid_pos (s.data.toList.drop (k - j))
   have HL := Lib.hid hl
   clear hl
   go_wp2_with fail
   try rw [HS.out]
   refine (c_DecodeRune (s.extract (k - j) s.size) _ (hT.ext hX) hz).mono ?_
   rintro e w1 ⟨rfl, hx1⟩
   rw [HL.out]
   by_cases hw : j < wid (s.data.toList.drop (k - j))
   ·have hw2 : (((wid (s.data.toList.drop (k - j)) : Nat) : Int) == 1) = false := beq_false_of_ne (by omega)
    have hno : ¬ edge s.data.toList k := fun he => by
     have := he (k - j) (by omega)
     omega
    have hbf : b = false := by
     cases b with
     | false => rfl
     | true => exact absurd (HB.out.1 rfl) hno
    clear hno
    subst hbf
    go_wp2_with fail
    all_goals exact ret_one rfl rfl rfl ⟨rfl, hX.trans hx1⟩
   ·go_wp2_with fail
    go_roundw
    case rel => exact ⟨j + 1, by go_num, by omega, by omega, by omega, fun q e1 e2 => by
     by_cases hq : k < q + j
     ·exact hinv.out q e1 hq
     ·obtain rfl : q = k - j := by omega
      omega, hX.trans hx1⟩
    case measure => simp [intOf]; omega
  ·have hend : edge s.data.toList k := by
    intro q hq
    by_cases hj : k < q + j
    ·exact hinv.out q hq hj
    ·have := wid_le4 (s.data.toList.drop q)
     omega
   have hbt : b = true := HB.out.2 hend
   subst hbt
   clear hend
   by_cases hlt2 : j < 4
   ·have hkj : k < j := by omega
    clear hlt
    go_wp2_with fail
    exact ret_one rfl rfl rfl ⟨rfl, hX⟩
   ·clear hlt
    go_wp2_with fail
    exact ret_one rfl rfl rfl ⟨rfl, hX⟩

/-- utf.Is, at any place. -/
theorem c_IsI (s : ByteArray) (k : Int) (b : Bool) (w : World) (hb : b = true ↔ (0 ≤ k ∧ k ≤ (s.size : Nat) ∧ edge s.data.toList k.toNat)) (hT : Tabs w) (hs : s.size ≤ 1099511627776) :
  Calls Tryz.prog 58 #[.string s, .int .i64 k] w fun e w' => e = .returned (.bool b) ∧ Ext w w' := by
 by_cases h0 : k < 0
 ·obtain rfl : b = false := by
   cases b with
   | false => rfl
   | true => have := (hb.1 rfl).1; omega
  clear hb
  go_enter Tryz.func58, Tryz.ntmps58
  go_wp2_with fail
  exact ret_one rfl rfl rfl ⟨rfl, Ext.refl _⟩
 ·by_cases h1 : k ≤ (s.size : Nat)
  ·obtain ⟨n, rfl⟩ : ∃ n : Nat, k = (n : Nat) := ⟨k.toNat, by omega⟩
   exact c_Is s n b w (by rw [hb]; exact ⟨fun h => by simpa using h.2.2, fun h => ⟨by omega, h1, by simpa using h⟩⟩) hT hs (by omega)
  ·obtain rfl : b = false := by
    cases b with
    | false => rfl
    | true => exact absurd (hb.1 rfl).2.1 h1
   clear hb
   have h2 : ((s.size : Nat) : Int) < k := by omega
   go_enter Tryz.func58, Tryz.ntmps58
   go_wp2_with fail
   exact ret_one rfl rfl rfl ⟨rfl, Ext.refl _⟩
/-- utf.Encode of a rune. -/
theorem c_Encode (r : Int) (w : World) (hv : Utf8.valid r = true) : Calls Tryz.prog 81 #[.int .i32 r] w fun e w' => e = .returned (.string (Utf8.encode r)) ∧ Ext w w' := by
 have hr : (0 ≤ r ∧ r < 55296) ∨ (57343 < r ∧ r ≤ 1114111) := by
  unfold Utf8.valid at hv
  simp only [Bool.or_eq_true, Bool.and_eq_true, decide_eq_true_eq] at hv
  omega
 have hi : ∀ w, Calls Tryz.prog 68 #[.int .i32 r] w fun e w' => e = .returned (.bool true) ∧ w' = w := by
  intro w
  rcases hr with ⟨h1, h2⟩ | ⟨h1, h2⟩
  ·have h3 : r ≤ 1114111 := by omega
   have e3 := decide_eq_true h3
   have e2 := decide_eq_true h2
   go_enter Tryz.func68, Tryz.ntmps68
   go_wp2_with fail
   exact ret_one rfl rfl rfl ⟨rfl, rfl⟩
  ·have h0 : 0 ≤ r := by omega
   have h3 : ¬ r < 55296 := by omega
   have e2 := decide_eq_true h2
   have e3 := decide_eq_false h3
   have e1 := decide_eq_true h1
   go_enter Tryz.func68, Tryz.ntmps68
   go_wp2_with fail
   exact ret_one rfl rfl rfl ⟨rfl, rfl⟩
 go_enter Tryz.func81, Tryz.ntmps81
 go_wp2_with fail
 refine (hi _).mono ?_
 rintro e w2 ⟨rfl, rfl⟩
 go_wp2_with fail
 exact ret_one rfl rfl rfl ⟨rfl, Ext.refl _⟩
end Go.Proofs.YteokfknkcbmigaaGreatDoor
