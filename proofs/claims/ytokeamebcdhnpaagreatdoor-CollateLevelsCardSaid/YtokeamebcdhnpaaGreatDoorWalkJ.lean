/-
 The bytes of a text.
-/
import Derived.Test.YtokeamebcdhnpaaGreatDoorWalkI
import Derived.Test.YtokeamebcdhnpaaGreatDoorPlainM
namespace Go.Proofs.YtokeamebcdhnpaaGreatDoor
open Go.RowKit Go.Rp Go.Shelf Go.Maps

theorem len_eq (s : ByteArray) : s.data.toList.length = s.size := by simp
theorem ret_one {P : Program} {fn : Func} {R : Ending → World → Prop} {a : Act} {w : World} {v : Value} {t : Tmp} (hf : fn.results = #[.tmp t]) (hv : a.tmps.getD t undef = v) (hd : a.defers = []) (hR : R (.returned v) w) : bodyPost P fn R .ret a w :=
 bodyPost_ret (by rw [results_tmp hf, hv]) hd hR
theorem ret_two {P : Program} {fn : Func} {R : Ending → World → Prop} {a : Act} {w : World} {v u : Value} {t s : Tmp} (hf : fn.results = #[.tmp t, .tmp s]) (hv : a.tmps.getD t undef = v) (hu : a.tmps.getD s undef = u) (hd : a.defers = [])
  (hR : R (.returned (.tuple #[v, u])) w) : bodyPost P fn R .ret a w :=
 bodyPost_ret (by rw [results_tmp2 hf, hv, hu]) hd hR
theorem toList_extract (s : ByteArray) (i j : Nat) : (s.extract i j).data.toList = (s.data.toList.drop i).take (j - i) := by
 rw [ByteArray.data_extract, Array.toList_extract, List.extract_eq_take_drop]
theorem take_all {l : List UInt8} {n : Nat} (h : l.length ≤ n) : l.take n = l := List.take_of_length_le h

theorem c_DecodeRune (s : ByteArray) (w : World) (hT : Tabs w) (hs : 0 < s.size) :
  Calls Tryz.prog 77 #[.string s] w fun e w' => e = .returned (.tuple #[.int .i32 (run s.data.toList : Nat), .int .i64 (wid s.data.toList : Nat)]) ∧ Ext w w' := by
 have h := Tryz.utf8_DecodeRuneInString s w hT.u8
 have e : Lib.decodeGo s = dec s.data.toList := by
  unfold Lib.decodeGo
  rw [if_neg (by omega), dec_at]
  rfl
 rw [e] at h
 exact h

theorem c_Decode (s : ByteArray) (w : World) (hT : Tabs w) (hs : 0 < s.size) :
  Calls Tryz.prog 52 #[.string s] w fun e w' => e = .returned (.tuple #[.int .i32 (run s.data.toList : Nat), .int .i64 (wid s.data.toList : Nat)]) ∧ Ext w w' := by
 have hne : s.data.toList ≠ [] := fun e => by
  have : s.size = 0 := by rw [← len_eq, e]; rfl
  omega
 have hne2 : (s.toList == []) = false := by
  rw [ByteArray.toList_eq]
  exact beq_false_of_ne hne
 have hne3 : ¬ s.toList = [] := by rw [ByteArray.toList_eq]; exact hne
 go_enter Tryz.func52, Tryz.ntmps52
 go_wp2_with fail
 refine (c_DecodeRune s _ hT hs).mono ?_
 rintro e w1 ⟨rfl, hx1⟩
 go_wp2_with fail
 exact ret_two rfl rfl rfl rfl ⟨rfl, hx1⟩

/-- utf.Encode of a rune. -/
theorem c_Encode (r : Int) (w : World) (hv : Utf8.valid r = true) : Calls Tryz.prog 94 #[.int .i32 r] w fun e w' => e = .returned (.string (Utf8.encode r)) ∧ Ext w w' := by
 have hr : (0 ≤ r ∧ r < 55296) ∨ (57343 < r ∧ r ≤ 1114111) := by
  unfold Utf8.valid at hv
  simp only [Bool.or_eq_true, Bool.and_eq_true, decide_eq_true_eq] at hv
  omega
 have hi : ∀ w, Calls Tryz.prog 121 #[.int .i32 r] w fun e w' => e = .returned (.bool true) ∧ w' = w := by
  intro w
  rcases hr with ⟨h1, h2⟩ | ⟨h1, h2⟩
  ·have h3 : r ≤ 1114111 := by omega
   have e3 := decide_eq_true h3
   have e2 := decide_eq_true h2
   go_enter Tryz.func121, Tryz.ntmps121
   go_wp2_with fail
   exact ret_one rfl rfl rfl ⟨rfl, rfl⟩
  ·have h0 : 0 ≤ r := by omega
   have h3 : ¬ r < 55296 := by omega
   have e2 := decide_eq_true h2
   have e3 := decide_eq_false h3
   have e1 := decide_eq_true h1
   go_enter Tryz.func121, Tryz.ntmps121
   go_wp2_with fail
   exact ret_one rfl rfl rfl ⟨rfl, rfl⟩
 go_enter Tryz.func94, Tryz.ntmps94
 go_wp2_with fail
 refine (hi _).mono ?_
 rintro e w2 ⟨rfl, rfl⟩
 go_wp2_with fail
 exact ret_one rfl rfl rfl ⟨rfl, Ext.refl _⟩
end Go.Proofs.YtokeamebcdhnpaaGreatDoor
