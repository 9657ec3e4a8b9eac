/-
  TableNames, TableNil.
-/
import Derived.Test.YtbbemipidkhmfaaWalkW
namespace Go.Proofs.Ytbbemipidkhmfaa
open Go.RowKit Go.Maps Go.Shelf

set_option maxRecDepth 100000 in
set_option maxHeartbeats 4000000 in
theorem c_Names (w : World) : Calls Try.prog 3 #[] w fun e w' => e = .returned (.bool true) ∧ Ext w w' := by
  go_enter Try.func3, Try.ntmps3
  go_wp2_with fail
  refine (c_num 30 w).mono ?_
  rintro e w1 ⟨rfl, rfl⟩
  go_wp2_with fail
  refine (c_num 31 w1).mono ?_
  rintro e w1 ⟨rfl, rfl⟩
  go_wp2_with fail
  refine (c_live w1).mono ?_
  rintro e w2 ⟨rfl, hx2⟩
  go_wp2_with fail
  go_ret
  exact ⟨rfl, hx2⟩
set_option maxRecDepth 100000 in
theorem c_MapNil (p : Option Addr) (n cap : Nat) (w : World) : Calls Try.prog 29 #[.pointer none, .slice p n cap] w fun e w' => e = .returned (.tuple #[.pointer none, .int .i64 0]) ∧ Ext w w' := by
  go_enter Try.func29, Try.ntmps29
  go_wp2_with fail
  exact bodyPost_ret (v := .tuple #[.pointer none, .int .i64 0]) (by simp [results, Try.results29, go_sem]) rfl ⟨rfl, (Ext.refl w).alloc _⟩
set_option maxRecDepth 100000 in
theorem c_PairNil (w : World) : Calls Try.prog 31 #[.pointer none, .pointer none] w fun e w' => e = .returned (.tuple #[.pointer none, .slice none 0 0, .int .i64 0]) ∧ Ext w w' := by
  go_enter Try.func31, Try.ntmps31
  go_wp2_with fail
  exact bodyPost_ret (v := .tuple #[.pointer none, .slice none 0 0, .int .i64 0]) (by simp [results, Try.results31, go_sem]) rfl ⟨rfl, Ext.refl w⟩
set_option maxRecDepth 100000 in
theorem c_ClassesNil (s : ByteArray) (w : World) : Calls Try.prog 36 #[.pointer none, .string s] w fun e w' => e = .returned (.slice none 0 0) ∧ Ext w w' := by
  go_enter Try.func36, Try.ntmps36
  go_wp2_with fail
  go_ret
  exact ⟨rfl, Ext.refl w⟩
set_option maxRecDepth 100000 in
theorem c_EqualNil (w : World) : Calls Try.prog 17 #[.pointer none, .pointer none] w fun e w' => e = .returned (.bool true) ∧ Ext w w' := by
  go_enter Try.func17, Try.ntmps17
  go_wp2_with fail
  go_ret
  exact ⟨rfl, Ext.refl w⟩
set_option maxRecDepth 100000 in
theorem c_EqualL (T : Addr) (w : World) : Calls Try.prog 17 #[.pointer (some T), .pointer none] w fun e w' => e = .returned (.bool false) ∧ Ext w w' := by
  go_enter Try.func17, Try.ntmps17
  go_wp2_with fail
  go_ret
  exact ⟨rfl, Ext.refl w⟩
theorem nil_ptr (T : Addr) (w : World) : (binOp .eql 27 (.pointer none) (.pointer (some T))).run Try.prog w = .ok (.bool false) w := by
  kernel_rfl
set_option maxRecDepth 100000 in
theorem c_EqualR (T : Addr) (w : World) : Calls Try.prog 17 #[.pointer none, .pointer (some T)] w fun e w' => e = .returned (.bool false) ∧ Ext w w' := by
  have h := nil_ptr T
  go_enter Try.func17, Try.ntmps17
  go_wp2_with fail
  go_ret
  exact ⟨rfl, Ext.refl w⟩
set_option maxRecDepth 100000 in
set_option maxHeartbeats 8000000 in
theorem c_TableNil (r : Int) (s : ByteArray) (w : World) : Calls Try.prog 9 #[.int .i32 r, .string s] w fun e w' => e = .returned (.bool true) ∧ Ext w w' := by
  go_enter Try.func9, Try.ntmps9
  go_wp2_with fail
  refine (c_MapNil _ 1 1 _).mono ?_
  rintro e w1 ⟨rfl, hx1⟩
  have hx01 : Ext w w1 := Ext.trans ((Ext.refl w).alloc _) hx1
  clear hx1
  go_wp2_with fail
  refine (c_PairNil w1).mono ?_
  rintro e w2 ⟨rfl, hx2⟩
  have hx02 := Ext.trans hx01 hx2
  clear hx01 hx2
  go_wp2_with fail
  refine (c_Build (.slice none 0 0) [] 1 w2 (RgRow.nil w2)).mono ?_
  rintro e w3 ⟨hx3, (⟨hne, -⟩ | ⟨-, T1, rfl, htb, -⟩)⟩
  · exact absurd rfl hne
  obtain ⟨T, U, ix, ob, oc, ub, uc, rfl, ht⟩ := htb
  have hx03 := Ext.trans hx02 hx3
  clear hx02 hx3
  go_wp2_with fail
  refine (c_num 0 w3).mono ?_
  rintro e w3 ⟨rfl, rfl⟩
  go_wp2_with fail
  refine (c_GetNil r w3).mono ?_
  rintro e w3 ⟨rfl, rfl⟩
  go_wp2_with fail
  refine (c_RestNil w3).mono ?_
  rintro e w3 ⟨rfl, rfl⟩
  go_wp2_with fail
  refine (c_ClassesNil s w3).mono ?_
  rintro e w4 ⟨rfl, hx4⟩
  have hx04 := Ext.trans hx03 hx4
  clear hx03 hx4
  go_wp2_with fail
  refine (c_RangesNil w4).mono ?_
  rintro e w5 ⟨rfl, hx5⟩
  have hx05 := Ext.trans hx04 hx5
  clear hx04 hx5
  go_wp2_with fail
  refine (c_BlocksNil w5).mono ?_
  rintro e w5 ⟨rfl, rfl⟩
  go_wp2_with fail
  refine (c_CountNil 0 w5).mono ?_
  rintro e w5 ⟨rfl, rfl⟩
  go_wp2_with fail
  refine (c_num 0 w5).mono ?_
  rintro e w5 ⟨rfl, rfl⟩
  go_wp2_with fail
  refine (c_num 0 w5).mono ?_
  rintro e w5 ⟨rfl, rfl⟩
  go_wp2_with fail
  refine (c_EqualNil w5).mono ?_
  rintro e w6 ⟨rfl, hx6⟩
  have hx06 := Ext.trans hx05 hx6
  clear hx05 hx6
  go_wp2_with fail
  refine (c_EqualL _ w6).mono ?_
  rintro e w7 ⟨rfl, hx7⟩
  have hx07 := Ext.trans hx06 hx7
  clear hx06 hx7
  go_wp2_with fail
  refine (c_EqualR _ w7).mono ?_
  rintro e w8 ⟨rfl, hx8⟩
  have hx08 := Ext.trans hx07 hx8
  clear hx07 hx8
  go_wp2_with fail
  refine (c_BytesNil w8).mono ?_
  rintro e w9 ⟨rfl, hx9⟩
  have hx09 := Ext.trans hx08 hx9
  clear hx08 hx9
  go_wp2_with fail
  refine (c_live w9).mono ?_
  rintro e w10 ⟨rfl, hx10⟩
  go_wp2_with fail
  go_ret
  exact ⟨rfl, Ext.trans hx09 hx10⟩
end Go.Proofs.Ytbbemipidkhmfaa
