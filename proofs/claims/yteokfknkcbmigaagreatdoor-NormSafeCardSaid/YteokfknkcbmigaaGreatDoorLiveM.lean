/-
  live, in plain words: a letter with its mark.
-/
import Derived.Test.YteokfknkcbmigaaGreatDoorWalkZ
import Derived.Lib.SlBytesConst
namespace Go.Proofs.YteokfknkcbmigaaGreatDoor
open Go.RowKit Go.Rp Go.Shelf Go.Maps Go.Nm

theorem lv_form1 : formT 1 [101, 204, 129] = [195, 169] := by kernel_rfl
theorem lv_form0 : formT 0 [195, 169] = [101, 204, 129] := by kernel_rfl
theorem lv_formx : formT 1 [120] = [120] := by kernel_rfl
theorem lv_is0 : formT 0 [101, 204, 129] = [101, 204, 129] := by kernel_rfl
theorem lv_join : jnT 101 769 = some 233 := by kernel_rfl
theorem lv_order : odT 769 = 230 := by kernel_rfl
theorem lv_w1 : wholeN [101] = 1 := by kernel_rfl
theorem lv_w3 : wholeN [101, 204, 129] = 3 := by kernel_rfl
theorem lv_w4 : wholeN [101, 204, 129, 120] = 4 := by kernel_rfl
theorem lv_firm : firmT 1 769 = false := by kernel_rfl
theorem lv_firmx : firmT 1 120 = true := by kernel_rfl
theorem lv_cut1 : CutAt (([101] : List UInt8).take (wholeN [101])) 1 0 := by
  rw [lv_w1]
  exact ⟨.inl rfl, fun k h1 h2 => by simp at h2; omega⟩
theorem lv_cut3 : CutAt (([101, 204, 129] : List UInt8).take (wholeN [101, 204, 129])) 1 0 := by
  rw [lv_w3]
  refine ⟨.inl rfl, fun k h1 h2 => ?_⟩
  simp at h2
  rcases (show k = 1 ∨ k = 2 by omega) with rfl | rfl
  · rintro ⟨_, h | h | h⟩
    · simp at h
    · have : dec [204, 129] = (769, 2) := by kernel_rfl
      rw [show (([101, 204, 129] : List UInt8).take 3).drop ((1 : Nat) : Int).toNat = [204, 129] from rfl, this] at h
      simp at h
    · have : run [204, 129] = 769 := by kernel_rfl
      rw [show (([101, 204, 129] : List UInt8).take 3).drop ((1 : Nat) : Int).toNat = [204, 129] from rfl, this] at h
      have h9 := lv_firm
      simp at h
      rw [h9] at h
      cases h
  · rintro ⟨⟨_, _, h⟩, _⟩
    have h1 := h 1 (by decide)
    have h2 : wid ((([101, 204, 129] : List UInt8).take 3).drop 1) = 2 := by kernel_rfl
    rw [h2] at h1
    exact absurd h1 (by decide)
theorem lv_cut4 : CutAt (([101, 204, 129, 120] : List UInt8).take (wholeN [101, 204, 129, 120])) 1 3 := by
  rw [lv_w4]
  refine ⟨.inr ⟨by omega, by simp, ⟨⟨by omega, by simp, ?_⟩, .inr (.inr ?_)⟩⟩, fun k h1 h2 => by simp at h2; omega⟩
  · intro j hj
    have h0 : wid ((([101, 204, 129, 120] : List UInt8).take 4).drop 0) = 1 := by kernel_rfl
    have h1 : wid ((([101, 204, 129, 120] : List UInt8).take 4).drop 1) = 2 := by kernel_rfl
    have h2 : wid ((([101, 204, 129, 120] : List UInt8).take 4).drop 2) = 1 := by kernel_rfl
    rcases (show j = 0 ∨ j = 1 ∨ j = 2 by have : j < 3 := hj; omega) with rfl | rfl | rfl
    · rw [h0]; decide
    · rw [h1]; decide
    · rw [h2]; decide
  · exact lv_firmx
set_option maxRecDepth 100000 in
set_option maxHeartbeats 4000000 in
theorem c_New_no (f : Int) (hf : ¬ (0 ≤ f ∧ f ≤ 3)) (w : World) :
    Calls Tryz.prog 16 #[.int .i64 f] w fun e w' => e = .returned (.tuple #[.pointer none, .int .i64 180]) ∧ w' = w := by
  have HC := Lib.hid (show ∀ w, Calls Tryz.prog 33 #[.int .i64 f] w fun e w' => e = .returned (.bool false) ∧ w' = w from fun w => by rw [← decide_eq_false hf]; exact c_right f w)
  clear hf
  go_enter Tryz.func16, Tryz.ntmps16
  go_wp2_with fail
  refine (HC.out w).mono ?_
  rintro e w3 ⟨rfl, e3⟩
  obtain rfl := e3.symm
  clear e3
  go_wp2_with fail
  exact ret_two rfl rfl rfl rfl ⟨rfl, rfl⟩
theorem c_num (n : Int) (w : World) : Calls Tryz.prog 18 #[.int .i64 n] w fun e w' => e = .returned (.int .i64 n) ∧ w' = w := by
  go_enter Tryz.func18, Tryz.ntmps18
  go_wp2_with fail
  go_ret
  exact ⟨rfl, rfl⟩
theorem lv_wr1 (W1 : World) (nb tB xB pb pc : Nat) (w : World) (h : StrAt W1 nb tB xB 1 ⟨#[]⟩ w) (hp : ∀ j (h : j < ([101] : List UInt8).length), w.cell? ⟨pb, j, none⟩ = some (.int .u8 ([101] : List UInt8)[j].toNat)) :
    Calls Tryz.prog 21 #[.pointer (some ⟨xB, 0, none⟩), .slice (some ⟨pb, 0, none⟩) 1 pc] w fun e w' => e = .returned (.string ⟨#[]⟩) ∧ StrAt W1 nb tB xB 1 ⟨#[101]⟩ w' :=
  c_Write W1 nb tB xB pb pc 1 (by decide) ⟨#[]⟩ ⟨#[101]⟩ [101] 0 w h hp rfl (by decide) (by decide) lv_cut1
theorem lv_wr2 (W1 : World) (nb tB xB pb pc : Nat) (w : World) (h : StrAt W1 nb tB xB 1 ⟨#[101]⟩ w) (hp : ∀ j (h : j < ([204, 129] : List UInt8).length), w.cell? ⟨pb, j, none⟩ = some (.int .u8 ([204, 129] : List UInt8)[j].toNat)) :
    Calls Tryz.prog 21 #[.pointer (some ⟨xB, 0, none⟩), .slice (some ⟨pb, 0, none⟩) 2 pc] w fun e w' => e = .returned (.string ⟨#[]⟩) ∧ StrAt W1 nb tB xB 1 ⟨#[101, 204, 129]⟩ w' :=
  c_Write W1 nb tB xB pb pc 1 (by decide) ⟨#[101]⟩ ⟨#[101, 204, 129]⟩ [204, 129] 0 w h hp rfl (by decide) (by decide) lv_cut3
theorem lv_wr3 (W1 : World) (nb tB xB pb pc : Nat) (w : World) (h : StrAt W1 nb tB xB 1 ⟨#[101, 204, 129]⟩ w) (hp : ∀ j (h : j < ([120] : List UInt8).length), w.cell? ⟨pb, j, none⟩ = some (.int .u8 ([120] : List UInt8)[j].toNat)) :
    Calls Tryz.prog 21 #[.pointer (some ⟨xB, 0, none⟩), .slice (some ⟨pb, 0, none⟩) 1 pc] w fun e w' => e = .returned (.string ⟨#[195, 169]⟩) ∧ StrAt W1 nb tB xB 1 ⟨#[120]⟩ w' := by
  have h1 := c_Write W1 nb tB xB pb pc 1 (by decide) ⟨#[101, 204, 129]⟩ ⟨#[101, 204, 129, 120]⟩ [120] 3 w h hp rfl (by decide) (by decide) lv_cut4
  rw [if_neg (by decide), show (⟨#[101, 204, 129, 120]⟩ : ByteArray).data.toList.take 3 = [101, 204, 129] from rfl, lv_form1] at h1
  exact h1
theorem lv_cl (W1 : World) (nb tB xB : Nat) (w : World) (h : StrAt W1 nb tB xB 1 ⟨#[120]⟩ w) :
    Calls Tryz.prog 19 #[.pointer (some ⟨xB, 0, none⟩)] w fun e w' => e = .returned (.string ⟨#[120]⟩) ∧ StrAt W1 nb tB xB 1 ⟨#[]⟩ w' := by
  have h1 := c_Close W1 nb tB xB 1 (by decide) ⟨#[120]⟩ (by decide) w h
  rw [show (⟨#[120]⟩ : ByteArray).data.toList = [120] from rfl, lv_formx] at h1
  exact h1
theorem lv_f0 (w : World) (hT : Tabs w) : Calls Tryz.prog 11 #[.string ⟨#[195, 169]⟩, .int .i64 0] w fun e w' => e = .returned (.string ⟨#[101, 204, 129]⟩) ∧ Ext w w' := by
  have h1 := c_Form ⟨#[195, 169]⟩ 0 w hT (by decide)
  rw [show (⟨#[195, 169]⟩ : ByteArray).data.toList = [195, 169] from rfl, lv_form0] at h1
  exact h1
theorem lv_f1 (w : World) (hT : Tabs w) : Calls Tryz.prog 11 #[.string ⟨#[101, 204, 129]⟩, .int .i64 1] w fun e w' => e = .returned (.string ⟨#[195, 169]⟩) ∧ Ext w w' := by
  have h1 := c_Form ⟨#[101, 204, 129]⟩ 1 w hT (by decide)
  rw [show (⟨#[101, 204, 129]⟩ : ByteArray).data.toList = [101, 204, 129] from rfl, lv_form1] at h1
  exact h1
theorem lv_i0 (w : World) (hT : Tabs w) : Calls Tryz.prog 12 #[.string ⟨#[101, 204, 129]⟩, .int .i64 0] w fun e w' => e = .returned (.bool true) ∧ Ext w w' :=
  c_Is' ⟨#[101, 204, 129]⟩ 0 true ⟨fun _ => lv_is0, fun _ => rfl⟩ w hT (by decide)
theorem lv_i1 (w : World) (hT : Tabs w) : Calls Tryz.prog 12 #[.string ⟨#[101, 204, 129]⟩, .int .i64 1] w fun e w' => e = .returned (.bool false) ∧ Ext w w' :=
  c_Is' ⟨#[101, 204, 129]⟩ 1 false ⟨(fun h => by cases h), fun h => by
    rw [show (⟨#[101, 204, 129]⟩ : ByteArray).data.toList = [101, 204, 129] from rfl, lv_form1] at h
    exact absurd h (by decide)⟩ w hT (by decide)
theorem lv_j (w : World) (hT : Tabs w) : Calls Tryz.prog 25 #[.int .i32 101, .int .i32 769] w fun e w' => e = .returned (.tuple #[.int .i32 233, .bool true]) ∧ Ext w w' := by
  have h1 := c_Join 101 769 w hT (by decide) (by decide)
  rw [lv_join] at h1
  exact h1
theorem lv_o (w : World) (hT : Tabs w) : Calls Tryz.prog 27 #[.int .i32 769] w fun e w' => e = .returned (.int .i64 230) ∧ Ext w w' := by
  have h1 := c_Order 769 w hT
  rw [lv_order] at h1
  exact h1
set_option maxRecDepth 100000 in
set_option maxHeartbeats 8000000 in
theorem c_live (w : World) (hT : Tabs w) : Calls Tryz.prog 8 #[] w fun e w' => e = .returned (.bool true) ∧ Ext w w' := by
  have hcv := fun (t : ByteArray) (w : World) => Lib.run_convert_string_bytes (P := Tryz.prog) w 9 38 5 t Tryz.underlying9 Tryz.underlying38 Tryz.underlying5
  have hcc := fun (w : World) (C : Array Value) (n c : Nat) => Lib.run_convert_bytes_const (P := Tryz.prog) w 38 5 C n c Tryz.underlying38 Tryz.underlying5
  go_enter Tryz.func8, Tryz.ntmps8
  go_wp2_with fail
  refine (c_New 1 (by decide) w hT).mono ?_
  rintro e w1 ⟨W1, nb, tB, xB, rfl, hS1, hx1, hxW⟩
  have HS1 := Lib.hid hS1
  have HXW := Lib.hid hxW
  clear hS1 hx1 hxW
  go_wp2_with fail
  refine (c_num _ _).mono ?_
  rintro e wn ⟨rfl, en⟩
  obtain rfl := en.symm
  clear en
  go_wp2_with fail
  have hxb := (Ext.refl w1).alloc (.cells #[.int .u8 101] 5 (1, 2))
  have hbk := World.alloc_heap_new w1 (.cells #[.int .u8 101] 5 (1, 2))
  generalize w1.alloc (.cells #[.int .u8 101] 5 (1, 2)) = w2 at hxb hbk ⊢
  generalize w1.heap.size = pb at hbk ⊢
  refine (lv_wr1 W1 nb tB xB pb _ w2 (HS1.out.more hxb) (fun j hj => by
    obtain rfl : j = 0 := by simp at hj; omega
    exact (cell_blk hbk 0).trans rfl)).mono ?_
  rintro e w3 ⟨rfl, hS3⟩
  have HS3 := Lib.hid hS3
  clear hS3 hxb hbk HS1
  go_wp2_with fail
  have hxb := (Ext.refl w3).alloc (.cells #[.int .u8 204, .int .u8 129] 5 (2, 3))
  have hbk := World.alloc_heap_new w3 (.cells #[.int .u8 204, .int .u8 129] 5 (2, 3))
  generalize w3.alloc (.cells #[.int .u8 204, .int .u8 129] 5 (2, 3)) = w4 at hxb hbk ⊢
  generalize w3.heap.size = pb2 at hbk ⊢
  refine (lv_wr2 W1 nb tB xB pb2 _ w4 (HS3.out.more hxb) (fun j hj => by
    rcases (show j = 0 ∨ j = 1 by simp at hj; omega) with rfl | rfl
    · exact (cell_blk hbk 0).trans rfl
    · exact (cell_blk hbk 1).trans rfl)).mono ?_
  rintro e w5 ⟨rfl, hS5⟩
  have HS5 := Lib.hid hS5
  clear hS5 hxb hbk HS3
  go_wp2_with fail
  have hxb := (Ext.refl w5).alloc (.cells #[.int .u8 120] 5 (1, 2))
  have hbk := World.alloc_heap_new w5 (.cells #[.int .u8 120] 5 (1, 2))
  generalize w5.alloc (.cells #[.int .u8 120] 5 (1, 2)) = w6 at hxb hbk ⊢
  generalize w5.heap.size = pb3 at hbk ⊢
  refine (lv_wr3 W1 nb tB xB pb3 _ w6 (HS5.out.more hxb) (fun j hj => by
    obtain rfl : j = 0 := by simp at hj; omega
    exact (cell_blk hbk 0).trans rfl)).mono ?_
  rintro e w7 ⟨rfl, hS7⟩
  have HS7 := Lib.hid hS7
  clear hS7 hxb hbk HS5
  go_wp2_with fail
  refine (lv_cl W1 nb tB xB w7 HS7.out).mono ?_
  rintro e w8 ⟨rfl, hS8⟩
  have hx8 := HXW.out.trans hS8.ext
  have HX8 := Lib.hid hx8
  have HT8 := Lib.hid (hT.ext hx8)
  clear hS8 HS7 hx8 HXW
  go_wp2_with fail
  refine (c_New_no 9 (by decide) w8).mono ?_
  rintro e wn ⟨rfl, en⟩
  obtain rfl := en.symm
  clear en
  go_wp2_with fail
  refine (lv_j w8 HT8.out).mono ?_
  rintro e w9 ⟨rfl, hx9⟩
  have HX9 := Lib.hid (HX8.out.trans hx9)
  clear hx9 HX8 HT8
  go_wp2_with fail
  refine (lv_f0 w9 (hT.ext HX9.out)).mono ?_
  rintro e w10 ⟨rfl, hx10⟩
  have HX10 := Lib.hid (HX9.out.trans hx10)
  clear hx10 HX9
  go_wp2_with fail
  refine (lv_f1 w10 (hT.ext HX10.out)).mono ?_
  rintro e w11 ⟨rfl, hx11⟩
  have HX11 := Lib.hid (HX10.out.trans hx11)
  clear hx11 HX10
  go_wp2_with fail
  refine (c_num _ _).mono ?_
  rintro e wn ⟨rfl, en⟩
  obtain rfl := en.symm
  clear en
  go_wp2_with fail
  refine (lv_o w11 (hT.ext HX11.out)).mono ?_
  rintro e w12 ⟨rfl, hx12⟩
  have HX12 := Lib.hid (HX11.out.trans hx12)
  clear hx12 HX11
  go_wp2_with fail
  refine (lv_i0 w12 (hT.ext HX12.out)).mono ?_
  rintro e w13 ⟨rfl, hx13⟩
  have HX13 := Lib.hid (HX12.out.trans hx13)
  clear hx13 HX12
  go_wp2_with fail
  refine (lv_i1 w13 (hT.ext HX13.out)).mono ?_
  rintro e w14 ⟨rfl, hx14⟩
  have HX14 := Lib.hid (HX13.out.trans hx14)
  clear hx14 HX13
  go_wp2_with fail
  exact ret_one rfl rfl rfl ⟨rfl, HX14.out⟩
end Go.Proofs.YteokfknkcbmigaaGreatDoor
