/-
 live, in plain words: a letter with its mark. A form of a form. Cut where it is safe. What a stream has told and what it holds: together always the form. How many of the last bytes are a beginning, not whole, of some rune: as the document counts, and as the package does. The package's stream holds the rest that the reference's stream holds: after each piece.
-/
import Derived.Test.YteokfknkcbmigaaGreatDoorWalkXY
import Derived.Lib.SlBytesConst
section
namespace Go.Proofs.YteokfknkcbmigaaGreatDoor
open Go.RowKit Go.Rp Go.Shelf Go.Maps Go.Nm

theorem lv_form1 : formT 1 [101, 204, 129] = [195, 169] := by kernel_rfl
theorem lv_form0 : formT 0 [195, 169] = [101, 204, 129] := by kernel_rfl
theorem lv_formx : formT 1 [120] = [120] := by kernel_rfl
theorem lv_is0 : formT 0 [101, 204, 129] = [101, 204, 129] := by kernel_rfl
theorem lv_join : jnT 101 769 = some 233 := by kernel_rfl
theorem lv_order : odT 769 = 230 := by kernel_rfl
theorem lv_w1 : wholeN [101] = 1 := by kernel_rfl
theorem lv_w3 : wholeN [101, 204, 129] = 3 := by kernel_rfl
theorem lv_w4 : wholeN [101, 204, 129, 120] = 4 := by kernel_rfl
theorem lv_firm : firmT 1 769 = false := by kernel_rfl
theorem lv_firmx : firmT 1 120 = true := by kernel_rfl
theorem lv_cut1 : CutAt (([101] : List UInt8).take (wholeN [101])) 1 0 := by
 rw [lv_w1]
 exact ⟨.inl rfl, fun k h1 h2 => by simp at h2; omega⟩
theorem lv_cut3 : CutAt (([101, 204, 129] : List UInt8).take (wholeN [101, 204, 129])) 1 0 := by
 rw [lv_w3]
 refine ⟨.inl rfl, fun k h1 h2 => ?_⟩
 simp at h2
 rcases (show k = 1 ∨ k = 2 by omega) with rfl | rfl
 ·rintro ⟨_, h | h | h⟩
  ·simp at h
  ·have : dec [204, 129] = (769, 2) := by kernel_rfl
   rw [show (([101, 204, 129] : List UInt8).take 3).drop ((1 : Nat) : Int).toNat = [204, 129] from rfl, this] at h
   simp at h
  ·have : run [204, 129] = 769 := by kernel_rfl
   rw [show (([101, 204, 129] : List UInt8).take 3).drop ((1 : Nat) : Int).toNat = [204, 129] from rfl, this] at h
   have h9 := lv_firm
   simp at h
   rw [h9] at h
   cases h
 ·rintro ⟨⟨_, _, h⟩, _⟩
  have h1 := h 1 (by decide)
  have h2 : wid ((([101, 204, 129] : List UInt8).take 3).drop 1) = 2 := by kernel_rfl
  rw [h2] at h1
  exact absurd h1 (by decide)
theorem lv_cut4 : CutAt (([101, 204, 129, 120] : List UInt8).take (wholeN [101, 204, 129, 120])) 1 3 := by
 rw [lv_w4]
 refine ⟨.inr ⟨by omega, by simp, ⟨⟨by omega, by simp, ?_⟩, .inr (.inr ?_)⟩⟩, fun k h1 h2 => by simp at h2; omega⟩
 ·intro j hj
  have h0 : wid ((([101, 204, 129, 120] : List UInt8).take 4).drop 0) = 1 := by kernel_rfl
  have h1 : wid ((([101, 204, 129, 120] : List UInt8).take 4).drop 1) = 2 := by kernel_rfl
  have h2 : wid ((([101, 204, 129, 120] : List UInt8).take 4).drop 2) = 1 := by kernel_rfl
  rcases (show j = 0 ∨ j = 1 ∨ j = 2 by have : j < 3 := hj; omega) with rfl | rfl | rfl
  ·rw [h0]; decide
  ·rw [h1]; decide
  ·rw [h2]; decide
 ·exact lv_firmx
set_option maxRecDepth 100000 in
set_option maxHeartbeats 4000000 in
theorem c_New_no (f : Int) (hf : ¬ (0 ≤ f ∧ f ≤ 3)) (w : World) :
  Calls Tryz.prog 16 #[.int .i64 f] w fun e w' => e = .returned (.tuple #[.pointer none, .int .i64 180]) ∧ w' = w := by
 have HC := Lib.hid (show ∀ w, Calls Tryz.prog 33 #[.int .i64 f] w fun e w' => e = .returned (.bool false) ∧ w' = w from fun w => by rw [← decide_eq_false hf]; exact c_right f w)
 clear hf
 go_enter Tryz.func16, Tryz.ntmps16
 go_wp2_with fail
 refine (HC.out w).mono ?_
 rintro e w3 ⟨rfl, e3⟩
 obtain rfl := e3.symm
 clear e3
 go_wp2_with fail
 exact ret_two rfl rfl rfl rfl ⟨rfl, rfl⟩
theorem c_num (n : Int) (w : World) : Calls Tryz.prog 18 #[.int .i64 n] w fun e w' => e = .returned (.int .i64 n) ∧ w' = w := by
 go_enter Tryz.func18, Tryz.ntmps18
 go_wp2_with fail
 go_ret
 exact ⟨rfl, rfl⟩
theorem lv_wr1 (W1 : World × World) (nb tB xB pb pc : Nat) (w : World) (h : StrAt W1 nb tB xB 1 ⟨#[]⟩ w) (hp : ∀ j (h : j < ([101] : List UInt8).length), w.cell? ⟨pb, j, none⟩ = some (.int .u8 ([101] : List UInt8)[j].toNat)) :
  Calls Tryz.prog 21 #[.pointer (some ⟨xB, 0, none⟩), .slice (some ⟨pb, 0, none⟩) 1 pc] w fun e w' => e = .returned (.string ⟨#[]⟩) ∧ StrAt W1 nb tB xB 1 ⟨#[101]⟩ w' :=
 c_Write W1 nb tB xB pb pc 1 (by decide) ⟨#[]⟩ ⟨#[101]⟩ [101] 0 w h hp rfl (by decide) (by decide) lv_cut1
theorem lv_wr2 (W1 : World × World) (nb tB xB pb pc : Nat) (w : World) (h : StrAt W1 nb tB xB 1 ⟨#[101]⟩ w) (hp : ∀ j (h : j < ([204, 129] : List UInt8).length), w.cell? ⟨pb, j, none⟩ = some (.int .u8 ([204, 129] : List UInt8)[j].toNat)) :
  Calls Tryz.prog 21 #[.pointer (some ⟨xB, 0, none⟩), .slice (some ⟨pb, 0, none⟩) 2 pc] w fun e w' => e = .returned (.string ⟨#[]⟩) ∧ StrAt W1 nb tB xB 1 ⟨#[101, 204, 129]⟩ w' :=
 c_Write W1 nb tB xB pb pc 1 (by decide) ⟨#[101]⟩ ⟨#[101, 204, 129]⟩ [204, 129] 0 w h hp rfl (by decide) (by decide) lv_cut3
theorem lv_wr3 (W1 : World × World) (nb tB xB pb pc : Nat) (w : World) (h : StrAt W1 nb tB xB 1 ⟨#[101, 204, 129]⟩ w) (hp : ∀ j (h : j < ([120] : List UInt8).length), w.cell? ⟨pb, j, none⟩ = some (.int .u8 ([120] : List UInt8)[j].toNat)) :
  Calls Tryz.prog 21 #[.pointer (some ⟨xB, 0, none⟩), .slice (some ⟨pb, 0, none⟩) 1 pc] w fun e w' => e = .returned (.string ⟨#[195, 169]⟩) ∧ StrAt W1 nb tB xB 1 ⟨#[120]⟩ w' := by
 have h1 := c_Write W1 nb tB xB pb pc 1 (by decide) ⟨#[101, 204, 129]⟩ ⟨#[101, 204, 129, 120]⟩ [120] 3 w h hp rfl (by decide) (by decide) lv_cut4
 rw [if_neg (by decide), show (⟨#[101, 204, 129, 120]⟩ : ByteArray).data.toList.take 3 = [101, 204, 129] from rfl, lv_form1] at h1
 exact h1
theorem lv_cl (W1 : World × World) (nb tB xB : Nat) (w : World) (h : StrAt W1 nb tB xB 1 ⟨#[120]⟩ w) :
  Calls Tryz.prog 19 #[.pointer (some ⟨xB, 0, none⟩)] w fun e w' => e = .returned (.string ⟨#[120]⟩) ∧ StrAt W1 nb tB xB 1 ⟨#[]⟩ w' := by
 have h1 := c_Close W1 nb tB xB 1 (by decide) ⟨#[120]⟩ (by decide) w h
 rw [show (⟨#[120]⟩ : ByteArray).data.toList = [120] from rfl, lv_formx] at h1
 exact h1
theorem lv_f0 (w : World) (hT : Tabs w) : Calls Tryz.prog 11 #[.string ⟨#[195, 169]⟩, .int .i64 0] w fun e w' => e = .returned (.string ⟨#[101, 204, 129]⟩) ∧ Ext w w' := by
 have h1 := c_Form ⟨#[195, 169]⟩ 0 w hT (by decide)
 rw [show (⟨#[195, 169]⟩ : ByteArray).data.toList = [195, 169] from rfl, lv_form0] at h1
 exact h1
theorem lv_f1 (w : World) (hT : Tabs w) : Calls Tryz.prog 11 #[.string ⟨#[101, 204, 129]⟩, .int .i64 1] w fun e w' => e = .returned (.string ⟨#[195, 169]⟩) ∧ Ext w w' := by
 have h1 := c_Form ⟨#[101, 204, 129]⟩ 1 w hT (by decide)
 rw [show (⟨#[101, 204, 129]⟩ : ByteArray).data.toList = [101, 204, 129] from rfl, lv_form1] at h1
 exact h1
theorem lv_i0 (w : World) (hT : Tabs w) : Calls Tryz.prog 12 #[.string ⟨#[101, 204, 129]⟩, .int .i64 0] w fun e w' => e = .returned (.bool true) ∧ Ext w w' :=
 c_Is' ⟨#[101, 204, 129]⟩ 0 true ⟨fun _ => lv_is0, fun _ => rfl⟩ w hT (by decide)
theorem lv_i1 (w : World) (hT : Tabs w) : Calls Tryz.prog 12 #[.string ⟨#[101, 204, 129]⟩, .int .i64 1] w fun e w' => e = .returned (.bool false) ∧ Ext w w' :=
 c_Is' ⟨#[101, 204, 129]⟩ 1 false ⟨(fun h => by cases h), fun h => by
  rw [show (⟨#[101, 204, 129]⟩ : ByteArray).data.toList = [101, 204, 129] from rfl, lv_form1] at h
  exact absurd h (by decide)⟩ w hT (by decide)
theorem lv_j (w : World) (hT : Tabs w) : Calls Tryz.prog 25 #[.int .i32 101, .int .i32 769] w fun e w' => e = .returned (.tuple #[.int .i32 233, .bool true]) ∧ Ext w w' := by
 have h1 := c_Join 101 769 w hT (by decide) (by decide)
 rw [lv_join] at h1
 exact h1
theorem lv_o (w : World) (hT : Tabs w) : Calls Tryz.prog 27 #[.int .i32 769] w fun e w' => e = .returned (.int .i64 230) ∧ Ext w w' := by
 have h1 := c_Order 769 w hT
 rw [lv_order] at h1
 exact h1
set_option maxRecDepth 100000 in
set_option maxHeartbeats 8000000 in
theorem c_live (w : World) (hT : Tabs w) : Calls Tryz.prog 8 #[] w fun e w' => e = .returned (.bool true) ∧ Ext w w' := by
 have hcv := fun (t : ByteArray) (w : World) => Lib.run_convert_string_bytes (P := Tryz.prog) w 9 38 5 t Tryz.underlying9 Tryz.underlying38 Tryz.underlying5
 have hcc := fun (w : World) (C : Array Value) (n c : Nat) => Lib.run_convert_bytes_const (P := Tryz.prog) w 38 5 C n c Tryz.underlying38 Tryz.underlying5
 go_enter Tryz.func8, Tryz.ntmps8
 go_wp2_with fail
 refine (c_New 1 (by decide) w hT).mono ?_
 rintro e w1 ⟨W1, nb, tB, xB, rfl, hS1, hx1, hxW⟩
 have HS1 := Lib.hid hS1
 have HXW := Lib.hid hxW
 clear hS1 hx1 hxW
 go_wp2_with fail
 refine (c_num _ _).mono ?_
 rintro e wn ⟨rfl, en⟩
 obtain rfl := en.symm
 clear en
 go_wp2_with fail
 have hxb := (Ext.refl w1).alloc (.cells #[.int .u8 101] 5 (1, 2))
 have hbk := World.alloc_heap_new w1 (.cells #[.int .u8 101] 5 (1, 2))
 generalize w1.alloc (.cells #[.int .u8 101] 5 (1, 2)) = w2 at hxb hbk ⊢
 generalize w1.heap.size = pb at hbk ⊢
 refine (lv_wr1 W1 nb tB xB pb _ w2 (HS1.out.more hxb) (fun j hj => by
  obtain rfl : j = 0 := by simp at hj; omega
  exact (cell_blk hbk 0).trans rfl)).mono ?_
 rintro e w3 ⟨rfl, hS3⟩
 have HS3 := Lib.hid hS3
 clear hS3 hxb hbk HS1
 go_wp2_with fail
 have hxb := (Ext.refl w3).alloc (.cells #[.int .u8 204, .int .u8 129] 5 (2, 3))
 have hbk := World.alloc_heap_new w3 (.cells #[.int .u8 204, .int .u8 129] 5 (2, 3))
 generalize w3.alloc (.cells #[.int .u8 204, .int .u8 129] 5 (2, 3)) = w4 at hxb hbk ⊢
 generalize w3.heap.size = pb2 at hbk ⊢
 refine (lv_wr2 W1 nb tB xB pb2 _ w4 (HS3.out.more hxb) (fun j hj => by
  rcases (show j = 0 ∨ j = 1 by simp at hj; omega) with rfl | rfl
  ·exact (cell_blk hbk 0).trans rfl
  ·exact (cell_blk hbk 1).trans rfl)).mono ?_
 rintro e w5 ⟨rfl, hS5⟩
 have HS5 := Lib.hid hS5
 clear hS5 hxb hbk HS3
 go_wp2_with fail
 have hxb := (Ext.refl w5).alloc (.cells #[.int .u8 120] 5 (1, 2))
 have hbk := World.alloc_heap_new w5 (.cells #[.int .u8 120] 5 (1, 2))
 generalize w5.alloc (.cells #[.int .u8 120] 5 (1, 2)) = w6 at hxb hbk ⊢
 generalize w5.heap.size = pb3 at hbk ⊢
 refine (lv_wr3 W1 nb tB xB pb3 _ w6 (HS5.out.more hxb) (fun j hj => by
  obtain rfl : j = 0 := by simp at hj; omega
  exact (cell_blk hbk 0).trans rfl)).mono ?_
 rintro e w7 ⟨rfl, hS7⟩
 have HS7 := Lib.hid hS7
 clear hS7 hxb hbk HS5
 go_wp2_with fail
 refine (lv_cl W1 nb tB xB w7 HS7.out).mono ?_
 rintro e w8 ⟨rfl, hS8⟩
 have hx8 := HXW.out.trans hS8.ext
 have HX8 := Lib.hid hx8
 have HT8 := Lib.hid (hT.ext hx8)
 clear hS8 HS7 hx8 HXW
 go_wp2_with fail
 refine (c_New_no 9 (by decide) w8).mono ?_
 rintro e wn ⟨rfl, en⟩
 obtain rfl := en.symm
 clear en
 go_wp2_with fail
 refine (lv_j w8 HT8.out).mono ?_
 rintro e w9 ⟨rfl, hx9⟩
 have HX9 := Lib.hid (HX8.out.trans hx9)
 clear hx9 HX8 HT8
 go_wp2_with fail
 refine (lv_f0 w9 (hT.ext HX9.out)).mono ?_
 rintro e w10 ⟨rfl, hx10⟩
 have HX10 := Lib.hid (HX9.out.trans hx10)
 clear hx10 HX9
 go_wp2_with fail
 refine (lv_f1 w10 (hT.ext HX10.out)).mono ?_
 rintro e w11 ⟨rfl, hx11⟩
 have HX11 := Lib.hid (HX10.out.trans hx11)
 clear hx11 HX10
 go_wp2_with fail
 refine (c_num _ _).mono ?_
 rintro e wn ⟨rfl, en⟩
 obtain rfl := en.symm
 clear en
 go_wp2_with fail
 refine (lv_o w11 (hT.ext HX11.out)).mono ?_
 rintro e w12 ⟨rfl, hx12⟩
 have HX12 := Lib.hid (HX11.out.trans hx12)
 clear hx12 HX11
 go_wp2_with fail
 refine (lv_i0 w12 (hT.ext HX12.out)).mono ?_
 rintro e w13 ⟨rfl, hx13⟩
 have HX13 := Lib.hid (HX12.out.trans hx13)
 clear hx13 HX12
 go_wp2_with fail
 refine (lv_i1 w13 (hT.ext HX13.out)).mono ?_
 rintro e w14 ⟨rfl, hx14⟩
 have HX14 := Lib.hid (HX13.out.trans hx14)
 clear hx14 HX13
 go_wp2_with fail
 exact ret_one rfl rfl rfl ⟨rfl, HX14.out⟩
end Go.Proofs.YteokfknkcbmigaaGreatDoor
end

section
namespace Go.Proofs.YteokfknkcbmigaaGreatDoor
open Go.RowKit Go.Rp Go.Shelf Go.Maps Go.Nm

/-- The last form, loose if one of them was. -/
def lastF (a b : Int) : Int := if 2 ≤ a ∧ b < 2 then b + 2 else b
theorem form_last {a b : Int} (ha : 0 ≤ a ∧ a ≤ 3) (hb : 0 ≤ b ∧ b ≤ 3) (s : List UInt8) : formT b (formT a s) = formT (lastF a b) s := by
 have hc : 0 ≤ lastF a b ∧ lastF a b ≤ 3 := by unfold lastF; split <;> omega
 unfold formT
 rw [if_pos ha, if_pos hb, if_pos hc, form_form tbT_ok]
 have h1 : (decide (a = 2 ∨ a = 3) || decide (b = 2 ∨ b = 3)) = decide (lastF a b = 2 ∨ lastF a b = 3) := by
  rw [Bool.eq_iff_iff, Bool.or_eq_true, decide_eq_true_eq, decide_eq_true_eq, decide_eq_true_eq]
  unfold lastF
  split <;> omega
 have h2 : decide (b = 1 ∨ b = 3) = decide (lastF a b = 1 ∨ lastF a b = 3) := by
  rw [decide_eq_decide]
  unfold lastF
  split <;> omega
 rw [h1, h2]
theorem form_self {a : Int} (ha : 0 ≤ a ∧ a ≤ 3) (s : List UInt8) : formT a (formT a s) = formT a s := by
 rw [form_last ha ha]
 congr 1
 unfold lastF
 split <;> omega
end Go.Proofs.YteokfknkcbmigaaGreatDoor
end

section
namespace Go.Proofs.YteokfknkcbmigaaGreatDoor
open Go.RowKit Go.Rp Go.Shelf Go.Maps Go.Nm

theorem scT_none {r : Int} (h : scT r = false) (a : Int) : jnT a r = none := by
 cases hj : jnT a r with
 | none => rfl
 | some x =>
  exfalso
  unfold scT at h
  simp only [Bool.or_eq_false_iff, Bool.and_eq_false_iff, decide_eq_false_iff_not] at h
  unfold jnT at hj
  split at hj
  ·rename_i hc
   omega
  ·split at hj
   ·rename_i hc
    omega
   ·have hm := jnL_some.1 hj
    have := List.any_eq_false.1 h.1.1 _ hm
    simp at this
/-- Where a text is safe to be cut, both sides' forms are the form. -/
theorem cut_form {s : List UInt8} {k : Nat} {f : Int} (h : SafeT s k f) (h0 : 0 < k) (h1 : k < s.length) : formT f s = formT f (s.take k) ++ formT f (s.drop k) := by
 obtain ⟨⟨_, _, he⟩, hs⟩ := h
 have hne : s.drop k ≠ [] := by
  intro e
  have := congrArg List.length e
  rw [List.length_drop, List.length_nil] at this
  omega
 have hk : ((k : Nat) : Int).toNat = k := rfl
 rw [hk] at he hs
 unfold formT
 by_cases hf : 0 ≤ f ∧ f ≤ 3
 ·rw [if_pos hf, if_pos hf, if_pos hf]
  have hr := rawOf_split s.length s k (Nat.le_refl _) (by omega) he
  refine form_cut _ _ hr (fun z hz => ?_)
  rw [rawOf_step _ hne] at hz
  rcases hs with h | h | h
  ·rcases h with h | h | h
   ·omega
   ·omega
   ·exact absurd hf h
  ·have hrw : run (s.drop k) = 65533 ∧ wid (s.drop k) = 1 := ⟨congrArg Prod.fst h, congrArg Prod.snd h⟩
   rw [if_pos hrw] at hz
   simp only [Tb.els, List.flatMap_cons, if_true, List.cons_append, List.nil_append, List.head?_cons, Option.mem_def, Option.some.injEq] at hz
   subst hz
   exact ⟨rfl, .inl rfl⟩
  ·by_cases hrw : run (s.drop k) = 65533 ∧ wid (s.drop k) = 1
   ·rw [if_pos hrw] at hz
    simp only [Tb.els, List.flatMap_cons, if_true, List.cons_append, List.nil_append, List.head?_cons, Option.mem_def, Option.some.injEq] at hz
    subst hz
    exact ⟨rfl, .inl rfl⟩
   ·rw [if_neg hrw] at hz
    obtain ⟨r, hr⟩ : ∃ r : Int, ((run (s.drop k) : Nat) : Int) = r := ⟨_, rfl⟩
    rw [hr] at hz h
    unfold firmT at h
    have hl := (faT_len (decide (f = 2 ∨ f = 3)) r).1
    obtain ⟨q, t, hqt⟩ : ∃ q t, faT (decide (f = 2 ∨ f = 3)) r = q :: t := by
     cases hq : faT (decide (f = 2 ∨ f = 3)) r with
     | nil => rw [hq] at hl; simp at hl
     | cons q t => exact ⟨q, t, rfl⟩
    rw [hqt, List.headD_cons, Bool.and_eq_true, decide_eq_true_eq] at h
    have hz2 : z = tbT.mk1 q := by
     simp only [Tb.els, List.flatMap_cons] at hz
     rw [if_neg (by simp), show tbT.fa (decide (f = 2 ∨ f = 3)) r = q :: t from hqt] at hz
     simpa using hz.symm
    subst hz2
    refine ⟨h.1, .inr (fun hc a => ?_)⟩
    have h2 := h.2
    rw [show (decide (f = 1 ∨ f = 3)) = true from hc] at h2
    simp only [Bool.true_and, Bool.not_eq_true'] at h2
    exact scT_none h2 a
 ·rw [if_neg hf, if_neg hf, if_neg hf, List.take_append_drop]
theorem safe_ends (s : List UInt8) (f : Int) : SafeT s 0 f ∧ SafeT s (s.length : Nat) f := by
 refine ⟨⟨⟨by omega, by omega, edge_zero s⟩, .inl (.inl rfl)⟩, ⟨⟨by omega, by omega, ?_⟩, .inl (.inr (.inl rfl))⟩⟩
 exact edge_end s
end Go.Proofs.YteokfknkcbmigaaGreatDoor
end

section
namespace Go.Proofs.YteokfknkcbmigaaGreatDoor
open Go.RowKit Go.Rp Go.Shelf Go.Maps Go.Nm

theorem heldGo_end : ∀ (n : Nat) (l : List UInt8), l.length ≤ n → (heldGo n l = [] ∨ fullB (heldGo n l) = false) ∧ ∃ k, k ≤ l.length ∧ heldGo n l = l.drop k
 | 0, l, h => by
  obtain rfl : l = [] := List.length_eq_zero_iff.1 (by omega)
  exact ⟨.inl rfl, 0, Nat.le_refl _, rfl⟩
 | n + 1, l, h => by
  rw [heldGo]
  split
  ·rename_i hc
   exact ⟨hc, 0, Nat.zero_le _, rfl⟩
  ·rename_i hc
   have hne : l ≠ [] := fun e => hc (.inl e)
   have hw := wid_pos l
   have hw2 := wid_le l hne
   obtain ⟨h1, k, hk, h2⟩ := heldGo_end n (l.drop (wid l)) (by rw [List.length_drop]; omega)
   rw [List.length_drop] at hk
   exact ⟨h1, wid l + k, by omega, by rw [h2, List.drop_drop]⟩
theorem full_cont {l : List UInt8} (hne : l ≠ []) (h : isCont (l.getD 0 0)) : fullB l = true := by
 have hl : 0 < l.length := List.length_pos_iff.2 hne
 have hk : ∀ x : Fin 256, x.1 / 64 = 2 → Lib.firstT x.1 % 8 ≤ 1 := by decide +kernel
 have h1 := hk ⟨(l.getD 0 0).toNat, UInt8.toNat_lt _⟩ h
 unfold fullB fullN
 rw [decide_eq_true (show Lib.firstT (l.getD 0 0).toNat % 8 ≤ l.length by simp only at h1; omega)]
 rfl
theorem held_at (l : List UInt8) : ∃ m, wholeN l = m ∧ m ≤ l.length ∧ (l.drop m = [] ∨ fullB (l.drop m) = false) := by
 obtain ⟨h1, k, hk, h2⟩ := heldGo_end (l.drop (l.length - 3)).length (l.drop (l.length - 3)) (Nat.le_refl _)
 rw [List.length_drop] at hk
 have e : (heldL (l.drop (l.length - 3))) = l.drop (l.length - 3 + k) := by
  unfold heldL
  rw [h2, List.drop_drop]
 have hw : wholeN l = l.length - 3 + k := by
  unfold wholeN
  rw [e, List.length_drop]
  omega
 refine ⟨_, hw, by omega, ?_⟩
 have h3 : l.drop (l.length - 3 + k) = heldGo (l.drop (l.length - 3)).length (l.drop (l.length - 3)) := by rw [h2, List.drop_drop]
 rw [h3]
 exact h1
/-- What is held back begins a rune. -/
theorem edge_whole (l : List UInt8) : edge l (wholeN l) := by
 obtain ⟨m, hm, hml, hf⟩ := held_at l
 rw [hm]
 intro j hj
 apply Decidable.byContradiction
 intro hc
 have hwl := wid_le (l.drop j) (by
  intro e
  have := congrArg List.length e
  rw [List.length_drop, List.length_nil] at this
  omega)
 rw [List.length_drop] at hwl
 have hcont := wid_cont (l.drop j) (m - j) (by omega) (by omega)
 have e : (l.drop j).getD (m - j) 0 = (l.drop m).getD 0 0 := by
  rw [List.getD_eq_getElem?_getD, List.getD_eq_getElem?_getD, List.getElem?_drop, List.getElem?_drop, show j + (m - j) = m + 0 by omega]
 rw [e] at hcont
 have hne : l.drop m ≠ [] := by
  intro e2
  have := congrArg List.length e2
  rw [List.length_drop, List.length_nil] at this
  omega
 rcases hf with h | h
 ·exact hne h
 ·rw [full_cont hne hcont] at h
  cases h
theorem edge_take {l : List UInt8} {m k : Nat} (hm : edge l m) (hml : m ≤ l.length) (hk : k ≤ m) (h : edge (l.take m) k) : edge l k := by
 intro j hj
 have h1 := h j hj
 have h2 : dec ((l.drop j).take (m - j)) = dec (l.drop j) := wid_head _ _ (by
  intro e
  have := congrArg List.length e
  rw [List.length_drop, List.length_nil] at this
  omega) (by have := hm j (by omega); omega)
 have h3 : (l.take m).drop j = (l.drop j).take (m - j) := by rw [List.drop_take]
 unfold wid at h1 ⊢
 rw [h3, h2] at h1
 exact h1
/-- Safe in the part of whole runes is safe in all. -/
theorem safe_take {l : List UInt8} {m k : Nat} {f : Int} (hm : edge l m) (hml : m ≤ l.length) (h0 : 0 < k) (hk : k < m) (h : SafeT (l.take m) k f) : SafeT l k f := by
 obtain ⟨⟨_, _, he⟩, hs⟩ := h
 have hkn : ((k : Nat) : Int).toNat = k := rfl
 rw [hkn] at he hs
 have hd : dec ((l.take m).drop k) = dec (l.drop k) := by
  rw [List.drop_take]
  exact wid_head _ _ (by
   intro e
   have := congrArg List.length e
   rw [List.length_drop, List.length_nil] at this
   omega) (by have := hm k hk; omega)
 refine ⟨⟨by omega, by omega, ?_⟩, ?_⟩
 ·rw [hkn]; exact edge_take hm hml (by omega) he
 ·rw [hkn]
  rcases hs with h | h | h
  ·rcases h with h | h | h
   ·omega
   ·rw [List.length_take] at h; omega
   ·exact .inl (.inr (.inr h))
  ·exact .inr (.inl (by rw [← hd]; exact h))
  ·exact .inr (.inr (by unfold run at h ⊢; rw [← hd]; exact h))
/-- What is told, and what is held. -/
theorem told_held {l : List UInt8} {f : Int} {k : Nat} (h : CutAt (l.take (wholeN l)) f k) : (if k = 0 then [] else formT f (l.take k)) ++ formT f (l.drop k) = formT f l := by
 by_cases h0 : k = 0
 ·subst h0
  rw [if_pos rfl, List.nil_append, List.drop_zero]
 ·rw [if_neg h0]
  obtain ⟨m, hm, hml, _⟩ := held_at l
  have he := edge_whole l
  rcases h.1 with h1 | ⟨h1, h2, h3⟩
  ·exact absurd h1 h0
  ·rw [List.length_take, hm] at h2
   rw [hm] at h3 he
   exact (cut_form (safe_take he hml h1 (by omega) h3) h1 (by omega)).symm
theorem full_wid (n m x0 x1 x2 y1 y2 y3 : Nat) (hn : 1 ≤ n) (h0 : x0 < 256) (h1 : 1 < n → y1 = x1) (h2 : 2 < n → y2 = x2) (hf : fullN n x0 x1 x2 = true) : (Lib.decodeN m x0 y1 y2 y3).2 ≤ n := by
 have hA2 : ∀ x : Fin 256, 194 ≤ x.1 → x.1 < 224 → Lib.firstT x.1 % 8 = 2 := by decide +kernel
 have hA3 : ∀ x : Fin 256, 224 ≤ x.1 → x.1 < 240 → Lib.firstT x.1 % 8 = 3 := by decide +kernel
 have hA3a : Lib.firstT 224 / 16 = 1 ∧ Lib.firstT 237 / 16 = 2 := by decide +kernel
 have hA3b : ∀ x : Fin 256, 224 ≤ x.1 → x.1 < 240 → x.1 ≠ 224 → x.1 ≠ 237 → Lib.firstT x.1 / 16 = 0 := by decide +kernel
 have hA4 : ∀ x : Fin 256, 240 ≤ x.1 → x.1 < 245 → Lib.firstT x.1 % 8 = 4 := by decide +kernel
 have hA4a : Lib.firstT 240 / 16 = 3 ∧ Lib.firstT 244 / 16 = 4 := by decide +kernel
 have hA4b : ∀ x : Fin 256, 240 ≤ x.1 → x.1 < 245 → x.1 ≠ 240 → x.1 ≠ 244 → Lib.firstT x.1 / 16 = 0 := by decide +kernel
 have a2 : 194 ≤ x0 → x0 < 224 → Lib.firstT x0 % 8 = 2 := hA2 ⟨x0, h0⟩
 have a3 : 224 ≤ x0 → x0 < 240 → Lib.firstT x0 % 8 = 3 ∧ (x0 = 224 → Lib.firstT x0 / 16 = 1) ∧ (x0 = 237 → Lib.firstT x0 / 16 = 2) ∧ (x0 ≠ 224 → x0 ≠ 237 → Lib.firstT x0 / 16 = 0) := fun u v =>
  ⟨hA3 ⟨x0, h0⟩ u v, fun e => by rw [e]; exact hA3a.1, fun e => by rw [e]; exact hA3a.2, hA3b ⟨x0, h0⟩ u v⟩
 have a4 : 240 ≤ x0 → x0 < 245 → Lib.firstT x0 % 8 = 4 ∧ (x0 = 240 → Lib.firstT x0 / 16 = 3) ∧ (x0 = 244 → Lib.firstT x0 / 16 = 4) ∧ (x0 ≠ 240 → x0 ≠ 244 → Lib.firstT x0 / 16 = 0) := fun u v =>
  ⟨hA4 ⟨x0, h0⟩ u v, fun e => by rw [e]; exact hA4a.1, fun e => by rw [e]; exact hA4a.2, hA4b ⟨x0, h0⟩ u v⟩
 clear hA2 hA3 hA3a hA3b hA4 hA4a hA4b
 have hL : Lib.accLo 0 = 128 ∧ Lib.accLo 1 = 160 ∧ Lib.accLo 2 = 128 ∧ Lib.accLo 3 = 144 ∧ Lib.accLo 4 = 128 ∧ Lib.accHi 0 = 191 ∧ Lib.accHi 1 = 191 ∧ Lib.accHi 2 = 159 ∧ Lib.accHi 3 = 191 ∧ Lib.accHi 4 = 143 := by decide
 obtain ⟨p0, p1, p2, p3, p4, q0, q1, q2, q3, q4⟩ := hL
 unfold fullN at hf
 simp only [Bool.or_eq_true, Bool.and_eq_true, decide_eq_true_eq] at hf
 generalize hs : Lib.firstT x0 % 8 = sz at *
 generalize ha : Lib.firstT x0 / 16 = ac at *
 apply Decidable.byContradiction
 intro hc
 unfold Lib.decodeN at hc
 split at hc
 ·simp only at hc; omega
 split at hc
 ·split at hc
  ·simp only at hc
   rename_i c1 c2 c3
   have := a2 (by omega) (by omega)
   omega
  ·simp only at hc; omega
 split at hc
 ·split at hc
  ·simp only at hc
   rename_i c1 c2 c3 c4
   obtain ⟨b1, b2, b3, b4⟩ := a3 (by omega) (by omega)
   rcases hf with (hf | hf) | hf
   ·omega
   ·have e1 := h1 hf.1
    subst e1
    by_cases g1 : x0 = 224
    ·rw [b2 g1, p1, q1] at hf; subst g1; omega
    ·by_cases g2 : x0 = 237
     ·rw [b3 g2, p2, q2] at hf; subst g2; omega
     ·rw [b4 g1 g2, p0, q0] at hf; omega
   ·omega
  ·simp only at hc; omega
 split at hc
 ·split at hc
  ·simp only at hc
   rename_i c1 c2 c3 c4 c5
   obtain ⟨b1, b2, b3, b4⟩ := a4 (by omega) (by omega)
   rcases hf with (hf | hf) | hf
   ·omega
   ·have e1 := h1 hf.1
    subst e1
    by_cases g1 : x0 = 240
    ·rw [b2 g1, p3, q3] at hf; subst g1; omega
    ·by_cases g2 : x0 = 244
     ·rw [b3 g2, p4, q4] at hf; subst g2; omega
     ·rw [b4 g1 g2, p0, q0] at hf; omega
   ·have e2 := h2 hf.1
    subst e2
    omega
  ·simp only at hc; omega
 ·simp only at hc; omega
theorem full_wide {a : List UInt8} (hne : a ≠ []) (h : fullB a = true) (t : List UInt8) : wid (a ++ t) ≤ a.length := by
 have hl : 0 < a.length := List.length_pos_iff.2 hne
 have hg : ∀ i, i < a.length → (a ++ t).getD i 0 = a.getD i 0 := fun i hi => by
  rw [List.getD_eq_getElem?_getD, List.getD_eq_getElem?_getD, List.getElem?_append_left hi]
 unfold wid dec
 rw [hg 0 hl]
 exact full_wid a.length _ _ (a.getD 1 0).toNat (a.getD 2 0).toNat _ _ _ hl (UInt8.toNat_lt _) (fun h => by rw [hg 1 h]) (fun h => by rw [hg 2 h]) h
/-- All runes of a part are whole: its end is an edge, whatever comes. -/
theorem held_edge (t : List UInt8) : ∀ (n : Nat) (a : List UInt8), a.length ≤ n → heldGo n a = [] → edge (a ++ t) a.length
 | 0, a, h, _ => by
  intro j hj
  omega
 | n + 1, a, h, hh => by
  rw [heldGo] at hh
  split at hh
  ·rename_i hc
   intro j hj
   rw [hh] at hj
   simp at hj
  ·rename_i hc
   have hne : a ≠ [] := fun e => hc (.inl e)
   have hfull : fullB a = true := by
    cases hb : fullB a with
    | true => rfl
    | false => exact absurd (.inr hb) hc
   have hwp := wid_pos a
   have hwl := wid_le a hne
   have ih := held_edge t n (a.drop (wid a)) (by rw [List.length_drop]; omega) hh
   intro j hj
   by_cases h1 : j = 0
   ·subst h1
    rw [List.drop_zero, Nat.zero_add]
    exact full_wide hne hfull t
   ·by_cases h2 : j < wid a
    ·have hcn := wid_cont a j (by omega) h2
     have e : ((a ++ t).drop j).getD 0 0 = a.getD j 0 := by
      rw [List.getD_eq_getElem?_getD, List.getD_eq_getElem?_getD, List.getElem?_drop, List.getElem?_append_left (by omega), Nat.add_zero]
     have := dec_of_cont ((a ++ t).drop j) (by rw [e]; exact hcn)
     unfold wid
     rw [this]
     omega
    ·have h3 := ih (j - wid a) (by rw [List.length_drop]; omega)
     rw [List.length_drop, ← List.drop_append_of_le_length hwl, List.drop_drop, show wid a + (j - wid a) = j by omega] at h3
     omega
/-- Whatever comes behind, what is whole ends at an edge. -/
theorem edge_wholeT (l t : List UInt8) : edge (l ++ t) (wholeN l) := by
 obtain ⟨h1, k, hk, h2⟩ := heldGo_end (l.drop (l.length - 3)).length (l.drop (l.length - 3)) (Nat.le_refl _)
 obtain ⟨m, hm, hml, hf⟩ := held_at l
 rw [hm]
 intro j hj
 apply Decidable.byContradiction
 intro hc
 by_cases hlt : m < l.length
 ·have hcont := wid_cont ((l ++ t).drop j) (m - j) (by omega) (by omega)
  have e : ((l ++ t).drop j).getD (m - j) 0 = (l.drop m).getD 0 0 := by
   rw [List.getD_eq_getElem?_getD, List.getD_eq_getElem?_getD, List.getElem?_drop, List.getElem?_drop, List.getElem?_append_left (by omega), show j + (m - j) = m + 0 by omega]
  rw [e] at hcont
  have hne : l.drop m ≠ [] := by
   intro e2
   have := congrArg List.length e2
   rw [List.length_drop, List.length_nil] at this
   omega
  rcases hf with h | h
  ·exact hne h
  ·rw [full_cont hne hcont] at h
   cases h
 ·have hmE : m = l.length := by omega
  have hnil : heldGo (l.drop (l.length - 3)).length (l.drop (l.length - 3)) = [] := by
   apply List.length_eq_zero_iff.1
   have : wholeN l = l.length - (heldGo (l.drop (l.length - 3)).length (l.drop (l.length - 3))).length := rfl
   rw [hm, hmE] at this
   have h4 : (heldGo (l.drop (l.length - 3)).length (l.drop (l.length - 3))).length ≤ l.length := by
    rw [h2, List.length_drop, List.length_drop]
    omega
   have hl0 : l.length = 0 ∨ 0 < l.length := by omega
   omega
  have he := held_edge t _ _ (Nat.le_refl _) hnil
  have hw4 := wid_le4 ((l ++ t).drop j)
  have h5 := he (j - (l.length - 3)) (by rw [List.length_drop]; omega)
  rw [List.length_drop, ← List.drop_append_of_le_length (Nat.sub_le _ _), List.drop_drop, show l.length - 3 + (j - (l.length - 3)) = j by omega] at h5
  omega
/-- What is told, and what is held, whatever comes behind. -/
theorem told_heldT {l : List UInt8} {f : Int} {k : Nat} (h : CutAt (l.take (wholeN l)) f k) (t : List UInt8) : (if k = 0 then [] else formT f (l.take k)) ++ formT f (l.drop k ++ t) = formT f (l ++ t) := by
 by_cases h0 : k = 0
 ·subst h0
  rw [if_pos rfl, List.nil_append, List.drop_zero]
 ·rw [if_neg h0]
  obtain ⟨m, hm, hml, _⟩ := held_at l
  have he := edge_wholeT l t
  rcases h.1 with h1 | ⟨h1, h2, h3⟩
  ·exact absurd h1 h0
  ·rw [List.length_take, hm] at h2
   rw [hm] at h3 he
   have e1 : (l ++ t).take m = l.take m := List.take_append_of_le_length hml
   have h4 := cut_form (safe_take he (by rw [List.length_append]; omega) h1 (by omega) (by rw [e1]; exact h3)) h1 (by rw [List.length_append]; omega)
   rw [List.take_append_of_le_length (by omega), List.drop_append_of_le_length (by omega)] at h4
   exact h4.symm
/-- There is a place to cut at. -/
theorem cut_some (u : List UInt8) (f : Int) : ∃ k, CutAt u f k := by
 have : ∀ n, ∃ k, (k = 0 ∨ (0 < k ∧ k < u.length ∧ SafeT u k f)) ∧ ∀ j, k < j → j < u.length → j < n → ¬ SafeT u j f := by
  intro n
  induction n with
  | zero => exact ⟨0, .inl rfl, fun j _ _ h => by omega⟩
  | succ n ih =>
   by_cases h : 0 < n ∧ n < u.length ∧ SafeT u n f
   ·exact ⟨n, .inr h, fun j h1 _ h2 => by omega⟩
   ·obtain ⟨k, h1, h2⟩ := ih
    refine ⟨k, h1, fun j h3 h4 h5 h6 => ?_⟩
    by_cases hj : j = n
    ·subst hj; exact h ⟨by omega, h4, h6⟩
    ·exact h2 j h3 h4 (by omega) h6
 obtain ⟨k, h1, h2⟩ := this u.length
 exact ⟨k, h1, fun j h3 h4 => h2 j h3 h4 h4⟩
end Go.Proofs.YteokfknkcbmigaaGreatDoor
end

section
namespace Go.Proofs.YteokfknkcbmigaaGreatDoor
open Go.RowKit Go.Rp Go.Shelf Go.Maps Go.Nm

def needN (x : Nat) : Nat := if 194 ≤ x ∧ x ≤ 223 then 2 else if 224 ≤ x ∧ x ≤ 239 then 3 else if 240 ≤ x ∧ x ≤ 244 then 4 else 1
def loN (x : Nat) : Nat := if x = 224 then 160 else if x = 240 then 144 else 128
def hiN (x : Nat) : Nat := if x = 237 then 159 else if x = 244 then 143 else 191
def begN (n x0 x1 x2 : Nat) : Bool := decide (0 < n ∧ n < needN x0 ∧ (1 < n → loN x0 ≤ x1 ∧ x1 ≤ hiN x0) ∧ (2 < n → 128 ≤ x2 ∧ x2 ≤ 191))
def begL (l : List UInt8) : Bool := begN l.length (l.getD 0 0).toNat (l.getD 1 0).toNat (l.getD 2 0).toNat
theorem need_first (x : Nat) (h : x < 256) : (needN x = 1 ∧ Lib.firstT x % 8 ≤ 1) ∨ (needN x = Lib.firstT x % 8 ∧ needN x ≤ 4 ∧ loN x = Lib.accLo (Lib.firstT x / 16) ∧ hiN x = Lib.accHi (Lib.firstT x / 16)) := by
 have : ∀ x : Fin 256, (needN x.1 = 1 ∧ Lib.firstT x.1 % 8 ≤ 1) ∨ (needN x.1 = Lib.firstT x.1 % 8 ∧ needN x.1 ≤ 4 ∧ loN x.1 = Lib.accLo (Lib.firstT x.1 / 16) ∧ hiN x.1 = Lib.accHi (Lib.firstT x.1 / 16)) := by decide +kernel
 exact this ⟨x, h⟩
theorem beg_full {l : List UInt8} (hne : l ≠ []) : begL l = !fullB l := by
 have hl : 0 < l.length := List.length_pos_iff.2 hne
 have h := need_first (l.getD 0 0).toNat (UInt8.toNat_lt _)
 rw [Bool.eq_iff_iff]
 unfold begL begN fullB fullN
 generalize (l.getD 0 0).toNat = x0 at *
 generalize (l.getD 1 0).toNat = x1 at *
 generalize (l.getD 2 0).toNat = x2 at *
 simp only [decide_eq_true_eq, Bool.not_eq_true', Bool.or_eq_false_iff, Bool.and_eq_false_iff, decide_eq_false_iff_not]
 rcases h with ⟨h1, h2⟩ | ⟨h1, h2, h3, h4⟩
 ·rw [h1]; omega
 ·rw [h3, h4, h1]; omega
def held3 (l : List UInt8) : Nat :=
 if 3 ≤ l.length ∧ begL (l.drop (l.length - 3)) = true then 3 else if 2 ≤ l.length ∧ begL (l.drop (l.length - 2)) = true then 2 else if 1 ≤ l.length ∧ begL (l.drop (l.length - 1)) = true then 1 else 0
theorem held_first : ∀ (n : Nat) (l : List UInt8), l.length ≤ n → ∀ p, p + (heldGo n l).length < l.length → fullB (l.drop p) = true
 | 0, l, h, p, hp => by omega
 | n + 1, l, h, p, hp => by
  rw [heldGo] at hp
  split at hp
  ·omega
  ·rename_i hc
   have hne : l ≠ [] := fun e => hc (.inl e)
   have hfull : fullB l = true := by
    cases hb : fullB l with
    | true => rfl
    | false => exact absurd (.inr hb) hc
   have hw := wid_pos l
   have hwl := wid_le l hne
   by_cases h0 : p = 0
   ·rw [h0, List.drop_zero]; exact hfull
   ·by_cases h1 : p < wid l
    ·have hcn := wid_cont l p (by omega) h1
     have e : (l.drop p).getD 0 0 = l.getD p 0 := by
      rw [List.getD_eq_getElem?_getD, List.getD_eq_getElem?_getD, List.getElem?_drop, Nat.add_zero]
     refine full_cont ?_ (by rw [e]; exact hcn)
     intro e2
     have := congrArg List.length e2
     rw [List.length_drop, List.length_nil] at this
     omega
    ·have := held_first n (l.drop (wid l)) (by rw [List.length_drop]; omega) (p - wid l) (by rw [List.length_drop]; omega)
     rwa [List.drop_drop, show wid l + (p - wid l) = p by omega] at this
/-- What is whole: the last three bytes tell. -/
theorem whole_first (l : List UInt8) : l.length - 3 ≤ wholeN l ∧ wholeN l ≤ l.length ∧ (wholeN l = l.length ∨ fullB (l.drop (wholeN l)) = false) ∧ ∀ p, l.length - 3 ≤ p → p < wholeN l → fullB (l.drop p) = true := by
 have hw : wholeN l = l.length - (heldGo (l.drop (l.length - 3)).length (l.drop (l.length - 3))).length := rfl
 obtain ⟨h1, k, hk, h2⟩ := heldGo_end (l.drop (l.length - 3)).length (l.drop (l.length - 3)) (Nat.le_refl _)
 have h3 := held_first (l.drop (l.length - 3)).length (l.drop (l.length - 3)) (Nat.le_refl _)
 have hlen : (heldGo (l.drop (l.length - 3)).length (l.drop (l.length - 3))).length = (l.drop (l.length - 3)).length - k := by rw [h2, List.length_drop]
 rw [hlen] at hw h3
 rw [List.length_drop] at hw h3 hk
 refine ⟨by omega, by omega, ?_, ?_⟩
 ·rcases h1 with h1 | h1
  ·left
   have := congrArg List.length h1
   rw [hlen, List.length_drop, List.length_nil] at this
   omega
  ·right
   rw [h2, List.drop_drop] at h1
   rw [show wholeN l = l.length - 3 + k by omega]
   exact h1
 ·intro p hp1 hp2
  have := h3 (p - (l.length - 3)) (by omega)
  rwa [List.drop_drop, show l.length - 3 + (p - (l.length - 3)) = p by omega] at this
theorem beg_of (l : List UInt8) (k : Nat) (h1 : 1 ≤ k) (hk : k ≤ l.length) : begL (l.drop (l.length - k)) = !fullB (l.drop (l.length - k)) := beg_full (by
 intro e
 have := congrArg List.length e
 rw [List.length_drop, List.length_nil] at this
 omega)
theorem held3_whole (l : List UInt8) : held3 l ≤ l.length ∧ l.length - held3 l = wholeN l := by
 obtain ⟨h1, h2, h3, h4⟩ := whole_first l
 have hn : ∀ k, 1 ≤ k → k ≤ 3 → k ≤ l.length → l.length - wholeN l < k → begL (l.drop (l.length - k)) = false := fun k a b c d => by
  rw [beg_of l k a c, h4 _ (by omega) (by omega)]; rfl
 have hy : ∀ k, 1 ≤ k → l.length - wholeN l = k → begL (l.drop (l.length - k)) = true := fun k a b => by
  rw [beg_of l k a (by omega)]
  rcases h3 with h | h
  ·omega
  ·rw [show l.length - k = wholeN l by omega, h]; rfl
 unfold held3
 split
 ·rename_i c
  refine ⟨c.1, ?_⟩
  apply Decidable.byContradiction
  intro hc
  rw [hn 3 (by omega) (by omega) c.1 (by omega)] at c
  cases c.2
 rename_i c3
 split
 ·rename_i c
  refine ⟨c.1, ?_⟩
  apply Decidable.byContradiction
  intro hc
  by_cases h : l.length - wholeN l < 2
  ·rw [hn 2 (by omega) (by omega) c.1 h] at c
   cases c.2
  ·exact c3 ⟨by omega, hy 3 (by omega) (by omega)⟩
 rename_i c2
 split
 ·rename_i c
  refine ⟨c.1, ?_⟩
  apply Decidable.byContradiction
  intro hc
  by_cases h : l.length - wholeN l < 1
  ·rw [hn 1 (by omega) (by omega) c.1 h] at c
   cases c.2
  ·by_cases h' : l.length - wholeN l = 2
   ·exact c2 ⟨by omega, hy 2 (by omega) h'⟩
   ·exact c3 ⟨by omega, hy 3 (by omega) (by omega)⟩
 rename_i c1
 refine ⟨Nat.zero_le _, ?_⟩
 apply Decidable.byContradiction
 intro hc
 by_cases h' : l.length - wholeN l = 1
 ·exact c1 ⟨by omega, hy 1 (by omega) h'⟩
 ·by_cases h'' : l.length - wholeN l = 2
  ·exact c2 ⟨by omega, hy 2 (by omega) h''⟩
  ·exact c3 ⟨by omega, hy 3 (by omega) (by omega)⟩
/-- Of a rest no more is held than of all. -/
theorem whole_rest (l : List UInt8) (k : Nat) (hk : k ≤ wholeN l) : wholeN (l.drop k) + k = wholeN l := by
 obtain ⟨h1, h2, h3, h4⟩ := whole_first l
 obtain ⟨g1, g2, g3, g4⟩ := whole_first (l.drop k)
 rw [List.length_drop] at g1 g2 g3 g4
 by_cases hlt : wholeN (l.drop k) + k < wholeN l
 ·have a := h4 (k + wholeN (l.drop k)) (by omega) (by omega)
  rcases g3 with g | g
  ·omega
  ·rw [List.drop_drop] at g
   rw [g] at a
   cases a
 ·by_cases hgt : wholeN l < wholeN (l.drop k) + k
  ·have a := g4 (wholeN l - k) (by omega) (by omega)
   rw [List.drop_drop, show k + (wholeN l - k) = wholeN l by omega] at a
   rcases h3 with h | h
   ·omega
   ·rw [h] at a
    cases a
  ·omega
theorem full_prefix {l t : List UInt8} (hne : l ≠ []) (h : fullB (l ++ t) = false) : fullB l = false := by
 have hl : 0 < l.length := List.length_pos_iff.2 hne
 have hg : ∀ i, i < l.length → (l ++ t).getD i 0 = l.getD i 0 := fun i hi => by
  rw [List.getD_eq_getElem?_getD, List.getD_eq_getElem?_getD, List.getElem?_append_left hi]
 unfold fullB fullN at h ⊢
 rw [hg 0 hl, List.length_append] at h
 simp only [Bool.or_eq_false_iff, Bool.and_eq_false_iff, decide_eq_false_iff_not] at h ⊢
 refine ⟨⟨by omega, ?_⟩, ?_⟩
 ·by_cases h1 : 1 < l.length
  ·rw [hg 1 h1] at h
   have := h.1.2
   omega
  ·exact .inl h1
 ·by_cases h2 : 2 < l.length
  ·rw [hg 2 h2] at h
   have := h.2
   omega
  ·exact .inl h2
/-- More text: no less of it is whole. -/
theorem whole_mono (l t : List UInt8) : wholeN l ≤ wholeN (l ++ t) := by
 obtain ⟨h1, h2, h3, h4⟩ := whole_first l
 obtain ⟨g1, g2, g3, g4⟩ := whole_first (l ++ t)
 rw [List.length_append] at g1 g2 g3 g4
 apply Decidable.byContradiction
 intro hc
 have a := h4 (wholeN (l ++ t)) (by omega) (by omega)
 rcases g3 with g | g
 ·omega
 ·rw [List.drop_append_of_le_length (by omega)] at g
  rw [full_prefix (by
   intro e
   have := congrArg List.length e
   rw [List.length_drop, List.length_nil] at this
   omega) g] at a
  cases a
theorem edge_drop {l : List UInt8} {k : Nat} (hk : edge l k) (j : Nat) : edge l (k + j) ↔ edge (l.drop k) j := by
 constructor
 ·intro h i hi
  have := h (k + i) (by omega)
  rw [List.drop_drop]
  omega
 ·intro h i hi
  by_cases hik : i < k
  ·have := hk i hik
   omega
  ·have := h (i - k) (by omega)
   rw [List.drop_drop, show k + (i - k) = i by omega] at this
   omega
/-- Safe in a rest, and in all. -/
theorem safe_drop {l : List UInt8} {k : Nat} {f : Int} (hk : edge l k) (hkl : k ≤ l.length) (j : Nat) (h0 : 0 < j) (hj : k + j < l.length) : SafeT l ((k + j : Nat) : Int) f ↔ SafeT (l.drop k) (j : Nat) f := by
 have e1 : ((k + j : Nat) : Int).toNat = k + j := rfl
 have e2 : ((j : Nat) : Int).toNat = j := rfl
 unfold SafeT
 rw [e1, e2, List.drop_drop, edge_drop hk, List.length_drop]
 constructor
 ·rintro ⟨⟨a, b, c⟩, d⟩
  exact ⟨⟨by omega, by omega, c⟩, by
   rcases d with d | d | d
   ·rcases d with d | d | d
    ·omega
    ·omega
    ·exact .inl (.inr (.inr d))
   ·exact .inr (.inl d)
   ·exact .inr (.inr d)⟩
 ·rintro ⟨⟨a, b, c⟩, d⟩
  exact ⟨⟨by omega, by omega, c⟩, by
   rcases d with d | d | d
   ·rcases d with d | d | d
    ·omega
    ·omega
    ·exact .inl (.inr (.inr d))
   ·exact .inr (.inl d)
   ·exact .inr (.inr d)⟩
/-- The greatest safe place of all, from which the rest's is taken. -/
def Best (u : List UInt8) (f : Int) (n b : Nat) : Prop := (b = 0 ∨ (0 < b ∧ b < n ∧ SafeT u b f)) ∧ ∀ j, b < j → j < n → ¬ SafeT u j f
theorem best_cut {l : List UInt8} {k b : Nat} {f : Int} (hk : edge (l.take (wholeN l)) k) (hkw : k ≤ wholeN l) (h : Best (l.take (wholeN l)) f (wholeN l) b) :
  ∃ c, CutAt ((l.drop k).take (wholeN (l.drop k))) f c ∧ (if b ≤ k then c = 0 else b = k + c ∧ 0 < c) := by
 have hwr := whole_rest l k hkw
 have hwl := (whole_first l).2.1
 have e : (l.drop k).take (wholeN (l.drop k)) = (l.take (wholeN l)).drop k := by
  rw [List.drop_take, show wholeN l - k = wholeN (l.drop k) by omega]
 have hlen : (l.take (wholeN l)).length = wholeN l := by rw [List.length_take]; omega
 rw [e]
 refine ⟨b - k, ⟨?_, ?_⟩, ?_⟩
 ·by_cases hb : b ≤ k
  ·left; omega
  ·right
   rcases h.1 with h1 | ⟨h1, h2, h3⟩
   ·omega
   ·refine ⟨by omega, by rw [List.length_drop, hlen]; omega, ?_⟩
    have := (safe_drop (f := f) hk (by omega) (b - k) (by omega) (by omega)).1 (by rw [show k + (b - k) = b by omega]; exact h3)
    exact this
 ·intro j h1 h2 h3
  rw [List.length_drop, hlen] at h2
  exact h.2 (k + j) (by omega) (by omega) ((safe_drop (f := f) hk (by omega) j (by omega) (by omega)).2 h3)
 ·split
  ·omega
  ·omega
end Go.Proofs.YteokfknkcbmigaaGreatDoor
end

section
namespace Go.Proofs.YteokfknkcbmigaaGreatDoor
open Go.RowKit Go.Rp Go.Shelf Go.Maps Go.Nm

def Tie (T : List UInt8) (k : Nat) (ws : List UInt8) : Prop :=
 ws = T.drop k ∧ ((T = [] → k = 0) ∧ (T ≠ [] → k < T.length)) ∧ k ≤ wholeN T ∧ ∀ t, edge (T ++ t) k
theorem Tie.nil : Tie [] 0 [] := ⟨rfl, ⟨fun _ => rfl, fun h => absurd rfl h⟩, Nat.zero_le _, fun _ => edge_zero _⟩
theorem edge_pre {l : List UInt8} {m k : Nat} (hml : m ≤ l.length) (hk : k ≤ m) (h : edge l k) : edge (l.take m) k := by
 intro j hj
 have h1 := h j hj
 have h2 : dec ((l.drop j).take (m - j)) = dec (l.drop j) := wid_head _ _ (by
  intro e
  have := congrArg List.length e
  rw [List.length_drop, List.length_nil] at this
  omega) (by omega)
 have h3 : (l.take m).drop j = (l.drop j).take (m - j) := by rw [List.drop_take]
 unfold wid at h1 ⊢
 rw [h3, h2]
 exact h1
theorem Tie.write {T ws pl : List UInt8} {k b : Nat} {f : Int} (h : Tie T k ws) (hpl : pl ≠ []) (hb : Best ((T ++ pl).take (wholeN (T ++ pl))) f (wholeN (T ++ pl)) b) :
  k ≤ wholeN (T ++ pl) ∧ ∃ c, CutAt ((ws ++ pl).take (wholeN (ws ++ pl))) f c ∧ (if c = 0 then [] else formT f ((ws ++ pl).take c)) = (if b ≤ k then [] else formT f (((T ++ pl).take b).drop k)) ∧ Tie (T ++ pl) (if b ≤ k then k else b) ((ws ++ pl).drop c) := by
 obtain ⟨hw, hk1, hkw, hed⟩ := h
 have hkT : k ≤ T.length := by
  by_cases hT : T = []
  ·rw [hk1.1 hT]; omega
  ·exact Nat.le_of_lt (hk1.2 hT)
 have hmono := whole_mono T pl
 have hvs : ws ++ pl = (T ++ pl).drop k := by rw [hw, List.drop_append_of_le_length hkT]
 have hplL : 0 < pl.length := List.length_pos_iff.2 hpl
 have hne : T ++ pl ≠ [] := fun e => hpl (List.append_eq_nil_iff.1 e).2
 have hkU : k < (T ++ pl).length := by rw [List.length_append]; omega
 have hedU : ∀ t, edge (T ++ pl ++ t) k := fun t => by rw [List.append_assoc]; exact hed _
 rw [hvs]
 generalize T ++ pl = U at *
 have hwl := (whole_first U).2.1
 have hkwU : k ≤ wholeN U := by omega
 have he0 : edge U k := by have := hedU []; rwa [List.append_nil] at this
 obtain ⟨c, hc, hbc⟩ := best_cut (k := k) (edge_pre hwl hkwU he0) hkwU hb
 refine ⟨hkwU, c, hc, ?_⟩
 by_cases hbk : b ≤ k
 ·rw [if_pos hbk] at hbc
  subst hbc
  rw [if_pos rfl, if_pos hbk, if_pos hbk, List.drop_zero]
  exact ⟨rfl, rfl, ⟨fun e => absurd e hne, fun _ => hkU⟩, hkwU, hedU⟩
 ·rw [if_neg hbk] at hbc
  obtain ⟨rfl, hc0⟩ := hbc
  rw [if_neg (by omega), if_neg hbk, if_neg hbk, List.drop_take, Nat.add_sub_cancel_left, List.drop_drop]
  rcases hb.1 with h1 | ⟨h1, h2, h3⟩
  ·omega
  ·have he1 : edge (U.take (wholeN U)) (k + c) := h3.1.2.2
   refine ⟨rfl, rfl, ⟨fun e => absurd e hne, fun _ => by omega⟩, by omega, fun t => ?_⟩
   have e1 : (U ++ t).take (wholeN U) = U.take (wholeN U) := List.take_append_of_le_length hwl
   exact edge_take (edge_wholeT U t) (by rw [List.length_append]; omega) (by omega) (by rw [e1]; exact he1)
theorem Tie.size {T ws : List UInt8} {k : Nat} (h : Tie T k ws) : ws.length = T.length - k ∧ k ≤ T.length := by
 obtain ⟨hw, hk1, _, _⟩ := h
 refine ⟨by rw [hw, List.length_drop], ?_⟩
 by_cases hT : T = []
 ·rw [hk1.1 hT]; omega
 ·exact Nat.le_of_lt (hk1.2 hT)
/-- There is a greatest safe place. -/
theorem best_some (u : List UInt8) (f : Int) : ∀ n, ∃ b, Best u f n b := by
 intro n
 induction n with
 | zero => exact ⟨0, .inl rfl, fun j h1 h2 => by omega⟩
 | succ n ih =>
  obtain ⟨b, h1, h2⟩ := ih
  by_cases h : 0 < n ∧ SafeT u n f
  ·exact ⟨n, .inr ⟨h.1, by omega, h.2⟩, fun j h3 h4 => by omega⟩
  ·refine ⟨b, ?_, fun j h3 h4 h5 => ?_⟩
   ·rcases h1 with h1 | ⟨h1, h3, h4⟩
    ·exact .inl h1
    ·exact .inr ⟨h1, by omega, h4⟩
   ·by_cases hj : j = n
    ·subst hj; exact h ⟨by omega, h5⟩
    ·exact h2 j h3 (by omega) h5
end Go.Proofs.YteokfknkcbmigaaGreatDoor
end
