/-
  A stream of a text in a form.
-/
import Derived.Test.YteokfknkcbmigaaGreatDoorWalkX
namespace Go.Proofs.YteokfknkcbmigaaGreatDoor
open Go.RowKit Go.Rp Go.Shelf Go.Maps Go.Nm

set_option maxRecDepth 100000 in
set_option maxHeartbeats 4000000 in
theorem c_Back (s : ByteArray) (k : Nat) (w : World) (hT : Tabs w) (hs : s.size ≤ 1000000) (hk : k ≤ s.size) :
    Calls Tryz.prog 42 #[.string s, .int .i64 (k : Nat)] w fun e w' => e = .returned (.int .i64 (eb s.data.toList (k - 1) : Nat)) ∧ Ext w w' := by
  have hkI : ¬ ((s.size : Nat) : Int) < (k : Nat) := by omega
  have hsI : ((s.size : Nat) : Int) ≤ 1000000 := by omega
  cases k with
  | zero =>
    have he : eb s.data.toList (0 - 1) = 0 := Nat.le_zero.1 (eb_le _ _)
    rw [he]
    clear he
    go_enter Tryz.func42, Tryz.ntmps42
    go_wp2_with fail
    go_ret
    exact ⟨rfl, Ext.refl _⟩
  | succ k =>
    rw [Nat.add_sub_cancel]
    obtain ⟨z, hz⟩ : ∃ z, eb s.data.toList k = z := ⟨_, rfl⟩
    have HZ := Lib.hid hz
    rw [hz]
    clear hz
    have hk9 : ((k : Nat) : Int) + 1 ≤ (s.size : Nat) := by omega
    have hk8 : ¬ ((k : Nat) : Int) + 1 ≤ 0 := by omega
    clear hkI
    go_enter Tryz.func42, Tryz.ntmps42
    go_wp2_with fail
    go_loopw [1] (fun iv W => ∃ j : Nat, iv = .int .i64 (j : Nat) ∧ Hid (j ≤ k ∧ eb s.data.toList j = z) ∧ Ext w W) (fun iv _ => (intOf iv).toNat)
    case atStart => exact ⟨k, by simp, Lib.hid ⟨Nat.le_refl _, HZ.out⟩, Ext.refl _⟩
    case round =>
      obtain ⟨j, rfl, hj, hx⟩ := hrel
      cases j with
      | zero =>
        have hz0 : z = 0 := by rw [← hj.out.2]; exact Nat.le_zero.1 (eb_le _ _)
        have HZ0 := Lib.hid hz0
        clear hz0
        go_wp2_with fail
        go_ret
        exact ⟨by rw [HZ0.out]; rfl, hx⟩
      | succ j =>
        obtain ⟨b, hb⟩ : ∃ b : Bool, b = true ↔ edge s.data.toList (j + 1) := by
          by_cases h : edge s.data.toList (j + 1)
          · exact ⟨true, by simp [h]⟩
          · exact ⟨false, by simp [h]⟩
        have HIS := Lib.hid (c_Is s (j + 1) b wr hb (hT.ext hx) (by omega) (by have := hj.out; omega))
        have HB := Lib.hid hb
        have hj9 : ((j : Nat) : Int) + 1 ≤ 1000000 := by have := hj.out; omega
        clear hb
        go_wp2_with fail
        refine HIS.out.mono ?_
        rintro e w2 ⟨rfl, hx2⟩
        have HX2 := Lib.hid (Ext.trans hx hx2)
        clear hx2 hx HIS
        cases b with
        | true =>
          have he : z = j + 1 := by rw [← hj.out.2]; exact eb_of _ _ (HB.out.1 rfl)
          have HE := Lib.hid he
          clear he
          go_wp2_with fail
          go_ret
          exact ⟨by rw [HE.out]; rfl, HX2.out⟩
        | false =>
          go_wp2_with fail
          go_roundw
          case rel => exact ⟨j, by simp, Lib.hid ⟨by have := hj.out; omega, by rw [← hj.out.2, eb_not _ _ (fun h => by have := HB.out.2 h; cases this)]⟩, HX2.out⟩
          case measure => simp [intOf]
/-- A stream as it stands. -/
structure StrAt (W1 : World) (nb tB xB : Nat) (f : Int) (ws : ByteArray) (W : World) : Prop where
  tab : NTab nb W1 tB
  tabs : Tabs W1
  ext : Ext W1 W
  le : W1.heap.size ≤ xB
  blk : W.heap[xB]? = some (.cells #[.pointer (some ⟨tB, 0, none⟩), .int .i64 f, .string ws] 71 (0, 0))
theorem StrAt.more {W1 : World} {nb tB xB : Nat} {f : Int} {ws : ByteArray} {W W' : World} (h : StrAt W1 nb tB xB f ws W) (hx : Ext W W') : StrAt W1 nb tB xB f ws W' :=
  ⟨h.tab, h.tabs, h.ext.trans hx, h.le, hx.blk h.blk⟩
theorem StrAt.put {W1 : World} {nb tB xB : Nat} {f : Int} {ws : ByteArray} {W : World} (h : StrAt W1 nb tB xB f ws W) (vs : ByteArray) : StrAt W1 nb tB xB f vs (W.setCell ⟨xB, 2, none⟩ (.string vs)) :=
  ⟨h.tab, h.tabs, h.ext.setCell h.le _, h.le, set_blk h.blk 2 (.string vs)⟩
set_option maxRecDepth 100000 in
set_option maxHeartbeats 4000000 in
theorem c_New (f : Int) (hf : 0 ≤ f ∧ f ≤ 3) (w : World) (hT : Tabs w) :
    Calls Tryz.prog 16 #[.int .i64 f] w fun e w' => ∃ W1 nb tB xB, e = .returned (.tuple #[.pointer (some ⟨xB, 0, none⟩), .int .i64 0]) ∧ StrAt W1 nb tB xB f ⟨#[]⟩ w' ∧ Ext w w' ∧ Ext w W1 := by
  have HC := Lib.hid (show ∀ w, Calls Tryz.prog 33 #[.int .i64 f] w fun e w' => e = .returned (.bool true) ∧ w' = w from fun w => by rw [← decide_eq_true hf]; exact c_right f w)
  clear hf
  go_enter Tryz.func16, Tryz.ntmps16
  go_wp2_with fail
  refine (HC.out w).mono ?_
  rintro e w3 ⟨rfl, e3⟩
  obtain rfl := e3.symm
  clear e3
  go_wp2_with fail
  refine (c_load w hT).mono ?_
  rintro e w2 ⟨tB, rfl, ht, hx⟩
  have HT := Lib.hid (And.intro ht hx)
  clear ht hx
  go_wp2_with fail
  exact ret_two rfl rfl rfl rfl ⟨w2, w.heap.size, tB, w2.heap.size, rfl, ⟨HT.out.1, hT.ext HT.out.2, (Ext.refl w2).alloc _, Nat.le_refl _, World.alloc_heap_new w2 _⟩, HT.out.2.alloc _, HT.out.2⟩
set_option maxRecDepth 100000 in
set_option maxHeartbeats 4000000 in
theorem c_Held (W1 : World) (nb tB xB : Nat) (f : Int) (ws : ByteArray) (w : World) (h : StrAt W1 nb tB xB f ws w) :
    Calls Tryz.prog 23 #[.pointer (some ⟨xB, 0, none⟩)] w fun e w' => e = .returned (.int .i64 (ws.size : Nat)) ∧ w' = w := by
  have d2 : w.cell? ⟨xB, 2, none⟩ = some (.string ws) := (cell_blk h.blk 2).trans rfl
  clear h
  go_enter Tryz.func23, Tryz.ntmps23
  go_wp2_with fail
  go_ret
  exact ⟨rfl, rfl⟩
set_option maxRecDepth 100000 in
set_option maxHeartbeats 4000000 in
theorem c_Close (W1 : World) (nb tB xB : Nat) (f : Int) (hf : 0 ≤ f ∧ f ≤ 3) (ws : ByteArray) (hs : ws.size ≤ 1000000) (w : World) (h : StrAt W1 nb tB xB f ws w) :
    Calls Tryz.prog 19 #[.pointer (some ⟨xB, 0, none⟩)] w fun e w' => e = .returned (.string ⟨(formT f ws.data.toList).toArray⟩) ∧ StrAt W1 nb tB xB f ⟨#[]⟩ w' := by
  have d0 : ∀ w', EOn (fun _ => True) w w' → w'.cell? ⟨xB, 0, none⟩ = some (.pointer (some ⟨tB, 0, none⟩)) := fun w' hx => hx.cell trivial ((cell_blk h.blk 0).trans rfl)
  have d1 : ∀ w', EOn (fun _ => True) w w' → w'.cell? ⟨xB, 1, none⟩ = some (.int .i64 f) := fun w' hx => hx.cell trivial ((cell_blk h.blk 1).trans rfl)
  have d2 : ∀ w', EOn (fun _ => True) w w' → w'.cell? ⟨xB, 2, none⟩ = some (.string ws) := fun w' hx => hx.cell trivial ((cell_blk h.blk 2).trans rfl)
  have HS := Lib.hid h
  obtain ⟨z, hz⟩ : ∃ z, formT f ws.data.toList = z := ⟨_, rfl⟩
  have HF := Lib.hid (show ∀ nb tB w, NTab nb w tB → Tabs w → Calls Tryz.prog 35 #[.pointer (some ⟨tB, 0, none⟩), .string ws, .int .i64 f] w fun e w' => e = .returned (.string ⟨z.toArray⟩) ∧ Ext w w' from fun nb tB w h1 h2 => by
    have := c_form nb tB ws f w h1 h2 hs
    rw [← hz]
    unfold formT
    rw [if_pos hf]
    exact this)
  rw [hz]
  clear h hz hf
  go_enter Tryz.func19, Tryz.ntmps19
  go_wp2_with fail
  refine wp_lex (fun _ => True) [true, true, true, true, true, true, true, true, true, true, true, true, false, true] (by kernel_rfl) (by kernel_rfl) ?_
  repeat first
    | refine wpG_move (by rfl) (by simp only [Act.eval, Array.getD_eq_getD_getElem?, List.getElem?_toArray, List.getElem?_cons_succ, List.getElem?_cons_zero, Option.getD_some]; try rfl) (by simp only [Act.put, List.setIfInBounds_toArray, List.set_cons_succ, List.set_cons_zero]; rfl) ?_
    | refine wpG_assign (by rfl) (by simp only [Act.eval, Array.getD_eq_getD_getElem?, List.getElem?_toArray, List.getElem?_cons_succ, List.getElem?_cons_zero, Option.getD_some]; try rfl) (by simp only [Act.put, List.setIfInBounds_toArray, List.set_cons_succ, List.set_cons_zero]; rfl) ?_
    | refine wpG_val (by rfl) (fun w' hx => (by go_simp; first | (go_bits; first | exact rfl | exact ⟨by omega, rfl⟩) | exact rfl | exact (if_neg (by omega)).trans rfl | exact ⟨by omega, rfl⟩)) (by simp only [Act.put, List.setIfInBounds_toArray, List.set_cons_succ, List.set_cons_zero]; rfl) ?_
    | refine wpG_no (by rfl) (by simp only [Act.put, List.setIfInBounds_toArray, List.set_cons_succ, List.set_cons_zero]; rfl) ?_
  clear d0 d1 d2
  refine wpG_do (by rfl) (fun w5 hx5 K hK => ?_)
  go_wp2_with fail
  refine (HF.out nb tB w5 (HS.out.tab.ext (HS.out.ext.trans hx5)) (HS.out.tabs.ext (HS.out.ext.trans hx5))).mono ?_
  rintro e w6 ⟨rfl, hx6⟩
  refine hK _ _ ⟨EOn.of_ext hx6, ?_⟩
  clear hK
  repeat first
    | refine wpG_move (by rfl) (by simp only [Act.eval, Array.getD_eq_getD_getElem?, List.getElem?_toArray, List.getElem?_cons_succ, List.getElem?_cons_zero, Option.getD_some]; try rfl) (by simp only [Act.put, List.setIfInBounds_toArray, List.set_cons_succ, List.set_cons_zero]; rfl) ?_
    | refine wpG_assign (by rfl) (by simp only [Act.eval, Array.getD_eq_getD_getElem?, List.getElem?_toArray, List.getElem?_cons_succ, List.getElem?_cons_zero, Option.getD_some]; try rfl) (by simp only [Act.put, List.setIfInBounds_toArray, List.set_cons_succ, List.set_cons_zero]; rfl) ?_
    | refine wpG_val (by rfl) (fun w' hx => (by go_simp; first | (go_bits; first | exact rfl | exact ⟨by omega, rfl⟩) | exact rfl | exact (if_neg (by omega)).trans rfl | exact ⟨by omega, rfl⟩)) (by simp only [Act.put, List.setIfInBounds_toArray, List.set_cons_succ, List.set_cons_zero]; rfl) ?_
    | refine wpG_no (by rfl) (by simp only [Act.put, List.setIfInBounds_toArray, List.set_cons_succ, List.set_cons_zero]; rfl) ?_
  refine wpG_end (fun w7 hx7 => ?_)
  have hS7 := HS.out.more (hx5.trans (hx6.trans hx7))
  have e2 : w7.cell? ⟨xB, 2, none⟩ = some (.string ws) := (cell_blk hS7.blk 2).trans rfl
  have f2 := frz_blk hS7.blk 2
  have HS8 := Lib.hid (hS7.put ⟨#[]⟩)
  clear hx5 hx6 hx7 hS7 HF
  go_wp2_with fail
  refine gQ_normal ?_
  go_wp2_with fail
  go_ret
  exact ⟨rfl, HS8.out⟩
end Go.Proofs.YteokfknkcbmigaaGreatDoor
