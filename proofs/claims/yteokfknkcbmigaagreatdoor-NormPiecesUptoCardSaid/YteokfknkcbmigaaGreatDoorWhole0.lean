/-
  How many bytes of an empty text are whole runes.
-/
import Derived.Test.YteokfknkcbmigaaGreatDoorWalkX
import Derived.Laws.AppendOwnNone
namespace Go.Proofs.YteokfknkcbmigaaGreatDoor
open Go.RowKit Go.Rp Go.Shelf Go.Maps Go.Nm

/-- What stands at the loop's head, where nothing is held; and behind it. -/
def Mk0 (xB : Nat) (w : World) (a : Act) (W : World) : Prop :=
  ∃ (u8 u9 u10 u11 u12 u13 u14 u15 u16 u17 u18 u19 u20 u21 u22 u23 u24 u25 u26 u27 u28 u29 u30 u31 u32 u33 u34 u35 u36 u37 u38 u39 u40 u41 u42 u43 u44 u45 u46 u47 u48 u49 u50 u51 u52 u53 u54 u55 u56 u57 u58 u59 u60 u61 u62 u63 u64 u65 u66 : Value), a = { tmps := #[.pointer (some ⟨xB, 0, none⟩), .bool false, undef, undef, .slice none 0 0, .slice none 0 0, .int .i64 0, .slice none 0 0, u8, u9, u10, u11, u12, u13, u14, u15, u16, u17, u18, u19, u20, u21, u22, u23, u24, u25, u26, u27, u28, u29, u30, u31, u32, u33, u34, u35, u36, u37, u38, u39, u40, u41, u42, u43, u44, u45, u46, u47, u48, u49, u50, u51, u52, u53, u54, u55, u56, u57, u58, u59, u60, u61, u62, u63, u64, u65, u66], defers := [] } ∧ Ext w W
set_option maxRecDepth 100000 in
set_option maxHeartbeats 8000000 in
theorem c_marks0 (xB : Nat) (w : World) (hbk : w.heap[xB]? = some (.cells #[.slice none 0 0, .int .i64 0] 128 (0, 0))) :
    Calls Tryz.prog 84 #[.pointer (some ⟨xB, 0, none⟩), .bool false] w fun e w' => ∃ u v', e = .returned u ∧ w'.heap[xB]? = some (.cells #[v', .int .i64 0] 128 (0, 0)) ∧ (∃ p c, v' = .slice p 0 c) ∧ w.grownBy w' (some xB) := by
  obtain ⟨j0, hj0, hy0, hy1, hy3⟩ := info_parts info_u8
  have HBK := Lib.hid hbk
  have c0 : ∀ w', EOn (fun _ => True) w w' → w'.cell? ⟨xB, 0, none⟩ = some (.slice none 0 0) := fun w' h => h.cell trivial ((cell_blk hbk 0).trans rfl)
  have c1 : ∀ w', EOn (fun _ => True) w w' → w'.cell? ⟨xB, 1, none⟩ = some (.int .i64 0) := fun w' h => h.cell trivial ((cell_blk hbk 1).trans rfl)
  clear hbk
  go_enter Tryz.func84, Tryz.ntmps84
  go_wp2_with fail
  refine wp_scope_two' 0 1 (Mk0 xB w) (Mk0 xB w) (fun _ _ => 0) rfl rfl ?first ?pass ?last
  case first =>
    intro pass
    have HP := Lib.hid pass
    clear pass
    go_wp2_with fail
    refine wp_lex (fun _ => True) [true, true, true, true, true, true, true, true, true, true, true] (by kernel_rfl) (by kernel_rfl) ?_
    repeat first
      | refine wpG_move (by rfl) (by simp only [Act.eval, Array.getD_eq_getD_getElem?, List.getElem?_toArray, List.getElem?_cons_succ, List.getElem?_cons_zero, Option.getD_some]; try rfl) (by simp only [Act.put, List.setIfInBounds_toArray, List.set_cons_succ, List.set_cons_zero]; rfl) ?_
      | refine wpG_assign (by rfl) (by simp only [Act.eval, Array.getD_eq_getD_getElem?, List.getElem?_toArray, List.getElem?_cons_succ, List.getElem?_cons_zero, Option.getD_some]; try rfl) (by simp only [Act.put, List.setIfInBounds_toArray, List.set_cons_succ, List.set_cons_zero]; rfl) ?_
      | refine wpG_val (by rfl) (fun w' hx => (by go_simp; first | (go_bits; first | exact rfl | exact ⟨by omega, rfl⟩) | exact rfl | exact (if_neg (by omega)).trans rfl | exact ⟨by omega, rfl⟩)) (by simp only [Act.put, List.setIfInBounds_toArray, List.set_cons_succ, List.set_cons_zero]; rfl) ?_
      | refine wpG_no (by rfl) (by simp only [Act.put, List.setIfInBounds_toArray, List.set_cons_succ, List.set_cons_zero]; rfl) ?_
    refine wpG_end (fun w5 hx5 => ?_)
    have d0 := hx5.cell (c0 w (EOn.refl _ _))
    clear c0 c1
    go_wp2_with fail
    refine gQ_normal ?_
    go_wp2_with fail
    go_step3
    rename_i K0 hK0
    refine hK0 _ _ ?_
    refine wp_as_pass (HP.out _ _ ?_) (fun _ _ h => And.left h)
    exact ⟨_, _, _, _, _, _, _, _, _, _, _, _, _, _, _, _, _, _, _, _, _, _, _, _, _, _, _, _, _, _, _, _, _, _, _, _, _, _, _, _, _, _, _, _, _, _, _, _, _, _, _, _, _, _, _, _, _, _, _, rfl, hx5⟩
  case pass =>
    rintro a W ⟨u8, u9, u10, u11, u12, u13, u14, u15, u16, u17, u18, u19, u20, u21, u22, u23, u24, u25, u26, u27, u28, u29, u30, u31, u32, u33, u34, u35, u36, u37, u38, u39, u40, u41, u42, u43, u44, u45, u46, u47, u48, u49, u50, u51, u52, u53, u54, u55, u56, u57, u58, u59, u60, u61, u62, u63, u64, u65, u66, rfl, hx⟩
    clear c0 c1
    go_wp2_with fail
    go_step3
    exact .inr ⟨rfl, _, _, _, _, _, _, _, _, _, _, _, _, _, _, _, _, _, _, _, _, _, _, _, _, _, _, _, _, _, _, _, _, _, _, _, _, _, _, _, _, _, _, _, _, _, _, _, _, _, _, _, _, _, _, _, _, _, _, _, rfl, hx⟩
  case last =>
    rintro a W ⟨u8, u9, u10, u11, u12, u13, u14, u15, u16, u17, u18, u19, u20, u21, u22, u23, u24, u25, u26, u27, u28, u29, u30, u31, u32, u33, u34, u35, u36, u37, u38, u39, u40, u41, u42, u43, u44, u45, u46, u47, u48, u49, u50, u51, u52, u53, u54, u55, u56, u57, u58, u59, u60, u61, u62, u63, u64, u65, u66, rfl, hx⟩
    clear c0 c1
    have hbW := hx.blk HBK.out
    have hxb : xB < w.heap.size := blk_lt HBK.out
    go_wp2_with (at_builtin; refine Hid.out ?_)
    refine Lib.hid ?_
    have hx7 := hx.alloc (.cells #[] 5)
    have hbk7 := World.alloc_heap_new W (.cells #[] 5)
    have hb7 := ((Ext.refl W).alloc (.cells #[] 5)).blk hbW
    generalize W.alloc (.cells #[] 5) = w7 at hx7 hbk7 hb7 ⊢
    have hrow7 : w7.ownsRow W.heap.size 5 1 (.slice (some ⟨W.heap.size, 0, none⟩) 0 0) 0 [] := ⟨rfl, .inr ⟨_, 0, #[], rfl, Nat.le_refl _, hbk7, Nat.le_refl _, Nat.zero_le _, rfl, rfl⟩⟩
    refine wpList_append_own_none rfl (.tmp 61) (.tmp 62) 38 rfl W.heap.size 5 j0 1 Tryz.underlying38 hj0 _ 0 [] rfl hrow7 rfl ?_
    have d0 : w7.cell? ⟨xB, 0, none⟩ = some (.slice none 0 0) := (cell_blk hb7 0).trans rfl
    have f0 := frz_blk hb7 0
    have hset := set_blk hb7 0 (.slice (some ⟨W.heap.size, 0, none⟩) 0 0)
    have hgs := (ext_grown hx7 (some xB)).trans (grown_set w7 xB 0 (.slice (some ⟨W.heap.size, 0, none⟩) 0 0))
    have HS := Lib.hid (And.intro hset hgs)
    clear hset hgs hx7 hb7 hbk7 hrow7 hxb hbW hx
    go_wp2_with fail
    rw [Exit.noGoto_ret]
    go_ret
    exact ⟨_, _, rfl, HS.out.1, ⟨_, _, rfl⟩, HS.out.2⟩
set_option maxRecDepth 100000 in
set_option maxHeartbeats 8000000 in
theorem c_Feed0 (xB pc : Nat) (pb : Addr) (W0 w : World) (hx0 : Ext W0 w) (hxB : W0.heap.size ≤ xB) (hbk : w.heap[xB]? = some (.cells #[.slice none 0 0, .int .i64 0] 128 (0, 0))) :
    Calls Tryz.prog 65 #[.pointer (some ⟨xB, 0, none⟩), .slice (some pb) 0 pc] w fun e w' => ∃ u v', e = .returned u ∧ w'.heap[xB]? = some (.cells #[v', .int .i64 0] 128 (0, 0)) ∧ (∃ p c, v' = .slice p 0 c) ∧ Ext W0 w' := by
  obtain ⟨j0, hj0, hy0, hy1, hy3⟩ := info_parts info_u8
  have d0 : w.cell? ⟨xB, 0, none⟩ = some (.slice none 0 0) := (cell_blk hbk 0).trans rfl
  have HBK := Lib.hid hbk
  clear hbk
  go_enter Tryz.func65, Tryz.ntmps65
  go_wp2_with (at_builtin; refine Hid.out ?_)
  refine Lib.hid ?_
  refine wpList_append_own _ rfl (.tmp 11) (.tmp 12) 38 rfl w.heap.size 5 j0 (.int .u8 0) 1 1 Tryz.underlying38 hj0 hy0 hy1 hy3 rfl (by decide) _ 0 [] rfl (World.ownsRow_nil _ _ _ _) pb 0 pc [] rfl rfl (fun j u hu => by cases hu) (by intro u hu; cases hu) (by unfold maxLen; omega) (by omega) (Nat.le_refl _) ?_
  intro v' w8 hown8 hgrow8 hv8
  obtain rfl := hv8.2 ⟨rfl, rfl⟩
  have hx8 : Ext w w8 := Below.grown (Ext.refl w) hgrow8 (Nat.le_refl _) (fun k e => by cases e)
  have hb8 := hx8.blk HBK.out
  have f0 := frz_blk hb8 0
  have d8 : w8.cell? ⟨xB, 0, none⟩ = some (.slice none 0 0) := (cell_blk hb8 0).trans rfl
  have hb9 := set_blk hb8 0 (.slice none 0 0)
  have hx9 := (hx0.trans hx8).setCell (p := ⟨xB, 0, none⟩) hxB (.slice none 0 0)
  have f1 := frz_blk hb9 1
  have e1 : (w8.setCell ⟨xB, 0, none⟩ (.slice none 0 0)).cell? ⟨xB, 1, none⟩ = some (.int .i64 0) := (cell_blk hb9 1).trans rfl
  have hb10 := set_blk hb9 1 (.int .i64 0)
  have hx10 := hx9.setCell (p := ⟨xB, 1, none⟩) hxB (.int .i64 0)
  have H10 := Lib.hid (And.intro hb10 hx10)
  clear hb10 hx10 hx9 hb9 hb8 hx8 hown8 hgrow8 hv8
  go_wp2_with fail
  generalize (w8.setCell ⟨xB, 0, none⟩ (.slice none 0 0)).setCell ⟨xB, 1, none⟩ (.int .i64 0) = w10 at H10 ⊢
  refine (c_marks0 xB w10 H10.out.1).mono ?_
  rintro e w11 ⟨u, v', rfl, hb11, hv11, hg11⟩
  have HE := Lib.hid (show Ext W0 w11 from Below.grown H10.out.2 hg11 H10.out.2.sz (fun k e => by have h3 := Option.some.inj e; omega))
  have HF := Lib.hid (And.intro hb11 hv11)
  clear hb11 hv11 hg11 f0 d8 f1 e1 d0
  go_wp2_with fail
  go_ret
  exact ⟨_, _, rfl, HF.out.1, HF.out.2, HE.out⟩
end Go.Proofs.YteokfknkcbmigaaGreatDoor
