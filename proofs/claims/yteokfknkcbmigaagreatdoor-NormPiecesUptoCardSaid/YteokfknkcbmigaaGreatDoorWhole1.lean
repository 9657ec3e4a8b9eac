/-
  Nothing written to a stream that holds nothing.
-/
import Derived.Test.YteokfknkcbmigaaGreatDoorWhole0
import Derived.Test.YteokfknkcbmigaaGreatDoorWalkZ
namespace Go.Proofs.YteokfknkcbmigaaGreatDoor
open Go.RowKit Go.Rp Go.Shelf Go.Maps Go.Nm

set_option maxRecDepth 100000 in
set_option maxHeartbeats 8000000 in
theorem c_whole0 (s : ByteArray) (w : World) (h0 : s.size = 0) :
    Calls Tryz.prog 41 #[.string s] w fun e w' => e = .returned (.int .i64 0) ∧ Ext w w' := by
  have hs0 : ((s.size : Nat) : Int) = 0 := by omega
  go_enter Tryz.func41, Tryz.ntmps41
  go_wp2_with fail
  obtain ⟨t, ht⟩ : ∃ t, s.extract (max (0 : Int) (-3)).toNat 0 = t := ⟨_, rfl⟩
  rw [ht]
  have htl : t.size = 0 := by
    have := congrArg ByteArray.size ht
    rw [ByteArray.size_extract] at this
    omega
  have hcv := fun w => Lib.run_convert_string_bytes (P := Tryz.prog) w 9 38 5 t Tryz.underlying9 Tryz.underlying38 Tryz.underlying5
  rw [htl] at hcv
  have HT := Lib.hid htl
  clear ht htl
  refine (c_NewScanner w).mono ?_
  rintro e w1 ⟨rfl, rfl⟩
  have hb1 := World.alloc_heap_new w (.cells #[.slice none 0 0, .int .i64 0] 128)
  have hx1 := (Ext.refl w).alloc (.cells #[.slice none 0 0, .int .i64 0] 128)
  generalize w.alloc (.cells #[.slice none 0 0, .int .i64 0] 128) = w1 at hb1 hx1 ⊢
  obtain ⟨xB, hxB⟩ : ∃ xB, w.heap.size = xB := ⟨_, rfl⟩
  have HXB := Lib.hid (show w.heap.size ≤ xB by omega)
  rw [hxB] at hb1 ⊢
  have H1 := Lib.hid (And.intro hb1 hx1)
  clear hb1 hx1 hxB
  go_wp2_with fail
  obtain ⟨hxb, hcb⟩ := bytes_of w1 5 t
  generalize Lib.bytesWorld w1 5 t = w2 at hxb hcb ⊢
  have hfd := fun pb pc => c_Feed0 xB pc pb w w2 (H1.out.2.trans hxb) HXB.out (hxb.blk H1.out.1)
  refine (hfd _ _).mono ?_
  rintro e w3 ⟨u, v', rfl, hb3, ⟨p3, c3, rfl⟩, hx3⟩
  have H3 := Lib.hid (And.intro hb3 hx3)
  clear hb3 hx3 hfd hcb hxb hcv
  go_wp2_with fail
  refine (c_ScHeld xB 0 c3 p3 _ w3 H3.out.1).mono ?_
  rintro e w4 ⟨rfl, e4⟩
  obtain rfl := e4.symm
  clear e4
  go_wp2_with fail
  go_ret
  exact ⟨rfl, H3.out.2⟩
set_option maxRecDepth 100000 in
set_option maxHeartbeats 8000000 in
theorem c_Write0 (W1 : World) (nb tB xB pb pc : Nat) (f : Int) (ws : ByteArray) (w : World) (hws : ws.size = 0) (h : StrAt W1 nb tB xB f ws w) :
    Calls Tryz.prog 21 #[.pointer (some ⟨xB, 0, none⟩), .slice (some ⟨pb, 0, none⟩) 0 pc] w fun e w' => e = .returned (.string ⟨#[]⟩) ∧ StrAt W1 nb tB xB f ws w' := by
  have d2 : ∀ w', EOn (fun _ => True) w w' → w'.cell? ⟨xB, 2, none⟩ = some (.string ws) := fun w' hx => hx.cell trivial ((cell_blk h.blk 2).trans rfl)
  have hcv : ∀ w', EOn (fun _ => True) w w' → (convert 38 9 (.slice (some ⟨pb, 0, none⟩) 0 pc)).run Tryz.prog w' = .ok (.string ⟨#[]⟩) w' := fun w' hx =>
    run_convert_bytes_back (P := Tryz.prog) w' 38 9 5 ⟨pb, 0, none⟩ pc [] Tryz.underlying38 Tryz.underlying5 Tryz.underlying9 (fun j hj => by cases hj)
  have hvs : ws ++ (⟨#[]⟩ : ByteArray) = ws := by
    refine ByteArray.ext (Array.toList_inj.1 ?_)
    simp
  obtain ⟨ps, hps⟩ : ∃ ps, (⟨#[]⟩ : ByteArray) = ps := ⟨_, rfl⟩
  simp only [hps] at hcv
  rw [hps] at hvs ⊢
  have HPS := Lib.hid hps
  have HBIG := Lib.hid (show ws.size + ps.size ≤ 1000000 by
    have := congrArg ByteArray.size hvs
    rw [ByteArray.size_append] at this
    omega)
  clear hps
  have HS := Lib.hid h
  have HV := Lib.hid hws
  have HVS := Lib.hid hvs
  clear h hws hvs
  go_enter Tryz.func21, Tryz.ntmps21
  go_wp2_with fail
  refine wp_reck (fun _ => True) [0, 1, 2, 4] [3, 5, 6, 7, 8, 9] [true, true] (by kernel_rfl) (by kernel_rfl) (by simp only [List.map_cons, List.map_nil, nth]; rfl) (by simp only [List.map_cons, List.map_nil, nth]; rfl) (fun wq hxq => ?_)
  repeat first
    | refine wpP_move (by rfl) (by simp only [Act.eval, Array.getD_eq_getD_getElem?, List.getElem?_toArray, List.getElem?_cons_succ, List.getElem?_cons_zero, Option.getD_some]; try rfl) (by simp only [Act.put, List.setIfInBounds_toArray, List.set_cons_succ, List.set_cons_zero]; rfl) ?_
    | refine wpP_val (by rfl) (fun w' => (by go_simp; first | (go_bits; first | exact rfl | exact ⟨by omega, rfl⟩) | exact rfl | exact (if_neg (by omega)).trans rfl | exact ⟨by omega, rfl⟩)) (by simp only [Act.put, List.setIfInBounds_toArray, List.set_cons_succ, List.set_cons_zero]; rfl) ?_
  refine wpP_end ?_
  replace d2 := fun w' hx => d2 w' (EOn.trans (EOn.of_ext hxq) hx)
  replace hcv := fun w' hx => hcv w' (EOn.trans (EOn.of_ext hxq) hx)
  repeat first
    | refine wpG_move (by rfl) (by simp only [Act.eval, Array.getD_eq_getD_getElem?, List.getElem?_toArray, List.getElem?_cons_succ, List.getElem?_cons_zero, Option.getD_some]; try rfl) (by simp only [Act.put, List.setIfInBounds_toArray, List.set_cons_succ, List.set_cons_zero]; rfl) ?_
    | refine wpG_assign (by rfl) (by simp only [Act.eval, Array.getD_eq_getD_getElem?, List.getElem?_toArray, List.getElem?_cons_succ, List.getElem?_cons_zero, Option.getD_some]; try rfl) (by simp only [Act.put, List.setIfInBounds_toArray, List.set_cons_succ, List.set_cons_zero]; rfl) ?_
    | refine wpG_val (by rfl) (fun w' hx => (by go_simp; first | (go_bits; first | exact rfl | exact ⟨by omega, rfl⟩) | exact rfl | exact (if_neg (by omega)).trans rfl | exact ⟨by omega, rfl⟩)) (by simp only [Act.put, List.setIfInBounds_toArray, List.set_cons_succ, List.set_cons_zero]; rfl) ?_
    | refine wpG_no (by rfl) (by simp only [Act.put, List.setIfInBounds_toArray, List.set_cons_succ, List.set_cons_zero]; rfl) ?_
  refine wpG_end (fun w6 hx6 => ?_)
  have hS6 := HS.out.more (hxq.trans hx6)
  have e2 : w6.cell? ⟨xB, 2, none⟩ = some (.string ws) := (cell_blk hS6.blk 2).trans rfl
  have f2 := frz_blk hS6.blk 2
  have hvs := HVS.out
  have HS7 := Lib.hid (hS6.put ws)
  clear hxq hx6 d2 hcv HS hS6
  go_wp2_with fail
  · rename_i hbig
    exfalso
    have := HBIG.out
    omega
  rename_i hsmall
  clear hsmall
  refine gQ_normal ?_
  clear hvs e2 f2
  generalize w6.setCell ⟨xB, 2, none⟩ (.string ws) = w7 at HS7 ⊢
  have e2 : ∀ w', EOn (fun _ => True) w7 w' → w'.cell? ⟨xB, 2, none⟩ = some (.string ws) := fun w' hx => hx.cell trivial ((cell_blk HS7.out.blk 2).trans rfl)
  have HWH := Lib.hid (fun w' => c_whole0 ws w' HV.out)
  obtain ⟨us, hus⟩ : ∃ us, ws.extract 0 0 = us := ⟨_, rfl⟩
  have husz : us.size = 0 := by
    have := congrArg ByteArray.size hus
    rw [ByteArray.size_extract] at this
    omega
  have HU := Lib.hid husz
  clear husz
  go_wp2_with fail
  refine wp_lex (fun _ => True) [true, true, true, true, true, true, true, true, false, true, true] (by kernel_rfl) (by kernel_rfl) ?_
  repeat first
    | refine wpG_move (by rfl) (by simp only [Act.eval, Array.getD_eq_getD_getElem?, List.getElem?_toArray, List.getElem?_cons_succ, List.getElem?_cons_zero, Option.getD_some]; try rfl) (by simp only [Act.put, List.setIfInBounds_toArray, List.set_cons_succ, List.set_cons_zero]; rfl) ?_
    | refine wpG_assign (by rfl) (by simp only [Act.eval, Array.getD_eq_getD_getElem?, List.getElem?_toArray, List.getElem?_cons_succ, List.getElem?_cons_zero, Option.getD_some]; try rfl) (by simp only [Act.put, List.setIfInBounds_toArray, List.set_cons_succ, List.set_cons_zero]; rfl) ?_
    | refine wpG_val (by rfl) (fun w' hx => (by go_simp; first | (go_bits; first | exact rfl | exact ⟨by omega, rfl⟩) | exact rfl | exact (if_neg (by omega)).trans rfl | exact ⟨by omega, rfl⟩)) (by simp only [Act.put, List.setIfInBounds_toArray, List.set_cons_succ, List.set_cons_zero]; rfl) ?_
    | refine wpG_no (by rfl) (by simp only [Act.put, List.setIfInBounds_toArray, List.set_cons_succ, List.set_cons_zero]; rfl) ?_
  refine wpG_do (by rfl) (fun w8 hx8 K hK => ?_)
  go_wp2_with fail
  refine (HWH.out w8).mono ?_
  rintro e w9 ⟨rfl, hx9⟩
  refine hK _ _ ⟨EOn.of_ext hx9, ?_⟩
  clear hK
  repeat first
    | refine wpG_move (by rfl) (by simp only [Act.eval, Array.getD_eq_getD_getElem?, List.getElem?_toArray, List.getElem?_cons_succ, List.getElem?_cons_zero, Option.getD_some]; try rfl) (by simp only [Act.put, List.setIfInBounds_toArray, List.set_cons_succ, List.set_cons_zero]; rfl) ?_
    | refine wpG_assign (by rfl) (by simp only [Act.eval, Array.getD_eq_getD_getElem?, List.getElem?_toArray, List.getElem?_cons_succ, List.getElem?_cons_zero, Option.getD_some]; try rfl) (by simp only [Act.put, List.setIfInBounds_toArray, List.set_cons_succ, List.set_cons_zero]; rfl) ?_
    | refine wpG_val (by rfl) (fun w' hx => (by go_simp; first | (go_bits; first | exact rfl | exact ⟨by omega, rfl⟩) | exact rfl | exact (if_neg (by omega)).trans rfl | exact ⟨by omega, rfl⟩)) (by simp only [Act.put, List.setIfInBounds_toArray, List.set_cons_succ, List.set_cons_zero]; rfl) ?_
    | refine wpG_no (by rfl) (by simp only [Act.put, List.setIfInBounds_toArray, List.set_cons_succ, List.set_cons_zero]; rfl) ?_
  refine wpG_end (fun w10 hx10 => ?_)
  have HS10 := Lib.hid (HS7.out.more (hx8.trans (hx9.trans hx10)))
  clear hx8 hx9 hx10 e2 HWH HS7
  go_wp2_with fail
  refine gQ_normal ?_
  go_wp2_with fail
  have HBK := Lib.hid (show Calls Tryz.prog 42 #[.string ByteArray.empty, .int .i64 0] w10 fun e w' => e = .returned (.int .i64 0) ∧ Ext w10 w' from by
    have h := c_Back ByteArray.empty 0 w10 (HS10.out.tabs.ext HS10.out.ext) (by show 0 ≤ _; omega) (Nat.zero_le _)
    rw [show eb ByteArray.empty.data.toList (0 - 1) = 0 from Nat.le_zero.1 (eb_le _ _)] at h
    exact h)
  refine HBK.out.mono ?_
  rintro e w11 ⟨rfl, hx11⟩
  have HS11 := Lib.hid (HS10.out.more hx11)
  clear hx11 HS10 HBK
  go_wp2_with fail
  go_loopw [6] (fun iv W => iv = .int .i64 0 ∧ Hid (StrAt W1 nb tB xB f ws W)) (fun _ _ => 0)
  case atStart => exact ⟨rfl, HS11⟩
  case round =>
    clear HS11
    obtain ⟨rfl, HSW⟩ := hrel
    go_wp2_with fail
    refine wp_lex (fun _ => True) [true, true, true, true, true, true, true, true, true, true, true, true, true, true, true, true] (by kernel_rfl) (by kernel_rfl) ?_
    repeat first
      | refine wpG_move (by rfl) (by simp only [Act.eval, Array.getD_eq_getD_getElem?, List.getElem?_toArray, List.getElem?_cons_succ, List.getElem?_cons_zero, Option.getD_some]; try rfl) (by simp only [Act.put, List.setIfInBounds_toArray, List.set_cons_succ, List.set_cons_zero]; rfl) ?_
      | refine wpG_assign (by rfl) (by simp only [Act.eval, Array.getD_eq_getD_getElem?, List.getElem?_toArray, List.getElem?_cons_succ, List.getElem?_cons_zero, Option.getD_some]; try rfl) (by simp only [Act.put, List.setIfInBounds_toArray, List.set_cons_succ, List.set_cons_zero]; rfl) ?_
      | refine wpG_val (by rfl) (fun w' hx => (by go_simp; first | (go_bits; first | exact rfl | exact ⟨by omega, rfl⟩) | exact rfl | exact (if_neg (by omega)).trans rfl | exact ⟨by omega, rfl⟩)) (by simp only [Act.put, List.setIfInBounds_toArray, List.set_cons_succ, List.set_cons_zero]; rfl) ?_
      | refine wpG_no (by rfl) (by simp only [Act.put, List.setIfInBounds_toArray, List.set_cons_succ, List.set_cons_zero]; rfl) ?_
    refine wpG_end (fun w12 hx12 => ?_)
    have HS12 := Lib.hid (HSW.out.more hx12)
    clear hx12 HSW
    go_wp2_with fail
    refine gQ_normal ?_
    go_wp2_with fail
    go_ret
    exact ⟨by rw [← HPS.out]; rfl, HS12.out⟩
end Go.Proofs.YteokfknkcbmigaaGreatDoor
