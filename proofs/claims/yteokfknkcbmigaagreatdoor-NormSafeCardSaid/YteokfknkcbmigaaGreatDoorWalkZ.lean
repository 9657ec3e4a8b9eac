/-
  A stream is written to.
-/
import Derived.Test.YteokfknkcbmigaaGreatDoorWalkY
import Derived.Laws.IdiomStrings
namespace Go.Proofs.YteokfknkcbmigaaGreatDoor
open Go.RowKit Go.Rp Go.Shelf Go.Maps Go.Nm

/-- How many bytes at the front are whole runes. -/
def wholeN (l : List UInt8) : Nat := l.length - (heldL (l.drop (l.length - 3))).length
/-- Where a text is cut that is told. -/
def CutAt (u : List UInt8) (f : Int) (at' : Nat) : Prop :=
  (at' = 0 ∨ (0 < at' ∧ at' < u.length ∧ SafeT u at' f)) ∧ ∀ k, at' < k → k < u.length → ¬ SafeT u k f
theorem eb_between {l : List UInt8} {n k : Nat} (h1 : eb l n < k) (h2 : k ≤ n) : ¬ edge l k := fun h => by
  have h3 := eb_mono l k n h2
  rw [eb_of l k h] at h3
  omega
set_option maxRecDepth 100000 in
set_option maxHeartbeats 8000000 in
theorem c_Write (W1 : World) (nb tB xB pb pc : Nat) (f : Int) (hf : 0 ≤ f ∧ f ≤ 3) (ws vs : ByteArray) (pl : List UInt8) (at' : Nat) (w : World) (h : StrAt W1 nb tB xB f ws w)
    (hp : ∀ j (h : j < pl.length), w.cell? ⟨pb, j, none⟩ = some (.int .u8 pl[j].toNat)) (hv : vs.data.toList = ws.data.toList ++ pl) (hs : vs.size ≤ 1000000) (h0 : 0 < vs.size) (hc : CutAt (vs.data.toList.take (wholeN vs.data.toList)) f at') :
    Calls Tryz.prog 21 #[.pointer (some ⟨xB, 0, none⟩), .slice (some ⟨pb, 0, none⟩) pl.length pc] w fun e w' => e = .returned (.string ⟨(if at' = 0 then [] else formT f (vs.data.toList.take at')).toArray⟩) ∧ StrAt W1 nb tB xB f ⟨(vs.data.toList.drop at').toArray⟩ w' := by
  have d2 : ∀ w', EOn (fun _ => True) w w' → w'.cell? ⟨xB, 2, none⟩ = some (.string ws) := fun w' hx => hx.cell trivial ((cell_blk h.blk 2).trans rfl)
  have hcv : ∀ w', EOn (fun _ => True) w w' → (convert 38 9 (.slice (some ⟨pb, 0, none⟩) pl.length pc)).run Tryz.prog w' = .ok (.string ⟨pl.toArray⟩) w' := fun w' hx =>
    run_convert_bytes_back (P := Tryz.prog) w' 38 9 5 ⟨pb, 0, none⟩ pc pl Tryz.underlying38 Tryz.underlying5 Tryz.underlying9 (fun j hj => by
      have hadd : (⟨pb, 0, none⟩ : Addr).add j = ⟨pb, j, none⟩ := by unfold Addr.add; split <;> simp_all
      rw [hadd]
      exact hx.cell trivial (hp j hj))
  have hvs : ws ++ (⟨pl.toArray⟩ : ByteArray) = vs := by
    refine ByteArray.ext (Array.toList_inj.1 ?_)
    rw [hv]
    simp
  obtain ⟨ps, hps⟩ : ∃ ps, (⟨pl.toArray⟩ : ByteArray) = ps := ⟨_, rfl⟩
  simp only [hps] at hcv
  rw [hps] at hvs
  have HBIG := Lib.hid (show ws.size + ps.size ≤ 1000000 by
    have := congrArg ByteArray.size hvs
    rw [ByteArray.size_append] at this
    omega)
  clear hps
  have HS := Lib.hid h
  have HV := Lib.hid (And.intro hs h0)
  have HC := Lib.hid hc
  have HVS := Lib.hid hvs
  have hpl : ((pl.length : Nat) : Int) ≤ 1000000 := by have := congrArg List.length hv; rw [List.length_append, len_eq] at this; omega
  obtain ⟨res, hres⟩ : ∃ res : ByteArray, (⟨(if at' = 0 then [] else formT f (vs.data.toList.take at')).toArray⟩ : ByteArray) = res := ⟨_, rfl⟩
  obtain ⟨rst, hrst⟩ : ∃ rst : ByteArray, (⟨(vs.data.toList.drop at').toArray⟩ : ByteArray) = rst := ⟨_, rfl⟩
  have HRES := Lib.hid (And.intro hres hrst)
  rw [hres, hrst]
  clear h hp hv hs h0 hc hvs hres hrst
  go_enter Tryz.func21, Tryz.ntmps21
  go_wp2_with fail
  refine wp_reck (fun _ => True) [0, 1, 2, 4] [3, 5, 6, 7, 8, 9] [true, true] (by kernel_rfl) (by kernel_rfl) (by simp only [List.map_cons, List.map_nil, nth]; rfl) (by simp only [List.map_cons, List.map_nil, nth]; rfl) (fun wq hxq => ?_)
  repeat first
    | refine wpP_move (by rfl) (by simp only [Act.eval, Array.getD_eq_getD_getElem?, List.getElem?_toArray, List.getElem?_cons_succ, List.getElem?_cons_zero, Option.getD_some]; try rfl) (by simp only [Act.put, List.setIfInBounds_toArray, List.set_cons_succ, List.set_cons_zero]; rfl) ?_
    | refine wpP_val (by rfl) (fun w' => (by go_simp; first | (go_bits; first | exact rfl | exact ⟨by omega, rfl⟩) | exact rfl | exact (if_neg (by omega)).trans rfl | exact ⟨by omega, rfl⟩)) (by simp only [Act.put, List.setIfInBounds_toArray, List.set_cons_succ, List.set_cons_zero]; rfl) ?_
  refine wpP_end ?_
  replace d2 := fun w' hx => d2 w' (EOn.trans (EOn.of_ext hxq) hx)
  replace hcv := fun w' hx => hcv w' (EOn.trans (EOn.of_ext hxq) hx)
  repeat first
    | refine wpG_move (by rfl) (by simp only [Act.eval, Array.getD_eq_getD_getElem?, List.getElem?_toArray, List.getElem?_cons_succ, List.getElem?_cons_zero, Option.getD_some]; try rfl) (by simp only [Act.put, List.setIfInBounds_toArray, List.set_cons_succ, List.set_cons_zero]; rfl) ?_
    | refine wpG_assign (by rfl) (by simp only [Act.eval, Array.getD_eq_getD_getElem?, List.getElem?_toArray, List.getElem?_cons_succ, List.getElem?_cons_zero, Option.getD_some]; try rfl) (by simp only [Act.put, List.setIfInBounds_toArray, List.set_cons_succ, List.set_cons_zero]; rfl) ?_
    | refine wpG_val (by rfl) (fun w' hx => (by go_simp; first | (go_bits; first | exact rfl | exact ⟨by omega, rfl⟩) | exact rfl | exact (if_neg (by omega)).trans rfl | exact ⟨by omega, rfl⟩)) (by simp only [Act.put, List.setIfInBounds_toArray, List.set_cons_succ, List.set_cons_zero]; rfl) ?_
    | refine wpG_no (by rfl) (by simp only [Act.put, List.setIfInBounds_toArray, List.set_cons_succ, List.set_cons_zero]; rfl) ?_
  refine wpG_end (fun w6 hx6 => ?_)
  have hS6 := HS.out.more (hxq.trans hx6)
  have e2 : w6.cell? ⟨xB, 2, none⟩ = some (.string ws) := (cell_blk hS6.blk 2).trans rfl
  have f2 := frz_blk hS6.blk 2
  have hvs := HVS.out
  have HS7 := Lib.hid (hS6.put vs)
  clear hxq hx6 d2 hcv HS hS6
  go_wp2_with fail
  · rename_i hbig
    exfalso
    have := HBIG.out
    omega
  rename_i hsmall
  clear hsmall
  refine gQ_normal ?_
  clear hvs e2 f2
  generalize w6.setCell ⟨xB, 2, none⟩ (.string vs) = w7 at HS7 ⊢
  have e2 : ∀ w', EOn (fun _ => True) w7 w' → w'.cell? ⟨xB, 2, none⟩ = some (.string vs) := fun w' hx => hx.cell trivial ((cell_blk HS7.out.blk 2).trans rfl)
  have hvl : vs.data.toList.length = vs.size := len_eq vs
  have HWH := Lib.hid (show ∀ w', Ext w7 w' → Calls Tryz.prog 41 #[.string vs] w' fun e w'' => e = .returned (.int .i64 (wholeN vs.data.toList : Nat)) ∧ Ext w' w'' from fun w' hx => by
    have := c_whole vs w' (HS7.out.tabs.ext (HS7.out.ext.trans hx)) HV.out.1 HV.out.2
    unfold wholeN
    rw [hvl]
    exact this)
  have hmle : wholeN vs.data.toList ≤ vs.size := by unfold wholeN; omega
  obtain ⟨m, hm⟩ : ∃ m, wholeN vs.data.toList = m := ⟨_, rfl⟩
  rw [hm] at HWH HC hmle
  have hmI : ((m : Nat) : Int) ≤ (vs.size : Nat) := by omega
  have hvI : ((vs.size : Nat) : Int) ≤ 1000000 := by have := HV.out.1; omega
  obtain ⟨us, hus⟩ : ∃ us, vs.extract 0 m = us := ⟨_, rfl⟩
  have hul : us.data.toList = vs.data.toList.take m := by rw [← hus, toList_extract, List.drop_zero, Nat.sub_zero]
  have husz : us.size = m := by have := congrArg List.length hul; rw [len_eq, List.length_take, hvl] at this; omega
  rw [← hul] at HC
  have HU := Lib.hid (And.intro hul (And.intro husz hmle))
  clear hvl hm hmle hul husz
  go_wp2_with fail
  refine wp_lex (fun _ => True) [true, true, true, true, true, true, true, true, false, true, true] (by kernel_rfl) (by kernel_rfl) ?_
  repeat first
    | refine wpG_move (by rfl) (by simp only [Act.eval, Array.getD_eq_getD_getElem?, List.getElem?_toArray, List.getElem?_cons_succ, List.getElem?_cons_zero, Option.getD_some]; try rfl) (by simp only [Act.put, List.setIfInBounds_toArray, List.set_cons_succ, List.set_cons_zero]; rfl) ?_
    | refine wpG_assign (by rfl) (by simp only [Act.eval, Array.getD_eq_getD_getElem?, List.getElem?_toArray, List.getElem?_cons_succ, List.getElem?_cons_zero, Option.getD_some]; try rfl) (by simp only [Act.put, List.setIfInBounds_toArray, List.set_cons_succ, List.set_cons_zero]; rfl) ?_
    | refine wpG_val (by rfl) (fun w' hx => (by go_simp; first | (go_bits; first | exact rfl | exact ⟨by omega, rfl⟩) | exact rfl | exact (if_neg (by omega)).trans rfl | exact ⟨by omega, rfl⟩)) (by simp only [Act.put, List.setIfInBounds_toArray, List.set_cons_succ, List.set_cons_zero]; rfl) ?_
    | refine wpG_no (by rfl) (by simp only [Act.put, List.setIfInBounds_toArray, List.set_cons_succ, List.set_cons_zero]; rfl) ?_
  refine wpG_do (by rfl) (fun w8 hx8 K hK => ?_)
  go_wp2_with fail
  refine (HWH.out w8 hx8).mono ?_
  rintro e w9 ⟨rfl, hx9⟩
  refine hK _ _ ⟨EOn.of_ext hx9, ?_⟩
  clear hK
  repeat first
    | refine wpG_move (by rfl) (by simp only [Act.eval, Array.getD_eq_getD_getElem?, List.getElem?_toArray, List.getElem?_cons_succ, List.getElem?_cons_zero, Option.getD_some]; try rfl) (by simp only [Act.put, List.setIfInBounds_toArray, List.set_cons_succ, List.set_cons_zero]; rfl) ?_
    | refine wpG_assign (by rfl) (by simp only [Act.eval, Array.getD_eq_getD_getElem?, List.getElem?_toArray, List.getElem?_cons_succ, List.getElem?_cons_zero, Option.getD_some]; try rfl) (by simp only [Act.put, List.setIfInBounds_toArray, List.set_cons_succ, List.set_cons_zero]; rfl) ?_
    | refine wpG_val (by rfl) (fun w' hx => (by go_simp; first | (go_bits; first | exact rfl | exact ⟨by omega, rfl⟩) | exact rfl | exact (if_neg (by omega)).trans rfl | exact ⟨by omega, rfl⟩)) (by simp only [Act.put, List.setIfInBounds_toArray, List.set_cons_succ, List.set_cons_zero]; rfl) ?_
    | refine wpG_no (by rfl) (by simp only [Act.put, List.setIfInBounds_toArray, List.set_cons_succ, List.set_cons_zero]; rfl) ?_
  refine wpG_end (fun w10 hx10 => ?_)
  have HS10 := Lib.hid (HS7.out.more (hx8.trans (hx9.trans hx10)))
  clear hx8 hx9 hx10 e2 HWH HS7 hmI
  go_wp2_with fail
  refine gQ_normal ?_
  go_wp2_with fail
  refine (c_Back us us.size w10 (HS10.out.tabs.ext HS10.out.ext) (by have := HU.out.2.1; have := HU.out.2.2; have := HV.out.1; omega) (Nat.le_refl _)).mono ?_
  rintro e w11 ⟨rfl, hx11⟩
  have HS11 := Lib.hid (HS10.out.more hx11)
  clear hx11 HS10
  obtain ⟨a0, ha0⟩ : ∃ a0, eb us.data.toList (us.size - 1) = a0 := ⟨_, rfl⟩
  have HA0 := Lib.hid (show (a0 = 0 ∨ (edge us.data.toList a0 ∧ a0 < us.data.toList.length)) ∧ ∀ k, a0 < k → k < us.data.toList.length → ¬ SafeT us.data.toList k f by
    rw [← ha0]
    refine ⟨?_, fun k h1 h2 h3 => eb_between h1 (by rw [len_eq] at h2; omega) h3.1.2.2⟩
    by_cases h : us.size = 0
    · left
      rw [h]
      exact Nat.le_zero.1 (eb_le _ _)
    · right
      have := eb_le us.data.toList (us.size - 1)
      exact ⟨eb_edge _ _, by rw [len_eq]; omega⟩)
  rw [ha0]
  clear ha0
  go_wp2_with fail
  go_loopw [6] (fun iv W => ∃ a : Nat, iv = .int .i64 (a : Nat) ∧ Hid ((a = 0 ∨ (edge us.data.toList a ∧ a < us.data.toList.length)) ∧ ∀ k, a < k → k < us.data.toList.length → ¬ SafeT us.data.toList k f) ∧ Hid (StrAt W1 nb tB xB f vs W)) (fun iv _ => (intOf iv).toNat)
  case atStart => exact ⟨a0, rfl, HA0, HS11⟩
  case round =>
    clear HA0 HS11
    obtain ⟨a, rfl, ha, HSW⟩ := hrel
    cases a with
    | zero =>
      have hat : at' = 0 := by
        have h1 := ha.out.2
        have h2 := HC.out
        rcases h2.1 with h | ⟨h3, h4, h5⟩
        · exact h
        · exact absurd h5 (h1 at' h3 h4)
      have HAT := Lib.hid hat
      clear hat
      go_wp2_with fail
      refine wp_lex (fun _ => True) [true, true, true, true, true, true, true, true, true, true, true, true, true, true, true, true] (by kernel_rfl) (by kernel_rfl) ?_
      repeat first
        | refine wpG_move (by rfl) (by simp only [Act.eval, Array.getD_eq_getD_getElem?, List.getElem?_toArray, List.getElem?_cons_succ, List.getElem?_cons_zero, Option.getD_some]; try rfl) (by simp only [Act.put, List.setIfInBounds_toArray, List.set_cons_succ, List.set_cons_zero]; rfl) ?_
        | refine wpG_assign (by rfl) (by simp only [Act.eval, Array.getD_eq_getD_getElem?, List.getElem?_toArray, List.getElem?_cons_succ, List.getElem?_cons_zero, Option.getD_some]; try rfl) (by simp only [Act.put, List.setIfInBounds_toArray, List.set_cons_succ, List.set_cons_zero]; rfl) ?_
        | refine wpG_val (by rfl) (fun w' hx => (by go_simp; first | (go_bits; first | exact rfl | exact ⟨by omega, rfl⟩) | exact rfl | exact (if_neg (by omega)).trans rfl | exact ⟨by omega, rfl⟩)) (by simp only [Act.put, List.setIfInBounds_toArray, List.set_cons_succ, List.set_cons_zero]; rfl) ?_
        | refine wpG_no (by rfl) (by simp only [Act.put, List.setIfInBounds_toArray, List.set_cons_succ, List.set_cons_zero]; rfl) ?_
      refine wpG_end (fun w12 hx12 => ?_)
      have HS12 := Lib.hid (HSW.out.more hx12)
      clear hx12 HSW
      go_wp2_with fail
      refine gQ_normal ?_
      go_wp2_with fail
      go_ret
      have h1 := HRES.out
      rw [HAT.out, if_pos rfl] at h1
      rw [← h1.1, ← h1.2]
      exact ⟨rfl, HS12.out⟩
    | succ a =>
      have hal : a + 1 < us.size := by
        rcases ha.out.1 with h | h
        · omega
        · rw [len_eq] at h; exact h.2
      obtain ⟨b, hb⟩ : ∃ b : Bool, b = true ↔ SafeT us.data.toList ((a + 1 : Nat) : Int) f := by
        by_cases h : SafeT us.data.toList ((a + 1 : Nat) : Int) f
        · exact ⟨true, fun _ => h, fun _ => rfl⟩
        · exact ⟨false, (fun h2 => by cases h2), fun h2 => absurd h2 h⟩
      have HSF := Lib.hid (fun w' (hx : Ext wr w') => c_safe nb tB us ((a + 1 : Nat) : Int) f b w' (HSW.out.tab.ext (HSW.out.ext.trans hx)) (HSW.out.tabs.ext (HSW.out.ext.trans hx)) (by have := HU.out.2.1; have := HU.out.2.2; have := HV.out.1; omega) (by rw [hb]; unfold SafeT; rw [len_eq]))
      have HB := Lib.hid hb
      have y0 : ∀ w', EOn (fun _ => True) wr w' → w'.cell? ⟨xB, 0, none⟩ = some (.pointer (some ⟨tB, 0, none⟩)) := fun w' hx => hx.cell trivial ((cell_blk HSW.out.blk 0).trans rfl)
      have y1 : ∀ w', EOn (fun _ => True) wr w' → w'.cell? ⟨xB, 1, none⟩ = some (.int .i64 f) := fun w' hx => hx.cell trivial ((cell_blk HSW.out.blk 1).trans rfl)
      have ha9 : ((a : Nat) : Int) + 1 ≤ 1000000 := by have := HU.out.2.1; have := HU.out.2.2; have := HV.out.1; omega
      have HAL := Lib.hid hal
      clear hb hal
      go_wp2_with fail
      refine wp_lex (fun _ => True) [true, true, true, true, true, true, true, true, true, true, true, true, true, false, true, true] (by kernel_rfl) (by kernel_rfl) ?_
      repeat first
        | refine wpG_move (by rfl) (by simp only [Act.eval, Array.getD_eq_getD_getElem?, List.getElem?_toArray, List.getElem?_cons_succ, List.getElem?_cons_zero, Option.getD_some]; try rfl) (by simp only [Act.put, List.setIfInBounds_toArray, List.set_cons_succ, List.set_cons_zero]; rfl) ?_
        | refine wpG_assign (by rfl) (by simp only [Act.eval, Array.getD_eq_getD_getElem?, List.getElem?_toArray, List.getElem?_cons_succ, List.getElem?_cons_zero, Option.getD_some]; try rfl) (by simp only [Act.put, List.setIfInBounds_toArray, List.set_cons_succ, List.set_cons_zero]; rfl) ?_
        | refine wpG_val (by rfl) (fun w' hx => (by go_simp; first | (go_bits; first | exact rfl | exact ⟨by omega, rfl⟩) | exact rfl | exact (if_neg (by omega)).trans rfl | exact ⟨by omega, rfl⟩)) (by simp only [Act.put, List.setIfInBounds_toArray, List.set_cons_succ, List.set_cons_zero]; rfl) ?_
        | refine wpG_no (by rfl) (by simp only [Act.put, List.setIfInBounds_toArray, List.set_cons_succ, List.set_cons_zero]; rfl) ?_
      clear y0 y1
      refine wpG_do (by rfl) (fun w12 hx12 K hK => ?_)
      go_wp2_with fail
      have hsf := HSF.out w12 hx12
      rw [show ((a + 1 : Nat) : Int) = (a : Int) + 1 from by omega] at hsf
      refine hsf.mono ?_
      rintro e w13 ⟨rfl, hx13⟩
      refine hK _ _ ⟨EOn.of_ext hx13, ?_⟩
      clear hK hsf
      cases b with
      | true =>
        repeat first
          | refine wpG_move (by rfl) (by simp only [Act.eval, Array.getD_eq_getD_getElem?, List.getElem?_toArray, List.getElem?_cons_succ, List.getElem?_cons_zero, Option.getD_some]; try rfl) (by simp only [Act.put, List.setIfInBounds_toArray, List.set_cons_succ, List.set_cons_zero]; rfl) ?_
          | refine wpG_assign (by rfl) (by simp only [Act.eval, Array.getD_eq_getD_getElem?, List.getElem?_toArray, List.getElem?_cons_succ, List.getElem?_cons_zero, Option.getD_some]; try rfl) (by simp only [Act.put, List.setIfInBounds_toArray, List.set_cons_succ, List.set_cons_zero]; rfl) ?_
          | refine wpG_val (by rfl) (fun w' hx => (by go_simp; first | (go_bits; first | exact rfl | exact ⟨by omega, rfl⟩) | exact rfl | exact (if_neg (by omega)).trans rfl | exact ⟨by omega, rfl⟩)) (by simp only [Act.put, List.setIfInBounds_toArray, List.set_cons_succ, List.set_cons_zero]; rfl) ?_
          | refine wpG_no (by rfl) (by simp only [Act.put, List.setIfInBounds_toArray, List.set_cons_succ, List.set_cons_zero]; rfl) ?_
        refine wpG_end (fun w14 hx14 => ?_)
        have HS14 := Lib.hid (HSW.out.more (hx12.trans (hx13.trans hx14)))
        clear hx12 hx13 hx14 HSW HSF
        go_wp2_with fail
        refine gQ_normal ?_
        clear ha9
        obtain ⟨z, hz⟩ : ∃ z : Nat, a + 1 = z := ⟨_, rfl⟩
        have HZ := Lib.hid hz
        have hz0 : (((z : Nat) : Int) == 0) = false := by simp; omega
        have hzu : ((z : Nat) : Int) ≤ (us.size : Nat) := by have := HAL.out; omega
        have hzv : ((z : Nat) : Int) ≤ (vs.size : Nat) := by have := HAL.out; have := HU.out; omega
        rw [show ((a : Nat) : Int) + 1 = ((z : Nat) : Int) from by omega]
        clear hz hus
        have hat : at' = z := by
          have h1 := HB.out.1 (by trivial)
          rw [HZ.out] at h1
          have h2 := ha.out.2
          rw [HZ.out] at h2
          have h3 := HC.out
          have h4 := HAL.out
          rw [HZ.out] at h4
          rcases Nat.lt_trichotomy at' z with h | h | h
          · exact absurd h1 (h3.2 z h (by rw [len_eq]; omega))
          · exact h
          · rcases h3.1 with h5 | ⟨h5, h6, h7⟩
            · omega
            · exact absurd h7 (h2 at' h h6)
        have hz1 : z ≠ 0 := by have := HZ.out; omega
        have HAT := Lib.hid (And.intro hat hz1)
        obtain ⟨ts, hts⟩ : ∃ ts, us.extract 0 z = ts := ⟨_, rfl⟩
        obtain ⟨rs, hrs⟩ : ∃ rs, vs.extract z vs.size = rs := ⟨_, rfl⟩
        have HTS := Lib.hid (show ts.data.toList = vs.data.toList.take z ∧ ts.size ≤ 1000000 ∧ rs = ⟨(vs.data.toList.drop z).toArray⟩ by
          have hu := HU.out
          have hl := HAL.out
          have hv := HV.out.1
          have hz9 := HZ.out
          have e1 : ts.data.toList = vs.data.toList.take z := by
            rw [← hts, toList_extract, List.drop_zero, Nat.sub_zero, hu.1, List.take_take, Nat.min_eq_left (by omega)]
          refine ⟨e1, ?_, ?_⟩
          · have := congrArg List.length e1
            rw [len_eq, List.length_take, len_eq] at this
            omega
          · rw [← hrs]
            refine ByteArray.ext (Array.toList_inj.1 ?_)
            rw [toList_extract, take_all (by rw [List.length_drop, len_eq]; exact Nat.le_refl _)])
        obtain ⟨fz, hfz⟩ : ∃ fz, formT f ts.data.toList = fz := ⟨_, rfl⟩
        have HF := Lib.hid (show ∀ nb tB w, NTab nb w tB → Tabs w → Calls Tryz.prog 35 #[.pointer (some ⟨tB, 0, none⟩), .string ts, .int .i64 f] w fun e w' => e = .returned (.string ⟨fz.toArray⟩) ∧ Ext w w' from fun nb tB w h1 h2 => by
          have := c_form nb tB ts f w h1 h2 HTS.out.2.1
          rw [← hfz]
          unfold formT
          rw [if_pos hf]
          exact this)
        have HFZ := Lib.hid hfz
        have y0 : ∀ w', EOn (fun _ => True) w14 w' → w'.cell? ⟨xB, 0, none⟩ = some (.pointer (some ⟨tB, 0, none⟩)) := fun w' hx => hx.cell trivial ((cell_blk HS14.out.blk 0).trans rfl)
        have y1 : ∀ w', EOn (fun _ => True) w14 w' → w'.cell? ⟨xB, 1, none⟩ = some (.int .i64 f) := fun w' hx => hx.cell trivial ((cell_blk HS14.out.blk 1).trans rfl)
        clear hat hz1 hfz
        go_wp2_with fail
        refine wp_lex (fun _ => True) [true, true, true, true, true, true, true, true, true, true, true, false, true] (by kernel_rfl) (by kernel_rfl) ?_
        repeat first
          | refine wpG_move (by rfl) (by simp only [Act.eval, Array.getD_eq_getD_getElem?, List.getElem?_toArray, List.getElem?_cons_succ, List.getElem?_cons_zero, Option.getD_some]; try rfl) (by simp only [Act.put, List.setIfInBounds_toArray, List.set_cons_succ, List.set_cons_zero]; rfl) ?_
          | refine wpG_assign (by rfl) (by simp only [Act.eval, Array.getD_eq_getD_getElem?, List.getElem?_toArray, List.getElem?_cons_succ, List.getElem?_cons_zero, Option.getD_some]; try rfl) (by simp only [Act.put, List.setIfInBounds_toArray, List.set_cons_succ, List.set_cons_zero]; rfl) ?_
          | refine wpG_val (by rfl) (fun w' hx => (by go_simp; first | (go_bits; first | exact rfl | exact ⟨by omega, rfl⟩) | exact rfl | exact (if_neg (by omega)).trans rfl | exact ⟨by omega, rfl⟩)) (by simp only [Act.put, List.setIfInBounds_toArray, List.set_cons_succ, List.set_cons_zero]; rfl) ?_
          | refine wpG_no (by rfl) (by simp only [Act.put, List.setIfInBounds_toArray, List.set_cons_succ, List.set_cons_zero]; rfl) ?_
        clear y0 y1
        refine wpG_do (by rfl) (fun w15 hx15 K hK => ?_)
        go_wp2_with fail
        refine (HF.out nb tB w15 (HS14.out.tab.ext (HS14.out.ext.trans hx15)) (HS14.out.tabs.ext (HS14.out.ext.trans hx15))).mono ?_
        rintro e w16 ⟨rfl, hx16⟩
        refine hK _ _ ⟨EOn.of_ext hx16, ?_⟩
        clear hK
        repeat first
          | refine wpG_move (by rfl) (by simp only [Act.eval, Array.getD_eq_getD_getElem?, List.getElem?_toArray, List.getElem?_cons_succ, List.getElem?_cons_zero, Option.getD_some]; try rfl) (by simp only [Act.put, List.setIfInBounds_toArray, List.set_cons_succ, List.set_cons_zero]; rfl) ?_
          | refine wpG_assign (by rfl) (by simp only [Act.eval, Array.getD_eq_getD_getElem?, List.getElem?_toArray, List.getElem?_cons_succ, List.getElem?_cons_zero, Option.getD_some]; try rfl) (by simp only [Act.put, List.setIfInBounds_toArray, List.set_cons_succ, List.set_cons_zero]; rfl) ?_
          | refine wpG_val (by rfl) (fun w' hx => (by go_simp; first | (go_bits; first | exact rfl | exact ⟨by omega, rfl⟩) | exact rfl | exact (if_neg (by omega)).trans rfl | exact ⟨by omega, rfl⟩)) (by simp only [Act.put, List.setIfInBounds_toArray, List.set_cons_succ, List.set_cons_zero]; rfl) ?_
          | refine wpG_no (by rfl) (by simp only [Act.put, List.setIfInBounds_toArray, List.set_cons_succ, List.set_cons_zero]; rfl) ?_
        refine wpG_end (fun w17 hx17 => ?_)
        have HS17 := Lib.hid (HS14.out.more (hx15.trans (hx16.trans hx17)))
        clear hx15 hx16 hx17 HS14 HF
        go_wp2_with fail
        refine gQ_normal ?_
        have e2 : w17.cell? ⟨xB, 2, none⟩ = some (.string vs) := (cell_blk HS17.out.blk 2).trans rfl
        have f2 := frz_blk HS17.out.blk 2
        have HS19 := Lib.hid (HS17.out.put rs)
        clear HS17
        go_wp2_with fail
        go_ret
        have h1 := HAT.out
        have h2 := HTS.out
        have h3 := HS19.out
        have h4 := HRES.out
        rw [h1.1, if_neg h1.2, ← h2.1, HFZ.out] at h4
        rw [← h4.1, ← h4.2, ← h2.2.2]
        exact ⟨rfl, h3⟩
      | false =>
        repeat first
          | refine wpG_move (by rfl) (by simp only [Act.eval, Array.getD_eq_getD_getElem?, List.getElem?_toArray, List.getElem?_cons_succ, List.getElem?_cons_zero, Option.getD_some]; try rfl) (by simp only [Act.put, List.setIfInBounds_toArray, List.set_cons_succ, List.set_cons_zero]; rfl) ?_
          | refine wpG_assign (by rfl) (by simp only [Act.eval, Array.getD_eq_getD_getElem?, List.getElem?_toArray, List.getElem?_cons_succ, List.getElem?_cons_zero, Option.getD_some]; try rfl) (by simp only [Act.put, List.setIfInBounds_toArray, List.set_cons_succ, List.set_cons_zero]; rfl) ?_
          | refine wpG_val (by rfl) (fun w' hx => (by go_simp; first | (go_bits; first | exact rfl | exact ⟨by omega, rfl⟩) | exact rfl | exact (if_neg (by omega)).trans rfl | exact ⟨by omega, rfl⟩)) (by simp only [Act.put, List.setIfInBounds_toArray, List.set_cons_succ, List.set_cons_zero]; rfl) ?_
          | refine wpG_no (by rfl) (by simp only [Act.put, List.setIfInBounds_toArray, List.set_cons_succ, List.set_cons_zero]; rfl) ?_
        refine wpG_end (fun w14 hx14 => ?_)
        have HS14 := Lib.hid (HSW.out.more (hx12.trans (hx13.trans hx14)))
        clear hx12 hx13 hx14 HSW HSF
        go_wp2_with fail
        refine gQ_normal ?_
        go_wp2_with fail
        rw [show ((a : Nat) : Int) + 1 = ((a + 1 : Nat) : Int) from by omega]
        refine (c_Back us (a + 1) w14 (HS14.out.tabs.ext HS14.out.ext) (by have := HU.out; have := HV.out.1; omega) (by have := HAL.out; omega)).mono ?_
        rintro e w15 ⟨rfl, hx15⟩
        have HS15 := Lib.hid (HS14.out.more hx15)
        clear hx15 HS14
        rw [Nat.add_sub_cancel]
        obtain ⟨n1, hn1⟩ : ∃ n1, eb us.data.toList a = n1 := ⟨_, rfl⟩
        have HN1 := Lib.hid hn1
        rw [hn1]
        clear hn1
        go_wp2_with fail
        go_roundw
        case rel =>
          have hle := eb_le us.data.toList a
          have hed := eb_edge us.data.toList a
          rw [HN1.out] at hle hed
          refine ⟨n1, rfl, Lib.hid ⟨.inr ⟨hed, by have := HAL.out; rw [len_eq]; omega⟩, fun k h1 h2 h3 => ?_⟩, HS15⟩
          rcases Nat.lt_trichotomy k (a + 1) with h | h | h
          · exact eb_between (n := a) (by rw [HN1.out]; exact h1) (by omega) h3.1.2.2
          · subst h
            have := HB.out.2 h3
            cases this
          · exact ha.out.2 k h h2 h3
        case measure =>
          have hle := eb_le us.data.toList a
          rw [HN1.out] at hle
          simp [intOf]
          omega
end Go.Proofs.YteokfknkcbmigaaGreatDoor
