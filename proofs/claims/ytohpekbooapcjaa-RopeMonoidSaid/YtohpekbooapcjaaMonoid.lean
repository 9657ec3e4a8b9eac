/-
  Ropes are a monoid: the walk of RopeMonoid.
-/
import Derived.Test.YtohpekbooapcjaaLive
namespace Go.Proofs.Ytohpekbooapcjaa
open Go.RowKit Go.Rp

theorem cut_join (s : ByteArray) (k : Nat) (h : k ≤ s.size) : s.extract 0 k ++ s.extract k s.size = s := by
  rw [ByteArray.extract_append_extract]
  rw [show min 0 k = 0 from by omega, show max k s.size = s.size from by omega]
  simp
theorem put_cut (p b q : ByteArray) : (p ++ b ++ q).extract 0 p.size ++ (p ++ b ++ q).extract (p.size + b.size) (p ++ b ++ q).size = p ++ q := by
  apply ByteArray.ext
  apply Array.toList_inj.1
  rw [toList_append, toList_append, toList_extract, toList_extract, toList_append, toList_append]
  have hp := len_eq p
  have hb := len_eq b
  have hq := len_eq q
  have ht : (p ++ b ++ q).size = p.size + b.size + q.size := by rw [ByteArray.size_append, ByteArray.size_append]
  rw [ht, ← hp, ← hb, ← hq]
  simp [List.append_assoc]
  rw [← List.append_assoc, List.drop_left' (by rw [List.length_append]; omega), List.take_of_length_le (by omega)]

set_option maxRecDepth 100000 in
set_option maxHeartbeats 8000000 in
theorem c_Monoid (a b c : ByteArray) (at_ : Int) (w : World) (ha : a.size ≤ 1099511627776000) (hb : b.size ≤ 1099511627776000) (hc : c.size ≤ 1099511627776000) :
    Calls Try.prog 4 #[.agg #[.string a, .string b, .string c, .int .i64 at_]] w fun e w' => e = .returned (.bool true) ∧ Ext w w' := by
  go_enter Try.func4, Try.ntmps4
  go_upto_region 1 with fail
  refine wp_gen (fun W => Ext w W ∧ W.heap[w.heap.size]? = some (.cells #[.string a, .string b, .string c, .int .i64 at_] 33 (0, 0))) ⟨(Ext.refl w).alloc _, alloc_blk _ _⟩ (fun w0 hw0 => ?_)
  obtain ⟨hX, hb0⟩ := hw0
  have q0 : ∀ w', Ext w0 w' → ∀ i, w'.cell? ⟨w.heap.size, i, none⟩ = _ := fun w' h i => cell_blk (h.blk hb0) i
  obtain ⟨s, hs⟩ : ∃ s, a ++ b ++ c = s := ⟨_, rfl⟩
  have zs : s.size ≤ a.size + b.size + c.size ∧ a.size + b.size + c.size ≤ s.size := by rw [← hs, ByteArray.size_append, ByteArray.size_append]; omega
  refine wp_lex [true, true, true, true, true, true, true, true, true, true, true, true] (by kernel_rfl) (by kernel_rfl) ?_
  repeat first
    | refine wpG_move (by rfl) (by simp only [Act.eval, Array.getD_eq_getD_getElem?, List.getElem?_toArray, List.getElem?_cons_succ, List.getElem?_cons_zero, Option.getD_some]; try rfl) (by simp only [Act.put, List.setIfInBounds_toArray, List.set_cons_succ, List.set_cons_zero]; rfl) ?_
    | refine wpG_assign (by rfl) (by simp only [Act.eval, Array.getD_eq_getD_getElem?, List.getElem?_toArray, List.getElem?_cons_succ, List.getElem?_cons_zero, Option.getD_some]; try rfl) (by simp only [Act.put, List.setIfInBounds_toArray, List.set_cons_succ, List.set_cons_zero]; rfl) ?_
    | refine wpG_val (by rfl) (fun w' hx => (by go_simp; first | (go_bits; first | exact rfl | exact ⟨by omega, rfl⟩) | exact rfl | exact (if_neg (by omega)).trans rfl | exact ⟨by omega, rfl⟩)) (by simp only [Act.put, List.setIfInBounds_toArray, List.set_cons_succ, List.set_cons_zero]; rfl) ?_
    | refine wpG_no (by rfl) (by simp only [Act.put, List.setIfInBounds_toArray, List.set_cons_succ, List.set_cons_zero]; rfl) ?_
  refine wpG_end (fun w1 hx1 => ?_)
  replace hX := hX.trans hx1
  clear q0 hb0 hx1
  go_wp2_with fail
  refine gQ_gen (fun W => Ext w W) hX (fun W hX => ?_)
  by_cases hw : 4000 < a.size + b.size + c.size
  · go_wp2_with fail
    refine (c_live _).mono ?_
    rintro e u1 ⟨rfl, hx⟩
    replace hX := hX.trans hx
    clear hx
    go_wp2_with fail
    exact ret_one rfl rfl rfl ⟨rfl, hX⟩
  go_wp2_with fail
  refine (c_New a _ (by omega)).mono ?_
  rintro e u2 ⟨va, oa, rfl, hA, ea, hx⟩
  replace hX := hX.trans hx
  clear hx
  go_wp2_with fail
  refine (c_New b _ (by omega)).mono ?_
  rintro e u3 ⟨vb, ob, rfl, hB, eb, hx⟩
  replace hX := hX.trans hx
  replace hA := hA.mono hx
  clear hx
  go_wp2_with fail
  refine (c_New c _ (by omega)).mono ?_
  rintro e u4 ⟨vc, oc, rfl, hC, ec, hx⟩
  replace hX := hX.trans hx
  replace hA := hA.mono hx
  replace hB := hB.mono hx
  clear hx
  have za : (txt oa).size = a.size := by rw [ea]
  have zb : (txt ob).size = b.size := by rw [eb]
  have zc : (txt oc).size = c.size := by rw [ec]
  have EA := Lib.hid ea
  have EB := Lib.hid eb
  have EC := Lib.hid ec
  clear ea eb ec
  go_wp2_with fail
  refine (c_num 0 _).mono ?_
  rintro e u5 ⟨rfl, rfl⟩
  go_wp2_with fail
  refine (c_num 0 _).mono ?_
  rintro e u6 ⟨rfl, rfl⟩
  go_wp2_with fail
  refine (c_num 0 _).mono ?_
  rintro e u7 ⟨rfl, rfl⟩
  go_wp2_with fail
  refine (c_Join va vb oa ob _ hA hB (by omega) (by omega) (by omega)).mono ?_
  rintro e u8 ⟨vab, oab, rfl, hAB, eab, hx⟩
  replace hX := hX.trans hx
  replace hA := hA.mono hx
  replace hB := hB.mono hx
  replace hC := hC.mono hx
  clear hx
  have zab : (txt oab).size = a.size + b.size := by rw [eab, ByteArray.size_append]; omega
  have EAB := Lib.hid eab
  clear eab
  go_wp2_with fail
  refine (c_Join vb vc ob oc _ hB hC (by omega) (by omega) (by omega)).mono ?_
  rintro e u9 ⟨vbc, obc, rfl, hBC, ebc, hx⟩
  replace hX := hX.trans hx
  replace hA := hA.mono hx
  replace hB := hB.mono hx
  replace hC := hC.mono hx
  replace hAB := hAB.mono hx
  clear hx
  have zbc : (txt obc).size = b.size + c.size := by rw [ebc, ByteArray.size_append]; omega
  have EBC := Lib.hid ebc
  clear ebc
  go_wp2_with fail
  refine (c_Join vab vc oab oc _ hAB hC (by omega) (by omega) (by omega)).mono ?_
  rintro e u10 ⟨vl, ol, rfl, hL, el, hx⟩
  replace hX := hX.trans hx
  replace hA := hA.mono hx
  replace hBC := hBC.mono hx
  clear hx
  have el2 : txt ol = s := by rw [el, EAB.out, EA.out, EB.out, EC.out, hs]
  have zl : (txt ol).size = s.size := by rw [el2]
  have EL := Lib.hid el2
  clear el el2
  go_wp2_with fail
  refine (c_Join va vbc oa obc _ hA hBC (by omega) (by omega) (by omega)).mono ?_
  rintro e u11 ⟨vr, or, rfl, hR, er, hx⟩
  replace hX := hX.trans hx
  replace hL := hL.mono hx
  clear hx
  have er2 : txt or = s := by rw [er, EBC.out, EA.out, EB.out, EC.out, ← ByteArray.append_assoc, hs]
  have zr : (txt or).size = s.size := by rw [er2]
  have ER := Lib.hid er2
  clear er er2
  have tn : (txt none).size = 0 := rfl
  go_wp2_with fail
  refine (c_Join (.pointer none) vl none ol _ .nil hL (by omega) (by omega) (by omega)).mono ?_
  rintro e u12 ⟨vn, on, rfl, hN, en, hx⟩
  replace hX := hX.trans hx
  replace hL := hL.mono hx
  replace hR := hR.mono hx
  clear hx
  have en2 : txt on = s := by rw [en, EL.out]; simp [txt]
  have zn : (txt on).size = s.size := by rw [en2]
  have EN := Lib.hid en2
  clear en en2
  go_wp2_with fail
  refine (c_Join vl (.pointer none) ol none _ hL .nil (by omega) (by omega) (by omega)).mono ?_
  rintro e u13 ⟨vm, om, rfl, hM, em, hx⟩
  replace hX := hX.trans hx
  replace hL := hL.mono hx
  replace hR := hR.mono hx
  replace hN := hN.mono hx
  clear hx
  have em2 : txt om = s := by rw [em, EL.out]; simp [txt]
  have zm : (txt om).size = s.size := by rw [em2]
  have EM := Lib.hid em2
  clear em em2 hA hBC
  go_wp2_with fail
  refine (c_Equal vl vr ol or _ hL hR (by omega) (by omega)).mono ?_
  rintro e u14 ⟨rfl, hx⟩
  replace hX := hX.trans hx
  replace hL := hL.mono hx
  replace hR := hR.mono hx
  replace hN := hN.mono hx
  replace hM := hM.mono hx
  clear hx
  rw [EL.out, ER.out]
  go_wp2_with fail
  refine (c_Equal vn vl on ol _ hN hL (by omega) (by omega)).mono ?_
  rintro e u15 ⟨rfl, hx⟩
  replace hX := hX.trans hx
  replace hL := hL.mono hx
  replace hR := hR.mono hx
  replace hM := hM.mono hx
  clear hx
  rw [EN.out, EL.out]
  go_wp2_with fail
  refine (c_Equal vm vl om ol _ hM hL (by omega) (by omega)).mono ?_
  rintro e u16 ⟨rfl, hx⟩
  replace hX := hX.trans hx
  replace hL := hL.mono hx
  replace hR := hR.mono hx
  clear hx
  rw [EM.out, EL.out]
  go_wp2_with fail
  refine (c_Runes vl ol _ hL (by omega)).mono ?_
  rintro e u17 ⟨rfl, hx⟩
  replace hX := hX.trans hx
  replace hL := hL.mono hx
  replace hR := hR.mono hx
  clear hx
  rw [EL.out]
  go_wp2_with fail
  refine (c_Runes vr or _ hR (by omega)).mono ?_
  rintro e u18 ⟨rfl, hx⟩
  replace hX := hX.trans hx
  replace hL := hL.mono hx
  replace hR := hR.mono hx
  clear hx
  rw [ER.out]
  go_wp2_with fail
  refine (c_RUnits vl ol _ hL (by omega)).mono ?_
  rintro e u19 ⟨rfl, hx⟩
  replace hX := hX.trans hx
  replace hL := hL.mono hx
  replace hR := hR.mono hx
  clear hx
  rw [EL.out]
  go_wp2_with fail
  refine (c_RUnits vr or _ hR (by omega)).mono ?_
  rintro e u20 ⟨rfl, hx⟩
  replace hX := hX.trans hx
  replace hL := hL.mono hx
  clear hx
  rw [ER.out]
  go_wp2_with fail
  refine (c_String vl ol _ hL (by omega)).mono ?_
  rintro e u21 ⟨rfl, hx⟩
  replace hX := hX.trans hx
  replace hL := hL.mono hx
  clear hx
  rw [EL.out]
  go_wp2_with fail
  by_cases h0 : at_ < 0
  · refine (c_Cut_no vl ol at_ _ hL (by omega) (by omega)).mono ?_
    rintro e u22 ⟨rfl, hx⟩
    replace hX := hX.trans hx
    replace hL := hL.mono hx
    clear hx
    go_wp2_with fail
    refine (c_num 200 _).mono ?_
    rintro e u23 ⟨rfl, rfl⟩
    go_wp2_with fail
    refine (c_num 200 _).mono ?_
    rintro e u24 ⟨rfl, rfl⟩
    go_wp2_with fail
    refine (c_live _).mono ?_
    rintro e u25 ⟨rfl, hx⟩
    replace hX := hX.trans hx
    clear hx
    go_wp2_with fail
    exact ret_one rfl rfl rfl ⟨rfl, hX⟩
  by_cases h1 : (s.size : Int) < at_
  · refine (c_Cut_no vl ol at_ _ hL (by omega) (by omega)).mono ?_
    rintro e u26 ⟨rfl, hx⟩
    replace hX := hX.trans hx
    replace hL := hL.mono hx
    clear hx
    go_wp2_with fail
    refine (c_num 200 _).mono ?_
    rintro e u27 ⟨rfl, rfl⟩
    go_wp2_with fail
    refine (c_Len vl ol _ hL (by omega)).mono ?_
    rintro e u28 ⟨rfl, hx⟩
    replace hX := hX.trans hx
    clear hx
    rw [EL.out]
    go_wp2_with fail
    refine (c_num 200 _).mono ?_
    rintro e u29 ⟨rfl, rfl⟩
    go_wp2_with fail
    refine (c_live _).mono ?_
    rintro e u30 ⟨rfl, hx⟩
    replace hX := hX.trans hx
    clear hx
    go_wp2_with fail
    exact ret_one rfl rfl rfl ⟨rfl, hX⟩
  obtain ⟨k, rfl⟩ : ∃ k : Nat, at_ = (k : Int) := ⟨at_.toNat, by omega⟩
  have hk : k ≤ s.size := by omega
  clear h0 h1
  refine (c_Cut vl ol k _ hL (by omega) (by omega)).mono ?_
  rintro e u31 ⟨vp, vq, op, oq, rfl, hP, hQ, ep, eq, hx⟩
  replace hX := hX.trans hx
  replace hL := hL.mono hx
  clear hx
  have zp : (txt op).size = k := by rw [ep, ByteArray.size_extract]; omega
  have zq : (txt oq).size = s.size - k := by rw [eq, ByteArray.size_extract]; omega
  have epq : txt op ++ txt oq = s := by rw [ep, eq, EL.out, cut_join _ _ hk]
  have eins : (txt ol).extract 0 k ++ b ++ (txt ol).extract k (txt ol).size = txt op ++ b ++ txt oq := by rw [ep, eq]
  have EPQ := Lib.hid epq
  have EI := Lib.hid eins
  clear ep eq epq eins
  go_wp2_with fail
  refine (c_num 0 _).mono ?_
  rintro e u32 ⟨rfl, rfl⟩
  go_wp2_with fail
  refine (c_Len vl ol _ hL (by omega)).mono ?_
  rintro e u33 ⟨rfl, hx⟩
  replace hX := hX.trans hx
  replace hL := hL.mono hx
  replace hP := hP.mono hx
  replace hQ := hQ.mono hx
  clear hx
  rw [EL.out]
  go_wp2_with fail
  refine (c_num 0 _).mono ?_
  rintro e u34 ⟨rfl, rfl⟩
  go_wp2_with fail
  refine (c_Join vp vq op oq _ hP hQ (by omega) (by omega) (by omega)).mono ?_
  rintro e u35 ⟨vo, oo, rfl, hO, eo, hx⟩
  replace hX := hX.trans hx
  replace hL := hL.mono hx
  replace hP := hP.mono hx
  replace hQ := hQ.mono hx
  clear hx
  have EO := Lib.hid (eo.trans EPQ.out)
  have zo : (txt oo).size = s.size := by rw [EO.out]
  clear eo
  go_wp2_with fail
  refine (c_Insert vl ol k b _ hL (by omega) (by omega) (by omega)).mono ?_
  rintro e u36 ⟨vi, oi, rfl, hI, ei, hx⟩
  replace hX := hX.trans hx
  replace hL := hL.mono hx
  replace hO := hO.mono hx
  clear hx
  have ei2 := ei.trans EI.out
  have zi : (txt oi).size = k + b.size + (s.size - k) := by rw [ei2, ByteArray.size_append, ByteArray.size_append]; omega
  have EII := Lib.hid ei2
  clear ei ei2
  have hkb := Lib.hid (show (k : Int) + (b.size : Nat) = ((k + b.size : Nat) : Int) by omega)
  go_wp2_with fail
  rw [hkb.out]
  refine (c_Delete vi oi k (k + b.size) _ hI (by omega) (by omega) (by omega)).mono ?_
  rintro e u37 ⟨vj, oj, rfl, hJ, ej, hx⟩
  replace hX := hX.trans hx
  replace hL := hL.mono hx
  replace hO := hO.mono hx
  clear hx
  have ej2 : txt oj = s := by
    have e1 := put_cut (txt op) b (txt oq)
    rw [zp] at e1
    rw [ej, EII.out, e1, EPQ.out]
  have zj : (txt oj).size = s.size := by rw [ej2]
  have EJ := Lib.hid ej2
  clear ej ej2
  go_wp2_with fail
  refine (c_Equal vo vl oo ol _ hO hL (by omega) (by omega)).mono ?_
  rintro e u38 ⟨rfl, hx⟩
  replace hX := hX.trans hx
  replace hL := hL.mono hx
  replace hO := hO.mono hx
  replace hJ := hJ.mono hx
  clear hx
  rw [EO.out, EL.out]
  go_wp2_with fail
  refine (c_Runes vo oo _ hO (by omega)).mono ?_
  rintro e u39 ⟨rfl, hx⟩
  replace hX := hX.trans hx
  replace hL := hL.mono hx
  replace hJ := hJ.mono hx
  clear hx
  rw [EO.out]
  go_wp2_with fail
  refine (c_Runes vl ol _ hL (by omega)).mono ?_
  rintro e u40 ⟨rfl, hx⟩
  replace hX := hX.trans hx
  replace hL := hL.mono hx
  replace hJ := hJ.mono hx
  clear hx
  rw [EL.out]
  go_wp2_with fail
  refine (c_Equal vj vl oj ol _ hJ hL (by omega) (by omega)).mono ?_
  rintro e u41 ⟨rfl, hx⟩
  replace hX := hX.trans hx
  replace hL := hL.mono hx
  replace hJ := hJ.mono hx
  clear hx
  rw [EJ.out, EL.out]
  go_wp2_with fail
  refine (c_RUnits vj oj _ hJ (by omega)).mono ?_
  rintro e u42 ⟨rfl, hx⟩
  replace hX := hX.trans hx
  replace hL := hL.mono hx
  clear hx
  rw [EJ.out]
  go_wp2_with fail
  refine (c_RUnits vl ol _ hL (by omega)).mono ?_
  rintro e u43 ⟨rfl, hx⟩
  replace hX := hX.trans hx
  clear hx
  rw [EL.out]
  go_wp2_with fail
  refine (c_live _).mono ?_
  rintro e u44 ⟨rfl, hx⟩
  replace hX := hX.trans hx
  clear hx
  go_wp2_with fail
  exact ret_one rfl rfl rfl ⟨rfl, hX⟩
end Go.Proofs.Ytohpekbooapcjaa
