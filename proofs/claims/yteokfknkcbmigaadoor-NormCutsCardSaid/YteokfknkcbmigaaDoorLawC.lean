/-
  Cut where it is safe.
-/
import Derived.Test.YteokfknkcbmigaaDoorLawA
namespace Go.Proofs.YteokfknkcbmigaaDoor
open Go.RowKit Go.Rp Go.Shelf Go.Maps Go.Nm

theorem scT_none {r : Int} (h : scT r = false) (a : Int) : jnT a r = none := by
  cases hj : jnT a r with
  | none => rfl
  | some x =>
    exfalso
    unfold scT at h
    simp only [Bool.or_eq_false_iff, Bool.and_eq_false_iff, decide_eq_false_iff_not] at h
    unfold jnT at hj
    split at hj
    · rename_i hc
      omega
    · split at hj
      · rename_i hc
        omega
      · have hm := jnL_some.1 hj
        have := List.any_eq_false.1 h.1.1 _ hm
        simp at this
/-- Where a text is safe to be cut, both sides' forms are the form. -/
theorem cut_form {s : List UInt8} {k : Nat} {f : Int} (h : SafeT s k f) (h0 : 0 < k) (h1 : k < s.length) : formT f s = formT f (s.take k) ++ formT f (s.drop k) := by
  obtain ⟨⟨_, _, he⟩, hs⟩ := h
  have hne : s.drop k ≠ [] := by
    intro e
    have := congrArg List.length e
    rw [List.length_drop, List.length_nil] at this
    omega
  have hk : ((k : Nat) : Int).toNat = k := rfl
  rw [hk] at he hs
  unfold formT
  by_cases hf : 0 ≤ f ∧ f ≤ 3
  · rw [if_pos hf, if_pos hf, if_pos hf]
    have hr := rawOf_split s.length s k (Nat.le_refl _) (by omega) he
    refine form_cut _ _ hr (fun z hz => ?_)
    rw [rawOf_step _ hne] at hz
    rcases hs with h | h | h
    · rcases h with h | h | h
      · omega
      · omega
      · exact absurd hf h
    · have hrw : run (s.drop k) = 65533 ∧ wid (s.drop k) = 1 := ⟨congrArg Prod.fst h, congrArg Prod.snd h⟩
      rw [if_pos hrw] at hz
      simp only [Tb.els, List.flatMap_cons, if_true, List.cons_append, List.nil_append, List.head?_cons, Option.mem_def, Option.some.injEq] at hz
      subst hz
      exact ⟨rfl, .inl rfl⟩
    · by_cases hrw : run (s.drop k) = 65533 ∧ wid (s.drop k) = 1
      · rw [if_pos hrw] at hz
        simp only [Tb.els, List.flatMap_cons, if_true, List.cons_append, List.nil_append, List.head?_cons, Option.mem_def, Option.some.injEq] at hz
        subst hz
        exact ⟨rfl, .inl rfl⟩
      · rw [if_neg hrw] at hz
        obtain ⟨r, hr⟩ : ∃ r : Int, ((run (s.drop k) : Nat) : Int) = r := ⟨_, rfl⟩
        rw [hr] at hz h
        unfold firmT at h
        have hl := (faT_len (decide (f = 2 ∨ f = 3)) r).1
        obtain ⟨q, t, hqt⟩ : ∃ q t, faT (decide (f = 2 ∨ f = 3)) r = q :: t := by
          cases hq : faT (decide (f = 2 ∨ f = 3)) r with
          | nil => rw [hq] at hl; simp at hl
          | cons q t => exact ⟨q, t, rfl⟩
        rw [hqt, List.headD_cons, Bool.and_eq_true, decide_eq_true_eq] at h
        have hz2 : z = tbT.mk1 q := by
          simp only [Tb.els, List.flatMap_cons] at hz
          rw [if_neg (by simp), show tbT.fa (decide (f = 2 ∨ f = 3)) r = q :: t from hqt] at hz
          simpa using hz.symm
        subst hz2
        refine ⟨h.1, .inr (fun hc a => ?_)⟩
        have h2 := h.2
        rw [show (decide (f = 1 ∨ f = 3)) = true from hc] at h2
        simp only [Bool.true_and, Bool.not_eq_true'] at h2
        exact scT_none h2 a
  · rw [if_neg hf, if_neg hf, if_neg hf, List.take_append_drop]
theorem safe_ends (s : List UInt8) (f : Int) : SafeT s 0 f ∧ SafeT s (s.length : Nat) f := by
  refine ⟨⟨⟨by omega, by omega, edge_zero s⟩, .inl (.inl rfl)⟩, ⟨⟨by omega, by omega, ?_⟩, .inl (.inr (.inl rfl))⟩⟩
  exact edge_end s
set_option maxRecDepth 100000 in
set_option maxHeartbeats 8000000 in
theorem c_Cuts (s : ByteArray) (f : Int) (w : World) (hT : Tabs w) : Calls Tryd.prog 5 #[.string s, .int .i64 f] w fun e w' => e = .returned (.bool true) ∧ Ext w w' := by
  by_cases hs : s.size ≤ 90
  · have hsI : ¬ (90 : Int) < (s.size : Nat) := by omega
    have hs9 : ((s.size : Nat) : Int) ≤ 90 := by omega
    obtain ⟨z, hz⟩ : ∃ x : ByteArray, (⟨(formT f s.data.toList).toArray⟩ : ByteArray) = x := ⟨_, rfl⟩
    have H1 := Lib.hid (show Calls Tryd.prog 9 #[.string s, .int .i64 f] w fun e w' => e = .returned (.string z) ∧ Ext w w' by rw [← hz]; exact c_Form s f w hT (by omega))
    have H2 := Lib.hid (fun w2 hT2 => c_Safe s 0 f true w2 hT2 (by omega) ⟨fun _ => (safe_ends _ f).1, fun _ => rfl⟩)
    have H3 := Lib.hid (fun w2 hT2 => c_Safe s (s.size : Nat) f true w2 hT2 (by omega) ⟨fun _ => by have := (safe_ends s.data.toList f).2; rw [len_eq] at this; exact this, fun _ => rfl⟩)
    have HS := Lib.hid (And.intro hs hz)
    clear hs hz
    go_enter Tryd.func5, Tryd.ntmps5
    go_wp2_with fail
    refine H1.out.mono ?_
    rintro e w1 ⟨rfl, hx1⟩
    have HX1 := Lib.hid hx1
    clear hx1
    go_wp2_with fail
    refine (H2.out w1 (hT.ext HX1.out)).mono ?_
    rintro e w2 ⟨rfl, hx2⟩
    have HX2 := Lib.hid (HX1.out.trans hx2)
    clear hx2
    go_wp2_with fail
    refine (H3.out w2 (hT.ext HX2.out)).mono ?_
    rintro e w3 ⟨rfl, hx3⟩
    have HX3 := Lib.hid (HX2.out.trans hx3)
    clear hx3
    go_wp2_with fail
    go_loopw [6] (fun iv W => ∃ i : Nat, iv = .int .i64 (i : Nat) ∧ 1 ≤ i ∧ Ext w W) (fun iv _ => s.size + 1 - (intOf iv).toNat)
    case atStart => exact ⟨1, rfl, by omega, HX3.out⟩
    case round =>
      clear HX3 HX2 HX1 H1 H2 H3
      obtain ⟨i, rfl, hi, hxr⟩ := hrel
      have HXR := Lib.hid hxr
      clear hxr
      by_cases hlt : i < s.size
      · have hd : decide (i < s.size) = true := decide_eq_true hlt
        have hI : ((i : Nat) : Int) < (s.size : Nat) := by omega
        have hI2 : ((i : Nat) : Int) ≤ (s.size : Nat) := by omega
        have hI0 : ¬ ((i : Nat) : Int) < 0 := by omega
        by_cases hsf : SafeT s.data.toList (i : Nat) f
        · obtain ⟨ta, hta⟩ : ∃ x, s.extract 0 i = x := ⟨_, rfl⟩
          obtain ⟨tb, htb⟩ : ∃ x, s.extract i s.size = x := ⟨_, rfl⟩
          obtain ⟨xa, hxa⟩ : ∃ x : ByteArray, (⟨(formT f (s.data.toList.take i)).toArray⟩ : ByteArray) = x := ⟨_, rfl⟩
          obtain ⟨xb, hxb⟩ : ∃ x : ByteArray, (⟨(formT f (s.data.toList.drop i)).toArray⟩ : ByteArray) = x := ⟨_, rfl⟩
          have ea : ta.data.toList = s.data.toList.take i := by rw [← hta, toList_extract, List.drop_zero, Nat.sub_zero]
          have eb' : tb.data.toList = s.data.toList.drop i := by rw [← htb, toList_extract, take_all (by rw [List.length_drop, len_eq]; exact Nat.le_refl _)]
          have la : ta.size ≤ 90 := by have := congrArg List.length ea; rw [len_eq, List.length_take, len_eq] at this; have := HS.out.1; omega
          have lb : tb.size ≤ 90 := by have := congrArg List.length eb'; rw [len_eq, List.length_drop, len_eq] at this; have := HS.out.1; omega
          have HA := Lib.hid (show ∀ w2, Tabs w2 → Calls Tryd.prog 9 #[.string ta, .int .i64 f] w2 fun e w' => e = .returned (.string xa) ∧ Ext w2 w' from fun w2 hT2 => by rw [← hxa, ← ea]; exact c_Form ta f w2 hT2 (by omega))
          have HB := Lib.hid (show ∀ w2, Tabs w2 → Calls Tryd.prog 9 #[.string tb, .int .i64 f] w2 fun e w' => e = .returned (.string xb) ∧ Ext w2 w' from fun w2 hT2 => by rw [← hxb, ← eb']; exact c_Form tb f w2 hT2 (by omega))
          have HSF := Lib.hid (fun w2 hT2 => c_Safe s (i : Nat) f true w2 hT2 (by have := HS.out.1; omega) ⟨fun _ => hsf, fun _ => rfl⟩)
          have hab : xa ++ xb = z := by
            rw [← HS.out.2, cut_form hsf (by omega) (by rw [len_eq]; exact hlt), ← hxa, ← hxb]
            apply ByteArray.ext
            simp
          have hll : xa.size + xb.size ≤ 14400 := by
            have h1 := formT_len f (s.data.toList.take i)
            have h2 := formT_len f (s.data.toList.drop i)
            rw [List.length_take, len_eq] at h1
            rw [List.length_drop, len_eq] at h2
            have h3 : xa.data.toList = formT f (s.data.toList.take i) := by rw [← hxa]
            have h4 : xb.data.toList = formT f (s.data.toList.drop i) := by rw [← hxb]
            rw [← h3, len_eq] at h1
            rw [← h4, len_eq] at h2
            have := HS.out.1
            omega
          have hzz : (z.toList == z.toList) = true := by simp
          have HLL := Lib.hid hll
          have HAB := Lib.hid hab
          have HHI := Lib.hid (And.intro hlt hi)
          clear hxa hxb ea eb' la lb hsf hll hab hi hlt
          go_wp2_with fail
          refine wp_perm (fun _ => True) [0, 1, 2, 3, 4, 5, 6, 7, 8, 10, 11, 12, 13, 16, 9, 14, 15, 17, 18] [true, true, true, false, true, true, true, true, true, true, true, true, true, true, false, false, true, true, true] (by kernel_rfl) (by kernel_rfl) (by simp only [List.map_cons, List.map_nil, nth]; rfl) ?_
          repeat first
            | refine wpG_move (by rfl) (by simp only [Act.eval, Array.getD_eq_getD_getElem?, List.getElem?_toArray, List.getElem?_cons_succ, List.getElem?_cons_zero, Option.getD_some]; try rfl) (by simp only [Act.put, List.setIfInBounds_toArray, List.set_cons_succ, List.set_cons_zero]; rfl) ?_
            | refine wpG_assign (by rfl) (by simp only [Act.eval, Array.getD_eq_getD_getElem?, List.getElem?_toArray, List.getElem?_cons_succ, List.getElem?_cons_zero, Option.getD_some]; try rfl) (by simp only [Act.put, List.setIfInBounds_toArray, List.set_cons_succ, List.set_cons_zero]; rfl) ?_
            | refine wpG_val (by rfl) (fun w' hx => (by go_simp; first | (go_bits; first | exact rfl | exact ⟨by omega, rfl⟩) | exact rfl | exact (if_neg (by omega)).trans rfl | exact ⟨by omega, rfl⟩)) (by simp only [Act.put, List.setIfInBounds_toArray, List.set_cons_succ, List.set_cons_zero]; rfl) ?_
            | refine wpG_no (by rfl) (by simp only [Act.put, List.setIfInBounds_toArray, List.set_cons_succ, List.set_cons_zero]; rfl) ?_
          refine wpG_do (by rfl) (fun w12 hx12 K hK => ?_)
          go_wp2_with fail
          refine (HSF.out w12 (hT.ext (HXR.out.trans hx12))).mono ?_
          rintro e w13 ⟨rfl, hx13⟩
          refine hK _ _ ⟨EOn.of_ext hx13, ?_⟩
          clear hK
          have HX13 := Lib.hid (HXR.out.trans (hx12.trans hx13))
          clear hx12 hx13
          repeat first
            | refine wpG_move (by rfl) (by simp only [Act.eval, Array.getD_eq_getD_getElem?, List.getElem?_toArray, List.getElem?_cons_succ, List.getElem?_cons_zero, Option.getD_some]; try rfl) (by simp only [Act.put, List.setIfInBounds_toArray, List.set_cons_succ, List.set_cons_zero]; rfl) ?_
            | refine wpG_assign (by rfl) (by simp only [Act.eval, Array.getD_eq_getD_getElem?, List.getElem?_toArray, List.getElem?_cons_succ, List.getElem?_cons_zero, Option.getD_some]; try rfl) (by simp only [Act.put, List.setIfInBounds_toArray, List.set_cons_succ, List.set_cons_zero]; rfl) ?_
            | refine wpG_val (by rfl) (fun w' hx => (by go_simp; first | (go_bits; first | exact rfl | exact ⟨by omega, rfl⟩) | exact rfl | exact (if_neg (by omega)).trans rfl | exact ⟨by omega, rfl⟩)) (by simp only [Act.put, List.setIfInBounds_toArray, List.set_cons_succ, List.set_cons_zero]; rfl) ?_
            | refine wpG_no (by rfl) (by simp only [Act.put, List.setIfInBounds_toArray, List.set_cons_succ, List.set_cons_zero]; rfl) ?_
          clear hta htb
          refine wpG_do (by rfl) (fun w14 hx14 K hK => ?_)
          go_wp2_with fail
          refine (HA.out w14 (hT.ext (HX13.out.trans hx14))).mono ?_
          rintro e w15 ⟨rfl, hx15⟩
          refine hK _ _ ⟨EOn.of_ext hx15, ?_⟩
          clear hK
          have HX15 := Lib.hid (HX13.out.trans (hx14.trans hx15))
          clear hx14 hx15
          refine wpG_do (by rfl) (fun w16 hx16 K hK => ?_)
          go_wp2_with fail
          refine (HB.out w16 (hT.ext (HX15.out.trans hx16))).mono ?_
          rintro e w17 ⟨rfl, hx17⟩
          refine hK _ _ ⟨EOn.of_ext hx17, ?_⟩
          clear hK
          have HX17 := Lib.hid (HX15.out.trans (hx16.trans hx17))
          clear hx16 hx17
          have hll := HLL.out
          have hzb : ((xa ++ xb).toList == z.toList) = true := by rw [HAB.out]; exact hzz
          repeat first
            | refine wpG_move (by rfl) (by simp only [Act.eval, Array.getD_eq_getD_getElem?, List.getElem?_toArray, List.getElem?_cons_succ, List.getElem?_cons_zero, Option.getD_some]; try rfl) (by simp only [Act.put, List.setIfInBounds_toArray, List.set_cons_succ, List.set_cons_zero]; rfl) ?_
            | refine wpG_assign (by rfl) (by simp only [Act.eval, Array.getD_eq_getD_getElem?, List.getElem?_toArray, List.getElem?_cons_succ, List.getElem?_cons_zero, Option.getD_some]; try rfl) (by simp only [Act.put, List.setIfInBounds_toArray, List.set_cons_succ, List.set_cons_zero]; rfl) ?_
            | refine wpG_val (by rfl) (fun w' hx => (by go_simp; first | (go_bits; first | exact rfl | exact ⟨by omega, rfl⟩) | exact rfl | exact (if_neg (by omega)).trans rfl | exact ⟨by omega, rfl⟩)) (by simp only [Act.put, List.setIfInBounds_toArray, List.set_cons_succ, List.set_cons_zero]; rfl) ?_
            | refine wpG_no (by rfl) (by simp only [Act.put, List.setIfInBounds_toArray, List.set_cons_succ, List.set_cons_zero]; rfl) ?_
          refine wpG_end (fun w18 hx18 => ?_)
          have HX18 := Lib.hid (HX17.out.trans hx18)
          clear hx18 hll
          go_wp2_with fail
          refine gQ_normal ?_
          go_wp2_with fail
          exact ⟨⟨i + 1, by simp, by omega, HX18.out⟩, by have := HHI.out; simp [intOf]; omega⟩
        · have HSF := Lib.hid (fun w2 hT2 => c_Safe s (i : Nat) f false w2 hT2 (by have := HS.out.1; omega) ⟨fun h => (by cases h), fun h => absurd h hsf⟩)
          have HHI := Lib.hid (And.intro hlt hi)
          clear hsf hi hlt
          go_wp2_with fail
          refine wp_lex (fun _ => True) [true, true, true, false, true, true, true, true, true, true, true, true, true, true, true, true, true, true, true] (by kernel_rfl) (by kernel_rfl) ?_
          repeat first
            | refine wpG_move (by rfl) (by simp only [Act.eval, Array.getD_eq_getD_getElem?, List.getElem?_toArray, List.getElem?_cons_succ, List.getElem?_cons_zero, Option.getD_some]; try rfl) (by simp only [Act.put, List.setIfInBounds_toArray, List.set_cons_succ, List.set_cons_zero]; rfl) ?_
            | refine wpG_assign (by rfl) (by simp only [Act.eval, Array.getD_eq_getD_getElem?, List.getElem?_toArray, List.getElem?_cons_succ, List.getElem?_cons_zero, Option.getD_some]; try rfl) (by simp only [Act.put, List.setIfInBounds_toArray, List.set_cons_succ, List.set_cons_zero]; rfl) ?_
            | refine wpG_val (by rfl) (fun w' hx => (by go_simp; first | (go_bits; first | exact rfl | exact ⟨by omega, rfl⟩) | exact rfl | exact (if_neg (by omega)).trans rfl | exact ⟨by omega, rfl⟩)) (by simp only [Act.put, List.setIfInBounds_toArray, List.set_cons_succ, List.set_cons_zero]; rfl) ?_
            | refine wpG_no (by rfl) (by simp only [Act.put, List.setIfInBounds_toArray, List.set_cons_succ, List.set_cons_zero]; rfl) ?_
          refine wpG_do (by rfl) (fun w12 hx12 K hK => ?_)
          go_wp2_with fail
          refine (HSF.out w12 (hT.ext (HXR.out.trans hx12))).mono ?_
          rintro e w13 ⟨rfl, hx13⟩
          refine hK _ _ ⟨EOn.of_ext hx13, ?_⟩
          clear hK
          have HX13 := Lib.hid (HXR.out.trans (hx12.trans hx13))
          clear hx12 hx13
          repeat first
            | refine wpG_move (by rfl) (by simp only [Act.eval, Array.getD_eq_getD_getElem?, List.getElem?_toArray, List.getElem?_cons_succ, List.getElem?_cons_zero, Option.getD_some]; try rfl) (by simp only [Act.put, List.setIfInBounds_toArray, List.set_cons_succ, List.set_cons_zero]; rfl) ?_
            | refine wpG_assign (by rfl) (by simp only [Act.eval, Array.getD_eq_getD_getElem?, List.getElem?_toArray, List.getElem?_cons_succ, List.getElem?_cons_zero, Option.getD_some]; try rfl) (by simp only [Act.put, List.setIfInBounds_toArray, List.set_cons_succ, List.set_cons_zero]; rfl) ?_
            | refine wpG_val (by rfl) (fun w' hx => (by go_simp; first | (go_bits; first | exact rfl | exact ⟨by omega, rfl⟩) | exact rfl | exact (if_neg (by omega)).trans rfl | exact ⟨by omega, rfl⟩)) (by simp only [Act.put, List.setIfInBounds_toArray, List.set_cons_succ, List.set_cons_zero]; rfl) ?_
            | refine wpG_no (by rfl) (by simp only [Act.put, List.setIfInBounds_toArray, List.set_cons_succ, List.set_cons_zero]; rfl) ?_
          refine wpG_end (fun w14 hx14 => ?_)
          have HX14 := Lib.hid (HX13.out.trans hx14)
          clear hx14
          go_wp2_with fail
          refine gQ_normal ?_
          go_wp2_with fail
          exact ⟨⟨i + 1, by simp, by omega, HX14.out⟩, by have := HHI.out; simp [intOf]; omega⟩
      · have hd : decide (i < s.size) = false := decide_eq_false hlt
        have hI : ¬ ((i : Nat) : Int) < (s.size : Nat) := by omega
        clear hlt hi
        go_wp2_with fail
        refine (c_live wr (hT.ext HXR.out)).mono ?_
        rintro e w6 ⟨rfl, hx6⟩
        have HX6 := Lib.hid (HXR.out.trans hx6)
        clear hx6
        go_wp2_with fail
        go_ret
        exact ⟨rfl, HX6.out⟩
  · have hsI : (90 : Int) < (s.size : Nat) := by omega
    go_enter Tryd.func5, Tryd.ntmps5
    go_wp2_with fail
    refine (c_live w hT).mono ?_
    rintro e w6 ⟨rfl, hx6⟩
    have HX6 := Lib.hid hx6
    clear hx6
    go_wp2_with fail
    go_ret
    exact ⟨rfl, HX6.out⟩
end Go.Proofs.YteokfknkcbmigaaDoor
