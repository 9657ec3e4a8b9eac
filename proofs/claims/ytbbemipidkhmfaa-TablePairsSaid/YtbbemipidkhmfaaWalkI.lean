/-
  All runs of a table: the walk.
-/
import Derived.Test.YtbbemipidkhmfaaWalkH
namespace Go.Proofs.Ytbbemipidkhmfaa
open Go.RowKit Go.Maps

theorem run_eql83 (a b : List Int) (ha : OkB a) (hb : OkB b) (w : World) : (binOp .eql 83 (.agg (u8s a)) (.agg (u8s b))).run Try.prog w = .ok (.bool (decide (a = b))) w := by
  obtain ⟨la, hla⟩ := key83 a ha.1 ha.2
  obtain ⟨lb, hlb⟩ := key83 b hb.1 hb.2
  obtain ⟨r, hr, hiff⟩ := run_equal_deep (P := Try.prog) w (m := 2) (by decide) (k := 83) (by kernel_rfl) (by kernel_rfl) hla hlb
  have e : decide (a = b) = r := by
    by_cases h : a = b
    · subst h
      have : la = lb := Option.some.inj (hla.symm.trans hlb)
      rw [hiff.2 this]
      simp
    · have : r ≠ true := fun hr => h (u8s_inj (by
        have e := keyed83.inj hla (by rw [hiff.1 hr]; exact hlb)
        injection e))
      have : r = false := by cases r; rfl; exact absurd rfl this
      rw [this]
      simpa using h
  rw [e]
  simp only [binOp]
  simp [hr]

set_option maxRecDepth 100000 in
set_option maxHeartbeats 4000000 in
theorem c_all {T : Nat} {rest : Int} {f : Int → Int} {U : List (List Int)} {ix : List Nat} {ob oc ub uc : Nat} (w : World) (h : Tab w T rest f U ix ob oc ub uc) :
    Calls Try.prog 44 #[.pointer (some ⟨T, 0, none⟩)] w fun e w' => ∃ v l, e = .returned v ∧ RunsFrom f 0 1114112 l ∧ w'.ownsRow w.heap.size 32 3 v l.length (rgCells l) ∧ Ext w w' := by
  have q2 := cell_blk h.hT 2
  have q1 := cell_blk h.hT 1
  simp only [List.getElem?_toArray, List.getElem?_cons_succ, List.getElem?_cons_zero] at q1 q2
  have hx1 : Ext w (w.alloc (.cells #[.slice none 0 0] 25)) := (Ext.refl w).alloc _
  have hB := Boxed.new w 25 (.slice none 0 0)
  have q1b := hx1.cell q1
  have hule := h.ule
  go_enter Try.func44, Try.ntmps44
  go_wp2_with fail
  go_loopw [5, 6, 7, 8, 9, 10, 17] (fun _ _ _ _ _ _ k w' => ∃ (n : Nat) (l : List Rng) (v : Value), k = .int .i64 (n : Nat) ∧ n ≤ 8704 ∧ Boxed w' w.heap.size 25 v ∧ w'.ownsRow w.heap.size 32 3 v l.length (rgCells l) ∧ Hid (RunsFrom f 0 ((n : Int) * 128) l) ∧ Ext w w') (fun _ _ _ _ _ _ k _ => 8705 - (intOf k).toNat)
  case atStart => exact ⟨0, [], _, rfl, by omega, hB, World.ownsRow_nil _ _ _ _, Lib.hid rfl, hx1⟩
  case round =>
    obtain ⟨n, l, v, rfl, hn, hB, hrow, hruns, hx⟩ := hrel
    have h1 := h.ext hx
    by_cases hlt : n < 8704
    · have hnx : n < ix.length := by rw [h1.ixl]; exact hlt
      have hbk := h1.ixok n hnx
      have ho := h1.ho n hnx
      obtain ⟨k, hk⟩ : ∃ k, ix[n] = k := ⟨_, rfl⟩
      rw [hk] at hbk ho
      obtain ⟨hkU, hkb⟩ := List.getElem?_eq_some_iff.1 hbk
      obtain ⟨b, hbe⟩ : ∃ b, blkOf f n = b := ⟨_, rfl⟩
      have hcells : Hid (∀ i (hi : i < b.length), wr.cell? ⟨ub, k * 128 + i, none⟩ = some (.int .u8 b[i])) := Lib.hid (by subst hbe; intro i hi; have := h1.hu k i hkU (by rw [hkb]; exact hi); simp only [hkb] at this; exact this)
      have hb : OkB b := by rw [← hbe, ← hkb]; exact h1.okb U[k] (List.getElem_mem hkU)
      have HBE := Lib.hid hbe
      have q2r := hx.cell q2
      have hd : decide (((n : Nat) : Int) < 8704) = true := decide_eq_true (by omega)
      have i1 : ((n : Nat) : Int) < 8704 := by omega
      have i2 : ((k : Nat) : Int) < (U.length : Nat) := by omega
      have hz := Holds83.new wr
      have hz2 := hz.setRow b
      have hx2 : Ext wr ((wr.alloc (.cells Try.zeroCells83 83)).setRow wr.heap.size (u8s b)) := Ext.setRow ((Ext.refl wr).alloc _) _ (Nat.le_refl _) _
      have hB2 := hB.ext hx2
      have hrow2 := ownsRow_ext hrow hx2
      have hxw := Ext.trans hx hx2
      have hb1 := hb.1
      clear hbe hkb hbk hk
      go_wp2_with (first | refine wpList_load83o rfl (.tmp 30) rfl rfl hcells.out hb.1 ?_ | refine wpList_store83 rfl (.tmp 8) (.tmp 31) rfl rfl rfl hz (rep_length 0) hb.1 ?_)
      obtain ⟨W, hW⟩ : ∃ W, ((wr.alloc (.cells Try.zeroCells83 83)).setRow wr.heap.size (u8s b)) = W := ⟨_, rfl⟩
      rw [hW] at hB2 hrow2 hxw hz2 ⊢
      simp only [Act.put, List.setIfInBounds_toArray, List.set_cons_succ, List.set_cons_zero]
      clear hW hz hx2 hB hrow hcells
      have h0b : 0 < b.length := by omega
      obtain ⟨c0, hc0⟩ : ∃ c0, b[0] = c0 := ⟨_, rfl⟩
      have hcr : 0 ≤ c0 ∧ c0 ≤ 255 := by rw [← hc0]; exact hb.2 _ (List.getElem_mem h0b)
      have qb : ∀ w', EOn (fun _ => True) W w' → w'.cell? ⟨wr.heap.size, 0, none⟩ = some (.int .u8 c0) := fun w' hx => hx.cell trivial (by rw [hz2.cell 0 h0b, hc0])
      have HC0 := Lib.hid hc0
      have heq := run_eql83 b (rep c0) hb (okRep hcr)
      obtain ⟨cr0, cr1⟩ := hcr
      clear hc0
      refine wp_lex (fun _ => True) [true, true, true, true, true, true] (by kernel_rfl) (by kernel_rfl) ?_
      refine wpG_load83 (by rfl) (by simp only [Act.eval, Array.getD_eq_getD_getElem?, List.getElem?_toArray, List.getElem?_cons_succ, List.getElem?_cons_zero, Option.getD_some]; try rfl) hz2 hb.1 (fun i => trivial) (by simp only [Act.put, List.setIfInBounds_toArray, List.set_cons_succ, List.set_cons_zero]; rfl) ?_
      repeat first
        | refine wpG_move (by rfl) (by simp only [Act.eval, Array.getD_eq_getD_getElem?, List.getElem?_toArray, List.getElem?_cons_succ, List.getElem?_cons_zero, Option.getD_some]; try rfl) (by simp only [Act.put, List.setIfInBounds_toArray, List.set_cons_succ, List.set_cons_zero]; rfl) ?_
        | refine wpG_assign (by rfl) (by simp only [Act.eval, Array.getD_eq_getD_getElem?, List.getElem?_toArray, List.getElem?_cons_succ, List.getElem?_cons_zero, Option.getD_some]; try rfl) (by simp only [Act.put, List.setIfInBounds_toArray, List.set_cons_succ, List.set_cons_zero]; rfl) ?_
        | refine wpG_call (by rfl) (fun w' hx => (by go_simp; first | exact rfl | exact ⟨rfl, rfl⟩)) (fun w' hx => (by first | exact c_uniform c0 _ cr0 cr1)) (by simp only [Act.put, List.setIfInBounds_toArray, List.set_cons_succ, List.set_cons_zero]; rfl) ?_
        | refine wpG_val (by rfl) (fun w' hx => (by go_simp; first | (go_bits; first | exact rfl | exact ⟨by omega, rfl⟩) | exact rfl | exact (if_neg (by omega)).trans rfl | exact ⟨by omega, rfl⟩)) (by simp only [Act.put, List.setIfInBounds_toArray, List.set_cons_succ, List.set_cons_zero]; rfl) ?_
        | refine wpG_no (by rfl) (by simp only [Act.put, List.setIfInBounds_toArray, List.set_cons_succ, List.set_cons_zero]; rfl) ?_
      refine wpG_end (fun w6 hx6 => wpList_nil (gQ_normal ?_))
      have hB6 := hB2.ext hx6
      have hrow6 := ownsRow_ext hrow2 hx6
      have hx06 := Ext.trans hxw hx6
      have hz6 := hz2.ext hx6
      have hlen := hruns.out.le
      have hsz6 := hx06.sz
      clear heq qb hB2 hrow2 hz2 h1 q2r ho hkU
      obtain ⟨bb, hbb⟩ : ∃ bb, decide (b = rep c0) = bb := ⟨_, rfl⟩
      rw [hbb]
      rcases Bool.eq_false_or_eq_true bb with rfl | rfl
      · have hbr : b = rep c0 := of_decide_eq_true hbb
        have HBR := Lib.hid hbr
        clear hbb
        have q8 := hz6.cell 0 h0b
        rw [HC0.out] at q8
        clear hbr
        go_wp2_with fail
        refine (c_addR l ((n : Int) * 128) ((n : Int) * 128 + 128 - 1) c0 v _ w.heap.size w.heap.size hB6 hrow6 (Nat.le_refl _) hsz6 (by omega)).mono ?_
        rintro e w7 ⟨rfl, v', hB7, hrow7, hbel⟩
        go_wp2_with fail
        have hr := RunsFrom.add hruns.out (q := (n : Int) * 128 + 128 - 1) (c := c0) (by omega) (fun r h1 h2 => by
          have hi : (r - (n : Int) * 128).toNat < 128 := by omega
          have e1 := blkOf_get f n (r - (n : Int) * 128).toNat (by rw [blkOf_length]; exact hi)
          rw [show ((128 * n + (r - (n : Int) * 128).toNat : Nat) : Int) = r from by omega] at e1
          rw [← e1]
          simp only [HBE.out, HBR.out]
          exact List.getElem_replicate _)
        rw [show (n : Int) * 128 + 128 - 1 + 1 = ((n + 1 : Nat) : Int) * 128 from by omega] at hr
        refine ⟨⟨n + 1, _, v', by simp, by omega, hB7, hrow7, Lib.hid hr, Below.trans hx06 hbel⟩, by simp [intOf]; omega⟩
      · clear hbb
        go_wp2_with (refine wpList_load83 rfl (.tmp 8) rfl rfl hz6 hb.1 ?_)
        go_loopw [9, 10, 48] (fun _ _ k w' => ∃ (i : Nat) (l : List Rng) (v : Value), k = .int .i64 (i : Nat) ∧ i ≤ 128 ∧ Boxed w' w.heap.size 25 v ∧ w'.ownsRow w.heap.size 32 3 v l.length (rgCells l) ∧ Hid (RunsFrom f 0 ((n : Int) * 128 + (i : Nat)) l) ∧ Ext w w') (fun _ _ k _ => 129 - (intOf k).toNat)
        case atStart => exact ⟨0, l, v, rfl, by omega, hB6, hrow6, by simpa using hruns, hx06⟩
        case round =>
          obtain ⟨i, l, v, rfl, hi, hB, hrow, hruns, hx⟩ := hrel
          have hlen := hruns.out.le
          by_cases hlt2 : i < 128
          · have hib : i < b.length := by omega
            obtain ⟨x, hxb⟩ : ∃ x, b[i] = x := ⟨_, rfl⟩
            have hxr := hb.2 b[i] (List.getElem_mem hib)
            rw [hxb] at hxr
            obtain ⟨x0, x1⟩ := hxr
            have HXB := Lib.hid hxb
            have hd2 : decide (((i : Nat) : Int) < 128) = true := decide_eq_true (by omega)
            clear hxb
            go_wp2_with (refine wpList_index83 rfl (.tmp 47) (.tmp 48) rfl rfl rfl hb1 hib HXB.out ?_)
            refine (c_addR l ((n : Int) * 128 + (i : Nat)) ((n : Int) * 128 + (i : Nat)) x v _ w.heap.size w.heap.size hB hrow (Nat.le_refl _) hx.sz (by omega)).mono ?_
            rintro e w7 ⟨rfl, v', hB7, hrow7, hbel⟩
            go_wp2_with fail
            have hr := RunsFrom.add hruns.out (q := (n : Int) * 128 + (i : Nat)) (c := x) (by omega) (fun r h1 h2 => by
              have e1 := blkOf_get f n i (by rw [blkOf_length]; exact hlt2)
              rw [show ((128 * n + i : Nat) : Int) = r from by omega] at e1
              rw [← e1]
              simp only [HBE.out]
              exact HXB.out)
            rw [show (n : Int) * 128 + (i : Nat) + 1 = (n : Int) * 128 + ((i + 1 : Nat) : Int) from by omega] at hr
            refine ⟨⟨i + 1, _, v', by simp, by omega, hB7, hrow7, Lib.hid hr, Below.trans hx hbel⟩, by simp [intOf]; omega⟩
          · have hd2 : decide (((i : Nat) : Int) < 128) = false := decide_eq_false (by omega)
            have hr : RunsFrom f 0 (((n + 1 : Nat) : Int) * 128) l := by
              have := hruns.out
              rw [show (n : Int) * 128 + ((i : Nat) : Int) = ((n + 1 : Nat) : Int) * 128 from by omega] at this
              exact this
            have HR := Lib.hid hr
            clear hr hruns
            go_wp2_with fail
            exact ⟨⟨n + 1, l, v, by simp, by omega, hB, hrow, HR, hx⟩, by simp [intOf]; omega⟩
    · have hd : decide (((n : Nat) : Int) < 8704) = false := decide_eq_false (by omega)
      have cB := hB.cell
      have hr : RunsFrom f 0 1114112 l := by
        have := hruns.out
        rw [show (n : Int) * 128 = 1114112 from by omega] at this
        exact this
      have HR := Lib.hid hr
      clear hr hruns hlt hn
      go_wp2_with fail
      go_ret
      exact ⟨v, l, rfl, HR.out, hrow, hx⟩
end Go.Proofs.Ytbbemipidkhmfaa
