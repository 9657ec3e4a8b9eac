/-
  The document's Pair.
-/
import Derived.Test.YtbbemipidkhmfaaRefPa
import Derived.Test.YtbbemipidkhmfaaPlanC
import Derived.Test.YtbbemipidkhmfaaRefC
namespace Go.Proofs.Ytbbemipidkhmfaa
open Go.RowKit Go.Maps

set_option maxRecDepth 100000 in
set_option maxHeartbeats 8000000 in
theorem c_RPair {n1 n2 : Nat} {v1 v2 : Value} {r1 r2 : Int} {L1 L2 : List Rng} (w : World) (h1 : IsRef n1 w v1 r1 L1) (h2 : IsRef n2 w v2 r2 L2) (hl1 : L1.length ≤ 2000000) (hl2 : L2.length ≤ 2000000) :
    Calls Try.prog 32 #[v1, v2] w fun e w' => Ext w w' ∧
      ((256 < (pairOf (allGo r1 0 L1) (allGo r2 0 L2) r1 r2).1.length ∧ e = .returned (.tuple #[.pointer none, .slice none 0 0, .int .i64 6])) ∨
       ((pairOf (allGo r1 0 L1) (allGo r2 0 L2) r1 r2).1.length ≤ 256 ∧ ∃ Y tv, e = .returned (.tuple #[Y, tv, .int .i64 0]) ∧
         IsRef w.heap.size w' Y ((pairOf (allGo r1 0 L1) (allGo r2 0 L2) r1 r2).2.2 : Nat) (normOf ((pairOf (allGo r1 0 L1) (allGo r2 0 L2) r1 r2).2.2 : Nat) (pairOf (allGo r1 0 L1) (allGo r2 0 L2) r1 r2).2.1) ∧
         w'.ownsRow w.heap.size 102 2 tv (pairOf (allGo r1 0 L1) (allGo r2 0 L2) r1 r2).1.length (twCells (pairOf (allGo r1 0 L1) (allGo r2 0 L2) r1 r2).1))) := by
  obtain ⟨i0, hi0, hz0, hz1, hz2⟩ := info_parts info32p
  obtain ⟨j0, hj0, hw0, hw1, hw2⟩ := info_parts infoTp
  have h1' := h1
  have h2' := h2
  obtain ⟨Y1, lv1, rfl, hY1, -, hrow1, hnf1, hr1⟩ := h1'
  obtain ⟨Y2, lv2, rfl, hY2, -, hrow2, hnf2, hr2⟩ := h2'
  obtain ⟨p1, cap1, rfl⟩ := own_slice hrow1
  obtain ⟨p2, cap2, rfl⟩ := own_slice hrow2
  have HNF1 := Lib.hid hnf1
  have HNF2 := Lib.hid hnf2
  clear hrow1 hrow2 hnf1 hnf2
  go_enter Try.func32, Try.ntmps32
  go_wp2_with fail
  refine (c_All w h1 hl1).mono ?_
  rintro e w1 ⟨v1, rfl, ho1, hx1⟩
  go_wp2_with fail
  refine (c_All w1 (h2.ext hx1) hl2).mono ?_
  rintro e w2 ⟨v2, rfl, ho2, hx2⟩
  obtain ⟨R1, hR1⟩ : ∃ R1, allGo r1 0 L1 = R1 := ⟨_, rfl⟩
  obtain ⟨R2, hR2⟩ : ∃ R2, allGo r2 0 L2 = R2 := ⟨_, rfl⟩
  have HR1 : Hid (RunsFrom (clsOf L1 r1) 0 1114112 R1) := Lib.hid (by rw [← hR1]; exact HNF1.out.all.1)
  have HR2 : Hid (RunsFrom (clsOf L2 r2) 0 1114112 R2) := Lib.hid (by rw [← hR2]; exact HNF2.out.all.1)
  rw [hR1] at ho1
  rw [hR2] at ho2
  have HE1 := Lib.hid hR1
  have HE2 := Lib.hid hR2
  have hrg1 := (RgRow.of_own ho1).mono hx2
  have hrg2 := RgRow.of_own ho2
  obtain ⟨p1', cap1', rfl⟩ := own_slice ho1
  obtain ⟨p2', cap2', rfl⟩ := own_slice ho2
  have hl1' := HR1.out.le
  have hl2' := HR2.out.le
  clear hR1 hR2 ho1 ho2
  go_wp2_with fail
  go_loopw [9, 10, 11, 12, 13] (fun dv lv iv kv ov W => ∃ (i j f : Nat) (lo : Int) (D : List (Int × Int)) (l : List Rng), iv = .int .i64 (i : Nat) ∧ kv = .int .i64 (j : Nat) ∧ ov = .int .i32 lo ∧ i ≤ R1.length ∧ j ≤ R2.length ∧ (0 ≤ lo ∧ lo ≤ 1114112) ∧ Hid (CurR (clsOf L1 r1) lo (R1.drop i)) ∧ Hid (CurR (clsOf L2 r2) lo (R2.drop j)) ∧ Hid (PSt lo D l) ∧ 1114113 ≤ (f : Int) + lo ∧ Hid (pgo f lo (R1.drop i) (R2.drop j) D l = pgo 1114113 0 R1 R2 [] []) ∧ W.ownsRow w2.heap.size 102 2 dv D.length (twCells D) ∧ W.ownsRow w2.heap.size 32 3 lv l.length (rgCells l) ∧ Ext w2 W) (fun _ _ _ _ ov _ => (1114113 - intOf ov).toNat)
  case atStart => exact ⟨0, 0, 1114113, 0, [], [], rfl, rfl, rfl, by omega, by omega, by omega, Lib.hid (CurR.zero HR1.out), Lib.hid (CurR.zero HR2.out), Lib.hid PSt.zero, by omega, Lib.hid rfl, World.ownsRow_nil _ _ _ _, World.ownsRow_nil _ _ _ _, Ext.refl _⟩
  case round =>
    obtain ⟨i, j, f, lo, D, l, rfl, rfl, rfl, hi, hj, hlo, hc1, hc2, hps, hf, hgo, hrD, hrow, hx⟩ := hrel
    obtain ⟨pd, cd, rfl⟩ := own_slice hrD
    obtain ⟨pl, cl, rfl⟩ := own_slice hrow
    have hseg := hps.out.1.le
    have hDl := hps.out.2.2.2
    by_cases hle : lo ≤ 1114111
    · obtain ⟨x, xs, hxs, a1, a2, a3, a4, -⟩ := hc1.out.cons hle
      obtain ⟨y, ys, hys, e1, e2, e3, e4, -⟩ := hc2.out.cons hle
      have hlt1 : i < R1.length := by
        rcases Nat.lt_or_ge i R1.length with h | h
        · exact h
        · rw [List.drop_eq_nil_of_le h] at hxs; cases hxs
      have hlt2 : j < R2.length := by
        rcases Nat.lt_or_ge j R2.length with h | h
        · exact h
        · rw [List.drop_eq_nil_of_le h] at hys; cases hys
      have hx0 : R1[i] = x := by rw [List.drop_eq_getElem_cons hlt1] at hxs; exact (List.cons.inj hxs).1
      have hy0 : R2[j] = y := by rw [List.drop_eq_getElem_cons hlt2] at hys; exact (List.cons.inj hys).1
      have t1 : R1.drop (i + 1) = xs := drop_next hxs
      have t2 : R2.drop (j + 1) = ys := drop_next hys
      obtain ⟨b1, o1, rfl, hq1⟩ := (hrg1.mono hx).at (by intro e; rw [e] at hlt1; simp at hlt1)
      obtain ⟨b2, o2, rfl, hq2⟩ := (hrg2.mono hx).at (by intro e; rw [e] at hlt2; simp at hlt2)
      obtain ⟨c0, c1, c2⟩ := hq1 i hlt1
      obtain ⟨d0, d1, d2⟩ := hq2 j hlt2
      rw [hx0] at c0 c1 c2
      rw [hy0] at d0 d1 d2
      have hI1 : ((i : Nat) : Int) < (R1.length : Nat) := by omega
      have hI2 : ((j : Nat) : Int) < (R2.length : Nat) := by omega
      have hb1 : b1 < w2.heap.size := by
        obtain ⟨b', o', e, hq⟩ := hrg1.at (by intro e; rw [e] at hlt1; simp at hlt1)
        cases e
        exact World.block_lt_of_cell? _ _ (hq i hlt1).1
      have hb2 : b2 < w2.heap.size := by
        obtain ⟨b', o', e, hq⟩ := hrg2.at (by intro e; rw [e] at hlt2; simp at hlt2)
        cases e
        exact World.block_lt_of_cell? _ _ (hq j hlt2).1
      have HXS := Lib.hid hxs
      have HYS := Lib.hid hys
      have HT1 := Lib.hid t1
      have HT2 := Lib.hid t2
      have HLE := Lib.hid hle
      have HC1 := Lib.hid c1
      have HD1 := Lib.hid d1
      have q1 : ∀ w', EOn (fun a => a.block < w2.heap.size) wr w' → w'.cell? ⟨b1, o1 + i * 3 + 1, none⟩ = _ := fun w' hx => hx.cell hb1 c1
      have q2 : ∀ w', EOn (fun a => a.block < w2.heap.size) wr w' → w'.cell? ⟨b2, o2 + j * 3 + 1, none⟩ = _ := fun w' hx => hx.cell hb2 d1
      have m1 : ∀ w', EOn (fun a => a.block < w2.heap.size) wr w' → w'.cell? ⟨b1, o1 + i * 3 + 2, none⟩ = _ := fun w' hx => hx.cell hb1 c2
      have m2 : ∀ w', EOn (fun a => a.block < w2.heap.size) wr w' → w'.cell? ⟨b2, o2 + j * 3 + 2, none⟩ = _ := fun w' hx => hx.cell hb2 d2
      have HX0 := Lib.hid hx0
      have HY0 := Lib.hid hy0
      clear a4 e4 hxs hys hx0 hy0 t1 t2 hq1 hq2
      by_cases hlt : y.hi < x.hi
      · have hd0 : decide (y.hi < x.hi) = true := decide_eq_true hlt
        have hne1 : (x.hi == y.hi) = false := beq_false_of_ne (by omega)
        have hhi : (if y.hi < x.hi then y.hi else x.hi) = y.hi := if_pos hlt
        have hd1 : R1.drop i = if x.hi = y.hi then xs else x :: xs := by rw [if_neg (by omega), HXS.out]
        have hd2 : R2.drop (j + 1) = if y.hi = y.hi then ys else y :: ys := by rw [if_pos rfl]; exact HT2.out
        have HBD := Lib.hid (show lo ≤ y.hi ∧ y.hi ≤ x.hi ∧ y.hi ≤ y.hi by omega)
        obtain ⟨f', hf'⟩ : ∃ f', f = f' + 1 := ⟨f - 1, by omega⟩
        have hgo2 := Lib.hid (show pgo f' (y.hi + 1) (R1.drop i) (R2.drop (j + 1)) (ins D (x.cl, y.cl)) (l ++ [⟨lo, y.hi, (fnd D (x.cl, y.cl) : Nat)⟩]) = pgo 1114113 0 R1 R2 [] [] from by
          have h0 := hgo.out
          rw [HXS.out, HYS.out, hf', pgo_step HLE.out hhi, ← hd1, ← hd2] at h0
          exact h0)
        have hcur1 := Lib.hid (show CurR (clsOf L1 r1) (y.hi + 1) (R1.drop i) from by
          rw [hd1]
          exact CurR.next (by have := hc1.out; rw [HXS.out] at this; exact this) HBD.out.1 HBD.out.2.1)
        have hcur2 := Lib.hid (show CurR (clsOf L2 r2) (y.hi + 1) (R2.drop (j + 1)) from by
          rw [hd2]
          exact CurR.next (by have := hc2.out; rw [HYS.out] at this; exact this) HBD.out.1 HBD.out.2.2)
        have hps2 := Lib.hid (hps.out.step (x.cl, y.cl) (hi := y.hi) HBD.out.1)
        have HFF := Lib.hid hf'
        clear hhi hd1 hd2 hf' hgo hc1 hc2 hps
        go_wp2_with fail
        refine wp_lex ((fun a => a.block < w2.heap.size)) [true, true, true, true, true, true, true, true, true, true, true, false] (by kernel_rfl) (by kernel_rfl) ?_
        repeat first
          | refine wpG_move (by rfl) (by simp only [Act.eval, Array.getD_eq_getD_getElem?, List.getElem?_toArray, List.getElem?_cons_succ, List.getElem?_cons_zero, Option.getD_some]; try rfl) (by simp only [Act.put, List.setIfInBounds_toArray, List.set_cons_succ, List.set_cons_zero]; rfl) ?_
          | refine wpG_assign (by rfl) (by simp only [Act.eval, Array.getD_eq_getD_getElem?, List.getElem?_toArray, List.getElem?_cons_succ, List.getElem?_cons_zero, Option.getD_some]; try rfl) (by simp only [Act.put, List.setIfInBounds_toArray, List.set_cons_succ, List.set_cons_zero]; rfl) ?_
          | refine wpG_val (by rfl) (fun w' hx => (by go_simp; first | (go_bits; first | exact rfl | exact ⟨by omega, rfl⟩) | exact rfl | exact (if_neg (by omega)).trans rfl | exact ⟨by omega, rfl⟩)) (by simp only [Act.put, List.setIfInBounds_toArray, List.set_cons_succ, List.set_cons_zero]; rfl) ?_
          | refine wpG_no (by rfl) (by simp only [Act.put, List.setIfInBounds_toArray, List.set_cons_succ, List.set_cons_zero]; rfl) ?_
        refine wpG_do (by rfl) (fun w4 hx4 K hK => ?_)
        go_wp2_with fail
        refine ⟨EOn.of_ext ((Ext.refl w4).alloc _), ?_⟩
        refine wpG_end (fun w5 hx5 => ?_)
        have hnew := hx5.blk (World.alloc_heap_new w4 (.cells #[.int .i64 0, .int .i64 0] 102))
        have z0 := cell_blk hnew 0
        have z1 := cell_blk hnew 1
        have fz := frz_blk hnew 0
        have fz1 := frz_blk hnew 1
        simp only [List.getElem?_toArray, List.getElem?_cons_succ, List.getElem?_cons_zero] at z0 z1
        have hxr5 : Ext wr w5 := Ext.trans (hx4.alloc _) hx5
        have hxr6 : Ext wr ((w5.setCell ⟨w4.heap.size, 0, none⟩ (.int .i64 x.cl)).setCell ⟨w4.heap.size, 1, none⟩ (.int .i64 y.cl)) := (hxr5.setCell (p := ⟨w4.heap.size, 0, none⟩) hx4.sz _).setCell (p := ⟨w4.heap.size, 1, none⟩) hx4.sz _
        have hbk6 := set_blk (set_blk hnew 0 (.int .i64 x.cl)) 1 (.int .i64 y.cl)
        simp only [List.setIfInBounds_toArray, List.set_cons_zero, List.set_cons_succ] at hbk6
        have hsz4 := hx4.sz
        go_wp2_with fail
        refine gQ_normal ?_
        generalize ((w5.setCell ⟨w4.heap.size, 0, none⟩ (.int .i64 x.cl)).setCell ⟨w4.heap.size, 1, none⟩ (.int .i64 y.cl)) = w6 at hxr6 hbk6 ⊢
        generalize w4.heap.size = pb at hbk6 hsz4 ⊢
        have hrD6 := ownsRow_ext hrD hxr6
        have hrow6 := ownsRow_ext hrow hxr6
        have hx06 := Ext.trans hx hxr6
        have z0 := cell_blk hbk6 0
        have z1 := cell_blk hbk6 1
        simp only [List.getElem?_toArray, List.getElem?_cons_succ, List.getElem?_cons_zero] at z0 z1
        have hrP := TwRow.of_own hrD6
        clear hnew hxr5 hx5 hx4 hrD hrow hxr6 hx fz fz1 m1 m2
        go_wp2_with fail
        refine (c_find _ D (x.cl, y.cl) w6 hrP (by omega)).mono ?_
        rintro e w7 ⟨rfl, hx7⟩
        have hbk7 := hx7.blk hbk6
        have hrD7 := ownsRow_ext hrD6 hx7
        have hrow7 := ownsRow_ext hrow6 hx7
        have hx07 := Ext.trans hx06 hx7
        have z0 := cell_blk hbk7 0
        have z1 := cell_blk hbk7 1
        simp only [List.getElem?_toArray, List.getElem?_cons_succ, List.getElem?_cons_zero] at z0 z1
        clear hbk6 hrP hrD6 hrow6 hx06 hx7 hbk7
        have hfl := fnd_le D (x.cl, y.cl)
        obtain ⟨cn, hcn⟩ : ∃ cn, fnd D (x.cl, y.cl) = cn := ⟨_, rfl⟩
        have HCN := Lib.hid hcn
        rw [hcn] at hfl
        by_cases hth : cn < D.length
        · have hfi : fndI D (x.cl, y.cl) = (cn : Nat) := by unfold fndI; rw [if_pos (by omega), hcn]
          have hins : ins D (x.cl, y.cl) = D := by unfold ins; rw [if_pos (by omega)]
          have HI := Lib.hid hins
          have hneg : decide (((cn : Nat) : Int) < 0) = false := decide_eq_false (by omega)
          rw [hfi]
          clear hfi hins hcn z0 z1
          go_wp2_with (at_builtin; (refine wpList_append_own _ rfl (.tmp 64) (.tmp 69) 25 rfl w2.heap.size 32 i0 (.agg #[.int .i32 0, .int .i32 0, .int .i64 0]) 3 16 Try.underlying25 hi0 hz0 hz1 hz2 rfl (by decide) _ l.length (rgCells l) rfl (ownsRow_ext hrow7 ((Ext.refl w7).alloc _)) ⟨w7.heap.size, 0, none⟩ 1 1 [.int .i32 lo, .int .i32 (y.hi), .int .i64 (cn : Nat)] rfl rfl (World.news_of_block (World.alloc_heap_new w7 _)) (by intro u hu; simp at hu; rcases hu with rfl | rfl | rfl <;> rfl) (by unfold maxLen; omega) (by omega) (by simpa using (hx07.alloc (.cells #[.int .i32 lo, .int .i32 (y.hi), .int .i64 (cn : Nat)] 32)).sz) ?_; intro v9 w9 hown9 hgrow9 _; have hx09 : Ext w2 w9 := Below.grown (hx07.alloc (.cells #[.int .i32 lo, .int .i32 (y.hi), .int .i64 (cn : Nat)] 32)) hgrow9 (hx07.alloc _).sz (fun k e => (hrow7.lt k e).1); have hrD9 := rows_kept (ownsRow_ext hrD7 ((Ext.refl w7).alloc (.cells #[.int .i32 lo, .int .i32 (y.hi), .int .i64 (cn : Nat)] 32))) (ownsRow_ext hrow7 ((Ext.refl w7).alloc _)) (by decide) hgrow9; clear hgrow9; obtain ⟨b1', o1', e1', hq1⟩ := (hrg1.mono hx09).at (by intro e; rw [e] at hlt1; simp at hlt1); cases e1'; obtain ⟨b2', o2', e2', hq2⟩ := (hrg2.mono hx09).at (by intro e; rw [e] at hlt2; simp at hlt2); cases e2'; have c1 := (hq1 i hlt1).2.1; have d1 := (hq2 j hlt2).2.1; rw [HX0.out] at c1; rw [HY0.out] at d1; clear hq1 hq2))
          exact ⟨⟨i, (j + 1), f', y.hi + 1, D, l ++ [⟨lo, y.hi, (cn : Nat)⟩], by simp, by simp, rfl, by omega, by omega, by have := HBD.out; omega, hcur1, hcur2, Lib.hid (by have h := hps2.out; rw [HI.out, HCN.out] at h; exact h), by have := HBD.out; have := HFF.out; omega, Lib.hid (by have h := hgo2.out; rw [HI.out, HCN.out] at h; exact h), hrD9, by rw [List.length_append, rgCells_append]; exact hown9, hx09⟩, by have := HBD.out; simp [intOf]; omega⟩
        · have hfi : fndI D (x.cl, y.cl) = -1 := by unfold fndI; rw [if_neg (by omega)]
          have hins : ins D (x.cl, y.cl) = D ++ [(x.cl, y.cl)] := by unfold ins; rw [if_neg (by omega)]
          have HI := Lib.hid hins
          obtain rfl : cn = D.length := by omega
          rw [hfi]
          clear hfi hins hcn
          go_wp2_with (at_builtin; first | (refine wpList_append_own _ rfl (.tmp 60) (.tmp 62) 56 rfl w2.heap.size 102 j0 (.agg #[.int .i64 0, .int .i64 0]) 2 16 Try.underlying56 hj0 hw0 hw1 hw2 rfl (by decide) _ D.length (twCells D) rfl (ownsRow_ext hrD7 ((Ext.refl w7).alloc _)) ⟨w7.heap.size, 0, none⟩ 1 1 [.int .i64 x.cl, .int .i64 y.cl] rfl rfl (World.news_of_block (World.alloc_heap_new w7 _)) (by intro u hu; simp at hu; rcases hu with rfl | rfl <;> rfl) (by unfold maxLen; omega) (by omega) (by simpa using (hx07.alloc (.cells #[.int .i64 x.cl, .int .i64 y.cl] 102)).sz) ?_; intro v8 w8 hrD8 hgrow8 _; have hx08 : Ext w2 w8 := Below.grown (hx07.alloc (.cells #[.int .i64 x.cl, .int .i64 y.cl] 102)) hgrow8 (hx07.alloc _).sz (fun k e => (hrD7.lt k e).1); have hrow8 := rows_kept (ownsRow_ext hrow7 ((Ext.refl w7).alloc (.cells #[.int .i64 x.cl, .int .i64 y.cl] 102))) (ownsRow_ext hrD7 ((Ext.refl w7).alloc _)) (by decide) hgrow8; clear hgrow8 z0 z1) | (refine wpList_append_own _ rfl (.tmp 64) (.tmp 69) 25 rfl w2.heap.size 32 i0 (.agg #[.int .i32 0, .int .i32 0, .int .i64 0]) 3 16 Try.underlying25 hi0 hz0 hz1 hz2 rfl (by decide) _ l.length (rgCells l) rfl (ownsRow_ext hrow8 ((Ext.refl w8).alloc _)) ⟨w8.heap.size, 0, none⟩ 1 1 [.int .i32 lo, .int .i32 (y.hi), .int .i64 (D.length : Nat)] rfl rfl (World.news_of_block (World.alloc_heap_new w8 _)) (by intro u hu; simp at hu; rcases hu with rfl | rfl | rfl <;> rfl) (by unfold maxLen; omega) (by omega) (by simpa using (hx08.alloc (.cells #[.int .i32 lo, .int .i32 (y.hi), .int .i64 (D.length : Nat)] 32)).sz) ?_; intro v9 w9 hown9 hgrow9 _; have hx09 : Ext w2 w9 := Below.grown (hx08.alloc (.cells #[.int .i32 lo, .int .i32 (y.hi), .int .i64 (D.length : Nat)] 32)) hgrow9 (hx08.alloc _).sz (fun k e => (hrow8.lt k e).1); have hrD9 := rows_kept (ownsRow_ext hrD8 ((Ext.refl w8).alloc (.cells #[.int .i32 lo, .int .i32 (y.hi), .int .i64 (D.length : Nat)] 32))) (ownsRow_ext hrow8 ((Ext.refl w8).alloc _)) (by decide) hgrow9; clear hgrow9; obtain ⟨b1', o1', e1', hq1⟩ := (hrg1.mono hx09).at (by intro e; rw [e] at hlt1; simp at hlt1); cases e1'; obtain ⟨b2', o2', e2', hq2⟩ := (hrg2.mono hx09).at (by intro e; rw [e] at hlt2; simp at hlt2); cases e2'; have c1 := (hq1 i hlt1).2.1; have d1 := (hq2 j hlt2).2.1; rw [HX0.out] at c1; rw [HY0.out] at d1; clear hq1 hq2))
          exact ⟨⟨i, (j + 1), f', y.hi + 1, (D ++ [(x.cl, y.cl)]), l ++ [⟨lo, y.hi, (D.length : Nat)⟩], by simp, by simp, rfl, by omega, by omega, by have := HBD.out; omega, hcur1, hcur2, Lib.hid (by have h := hps2.out; rw [HI.out, HCN.out] at h; exact h), by have := HBD.out; have := HFF.out; omega, Lib.hid (by have h := hgo2.out; rw [HI.out, HCN.out] at h; exact h), (by rw [twCells_append, List.length_append]; exact hrD9), by rw [List.length_append, rgCells_append]; exact hown9, hx09⟩, by have := HBD.out; simp [intOf]; omega⟩
      · have hd0 : decide (y.hi < x.hi) = false := decide_eq_false hlt
        by_cases heq : x.hi = y.hi
        · have hne1 : (y.hi == x.hi) = true := beq_iff_eq.2 heq.symm
          have hhi : (if y.hi < x.hi then y.hi else x.hi) = x.hi := if_neg hlt
          have hd1 : R1.drop (i + 1) = if x.hi = x.hi then xs else x :: xs := by rw [if_pos rfl]; exact HT1.out
          have hd2 : R2.drop (j + 1) = if y.hi = x.hi then ys else y :: ys := by rw [if_pos heq.symm]; exact HT2.out
          have HBD := Lib.hid (show lo ≤ x.hi ∧ x.hi ≤ x.hi ∧ x.hi ≤ y.hi by omega)
          clear heq
          obtain ⟨f', hf'⟩ : ∃ f', f = f' + 1 := ⟨f - 1, by omega⟩
          have hgo2 := Lib.hid (show pgo f' (x.hi + 1) (R1.drop (i + 1)) (R2.drop (j + 1)) (ins D (x.cl, y.cl)) (l ++ [⟨lo, x.hi, (fnd D (x.cl, y.cl) : Nat)⟩]) = pgo 1114113 0 R1 R2 [] [] from by
            have h0 := hgo.out
            rw [HXS.out, HYS.out, hf', pgo_step HLE.out hhi, ← hd1, ← hd2] at h0
            exact h0)
          have hcur1 := Lib.hid (show CurR (clsOf L1 r1) (x.hi + 1) (R1.drop (i + 1)) from by
            rw [hd1]
            exact CurR.next (by have := hc1.out; rw [HXS.out] at this; exact this) HBD.out.1 HBD.out.2.1)
          have hcur2 := Lib.hid (show CurR (clsOf L2 r2) (x.hi + 1) (R2.drop (j + 1)) from by
            rw [hd2]
            exact CurR.next (by have := hc2.out; rw [HYS.out] at this; exact this) HBD.out.1 HBD.out.2.2)
          have hps2 := Lib.hid (hps.out.step (x.cl, y.cl) (hi := x.hi) HBD.out.1)
          have HFF := Lib.hid hf'
          clear hhi hd1 hd2 hf' hgo hc1 hc2 hps
          go_wp2_with fail
          refine wp_lex ((fun a => a.block < w2.heap.size)) [true, true, true, true, true, true, true, true, true, true, true, false] (by kernel_rfl) (by kernel_rfl) ?_
          repeat first
            | refine wpG_move (by rfl) (by simp only [Act.eval, Array.getD_eq_getD_getElem?, List.getElem?_toArray, List.getElem?_cons_succ, List.getElem?_cons_zero, Option.getD_some]; try rfl) (by simp only [Act.put, List.setIfInBounds_toArray, List.set_cons_succ, List.set_cons_zero]; rfl) ?_
            | refine wpG_assign (by rfl) (by simp only [Act.eval, Array.getD_eq_getD_getElem?, List.getElem?_toArray, List.getElem?_cons_succ, List.getElem?_cons_zero, Option.getD_some]; try rfl) (by simp only [Act.put, List.setIfInBounds_toArray, List.set_cons_succ, List.set_cons_zero]; rfl) ?_
            | refine wpG_val (by rfl) (fun w' hx => (by go_simp; first | (go_bits; first | exact rfl | exact ⟨by omega, rfl⟩) | exact rfl | exact (if_neg (by omega)).trans rfl | exact ⟨by omega, rfl⟩)) (by simp only [Act.put, List.setIfInBounds_toArray, List.set_cons_succ, List.set_cons_zero]; rfl) ?_
            | refine wpG_no (by rfl) (by simp only [Act.put, List.setIfInBounds_toArray, List.set_cons_succ, List.set_cons_zero]; rfl) ?_
          refine wpG_do (by rfl) (fun w4 hx4 K hK => ?_)
          go_wp2_with fail
          refine ⟨EOn.of_ext ((Ext.refl w4).alloc _), ?_⟩
          refine wpG_end (fun w5 hx5 => ?_)
          have hnew := hx5.blk (World.alloc_heap_new w4 (.cells #[.int .i64 0, .int .i64 0] 102))
          have z0 := cell_blk hnew 0
          have z1 := cell_blk hnew 1
          have fz := frz_blk hnew 0
          have fz1 := frz_blk hnew 1
          simp only [List.getElem?_toArray, List.getElem?_cons_succ, List.getElem?_cons_zero] at z0 z1
          have hxr5 : Ext wr w5 := Ext.trans (hx4.alloc _) hx5
          have hxr6 : Ext wr ((w5.setCell ⟨w4.heap.size, 0, none⟩ (.int .i64 x.cl)).setCell ⟨w4.heap.size, 1, none⟩ (.int .i64 y.cl)) := (hxr5.setCell (p := ⟨w4.heap.size, 0, none⟩) hx4.sz _).setCell (p := ⟨w4.heap.size, 1, none⟩) hx4.sz _
          have hbk6 := set_blk (set_blk hnew 0 (.int .i64 x.cl)) 1 (.int .i64 y.cl)
          simp only [List.setIfInBounds_toArray, List.set_cons_zero, List.set_cons_succ] at hbk6
          have hsz4 := hx4.sz
          go_wp2_with fail
          refine gQ_normal ?_
          generalize ((w5.setCell ⟨w4.heap.size, 0, none⟩ (.int .i64 x.cl)).setCell ⟨w4.heap.size, 1, none⟩ (.int .i64 y.cl)) = w6 at hxr6 hbk6 ⊢
          generalize w4.heap.size = pb at hbk6 hsz4 ⊢
          have hrD6 := ownsRow_ext hrD hxr6
          have hrow6 := ownsRow_ext hrow hxr6
          have hx06 := Ext.trans hx hxr6
          have z0 := cell_blk hbk6 0
          have z1 := cell_blk hbk6 1
          simp only [List.getElem?_toArray, List.getElem?_cons_succ, List.getElem?_cons_zero] at z0 z1
          have hrP := TwRow.of_own hrD6
          clear hnew hxr5 hx5 hx4 hrD hrow hxr6 hx fz fz1 m1 m2
          go_wp2_with fail
          refine (c_find _ D (x.cl, y.cl) w6 hrP (by omega)).mono ?_
          rintro e w7 ⟨rfl, hx7⟩
          have hbk7 := hx7.blk hbk6
          have hrD7 := ownsRow_ext hrD6 hx7
          have hrow7 := ownsRow_ext hrow6 hx7
          have hx07 := Ext.trans hx06 hx7
          have z0 := cell_blk hbk7 0
          have z1 := cell_blk hbk7 1
          simp only [List.getElem?_toArray, List.getElem?_cons_succ, List.getElem?_cons_zero] at z0 z1
          clear hbk6 hrP hrD6 hrow6 hx06 hx7 hbk7
          have hfl := fnd_le D (x.cl, y.cl)
          obtain ⟨cn, hcn⟩ : ∃ cn, fnd D (x.cl, y.cl) = cn := ⟨_, rfl⟩
          have HCN := Lib.hid hcn
          rw [hcn] at hfl
          by_cases hth : cn < D.length
          · have hfi : fndI D (x.cl, y.cl) = (cn : Nat) := by unfold fndI; rw [if_pos (by omega), hcn]
            have hins : ins D (x.cl, y.cl) = D := by unfold ins; rw [if_pos (by omega)]
            have HI := Lib.hid hins
            have hneg : decide (((cn : Nat) : Int) < 0) = false := decide_eq_false (by omega)
            rw [hfi]
            clear hfi hins hcn z0 z1
            go_wp2_with (at_builtin; (refine wpList_append_own _ rfl (.tmp 64) (.tmp 69) 25 rfl w2.heap.size 32 i0 (.agg #[.int .i32 0, .int .i32 0, .int .i64 0]) 3 16 Try.underlying25 hi0 hz0 hz1 hz2 rfl (by decide) _ l.length (rgCells l) rfl (ownsRow_ext hrow7 ((Ext.refl w7).alloc _)) ⟨w7.heap.size, 0, none⟩ 1 1 [.int .i32 lo, .int .i32 (x.hi), .int .i64 (cn : Nat)] rfl rfl (World.news_of_block (World.alloc_heap_new w7 _)) (by intro u hu; simp at hu; rcases hu with rfl | rfl | rfl <;> rfl) (by unfold maxLen; omega) (by omega) (by simpa using (hx07.alloc (.cells #[.int .i32 lo, .int .i32 (x.hi), .int .i64 (cn : Nat)] 32)).sz) ?_; intro v9 w9 hown9 hgrow9 _; have hx09 : Ext w2 w9 := Below.grown (hx07.alloc (.cells #[.int .i32 lo, .int .i32 (x.hi), .int .i64 (cn : Nat)] 32)) hgrow9 (hx07.alloc _).sz (fun k e => (hrow7.lt k e).1); have hrD9 := rows_kept (ownsRow_ext hrD7 ((Ext.refl w7).alloc (.cells #[.int .i32 lo, .int .i32 (x.hi), .int .i64 (cn : Nat)] 32))) (ownsRow_ext hrow7 ((Ext.refl w7).alloc _)) (by decide) hgrow9; clear hgrow9; obtain ⟨b1', o1', e1', hq1⟩ := (hrg1.mono hx09).at (by intro e; rw [e] at hlt1; simp at hlt1); cases e1'; obtain ⟨b2', o2', e2', hq2⟩ := (hrg2.mono hx09).at (by intro e; rw [e] at hlt2; simp at hlt2); cases e2'; have c1 := (hq1 i hlt1).2.1; have d1 := (hq2 j hlt2).2.1; rw [HX0.out] at c1; rw [HY0.out] at d1; clear hq1 hq2))
            exact ⟨⟨(i + 1), (j + 1), f', x.hi + 1, D, l ++ [⟨lo, x.hi, (cn : Nat)⟩], by simp, by simp, rfl, by omega, by omega, by have := HBD.out; omega, hcur1, hcur2, Lib.hid (by have h := hps2.out; rw [HI.out, HCN.out] at h; exact h), by have := HBD.out; have := HFF.out; omega, Lib.hid (by have h := hgo2.out; rw [HI.out, HCN.out] at h; exact h), hrD9, by rw [List.length_append, rgCells_append]; exact hown9, hx09⟩, by have := HBD.out; simp [intOf]; omega⟩
          · have hfi : fndI D (x.cl, y.cl) = -1 := by unfold fndI; rw [if_neg (by omega)]
            have hins : ins D (x.cl, y.cl) = D ++ [(x.cl, y.cl)] := by unfold ins; rw [if_neg (by omega)]
            have HI := Lib.hid hins
            obtain rfl : cn = D.length := by omega
            rw [hfi]
            clear hfi hins hcn
            go_wp2_with (at_builtin; first | (refine wpList_append_own _ rfl (.tmp 60) (.tmp 62) 56 rfl w2.heap.size 102 j0 (.agg #[.int .i64 0, .int .i64 0]) 2 16 Try.underlying56 hj0 hw0 hw1 hw2 rfl (by decide) _ D.length (twCells D) rfl (ownsRow_ext hrD7 ((Ext.refl w7).alloc _)) ⟨w7.heap.size, 0, none⟩ 1 1 [.int .i64 x.cl, .int .i64 y.cl] rfl rfl (World.news_of_block (World.alloc_heap_new w7 _)) (by intro u hu; simp at hu; rcases hu with rfl | rfl <;> rfl) (by unfold maxLen; omega) (by omega) (by simpa using (hx07.alloc (.cells #[.int .i64 x.cl, .int .i64 y.cl] 102)).sz) ?_; intro v8 w8 hrD8 hgrow8 _; have hx08 : Ext w2 w8 := Below.grown (hx07.alloc (.cells #[.int .i64 x.cl, .int .i64 y.cl] 102)) hgrow8 (hx07.alloc _).sz (fun k e => (hrD7.lt k e).1); have hrow8 := rows_kept (ownsRow_ext hrow7 ((Ext.refl w7).alloc (.cells #[.int .i64 x.cl, .int .i64 y.cl] 102))) (ownsRow_ext hrD7 ((Ext.refl w7).alloc _)) (by decide) hgrow8; clear hgrow8 z0 z1) | (refine wpList_append_own _ rfl (.tmp 64) (.tmp 69) 25 rfl w2.heap.size 32 i0 (.agg #[.int .i32 0, .int .i32 0, .int .i64 0]) 3 16 Try.underlying25 hi0 hz0 hz1 hz2 rfl (by decide) _ l.length (rgCells l) rfl (ownsRow_ext hrow8 ((Ext.refl w8).alloc _)) ⟨w8.heap.size, 0, none⟩ 1 1 [.int .i32 lo, .int .i32 (x.hi), .int .i64 (D.length : Nat)] rfl rfl (World.news_of_block (World.alloc_heap_new w8 _)) (by intro u hu; simp at hu; rcases hu with rfl | rfl | rfl <;> rfl) (by unfold maxLen; omega) (by omega) (by simpa using (hx08.alloc (.cells #[.int .i32 lo, .int .i32 (x.hi), .int .i64 (D.length : Nat)] 32)).sz) ?_; intro v9 w9 hown9 hgrow9 _; have hx09 : Ext w2 w9 := Below.grown (hx08.alloc (.cells #[.int .i32 lo, .int .i32 (x.hi), .int .i64 (D.length : Nat)] 32)) hgrow9 (hx08.alloc _).sz (fun k e => (hrow8.lt k e).1); have hrD9 := rows_kept (ownsRow_ext hrD8 ((Ext.refl w8).alloc (.cells #[.int .i32 lo, .int .i32 (x.hi), .int .i64 (D.length : Nat)] 32))) (ownsRow_ext hrow8 ((Ext.refl w8).alloc _)) (by decide) hgrow9; clear hgrow9; obtain ⟨b1', o1', e1', hq1⟩ := (hrg1.mono hx09).at (by intro e; rw [e] at hlt1; simp at hlt1); cases e1'; obtain ⟨b2', o2', e2', hq2⟩ := (hrg2.mono hx09).at (by intro e; rw [e] at hlt2; simp at hlt2); cases e2'; have c1 := (hq1 i hlt1).2.1; have d1 := (hq2 j hlt2).2.1; rw [HX0.out] at c1; rw [HY0.out] at d1; clear hq1 hq2))
            exact ⟨⟨(i + 1), (j + 1), f', x.hi + 1, (D ++ [(x.cl, y.cl)]), l ++ [⟨lo, x.hi, (D.length : Nat)⟩], by simp, by simp, rfl, by omega, by omega, by have := HBD.out; omega, hcur1, hcur2, Lib.hid (by have h := hps2.out; rw [HI.out, HCN.out] at h; exact h), by have := HBD.out; have := HFF.out; omega, Lib.hid (by have h := hgo2.out; rw [HI.out, HCN.out] at h; exact h), (by rw [twCells_append, List.length_append]; exact hrD9), by rw [List.length_append, rgCells_append]; exact hown9, hx09⟩, by have := HBD.out; simp [intOf]; omega⟩
        · have hne1 : (y.hi == x.hi) = false := beq_false_of_ne (fun e => heq e.symm)
          have hhi : (if y.hi < x.hi then y.hi else x.hi) = x.hi := if_neg hlt
          have hd1 : R1.drop (i + 1) = if x.hi = x.hi then xs else x :: xs := by rw [if_pos rfl]; exact HT1.out
          have hd2 : R2.drop j = if y.hi = x.hi then ys else y :: ys := by rw [if_neg (fun e => heq e.symm), HYS.out]
          have HBD := Lib.hid (show lo ≤ x.hi ∧ x.hi ≤ x.hi ∧ x.hi ≤ y.hi by omega)
          clear heq
          obtain ⟨f', hf'⟩ : ∃ f', f = f' + 1 := ⟨f - 1, by omega⟩
          have hgo2 := Lib.hid (show pgo f' (x.hi + 1) (R1.drop (i + 1)) (R2.drop j) (ins D (x.cl, y.cl)) (l ++ [⟨lo, x.hi, (fnd D (x.cl, y.cl) : Nat)⟩]) = pgo 1114113 0 R1 R2 [] [] from by
            have h0 := hgo.out
            rw [HXS.out, HYS.out, hf', pgo_step HLE.out hhi, ← hd1, ← hd2] at h0
            exact h0)
          have hcur1 := Lib.hid (show CurR (clsOf L1 r1) (x.hi + 1) (R1.drop (i + 1)) from by
            rw [hd1]
            exact CurR.next (by have := hc1.out; rw [HXS.out] at this; exact this) HBD.out.1 HBD.out.2.1)
          have hcur2 := Lib.hid (show CurR (clsOf L2 r2) (x.hi + 1) (R2.drop j) from by
            rw [hd2]
            exact CurR.next (by have := hc2.out; rw [HYS.out] at this; exact this) HBD.out.1 HBD.out.2.2)
          have hps2 := Lib.hid (hps.out.step (x.cl, y.cl) (hi := x.hi) HBD.out.1)
          have HFF := Lib.hid hf'
          clear hhi hd1 hd2 hf' hgo hc1 hc2 hps
          go_wp2_with fail
          refine wp_lex ((fun a => a.block < w2.heap.size)) [true, true, true, true, true, true, true, true, true, true, true, false] (by kernel_rfl) (by kernel_rfl) ?_
          repeat first
            | refine wpG_move (by rfl) (by simp only [Act.eval, Array.getD_eq_getD_getElem?, List.getElem?_toArray, List.getElem?_cons_succ, List.getElem?_cons_zero, Option.getD_some]; try rfl) (by simp only [Act.put, List.setIfInBounds_toArray, List.set_cons_succ, List.set_cons_zero]; rfl) ?_
            | refine wpG_assign (by rfl) (by simp only [Act.eval, Array.getD_eq_getD_getElem?, List.getElem?_toArray, List.getElem?_cons_succ, List.getElem?_cons_zero, Option.getD_some]; try rfl) (by simp only [Act.put, List.setIfInBounds_toArray, List.set_cons_succ, List.set_cons_zero]; rfl) ?_
            | refine wpG_val (by rfl) (fun w' hx => (by go_simp; first | (go_bits; first | exact rfl | exact ⟨by omega, rfl⟩) | exact rfl | exact (if_neg (by omega)).trans rfl | exact ⟨by omega, rfl⟩)) (by simp only [Act.put, List.setIfInBounds_toArray, List.set_cons_succ, List.set_cons_zero]; rfl) ?_
            | refine wpG_no (by rfl) (by simp only [Act.put, List.setIfInBounds_toArray, List.set_cons_succ, List.set_cons_zero]; rfl) ?_
          refine wpG_do (by rfl) (fun w4 hx4 K hK => ?_)
          go_wp2_with fail
          refine ⟨EOn.of_ext ((Ext.refl w4).alloc _), ?_⟩
          refine wpG_end (fun w5 hx5 => ?_)
          have hnew := hx5.blk (World.alloc_heap_new w4 (.cells #[.int .i64 0, .int .i64 0] 102))
          have z0 := cell_blk hnew 0
          have z1 := cell_blk hnew 1
          have fz := frz_blk hnew 0
          have fz1 := frz_blk hnew 1
          simp only [List.getElem?_toArray, List.getElem?_cons_succ, List.getElem?_cons_zero] at z0 z1
          have hxr5 : Ext wr w5 := Ext.trans (hx4.alloc _) hx5
          have hxr6 : Ext wr ((w5.setCell ⟨w4.heap.size, 0, none⟩ (.int .i64 x.cl)).setCell ⟨w4.heap.size, 1, none⟩ (.int .i64 y.cl)) := (hxr5.setCell (p := ⟨w4.heap.size, 0, none⟩) hx4.sz _).setCell (p := ⟨w4.heap.size, 1, none⟩) hx4.sz _
          have hbk6 := set_blk (set_blk hnew 0 (.int .i64 x.cl)) 1 (.int .i64 y.cl)
          simp only [List.setIfInBounds_toArray, List.set_cons_zero, List.set_cons_succ] at hbk6
          have hsz4 := hx4.sz
          go_wp2_with fail
          refine gQ_normal ?_
          generalize ((w5.setCell ⟨w4.heap.size, 0, none⟩ (.int .i64 x.cl)).setCell ⟨w4.heap.size, 1, none⟩ (.int .i64 y.cl)) = w6 at hxr6 hbk6 ⊢
          generalize w4.heap.size = pb at hbk6 hsz4 ⊢
          have hrD6 := ownsRow_ext hrD hxr6
          have hrow6 := ownsRow_ext hrow hxr6
          have hx06 := Ext.trans hx hxr6
          have z0 := cell_blk hbk6 0
          have z1 := cell_blk hbk6 1
          simp only [List.getElem?_toArray, List.getElem?_cons_succ, List.getElem?_cons_zero] at z0 z1
          have hrP := TwRow.of_own hrD6
          clear hnew hxr5 hx5 hx4 hrD hrow hxr6 hx fz fz1 m1 m2
          go_wp2_with fail
          refine (c_find _ D (x.cl, y.cl) w6 hrP (by omega)).mono ?_
          rintro e w7 ⟨rfl, hx7⟩
          have hbk7 := hx7.blk hbk6
          have hrD7 := ownsRow_ext hrD6 hx7
          have hrow7 := ownsRow_ext hrow6 hx7
          have hx07 := Ext.trans hx06 hx7
          have z0 := cell_blk hbk7 0
          have z1 := cell_blk hbk7 1
          simp only [List.getElem?_toArray, List.getElem?_cons_succ, List.getElem?_cons_zero] at z0 z1
          clear hbk6 hrP hrD6 hrow6 hx06 hx7 hbk7
          have hfl := fnd_le D (x.cl, y.cl)
          obtain ⟨cn, hcn⟩ : ∃ cn, fnd D (x.cl, y.cl) = cn := ⟨_, rfl⟩
          have HCN := Lib.hid hcn
          rw [hcn] at hfl
          by_cases hth : cn < D.length
          · have hfi : fndI D (x.cl, y.cl) = (cn : Nat) := by unfold fndI; rw [if_pos (by omega), hcn]
            have hins : ins D (x.cl, y.cl) = D := by unfold ins; rw [if_pos (by omega)]
            have HI := Lib.hid hins
            have hneg : decide (((cn : Nat) : Int) < 0) = false := decide_eq_false (by omega)
            rw [hfi]
            clear hfi hins hcn z0 z1
            go_wp2_with (at_builtin; (refine wpList_append_own _ rfl (.tmp 64) (.tmp 69) 25 rfl w2.heap.size 32 i0 (.agg #[.int .i32 0, .int .i32 0, .int .i64 0]) 3 16 Try.underlying25 hi0 hz0 hz1 hz2 rfl (by decide) _ l.length (rgCells l) rfl (ownsRow_ext hrow7 ((Ext.refl w7).alloc _)) ⟨w7.heap.size, 0, none⟩ 1 1 [.int .i32 lo, .int .i32 (x.hi), .int .i64 (cn : Nat)] rfl rfl (World.news_of_block (World.alloc_heap_new w7 _)) (by intro u hu; simp at hu; rcases hu with rfl | rfl | rfl <;> rfl) (by unfold maxLen; omega) (by omega) (by simpa using (hx07.alloc (.cells #[.int .i32 lo, .int .i32 (x.hi), .int .i64 (cn : Nat)] 32)).sz) ?_; intro v9 w9 hown9 hgrow9 _; have hx09 : Ext w2 w9 := Below.grown (hx07.alloc (.cells #[.int .i32 lo, .int .i32 (x.hi), .int .i64 (cn : Nat)] 32)) hgrow9 (hx07.alloc _).sz (fun k e => (hrow7.lt k e).1); have hrD9 := rows_kept (ownsRow_ext hrD7 ((Ext.refl w7).alloc (.cells #[.int .i32 lo, .int .i32 (x.hi), .int .i64 (cn : Nat)] 32))) (ownsRow_ext hrow7 ((Ext.refl w7).alloc _)) (by decide) hgrow9; clear hgrow9; obtain ⟨b1', o1', e1', hq1⟩ := (hrg1.mono hx09).at (by intro e; rw [e] at hlt1; simp at hlt1); cases e1'; obtain ⟨b2', o2', e2', hq2⟩ := (hrg2.mono hx09).at (by intro e; rw [e] at hlt2; simp at hlt2); cases e2'; have c1 := (hq1 i hlt1).2.1; have d1 := (hq2 j hlt2).2.1; rw [HX0.out] at c1; rw [HY0.out] at d1; clear hq1 hq2))
            exact ⟨⟨(i + 1), j, f', x.hi + 1, D, l ++ [⟨lo, x.hi, (cn : Nat)⟩], by simp, by simp, rfl, by omega, by omega, by have := HBD.out; omega, hcur1, hcur2, Lib.hid (by have h := hps2.out; rw [HI.out, HCN.out] at h; exact h), by have := HBD.out; have := HFF.out; omega, Lib.hid (by have h := hgo2.out; rw [HI.out, HCN.out] at h; exact h), hrD9, by rw [List.length_append, rgCells_append]; exact hown9, hx09⟩, by have := HBD.out; simp [intOf]; omega⟩
          · have hfi : fndI D (x.cl, y.cl) = -1 := by unfold fndI; rw [if_neg (by omega)]
            have hins : ins D (x.cl, y.cl) = D ++ [(x.cl, y.cl)] := by unfold ins; rw [if_neg (by omega)]
            have HI := Lib.hid hins
            obtain rfl : cn = D.length := by omega
            rw [hfi]
            clear hfi hins hcn
            go_wp2_with (at_builtin; first | (refine wpList_append_own _ rfl (.tmp 60) (.tmp 62) 56 rfl w2.heap.size 102 j0 (.agg #[.int .i64 0, .int .i64 0]) 2 16 Try.underlying56 hj0 hw0 hw1 hw2 rfl (by decide) _ D.length (twCells D) rfl (ownsRow_ext hrD7 ((Ext.refl w7).alloc _)) ⟨w7.heap.size, 0, none⟩ 1 1 [.int .i64 x.cl, .int .i64 y.cl] rfl rfl (World.news_of_block (World.alloc_heap_new w7 _)) (by intro u hu; simp at hu; rcases hu with rfl | rfl <;> rfl) (by unfold maxLen; omega) (by omega) (by simpa using (hx07.alloc (.cells #[.int .i64 x.cl, .int .i64 y.cl] 102)).sz) ?_; intro v8 w8 hrD8 hgrow8 _; have hx08 : Ext w2 w8 := Below.grown (hx07.alloc (.cells #[.int .i64 x.cl, .int .i64 y.cl] 102)) hgrow8 (hx07.alloc _).sz (fun k e => (hrD7.lt k e).1); have hrow8 := rows_kept (ownsRow_ext hrow7 ((Ext.refl w7).alloc (.cells #[.int .i64 x.cl, .int .i64 y.cl] 102))) (ownsRow_ext hrD7 ((Ext.refl w7).alloc _)) (by decide) hgrow8; clear hgrow8 z0 z1) | (refine wpList_append_own _ rfl (.tmp 64) (.tmp 69) 25 rfl w2.heap.size 32 i0 (.agg #[.int .i32 0, .int .i32 0, .int .i64 0]) 3 16 Try.underlying25 hi0 hz0 hz1 hz2 rfl (by decide) _ l.length (rgCells l) rfl (ownsRow_ext hrow8 ((Ext.refl w8).alloc _)) ⟨w8.heap.size, 0, none⟩ 1 1 [.int .i32 lo, .int .i32 (x.hi), .int .i64 (D.length : Nat)] rfl rfl (World.news_of_block (World.alloc_heap_new w8 _)) (by intro u hu; simp at hu; rcases hu with rfl | rfl | rfl <;> rfl) (by unfold maxLen; omega) (by omega) (by simpa using (hx08.alloc (.cells #[.int .i32 lo, .int .i32 (x.hi), .int .i64 (D.length : Nat)] 32)).sz) ?_; intro v9 w9 hown9 hgrow9 _; have hx09 : Ext w2 w9 := Below.grown (hx08.alloc (.cells #[.int .i32 lo, .int .i32 (x.hi), .int .i64 (D.length : Nat)] 32)) hgrow9 (hx08.alloc _).sz (fun k e => (hrow8.lt k e).1); have hrD9 := rows_kept (ownsRow_ext hrD8 ((Ext.refl w8).alloc (.cells #[.int .i32 lo, .int .i32 (x.hi), .int .i64 (D.length : Nat)] 32))) (ownsRow_ext hrow8 ((Ext.refl w8).alloc _)) (by decide) hgrow9; clear hgrow9; obtain ⟨b1', o1', e1', hq1⟩ := (hrg1.mono hx09).at (by intro e; rw [e] at hlt1; simp at hlt1); cases e1'; obtain ⟨b2', o2', e2', hq2⟩ := (hrg2.mono hx09).at (by intro e; rw [e] at hlt2; simp at hlt2); cases e2'; have c1 := (hq1 i hlt1).2.1; have d1 := (hq2 j hlt2).2.1; rw [HX0.out] at c1; rw [HY0.out] at d1; clear hq1 hq2))
            exact ⟨⟨(i + 1), j, f', x.hi + 1, (D ++ [(x.cl, y.cl)]), l ++ [⟨lo, x.hi, (D.length : Nat)⟩], by simp, by simp, rfl, by omega, by omega, by have := HBD.out; omega, hcur1, hcur2, Lib.hid (by have h := hps2.out; rw [HI.out, HCN.out] at h; exact h), by have := HBD.out; have := HFF.out; omega, Lib.hid (by have h := hgo2.out; rw [HI.out, HCN.out] at h; exact h), (by rw [twCells_append, List.length_append]; exact hrD9), by rw [List.length_append, rgCells_append]; exact hown9, hx09⟩, by have := HBD.out; simp [intOf]; omega⟩
    · have hpair : pairOf R1 R2 r1 r2 = (ins D (r1, r2), l, fnd D (r1, r2)) := by
        have h0 := hgo.out
        rw [pgo_end hle] at h0
        unfold pairOf
        rw [← h0]
      have HP := Lib.hid hpair
      have HPS := Lib.hid hps.out
      have hT1 : Y1 < w2.heap.size := Nat.lt_of_lt_of_le (blk_lt hY1) (Ext.trans hx1 hx2).sz
      have hT2 : Y2 < w2.heap.size := Nat.lt_of_lt_of_le (blk_lt hY2) (Ext.trans hx1 hx2).sz
      have hx0r := Ext.trans (Ext.trans hx1 hx2) hx
      have y1 := cell_blk (hx0r.blk hY1) 1
      have y2 := cell_blk (hx0r.blk hY2) 1
      simp only [List.getElem?_toArray, List.getElem?_cons_succ, List.getElem?_cons_zero] at y1 y2
      have m1 : ∀ w', EOn (fun a => a.block < w2.heap.size) wr w' → w'.cell? ⟨Y1, 1, none⟩ = _ := fun w' hx => hx.cell hT1 y1
      have m2 : ∀ w', EOn (fun a => a.block < w2.heap.size) wr w' → w'.cell? ⟨Y2, 1, none⟩ = _ := fun w' hx => hx.cell hT2 y2
      clear hpair hc1 hc2 hgo hps y1 y2 hrg1 hrg2
      go_wp2_with fail
      refine wp_lex ((fun a => a.block < w2.heap.size)) [true, true, true, true, true, true, true, true, true, false] (by kernel_rfl) (by kernel_rfl) ?_
      repeat first
        | refine wpG_move (by rfl) (by simp only [Act.eval, Array.getD_eq_getD_getElem?, List.getElem?_toArray, List.getElem?_cons_succ, List.getElem?_cons_zero, Option.getD_some]; try rfl) (by simp only [Act.put, List.setIfInBounds_toArray, List.set_cons_succ, List.set_cons_zero]; rfl) ?_
        | refine wpG_assign (by rfl) (by simp only [Act.eval, Array.getD_eq_getD_getElem?, List.getElem?_toArray, List.getElem?_cons_succ, List.getElem?_cons_zero, Option.getD_some]; try rfl) (by simp only [Act.put, List.setIfInBounds_toArray, List.set_cons_succ, List.set_cons_zero]; rfl) ?_
        | refine wpG_val (by rfl) (fun w' hx => (by go_simp; first | (go_bits; first | exact rfl | exact ⟨by omega, rfl⟩) | exact rfl | exact (if_neg (by omega)).trans rfl | exact ⟨by omega, rfl⟩)) (by simp only [Act.put, List.setIfInBounds_toArray, List.set_cons_succ, List.set_cons_zero]; rfl) ?_
        | refine wpG_no (by rfl) (by simp only [Act.put, List.setIfInBounds_toArray, List.set_cons_succ, List.set_cons_zero]; rfl) ?_
      refine wpG_do (by rfl) (fun w4 hx4 K hK => ?_)
      go_wp2_with fail
      refine ⟨EOn.of_ext ((Ext.refl w4).alloc _), ?_⟩
      refine wpG_end (fun w5 hx5 => ?_)
      have hnew := hx5.blk (World.alloc_heap_new w4 (.cells #[.int .i64 0, .int .i64 0] 102))
      have z0 := cell_blk hnew 0
      have z1 := cell_blk hnew 1
      have fz := frz_blk hnew 0
      have fz1 := frz_blk hnew 1
      simp only [List.getElem?_toArray, List.getElem?_cons_succ, List.getElem?_cons_zero] at z0 z1
      have hxr5 : Ext wr w5 := Ext.trans (hx4.alloc _) hx5
      have hxr6 : Ext wr ((w5.setCell ⟨w4.heap.size, 0, none⟩ (.int .i64 r1)).setCell ⟨w4.heap.size, 1, none⟩ (.int .i64 r2)) := (hxr5.setCell (p := ⟨w4.heap.size, 0, none⟩) hx4.sz _).setCell (p := ⟨w4.heap.size, 1, none⟩) hx4.sz _
      have hbk6 := set_blk (set_blk hnew 0 (.int .i64 r1)) 1 (.int .i64 r2)
      simp only [List.setIfInBounds_toArray, List.set_cons_zero, List.set_cons_succ] at hbk6
      have hsz4 := hx4.sz
      go_wp2_with fail
      refine gQ_normal ?_
      generalize ((w5.setCell ⟨w4.heap.size, 0, none⟩ (.int .i64 r1)).setCell ⟨w4.heap.size, 1, none⟩ (.int .i64 r2)) = w6 at hxr6 hbk6 ⊢
      generalize w4.heap.size = pb at hbk6 hsz4 ⊢
      have hrD6 := ownsRow_ext hrD hxr6
      have hrow6 := ownsRow_ext hrow hxr6
      have hx06 := Ext.trans hx hxr6
      have z0 := cell_blk hbk6 0
      have z1 := cell_blk hbk6 1
      simp only [List.getElem?_toArray, List.getElem?_cons_succ, List.getElem?_cons_zero] at z0 z1
      have hrP := TwRow.of_own hrD6
      clear hnew hxr5 hx5 hx4 hrD hrow hxr6 hx fz fz1 m1 m2
      go_wp2_with fail
      refine (c_find _ D (r1, r2) w6 hrP (by omega)).mono ?_
      rintro e w7 ⟨rfl, hx7⟩
      have hbk7 := hx7.blk hbk6
      have hrD7 := ownsRow_ext hrD6 hx7
      have hrow7 := ownsRow_ext hrow6 hx7
      have hx07 := Ext.trans hx06 hx7
      have z0 := cell_blk hbk7 0
      have z1 := cell_blk hbk7 1
      simp only [List.getElem?_toArray, List.getElem?_cons_succ, List.getElem?_cons_zero] at z0 z1
      clear hbk6 hrP hrD6 hrow6 hx06 hx7 hbk7
      have hfl := fnd_le D (r1, r2)
      obtain ⟨cn, hcn⟩ : ∃ cn, fnd D (r1, r2) = cn := ⟨_, rfl⟩
      rw [hcn] at hfl HP
      have hsz2 := (Ext.trans hx1 hx2).sz
      have hx02 := Ext.trans hx1 hx2
      clear hx1 hx2
      by_cases hth : cn < D.length
      · have hfi : fndI D (r1, r2) = (cn : Nat) := by unfold fndI; rw [if_pos (by omega), hcn]
        have hins : ins D (r1, r2) = D := by unfold ins; rw [if_pos (by omega)]
        rw [hins] at HP
        have hneg : decide (((cn : Nat) : Int) < 0) = false := decide_eq_false (by omega)
        rw [hfi]
        clear hfi hins hcn z0 z1
        obtain ⟨D', hD', hDe⟩ : ∃ D', D = D' ∧ D'.length ≤ D.length + 1 := ⟨D, rfl, by omega⟩
        have hcl : Hid (∀ z ∈ l, 0 ≤ z.cl ∧ z.cl < D'.length) := Lib.hid (by rw [← hD']; exact HPS.out.2.2.1)
        have hcl2 : cn < D'.length := by rw [← hD']; exact hth
        rw [hD'] at HP hrD7 ⊢
        clear hD'
        by_cases hmany : 256 < D'.length
        · have hmI : (256 : Int) < (D'.length : Nat) := by omega
          go_wp2_with fail
          refine bodyPost_ret (v := .tuple #[.pointer none, .slice none 0 0, .int .i64 6]) (by simp [results, Try.results32, go_sem]) rfl ⟨Ext.trans hx02 hx07, .inl ⟨by rw [HE1.out, HE2.out, HP.out]; exact hmany, rfl⟩⟩
        · have hmI : ¬ (256 : Int) < (D'.length : Nat) := by omega
          have hrise := Lib.hid (HPS.out.1.rise (by omega) (by omega) fun z hz => by have := hcl.out z hz; omega)
          have hrg := RgRow.of_own hrow7
          obtain ⟨n1, n2, n3⟩ := normOf_spec (rest := (cn : Nat)) hrise.out
          have N1 := Lib.hid n1
          clear n1 n2 n3
          go_wp2_with fail
          refine (c_normal _ l (cn : Nat) w7 hrg hrise.out (by omega)).mono ?_
          rintro e w10 ⟨v10, rfl, hrow10, hx10⟩
          obtain ⟨p10, cap10, rfl⟩ := own_slice hrow10
          have hx12 := (Ext.trans hx07 hx10).alloc (.cells #[.slice p10 (normOf (cn : Nat) l).length cap10, .int .i64 (cn : Nat)] 88)
          have hYn := World.alloc_heap_new w10 (.cells #[.slice p10 (normOf (cn : Nat) l).length cap10, .int .i64 (cn : Nat)] 88)
          have hrY := own_lower (ownsRow_ext hrow10 ((Ext.refl w10).alloc (.cells #[.slice p10 (normOf (cn : Nat) l).length cap10, .int .i64 (cn : Nat)] 88))) (n₀ := w.heap.size) (Nat.le_trans hsz2 hx07.sz)
          have hrT := own_lower (ownsRow_ext hrD7 (Ext.trans hx10 ((Ext.refl w10).alloc (.cells #[.slice p10 (normOf (cn : Nat) l).length cap10, .int .i64 (cn : Nat)] 88)))) (n₀ := w.heap.size) hsz2
          have hsz10 : w.heap.size ≤ w10.heap.size := Nat.le_trans hsz2 (Ext.trans hx07 hx10).sz
          clear hrow10 hrg
          go_wp2_with fail
          refine bodyPost_ret (v := .tuple #[.pointer (some ⟨w10.heap.size, 0, none⟩), _, .int .i64 0]) (by simp [results, Try.results32, go_sem]; rfl) rfl ⟨Ext.trans hx02 hx12, .inr ?_⟩
          rw [HE1.out, HE2.out, HP.out]
          exact ⟨by show D'.length ≤ 256; omega, .pointer (some ⟨w10.heap.size, 0, none⟩), _, rfl, ⟨w10.heap.size, _, rfl, hYn, hsz10, hrY, N1.out, by show (0 : Int) ≤ (cn : Nat) ∧ ((cn : Nat) : Int) ≤ 255; omega⟩, hrT⟩
      · have hfi : fndI D (r1, r2) = -1 := by unfold fndI; rw [if_neg (by omega)]
        have hins : ins D (r1, r2) = D ++ [(r1, r2)] := by unfold ins; rw [if_neg (by omega)]
        rw [hins] at HP
        obtain rfl : cn = D.length := by omega
        rw [hfi]
        clear hfi hins hcn
        go_wp2_with (at_builtin; (refine wpList_append_own _ rfl (.tmp 107) (.tmp 109) 56 rfl w2.heap.size 102 j0 (.agg #[.int .i64 0, .int .i64 0]) 2 16 Try.underlying56 hj0 hw0 hw1 hw2 rfl (by decide) _ D.length (twCells D) rfl (ownsRow_ext hrD7 ((Ext.refl w7).alloc _)) ⟨w7.heap.size, 0, none⟩ 1 1 [.int .i64 r1, .int .i64 r2] rfl rfl (World.news_of_block (World.alloc_heap_new w7 _)) (by intro u hu; simp at hu; rcases hu with rfl | rfl <;> rfl) (by unfold maxLen; omega) (by omega) (by simpa using (hx07.alloc (.cells #[.int .i64 r1, .int .i64 r2] 102)).sz) ?_; intro v8 w8 hrD8 hgrow8 _; have hx08 : Ext w2 w8 := Below.grown (hx07.alloc (.cells #[.int .i64 r1, .int .i64 r2] 102)) hgrow8 (hx07.alloc _).sz (fun k e => (hrD7.lt k e).1); have hrow8 := rows_kept (ownsRow_ext hrow7 ((Ext.refl w7).alloc (.cells #[.int .i64 r1, .int .i64 r2] 102))) (ownsRow_ext hrD7 ((Ext.refl w7).alloc _)) (by decide) hgrow8; clear hgrow8 z0 z1; refine Hid.out ?_))
        refine Lib.hid ?_
        have hrD9 : w8.ownsRow w2.heap.size 102 2 v8 (D ++ [(r1, r2)]).length (twCells (D ++ [(r1, r2)])) := by rw [twCells_append, List.length_append]; exact hrD8
        clear hrD8
        obtain ⟨pd8, cd8, rfl⟩ := own_slice hrD9
        obtain ⟨D', hD', hDe⟩ : ∃ D', D ++ [(r1, r2)] = D' ∧ D'.length ≤ D.length + 1 := ⟨_, rfl, by simp⟩
        have hcl : Hid (∀ z ∈ l, 0 ≤ z.cl ∧ z.cl < D'.length) := Lib.hid (by rw [← hD']; intro z hz; have := HPS.out.2.2.1 z hz; simp; omega)
        have hcl2 : D.length < D'.length := by rw [← hD']; simp
        rw [hD'] at HP hrD9 ⊢
        clear hD'
        obtain ⟨cn, hcn⟩ : ∃ cn, D.length = cn := ⟨_, rfl⟩
        rw [hcn] at HP hcl2 ⊢
        clear hcn
        by_cases hmany : 256 < D'.length
        · have hmI : (256 : Int) < (D'.length : Nat) := by omega
          go_wp2_with fail
          refine bodyPost_ret (v := .tuple #[.pointer none, .slice none 0 0, .int .i64 6]) (by simp [results, Try.results32, go_sem]) rfl ⟨Ext.trans hx02 hx08, .inl ⟨by rw [HE1.out, HE2.out, HP.out]; exact hmany, rfl⟩⟩
        · have hmI : ¬ (256 : Int) < (D'.length : Nat) := by omega
          have hrise := Lib.hid (HPS.out.1.rise (by omega) (by omega) fun z hz => by have := hcl.out z hz; omega)
          have hrg := RgRow.of_own hrow8
          obtain ⟨n1, n2, n3⟩ := normOf_spec (rest := (cn : Nat)) hrise.out
          have N1 := Lib.hid n1
          clear n1 n2 n3
          go_wp2_with fail
          refine (c_normal _ l (cn : Nat) w8 hrg hrise.out (by omega)).mono ?_
          rintro e w10 ⟨v10, rfl, hrow10, hx10⟩
          obtain ⟨p10, cap10, rfl⟩ := own_slice hrow10
          have hx12 := (Ext.trans hx08 hx10).alloc (.cells #[.slice p10 (normOf (cn : Nat) l).length cap10, .int .i64 (cn : Nat)] 88)
          have hYn := World.alloc_heap_new w10 (.cells #[.slice p10 (normOf (cn : Nat) l).length cap10, .int .i64 (cn : Nat)] 88)
          have hrY := own_lower (ownsRow_ext hrow10 ((Ext.refl w10).alloc (.cells #[.slice p10 (normOf (cn : Nat) l).length cap10, .int .i64 (cn : Nat)] 88))) (n₀ := w.heap.size) (Nat.le_trans hsz2 hx08.sz)
          have hrT := own_lower (ownsRow_ext hrD9 (Ext.trans hx10 ((Ext.refl w10).alloc (.cells #[.slice p10 (normOf (cn : Nat) l).length cap10, .int .i64 (cn : Nat)] 88)))) (n₀ := w.heap.size) hsz2
          have hsz10 : w.heap.size ≤ w10.heap.size := Nat.le_trans hsz2 (Ext.trans hx08 hx10).sz
          clear hrow10 hrg
          go_wp2_with fail
          refine bodyPost_ret (v := .tuple #[.pointer (some ⟨w10.heap.size, 0, none⟩), _, .int .i64 0]) (by simp [results, Try.results32, go_sem]; rfl) rfl ⟨Ext.trans hx02 hx12, .inr ?_⟩
          rw [HE1.out, HE2.out, HP.out]
          exact ⟨by show D'.length ≤ 256; omega, .pointer (some ⟨w10.heap.size, 0, none⟩), _, rfl, ⟨w10.heap.size, _, rfl, hYn, hsz10, hrY, N1.out, by show (0 : Int) ≤ (cn : Nat) ∧ ((cn : Nat) : Int) ≤ 255; omega⟩, hrT⟩
end Go.Proofs.Ytbbemipidkhmfaa
