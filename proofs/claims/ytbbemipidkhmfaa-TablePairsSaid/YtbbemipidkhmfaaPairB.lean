/-
  The program's Pair.
-/
import Derived.Lib.MinMax
import Derived.Test.YtbbemipidkhmfaaPairA
import Derived.Test.YtbbemipidkhmfaaPlanC
import Derived.Test.YtbbemipidkhmfaaWalkP
import Derived.Test.YtbbemipidkhmfaaOrdM
namespace Go.Proofs.Ytbbemipidkhmfaa
open Go.RowKit Go.Maps Go.Shelf

attribute [local go_sem] run_makeMap
theorem CurR.ge {f : Int → Int} {lo : Int} {x : Rng} {t : List Rng} (h : CurR f lo (x :: t)) : RunsFrom f x.lo 1114112 (x :: t) := by
  obtain ⟨s, h1, _⟩ := h
  have := h1.1
  rw [this]
  exact h1
theorem TwSt.ext {W W' : World} {n₀ mb mf tb : Nat} {tv : Value} {D : List (Int × Int)} (h : TwSt W n₀ mb mf tb tv D) (hx : Ext W W') : TwSt W' n₀ mb mf tb tv D :=
  ⟨h.bm.ext hx, h.bt.ext hx, ownsRow_ext h.row hx, h.mp.ext hx, h.ok, h.nd, h.le, h.n0.1, h.n0.2.1, Nat.le_trans h.n0.2.2 hx.sz⟩
theorem TwSt.grown {W W' : World} {n₀ mb mf tb : Nat} {tv : Value} {D : List (Int × Int)} (h : TwSt W n₀ mb mf tb tv D) {n k : Nat} {lv : Value} {xs : List Value} (hr : W.ownsRow n 32 3 lv k xs) (hg : W.grownBy W' lv.ownBlock) : TwSt W' n₀ mb mf tb tv D := by
  refine ⟨h.bm.kept hg (h.bm.not_row (by decide) hr), h.bt.kept hg (h.bt.not_row (by decide) hr), rows_kept h.row hr (by decide) hg, h.mp.kept hg ?_, h.ok, h.nd, h.le, h.n0.1, h.n0.2.1, Nat.le_trans h.n0.2.2 hg.size⟩
  intro e2
  obtain ⟨es, ck, hm, _⟩ := h.mp
  rcases hr.2 with ⟨h3, _⟩ | ⟨g, c', cur, h3, _, hgb, _⟩
  · rw [h3] at e2; simp [Value.ownBlock] at e2
  · rw [h3] at e2
    obtain rfl : mf = g := by simpa [Value.ownBlock] using e2
    rw [hm] at hgb
    cases hgb
theorem KeepT.row {W W' : World} {n₀ mb mf tb : Nat} {tv : Value} {D : List (Int × Int)} (hk : KeepT tb mf tv W W') (h : TwSt W n₀ mb mf tb tv D) {n k : Nat} {lv : Value} {xs : List Value} (hr : W.ownsRow n 32 3 lv k xs) : W'.ownsRow n 32 3 lv k xs := by
  obtain ⟨g1, g2⟩ := hr
  refine ⟨g1, ?_⟩
  rcases g2 with g2 | ⟨g, cap, cur, rfl, b1, b2, b3⟩
  · exact .inl g2
  · refine .inr ⟨g, cap, cur, rfl, b1, hk.2 g _ b2 (fun e => ?_) (fun e => ?_) (row_ne h.row b2 (by decide)), b3⟩
    · subst e
      have := h.bt
      unfold Boxed at this
      rw [b2] at this
      simp at this
    · subst e
      obtain ⟨es, ck, hm, _⟩ := h.mp
      rw [b2] at hm
      cases hm
set_option maxRecDepth 100000 in
set_option maxHeartbeats 8000000 in
theorem c_Pair {T1 : Nat} {rest1 : Int} {f1 : Int → Int} {U1 : List (List Int)} {ix1 : List Nat} {ob1 oc1 ub1 uc1 : Nat} {T2 : Nat} {rest2 : Int} {f2 : Int → Int} {U2 : List (List Int)} {ix2 : List Nat} {ob2 oc2 ub2 uc2 : Nat}
    (w : World) (h1 : Tab w T1 rest1 f1 U1 ix1 ob1 oc1 ub1 uc1) (h2 : Tab w T2 rest2 f2 U2 ix2 ob2 oc2 ub2 uc2) :
    Calls Try.prog 31 #[.pointer (some ⟨T1, 0, none⟩), .pointer (some ⟨T2, 0, none⟩)] w fun e w' => Ext w w' ∧ ∃ R1 R2, RunsFrom f1 0 1114112 R1 ∧ RunsFrom f2 0 1114112 R2 ∧
      ((256 < (pairOf R1 R2 rest1 rest2).1.length ∧ e = .returned (.tuple #[.pointer none, .slice none 0 0, .int .i64 6])) ∨
       ((pairOf R1 R2 rest1 rest2).1.length ≤ 256 ∧ ∃ T tv, e = .returned (.tuple #[T, tv, .int .i64 0]) ∧ IsTb w' T ((pairOf R1 R2 rest1 rest2).2.2 : Nat) (clsOf (pairOf R1 R2 rest1 rest2).2.1 ((pairOf R1 R2 rest1 rest2).2.2 : Nat)) ∧
         w'.ownsRow w.heap.size 102 2 tv (pairOf R1 R2 rest1 rest2).1.length (twCells (pairOf R1 R2 rest1 rest2).1) ∧ Rise (pairOf R1 R2 rest1 rest2).2.1 ∧ (pairOf R1 R2 rest1 rest2).2.2 ≤ 255)) := by
  obtain ⟨i0, hi0, hz0, hz1, hz2⟩ := info_parts info32p
  go_enter Try.func31, Try.ntmps31
  go_wp2_with fail
  refine (c_all w h1).mono ?_
  rintro e w1 ⟨v1, R1, rfl, hR1, ho1, hx1⟩
  go_wp2_with fail
  refine (c_all w1 (h2.ext hx1)).mono ?_
  rintro e w2 ⟨v2, R2, rfl, hR2, ho2, hx2⟩
  have HR1 := Lib.hid hR1
  have HR2 := Lib.hid hR2
  have hrg1 := (RgRow.of_own ho1).mono hx2
  have hrg2 := RgRow.of_own ho2
  obtain ⟨p1, cap1, rfl⟩ := own_slice ho1
  obtain ⟨p2, cap2, rfl⟩ := own_slice ho2
  have hl1 := hR1.le
  have hl2 := hR2.le
  clear hR1 hR2 ho1 ho2
  go_wp2_with fail
  obtain ⟨wA, hwA⟩ : ∃ wA, wA = ((w2.alloc (.map #[] 0)).alloc (.cells #[.map (some w2.heap.size)] 100)).alloc (.cells #[.slice none 0 0] 56) := ⟨_, rfl⟩
  have hA : wA.heap[w2.heap.size]? = some (Obj.map #[] 0) ∧ wA.heap[w2.heap.size + 1]? = some (Obj.cells #[.map (some w2.heap.size)] 100) ∧ wA.heap[w2.heap.size + 1 + 1]? = some (Obj.cells #[.slice none 0 0] 56) := by
    rw [hwA]
    refine ⟨?_, ?_, ?_⟩ <;> (simp only [heap_alloc_get, World.size_alloc]; repeat first | exact if_pos rfl | exact if_pos trivial | rw [if_neg (by omega)])
  have hxA : Ext w2 wA := by rw [hwA]; exact (((Ext.refl w2).alloc _).alloc _).alloc _
  rw [← hwA]
  clear hwA
  obtain ⟨tb, htb⟩ : ∃ tb, w2.heap.size + 1 + 1 = tb := ⟨_, rfl⟩
  obtain ⟨mb, hmb⟩ : ∃ mb, w2.heap.size + 1 = mb := ⟨_, rfl⟩
  obtain ⟨mf, hmf⟩ : ∃ mf, w2.heap.size = mf := ⟨_, rfl⟩
  rw [htb, hmb] at hA ⊢
  have hn : w2.heap.size ≤ tb ∧ w2.heap.size ≤ mf := by omega
  have hst : TwSt wA w2.heap.size mb mf tb (.slice none 0 0) [] := by
    rw [hmf] at hA
    exact ⟨hA.2.1, hA.2.2, World.ownsRow_nil _ _ _ _, ⟨_, _, hA.1, rfl⟩, by simp, List.nodup_nil, by simp, hn.1, by rw [← hmf]; exact Nat.le_refl _, hxA.sz⟩
  have hf1 := h1.cls
  have hf2 := h2.cls
  have HF1 := Lib.hid hf1
  have HF2 := Lib.hid hf2
  clear htb hmb hmf hA hf1 hf2
  go_loopw [7, 8, 12, 13] (fun xv yv lv kv W => ∃ (i j f : Nat) (lo : Int) (tv : Value) (D : List (Int × Int)) (l : List Rng), kv = .int .i32 lo ∧ RgRow w2 xv (R1.drop i) ∧ RgRow w2 yv (R2.drop j) ∧ (0 ≤ lo ∧ lo ≤ 1114112) ∧ Hid (CurR f1 lo (R1.drop i)) ∧ Hid (CurR f2 lo (R2.drop j)) ∧ Hid (PSt lo D l) ∧ 1114113 ≤ (f : Int) + lo ∧ Hid (pgo f lo (R1.drop i) (R2.drop j) D l = pgo 1114113 0 R1 R2 [] []) ∧ TwSt W w2.heap.size mb mf tb tv D ∧ W.ownsRow w2.heap.size 32 3 lv l.length (rgCells l) ∧ Ext w2 W) (fun _ _ _ kv _ => (1114113 - intOf kv).toNat)
  case atStart => exact ⟨0, 0, 1114113, 0, _, [], [], rfl, by simpa using hrg1, by simpa using hrg2, by omega, Lib.hid (CurR.zero HR1.out), Lib.hid (CurR.zero HR2.out), Lib.hid PSt.zero, by omega, Lib.hid rfl, hst, World.ownsRow_nil _ _ _ _, hxA⟩
  case round =>
    clear hst hxA
    obtain ⟨i, j, f, lo, tv, D, l, rfl, hxr, hyr, hlo, hc1, hc2, hps, hf, hgo, hst, hrow, hx⟩ := hrel
    by_cases hle : lo ≤ 1114111
    · obtain ⟨x, xs, hxs, a1, a2, a3, a4, -⟩ := hc1.out.cons hle
      obtain ⟨y, ys, hys, e1, e2, e3, e4, -⟩ := hc2.out.cons hle
      rw [hxs] at hxr
      rw [hys] at hyr
      have hseg := hps.out.1.le
      have hDl := hps.out.2.2.2
      have hxv := HR1.out.val x (List.mem_of_mem_drop (by rw [hxs]; simp))
      have hyv := HR2.out.val y (List.mem_of_mem_drop (by rw [hys]; simp))
      have hcx := HF1.out x.lo hxv.1 (by omega)
      have hcy := HF2.out y.lo hyv.1 (by omega)
      rw [a4] at hcx
      rw [e4] at hcy
      obtain ⟨b1, o1, k1, rfl, hk1, c0, c1, c2⟩ := (hxr.mono hx).head
      obtain ⟨b2, o2, k2, rfl, hk2, d0, d1, d2⟩ := (hyr.mono hx).head
      have hb1 : b1 < w2.heap.size := by
        obtain ⟨b', o', c', e, _, g0, _⟩ := hxr.head
        cases e
        exact World.block_lt_of_cell? _ _ g0
      have hb2 : b2 < w2.heap.size := by
        obtain ⟨b', o', c', e, _, g0, _⟩ := hyr.head
        cases e
        exact World.block_lt_of_cell? _ _ g0
      obtain ⟨pl, cl, rfl⟩ := own_slice hrow
      have q1 : ∀ w', EOn (fun a => a.block < w2.heap.size) wr w' → w'.cell? ⟨b1, o1 + 1, none⟩ = _ := fun w' hx => hx.cell hb1 c1
      have q2 : ∀ w', EOn (fun a => a.block < w2.heap.size) wr w' → w'.cell? ⟨b2, o2 + 1, none⟩ = _ := fun w' hx => hx.cell hb2 d1
      have m1 : ∀ w', EOn (fun a => a.block < w2.heap.size) wr w' → w'.cell? ⟨b1, o1 + 2, none⟩ = _ := fun w' hx => hx.cell hb1 c2
      have m2 : ∀ w', EOn (fun a => a.block < w2.heap.size) wr w' → w'.cell? ⟨b2, o2 + 2, none⟩ = _ := fun w' hx => hx.cell hb2 d2
      have HXS := Lib.hid hxs
      have HYS := Lib.hid hys
      have HLE := Lib.hid hle
      have hok : OkT (x.cl, y.cl) := ⟨hcx, hcy⟩
      clear hxv hyv hcx hcy a4 e4 hxs hys
      by_cases hlt : y.hi < x.hi
      · have hmn : min x.hi y.hi = y.hi := by omega
        have hne1 : (x.hi == y.hi) = false := beq_false_of_ne (by omega)
        have hhi : (if y.hi < x.hi then y.hi else x.hi) = y.hi := if_pos hlt
        have hd1 : R1.drop i = if x.hi = y.hi then xs else x :: xs := by rw [if_neg (by omega), HXS.out]
        have hd2 : R2.drop (j + 1) = if y.hi = y.hi then ys else y :: ys := by rw [if_pos rfl]; exact drop_next HYS.out
        have HBD := Lib.hid (show lo ≤ y.hi ∧ y.hi ≤ x.hi ∧ y.hi ≤ y.hi by omega)
        have hr1 := Lib.hid (show RgRow w2 _ (R1.drop i) from by rw [HXS.out]; exact hxr)
        have hr2 := Lib.hid (show RgRow w2 (.slice (if k2 = 1 then some ⟨b2, o2, none⟩ else some ⟨b2, o2 + 3, none⟩) ys.length (k2 - 1)) (R2.drop (j + 1)) from by rw [drop_next HYS.out]; exact hyr.tail fun hne => if_neg fun h1 => by have := List.length_pos_iff.2 hne; omega)
        obtain ⟨f', hf'⟩ : ∃ f', f = f' + 1 := ⟨f - 1, by omega⟩
        have hgo2 := Lib.hid (show pgo f' (y.hi + 1) (R1.drop i) (R2.drop (j + 1)) (ins D (x.cl, y.cl)) (l ++ [⟨lo, y.hi, (fnd D (x.cl, y.cl) : Nat)⟩]) = pgo 1114113 0 R1 R2 [] [] from by
          have h0 := hgo.out
          rw [HXS.out, HYS.out, hf', pgo_step HLE.out hhi, ← hd1, ← hd2] at h0
          exact h0)
        have hcur1 := Lib.hid (show CurR f1 (y.hi + 1) (R1.drop i) from by
          rw [hd1]
          exact CurR.next (by have := hc1.out; rw [HXS.out] at this; exact this) HBD.out.1 HBD.out.2.1)
        have hcur2 := Lib.hid (show CurR f2 (y.hi + 1) (R2.drop (j + 1)) from by
          rw [hd2]
          exact CurR.next (by have := hc2.out; rw [HYS.out] at this; exact this) HBD.out.1 HBD.out.2.2)
        have hps2 := Lib.hid (hps.out.step (x.cl, y.cl) (hi := y.hi) HBD.out.1)
        have HFF := Lib.hid hf'
        clear hhi hd1 hd2 hf' hgo hc1 hc2 hps
        go_wp2_with fail
        refine wp_lex ((fun a => a.block < w2.heap.size)) [true, true, true, true, true, true, true, true, true] (by kernel_rfl) (by kernel_rfl) ?_
        repeat first
          | refine wpG_move (by rfl) (by simp only [Act.eval, Array.getD_eq_getD_getElem?, List.getElem?_toArray, List.getElem?_cons_succ, List.getElem?_cons_zero, Option.getD_some]; try rfl) (by simp only [Act.put, List.setIfInBounds_toArray, List.set_cons_succ, List.set_cons_zero]; rfl) ?_
          | refine wpG_assign (by rfl) (by simp only [Act.eval, Array.getD_eq_getD_getElem?, List.getElem?_toArray, List.getElem?_cons_succ, List.getElem?_cons_zero, Option.getD_some]; try rfl) (by simp only [Act.put, List.setIfInBounds_toArray, List.set_cons_succ, List.set_cons_zero]; rfl) ?_
          | refine wpG_val (by rfl) (fun w' hx => (by go_simp; first | (go_bits; first | exact rfl | exact ⟨by omega, rfl⟩) | exact rfl | exact (if_neg (by omega)).trans rfl | exact ⟨by omega, rfl⟩)) (by simp only [Act.put, List.setIfInBounds_toArray, List.set_cons_succ, List.set_cons_zero]; rfl) ?_
          | refine wpG_no (by rfl) (by simp only [Act.put, List.setIfInBounds_toArray, List.set_cons_succ, List.set_cons_zero]; rfl) ?_
        refine wpG_end (fun w3 hx3 => ?_)
        go_wp2_with fail
        refine gQ_normal ?_
        clear q1 q2
        replace m1 := fun w' hx => m1 w' (EOn.trans (EOn.of_ext hx3) hx)
        replace m2 := fun w' hx => m2 w' (EOn.trans (EOn.of_ext hx3) hx)
        replace hrow := ownsRow_ext hrow hx3
        replace hst := hst.ext hx3
        replace hx := Ext.trans hx hx3
        clear hx3
        go_wp2_with fail
        refine wp_lex ((fun a => a.block < w2.heap.size)) [true, true, true, true, true, true, true, true, true, true, true, true, true, false, true, false, false] (by kernel_rfl) (by kernel_rfl) ?_
        repeat first
          | refine wpG_move (by rfl) (by simp only [Act.eval, Array.getD_eq_getD_getElem?, List.getElem?_toArray, List.getElem?_cons_succ, List.getElem?_cons_zero, Option.getD_some]; try rfl) (by simp only [Act.put, List.setIfInBounds_toArray, List.set_cons_succ, List.set_cons_zero]; rfl) ?_
          | refine wpG_assign (by rfl) (by simp only [Act.eval, Array.getD_eq_getD_getElem?, List.getElem?_toArray, List.getElem?_cons_succ, List.getElem?_cons_zero, Option.getD_some]; try rfl) (by simp only [Act.put, List.setIfInBounds_toArray, List.set_cons_succ, List.set_cons_zero]; rfl) ?_
          | refine wpG_val (by rfl) (fun w' hx => (by go_simp; first | (go_bits; first | exact rfl | exact ⟨by omega, rfl⟩) | exact rfl | exact (if_neg (by omega)).trans rfl | exact ⟨by omega, rfl⟩)) (by simp only [Act.put, List.setIfInBounds_toArray, List.set_cons_succ, List.set_cons_zero]; rfl) ?_
          | refine wpG_no (by rfl) (by simp only [Act.put, List.setIfInBounds_toArray, List.set_cons_succ, List.set_cons_zero]; rfl) ?_
        refine wpG_do (by rfl) (fun w4 hx4 K hK => ?_)
        go_wp2_with fail
        have hst4 := hst.ext hx4
        have hrow4 := ownsRow_ext hrow hx4
        refine (c_cls2 (x.cl, y.cl) w4 w2.heap.size mb mf tb tv D hok (by omega) hst4).mono ?_
        rintro e w5 ⟨tv5, rfl, hst5, hkeep, hbel⟩
        have hrow5 := hkeep.row hst4 hrow4
        have hx5 : Ext w2 w5 := Below.trans (Ext.trans hx hx4) hbel
        refine hK _ _ ⟨⟨hbel.size, fun a ha hb => Below.cell hbel ha⟩, ?_⟩
        clear hK m1 m2 hst hrow hx hx4 hst4 hrow4 hkeep hbel
        obtain ⟨cn, hcn⟩ : ∃ cn, fnd D (x.cl, y.cl) = cn := ⟨_, rfl⟩
        have HCN := Lib.hid hcn
        rw [hcn]
        clear hcn
        repeat first
          | refine wpG_move (by rfl) (by simp only [Act.eval, Array.getD_eq_getD_getElem?, List.getElem?_toArray, List.getElem?_cons_succ, List.getElem?_cons_zero, Option.getD_some]; try rfl) (by simp only [Act.put, List.setIfInBounds_toArray, List.set_cons_succ, List.set_cons_zero]; rfl) ?_
          | refine wpG_assign (by rfl) (by simp only [Act.eval, Array.getD_eq_getD_getElem?, List.getElem?_toArray, List.getElem?_cons_succ, List.getElem?_cons_zero, Option.getD_some]; try rfl) (by simp only [Act.put, List.setIfInBounds_toArray, List.set_cons_succ, List.set_cons_zero]; rfl) ?_
          | refine wpG_val (by rfl) (fun w' hx => (by go_simp; first | (go_bits; first | exact rfl | exact ⟨by omega, rfl⟩) | exact rfl | exact (if_neg (by omega)).trans rfl | exact ⟨by omega, rfl⟩)) (by simp only [Act.put, List.setIfInBounds_toArray, List.set_cons_succ, List.set_cons_zero]; rfl) ?_
          | refine wpG_no (by rfl) (by simp only [Act.put, List.setIfInBounds_toArray, List.set_cons_succ, List.set_cons_zero]; rfl) ?_
        refine wpG_do (by rfl) (fun w6 hx6 K hK => ?_)
        go_wp2_with fail
        refine ⟨EOn.of_ext ((Ext.refl w6).alloc _), ?_⟩
        refine wpG_do (by rfl) (fun w7 hx7 K hK => ?_)
        have hx57 : Ext w5 w7 := (hx6.alloc _).trans hx7
        have hnew := hx7.blk (World.alloc_heap_new w6 (.cells #[.int .i32 lo, .int .i32 (y.hi), .int .i64 (cn : Nat)] 32))
        have hrow7 := ownsRow_ext hrow5 hx57
        have hst7 := hst5.ext hx57
        have hxw7 := Ext.trans hx5 hx57
        refine wp_append_own w7 (.tmp 39) (.tmp 54) 25 rfl w2.heap.size 32 i0 (.agg #[.int .i32 0, .int .i32 0, .int .i64 0]) 3 16 Try.underlying25 hi0 hz0 hz1 hz2 rfl (by decide)
          _ l.length (rgCells l) rfl hrow7 ⟨w6.heap.size, 0, none⟩ 1 1 [.int .i32 lo, .int .i32 (y.hi), .int .i64 (cn : Nat)] rfl rfl (World.news_of_block hnew) (by intro u hu; simp at hu; rcases hu with rfl | rfl | rfl <;> rfl) (by unfold maxLen; omega) (by omega) hxw7.sz ?_
        intro v8 w8 hown' hgrow _
        have hst8 := hst7.grown hrow7 hgrow
        have hxw8 : Ext w2 w8 := Below.grown hxw7 hgrow hxw7.sz (fun k e => (hrow7.lt k e).1)
        refine hK _ _ ⟨⟨hgrow.size, fun a ha hb => World.cell?_of_block (hgrow.block a.block hb (fun e => by have := (hrow7.lt a.block e.symm).1; have ha' : a.block < w2.heap.size := ha; omega))⟩, ?_⟩
        have e : rgCells (l ++ [⟨lo, y.hi, (cn : Nat)⟩]) = rgCells l ++ [.int .i32 lo, .int .i32 (y.hi), .int .i64 (cn : Nat)] := by rw [rgCells_append]; rfl
        rw [← e] at hown'
        clear e hK hgrow hrow7 hst7 hxw7 hnew hx57 hx7 hx6 hx5 hst5 hrow5
        refine wpG_end (fun w9 hx9 => ?_)
        have hown9 := ownsRow_ext hown' hx9
        have hst9 := hst8.ext hx9
        have hxw9 := Ext.trans hxw8 hx9
        clear hown' hst8 hxw8 hx9
        go_wp2_with fail
        refine gQ_normal ?_
        obtain ⟨b1', o1', k1', e1', _, c0, c1, c2⟩ := (hxr.mono hxw9).head
        cases e1'
        obtain ⟨b2', o2', k2', e2', _, d0, d1, d2⟩ := (hyr.mono hxw9).head
        cases e2'
        go_wp2_with fail
        exact ⟨⟨i, (j + 1), f', y.hi + 1, tv5, ins D (x.cl, y.cl), l ++ [⟨lo, y.hi, (cn : Nat)⟩], rfl, hr1.out, hr2.out, by have := HBD.out; omega, hcur1, hcur2, Lib.hid (by rw [← HCN.out]; exact hps2.out), by have := HBD.out; have := HFF.out; omega, Lib.hid (by rw [← HCN.out]; exact hgo2.out), hst9, by rw [List.length_append]; exact hown9, hxw9⟩, by have := HBD.out; simp [intOf]; omega⟩
      · by_cases heq : x.hi = y.hi
        · have hmn : min x.hi y.hi = x.hi := by omega
          have hne1 : (y.hi == x.hi) = true := beq_iff_eq.2 heq.symm
          have hhi : (if y.hi < x.hi then y.hi else x.hi) = x.hi := if_neg hlt
          have hd1 : R1.drop (i + 1) = if x.hi = x.hi then xs else x :: xs := by rw [if_pos rfl]; exact drop_next HXS.out
          have hd2 : R2.drop (j + 1) = if y.hi = x.hi then ys else y :: ys := by rw [if_pos heq.symm]; exact drop_next HYS.out
          have HBD := Lib.hid (show lo ≤ x.hi ∧ x.hi ≤ x.hi ∧ x.hi ≤ y.hi by omega)
          have HEQ := Lib.hid heq
          have hr1 := Lib.hid (show RgRow w2 (.slice (if k1 = 1 then some ⟨b1, o1, none⟩ else some ⟨b1, o1 + 3, none⟩) xs.length (k1 - 1)) (R1.drop (i + 1)) from by rw [drop_next HXS.out]; exact hxr.tail fun hne => if_neg fun h1 => by have := List.length_pos_iff.2 hne; omega)
          have hr2 := Lib.hid (show RgRow w2 (.slice (if k2 = 1 then some ⟨b2, o2, none⟩ else some ⟨b2, o2 + 3, none⟩) ys.length (k2 - 1)) (R2.drop (j + 1)) from by rw [drop_next HYS.out]; exact hyr.tail fun hne => if_neg fun h1 => by have := List.length_pos_iff.2 hne; omega)
          clear heq
          obtain ⟨f', hf'⟩ : ∃ f', f = f' + 1 := ⟨f - 1, by omega⟩
          have hgo2 := Lib.hid (show pgo f' (x.hi + 1) (R1.drop (i + 1)) (R2.drop (j + 1)) (ins D (x.cl, y.cl)) (l ++ [⟨lo, x.hi, (fnd D (x.cl, y.cl) : Nat)⟩]) = pgo 1114113 0 R1 R2 [] [] from by
            have h0 := hgo.out
            rw [HXS.out, HYS.out, hf', pgo_step HLE.out hhi, ← hd1, ← hd2] at h0
            exact h0)
          have hcur1 := Lib.hid (show CurR f1 (x.hi + 1) (R1.drop (i + 1)) from by
            rw [hd1]
            exact CurR.next (by have := hc1.out; rw [HXS.out] at this; exact this) HBD.out.1 HBD.out.2.1)
          have hcur2 := Lib.hid (show CurR f2 (x.hi + 1) (R2.drop (j + 1)) from by
            rw [hd2]
            exact CurR.next (by have := hc2.out; rw [HYS.out] at this; exact this) HBD.out.1 HBD.out.2.2)
          have hps2 := Lib.hid (hps.out.step (x.cl, y.cl) (hi := x.hi) HBD.out.1)
          have HFF := Lib.hid hf'
          clear hhi hd1 hd2 hf' hgo hc1 hc2 hps
          go_wp2_with fail
          refine wp_lex ((fun a => a.block < w2.heap.size)) [true, true, true, true, true, true, true, true, true] (by kernel_rfl) (by kernel_rfl) ?_
          repeat first
            | refine wpG_move (by rfl) (by simp only [Act.eval, Array.getD_eq_getD_getElem?, List.getElem?_toArray, List.getElem?_cons_succ, List.getElem?_cons_zero, Option.getD_some]; try rfl) (by simp only [Act.put, List.setIfInBounds_toArray, List.set_cons_succ, List.set_cons_zero]; rfl) ?_
            | refine wpG_assign (by rfl) (by simp only [Act.eval, Array.getD_eq_getD_getElem?, List.getElem?_toArray, List.getElem?_cons_succ, List.getElem?_cons_zero, Option.getD_some]; try rfl) (by simp only [Act.put, List.setIfInBounds_toArray, List.set_cons_succ, List.set_cons_zero]; rfl) ?_
            | refine wpG_val (by rfl) (fun w' hx => (by go_simp; first | (go_bits; first | exact rfl | exact ⟨by omega, rfl⟩) | exact rfl | exact (if_neg (by omega)).trans rfl | exact ⟨by omega, rfl⟩)) (by simp only [Act.put, List.setIfInBounds_toArray, List.set_cons_succ, List.set_cons_zero]; rfl) ?_
            | refine wpG_no (by rfl) (by simp only [Act.put, List.setIfInBounds_toArray, List.set_cons_succ, List.set_cons_zero]; rfl) ?_
          refine wpG_end (fun w3 hx3 => ?_)
          go_wp2_with fail
          refine gQ_normal ?_
          clear q1 q2
          replace m1 := fun w' hx => m1 w' (EOn.trans (EOn.of_ext hx3) hx)
          replace m2 := fun w' hx => m2 w' (EOn.trans (EOn.of_ext hx3) hx)
          replace hrow := ownsRow_ext hrow hx3
          replace hst := hst.ext hx3
          replace hx := Ext.trans hx hx3
          clear hx3
          go_wp2_with fail
          refine wp_lex ((fun a => a.block < w2.heap.size)) [true, true, true, true, true, true, true, true, true, true, true, true, true, false, true, false, false] (by kernel_rfl) (by kernel_rfl) ?_
          repeat first
            | refine wpG_move (by rfl) (by simp only [Act.eval, Array.getD_eq_getD_getElem?, List.getElem?_toArray, List.getElem?_cons_succ, List.getElem?_cons_zero, Option.getD_some]; try rfl) (by simp only [Act.put, List.setIfInBounds_toArray, List.set_cons_succ, List.set_cons_zero]; rfl) ?_
            | refine wpG_assign (by rfl) (by simp only [Act.eval, Array.getD_eq_getD_getElem?, List.getElem?_toArray, List.getElem?_cons_succ, List.getElem?_cons_zero, Option.getD_some]; try rfl) (by simp only [Act.put, List.setIfInBounds_toArray, List.set_cons_succ, List.set_cons_zero]; rfl) ?_
            | refine wpG_val (by rfl) (fun w' hx => (by go_simp; first | (go_bits; first | exact rfl | exact ⟨by omega, rfl⟩) | exact rfl | exact (if_neg (by omega)).trans rfl | exact ⟨by omega, rfl⟩)) (by simp only [Act.put, List.setIfInBounds_toArray, List.set_cons_succ, List.set_cons_zero]; rfl) ?_
            | refine wpG_no (by rfl) (by simp only [Act.put, List.setIfInBounds_toArray, List.set_cons_succ, List.set_cons_zero]; rfl) ?_
          refine wpG_do (by rfl) (fun w4 hx4 K hK => ?_)
          go_wp2_with fail
          have hst4 := hst.ext hx4
          have hrow4 := ownsRow_ext hrow hx4
          refine (c_cls2 (x.cl, y.cl) w4 w2.heap.size mb mf tb tv D hok (by omega) hst4).mono ?_
          rintro e w5 ⟨tv5, rfl, hst5, hkeep, hbel⟩
          have hrow5 := hkeep.row hst4 hrow4
          have hx5 : Ext w2 w5 := Below.trans (Ext.trans hx hx4) hbel
          refine hK _ _ ⟨⟨hbel.size, fun a ha hb => Below.cell hbel ha⟩, ?_⟩
          clear hK m1 m2 hst hrow hx hx4 hst4 hrow4 hkeep hbel
          obtain ⟨cn, hcn⟩ : ∃ cn, fnd D (x.cl, y.cl) = cn := ⟨_, rfl⟩
          have HCN := Lib.hid hcn
          rw [hcn]
          clear hcn
          repeat first
            | refine wpG_move (by rfl) (by simp only [Act.eval, Array.getD_eq_getD_getElem?, List.getElem?_toArray, List.getElem?_cons_succ, List.getElem?_cons_zero, Option.getD_some]; try rfl) (by simp only [Act.put, List.setIfInBounds_toArray, List.set_cons_succ, List.set_cons_zero]; rfl) ?_
            | refine wpG_assign (by rfl) (by simp only [Act.eval, Array.getD_eq_getD_getElem?, List.getElem?_toArray, List.getElem?_cons_succ, List.getElem?_cons_zero, Option.getD_some]; try rfl) (by simp only [Act.put, List.setIfInBounds_toArray, List.set_cons_succ, List.set_cons_zero]; rfl) ?_
            | refine wpG_val (by rfl) (fun w' hx => (by go_simp; first | (go_bits; first | exact rfl | exact ⟨by omega, rfl⟩) | exact rfl | exact (if_neg (by omega)).trans rfl | exact ⟨by omega, rfl⟩)) (by simp only [Act.put, List.setIfInBounds_toArray, List.set_cons_succ, List.set_cons_zero]; rfl) ?_
            | refine wpG_no (by rfl) (by simp only [Act.put, List.setIfInBounds_toArray, List.set_cons_succ, List.set_cons_zero]; rfl) ?_
          refine wpG_do (by rfl) (fun w6 hx6 K hK => ?_)
          go_wp2_with fail
          refine ⟨EOn.of_ext ((Ext.refl w6).alloc _), ?_⟩
          refine wpG_do (by rfl) (fun w7 hx7 K hK => ?_)
          have hx57 : Ext w5 w7 := (hx6.alloc _).trans hx7
          have hnew := hx7.blk (World.alloc_heap_new w6 (.cells #[.int .i32 lo, .int .i32 (x.hi), .int .i64 (cn : Nat)] 32))
          have hrow7 := ownsRow_ext hrow5 hx57
          have hst7 := hst5.ext hx57
          have hxw7 := Ext.trans hx5 hx57
          refine wp_append_own w7 (.tmp 39) (.tmp 54) 25 rfl w2.heap.size 32 i0 (.agg #[.int .i32 0, .int .i32 0, .int .i64 0]) 3 16 Try.underlying25 hi0 hz0 hz1 hz2 rfl (by decide)
            _ l.length (rgCells l) rfl hrow7 ⟨w6.heap.size, 0, none⟩ 1 1 [.int .i32 lo, .int .i32 (x.hi), .int .i64 (cn : Nat)] rfl rfl (World.news_of_block hnew) (by intro u hu; simp at hu; rcases hu with rfl | rfl | rfl <;> rfl) (by unfold maxLen; omega) (by omega) hxw7.sz ?_
          intro v8 w8 hown' hgrow _
          have hst8 := hst7.grown hrow7 hgrow
          have hxw8 : Ext w2 w8 := Below.grown hxw7 hgrow hxw7.sz (fun k e => (hrow7.lt k e).1)
          refine hK _ _ ⟨⟨hgrow.size, fun a ha hb => World.cell?_of_block (hgrow.block a.block hb (fun e => by have := (hrow7.lt a.block e.symm).1; have ha' : a.block < w2.heap.size := ha; omega))⟩, ?_⟩
          have e : rgCells (l ++ [⟨lo, x.hi, (cn : Nat)⟩]) = rgCells l ++ [.int .i32 lo, .int .i32 (x.hi), .int .i64 (cn : Nat)] := by rw [rgCells_append]; rfl
          rw [← e] at hown'
          clear e hK hgrow hrow7 hst7 hxw7 hnew hx57 hx7 hx6 hx5 hst5 hrow5
          refine wpG_end (fun w9 hx9 => ?_)
          have hown9 := ownsRow_ext hown' hx9
          have hst9 := hst8.ext hx9
          have hxw9 := Ext.trans hxw8 hx9
          clear hown' hst8 hxw8 hx9
          go_wp2_with fail
          refine gQ_normal ?_
          obtain ⟨b1', o1', k1', e1', _, c0, c1, c2⟩ := (hxr.mono hxw9).head
          cases e1'
          obtain ⟨b2', o2', k2', e2', _, d0, d1, d2⟩ := (hyr.mono hxw9).head
          cases e2'
          go_wp2_with fail
          exact ⟨⟨(i + 1), (j + 1), f', x.hi + 1, tv5, ins D (x.cl, y.cl), l ++ [⟨lo, x.hi, (cn : Nat)⟩], rfl, hr1.out, hr2.out, by have := HBD.out; omega, hcur1, hcur2, Lib.hid (by rw [← HCN.out]; exact hps2.out), by have := HBD.out; have := HFF.out; omega, Lib.hid (by rw [← HCN.out]; exact hgo2.out), hst9, by rw [List.length_append]; exact hown9, hxw9⟩, by have := HBD.out; simp [intOf]; omega⟩
        · have hmn : min x.hi y.hi = x.hi := by omega
          have hne1 : (y.hi == x.hi) = false := beq_false_of_ne (fun e => heq e.symm)
          have hhi : (if y.hi < x.hi then y.hi else x.hi) = x.hi := if_neg hlt
          have hd1 : R1.drop (i + 1) = if x.hi = x.hi then xs else x :: xs := by rw [if_pos rfl]; exact drop_next HXS.out
          have hd2 : R2.drop j = if y.hi = x.hi then ys else y :: ys := by rw [if_neg (fun e => heq e.symm), HYS.out]
          have HBD := Lib.hid (show lo ≤ x.hi ∧ x.hi ≤ x.hi ∧ x.hi ≤ y.hi by omega)
          have HEQ := Lib.hid heq
          have hr1 := Lib.hid (show RgRow w2 (.slice (if k1 = 1 then some ⟨b1, o1, none⟩ else some ⟨b1, o1 + 3, none⟩) xs.length (k1 - 1)) (R1.drop (i + 1)) from by rw [drop_next HXS.out]; exact hxr.tail fun hne => if_neg fun h1 => by have := List.length_pos_iff.2 hne; omega)
          have hr2 := Lib.hid (show RgRow w2 _ (R2.drop j) from by rw [HYS.out]; exact hyr)
          clear heq
          obtain ⟨f', hf'⟩ : ∃ f', f = f' + 1 := ⟨f - 1, by omega⟩
          have hgo2 := Lib.hid (show pgo f' (x.hi + 1) (R1.drop (i + 1)) (R2.drop j) (ins D (x.cl, y.cl)) (l ++ [⟨lo, x.hi, (fnd D (x.cl, y.cl) : Nat)⟩]) = pgo 1114113 0 R1 R2 [] [] from by
            have h0 := hgo.out
            rw [HXS.out, HYS.out, hf', pgo_step HLE.out hhi, ← hd1, ← hd2] at h0
            exact h0)
          have hcur1 := Lib.hid (show CurR f1 (x.hi + 1) (R1.drop (i + 1)) from by
            rw [hd1]
            exact CurR.next (by have := hc1.out; rw [HXS.out] at this; exact this) HBD.out.1 HBD.out.2.1)
          have hcur2 := Lib.hid (show CurR f2 (x.hi + 1) (R2.drop j) from by
            rw [hd2]
            exact CurR.next (by have := hc2.out; rw [HYS.out] at this; exact this) HBD.out.1 HBD.out.2.2)
          have hps2 := Lib.hid (hps.out.step (x.cl, y.cl) (hi := x.hi) HBD.out.1)
          have HFF := Lib.hid hf'
          clear hhi hd1 hd2 hf' hgo hc1 hc2 hps
          go_wp2_with fail
          refine wp_lex ((fun a => a.block < w2.heap.size)) [true, true, true, true, true, true, true, true, true] (by kernel_rfl) (by kernel_rfl) ?_
          repeat first
            | refine wpG_move (by rfl) (by simp only [Act.eval, Array.getD_eq_getD_getElem?, List.getElem?_toArray, List.getElem?_cons_succ, List.getElem?_cons_zero, Option.getD_some]; try rfl) (by simp only [Act.put, List.setIfInBounds_toArray, List.set_cons_succ, List.set_cons_zero]; rfl) ?_
            | refine wpG_assign (by rfl) (by simp only [Act.eval, Array.getD_eq_getD_getElem?, List.getElem?_toArray, List.getElem?_cons_succ, List.getElem?_cons_zero, Option.getD_some]; try rfl) (by simp only [Act.put, List.setIfInBounds_toArray, List.set_cons_succ, List.set_cons_zero]; rfl) ?_
            | refine wpG_val (by rfl) (fun w' hx => (by go_simp; first | (go_bits; first | exact rfl | exact ⟨by omega, rfl⟩) | exact rfl | exact (if_neg (by omega)).trans rfl | exact ⟨by omega, rfl⟩)) (by simp only [Act.put, List.setIfInBounds_toArray, List.set_cons_succ, List.set_cons_zero]; rfl) ?_
            | refine wpG_no (by rfl) (by simp only [Act.put, List.setIfInBounds_toArray, List.set_cons_succ, List.set_cons_zero]; rfl) ?_
          refine wpG_end (fun w3 hx3 => ?_)
          go_wp2_with fail
          refine gQ_normal ?_
          clear q1 q2
          replace m1 := fun w' hx => m1 w' (EOn.trans (EOn.of_ext hx3) hx)
          replace m2 := fun w' hx => m2 w' (EOn.trans (EOn.of_ext hx3) hx)
          replace hrow := ownsRow_ext hrow hx3
          replace hst := hst.ext hx3
          replace hx := Ext.trans hx hx3
          clear hx3
          go_wp2_with fail
          refine wp_lex ((fun a => a.block < w2.heap.size)) [true, true, true, true, true, true, true, true, true, true, true, true, true, false, true, false, false] (by kernel_rfl) (by kernel_rfl) ?_
          repeat first
            | refine wpG_move (by rfl) (by simp only [Act.eval, Array.getD_eq_getD_getElem?, List.getElem?_toArray, List.getElem?_cons_succ, List.getElem?_cons_zero, Option.getD_some]; try rfl) (by simp only [Act.put, List.setIfInBounds_toArray, List.set_cons_succ, List.set_cons_zero]; rfl) ?_
            | refine wpG_assign (by rfl) (by simp only [Act.eval, Array.getD_eq_getD_getElem?, List.getElem?_toArray, List.getElem?_cons_succ, List.getElem?_cons_zero, Option.getD_some]; try rfl) (by simp only [Act.put, List.setIfInBounds_toArray, List.set_cons_succ, List.set_cons_zero]; rfl) ?_
            | refine wpG_val (by rfl) (fun w' hx => (by go_simp; first | (go_bits; first | exact rfl | exact ⟨by omega, rfl⟩) | exact rfl | exact (if_neg (by omega)).trans rfl | exact ⟨by omega, rfl⟩)) (by simp only [Act.put, List.setIfInBounds_toArray, List.set_cons_succ, List.set_cons_zero]; rfl) ?_
            | refine wpG_no (by rfl) (by simp only [Act.put, List.setIfInBounds_toArray, List.set_cons_succ, List.set_cons_zero]; rfl) ?_
          refine wpG_do (by rfl) (fun w4 hx4 K hK => ?_)
          go_wp2_with fail
          have hst4 := hst.ext hx4
          have hrow4 := ownsRow_ext hrow hx4
          refine (c_cls2 (x.cl, y.cl) w4 w2.heap.size mb mf tb tv D hok (by omega) hst4).mono ?_
          rintro e w5 ⟨tv5, rfl, hst5, hkeep, hbel⟩
          have hrow5 := hkeep.row hst4 hrow4
          have hx5 : Ext w2 w5 := Below.trans (Ext.trans hx hx4) hbel
          refine hK _ _ ⟨⟨hbel.size, fun a ha hb => Below.cell hbel ha⟩, ?_⟩
          clear hK m1 m2 hst hrow hx hx4 hst4 hrow4 hkeep hbel
          obtain ⟨cn, hcn⟩ : ∃ cn, fnd D (x.cl, y.cl) = cn := ⟨_, rfl⟩
          have HCN := Lib.hid hcn
          rw [hcn]
          clear hcn
          repeat first
            | refine wpG_move (by rfl) (by simp only [Act.eval, Array.getD_eq_getD_getElem?, List.getElem?_toArray, List.getElem?_cons_succ, List.getElem?_cons_zero, Option.getD_some]; try rfl) (by simp only [Act.put, List.setIfInBounds_toArray, List.set_cons_succ, List.set_cons_zero]; rfl) ?_
            | refine wpG_assign (by rfl) (by simp only [Act.eval, Array.getD_eq_getD_getElem?, List.getElem?_toArray, List.getElem?_cons_succ, List.getElem?_cons_zero, Option.getD_some]; try rfl) (by simp only [Act.put, List.setIfInBounds_toArray, List.set_cons_succ, List.set_cons_zero]; rfl) ?_
            | refine wpG_val (by rfl) (fun w' hx => (by go_simp; first | (go_bits; first | exact rfl | exact ⟨by omega, rfl⟩) | exact rfl | exact (if_neg (by omega)).trans rfl | exact ⟨by omega, rfl⟩)) (by simp only [Act.put, List.setIfInBounds_toArray, List.set_cons_succ, List.set_cons_zero]; rfl) ?_
            | refine wpG_no (by rfl) (by simp only [Act.put, List.setIfInBounds_toArray, List.set_cons_succ, List.set_cons_zero]; rfl) ?_
          refine wpG_do (by rfl) (fun w6 hx6 K hK => ?_)
          go_wp2_with fail
          refine ⟨EOn.of_ext ((Ext.refl w6).alloc _), ?_⟩
          refine wpG_do (by rfl) (fun w7 hx7 K hK => ?_)
          have hx57 : Ext w5 w7 := (hx6.alloc _).trans hx7
          have hnew := hx7.blk (World.alloc_heap_new w6 (.cells #[.int .i32 lo, .int .i32 (x.hi), .int .i64 (cn : Nat)] 32))
          have hrow7 := ownsRow_ext hrow5 hx57
          have hst7 := hst5.ext hx57
          have hxw7 := Ext.trans hx5 hx57
          refine wp_append_own w7 (.tmp 39) (.tmp 54) 25 rfl w2.heap.size 32 i0 (.agg #[.int .i32 0, .int .i32 0, .int .i64 0]) 3 16 Try.underlying25 hi0 hz0 hz1 hz2 rfl (by decide)
            _ l.length (rgCells l) rfl hrow7 ⟨w6.heap.size, 0, none⟩ 1 1 [.int .i32 lo, .int .i32 (x.hi), .int .i64 (cn : Nat)] rfl rfl (World.news_of_block hnew) (by intro u hu; simp at hu; rcases hu with rfl | rfl | rfl <;> rfl) (by unfold maxLen; omega) (by omega) hxw7.sz ?_
          intro v8 w8 hown' hgrow _
          have hst8 := hst7.grown hrow7 hgrow
          have hxw8 : Ext w2 w8 := Below.grown hxw7 hgrow hxw7.sz (fun k e => (hrow7.lt k e).1)
          refine hK _ _ ⟨⟨hgrow.size, fun a ha hb => World.cell?_of_block (hgrow.block a.block hb (fun e => by have := (hrow7.lt a.block e.symm).1; have ha' : a.block < w2.heap.size := ha; omega))⟩, ?_⟩
          have e : rgCells (l ++ [⟨lo, x.hi, (cn : Nat)⟩]) = rgCells l ++ [.int .i32 lo, .int .i32 (x.hi), .int .i64 (cn : Nat)] := by rw [rgCells_append]; rfl
          rw [← e] at hown'
          clear e hK hgrow hrow7 hst7 hxw7 hnew hx57 hx7 hx6 hx5 hst5 hrow5
          refine wpG_end (fun w9 hx9 => ?_)
          have hown9 := ownsRow_ext hown' hx9
          have hst9 := hst8.ext hx9
          have hxw9 := Ext.trans hxw8 hx9
          clear hown' hst8 hxw8 hx9
          go_wp2_with fail
          refine gQ_normal ?_
          obtain ⟨b1', o1', k1', e1', _, c0, c1, c2⟩ := (hxr.mono hxw9).head
          cases e1'
          obtain ⟨b2', o2', k2', e2', _, d0, d1, d2⟩ := (hyr.mono hxw9).head
          cases e2'
          go_wp2_with fail
          exact ⟨⟨(i + 1), j, f', x.hi + 1, tv5, ins D (x.cl, y.cl), l ++ [⟨lo, x.hi, (cn : Nat)⟩], rfl, hr1.out, hr2.out, by have := HBD.out; omega, hcur1, hcur2, Lib.hid (by rw [← HCN.out]; exact hps2.out), by have := HBD.out; have := HFF.out; omega, Lib.hid (by rw [← HCN.out]; exact hgo2.out), hst9, by rw [List.length_append]; exact hown9, hxw9⟩, by have := HBD.out; simp [intOf]; omega⟩
    · obtain ⟨pl, cl, rfl⟩ := own_slice hrow
      have hpair : pairOf R1 R2 rest1 rest2 = (ins D (rest1, rest2), l, fnd D (rest1, rest2)) := by
        have h0 := hgo.out
        rw [pgo_end hle] at h0
        unfold pairOf
        rw [← h0]
      have HP := Lib.hid hpair
      have HPS := Lib.hid hps.out
      have hDl := hps.out.2.2.2
      have hseg := hps.out.1.le
      have hok : OkT (rest1, rest2) := ⟨h1.r0, h2.r0⟩
      have hT1 : T1 < w2.heap.size := Nat.lt_of_lt_of_le (blk_lt h1.hT) (Ext.trans hx1 hx2).sz
      have hT2 : T2 < w2.heap.size := Nat.lt_of_lt_of_le (blk_lt h2.hT) (Ext.trans hx1 hx2).sz
      have hx0r := Ext.trans (Ext.trans hx1 hx2) hx
      have y0 := cell_blk (h1.ext hx0r).hT 0
      have y1 := cell_blk (h2.ext hx0r).hT 0
      simp only [List.getElem?_toArray, List.getElem?_cons_succ, List.getElem?_cons_zero] at y0 y1
      have m1 : ∀ w', EOn (fun a => a.block < w2.heap.size) wr w' → w'.cell? ⟨T1, 0, none⟩ = _ := fun w' hx => hx.cell hT1 y0
      have m2 : ∀ w', EOn (fun a => a.block < w2.heap.size) wr w' → w'.cell? ⟨T2, 0, none⟩ = _ := fun w' hx => hx.cell hT2 y1
      clear hpair hxr hyr hc1 hc2 hgo hps y0 y1 hrg1 hrg2
      go_wp2_with fail
      refine wp_lex ((fun a => a.block < w2.heap.size)) [true, true, true, true, true, true, true, true, true, true, false, true] (by kernel_rfl) (by kernel_rfl) ?_
      repeat first
        | refine wpG_move (by rfl) (by simp only [Act.eval, Array.getD_eq_getD_getElem?, List.getElem?_toArray, List.getElem?_cons_succ, List.getElem?_cons_zero, Option.getD_some]; try rfl) (by simp only [Act.put, List.setIfInBounds_toArray, List.set_cons_succ, List.set_cons_zero]; rfl) ?_
        | refine wpG_assign (by rfl) (by simp only [Act.eval, Array.getD_eq_getD_getElem?, List.getElem?_toArray, List.getElem?_cons_succ, List.getElem?_cons_zero, Option.getD_some]; try rfl) (by simp only [Act.put, List.setIfInBounds_toArray, List.set_cons_succ, List.set_cons_zero]; rfl) ?_
        | refine wpG_val (by rfl) (fun w' hx => (by go_simp; first | (go_bits; first | exact rfl | exact ⟨by omega, rfl⟩) | exact rfl | exact (if_neg (by omega)).trans rfl | exact ⟨by omega, rfl⟩)) (by simp only [Act.put, List.setIfInBounds_toArray, List.set_cons_succ, List.set_cons_zero]; rfl) ?_
        | refine wpG_no (by rfl) (by simp only [Act.put, List.setIfInBounds_toArray, List.set_cons_succ, List.set_cons_zero]; rfl) ?_
      refine wpG_do (by rfl) (fun w4 hx4 K hK => ?_)
      go_wp2_with fail
      have hst4 := hst.ext hx4
      have hrow4 := ownsRow_ext hrow hx4
      refine (c_cls2 (rest1, rest2) w4 w2.heap.size mb mf tb tv D hok (by omega) hst4).mono ?_
      rintro e w5 ⟨tv5, rfl, hst5, hkeep, hbel⟩
      have hrow5 := hkeep.row hst4 hrow4
      have hx5 : Ext w2 w5 := Below.trans (Ext.trans hx hx4) hbel
      refine hK _ _ ⟨⟨hbel.size, fun a ha hb => Below.cell hbel ha⟩, ?_⟩
      clear hK m1 m2 hst hrow hx hx4 hst4 hrow4 hkeep hbel hx0r
      obtain ⟨cn, hcn⟩ : ∃ cn, fnd D (rest1, rest2) = cn := ⟨_, rfl⟩
      obtain ⟨D', hD'⟩ : ∃ D', ins D (rest1, rest2) = D' := ⟨_, rfl⟩
      have hlens := ins_len D (rest1, rest2)
      rw [hcn, hD'] at hlens
      rw [hcn, hD'] at HP
      rw [hD'] at hst5
      rw [hcn]
      clear hcn hD'
      repeat first
        | refine wpG_move (by rfl) (by simp only [Act.eval, Array.getD_eq_getD_getElem?, List.getElem?_toArray, List.getElem?_cons_succ, List.getElem?_cons_zero, Option.getD_some]; try rfl) (by simp only [Act.put, List.setIfInBounds_toArray, List.set_cons_succ, List.set_cons_zero]; rfl) ?_
        | refine wpG_assign (by rfl) (by simp only [Act.eval, Array.getD_eq_getD_getElem?, List.getElem?_toArray, List.getElem?_cons_succ, List.getElem?_cons_zero, Option.getD_some]; try rfl) (by simp only [Act.put, List.setIfInBounds_toArray, List.set_cons_succ, List.set_cons_zero]; rfl) ?_
        | refine wpG_val (by rfl) (fun w' hx => (by go_simp; first | (go_bits; first | exact rfl | exact ⟨by omega, rfl⟩) | exact rfl | exact (if_neg (by omega)).trans rfl | exact ⟨by omega, rfl⟩)) (by simp only [Act.put, List.setIfInBounds_toArray, List.set_cons_succ, List.set_cons_zero]; rfl) ?_
        | refine wpG_no (by rfl) (by simp only [Act.put, List.setIfInBounds_toArray, List.set_cons_succ, List.set_cons_zero]; rfl) ?_
      refine wpG_end (fun w6 hx6 => wpList_nil (gQ_normal ?_))
      have hst6 := hst5.ext hx6
      have hrow6 := ownsRow_ext hrow5 hx6
      have hx06 : Ext w w6 := Ext.trans (Ext.trans hx1 hx2) (Ext.trans hx5 hx6)
      have hsz2 := (Ext.trans hx1 hx2).sz
      obtain ⟨pt, ct, rfl⟩ := own_slice hst6.row
      have b0 := hst6.bt.cell
      clear hst5 hrow5 hx5 hx6
      by_cases hmany : 256 < D'.length
      · have hmI : (256 : Int) < (D'.length : Nat) := by omega
        go_wp2_with fail
        refine bodyPost_ret (v := .tuple #[.pointer none, .slice none 0 0, .int .i64 6]) (by simp [results, Try.results31, go_sem]) rfl ⟨hx06, R1, R2, HR1.out, HR2.out, .inl ⟨by rw [HP.out]; exact hmany, rfl⟩⟩
      · have hmI : ¬ (256 : Int) < (D'.length : Nat) := by omega
        have hrise := Lib.hid (HPS.out.1.rise (by omega) (by omega) fun z hz => by have := HPS.out.2.2.1 z hz; omega)
        have hrg := RgRow.of_own hrow6
        have t0 : ∀ w', EOn (fun a => a.block = tb) w6 w' → w'.cell? ⟨tb, 0, none⟩ = _ := fun w' hx => hx.cell rfl b0
        go_wp2_with fail
        refine wp_perm ((fun a => a.block = tb)) [0, 1, 3, 2, 4, 5, 6] [true, true, true, false, true, true, true] (by kernel_rfl) (by kernel_rfl) (by simp only [List.map_cons, List.map_nil, nth]; rfl) ?_
        repeat first
          | refine wpG_move (by rfl) (by simp only [Act.eval, Array.getD_eq_getD_getElem?, List.getElem?_toArray, List.getElem?_cons_succ, List.getElem?_cons_zero, Option.getD_some]; try rfl) (by simp only [Act.put, List.setIfInBounds_toArray, List.set_cons_succ, List.set_cons_zero]; rfl) ?_
          | refine wpG_assign (by rfl) (by simp only [Act.eval, Array.getD_eq_getD_getElem?, List.getElem?_toArray, List.getElem?_cons_succ, List.getElem?_cons_zero, Option.getD_some]; try rfl) (by simp only [Act.put, List.setIfInBounds_toArray, List.set_cons_succ, List.set_cons_zero]; rfl) ?_
          | refine wpG_val (by rfl) (fun w' hx => (by go_simp; first | (go_bits; first | exact rfl | exact ⟨by omega, rfl⟩) | exact rfl | exact (if_neg (by omega)).trans rfl | exact ⟨by omega, rfl⟩)) (by simp only [Act.put, List.setIfInBounds_toArray, List.set_cons_succ, List.set_cons_zero]; rfl) ?_
          | refine wpG_no (by rfl) (by simp only [Act.put, List.setIfInBounds_toArray, List.set_cons_succ, List.set_cons_zero]; rfl) ?_
        refine wpG_do (by rfl) (fun w7 hx7 K hK => ?_)
        go_wp2_with fail
        refine (c_of _ l (cn : Nat) w7 (hrg.mono hx7) hrise.out (by omega) (by omega)).mono ?_
        rintro e w8 ⟨T', rfl, ⟨tb', mf', fb', ms', U', ix', cs', hixl, hof⟩, hx8⟩
        obtain ⟨ob', oc', ub', uc', htab'⟩ := hof.tab hixl (by omega)
        refine hK _ _ ⟨EOn.of_ext hx8, ?_⟩
        clear hK hof t0 b0
        repeat first
          | refine wpG_move (by rfl) (by simp only [Act.eval, Array.getD_eq_getD_getElem?, List.getElem?_toArray, List.getElem?_cons_succ, List.getElem?_cons_zero, Option.getD_some]; try rfl) (by simp only [Act.put, List.setIfInBounds_toArray, List.set_cons_succ, List.set_cons_zero]; rfl) ?_
          | refine wpG_assign (by rfl) (by simp only [Act.eval, Array.getD_eq_getD_getElem?, List.getElem?_toArray, List.getElem?_cons_succ, List.getElem?_cons_zero, Option.getD_some]; try rfl) (by simp only [Act.put, List.setIfInBounds_toArray, List.set_cons_succ, List.set_cons_zero]; rfl) ?_
          | refine wpG_val (by rfl) (fun w' hx => (by go_simp; first | (go_bits; first | exact rfl | exact ⟨by omega, rfl⟩) | exact rfl | exact (if_neg (by omega)).trans rfl | exact ⟨by omega, rfl⟩)) (by simp only [Act.put, List.setIfInBounds_toArray, List.set_cons_succ, List.set_cons_zero]; rfl) ?_
          | refine wpG_no (by rfl) (by simp only [Act.put, List.setIfInBounds_toArray, List.set_cons_succ, List.set_cons_zero]; rfl) ?_
        refine wpG_end (fun w9 hx9 => wpList_nil (gQ_normal ?_))
        have hx69 := Ext.trans (Ext.trans hx7 hx8) hx9
        have hrowT := own_lower (ownsRow_ext hst6.row hx69) hsz2
        have htab9 := htab'.ext hx9
        clear hx7 hx8 hx9 hst6 htab'
        go_wp2_with fail
        refine bodyPost_ret (v := .tuple #[.pointer (some ⟨T', 0, none⟩), .slice pt D'.length ct, .int .i64 0]) (by simp [results, Try.results31, go_sem]) rfl ⟨Ext.trans hx06 hx69, R1, R2, HR1.out, HR2.out, .inr ?_⟩
        rw [HP.out]
        exact ⟨by show D'.length ≤ 256; omega, .pointer (some ⟨T', 0, none⟩), _, rfl, ⟨T', U', ix', ob', oc', ub', uc', rfl, htab9⟩, hrowT, hrise.out, by show cn ≤ 255; omega⟩
end Go.Proofs.Ytbbemipidkhmfaa
